/- The generators of tables of conflicts: anyTable; inMask. -/
import Derived.Test.YtpngddcdcpepmaaCg2
import Derived.StillTailTactics
set_option linter.unusedVariables false
set_option linter.unusedSimpArgs false
namespace Go.Proofs.Ytpngddcdcpepmaa
open Go.RowKit

theorem Ow2.sl2hi {α : Type} {w : World} {lo hi E2 E n c : Nat} {f : α → Value} {A : Option Addr} {xss : List (List α)} (h : Ow2 w lo hi E2 E f A n c xss) : Sl2 w hi f A n c xss := by
  have hn := h.len
  obtain ⟨vs, h1, h2, h3⟩ := h
  obtain ⟨e1, e2, e3, e4⟩ := h1.sl
  refine ⟨hn, e2, e3, fun hp => ?_⟩
  obtain ⟨b, o, hA, hb, hc⟩ := e4 hp
  refine ⟨b, o, hA, h3 b o (by
    obtain ⟨g, cs, hA', -⟩ := h1.2.2.2 hp
    exact hA), fun j xs hj => ?_⟩
  have hl := (List.getElem?_eq_some_iff.1 hj).1
  have hl2 : j < vs.length := by rw [h2.1]; exact hl
  obtain ⟨A', n', c', f1, f2, f3⟩ := h2.2.1 j vs[j] xs (List.getElem?_eq_getElem hl2) hj
  refine ⟨A', n', c', ?_, ?_⟩
  · rw [hc j vs[j] (List.getElem?_eq_getElem hl2), f1]; rfl
  · obtain ⟨g1, g2, g3, g4⟩ := f2.sl
    refine ⟨g1, g2, g3, fun hp2 => ?_⟩
    obtain ⟨b2, o2, hA2, hb2, hc2⟩ := g4 hp2
    subst hA2
    exact ⟨b2, o2, rfl, (f3 b2 (by rw [f1]; rfl)).2, hc2⟩
theorem Sl2.drop {α : Type} {w : World} {B n c : Nat} {f : α → Value} {A : Option Addr} {xss : List (List α)} (h : Sl2 w B f A n c xss) {k : Nat} (hk : k ≤ n) : Sl2 w B f (if c = k then A else A.map (·.add k)) (n - k) (c - k) (xss.drop k) := by
  obtain ⟨h1, h2, h3, h4⟩ := h
  refine ⟨by rw [List.length_drop, h1], by omega, by omega, fun hn => ?_⟩
  obtain ⟨b, o, rfl, hb, hc⟩ := h4 (by omega)
  rw [if_neg (by omega)]
  refine ⟨b, o + k, ?_, hb, fun j x hx => ?_⟩
  · simp only [Option.map_some, Addr.add_lit]
  · rw [List.getElem?_drop] at hx
    obtain ⟨A', n', c', e1, e2⟩ := hc _ _ hx
    exact ⟨A', n', c', by rwa [← Nat.add_assoc] at e1, e2⟩

/-- A table that reads so in every world in which the blocks from lo on stand. -/
def Kept2 {α : Type} (w : World) (lo : Nat) (f : α → Value) (A : Option Addr) (n c : Nat) (t : List (List α)) : Prop :=
  ∀ w', (∀ b, lo ≤ b → b < w.heap.size → w'.heap[b]? = w.heap[b]?) → Sl2 w' w.heap.size f A n c t
theorem Ow2.kept2 {α : Type} {w : World} {lo hi E2 E n c : Nat} {f : α → Value} {A : Option Addr} {xss : List (List α)} (h : Ow2 w lo hi E2 E f A n c xss) (hh : hi ≤ w.heap.size) : Kept2 w lo f A n c xss := fun w' hw =>
  ((h.keep fun b h1 _ h3 => hw b h1 h3).sl2hi).more hh
theorem Kept2.drop {α : Type} {w : World} {lo n c : Nat} {f : α → Value} {A : Option Addr} {xss : List (List α)} (h : Kept2 w lo f A n c xss) {k : Nat} (hk : k ≤ n) : Kept2 w lo f (if c = k then A else A.map (·.add k)) (n - k) (c - k) (xss.drop k) := fun w' hw => (h w' hw).drop hk
theorem Kept2.here {α : Type} {w : World} {lo n c : Nat} {f : α → Value} {A : Option Addr} {xss : List (List α)} (h : Kept2 w lo f A n c xss) : Sl2 w w.heap.size f A n c xss := h w fun _ _ _ => rfl
theorem Kept2.len {α : Type} {w : World} {lo n c : Nat} {f : α → Value} {A : Option Addr} {xss : List (List α)} (h : Kept2 w lo f A n c xss) : xss.length = n := h.here.len

theorem Ow.setB {w : World} {base E n c g j : Nat} {xs : List Bool} {x : Bool} (h : Ow w base E OLit (some ⟨g, 0, none⟩) n c xs) (hj : j < n) : Ow (w.setCell ⟨g, j, none⟩ (.bool x)) base E OLit (some ⟨g, 0, none⟩) n c (xs.set j x) := by
  obtain ⟨h1, h2, h3, h4⟩ := h
  refine ⟨by simpa using h1, h2, h3, fun hn => ?_⟩
  obtain ⟨g', cs, hA, hb, hh, hc⟩ := h4 hn
  injection hA with hA
  injection hA with hA
  subst hA
  refine ⟨g, _, rfl, hb, heap_setCell_same w g j cs _ _ hh, fun k y hy => ?_⟩
  rw [Array.getElem?_setIfInBounds]
  have hjx : j < xs.length := by omega
  have hjc : j < cs.size := by
    have := hc j xs[j] (List.getElem?_eq_getElem hjx)
    exact (Array.getElem?_eq_some_iff.1 this).1
  rw [List.getElem?_set] at hy
  by_cases hk : j = k
  · subst hk
    rw [if_pos rfl, if_pos hjx] at hy
    injection hy with hy
    subst hy
    rw [if_pos rfl, if_pos hjc]; rfl
  · rw [if_neg hk] at hy ⊢
    exact hc k y hy


/-- A row of a slice of slices of the call's own: its cells, and what a store into it leaves. -/
theorem Ow2.rowB {w : World} {lo hi E2 E n c j : Nat} {A : Option Addr} {xss : List (List Bool)} (h : Ow2 w lo hi E2 E OLit A n c xss) (hne : E ≠ E2) (hhi : hi ≤ w.heap.size) {xs : List Bool} (hx : xss[j]? = some xs) (hp : 0 < xs.length) :
    ∃ g gj cj, A = some ⟨g, 0, none⟩ ∧ lo ≤ g ∧ g < w.heap.size ∧ lo ≤ gj ∧ gj < w.heap.size ∧ g ≠ gj ∧ xs.length ≤ cj ∧ w.cell? ⟨g, j, none⟩ = some (.slice (some ⟨gj, 0, none⟩) xs.length cj) ∧
      (∀ k x, xs[k]? = some x → w.cell? ⟨gj, k, none⟩ = some (.bool x)) ∧ (∀ k, w.frozen? ⟨gj, k, none⟩ = false) ∧
      ∀ k x, k < xs.length → Ow2 (w.setCell ⟨gj, k, none⟩ (.bool x)) lo hi E2 E OLit A n c (xss.set j (xs.set k x)) := by
  have hlen := h.len
  obtain ⟨vs, h1, h2, h3⟩ := h
  have hj := (List.getElem?_eq_some_iff.1 hx).1
  obtain ⟨g, cs, rfl, hg1, hg2, hg3⟩ := h1.2.2.2 (by omega)
  obtain ⟨v, hv⟩ : ∃ v, vs[j]? = some v := ⟨_, List.getElem?_eq_getElem (by rw [h2.1]; exact hj)⟩
  obtain ⟨xs', A', n', c', hx', rfl, hO, hbl⟩ := h2.at_ hv
  have hxx : xs' = xs := by rw [hx] at hx'; injection hx' with hx'; exact hx'.symm
  subst hxx
  have hn' : n' = xs'.length := hO.len.symm
  subst hn'
  obtain ⟨gj, ds, rfl, hj1, hj2, hj3⟩ := hO.2.2.2 hp
  have hne2 : g ≠ gj := fun e => by
    subst e
    rw [hg2] at hj2
    injection hj2 with hj2
    injection hj2 with _ hj2
    exact hne hj2.symm
  refine ⟨g, gj, c', rfl, hg1, lt_of_heap hg2, hj1, lt_of_heap hj2, hne2, hO.2.1, by rw [cell_of_row w g j cs _ _ hg2]; exact hg3 j _ hv, fun k x hk => by rw [cell_of_row w gj k ds _ _ hj2]; exact hj3 k x hk, fun k => by simp [World.frozen?, hj2], fun k x hk => ?_⟩
  have hset := hO.setB (j := k) (x := x) hk
  refine ⟨vs, h1.keep fun b hb hb2 hA => ?_, ?_, h3⟩
  · injection hA with hA
    injection hA with hA
    subst hA
    exact Below.heap_setCell w _ _ _ hne2
  · refine h2.set (w' := w.setCell ⟨gj, k, none⟩ (.bool x)) hv hset (fun b hb hbn => Below.heap_setCell w _ _ b (fun e => hbn ?_)) (fun b _ hb => by omega)
    simp only at e
    subst e; rfl
theorem Ow2.storeB {w : World} {lo hi E2 E n c j g gj m cj k : Nat} {xss : List (List Bool)} (h : Ow2 w lo hi E2 E OLit (some ⟨g, 0, none⟩) n c xss) (hne : E ≠ E2) (hhi : hi ≤ w.heap.size) {xs : List Bool} (hx : xss[j]? = some xs) (hk : k < xs.length)
    (hc : w.cell? ⟨g, j, none⟩ = some (.slice (some ⟨gj, 0, none⟩) m cj)) (x : Bool) : Ow2 (w.setCell ⟨gj, k, none⟩ (.bool x)) lo hi E2 E OLit (some ⟨g, 0, none⟩) n c (xss.set j (xs.set k x)) := by
  obtain ⟨g', gj', cj', hA, -, -, -, -, -, -, cell1, -, -, hset⟩ := h.rowB hne hhi hx (by omega)
  injection hA with hA
  injection hA with hA
  subst hA
  rw [hc] at cell1
  injection cell1 with e
  injection e with e _ _
  injection e with e
  injection e with e
  subst e
  exact hset k x hk

def TableOf (w : World) (r p : Nat) (e : Ending) (w' : World) : Prop :=
  ∃ A n c q t, e = .returned (.slice A n c) ∧ Kept2 w' w.heap.size OLit A n c t ∧ n ≤ 8 ∧ q ≤ p + 300 ∧ Below w.heap.size (adv w r q) w'

set_option maxHeartbeats 4000000 in
theorem anyTable_c (w : World) (r n c p : Nat) (A : Option Addr) (bs : List Int) (hR : Rd w r A n c bs p) (hp : p ≤ 300000) :
    Calls Try.prog 23 #[.pointer (some ⟨r, 0, none⟩)] w (TableOf w r p) := by
  have hlt := hR.lt
  go_enter Try.func23, Try.ntmps23
  go_wp2_with fail
  refine (one_lit_c _ r n c (p) A bs _ _ _ _ [4, 5, 3, 6, 2, 1, 8] (by rfl) (by rfl) (by decide) (by decide) (by (repeat' (first | (with_reducible exact hR) | (with_reducible exact RdX.of hR) | (with_reducible refine Rd.alloc ?_ _) | (with_reducible refine Rd.plus ?_ _ _) | (with_reducible refine Rd.drew ?_) | (with_reducible refine RdX.to ?_ _) | (with_reducible refine RdX.alloc ?_ _) | (with_reducible refine RdX.plus ?_ _ _) | (with_reducible refine RdX.adv ?_ _)))) (by omega) (by first | rfl | (simp; done) | (simp; omega))).mono ?_; rintro e w1 ⟨x1, hx1, rfl, os1, d1, rfl⟩
  have hx : 1 ≤ x1 ∧ x1 ≤ 8 := by simp at hx1; omega
  clear hx1
  obtain ⟨hx0, hx8⟩ := hx
  obtain ⟨m, rfl⟩ := Int.eq_ofNat_of_zero_le (show 0 ≤ x1 by omega)
  obtain ⟨w1, hw1⟩ : ∃ w1, plus (adv (w.alloc (.cells #[.int .i64 4, .int .i64 5, .int .i64 3, .int .i64 6, .int .i64 2, .int .i64 1, .int .i64 8] 3)) r (p + 1)) os1 d1 = w1 := ⟨_, rfl⟩
  have hb1 : Below w.heap.size (adv w r (p + 1)) w1 := by
    rw [← hw1, adv_alloc _ _ _ _ hlt]
    (repeat' (first | (with_reducible exact Below.refl _ _) | (with_reducible assumption) | (with_reducible refine Below.alloc ?_ ?_ _) | (with_reducible refine below_plus ?_ ?_ _ _) | (with_reducible refine Below.drew ?_) | (with_reducible refine Below.setCell ?_ ?_ _) | (with_reducible refine below_adv ?_ ?_ _) | go_size | (simp; done) | (simp; omega)))
  have hR1 := (hR.adv (p + 1)).below hb1 hlt
  have hz1 := hb1.size
  rw [size_adv] at hz1
  have hl1 := hR1.lt
  rw [hw1]
  clear hw1
  go_wp2_with fail
  refine (randomClear_c w1 r n c (p + 1) A bs m hR1 (by omega) (by omega) (by omega)).mono ?_
  rintro e w2 ⟨A2, c2, q2, t, rfl, hO2, hM, hq2, hb2⟩
  have hz2 := hb2.size
  rw [size_adv] at hz2
  have hb02 := (below_adv2 hb1 q2).trans (hb2.mono hz1)
  have hok := hM.ok (by omega) (by omega)
  have cc := sConflictsOf_c A2 m c2 t w2 _ hO2.sl2 (Nat.le_refl _)
  rw [confF_yes hok] at cc
  have hT := conf_ok hok
  have htl : (conf t).length = m := by rw [conf_len, hM.1]
  obtain ⟨T, hTT⟩ : ∃ T, conf t = T := ⟨_, rfl⟩
  rw [hTT] at cc hT htl
  have CC := Lib.hid cc
  have HT := Lib.hid hT
  have HTL := Lib.hid htl
  clear hb1 hb2 hO2 hM hok cc hT htl hTT
  go_wp2_with fail
  refine CC.out.mono ?_
  rintro e w3 ⟨A3, n3, c3, rfl, hO3, hb3⟩
  have hn3 := hO3.len
  rw [HTL.out] at hn3
  subst hn3
  have hz3 := hb3.size
  have hb03 := hb02.trans (hb3.mono (by omega))
  clear CC hb02 hb3
  go_wp2_with fail
  refine (pick_g w w3 r n c p q2 A bs 24 hR hb03 (by omega)).mono ?_
  rintro e w4 ⟨k, -, rfl, hb4, hg4⟩
  have hz4 : w3.heap.size ≤ w4.heap.size := by have := hg4.size; rw [size_adv] at this; exact this
  have hO4 : Ow2 w4 w2.heap.size w3.heap.size 31 4 OLit A3 m c3 T := hO3.keep fun b' h1 _ h2 => (hg4.block b' h2).trans (heap_adv _ _ _ _ (by omega))
  have hK4 := (hO4.less (lo' := w.heap.size) (by omega)).kept2 (by omega)
  obtain ⟨hcc0, hcc1⟩ := hO4.cap
  clear hO3 hg4 hb03
  by_cases k0 : k = 0
  · subst k0
    obtain ⟨r0, hr0⟩ : ∃ r0, T[0]? = some r0 := ⟨_, List.getElem?_eq_getElem (by rw [HTL.out]; omega)⟩
    have hrl : r0.length = m := by rw [sqB_all (tOk_iff.1 HT.out).2.2.1 hr0, HTL.out]
    obtain ⟨g, ga, ca, rfl, hg0, hgl, hga0, hgal, hne, hca, cell1, celle, frz, hset⟩ := hO4.rowB (by decide) (by omega) hr0 (by omega)
    obtain ⟨y, hy⟩ : ∃ y, r0[0]? = some y := ⟨_, List.getElem?_eq_getElem (by omega)⟩
    have cell2 := celle 0 y hy
    have frz2 := frz 0
    have hO5 := hset 0 true (by omega)
    have hK5 := (hO5.less (lo' := w.heap.size) (by omega)).kept2 (by simp [World.setCell]; omega)
    rw [hrl] at cell1 hca
    have HK := Lib.hid hK5
    have hm0 : (0 : Int) < (m : Int) := by omega
    have hb5 := hb4.setCell (p := ⟨ga, 0, none⟩) (show w.heap.size ≤ ga by omega) (.bool true)
    clear hO4 hK4 hr0 hrl celle frz hset hy hO5 hK5
    go_wp2_with fail
    go_ret
    exact ⟨_, _, _, q2 + 1, _, rfl, HK.out, by omega, by omega, hb5⟩
  · by_cases k1 : k = 1
    · subst k1
      obtain ⟨m', rfl⟩ : ∃ m', m = m' + 1 := ⟨m - 1, by omega⟩
      obtain ⟨r0, hr0⟩ : ∃ r0, T[m']? = some r0 := ⟨_, List.getElem?_eq_getElem (by rw [HTL.out]; omega)⟩
      have hrl : r0.length = m' + 1 := by rw [sqB_all (tOk_iff.1 HT.out).2.2.1 hr0, HTL.out]
      obtain ⟨g, ga, ca, rfl, hg0, hgl, hga0, hgal, hne, hca, cell1, celle, frz, hset⟩ := hO4.rowB (by decide) (by omega) hr0 (by omega)
      obtain ⟨y, hy⟩ : ∃ y, r0[0]? = some y := ⟨_, List.getElem?_eq_getElem (by omega)⟩
      have cell2 := celle 0 y hy
      have frz2 := frz 0
      have hO5 := hset 0 (!y) (by omega)
      have hK5 := (hO5.less (lo' := w.heap.size) (by omega)).kept2 (by simp [World.setCell]; omega)
      rw [hrl] at cell1 hca
      have HK := Lib.hid hK5
      have hm0 : (0 : Int) < ((m' : Int) + 1) := by omega
      have hm2 : ((m' : Int) + 1) - 1 = (m' : Int) := by omega
      have hb5 := hb4.setCell (p := ⟨ga, 0, none⟩) (show w.heap.size ≤ ga by omega) (.bool (!y))
      clear hO4 hK4 hr0 hrl celle frz hset hy hO5 hK5
      go_wp2_with fail
      have n1 : (0 : Int) ≤ (m' : Int) := by omega
      have n2 : (m' : Int) < (m' : Int) + 1 := by omega
      have n3 : IntKind.i64.wrap (m' : Int) = (m' : Int) := IntWalk.i64_in _ (by omega)
      go_still_tail 16, (by kernel_rfl)
      change wpList _ _ _ _ _ w4.drew
      clear n1 n2 n3
      go_wp2_with fail
      go_ret
      exact ⟨_, _, _, q2 + 1, _, rfl, HK.out, by omega, by omega, hb5.drew⟩
    · by_cases k2 : k = 2
      · subst k2
        have hd := hK4.drop (k := 1) (by omega)
        have hA3 : ∃ g, A3 = some ⟨g, 0, none⟩ := by
          obtain ⟨vs, h1, -, -⟩ := hO4
          obtain ⟨g, cs, hA, -⟩ := h1.2.2.2 (by omega)
          exact ⟨g, hA⟩
        obtain ⟨g, rfl⟩ := hA3
        by_cases hc1 : c3 = 1
        · rw [if_pos hc1] at hd
          rw [hc1] at hd
          have HD := Lib.hid hd
          clear hd hO4 hK4
          go_wp2_with fail
          go_ret
          exact ⟨_, _, _, q2 + 1, _, rfl, by simpa [hc1] using HD.out, by omega, by omega, hb4⟩
        · rw [if_neg hc1] at hd
          have HD := Lib.hid hd
          clear hd hO4 hK4
          go_wp2_with fail
          go_ret
          exact ⟨_, _, _, q2 + 1, _, rfl, HD.out, by omega, by omega, hb4⟩
      · have k0' : (k == 0) = false := by simpa using k0
        have k1' : (k == 1) = false := by simpa using k1
        have k2' : (k == 2) = false := by simpa using k2
        have HK := Lib.hid hK4
        clear hO4 hK4 k0 k1 k2
        go_wp2_with fail
        go_ret
        exact ⟨_, _, _, q2 + 1, _, rfl, HK.out, by omega, by omega, hb4⟩
end Go.Proofs.Ytpngddcdcpepmaa
