/- The law BestOrderBack. -/
import Derived.Test.YtlpbmnmhpknppaaCf8
set_option linter.unusedVariables false
set_option linter.unusedSimpArgs false
namespace Go.Proofs.Ytlpbmnmhpknppaa
open Go.RowKit

theorem changeN_flip {t : List (List Int)} (hi : inC t = true) {m : Nat} (hs : ∀ a b, a < m → b < m → cAt t a b = cAt t b a) {x y : List Int} (hx : ∀ a ∈ x, 0 ≤ a ∧ a < m) (hy : ∀ a ∈ y, 0 ≤ a ∧ a < m) : changeN t x y = changeN t y x := by
  have half : ∀ x y : List Int, (∀ a ∈ x, 0 ≤ a ∧ a < m) → (∀ a ∈ y, 0 ≤ a ∧ a < m) → changeN t x y ≤ changeN t y x := fun x y hx hy => changeN_le (changeN_bd hi y x).1 fun a ha b hb h1 h2 => by
    have e := hs a.toNat b.toNat (by have := hx a ha; omega) (by have := hy b hb; omega)
    rw [e]
    exact changeN_at hb ha h2 h1
  exact Int.le_antisymm (half x y hx hy) (half y x hy hx)
theorem lost_rev {t : List (List Int)} (hi : inC t = true) {m : Nat} (hs : ∀ a b, a < m → b < m → cAt t a b = cAt t b a) {list : List (List Int)} (h1 : 1 ≤ list.length) (h5 : list.length ≤ 5) (hp : ∀ p ∈ list, ∀ a ∈ p, 0 ≤ a ∧ a < m) : lostN t list.reverse = lostN t list := by
  have hf : ∀ x ∈ list, ∀ y ∈ list, changeN t x y = changeN t y x := fun x hx y hy => changeN_flip hi hs (hp x hx) (hp y hy)
  rcases ring_forms h1 h5 with ⟨a, rfl⟩ | ⟨a, b, rfl⟩ | ⟨a, b, c, rfl⟩ | ⟨a, b, c, d, rfl⟩ | ⟨a, b, c, d, e, rfl⟩
  · rfl
  · simp only [List.reverse_cons, List.reverse_nil, List.nil_append, List.cons_append, lost2]; omega
  · have e1 := hf a (by simp) b (by simp)
    have e2 := hf b (by simp) c (by simp)
    have e3 := hf c (by simp) a (by simp)
    simp only [List.reverse_cons, List.reverse_nil, List.nil_append, List.cons_append, lost3]; omega
  · have e1 := hf a (by simp) b (by simp)
    have e2 := hf b (by simp) c (by simp)
    have e3 := hf c (by simp) d (by simp)
    have e4 := hf d (by simp) a (by simp)
    simp only [List.reverse_cons, List.reverse_nil, List.nil_append, List.cons_append, lost4]; omega
  · have e1 := hf a (by simp) b (by simp)
    have e2 := hf b (by simp) c (by simp)
    have e3 := hf c (by simp) d (by simp)
    have e4 := hf d (by simp) e (by simp)
    have e5 := hf e (by simp) a (by simp)
    simp only [List.reverse_cons, List.reverse_nil, List.nil_append, List.cons_append, lost5]; omega
theorem arr_rev (list : List (List Int)) (o : List Int) : arrL list o.reverse = (arrL list o).reverse := by simp [arrL]
theorem rev_at {o : List Int} {n k : Nat} (hl : o.length = n) (hk : k < n) : o.reverse[k]? = o[n - 1 - k]? := by
  rw [List.getElem?_reverse (by omega), hl]

theorem own_keep1 {w w' : World} {base e k n : Nat} {v : Value} {xs : List Value} (h : w.ownsRow base e k v n xs) (hk : ∀ g, v.ownBlock = some g → w'.heap[g]? = w.heap[g]?) : w'.ownsRow base e k v n xs := by
  refine ⟨h.1, ?_⟩
  rcases h.2 with h2 | ⟨g, cap, cur, e1, e2, e3, e4⟩
  · exact .inl h2
  · subst e1
    exact .inr ⟨g, cap, cur, rfl, e2, (hk g rfl).trans e3, e4⟩
/-- Two slices of slices under way side by side; their rows lie in the world wo. -/
def Two (wo w : World) (u v : Value) (j : Nat) (xss yss : List (List Int)) : Prop :=
  ∃ us vs : List Value, w.ownsRow wo.heap.size 35 1 u j us ∧ w.ownsRow wo.heap.size 35 1 v j vs ∧ Rsl wo wo.heap.size ILit us xss ∧ Rsl wo wo.heap.size ILit vs yss ∧ ∀ b, u.ownBlock = some b → v.ownBlock ≠ some b
theorem Two.nil (wo : World) : Two wo ((wo.alloc (.cells #[] 35)).alloc (.cells #[] 35)) (.slice (some ⟨wo.heap.size, 0, none⟩) 0 0) (.slice (some ⟨wo.heap.size + 1, 0, none⟩) 0 0) 0 [] [] :=
  ⟨[], [], own_empty (heap_two0 _ _ _) (Nat.le_refl _), own_empty (heap_two1 _ _ _) (by omega), Rsl.nil _ _ _, Rsl.nil _ _ _, fun b hb => by
    simp [Value.ownBlock] at hb ⊢
    omega⟩
theorem Two.sl2 {wo w : World} {u v : Value} {j : Nat} {xss yss : List (List Int)} (h : Two wo w u v j xss yss) (hb : Below wo.heap.size wo w) : (∃ A c, u = .slice A j c ∧ Sl2 w w.heap.size ILit A j c xss) ∧ ∃ A c, v = .slice A j c ∧ Sl2 w w.heap.size ILit A j c yss := by
  obtain ⟨us, vs, h1, h2, h3, h4, -⟩ := h
  have s1 : Shr w wo.heap.size wo.heap.size 35 ILit u j xss := ⟨us, h1, h3.below hb⟩
  have s2 : Shr w wo.heap.size wo.heap.size 35 ILit v j yss := ⟨vs, h2, h4.below hb⟩
  exact ⟨s1.sl2 hb.size, s2.sl2 hb.size⟩
theorem two_ne {w : World} {base e n : Nat} {u v u8 : Value} {vs : List Value} (h2 : w.ownsRow base e 1 v n vs) (h5 : ∀ b, u.ownBlock = some b → v.ownBlock ≠ some b) (hu8 : u8.ownBlock = u.ownBlock ∨ u8.ownBlock = some (w.heap.size + 1)) : ∀ b, u8.ownBlock = some b → v.ownBlock ≠ some b := fun b hb e2 => by
  rcases hu8 with e | e
  · exact h5 b (e ▸ hb) e2
  · rw [e] at hb
    injection hb with hb
    have := (h2.lt b e2).2
    omega
/-- One row more in each. -/
theorem Two.app {wo w w8 w9 : World} {v u8 v9 : Value} {j : Nat} {xss yss : List (List Int)} {us vs : List Value} {x y : Value} {xs ys : List Int} (h2 : w.ownsRow wo.heap.size 35 1 v j vs) (h3 : Rsl wo wo.heap.size ILit us xss) (h4 : Rsl wo wo.heap.size ILit vs yss)
    (hO8 : w8.ownsRow wo.heap.size 35 1 u8 (j + 1) (us ++ [x])) (hx : Rsl wo wo.heap.size ILit [x] [xs]) (hy : Rsl wo wo.heap.size ILit [y] [ys]) (h58 : ∀ b, u8.ownBlock = some b → v.ownBlock ≠ some b)
    (hO9 : w9.ownsRow wo.heap.size 35 1 v9 (j + 1) (vs ++ [y])) (hg9 : w8.grownBy w9 v.ownBlock) (hv9 : v9.ownBlock = v.ownBlock ∨ v9.ownBlock = some (w8.heap.size + 1)) : Two wo w9 u8 v9 (j + 1) (xss ++ [xs]) (yss ++ [ys]) := by
  refine ⟨us ++ [x], vs ++ [y], own_keep1 hO8 fun g hg => hg9.block g (hO8.lt g hg).2 fun e => h58 g hg e.symm, hO9, h3.app hx, h4.app hy, fun b hb e => ?_⟩
  rcases hv9 with e2 | e2
  · exact h58 b hb (e2 ▸ e)
  · rw [e2] at e
    injection e with e
    have := (hO8.lt b hb).2
    omega

set_option maxHeartbeats 8000000 in
set_option maxRecDepth 100000 in
theorem bestOrderBackLaw_walk (A : Option Addr) (n c : Nat) (bs : List Int) (w : World) (hS : Sl w w.heap.size BLit A n c bs) (hbs : ∀ x ∈ bs, 0 ≤ x ∧ x ≤ 255) :
    Calls Try.prog 14 #[.slice A n c] w fun e w' => e = .returned (.bool true) ∧ Below w.heap.size w w' := by
  obtain ⟨hc0, hc1⟩ := hS.cap
  by_cases hn : 1048576 < n
  · go_enter Try.func14, Try.ntmps14
    go_wp2
    go_ret
    exact ⟨rfl, by (repeat' (first | (with_reducible exact Below.refl _ _) | (with_reducible assumption) | (with_reducible refine Below.alloc ?_ ?_ _) | (with_reducible refine below_plus ?_ ?_ _ _) | (with_reducible refine Below.drew ?_) | (with_reducible refine Below.setCell ?_ ?_ _) | (with_reducible refine below_adv ?_ ?_ _) | go_size | (simp; done) | (simp; omega)))⟩
  · go_enter Try.func14, Try.ntmps14
    go_wp2_with fail
    refine (drawBestOrder_c A n c bs w _ hS (Nat.le_refl _) hbs).mono ?_
    rintro e w1 ⟨A1, m, c1, t, A2, n2, c2, list, rfl, hT1, hL1, hm8, hn2, hpl, hb1⟩
    have hz1 := hb1.size
    obtain ⟨hm0, hm1⟩ := hT1.cap
    obtain ⟨hf0, hf1⟩ := hL1.cap
    clear hS hbs
    have hpl6 : ∀ p ∈ list, p.length ≤ 1048576 := fun p hp => by have := hpl p hp; omega
    have c1' := fun w' (hw : Below w1.heap.size w1 w') => bestOrder_c A1 m c1 t A2 n2 c2 list w' _ (hT1.below hw) (hL1.below hw) hw.size hpl6
    have c2' := fun w' (hw : Below w1.heap.size w1 w') => sBestOrder_c A1 m c1 t A2 n2 c2 list w' _ (hT1.below hw) (hL1.below hw) hw.size hpl6
    cases hr : ringB t list
    · have hE : bestOrdF t list = [] := by simp [bestOrdF, hr]
      rw [hE] at c1' c2'
      have C1 := Lib.hid c1'
      have C2 := Lib.hid c2'
      clear c1' c2' hr hE hT1 hL1 hpl hpl6
      go_wp2_with fail
      refine (C1.out w1 (Below.refl _ _)).mono ?_
      rintro e w2 ⟨A4, n4, c4, rfl, hO2, hb2⟩
      have hz2 := hb2.size
      have hn4 : n4 = 0 := by rw [← hO2.len]; rfl
      subst hn4
      go_wp2_with fail
      refine (C2.out w2 hb2).mono ?_
      rintro e w3 ⟨A5, n5, c5, rfl, hS3, hb3⟩
      have hb13 := hb2.trans (hb3.mono hz2)
      have hz3 := hb13.size
      have hO23 := hO2.below hb3
      have E1 := Lib.hid (equalInts_t A4 0 c4 [] A5 n5 c5 w3 _ _ hO23.sl (Nat.le_refl _) hS3 (Nat.le_refl _))
      clear hb2 hb3 hO2 hS3
      go_wp2_with fail
      refine E1.out.mono ?_
      rintro e w4 ⟨rfl, hb4⟩
      have hb14 := hb13.trans (hb4.mono hz3)
      have hO24 := hO23.below hb4
      clear E1 hO23 hb13 hb4
      go_wp2_with fail
      refine (C2.out w4 hb14).mono ?_
      rintro e w5 ⟨A6, n6, c6, rfl, hS5, hb5⟩
      have hb15 := hb14.trans (hb5.mono hb14.size)
      have E2 := Lib.hid (equalInts_t A4 0 c4 [] A6 n6 c6 w5 _ _ (hO24.below hb5).sl (Nat.le_refl _) hS5 (Nat.le_refl _))
      clear hO24 hS5 hb14 hb5
      go_wp2_with fail
      refine E2.out.mono ?_
      rintro e w6 ⟨rfl, hb6⟩
      go_wp2_with fail
      go_ret
      exact ⟨rfl, hb1.trans ((hb15.trans (hb6.mono hb15.size)).mono hz1)⟩
    · obtain ⟨i1, hj, hj0, hj1, hj2⟩ := info_parts info_rowI
      have hE : bestOrdF t list = bestOrd t list := by simp [bestOrdF, hr]
      obtain ⟨⟨hl1, hl5⟩, -⟩ := ringB_iff.1 hr
      obtain ⟨b1, b2, -, -⟩ := bestOrd_all (t := t) hl1
      rw [hE] at c1' c2'
      obtain ⟨R, hR⟩ : ∃ R, bestOrd t list = R := ⟨_, rfl⟩
      rw [hR] at c1' c2' b1 b2
      have hring := ring_arr hr b1 b2
      have hb1r : isOrd list.length R.reverse := ⟨(List.reverse_perm R).nodup_iff.2 b1.1, fun k hk => b1.2 k (List.mem_reverse.1 hk)⟩
      have hf1' := lostF_arr hr b1 b2
      have hf2' := lostF_arr hr hb1r (by simpa using b2)
      obtain ⟨hok, hic⟩ := ringB_inC hr
      have hsq := (cOk_iff.1 hok).2.2.1
      have hinp := ringB_in hring
      have hrlen := (ringB_iff.1 hring).1
      rw [hT1.len] at hinp
      have hrev : (∀ a b, a < m → b < m → cAt t a b = cAt t b a) → lostF t (arrL list R.reverse) = lostF t (arrL list R) := fun hs => by
        rw [hf1', hf2', arr_rev]
        exact lost_rev hic hs hrlen.1 hrlen.2 hinp
      have hlen := hL1.len
      rw [hlen] at b1 b2 hl1 hl5 hb1r
      have cb := fun (Ax : Option Addr) (cx : Nat) (x : List Int) (hx1 : isOrd n2 x) w' (hw : Below w1.heap.size w1 w') (hx : Sl2 w' w'.heap.size ILit Ax n2 cx (arrL list x)) => lostTime_c A1 m c1 t Ax n2 cx (arrL list x) w' _ ((hT1.below hw).more hw.size) hx (Nat.le_refl _) (fun p hp => hpl6 p (arrL_mem (by rw [hlen]; exact hx1.2) p hp))
      have CB1 := Lib.hid (fun Ax cx => cb Ax cx R b1)
      have CB2 := Lib.hid (fun Ax cx => cb Ax cx R.reverse hb1r)
      have HREV := Lib.hid hrev
      have HSQ := Lib.hid hsq
      have HB1 := Lib.hid b1
      have HRL := Lib.hid b2
      have HT := Lib.hid hT1
      have HTL := Lib.hid hT1.len
      have HL := Lib.hid hL1
      have C1 := Lib.hid c1'
      have C2 := Lib.hid c2'
      clear c1' c2' cb hr hE hT1 hL1 hpl hpl6 b1 b2 hb1r hR hlen hrev hf1' hf2' hring hok hic hsq hinp hrlen
      go_wp2_with fail
      refine (C1.out w1 (Below.refl _ _)).mono ?_
      rintro e w2 ⟨A4, n4, c4, rfl, hO2, hb2⟩
      have hz2 := hb2.size
      have hn4 : n4 = n2 := by rw [← hO2.len]; exact HRL.out
      subst hn4
      obtain ⟨g, hA4⟩ : ∃ g, A4 = some ⟨g, 0, none⟩ := by
        obtain ⟨g, cs, hA, -⟩ := hO2.2.2.2 (by omega)
        exact ⟨g, hA⟩
      subst hA4
      go_wp2_with fail
      refine (C2.out w2 hb2).mono ?_
      rintro e w3 ⟨A5, n5, c5, rfl, hS3, hb3⟩
      have hb13 := hb2.trans (hb3.mono hz2)
      have hz3 := hb13.size
      have hO23 := hO2.below hb3
      have E1 := Lib.hid (equalInts_t _ n4 c4 R A5 n5 c5 w3 _ _ hO23.sl (Nat.le_refl _) hS3 (Nat.le_refl _))
      have hn40 : ((n4 : Int) == 0) = false := by simp; omega
      have hn41 : (n4 == 0) = false := by simp; omega
      clear hb2 hb3 hO2 hS3
      go_wp2_with fail
      refine E1.out.mono ?_
      rintro e w4 ⟨rfl, hb4⟩
      have hb14 := hb13.trans (hb4.mono hz3)
      have hz4 := hb14.size
      have hO4 := (hO23.below hb4).sl
      obtain ⟨hk0, hk1⟩ := hO4.cap
      have HO4 := Lib.hid hO4
      have HT4 := Lib.hid ((HT.out.below hb14).more (B' := w4.heap.size) hz4)
      have HL4 := Lib.hid ((HL.out.below hb14).more (B' := w4.heap.size) hz4)
      have hb04 := hb1.trans (hb14.mono hz1)
      clear E1 hO23 hb13 hb4 hO4
      go_wp2_with fail
      go_loopw [6] (fun i wr => ∃ (k : Nat), k ≤ m ∧ i = .int .i64 k ∧ Hid (∀ a b, a < k → b < m → cAt t a b = cAt t b a) ∧ Below w4.heap.size w4 wr) (fun i _ => m - (intOf i).toNat)
      case atStart => exact ⟨0, by omega, rfl, Lib.hid (fun a b h => by omega), Below.refl _ _⟩
      case round =>
        obtain ⟨k, hk, rfl, hsy, hb⟩ := hrel
        have hzr := hb.size
        by_cases hlt : k < m
        · go_wp2_with fail
          go_loopw [7] (fun i wr2 => ∃ (j : Nat), j ≤ m ∧ i = .int .i64 j ∧ Hid (∀ b, b < j → cAt t k b = cAt t b k) ∧ Below w4.heap.size w4 wr2) (fun i _ => m - (intOf i).toNat)
          case atStart => exact ⟨0, by omega, rfl, Lib.hid (fun b h => by omega), hb⟩
          case round =>
            clear hb hzr
            obtain ⟨j, hj', rfl, hsj, hb⟩ := hrel
            have hzr := hb.size
            by_cases hjm : j < m
            · obtain ⟨b, o, b1, o1, d1, ra, rfl, hbl, hbl1, hra, hral, hrac, hcell, hrow⟩ := (HT4.out.below hb).entry HSQ.out hlt
              obtain ⟨b', o', b3, o3, d3, rb, hA', hbl', hbl3, hrb, hrbl, hrbc, hcell3, hrow3⟩ := (HT4.out.below hb).entry HSQ.out hjm
              injection hA' with hA'
              injection hA' with hA1 hA2
              subst hA1 hA2
              obtain ⟨x, hx⟩ : ∃ x, ra[j]? = some x := ⟨_, List.getElem?_eq_getElem (by omega)⟩
              obtain ⟨y, hy⟩ : ∃ y, rb[k]? = some y := ⟨_, List.getElem?_eq_getElem (by omega)⟩
              have r1 : wr.cell? ⟨b, o + k, none⟩ = some (.slice (some ⟨b1, o1, none⟩) m d1) := hcell
              have r2 : wr.cell? ⟨b1, o1 + j, none⟩ = some (.int .i64 x) := hrow j x hx
              have r3 : wr.cell? ⟨b, o + j, none⟩ = some (.slice (some ⟨b3, o3, none⟩) m d3) := hcell3
              have r4 : wr.cell? ⟨b3, o3 + k, none⟩ = some (.int .i64 y) := hrow3 k y hy
              have hxc := cAt_of hra hx
              have hyc := cAt_of hrb hy
              have q1 : b < wr.heap.size := by omega
              have q2 : b1 < wr.heap.size := by omega
              have q4 : b3 < wr.heap.size := by omega
              have j0 : (0 : Int) ≤ (j : Int) := by omega
              have j1 : (j : Int) < (m : Int) := by omega
              have i0 : (0 : Int) ≤ (k : Int) := by omega
              have i1' : (k : Int) < (m : Int) := by omega
              have HB := Lib.hid hb
              have HSJ : Hid (x = y → ∀ b, b < j + 1 → cAt t k b = cAt t b k) := Lib.hid fun e b hb => by
                rcases Nat.lt_or_ge b j with h | h
                · exact hsj.out b h
                · obtain rfl : b = j := by omega
                  rw [hxc, hyc, e]
              clear hcell hrow hcell3 hrow3 hra hral hrb hrbl hx hy hb hxc hyc
              by_cases hxy : x = y
              · have HN := Lib.hid (HSJ.out hxy)
                subst hxy
                have hxx : (x != x) = false := by simp
                go_wp2_with fail
                refine wp_region_plus (by kernel_rfl) (by kernel_rfl) ?_; (repeat (go_big_quiet_step (fail))); refine wpQuiet_nil ?_; intro _ hw'; obtain ⟨⟨osq, dq⟩, hw''⟩ := hw'; subst hw''
                go_wp2_with fail
                go_roundw
                case rel => exact ⟨j + 1, by omega, by go_num, HN, by have hb := HB.out; (repeat' (first | (with_reducible exact Below.refl _ _) | (with_reducible assumption) | (with_reducible refine Below.alloc ?_ ?_ _) | (with_reducible refine below_plus ?_ ?_ _ _) | (with_reducible refine Below.drew ?_) | (with_reducible refine Below.setCell ?_ ?_ _) | (with_reducible refine below_adv ?_ ?_ _) | go_size | (simp; done) | (simp; omega)))⟩
                case measure => simp [intOf]; omega
              · have hxy2 : (x != y) = true := by simpa using hxy
                have hxy3 : (x == y) = false := by simpa using hxy
                clear HSJ
                go_wp2_with fail
                refine wp_region_plus (by kernel_rfl) (by kernel_rfl) ?_; (repeat (go_big_quiet_step (fail))); refine wpQuiet_nil ?_; intro _ hw'; obtain ⟨⟨osq, dq⟩, hw''⟩ := hw'; subst hw''
                go_wp2_with fail
                go_ret
                exact ⟨rfl, hb04.trans ((by have hb := HB.out; (repeat' (first | (with_reducible exact Below.refl _ _) | (with_reducible assumption) | (with_reducible refine Below.alloc ?_ ?_ _) | (with_reducible refine below_plus ?_ ?_ _ _) | (with_reducible refine Below.drew ?_) | (with_reducible refine Below.setCell ?_ ?_ _) | (with_reducible refine below_adv ?_ ?_ _) | go_size | (simp; done) | (simp; omega))) : Below w4.heap.size w4 _).mono (by omega))⟩
            · obtain rfl : j = m := by omega
              have HN : Hid (∀ a b, a < k + 1 → b < j → cAt t a b = cAt t b a) := Lib.hid fun a b ha hb => by
                rcases Nat.lt_or_ge a k with h | h
                · exact hsy.out a b h hb
                · obtain rfl : a = k := by omega
                  exact hsj.out b hb
              go_wp2_with fail
              go_roundw
              case rel => exact ⟨k + 1, by omega, by go_num, HN, hb⟩
              case measure => simp [intOf]; omega
        · obtain rfl : k = m := by omega
          have hE := HREV.out hsy.out
          obtain ⟨Q, hQ⟩ : ∃ Q, lostF t (arrL list R) = Q := ⟨_, rfl⟩
          rw [hQ] at hE
          have HE1 := Lib.hid hQ
          have HE2 := Lib.hid hE
          have hO5 := (HO4.out.below hb).more hzr
          have hL5 := (HL4.out.below hb).more hzr
          have hb15 := hb14.trans (hb.mono hz4)
          have hb05 := hb04.trans (hb.mono (by omega))
          clear hE hQ
          obtain ⟨wo, rfl⟩ : ∃ wo : World, wo = wr := ⟨_, rfl⟩
          go_wp2_with fail
          go_loopw [8, 9, 10] (fun u v i wr => ∃ (j : Nat), j ≤ n4 ∧ i = .int .i64 j ∧ Two wo wr u v j (arrL list (R.take j)) (arrL list (R.reverse.take j)) ∧ Below wo.heap.size wo wr) (fun _ _ i _ => n4 - (intOf i).toNat)
          case atStart => exact ⟨0, by omega, rfl, Two.nil wo, by (repeat' (first | (with_reducible exact Below.refl _ _) | (with_reducible assumption) | (with_reducible refine Below.alloc ?_ ?_ _) | (with_reducible refine below_plus ?_ ?_ _ _) | (with_reducible refine Below.drew ?_) | (with_reducible refine Below.setCell ?_ ?_ _) | (with_reducible refine below_adv ?_ ?_ _) | go_size | (simp; done) | (simp; omega)))⟩
          case round =>
            clear hb hzr
            obtain ⟨j, hj', rfl, hTw, hb⟩ := hrel
            have hzr := hb.size
            by_cases hlt3 : j < n4
            · obtain ⟨b, o, x, hbo, hbl, hx, hcell⟩ := (hO5.below hb).at_ hlt3
              injection hbo with hbo
              injection hbo with hbo1 hbo2
              subst hbo1 hbo2
              rw [Nat.zero_add] at hcell
              have hjn2 : n4 - 1 - j < n4 := by omega
              obtain ⟨b', o', y, hbo, hbl', hy, hcelly⟩ := (hO5.below hb).at_ hjn2
              injection hbo with hbo
              injection hbo with hbo1 hbo2
              subst hbo1 hbo2
              rw [Nat.zero_add] at hcelly
              obtain ⟨hx0, hx1⟩ := HB1.out.2 x (List.mem_of_getElem? hx)
              obtain ⟨hy0, hy1⟩ := HB1.out.2 y (List.mem_of_getElem? hy)
              obtain ⟨x, rfl⟩ := Int.eq_ofNat_of_zero_le hx0
              obtain ⟨y, rfl⟩ := Int.eq_ofNat_of_zero_le hy0
              obtain ⟨b2, p2, xs, A3, n3, c3, rfl, hbl2, hxs, hcell2, hrow⟩ := hL5.at_ (show x < n4 by omega)
              obtain ⟨b2', p2', ys, A6, n6, c6, hA', -, hys, hcell3, hrow3⟩ := hL5.at_ (show y < n4 by omega)
              injection hA' with hA'
              injection hA' with hA1 hA2
              subst hA1 hA2
              have r1 : wr.cell? ⟨g, j, none⟩ = some (.int .i64 (x : Int)) := hcell
              have r2 : wr.cell? ⟨g, n4 - 1 - j, none⟩ = some (.int .i64 (y : Int)) := hcelly
              have q2 : b2 < wo.heap.size := by omega
              have r3 : wr.cell? ⟨b2, p2 + x, none⟩ = some (.slice A3 n3 c3) := (hb.cell (p := ⟨b2, p2 + x, none⟩) q2).trans hcell2
              have r4 : wr.cell? ⟨b2, p2 + y, none⟩ = some (.slice A6 n6 c6) := (hb.cell (p := ⟨b2, p2 + y, none⟩) q2).trans hcell3
              have HEx := Lib.hid (arr_take list hx (by simpa using hxs))
              have HEy := Lib.hid (arr_take list (show R.reverse[j]? = some (y : Int) by rw [rev_at HRL.out hlt3]; exact hy) (by simpa using hys))
              have HR := Lib.hid (hrow.more (B' := wo.heap.size) (by omega))
              have HR3 := Lib.hid (hrow3.more (B' := wo.heap.size) (by omega))
              have q1 : g < wr.heap.size := by omega
              have q1o : g < wo.heap.size := by omega
              have q2r : b2 < wr.heap.size := by omega
              have j0 : (0 : Int) ≤ (j : Int) := by omega
              have j1 : (j : Int) < (n4 : Int) := by omega
              have j2 : (0 : Int) ≤ (n4 : Int) - 1 - (j : Int) := by omega
              have j3 : (n4 : Int) - 1 - (j : Int) < (n4 : Int) := by omega
              have j4 : ((n4 : Int) - 1 - (j : Int)).toNat = n4 - 1 - j := by omega
              obtain ⟨us, vs, t1, t2, t3, t4, t5⟩ := hTw
              have HT5 := Lib.hid t5
              have HT2 := Lib.hid t2
              clear hcell hcelly hcell2 hx hy hxs hys hrow hrow3 t5 t2
              go_wp2_with (first | (at_builtin; refine wpList_app1_at wo wr rfl (.tmp 73) (.tmp 81) 22 rfl 35 i1 (.slice none 0 0) 24 Try.underlying22 hj hj0 hj1 hj2 rfl (by decide) wo.heap.size _ j _ (by rfl) t1 _ rfl _ (by rfl) rfl (by omega) hb hzr ?_; intro u8 w8 hO8 hb8 hg8 hu8; have hz8 := hb8.size; have t28 := own_keep1 HT2.out fun g' hg' => hg8.block g' (HT2.out.lt g' hg').2 fun e => HT5.out g' e.symm hg'; have t58 := two_ne HT2.out HT5.out hu8; have HG8 := Lib.hid hg8; have q28 := ((hb8.cell (p := ⟨g, n4 - 1 - j, none⟩) q1o).trans (hb.cell (p := ⟨g, n4 - 1 - j, none⟩) q1o).symm).trans r2; have q38 := (hb8.cell (p := ⟨b2, p2 + y, none⟩) q2).trans hcell3; clear hg8) | (at_builtin; refine wpList_app1_at wo w8 rfl (.tmp 83) (.tmp 95) 22 rfl 35 i1 (.slice none 0 0) 24 Try.underlying22 hj hj0 hj1 hj2 rfl (by decide) wo.heap.size _ j _ (by rfl) t28 _ rfl _ (by rfl) rfl (by omega) hb8 hz8 ?_; intro v9 w9 hO9 hb9 hg9 hv9))
              have hN := Two.app t28 t3 t4 hO8 (Rsl.one HR.out) (Rsl.one HR3.out) t58 hO9 hg9 hv9
              rw [← HEx.out, ← HEy.out] at hN
              clear t28 t3 t4 hO8 t58 hO9 hg9 hv9 t1 hb8 hu8 q28 q38
              go_roundw
              case rel => exact ⟨j + 1, by omega, by go_num, hN, hb9⟩
              case measure => simp [intOf]; omega
            · obtain rfl : j = n4 := by omega
              rw [List.take_of_length_le (by rw [HRL.out]; exact Nat.le_refl _), List.take_of_length_le (by rw [List.length_reverse, HRL.out]; exact Nat.le_refl _)] at hTw
              obtain ⟨⟨A7, c7, rfl, hS7⟩, A8, c8, rfl, hS8⟩ := hTw.sl2 hb
              have hb1r := hb15.trans (hb.mono hb15.size)
              have D1 := Lib.hid (CB1.out A7 c7 wr hb1r hS7)
              rw [HE1.out] at D1
              have D2 := Lib.hid (fun w' (hw : Below wr.heap.size wr w') => CB2.out A8 c8 w' (hb1r.trans (hw.mono hb1r.size)) ((hS8.below hw).more hw.size))
              rw [HE2.out] at D2
              clear hTw hS7 hS8
              go_wp2_with fail
              refine D1.out.mono ?_
              rintro e w5 ⟨rfl, hb5⟩
              go_wp2_with fail
              refine (D2.out w5 hb5).mono ?_
              rintro e w6 ⟨rfl, hb6⟩
              go_wp2_with fail
              go_ret
              exact ⟨rfl, (hb05.trans (hb.mono hb05.size)).trans ((hb5.trans (hb6.mono hb5.size)).mono (hb05.trans (hb.mono hb05.size)).size)⟩
end Go.Proofs.Ytlpbmnmhpknppaa
