/- The law CycleOfTwice. -/
import Derived.Test.YtpihjabmllcldaaQb2
import Derived.Test.YtpihjabmllcldaaBb
set_option linter.unusedVariables false
set_option linter.unusedSimpArgs false
namespace Go.Proofs.Ytpihjabmllcldaa
open Go.RowKit

/-- A whole row of two-cell elements appended to the call's own. -/
theorem step_app2 {P : Program} (w0 w : World) {ops : Array Oper} {o : Oper} {a : Act} {K : Act → World → Prop} {Q : Exit → Act → World → Prop} {E : Prop} (hgd : o.guard = none) (s x : Operand) (t : TypeId)
    (ho : o.op = .call { callee := .builtin .append, args := #[s, x], argTypes := #[t, t] })
    (e : TypeId) (i : TypeInfo) (z : Value) (bytes : Nat) (ht : P.underlying t = some (.slice e)) (hi : P.info? e = some i) (hz : i.zero = some z) (hsize : i.size = 2) (hby : i.bytes = bytes) (hzs : z.cells.size = 2) (hbb : bytes ≤ 64)
    (base : Nat) (v : Value) (n : Nat) (xs : List Value) (hs : a.eval s = v) (hown : w.ownsRow base e 2 v n xs)
    (b p m c : Nat) (us : List Value) (hx : a.eval x = .slice (some ⟨b, p, none⟩) m c) (hl : us.length = m * 2) (hcs : ∀ j u, us[j]? = some u → w.cell? ⟨b, p + j, none⟩ = some u) (h1 : ∀ u ∈ us, u.oneCell' = true)
    (hn : n ≤ 1099511627776) (hm : m ≤ 1099511627776) (hb : Below base w0 w) (hB : base ≤ w.heap.size)
    (h : ∀ v' w1, w1.ownsRow base e 2 v' (n + m) (xs ++ us) → Below base w0 w1 → w.grownBy w1 v.ownBlock → K (a.put o.dst v') w1) :
    if Region.wanted o (yielded ops a.tmps) = true then Oper.wp P o a w K Q else E := by
  rw [if_pos (by simp [Region.wanted, hgd])]
  refine wp_append_own w s x t ho base e i z 2 bytes ht hi hz hsize hby hzs (by decide) v n xs hs hown ⟨b, p, none⟩ m c us hx hl ?_ h1 (by unfold maxLen; omega) ?_ hB ?_
  · intro j y hj
    rw [Addr.add_lit]; exact hcs j y hj
  · have : (n + m) * bytes ≤ (1099511627776 + 1099511627776) * 64 := Nat.mul_le_mul (by omega) hbb
    omega
  · intro v' w1 k1 k2 _
    exact h v' w1 k1 (hb.grown k2 hB fun k hk => (hown.lt k hk).1) k2
theorem fl_app (xs ys : List ((Option Addr × Nat × Nat) × Int)) : fl (xs ++ ys) = fl xs ++ fl ys := by simp [fl]
theorem fl_one (xs : List ((Option Addr × Nat × Nat) × Int)) : ∀ u ∈ fl xs, u.oneCell' = true := fun u hu => by
  simp only [fl, List.mem_flatMap] at hu
  obtain ⟨x, -, hu⟩ := hu
  simp only [List.mem_cons, List.not_mem_nil, or_false] at hu
  rcases hu with rfl | rfl <;> rfl
/-- The stages' own cells. -/
theorem SlS.flat {w : World} {B n c : Nat} {A : Option Addr} {ss : List (List Int × Int)} (h : SlS w B A n c ss) (hn : 0 < n) : ∃ b o xs, A = some ⟨b, o, none⟩ ∧ b < B ∧ xs.length = n ∧ (∀ j u, (fl xs)[j]? = some u → w.cell? ⟨b, o + j, none⟩ = some u) ∧
    ∀ (j : Nat) (x : (Option Addr × Nat × Nat) × Int) (s : List Int × Int), xs[j]? = some x → ss[j]? = some s → x.2 = s.2 ∧ Sl w B ILit x.1.1 x.1.2.1 x.1.2.2 s.1 := by
  obtain ⟨h1, h2, h3, h4⟩ := h
  obtain ⟨b, o, hA, hb, hc⟩ := h4 hn
  have hstep : ∀ k, k ≤ n → ∃ xs : List ((Option Addr × Nat × Nat) × Int), xs.length = k ∧ (∀ j x s, xs[j]? = some x → ss[j]? = some s → w.cell? ⟨b, o + j * 2, none⟩ = some (SLit x.1) ∧ w.cell? ⟨b, o + j * 2 + 1, none⟩ = some (.int .i64 x.2) ∧ x.2 = s.2 ∧ Sl w B ILit x.1.1 x.1.2.1 x.1.2.2 s.1) := by
    intro k
    induction k with
    | zero => intro _; exact ⟨[], rfl, fun j x s hx => by simp at hx⟩
    | succ k ih =>
      intro hk
      obtain ⟨xs, e1, e2⟩ := ih (by omega)
      have hkl : k < ss.length := by omega
      obtain ⟨A', n', c', f1, f2, f3⟩ := hc k ss[k] (List.getElem?_eq_getElem hkl)
      refine ⟨xs ++ [((A', n', c'), ss[k].2)], by simp [e1], fun j x s hx hs => ?_⟩
      rcases Nat.lt_or_ge j k with hl | hl
      · rw [List.getElem?_append_left (by omega)] at hx
        exact e2 j x s hx hs
      · have hj : j = k := by
          have := (List.getElem?_eq_some_iff.1 hx).1
          simp at this; omega
        subst hj
        rw [List.getElem?_append_right (by omega), e1, Nat.sub_self] at hx
        simp at hx
        rw [List.getElem?_eq_getElem hkl] at hs
        injection hs with hs
        subst hx hs
        exact ⟨f1, f2, rfl, f3⟩
  obtain ⟨xs, e1, e2⟩ := hstep n (Nat.le_refl _)
  refine ⟨b, o, xs, hA, hb, e1, fun j u hu => ?_, fun j x s hx hs => ⟨(e2 j x s hx hs).2.2.1, (e2 j x s hx hs).2.2.2⟩⟩
  have hj2 : j < xs.length * 2 := by
    have := (List.getElem?_eq_some_iff.1 hu).1
    rwa [fl_len] at this
  have hpar : (∃ q, j = q * 2) ∨ ∃ q, j = q * 2 + 1 := by
    rcases Nat.mod_two_eq_zero_or_one j with h | h
    · exact .inl ⟨j / 2, by omega⟩
    · exact .inr ⟨j / 2, by omega⟩
  rcases hpar with ⟨q, rfl⟩ | ⟨q, rfl⟩
  all_goals
    have hq : q < xs.length := by omega
    obtain ⟨g1, g2⟩ := fl_at (List.getElem?_eq_getElem hq)
    obtain ⟨k1, k2, -, -⟩ := e2 q xs[q] ss[q] (List.getElem?_eq_getElem hq) (List.getElem?_eq_getElem (by omega))
  · rw [g1] at hu
    injection hu with hu
    rw [← hu]; exact k1
  · rw [g2] at hu
    injection hu with hu
    rw [← hu]; exact k2
theorem own_slS {w : World} {base hi k : Nat} {v : Value} {xs : List ((Option Addr × Nat × Nat) × Int)} {ss : List (List Int × Int)} (h : w.ownsRow base 40 2 v k (fl xs)) (hl : xs.length = ss.length) (hh : hi ≤ w.heap.size)
    (hr : ∀ (j : Nat) (x : (Option Addr × Nat × Nat) × Int) (s : List Int × Int), xs[j]? = some x → ss[j]? = some s → x.2 = s.2 ∧ Sl w hi ILit x.1.1 x.1.2.1 x.1.2.2 s.1) : ∃ A c, v = .slice A k c ∧ SlS w w.heap.size A k c ss := by
  have hk : xs.length = k := by have := h.1; rw [fl_len] at this; omega
  rcases h.2 with ⟨rfl, h0⟩ | ⟨g, cap, cur, rfl, hb, hh2, hnc, hcm, hcs, htake⟩
  · have hs : ss = [] := List.eq_nil_of_length_eq_zero (by omega)
    subst hs
    exact ⟨none, 0, by rw [h0], by rw [h0]; exact SlS.nil _ _⟩
  · refine ⟨_, cap, rfl, by omega, hnc, by unfold maxLen at hcm; exact hcm, fun _ => ⟨g, 0, rfl, lt_of_heap hh2, fun j s hs => ?_⟩⟩
    have hj : j < xs.length := by rw [hl]; exact (List.getElem?_eq_some_iff.1 hs).1
    obtain ⟨e1, e2⟩ := fl_at (List.getElem?_eq_getElem hj)
    rw [← htake, List.getElem?_take, if_pos (by omega)] at e1 e2
    obtain ⟨f1, f2⟩ := hr j xs[j] s (List.getElem?_eq_getElem hj) hs
    refine ⟨_, _, _, ?_, ?_, f2.more hh⟩
    · rw [Nat.zero_add, cell_of_row w g _ cur _ _ hh2]
      show cur[j * 2]? = some (SLit xs[j].1)
      simpa using e1
    · rw [Nat.zero_add, cell_of_row w g _ cur _ _ hh2, ← f1]; simpa using e2
theorem cyc_twice {t : List (List Int)} {ss : List (List Int × Int)} (h : planB t ss = true) (h2 : 2 * ss.length ≤ 5) : planB t (ss ++ ss) = true ∧ cycN t (ss ++ ss) = 2 * cycN t ss := by
  obtain ⟨a1, ⟨a2, a3⟩, a4⟩ := plan_iff.1 h
  refine ⟨plan_iff.2 ⟨a1, by simp; omega, fun s hs => a4 s (by simpa using hs)⟩, ?_⟩
  match ss, a2, h2 with
  | [a], _, _ => simp [cycN, cycUp, gapN, phAt, grAt]; omega
  | [a, b], _, _ => simp [cycN, cycUp, gapN, phAt, grAt]; omega
  | _ :: _ :: _ :: _, _, h => simp at h; omega
theorem own_empty2 {w : World} {base g E : Nat} (h : w.heap[g]? = some (.cells #[] E (0, 0))) (hb : base ≤ g) : w.ownsRow base E 2 (.slice (some ⟨g, 0, none⟩) 0 0) 0 [] :=
  ⟨by simp, .inr ⟨g, 0, _, rfl, hb, h, Nat.le_refl _, by unfold maxLen; omega, rfl, by simp⟩⟩

set_option maxHeartbeats 8000000 in
theorem cycleOfTwiceLaw_walk (A : Option Addr) (n c : Nat) (bs : List Int) (w : World) (hS : Sl w w.heap.size BLit A n c bs) (hbs : ∀ x ∈ bs, 0 ≤ x ∧ x ≤ 255) :
    Calls Try.prog 5 #[.slice A n c] w fun e w' => e = .returned (.bool true) ∧ Below w.heap.size w w' := by
  obtain ⟨hc0, hc1⟩ := hS.cap
  by_cases hn : 1048576 < n
  · go_enter Try.func5, Try.ntmps5
    go_wp2
    go_ret
    exact ⟨rfl, by (repeat' (first | (with_reducible exact Below.refl _ _) | (with_reducible assumption) | (with_reducible refine Below.alloc ?_ ?_ _) | (with_reducible refine below_plus ?_ ?_ _ _) | (with_reducible refine Below.drew ?_) | (with_reducible refine Below.setCell ?_ ?_ _) | (with_reducible refine below_adv ?_ ?_ _) | go_size | (simp; done) | (simp; omega)))⟩
  · go_enter Try.func5, Try.ntmps5
    go_wp2_with fail
    refine (drawCycleOf_c A n c bs w _ hS (Nat.le_refl _) hbs).mono ?_
    rintro e w1 ⟨At, m, ct, t, A2, n2, c2, ss, rfl, hK, hKS, hm8, hn1, hn5, hpl, hb1⟩
    have hz1 := hb1.size
    obtain ⟨W2, hW2⟩ : ∃ W2, w1.alloc (.cells #[.slice At m ct, .slice A2 n2 c2] 26) = W2 := ⟨_, rfl⟩
    have hb12 : Below w1.heap.size w1 W2 := by rw [← hW2]; (repeat' (first | (with_reducible exact Below.refl _ _) | (with_reducible assumption) | (with_reducible refine Below.alloc ?_ ?_ _) | (with_reducible refine below_plus ?_ ?_ _ _) | (with_reducible refine Below.drew ?_) | (with_reducible refine Below.setCell ?_ ?_ _) | (with_reducible refine below_adv ?_ ?_ _) | go_size | (simp; done) | (simp; omega)))
    have hT1 := (hK.here.below hb12).more hb12.size
    have hS1 := (hKS.here.below hb12).more hb12.size
    obtain ⟨hk0, hk1⟩ := hS1.cap
    have hP2 : W2.heap[w1.heap.size]? = some (.cells #[.slice At m ct, .slice A2 n2 c2] 26 (0, 0)) := by rw [← hW2]; exact heap_alloc_new w1 _
    have hgP := lt_of_heap hP2
    have p0 : W2.cell? ⟨w1.heap.size, 0, none⟩ = some (.slice At m ct) := by rw [cell_of_row _ _ _ _ _ _ hP2]; rfl
    have p1 : W2.cell? ⟨w1.heap.size, 1, none⟩ = some (.slice A2 n2 c2) := by rw [cell_of_row _ _ _ _ _ _ hP2]; rfl
    have hpl6 : ∀ s ∈ ss, s.1.length ≤ 1048576 := fun s hs => by have := hpl s hs; omega
    have c1' := fun w' (hw : Below W2.heap.size W2 w') => cycleOf_c At m ct t A2 n2 c2 ss w' _ (hT1.below hw) (hS1.below hw) hw.size hpl6
    have c2' := fun w' (hw : Below W2.heap.size W2 w') => sCycleOf_c At m ct t A2 n2 c2 ss w' _ (hT1.below hw) (hS1.below hw) hw.size hpl6
    have hb02 := hb1.trans (hb12.mono hz1)
    clear hS hbs hP2 hK hKS
    by_cases hneg : cycF t ss < 0
    · rw [cycF_neg hneg] at c1' c2'
      have C1 := Lib.hid c1'
      have C2 := Lib.hid c2'
      clear c1' c2' hT1 hS1 hpl hneg hpl6
      go_wp2_with fail
      clear hW2
      refine (C1.out W2 (Below.refl _ _)).mono ?_
      rintro e w2 ⟨rfl, hb2⟩
      have hz2 := hb2.size
      have p02 := (hb2.cell (p := ⟨w1.heap.size, 0, none⟩) hgP).trans p0
      have p12 := (hb2.cell (p := ⟨w1.heap.size, 1, none⟩) hgP).trans p1
      go_wp2_with fail
      refine (C2.out w2 hb2).mono ?_
      rintro e w3 ⟨rfl, hb3⟩
      have hb23 := hb2.trans (hb3.mono hz2)
      have p03 := (hb23.cell (p := ⟨w1.heap.size, 0, none⟩) hgP).trans p0
      have p13 := (hb23.cell (p := ⟨w1.heap.size, 1, none⟩) hgP).trans p1
      clear p02 p12
      go_wp2_with fail
      refine (C2.out w3 hb23).mono ?_
      rintro e w4 ⟨rfl, hb4⟩
      go_wp2_with fail
      go_ret
      exact ⟨rfl, hb02.trans ((hb23.trans (hb4.mono hb23.size)).mono hb02.size)⟩
    · obtain ⟨i2, hj, hj0, hj1, hj2⟩ := info_parts info_stage
      obtain ⟨hok, hv⟩ := cycF_ok hneg
      have hlen := hS1.len
      obtain ⟨-, p2', -, p4', -, -⟩ := plan_parts hok rfl hlen
      obtain ⟨N0, N1⟩ : 0 ≤ cycN t ss ∧ cycN t ss ≤ 45 * ss.length := cycUp_bd p2' p4' ss.length
      rw [hlen] at N1
      rw [hv] at c1' c2'
      have htw : 2 * n2 ≤ 5 → cycF t (ss ++ ss) = 2 * cycN t ss := fun h => by
        obtain ⟨h1, h2⟩ := cyc_twice hok (by omega)
        rw [cycF, if_pos h1, h2]
      obtain ⟨N, hN⟩ : ∃ N, cycN t ss = N := ⟨_, rfl⟩
      rw [hN] at N0 N1 c1' c2' htw
      have C1 := Lib.hid c1'
      have C2 := Lib.hid c2'
      have HTW := Lib.hid htw
      have HPL := Lib.hid hpl6
      have HT1 := Lib.hid hT1
      have HS1 := Lib.hid hS1
      clear c1' c2' hT1 hS1 hpl hneg hpl6 hok hv p2' p4' hN htw
      by_cases h25 : 2 * n2 ≤ 5
      · have h25' : ¬ (5 : Int) < 2 * (n2 : Int) := by omega
        go_wp2_with fail
        clear hW2
        refine (C1.out W2 (Below.refl _ _)).mono ?_
        rintro e w2 ⟨rfl, hb2⟩
        have hz2 := hb2.size
        have p02 := (hb2.cell (p := ⟨w1.heap.size, 0, none⟩) hgP).trans p0
        have p12 := (hb2.cell (p := ⟨w1.heap.size, 1, none⟩) hgP).trans p1
        go_wp2_with fail
        refine (C2.out w2 hb2).mono ?_
        rintro e w3 ⟨rfl, hb3⟩
        have hb23 := hb2.trans (hb3.mono hz2)
        have hz3 := hb23.size
        have p03 := (hb23.cell (p := ⟨w1.heap.size, 0, none⟩) hgP).trans p0
        have p13 := (hb23.cell (p := ⟨w1.heap.size, 1, none⟩) hgP).trans p1
        have hS3 := (HS1.out.below hb23).more hz3
        obtain ⟨b, o, xs, rfl, hbl, hxl, hcs, hrows⟩ := hS3.flat (by omega)
        have HCS := Lib.hid hcs
        have HRW := Lib.hid hrows
        have HLX := Lib.hid (show (fl xs).length = n2 * 2 by rw [fl_len, hxl])
        have HXS := Lib.hid (hxl.trans hlen.symm)
        have hgP3 : w1.heap.size < w3.heap.size := by omega
        clear hb2 hb3 p02 p12 p0 p1 hcs hrows hxl hS3 C1 C2 hlen
        go_wp2_with fail
        go_region_held3 (fun w' => w'.cell? ⟨w1.heap.size, 1, none⟩ = some (.slice (some ⟨b, o, none⟩) n2 c2)) (first | go_keep | (exact (hb4.cell (p := ⟨w1.heap.size, 1, none⟩) hgP3).trans p13) | (exact (hb5.cell (p := ⟨w1.heap.size, 1, none⟩) hgP3).trans p13))
          (first | (refine step_app2 w3 _ (by rfl) (.tmp 32) (.tmp 34) 24 (by rfl) 40 i2 (.agg #[.slice none 0 0, .int .i64 0]) 32 Try.underlying24 hj hj0 hj1 hj2 rfl (by decide) w3.heap.size _ 0 [] (by rfl) ?_ b o n2 c2 (fl xs) (by rfl) HLX.out ?_ (fl_one xs) (by omega) (by omega) ?_ ?_ ?_; (focus (exact own_empty2 (g := w3.heap.size) (heap_alloc_new _ _) (Nat.le_refl _))); (focus (intro j9 u9 hu9; refine (Below.cell (B := w3.heap.size) (w := w3) (p := ⟨b, o + j9, none⟩) ?_ hbl).trans (HCS.out j9 u9 hu9); (repeat' (first | (with_reducible exact Below.refl _ _) | (with_reducible assumption) | (with_reducible refine Below.alloc ?_ ?_ _) | (with_reducible refine below_plus ?_ ?_ _ _) | (with_reducible refine Below.drew ?_) | (with_reducible refine Below.setCell ?_ ?_ _) | (with_reducible refine below_adv ?_ ?_ _) | go_size | (simp; done) | (simp; omega))))); (focus ((repeat' (first | (with_reducible exact Below.refl _ _) | (with_reducible assumption) | (with_reducible refine Below.alloc ?_ ?_ _) | (with_reducible refine below_plus ?_ ?_ _ _) | (with_reducible refine Below.drew ?_) | (with_reducible refine Below.setCell ?_ ?_ _) | (with_reducible refine below_adv ?_ ?_ _) | go_size | (simp; done) | (simp; omega))))); (focus (first | (simp; done) | (simp; omega))); intro v4 w4 hO4 hb4 hg4; have hz4 := hb4.size) | (refine step_app2 w3 _ (by rfl) (.tmp 35) (.tmp 37) 24 (by rfl) 40 i2 (.agg #[.slice none 0 0, .int .i64 0]) 32 Try.underlying24 hj hj0 hj1 hj2 rfl (by decide) w3.heap.size v4 (0 + n2) ([] ++ fl xs) (by rfl) hO4 b o n2 c2 (fl xs) (by rfl) HLX.out ?_ (fl_one xs) (by omega) (by omega) hb4 hz4 ?_; (focus (intro j9 u9 hu9; exact (hb4.cell (p := ⟨b, o + j9, none⟩) hbl).trans (HCS.out j9 u9 hu9))); intro v5 w5 hO5 hb5 hg5) | fail)
        all_goals
          have hz5 := hb5.size
          rw [List.nil_append, ← fl_app, Nat.zero_add] at hO5
          obtain ⟨A5, c5, rfl, hS5⟩ := own_slS (hi := w3.heap.size) (ss := ss ++ ss) hO5 (by simp [HXS.out]) hz5 (fun j x s hx hs => by
            have hk : ∀ (j : Nat) (x : (Option Addr × Nat × Nat) × Int) (s : List Int × Int), xs[j]? = some x → ss[j]? = some s → x.2 = s.2 ∧ Sl w5 w3.heap.size ILit x.1.1 x.1.2.1 x.1.2.2 s.1 := fun j x s h1 h2 => ⟨(HRW.out j x s h1 h2).1, (HRW.out j x s h1 h2).2.below hb5⟩
            rcases Nat.lt_or_ge j xs.length with hl | hl
            · rw [List.getElem?_append_left hl] at hx
              rw [List.getElem?_append_left (by rw [← HXS.out]; exact hl)] at hs
              exact hk j x s hx hs
            · rw [List.getElem?_append_right hl] at hx
              rw [List.getElem?_append_right (by rw [← HXS.out]; exact hl), ← HXS.out] at hs
              exact hk _ x s hx hs)
          have hb25 := hb23.trans (hb5.mono hz3)
          have ch := cycleOf_c At m ct t A5 (n2 + n2) c5 (ss ++ ss) w5 _ ((HT1.out.below hb25).more hb25.size) hS5 (Nat.le_refl _) (fun s hs => HPL.out s (by simpa using hs))
          rw [HTW.out h25] at ch
          have CH := Lib.hid ch
          have p05 := (hb5.cell (p := ⟨w1.heap.size, 0, none⟩) hgP3).trans p03
          clear hO4 hb4 hg4 hO5 hg5 hS5 ch hb5
          go_wp2_with fail
          refine CH.out.mono ?_
          rintro e w6 ⟨rfl, hb6⟩
          go_wp2_with fail
          go_ret
          exact ⟨rfl, hb02.trans ((hb25.trans (hb6.mono hb25.size)).mono hb02.size)⟩
      · have h25' : (5 : Int) < 2 * (n2 : Int) := by omega
        go_wp2_with fail
        clear hW2
        refine (C1.out W2 (Below.refl _ _)).mono ?_
        rintro e w2 ⟨rfl, hb2⟩
        have hz2 := hb2.size
        have p02 := (hb2.cell (p := ⟨w1.heap.size, 0, none⟩) hgP).trans p0
        have p12 := (hb2.cell (p := ⟨w1.heap.size, 1, none⟩) hgP).trans p1
        go_wp2_with fail
        refine (C2.out w2 hb2).mono ?_
        rintro e w3 ⟨rfl, hb3⟩
        have hb23 := hb2.trans (hb3.mono hz2)
        have p03 := (hb23.cell (p := ⟨w1.heap.size, 0, none⟩) hgP).trans p0
        have p13 := (hb23.cell (p := ⟨w1.heap.size, 1, none⟩) hgP).trans p1
        clear p02 p12
        go_wp2_with fail
        refine (C2.out w3 hb23).mono ?_
        rintro e w4 ⟨rfl, hb4⟩
        go_wp2_with fail
        go_ret
        exact ⟨rfl, hb02.trans ((hb23.trans (hb4.mono hb23.size)).mono hb02.size)⟩
end Go.Proofs.Ytpihjabmllcldaa
