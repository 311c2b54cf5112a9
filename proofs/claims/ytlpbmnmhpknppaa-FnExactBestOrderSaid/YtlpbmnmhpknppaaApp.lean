/- A slice appended to the call's own row; copyInts; spoil. -/
import Derived.Test.YtlpbmnmhpknppaaRdc
import Derived.Test.YtlpbmnmhpknppaaHi
import Derived.Laws.OwnMore
import Derived.Laws.AppendOwn
set_option linter.unusedVariables false
set_option linter.unusedSimpArgs false
namespace Go.Proofs.Ytlpbmnmhpknppaa
open Go.RowKit

/-- Sl across the reader's step: its block is another one. -/
theorem Sl.adv {α : Type} {w : World} {B n c r q : Nat} {f : α → Value} {A : Option Addr} {xs : List α} (h : Sl w B f A n c xs) (hne : 0 < n → ∀ b o, A = some ⟨b, o, none⟩ → b ≠ r) : Sl (adv w r q) B f A n c xs := by
  obtain ⟨h1, h2, h3, h4⟩ := h
  refine ⟨h1, h2, h3, fun hn => ?_⟩
  obtain ⟨b, o, hA, hb, hc⟩ := h4 hn
  exact ⟨b, o, hA, hb, fun j x hx => (cell?_adv w r q b (o + j) (hne hn b o hA)).trans (hc j x hx)⟩

theorem run_append_none_c {P : Program} {w : World} (base : Nat) (t ty e : TypeId) (i : TypeInfo) (size : Nat) (ht : P.underlying t = some (.slice e)) (hi : P.info? e = some i)
    (v : Value) (n c : Nat) (xs : List Value) (hown : w.ownsRow base e size v n xs) :
    (Builtin.append_ #[t, t] ty #[v, .slice none 0 c]).run P w = .ok v w := by
  rcases hown.2 with ⟨rfl, rfl⟩ | ⟨g, cap, cur, rfl, _, _, hnc, _⟩
  · simp [Builtin.append_, run_underlying ht, sizeOf, typeInfo, hi, Builtin.lenOf, Builtin.firstCells]
  · simp [Builtin.append_, run_underlying ht, sizeOf, typeInfo, hi, Builtin.lenOf, Builtin.firstCells, hnc, storeCells]

theorem wpList_appS {P : Program} {α : Type} (w0 w : World) {ops : Array Oper} {rest : List Oper} {o : Oper} {a : Act} {Q : Exit → Act → World → Prop} (hgd : o.guard = none) (s x : Operand) (t : TypeId)
    (ho : o.op = .call { callee := .builtin .append, args := #[s, x], argTypes := #[t, t] })
    (e : TypeId) (i : TypeInfo) (z : Value) (bytes : Nat) (ht : P.underlying t = some (.slice e)) (hi : P.info? e = some i) (hz : i.zero = some z) (hsize : i.size = 1) (hby : i.bytes = bytes) (hzs : z.cells.size = 1) (hbb : bytes ≤ 64)
    (base : Nat) (v : Value) (n : Nat) (xs : List Value) (hs : a.eval s = v) (hown : w.ownsRow base e 1 v n xs)
    (A : Option Addr) (m c B : Nat) (f : α → Value) (ys : List α) (hx : a.eval x = .slice A m c) (hSl : Sl w B f A m c ys) (h1 : ∀ y, (f y).oneCell' = true)
    (hn : n ≤ 1099511627776) (hm : m ≤ 1099511627776) (hb : Below base w0 w) (hB : base ≤ w.heap.size)
    (h : ∀ v' w1, w1.ownsRow base e 1 v' (n + m) (xs ++ ys.map f) → Below base w0 w1 → w.grownBy w1 v.ownBlock → wpList P ops Q rest (a.put o.dst v') w1) : wpList P ops Q (o :: rest) a w := by
  have hlen := hSl.len
  have hbyt : (n + m) * bytes ≤ 140737488355328 := by
    have : (n + m) * bytes ≤ (1099511627776 + 1099511627776) * 64 := Nat.mul_le_mul (by omega) hbb
    omega
  have h63 : n + m ≤ maxLen := by unfold maxLen; omega
  cases A with
  | none =>
    have hm0 : m = 0 := by
      rcases Nat.eq_zero_or_pos m with h0 | h0
      · exact h0
      · obtain ⟨b, o, hA, -⟩ := hSl.2.2.2 h0
        cases hA
    subst hm0
    have hys : ys = [] := List.eq_nil_of_length_eq_zero hlen
    subst hys
    refine wpList_plain hgd fun K hK => ?_
    have hrun := run_append_none_c (P := P) (w := w) base t o.type e i 1 ht hi v n c xs hown
    unfold Oper.wp
    simp [execOp, ho, resolve, invoke, builtin, hs, hx, hrun, Result.andThen]
    refine hK _ _ (h v w (by simpa using hown) hb ⟨rfl, rfl, rfl, Nat.le_refl _, fun _ _ _ => rfl⟩)
  | some ad =>
    refine wpList_append_own w hgd s x t ho base e i z 1 bytes ht hi hz hsize hby hzs (by decide) v n xs hs hown ad m c (ys.map f) hx (by simpa using hlen) ?_ ?_ h63 hbyt hB ?_
    · intro j y hj
      rw [List.getElem?_map] at hj
      cases hyj : ys[j]? with
      | none => rw [hyj] at hj; cases hj
      | some y0 =>
        rw [hyj] at hj
        injection hj with hj
        have hjl : j < ys.length := (List.getElem?_eq_some_iff.1 hyj).1
        obtain ⟨b, o2, hA, hlt, hc⟩ := hSl.2.2.2 (by omega)
        injection hA with hA
        subst hA
        have := hc j y0 hyj
        rw [← hj, ← this]
        simp only [Addr.add]
        try split
        all_goals first | rfl | (subst_vars; rfl)
    · intro u hu
      obtain ⟨y0, -, rfl⟩ := List.mem_map.1 hu
      exact h1 y0
    · intro v' w1 k1 k2 _
      exact h v' w1 k1 (hb.grown k2 hB fun k hk => (hown.lt k hk).1) k2

theorem ints_snoc (l : List Int) (g : Int) : l.map ILit ++ [.int .i64 g] = (l ++ [g]).map ILit := by simp [ILit]

/-- A row of ints of the call's own. -/
def OwnInts (w : World) (n : Nat) (xs : List Int) (e : Ending) (w' : World) : Prop :=
  ∃ v, e = .returned v ∧ w'.ownsRow w.heap.size 3 1 v n (xs.map ILit) ∧ Below w.heap.size w w'

theorem copyInts_c (A : Option Addr) (n c : Nat) (xs : List Int) (w : World) (B : Nat) (hS : Sl w B ILit A n c xs) (hB : B ≤ w.heap.size) (hn : n ≤ 1099511627776) :
    Calls Try.prog 82 #[.slice A n c] w (OwnInts w n xs) := by
  obtain ⟨i0, hi, hi0, hi1, hi2⟩ := info_parts info_int
  have h0 := World.ownsRow_made (base := w.heap.size) (e := 3) (size := 1) w #[] 0 (Nat.le_refl _) (by decide) rfl
  have hS1 := hS.alloc hB (.cells #[] 3)
  have hb1 : Below w.heap.size w (w.alloc (.cells #[] 3)) := (Below.refl _ _).alloc (Nat.le_refl _) _
  clear hS
  go_enter Try.func82, Try.ntmps82
  go_wp2_with (at_builtin; refine wpList_appS w _ rfl _ _ 35 rfl 3 i0 (.int .i64 0) 8 Try.underlying35 hi hi0 hi1 hi2 rfl (by decide) w.heap.size _ 0 [] (by rfl) h0 A n c B ILit xs (by rfl) hS1 (fun _ => rfl) (by omega) (by omega) hb1 (by simp) ?_; intro v2 w2 hB2 hb2 hg2)
  rw [Nat.zero_add, List.nil_append] at hB2
  go_ret
  exact ⟨_, rfl, hB2, hb2⟩

theorem Ow.set {w : World} {base E n c g j : Nat} {xs : List Int} {x : Int} (h : Ow w base E ILit (some ⟨g, 0, none⟩) n c xs) (hj : j < n) : Ow (w.setCell ⟨g, j, none⟩ (.int .i64 x)) base E ILit (some ⟨g, 0, none⟩) n c (xs.set j x) := by
  obtain ⟨h1, h2, h3, h4⟩ := h
  refine ⟨by simpa using h1, h2, h3, fun hn => ?_⟩
  obtain ⟨g', cs, hA, hb, hh, hc⟩ := h4 hn
  injection hA with hA
  injection hA with hA
  subst hA
  refine ⟨g, _, rfl, hb, heap_setCell_same w g j cs _ _ hh, fun k y hy => ?_⟩
  rw [Array.getElem?_setIfInBounds]
  have hjx : j < xs.length := by omega
  have hjc : j < cs.size := by
    have := hc j xs[j] (List.getElem?_eq_getElem hjx)
    exact (Array.getElem?_eq_some_iff.1 this).1
  rw [List.getElem?_set] at hy
  by_cases hk : j = k
  · subst hk
    rw [if_pos rfl, if_pos hjx] at hy
    injection hy with hy
    subst hy
    rw [if_pos rfl, if_pos hjc]; rfl
  · rw [if_neg hk] at hy ⊢
    exact hc k y hy

/-- Some list of at most m numbers, the reader gone on to at most p + K. -/
def IntsOf (w : World) (r p m K : Nat) (e : Ending) (w' : World) : Prop :=
  ∃ A n c q xs, e = .returned (.slice A n c) ∧ Sl w' w'.heap.size ILit A n c xs ∧ n ≤ m ∧ q ≤ p + K ∧ Below w.heap.size (adv w r q) w' ∧ (0 < n → ∀ b o, A = some ⟨b, o, none⟩ → w.heap.size ≤ b)
theorem Ow.lo {α : Type} {w : World} {base E n c : Nat} {f : α → Value} {A : Option Addr} {xs : List α} (h : Ow w base E f A n c xs) : 0 < n → ∀ b o, A = some ⟨b, o, none⟩ → base ≤ b := fun hn b o hA => by
  obtain ⟨g, cs, hg, hb, -⟩ := h.2.2.2 hn
  rw [hg] at hA
  injection hA with hA
  injection hA with hA
  omega
theorem lo_map {A : Option Addr} {n base k : Nat} (h : 0 < n → ∀ b o, A = some ⟨b, o, none⟩ → base ≤ b) (hsome : 0 < n → ∃ b o, A = some ⟨b, o, none⟩) : 0 < n → ∀ b o, (A.map (·.add k)) = some ⟨b, o, none⟩ → base ≤ b := fun hn b o hA => by
  obtain ⟨b', o', rfl⟩ := hsome hn
  simp only [Option.map_some, Addr.add_lit, Option.some.injEq, Addr.mk.injEq, and_true] at hA
  exact hA.1 ▸ h hn b' o' rfl

set_option maxHeartbeats 2000000 in
theorem spoil_c (w : World) (r n c p : Nat) (A : Option Addr) (bs : List Int) (hR : Rd w r A n c bs p) (hp : p ≤ 500000)
    (A2 : Option Addr) (m c2 B : Nat) (xs : List Int) (z : Int) (hS : Sl w B ILit A2 m c2 xs) (hB : B ≤ w.heap.size) (hm : m ≤ 1000000) :
    Calls Try.prog 80 #[.pointer (some ⟨r, 0, none⟩), .slice A2 m c2, .int .i64 z] w (IntsOf w r p (m + 1) 3) := by
  have hlt := hR.lt
  obtain ⟨i0, hi, hi0, hi1, hi2⟩ := info_parts info_int
  go_enter Try.func80, Try.ntmps80
  go_wp2_with fail
  refine (copyInts_c A2 m c2 xs w B hS hB (by omega)).mono ?_
  rintro e w1 ⟨v, rfl, hO1, hb1⟩
  have hb1' : Below w.heap.size (adv w r p) w1 := by rw [adv_self hR]; exact hb1
  go_wp2_with fail
  refine (pick_g w w1 r n c p p A bs _ hR hb1' (by omega)).mono ?_
  rintro e w2 ⟨k, -, rfl, hb2, hg2⟩
  have hO2 := own_go hO1 hlt hg2
  have hsz2 := hb2.size
  rw [size_adv] at hsz2
  clear hO1 hb1 hb1' hg2 hS
  by_cases k0 : k = 0
  · subst k0
    go_wp2_with (at_builtin; refine wpList_app1 (adv w r (p + 1)) w2 rfl _ _ 35 rfl 3 i0 (.int .i64 0) 8 Try.underlying35 hi hi0 hi1 hi2 rfl (by decide) w.heap.size _ m _ (by rfl) hO2 _ rfl _ (by rfl) rfl (by omega) hb2 hsz2 ?_; intro v3 w3 hO3 hb3 hg3)
    rw [ints_snoc] at hO3
    obtain ⟨A3, c3, rfl, hW⟩ := Ow.of_own hO3
    go_ret
    exact ⟨_, _, _, p + 1, _, rfl, hW.sl, Nat.le_refl _, by omega, hb3, hW.lo⟩
  · obtain ⟨A3, c3, rfl, hW⟩ := Ow.of_own hO2
    have hsl := hW.sl
    have HLO := Lib.hid hW.lo
    obtain ⟨hcc0, hcc1⟩ := hsl.cap
    clear hO2
    by_cases k1 : k = 1
    · subst k1
      by_cases hm0 : m = 0
      · subst hm0
        go_wp2_with fail
        go_ret
        exact ⟨_, _, _, p + 1, _, rfl, hsl, by omega, by omega, hb2, HLO.out⟩
      · have hd := hsl.drop (k := 1) (by omega)
        by_cases hc1 : c3 = 1
        · rw [if_pos hc1, show c3 - 1 = 0 by omega] at hd
          go_wp2_with fail
          go_ret
          exact ⟨_, _, _, p + 1, _, rfl, hd, by omega, by omega, hb2, fun h => absurd h (by omega)⟩
        · rw [if_neg hc1] at hd
          have HL2 := Lib.hid (fun (hn : 0 < m - 1) => lo_map (n := m) (k := 1) HLO.out (fun h => by
            obtain ⟨b, o, x, hA, -⟩ := hsl.at_ (k := 0) h
            exact ⟨b, o, hA⟩) (by omega))
          go_wp2_with fail
          go_ret
          exact ⟨_, _, _, p + 1, _, rfl, hd, by omega, by omega, hb2, HL2.out⟩
    · by_cases k2 : k = 2
      · subst k2
        by_cases hm0 : m = 0
        · subst hm0
          go_wp2_with fail
          go_ret
          exact ⟨_, _, _, p + 1, _, rfl, hsl, by omega, by omega, hb2, HLO.out⟩
        · go_wp2_with fail
          refine (pick_g w w2 r n c p (p + 1) A bs _ hR hb2 (by omega)).mono ?_
          rintro e w3 ⟨j, ⟨hj0, hj1, -⟩, rfl, hb3, hg3⟩
          have hj2 := hj1 (by omega)
          obtain ⟨j, rfl⟩ := Int.eq_ofNat_of_zero_le hj0
          have hW3 : Ow w3 w.heap.size 3 ILit A3 m c3 xs := hW.keep fun g hb hg _ => (hg3.block g hg).trans (heap_adv _ _ _ _ (by omega))
          have hsz3 := hb3.size
          rw [size_adv] at hsz3
          have hR3 := (hR.adv (p + 1 + 1)).below hb3 hlt
          clear hW hsl hb2 hg3 hj1
          go_wp2_with fail
          refine (one_lit_c w3 r n c (p + 1 + 1) A bs _ _ _ _ [-1, z, 0, 1] (by rfl) (by rfl) (by decide) (by decide) hR3 (by omega) (by first | rfl | (simp; done) | (simp; omega))).mono ?_
          rintro e w4 ⟨x, -, rfl, os4, d4, hw4⟩
          have hb4 : Below w3.heap.size (adv w3 r (p + 1 + 1 + 1)) w4 := by
            rw [← hw4, adv_alloc _ _ _ _ (by omega)]
            (repeat' (first | (with_reducible exact Below.refl _ _) | (with_reducible assumption) | (with_reducible refine Below.alloc ?_ ?_ _) | (with_reducible refine below_plus ?_ ?_ _ _) | (with_reducible refine Below.drew ?_) | (with_reducible refine Below.setCell ?_ ?_ _) | (with_reducible refine below_adv ?_ ?_ _) | go_size | (simp; done) | (simp; omega)))
          have hW4 : Ow w4 w.heap.size 3 ILit A3 m c3 xs := hW3.keep fun g hb hg _ => (hb4.block g hg).trans (heap_adv _ _ _ _ (by omega))
          have hb04 : Below w.heap.size (adv w r (p + 1 + 1 + 1)) w4 := (below_adv2 hb3 (p + 1 + 1 + 1)).trans (hb4.mono hsz3)
          clear hw4 hW3 hb3 hR3 hb4
          obtain ⟨g, cs, rfl, hgb, hgh, hgc⟩ := hW4.2.2.2 (by omega)
          have hset := hW4.set (j := j) (x := x) (by omega)
          have HLS := Lib.hid hset.lo
          have hfr : w4.frozen? ⟨g, j, none⟩ = false := by simp [World.frozen?, hgh]
          have hcl : w4.cell? ⟨g, j, none⟩ = some (.int .i64 (xs[j]?.getD 0)) := by
            have hjx : j < xs.length := by rw [hW4.len]; omega
            rw [cell_of_row w4 g j cs _ _ hgh, hgc j xs[j] (List.getElem?_eq_getElem hjx), List.getElem?_eq_getElem hjx]; rfl
          have hgl := lt_of_heap hgh
          clear hgh hgc hW4
          go_wp2_with fail
          go_ret
          exact ⟨_, _, _, p + 1 + 1 + 1, _, rfl, hset.sl, by omega, by omega, hb04.setCell hgb _, HLS.out⟩
      · go_wp2_with fail
        go_ret
        exact ⟨_, _, _, p + 1, _, rfl, hsl, by omega, by omega, hb2, HLO.out⟩
end Go.Proofs.Ytlpbmnmhpknppaa
