/- spec.arrange and spec.orders, walked. -/
import Derived.Test.YtlpbmnmhpknppaaCc3
import Derived.Test.YtlpbmnmhpknppaaBc
import Derived.Test.YtlpbmnmhpknppaaBb
import Derived.Test.YtlpbmnmhpknppaaPg
set_option linter.unusedVariables false
set_option linter.unusedSimpArgs false
namespace Go.Proofs.Ytlpbmnmhpknppaa
open Go.RowKit

theorem arr_take (list : List (List Int)) {o : List Int} {k : Nat} {x : Int} {xs : List Int} (hx : o[k]? = some x) (hxs : list[x.toNat]? = some xs) : arrL list (o.take (k + 1)) = arrL list (o.take k) ++ [xs] := by
  rw [take_snoc hx, arrL, List.map_append]
  simp [arrL, List.getD_eq_getElem?_getD, hxs]
/-- A slice of slices that can be read, no other block changed. -/
def SlIntSS (w : World) (n : Nat) (xss : List (List Int)) (e : Ending) (w' : World) : Prop :=
  ∃ A c, e = .returned (.slice A n c) ∧ Sl2 w' w'.heap.size ILit A n c xss ∧ Below w.heap.size w w'

set_option maxHeartbeats 4000000 in
theorem arrange_c (A : Option Addr) (n c : Nat) (list : List (List Int)) (A2 : Option Addr) (m c2 : Nat) (o : List Int) (w : World) (B : Nat) (hL : Sl2 w B ILit A n c list) (hO : Sl w B ILit A2 m c2 o) (hB : B ≤ w.heap.size) (hin : ∀ k ∈ o, 0 ≤ k ∧ k < n) (hm : m ≤ 1048576) :
    Calls Try.prog 66 #[.slice A n c, .slice A2 m c2] w (SlIntSS w m (arrL list o)) := by
  obtain ⟨hc0, hc1⟩ := hL.cap
  obtain ⟨hd0, hd1⟩ := hO.cap
  obtain ⟨i1, hj, hj0, hj1, hj2⟩ := info_parts info_rowI
  have HIN := Lib.hid hin
  have HOL := Lib.hid hO.len
  have HLL := Lib.hid hL.len
  have hL0 := hL.more hB
  have hO0 := hO.more hB
  clear hL hO hin
  go_enter Try.func66, Try.ntmps66
  go_wp2_with fail
  go_loopw [5, 6] (fun v i wr => ∃ (k : Nat), k ≤ m ∧ i = .int .i64 k ∧ Shr wr w.heap.size w.heap.size 35 ILit v k (arrL list (o.take k)) ∧ Below w.heap.size w wr) (fun _ i _ => m - (intOf i).toNat)
  case atStart => exact ⟨0, by omega, rfl, Shr.nil (World.ownsRow_made _ #[] 0 (Nat.le_refl _) (by decide) rfl), by (repeat' (first | (with_reducible exact Below.refl _ _) | (with_reducible assumption) | (with_reducible refine Below.alloc ?_ ?_ _) | (with_reducible refine below_plus ?_ ?_ _ _) | (with_reducible refine Below.drew ?_) | (with_reducible refine Below.setCell ?_ ?_ _) | (with_reducible refine below_adv ?_ ?_ _) | go_size | (simp; done) | (simp; omega)))⟩
  case round =>
    obtain ⟨k, hk, rfl, hSh, hb⟩ := hrel
    have hzr := hb.size
    by_cases hkm : k < m
    · obtain ⟨b, p, x, rfl, hbl, hx, hcell⟩ := (hO0.below hb).at_ hkm
      obtain ⟨hx0, hx1⟩ := HIN.out x (List.mem_of_getElem? hx)
      obtain ⟨x, rfl⟩ := Int.eq_ofNat_of_zero_le hx0
      have hxn : x < n := by omega
      obtain ⟨b2, p2, xs, A3, n3, c3, rfl, hbl2, hxs, hcell2, hrow⟩ := (hL0.below hb).at_ hxn
      have r1 : wr.cell? ⟨b, p + k, none⟩ = some (.int .i64 (x : Int)) := hcell
      have r2 : wr.cell? ⟨b2, p2 + x, none⟩ = some (.slice A3 n3 c3) := hcell2
      have HE := Lib.hid (arr_take list hx (by simpa using hxs))
      obtain ⟨vs, hv1, hv2⟩ := hSh
      have HR := Lib.hid hrow
      clear hcell hcell2 hx hxs hrow
      go_wp2_with (at_builtin; refine wpList_app1 w wr rfl _ _ 22 rfl 35 i1 (.slice none 0 0) 24 Try.underlying22 hj hj0 hj1 hj2 rfl (by decide) w.heap.size _ k _ (by rfl) hv1 _ rfl _ (by rfl) rfl (by omega) hb hzr ?_; intro v8 w8 hO8 hb8 hg8)
      have hN := Shr.app hv1 hv2 (Nat.le_refl _) hzr (Rsl.one HR.out) hO8 hg8
      rw [← HE.out] at hN
      clear hv1 hv2 hO8 hg8
      go_roundw
      case rel => exact ⟨k + 1, by omega, by go_num, hN, hb8⟩
      case measure => simp [intOf]; omega
    · obtain rfl : k = m := by omega
      rw [List.take_of_length_le (by rw [HOL.out]; exact Nat.le_refl _)] at hSh
      obtain ⟨A5, c5, rfl, hS5⟩ := hSh.sl2 hzr
      clear hSh
      go_wp2_with fail
      go_ret
      exact ⟨_, _, rfl, hS5, hb⟩

/-- What orders returns: rows in new blocks, or where the given beginning lies. -/
def OrdOf (w : World) (Ab : Option Addr) (xss : List (List Int)) (e : Ending) (w' : World) : Prop :=
  ∃ A c, e = .returned (.slice A xss.length c) ∧ Below w.heap.size w w' ∧ ∃ ts : List (Option Addr × Nat × Nat), Sl w' w'.heap.size SLit A xss.length c ts ∧ ts.length = xss.length ∧
    ∀ (j : Nat) (u : Option Addr × Nat × Nat) (xs : List Int), ts[j]? = some u → xss[j]? = some xs → Sl w' w'.heap.size ILit u.1 u.2.1 u.2.2 xs ∧ (0 < u.2.1 → ∀ b o, u.1 = some ⟨b, o, none⟩ → w.heap.size ≤ b ∨ ∃ o', Ab = some ⟨b, o', none⟩)

/-- Rows of a callee laid behind one's own. -/
theorem Mix.appL {w w8 : World} {lo E2 k m : Nat} {v v' : Value} {vs : List Value} {xss yss : List (List Int)} {ts : List (Option Addr × Nat × Nat)} (h1 : w.ownsRow lo E2 1 v k vs) (h2 : RowsOff w lo ILit v.ownBlock vs xss)
    (hl : ts.length = yss.length) (hr : ∀ (j : Nat) (u : Option Addr × Nat × Nat) (xs : List Int), ts[j]? = some u → yss[j]? = some xs → Sl w w.heap.size ILit u.1 u.2.1 u.2.2 xs ∧ (0 < u.2.1 → ∀ b o, u.1 = some ⟨b, o, none⟩ → lo ≤ b ∧ v.ownBlock ≠ some b))
    (hO8 : w8.ownsRow lo E2 1 v' (k + m) (vs ++ ts.map SLit)) (hg : w.grownBy w8 v.ownBlock) (hv' : ∀ b, v'.ownBlock = some b → v.ownBlock = some b ∨ w.heap.size ≤ b) : Mix w8 lo E2 ILit v' (k + m) (xss ++ yss) := by
  have hz := hg.size
  have ho : ∀ b, b < w.heap.size → v.ownBlock ≠ some b → v'.ownBlock ≠ some b := fun b hb hne e => by
    rcases hv' b e with h | h
    · exact hne h
    · omega
  have hk : ∀ b, lo ≤ b → b < w.heap.size → v.ownBlock ≠ some b → w8.heap[b]? = w.heap[b]? := fun b _ hb hne => hg.block b hb fun e => hne e.symm
  have hR := h2.keep (w' := w8) (own' := v'.ownBlock) hz ho hk
  refine ⟨vs ++ ts.map SLit, hO8, by simp [hR.1, hl], fun j u ys hu hx => ?_⟩
  rcases Nat.lt_or_ge j vs.length with hlt | hge
  · rw [List.getElem?_append_left hlt] at hu
    rw [List.getElem?_append_left (by rw [← h2.1]; exact hlt)] at hx
    exact hR.2 j u ys hu hx
  · rw [List.getElem?_append_right hge, List.getElem?_map] at hu
    rw [List.getElem?_append_right (by rw [← h2.1]; exact hge), ← h2.1] at hx
    cases ht : ts[j - vs.length]? with
    | none => rw [ht] at hu; cases hu
    | some u0 =>
      rw [ht] at hu
      simp only [Option.map_some, Option.some.injEq] at hu
      subst hu
      obtain ⟨e1, e2⟩ := hr _ u0 ys ht hx
      refine ⟨u0.1, u0.2.1, u0.2.2, rfl, (e1.at1 fun hn b o hA hb => hk b (e2 hn b o hA).1 hb (e2 hn b o hA).2).more hz, fun hn b o hA => ⟨(e2 hn b o hA).1, ho b ?_ (e2 hn b o hA).2⟩⟩
      obtain ⟨b', o', hA', hb', -⟩ := e1.2.2.2 hn
      rw [hA] at hA'
      injection hA' with hA'
      injection hA' with hA'
      omega
theorem Mix.ord {w w' : World} {E2 k : Nat} {v : Value} {xss : List (List Int)} {Ab : Option Addr} (h : Mix w' w.heap.size E2 ILit v k xss) (hb : Below w.heap.size w w') : ∃ A c, v = .slice A k c ∧ k = xss.length ∧ OrdOf w Ab xss (.returned (.slice A k c)) w' := by
  have hk := h.len
  obtain ⟨vs, h1, h2⟩ := h
  obtain ⟨A, c, e1, e2⟩ := own_sl (f := id) (xs := vs) (by simpa using h1)
  refine ⟨A, c, e1, hk.symm, A, c, by rw [hk], hb, vs.map triple, ?_, by simp [h2.1], fun j u xs hu hx => ?_⟩
  · rw [hk]
    refine ⟨by simpa using e2.len, e2.cap.1, e2.cap.2, fun hn => ?_⟩
    obtain ⟨b, o, hA, hbl, hc⟩ := e2.2.2.2 hn
    refine ⟨b, o, hA, hbl, fun j x hx => ?_⟩
    rw [List.getElem?_map] at hx
    cases hv : vs[j]? with
    | none => rw [hv] at hx; cases hx
    | some v0 =>
      rw [hv] at hx
      simp only [Option.map_some, Option.some.injEq] at hx
      have hl : j < xss.length := by rw [← h2.1]; exact (List.getElem?_eq_some_iff.1 hv).1
      obtain ⟨A0, n0, c0, e3, -, -⟩ := h2.2 j v0 _ hv (List.getElem?_eq_getElem hl)
      rw [hc j v0 hv, ← hx, e3]; rfl
  · rw [List.getElem?_map] at hu
    cases hv : vs[j]? with
    | none => rw [hv] at hu; cases hu
    | some v0 =>
      rw [hv] at hu
      simp only [Option.map_some, Option.some.injEq] at hu
      obtain ⟨A0, n0, c0, e3, e4, e5⟩ := h2.2 j v0 xs hv hx
      subst e3
      simp only [triple] at hu
      subst hu
      exact ⟨e4, fun hn b o hA => .inl (e5 hn b o hA).1⟩
end Go.Proofs.Ytlpbmnmhpknppaa
