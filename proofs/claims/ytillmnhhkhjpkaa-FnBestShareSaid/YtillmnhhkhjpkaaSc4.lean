/- The reference's digits, walked. -/
import Derived.Test.YtillmnhhkhjpkaaSc3
set_option linter.unusedVariables false
set_option linter.unusedSimpArgs false
namespace Go.Proofs.Ytillmnhhkhjpkaa
open Go.RowKit

section
variable {α : Type} {w : World} {base E n c g j : Nat} {f : α → Value} {xs : List α} {x : α}
theorem Ow.cell_ (h : Ow w base E f (some ⟨g, 0, none⟩) n c xs) (hx : xs[j]? = some x) : w.cell? ⟨g, j, none⟩ = some (f x) ∧ w.frozen? ⟨g, j, none⟩ = false ∧ base ≤ g ∧ g < w.heap.size := by
  obtain ⟨h1, h2, h3, h4⟩ := h
  have hj := (List.getElem?_eq_some_iff.1 hx).1
  obtain ⟨g', cs, hA, hb, hh, hc⟩ := h4 (by omega)
  injection hA with hA
  injection hA with hA
  subst hA
  exact ⟨by rw [cell_of_row _ _ _ _ _ _ hh]; exact hc j x hx, by simp [World.frozen?, hh], hb, lt_of_heap hh⟩
theorem Ow.setF (h : Ow w base E f (some ⟨g, 0, none⟩) n c xs) (hj : j < n) (y : α) : Ow (w.setCell ⟨g, j, none⟩ (f y)) base E f (some ⟨g, 0, none⟩) n c (xs.set j y) := by
  obtain ⟨h1, h2, h3, h4⟩ := h
  refine ⟨by simpa using h1, h2, h3, fun hn => ?_⟩
  obtain ⟨g', cs, hA, hb, hh, hc⟩ := h4 hn
  injection hA with hA
  injection hA with hA
  subst hA
  refine ⟨g, _, rfl, hb, heap_setCell_same w g j cs _ _ hh, fun k z hy => ?_⟩
  rw [Array.getElem?_setIfInBounds]
  have hjx : j < xs.length := by omega
  have hjc : j < cs.size := by
    have := hc j xs[j] (List.getElem?_eq_getElem hjx)
    exact (Array.getElem?_eq_some_iff.1 this).1
  rw [List.getElem?_set] at hy
  by_cases hk : j = k
  · subst hk
    rw [if_pos rfl, if_pos hjx] at hy
    injection hy with hy
    subst hy
    rw [if_pos rfl, if_pos hjc]
  · rw [if_neg hk] at hy ⊢
    exact hc k z hy
end
theorem rng_at {α : Type} (f : Nat → α) {n j : Nat} (h : j < n) : ((List.range n).map f)[j]? = some (f j) := by
  rw [List.getElem?_map, List.getElem?_range h]; rfl
theorem rng_set {α : Type} (f : Nat → α) {n j : Nat} (y : α) : ((List.range n).map f).set j y = (List.range n).map fun i => if i = j then y else f i := by
  apply List.ext_getElem?
  intro i
  rw [List.getElem?_set, List.getElem?_map, List.getElem?_map]
  by_cases hij : j = i
  · subst hij
    rw [if_pos rfl]
    by_cases hl : j < n
    · rw [if_pos (by simpa using hl), List.getElem?_range hl]; simp
    · rw [if_neg (by simpa using hl), List.getElem?_eq_none (by simpa using hl)]; rfl
  · rw [if_neg hij]
    by_cases hl : i < n
    · have hne : ¬ i = j := fun h => hij h.symm
      rw [List.getElem?_range hl]; simp [hne]
    · rw [List.getElem?_eq_none (by simpa using hl)]; rfl

theorem made_repN (m : Nat) : madeCells #[.int .i64 0] m = (((List.range m).map fun _ => 0).map NLit).toArray := by
  have h1 := part_zero NLit (.int .i64 0) ((List.range m).map fun _ => 0)
  simp only [List.length_map, List.length_range] at h1
  rw [← h1]
  simp only [part, List.take_zero, List.map_nil, List.nil_append, List.length_map, List.length_range, Nat.sub_zero]
  congr 1
  apply List.ext_getElem
  · simp
  · intro i h1 h2; simp [NLit]
def Digits (w : World) (d : Nat) (xs : List Nat) (e : Ending) (w' : World) : Prop :=
  ∃ g, e = .returned (.slice (some ⟨g, 0, none⟩) d d) ∧ Ow w' w.heap.size 3 NLit (some ⟨g, 0, none⟩) d d xs ∧ Below w.heap.size w w'
def dgq (k d N q : Nat) : List Nat := (List.range d).map fun j => if d - 1 - j < q then N / k ^ (d - 1 - j) % k else 0
theorem dgq_zero (k d N : Nat) : dgq k d N 0 = (List.range d).map fun _ => 0 := by simp [dgq]
theorem dgq_all (k d N : Nat) : dgq k d N d = dgs k d N := by
  refine List.map_congr_left fun j hj => ?_
  rw [List.mem_range] at hj
  rw [if_pos (by omega)]
theorem dgq_set {k d N q : Nat} (hq : q < d) : (dgq k d N q).set (d - 1 - q) (N / k ^ q % k) = dgq k d N (q + 1) := by
  rw [dgq, rng_set]
  refine List.map_congr_left fun j hj => ?_
  rw [List.mem_range] at hj
  by_cases h : j = d - 1 - q
  · rw [if_pos h, if_pos (by omega), show d - 1 - j = q by omega]
  · rw [if_neg h]
    by_cases h2 : d - 1 - j < q
    · rw [if_pos h2, if_pos (by omega)]
    · rw [if_neg h2, if_neg (by omega)]
set_option maxHeartbeats 4000000 in
theorem digitsOf_c (N k d : Nat) (w : World) (hN : N ≤ 1048576) (hk : 1 ≤ k) (hk3 : k ≤ 3) (hd : d ≤ 6) :
    Calls Try.prog 18 #[.int .i64 N, .int .i64 k, .int .i64 d] w (Digits w d (dgs k d N)) := by
  have hmk := run_make_row' (P := Try.prog) 23 3 (.int .i64 0) 8 Try.underlying23 info_int rfl .i64 .i64 d (by omega) (by omega)
  rw [made_repN] at hmk
  have hN0 := Ow.new w NLit ((List.range d).map fun _ => 0) 3 (by simp; omega)
  simp only [List.length_map, List.length_range] at hN0
  rw [← dgq_zero k d N] at hN0 hmk
  have HN := Lib.hid hN0
  obtain ⟨rowz, hrz⟩ : ∃ rz, ((dgq k d N 0).map NLit).toArray = rz := ⟨_, rfl⟩
  rw [hrz] at hmk HN
  clear hN0 hrz
  have k0 : ((k : Int) == 0) = false := by simp; omega
  have k1 : ¬ (k : Int) = 0 := by omega
  go_enter Try.func18, Try.ntmps18
  go_wp2_with fail
  clear hmk
  have hb0 : Below w.heap.size w (w.alloc (.cells rowz 3)) := (Below.refl _ _).alloc (Nat.le_refl _) _
  obtain ⟨g, hg⟩ : ∃ g, w.heap.size = g := ⟨_, rfl⟩
  rw [hg] at HN
  simp only [hg]
  go_loopw [0, 8] (fun nv i wr => ∃ (q : Nat), q ≤ d ∧ i = .int .i64 ((d : Int) - 1 - (q : Int)) ∧ nv = .int .i64 ((N / k ^ q : Nat) : Int) ∧ Ow wr w.heap.size 3 NLit (some ⟨g, 0, none⟩) d d (dgq k d N q) ∧ Below w.heap.size w wr) (fun _ i _ => (intOf i + 1).toNat)
  case atStart => exact ⟨0, by omega, by simp, by simp, by simpa [hg] using HN.out, by rw [hg] at hb0 ⊢; exact hb0⟩
  case round =>
    clear hb0 HN
    obtain ⟨q, hq, rfl, rfl, hO, hb⟩ := hrel
    have hzr := hb.size
    by_cases hlt : q < d
    · obtain ⟨j, hj⟩ : ∃ j, d - 1 - q = j := ⟨_, rfl⟩
      have hji : (d : Int) - 1 - (q : Int) = (j : Int) := by omega
      have hst := dgq_set (k := k) (N := N) hlt
      have hdv := Nat.div_div_eq_div_mul N (k ^ q) k
      rw [← Nat.pow_succ] at hdv
      have hM : N / k ^ q ≤ N := Nat.div_le_self _ _
      obtain ⟨M, hMM⟩ : ∃ M, N / k ^ q = M := ⟨_, rfl⟩
      rw [hMM] at hst hM hdv ⊢
      rw [hj] at hst
      have hle : M / k ≤ M := Nat.div_le_self _ _
      obtain ⟨R, hR⟩ : ∃ R, M % k = R := ⟨_, rfl⟩
      obtain ⟨D, hD⟩ : ∃ D, M / k = D := ⟨_, rfl⟩
      have t1 : (M : Int).tmod (k : Int) = (R : Int) := by rw [← hR]; rfl
      have t2 : (M : Int).tdiv (k : Int) = (D : Int) := by rw [← hD]; rfl
      have t3 : IntKind.i64.wrap (D : Int) = (D : Int) := IntWalk.i64_in _ (by rw [hD] at hle; omega)
      have t4 : IntKind.i64.wrap ((j : Int) - 1) = (j : Int) - 1 := IntWalk.i64_in _ (by omega)
      obtain ⟨x, hx⟩ : ∃ x, (dgq k d N q)[j]? = some x := ⟨_, List.getElem?_eq_getElem (by simp [dgq]; omega)⟩
      obtain ⟨c1, c2, c3, c4⟩ := hO.cell_ hx
      have c1' : wr.cell? ⟨g, j, none⟩ = some (.int .i64 x) := c1
      have hO2 := hO.setF (show j < d by omega) R
      rw [← hR, hst] at hO2
      rw [hR] at hO2
      have hO3 : Ow (wr.setCell ⟨g, j, none⟩ (.int .i64 (R : Int))) w.heap.size 3 NLit (some ⟨g, 0, none⟩) d d (dgq k d N (q + 1)) := hO2
      have hbs := hb.setCell (p := ⟨g, j, none⟩) c3 (.int .i64 (R : Int))
      have HO3 := Lib.hid hO3
      have HBS := Lib.hid hbs
      have HDV := Lib.hid (hD.symm.trans hdv)
      have n1 : (0 : Int) ≤ (j : Int) := by omega
      have n2 : (j : Int) < (d : Int) := by omega
      rw [hji]
      clear hst hdv hMM hR hD hx c1 hO hO2 hO3 hbs hle
      go_wp2_with fail
      go_roundw
      case rel => exact ⟨q + 1, by omega, by first | (congr 1; omega) | go_num, by rw [HDV.out], HO3.out, HBS.out⟩
      case measure => first | (simp [intOf]; done) | (simp [intOf]; omega)
    · obtain rfl : q = d := by omega
      have hji : (q : Int) - 1 - (q : Int) = -1 := by omega
      rw [hji]
      rw [dgq_all] at hO
      have HO := Lib.hid hO
      clear hO
      go_wp2_with fail
      go_ret
      exact ⟨g, rfl, HO.out, hb⟩
end Go.Proofs.Ytillmnhhkhjpkaa
