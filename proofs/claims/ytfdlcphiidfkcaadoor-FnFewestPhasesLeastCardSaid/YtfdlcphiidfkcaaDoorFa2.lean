/- conflictMasks, walked. -/
import Derived.Test.YtfdlcphiidfkcaaDoorFa1
import Derived.Test.YtfdlcphiidfkcaaDoorPp
import Derived.StillTailTactics
import Derived.Laws.ShiftsVar
import Derived.Laws.ShiftsVarLaws
set_option linter.unusedVariables false
set_option linter.unusedSimpArgs false
namespace Go.Proofs.YtfdlcphiidfkcaaDoor
open Go.RowKit

def ULit (x : Nat) : Value := .int .u64 x
section
variable {α : Type} {w : World} {base E n c g j : Nat} {f : α → Value} {xs : List α} {x : α}
theorem Ow.cell_ (h : Ow w base E f (some ⟨g, 0, none⟩) n c xs) (hx : xs[j]? = some x) : w.cell? ⟨g, j, none⟩ = some (f x) ∧ w.frozen? ⟨g, j, none⟩ = false ∧ base ≤ g ∧ g < w.heap.size := by
  obtain ⟨h1, h2, h3, h4⟩ := h
  have hj := (List.getElem?_eq_some_iff.1 hx).1
  obtain ⟨g', cs, hA, hb, hh, hc⟩ := h4 (by omega)
  injection hA with hA
  injection hA with hA
  subst hA
  exact ⟨by rw [cell_of_row _ _ _ _ _ _ hh]; exact hc j x hx, by simp [World.frozen?, hh], hb, lt_of_heap hh⟩
theorem Ow.setF (h : Ow w base E f (some ⟨g, 0, none⟩) n c xs) (hj : j < n) (y : α) : Ow (w.setCell ⟨g, j, none⟩ (f y)) base E f (some ⟨g, 0, none⟩) n c (xs.set j y) := by
  obtain ⟨h1, h2, h3, h4⟩ := h
  refine ⟨by simpa using h1, h2, h3, fun hn => ?_⟩
  obtain ⟨g', cs, hA, hb, hh, hc⟩ := h4 hn
  injection hA with hA
  injection hA with hA
  subst hA
  refine ⟨g, _, rfl, hb, heap_setCell_same w g j cs _ _ hh, fun k z hy => ?_⟩
  rw [Array.getElem?_setIfInBounds]
  have hjx : j < xs.length := by omega
  have hjc : j < cs.size := by
    have := hc j xs[j] (List.getElem?_eq_getElem hjx)
    exact (Array.getElem?_eq_some_iff.1 this).1
  rw [List.getElem?_set] at hy
  by_cases hk : j = k
  · subst hk
    rw [if_pos rfl, if_pos hjx] at hy
    injection hy with hy
    subst hy
    rw [if_pos rfl, if_pos hjc]
  · rw [if_neg hk] at hy ⊢
    exact hc k z hy
end
theorem rng_at {α : Type} (f : Nat → α) {n j : Nat} (h : j < n) : ((List.range n).map f)[j]? = some (f j) := by
  rw [List.getElem?_map, List.getElem?_range h]; rfl
theorem rng_set {α : Type} (f : Nat → α) {n j : Nat} (y : α) : ((List.range n).map f).set j y = (List.range n).map fun i => if i = j then y else f i := by
  apply List.ext_getElem?
  intro i
  rw [List.getElem?_set, List.getElem?_map, List.getElem?_map]
  by_cases hij : j = i
  · subst hij
    rw [if_pos rfl]
    by_cases hl : j < n
    · rw [if_pos (by simpa using hl), List.getElem?_range hl]; simp
    · rw [if_neg (by simpa using hl), List.getElem?_eq_none (by simpa using hl)]; rfl
  · rw [if_neg hij]
    by_cases hl : i < n
    · have hne : ¬ i = j := fun h => hij h.symm
      rw [List.getElem?_range hl]; simp [hne]
    · rw [List.getElem?_eq_none (by simpa using hl)]; rfl

/-- The numbers of the places that are true, the first k. -/
def cmk (r : List Bool) : Nat → Nat
  | 0 => 0
  | b + 1 => if r.getD b false = true then cmk r b ||| 2 ^ b else cmk r b
theorem cmk_lt (r : List Bool) (k : Nat) : cmk r k < 2 ^ k := by
  induction k with
  | zero => simp [cmk]
  | succ k ih =>
    have h2 : 2 ^ k < 2 ^ (k + 1) := Nat.pow_lt_pow_right (by omega) (by omega)
    unfold cmk
    split
    · exact Nat.or_lt_two_pow (by omega) h2
    · omega
theorem cmk_bit (r : List Bool) (k i : Nat) : (cmk r k).testBit i = (decide (i < k) && r.getD i false) := by
  induction k with
  | zero => simp [cmk]
  | succ k ih =>
    unfold cmk
    by_cases hr : r.getD k false = true
    · rw [if_pos hr, testBit_add, ih]
      by_cases hik : k = i
      · subst hik
        have h1 : k < k + 1 := by omega
        rw [hr]; simp [h1]
      · by_cases hlt : i < k
        · have h1 : i < k + 1 := by omega
          simp [hik, hlt, h1]
        · have h1 : ¬ i < k + 1 := by omega
          simp [hik, hlt, h1]
    · rw [if_neg hr, ih]
      by_cases hik : k = i
      · subst hik
        have h1 : r.getD k false = false := by simpa using hr
        rw [h1]; simp
      · by_cases hlt : i < k
        · have h1 : i < k + 1 := by omega
          simp [hlt, h1]
        · have h1 : ¬ i < k + 1 := by omega
          simp [hlt, h1]
/-- For each movement the set of those in conflict with it. -/
def mskN (t : List (List Bool)) (n i : Nat) : Nat := cmk (t.getD i []) n
def Masks (w : World) (n : Nat) (t : List (List Bool)) (e : Ending) (w' : World) : Prop :=
  ∃ g, e = .returned (.slice (some ⟨g, 0, none⟩) n n) ∧ Ow w' w.heap.size 44 ULit (some ⟨g, 0, none⟩) n n ((List.range n).map (mskN t n)) ∧ Below w.heap.size w w'

theorem info_uint : (Tryd.prog.info? 44).map (fun i => (i.zero, i.size, i.bytes)) = some (some (.int .u64 0), 1, 8) := by kernel_rfl
theorem made_repU (m : Nat) : madeCells #[.int .u64 0] m = (((List.range m).map fun _ => 0).map ULit).toArray := by
  have h1 := part_zero ULit (.int .u64 0) ((List.range m).map fun _ => 0)
  simp only [List.length_map, List.length_range] at h1
  rw [← h1]
  simp only [part, List.take_zero, List.map_nil, List.nil_append, List.length_map, List.length_range, Nat.sub_zero]
  congr 1
  apply List.ext_getElem
  · simp
  · intro i h1 h2; simp [ULit]

set_option maxRecDepth 2000 in
set_option maxHeartbeats 4000000 in
theorem conflictMasks_c (At : Option Addr) (n ct : Nat) (t : List (List Bool)) (w : World) (B : Nat) (hT : Sl2 w B OLit At n ct t) (hB : B ≤ w.heap.size) (hsq : sqB t = true) (hn : n ≤ 8) :
    Calls Tryd.prog 40 #[.slice At n ct] w (Masks w n t) := by
  obtain ⟨hc0, hc1⟩ := hT.cap
  have hmk := run_make_row' (P := Tryd.prog) 48 44 (.int .u64 0) 8 Tryd.underlying48 info_uint rfl .i64 .i64 n (by omega) (by omega)
  rw [made_repU] at hmk
  have hN := Ow.new w ULit ((List.range n).map fun _ => 0) 44 (by simp; omega)
  simp only [List.length_map, List.length_range] at hN
  have HN := Lib.hid hN
  have HSQ := Lib.hid hsq
  have HT := Lib.hid (hT.more hB)
  obtain ⟨rowz, hrz⟩ : ∃ rz, (((List.range n).map fun _ => 0).map ULit).toArray = rz := ⟨_, rfl⟩
  rw [hrz] at hmk HN
  clear hN hsq hT hrz
  go_enter Tryd.func40, Tryd.ntmps40
  go_wp2_with fail
  clear hmk
  have hb0 : Below w.heap.size w (w.alloc (.cells rowz 44)) := (Below.refl _ _).alloc (Nat.le_refl _) _
  obtain ⟨g, hg⟩ : ∃ g, w.heap.size = g := ⟨_, rfl⟩
  rw [hg] at HN
  simp only [hg]
  go_loopw [13] (fun i wr => ∃ (a : Nat), a ≤ n ∧ i = .int .i64 a ∧ Ow wr w.heap.size 44 ULit (some ⟨g, 0, none⟩) n n ((List.range n).map fun i => if i < a then mskN t n i else 0) ∧ Below w.heap.size w wr) (fun i _ => n - (intOf i).toNat)
  case atStart => exact ⟨0, by omega, rfl, by rw [hg]; simpa using HN.out, by rw [hg] at hb0 ⊢; exact hb0⟩
  case round =>
    clear hb0 HN
    obtain ⟨a, ha, rfl, hO, hb⟩ := hrel
    have hzr := hb.size
    by_cases hlt : a < n
    · obtain ⟨b, o, b1, o1, d1, ra, rfl, hbl, hbl1, hra, hral, hrac, hcell, hrow⟩ := (HT.out.below hb).entry HSQ.out hlt
      have r1 : wr.cell? ⟨b, o + a, none⟩ = some (.slice (some ⟨b1, o1, none⟩) n d1) := hcell
      have hmsk : ∀ k, cmk (t.getD a []) k = cmk ra k := fun k => by rw [List.getD_eq_getElem?_getD, hra]; rfl
      have hO0 : Ow wr w.heap.size 44 ULit (some ⟨g, 0, none⟩) n n ((List.range n).map fun i => if i < a then mskN t n i else if i = a then cmk ra 0 else 0) := by
        have e : (fun i => if i < a then mskN t n i else if i = a then cmk ra 0 else 0) = fun i => if i < a then mskN t n i else 0 := by
          funext i
          by_cases h1 : i < a
          · simp [h1]
          · by_cases h2 : i = a
            · subst h2; simp [cmk]
            · simp [h1, h2]
        rw [e]; exact hO
      have HRW := Lib.hid hrow
      have HRL := Lib.hid hral
      have HMK := Lib.hid hmsk
      have HB := Lib.hid hb
      clear hcell hrow hra hral hmsk hO
      go_wp2_with fail
      clear r1
      go_loopw [20] (fun i wr => ∃ (k : Nat), k ≤ n ∧ i = .int .i64 k ∧ Ow wr w.heap.size 44 ULit (some ⟨g, 0, none⟩) n n ((List.range n).map fun i => if i < a then mskN t n i else if i = a then cmk ra k else 0) ∧ Below w.heap.size w wr) (fun i _ => n - (intOf i).toNat)
      case atStart => exact ⟨0, by omega, rfl, hO0, hb⟩
      case round =>
        clear hO0 hb
        obtain ⟨k, hk, rfl, hO, hb⟩ := hrel
        have hzr2 := hb.size
        by_cases hkn : k < n
        · obtain ⟨x, hx⟩ : ∃ x, ra[k]? = some x := ⟨_, List.getElem?_eq_getElem (by have := HRL.out; omega)⟩
          have hxd : ra.getD k false = x := by rw [List.getD_eq_getElem?_getD, hx]; rfl
          have r2 : wr.cell? ⟨b1, o1 + k, none⟩ = some (.bool x) := ((hb.cell (p := ⟨b1, o1 + k, none⟩) hbl1).trans (HB.out.cell (p := ⟨b1, o1 + k, none⟩) hbl1).symm).trans (HRW.out k x hx)
          have u1 : b1 < wr.heap.size := by omega
          cases x
          · have hO1 : Ow wr w.heap.size 44 ULit (some ⟨g, 0, none⟩) n n ((List.range n).map fun i => if i < a then mskN t n i else if i = a then cmk ra (k + 1) else 0) := by
              rw [show cmk ra (k + 1) = cmk ra k by rw [cmk, hxd]; rfl]; exact hO
            have HO1 := Lib.hid hO1
            clear hO hO1 hx hxd
            go_wp2_with fail
            clear r2
            go_roundw
            case rel => exact ⟨k + 1, by omega, by go_num, HO1.out, hb⟩
            case measure => simp [intOf]; omega
          · obtain ⟨c1, f1, hg1, hg2⟩ := hO.cell_ (rng_at _ hlt)
            simp only [Nat.lt_irrefl, if_false, if_true, ULit] at c1
            have hO1 := hO.setF hlt (cmk ra (k + 1))
            rw [rng_set] at hO1
            have e : (fun i => if i = a then cmk ra (k + 1) else if i < a then mskN t n i else if i = a then cmk ra k else 0) = fun i => if i < a then mskN t n i else if i = a then cmk ra (k + 1) else 0 := by
              funext i
              by_cases h1 : i = a
              · subst h1; simp
              · simp [h1]
            rw [e] at hO1
            have hcm : cmk ra (k + 1) = cmk ra k ||| 2 ^ k := by rw [cmk, if_pos hxd]
            have hM0 := cmk_lt ra k
            have hP8 : 2 ^ k < 2 ^ 8 := Nat.pow_lt_pow_right (by omega) (by omega)
            obtain ⟨M, hM⟩ : ∃ M, cmk ra k = M := ⟨_, rfl⟩
            obtain ⟨M2, hM2⟩ : ∃ M2, cmk ra (k + 1) = M2 := ⟨_, rfl⟩
            rw [hM] at hcm c1 hM0
            rw [hM2] at hcm hO1
            have hpw : (2 : Int) ^ k = ((2 ^ k : Nat) : Int) := by simp
            obtain ⟨P, hP⟩ : ∃ P, 2 ^ k = P := ⟨_, rfl⟩
            rw [hP] at hpw hcm hM0 hP8
            have hpw2 : IntKind.u64.wrap ((P : Nat) : Int) = P := by rw [IntKind.wrap_u64]; omega
            have hor : bits BinOp.or IntKind.u64 (M : Int) (P : Int) = (M2 : Int) := by rw [hcm]; exact bits_or_u64_nat M P (by omega) (by omega)
            have hb1 := hb.setCell (p := ⟨g, a, none⟩) hg1 (ULit M2)
            have i0 : (0 : Int) ≤ (a : Int) := by omega
            have i1 : (a : Int) < (n : Int) := by omega
            have i2 : (0 : Int) ≤ (k : Int) := by omega
            have HO1 := Lib.hid hO1
            have HB1 := Lib.hid hb1
            have HM2 := Lib.hid hM2
            clear hO hO1 hx hxd e hcm hM hM2 hP hb1
            go_wp2_with fail
            clear r2
            go_still_tail 8, (by kernel_rfl)
            change wpList _ _ _ _ _ wr.drew
            clear hpw hpw2 hor
            go_wp2_with fail
            go_roundw
            case rel => exact ⟨k + 1, by omega, by go_num, by rw [HM2.out]; exact HO1.out.keep fun _ _ _ _ => rfl, HB1.out.drew⟩
            case measure => simp [intOf]; omega
        · obtain rfl : k = n := by omega
          have hO1 : Ow wr w.heap.size 44 ULit (some ⟨g, 0, none⟩) k k ((List.range k).map fun i => if i < a + 1 then mskN t k i else 0) := by
            have e : (fun i => if i < a then mskN t k i else if i = a then cmk ra k else 0) = fun i => if i < a + 1 then mskN t k i else 0 := by
              funext i
              by_cases h1 : i < a
              · have h2 : i < a + 1 := by omega
                simp [h1, h2]
              · by_cases h2 : i = a
                · subst h2
                  have h3 : i < i + 1 := by omega
                  simp only [h1, h3, if_true, if_false]
                  exact (HMK.out k).symm
                · have h3 : ¬ i < a + 1 := by omega
                  simp [h1, h2, h3]
            rw [← e]; exact hO
          have HO1 := Lib.hid hO1
          clear hO hO1
          go_wp2_with fail
          go_roundw
          case rel => exact ⟨a + 1, by omega, by go_num, HO1.out, hb⟩
          case measure => simp [intOf]; omega
    · obtain rfl : a = n := by omega
      have hO1 : Ow wr w.heap.size 44 ULit (some ⟨g, 0, none⟩) a a ((List.range a).map (mskN t a)) := by
        have e : (List.range a).map (fun i => if i < a then mskN t a i else 0) = (List.range a).map (mskN t a) := List.map_congr_left fun i hi => by rw [if_pos (List.mem_range.1 hi)]
        rw [← e]; exact hO
      have HO1 := Lib.hid hO1
      clear hO hO1
      go_wp2_with fail
      go_ret
      exact ⟨g, rfl, HO1.out, hb⟩
end Go.Proofs.YtfdlcphiidfkcaaDoor
