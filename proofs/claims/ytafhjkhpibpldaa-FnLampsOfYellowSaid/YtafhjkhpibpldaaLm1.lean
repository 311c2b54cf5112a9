/- LampsOf of the program: what it computes ('lst'), and its contract. -/
import Derived.Test.YtafhjkhpibpldaaBls
import Derived.Test.YtafhjkhpibpldaaOpen
import Derived.Handy
import Derived.Lib.Hide
set_option linter.unusedVariables false
set_option linter.unusedSimpArgs false
namespace Go.Proofs.Ytafhjkhpibpldaa
open Go.RowKit

/-- The lamps of the first k seconds, and how many seconds of yellow are left. -/
def lst (xs : List Bool) : Nat → List UInt8 × Int
  | 0 => ([], 0)
  | k + 1 =>
    if xs[k]?.getD false = true then ((lst xs k).1 ++ [71], 3)
    else if 0 < (lst xs k).2 then ((lst xs k).1 ++ [89], (lst xs k).2 - 1)
    else if xs[k + 1]?.getD false = true then ((lst xs k).1 ++ [65], (lst xs k).2)
    else ((lst xs k).1 ++ [82], (lst xs k).2)
def lampsF (xs : List Bool) : List UInt8 := if 200 < xs.length then [] else (lst xs xs.length).1

theorem lst_len (xs : List Bool) (k : Nat) : (lst xs k).1.length = k := by
  induction k with
  | zero => rfl
  | succ k ih =>
    unfold lst
    repeat' split
    all_goals simp [ih]
theorem lst_y (xs : List Bool) (k : Nat) : 0 ≤ (lst xs k).2 ∧ (lst xs k).2 ≤ 3 := by
  induction k with
  | zero => exact ⟨by simp [lst], by simp [lst]⟩
  | succ k ih =>
    unfold lst
    repeat' split
    all_goals simp <;> omega

theorem lst_g {xs : List Bool} {k : Nat} (h : xs[k]? = some true) : lst xs (k + 1) = ((lst xs k).1 ++ [71], 3) := by
  rw [lst, h]; rfl
theorem lst_yl {xs : List Bool} {k : Nat} {y : Int} (h : xs[k]? = some false) (hy : (lst xs k).2 = y) (h0 : 0 < y) : lst xs (k + 1) = ((lst xs k).1 ++ [89], y - 1) := by
  rw [lst, h, hy]; simp [h0]
theorem lst_a {xs : List Bool} {k : Nat} {y : Int} (h : xs[k]? = some false) (hy : (lst xs k).2 = y) (h0 : ¬ 0 < y) (h1 : xs[k + 1]? = some true) : lst xs (k + 1) = ((lst xs k).1 ++ [65], y) := by
  rw [lst, h, hy, h1]; simp [h0]
theorem lst_r {xs : List Bool} {k : Nat} {y : Int} (h : xs[k]? = some false) (hy : (lst xs k).2 = y) (h0 : ¬ 0 < y) (h1 : xs[k + 1]?.getD false = false) : lst xs (k + 1) = ((lst xs k).1 ++ [82], y) := by
  rw [lst, h, hy, h1]; simp [h0]

theorem byteCells_snoc (l : List UInt8) (c : UInt8) (v : Int) (h : v = c.toNat) : Lib.byteCells l ++ [.int .u8 v] = Lib.byteCells (l ++ [c]) := by
  subst h; simp [Lib.byteCells]

theorem bld_new (w : World) : Lib.IsBuilder 37 5 w.heap.size w.heap.size (Lib.byteCells []) (w.alloc (.cells #[.pointer none, .slice none 0 0] 37)) :=
  .inl ⟨Nat.le_refl _, _, heap_alloc_new w _, World.ownsRow_nil _ _ _ _, by simp [Value.ownBlock]⟩

set_option maxHeartbeats 2000000 in
theorem lampsOf_c (A : Option Addr) (n c : Nat) (xs : List Bool) (w : World) (hS : Sl w w.heap.size OLit A n c xs) :
    Calls Try.prog 17 #[.slice A n c] w fun e w' => e = .returned (.string ⟨(lampsF xs).toArray⟩) ∧ Below w.heap.size w w' := by
  have hlen := hS.len
  obtain ⟨hc0, hc1⟩ := hS.cap
  by_cases hn : 200 < n
  · have hf : lampsF xs = [] := by rw [lampsF, if_pos (by omega)]
    rw [hf]
    go_enter Try.func17, Try.ntmps17
    go_wp2
    go_ret
    exact ⟨rfl, by (repeat' (first | (with_reducible exact Below.refl _ _) | (with_reducible assumption) | (with_reducible refine Below.alloc ?_ ?_ _) | (with_reducible refine below_plus ?_ ?_ _ _) | (with_reducible refine Below.drew ?_) | (with_reducible refine Below.setCell ?_ ?_ _) | (with_reducible refine below_adv ?_ ?_ _) | go_size | (simp; omega)))⟩
  · have hf : lampsF xs = (lst xs n).1 := by rw [lampsF, if_neg (by omega), hlen]
    rw [hf]
    have HL := Lib.hid hlen
    clear hlen hf
    go_enter Try.func17, Try.ntmps17
    go_wp2
    go_loopw [4, 12] (fun y i wr => ∃ (k : Nat) (yy : Int), k ≤ n ∧ i = .int .i64 k ∧ y = .int .i64 yy ∧ Hid ((lst xs k).2 = yy) ∧ Lib.IsBuilder 37 5 w.heap.size w.heap.size (Lib.byteCells (lst xs k).1) wr ∧ Below w.heap.size w wr) (fun _ i _ => n - (intOf i).toNat)
    case atStart => exact ⟨0, 0, by omega, rfl, rfl, rfl, bld_new w, by (repeat' (first | (with_reducible exact Below.refl _ _) | (with_reducible assumption) | (with_reducible refine Below.alloc ?_ ?_ _) | (with_reducible refine below_plus ?_ ?_ _ _) | (with_reducible refine Below.drew ?_) | (with_reducible refine Below.setCell ?_ ?_ _) | (with_reducible refine below_adv ?_ ?_ _) | go_size | (simp; omega)))⟩
    case round =>
      obtain ⟨k, yy, hk, rfl, rfl, hy, hB, hbel⟩ := hrel
      have hyb := lst_y xs k
      rw [hy.out] at hyb
      obtain ⟨hy0, hy3⟩ := hyb
      have hll := lst_len xs k
      have hsz := hbel.size
      have hbl : (Lib.byteCells (lst xs k).1).length + 1 ≤ 140737488355328 := by rw [Lib.byteCells_length, hll]; omega
      have hS2 := hS.below hbel
      obtain ⟨L, hL⟩ : ∃ L, L = (lst xs k).1 := ⟨_, rfl⟩
      rw [← hL] at hB hbl
      have HLL := Lib.hid hL
      clear hll hL
      by_cases hlt : k < n
      · obtain ⟨b, o, g, rfl, hb, hg, hcell⟩ := hS2.at_ hlt
        have hcell' : wr.cell? ⟨b, o + k, none⟩ = some (.bool g) := hcell
        clear hcell
        cases g
        · by_cases hyp : 0 < yy
          · have hst := Lib.hid (lst_yl hg hy.out hyp)
            clear hg hS2
            go_wp2_with (go_at_call 23; refine (writeByte_c _ _ _ _ _ hB hbl hsz).mono ?_; rintro e w1 ⟨rfl, hB1, hb1⟩)
            rw [byteCells_snoc L 89 89 rfl] at hB1
            go_roundw
            case rel => exact ⟨k + 1, yy - 1, by omega, by go_num, rfl, by rw [hst.out]; rfl, by rw [hst.out, ← HLL.out]; exact .inr hB1, hbel.trans hb1⟩
            case measure => simp [intOf]; omega
          · by_cases hk1 : k + 1 < n
            · obtain ⟨b2, o2, g2, hA2, hb2, hg2, hcell2⟩ := hS2.at_ hk1
              injection hA2 with hA2
              injection hA2 with hA3 hA4
              subst hA3 hA4
              have hcell2' : wr.cell? ⟨b, o + (k + 1), none⟩ = some (.bool g2) := hcell2
              clear hcell2
              cases g2
              · have hst := Lib.hid (lst_r hg hy.out hyp (by rw [hg2]; rfl))
                clear hg hg2 hS2
                go_wp2_with (go_at_call 23; refine (writeByte_c _ _ _ _ _ hB hbl hsz).mono ?_; rintro e w1 ⟨rfl, hB1, hb1⟩)
                rw [byteCells_snoc L 82 82 rfl] at hB1
                go_roundw
                case rel => exact ⟨k + 1, yy, by omega, by go_num, rfl, by rw [hst.out]; rfl, by rw [hst.out, ← HLL.out]; exact .inr hB1, hbel.trans hb1⟩
                case measure => simp [intOf]; omega
              · have hst := Lib.hid (lst_a hg hy.out hyp hg2)
                clear hg hg2 hS2
                go_wp2_with (go_at_call 23; refine (writeByte_c _ _ _ _ _ hB hbl hsz).mono ?_; rintro e w1 ⟨rfl, hB1, hb1⟩)
                rw [byteCells_snoc L 65 65 rfl] at hB1
                go_roundw
                case rel => exact ⟨k + 1, yy, by omega, by go_num, rfl, by rw [hst.out]; rfl, by rw [hst.out, ← HLL.out]; exact .inr hB1, hbel.trans hb1⟩
                case measure => simp [intOf]; omega
            · have hst := Lib.hid (lst_r hg hy.out hyp (by rw [List.getElem?_eq_none (by have := HL.out; omega)]; rfl))
              clear hg hS2
              go_wp2_with (go_at_call 23; refine (writeByte_c _ _ _ _ _ hB hbl hsz).mono ?_; rintro e w1 ⟨rfl, hB1, hb1⟩)
              rw [byteCells_snoc L 82 82 rfl] at hB1
              go_roundw
              case rel => exact ⟨k + 1, yy, by omega, by go_num, rfl, by rw [hst.out]; rfl, by rw [hst.out, ← HLL.out]; exact .inr hB1, hbel.trans hb1⟩
              case measure => simp [intOf]; omega
        · have hst := Lib.hid (lst_g hg)
          clear hg hS2
          go_wp2_with (go_at_call 23; refine (writeByte_c _ _ _ _ _ hB hbl hsz).mono ?_; rintro e w1 ⟨rfl, hB1, hb1⟩)
          rw [byteCells_snoc L 71 71 rfl] at hB1
          go_roundw
          case rel => exact ⟨k + 1, 3, by omega, by go_num, rfl, by rw [hst.out]; rfl, by rw [hst.out, ← HLL.out]; exact .inr hB1, hbel.trans hb1⟩
          case measure => simp [intOf]; omega
      · obtain rfl : k = n := by omega
        clear hS2
        go_wp2_with (go_at_call 24; refine (bldString_c _ _ _ _ hB hsz).mono ?_; rintro e w1 ⟨rfl, hb1⟩)
        go_ret
        exact ⟨by rw [HLL.out]; rfl, hbel.trans hb1⟩
end Go.Proofs.Ytafhjkhpibpldaa
