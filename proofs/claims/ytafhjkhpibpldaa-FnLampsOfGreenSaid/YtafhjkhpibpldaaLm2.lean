/- LampsOf of the reference: its contract. -/
import Derived.Test.YtafhjkhpibpldaaLm1
import Derived.Test.YtafhjkhpibpldaaOwn
set_option linter.unusedVariables false
set_option linter.unusedSimpArgs false
namespace Go.Proofs.Ytafhjkhpibpldaa
open Go.RowKit

set_option maxHeartbeats 2000000 in
theorem sLampsOf_c (A : Option Addr) (n c : Nat) (xs : List Bool) (w : World) (hS : Sl w w.heap.size OLit A n c xs) :
    Calls Try.prog 15 #[.slice A n c] w fun e w' => e = .returned (.string ⟨(lampsF xs).toArray⟩) ∧ Below w.heap.size w w' := by
  have hlen := hS.len
  obtain ⟨hc0, hc1⟩ := hS.cap
  by_cases hn : 200 < n
  · have hf : lampsF xs = [] := by rw [lampsF, if_pos (by omega)]
    rw [hf]
    go_enter Try.func15, Try.ntmps15
    go_wp2
    go_ret
    exact ⟨rfl, by (repeat' (first | (with_reducible exact Below.refl _ _) | (with_reducible assumption) | (with_reducible refine Below.alloc ?_ ?_ _) | (with_reducible refine below_plus ?_ ?_ _ _) | (with_reducible refine Below.drew ?_) | (with_reducible refine Below.setCell ?_ ?_ _) | (with_reducible refine below_adv ?_ ?_ _) | go_size | (simp; omega)))⟩
  · have hf : lampsF xs = (lst xs n).1 := by rw [lampsF, if_neg (by omega), hlen]
    rw [hf]
    have HL := Lib.hid hlen
    clear hlen hf
    obtain ⟨i0, hi, hz0, hz1, hz2⟩ := info_parts byte_info
    go_enter Try.func15, Try.ntmps15
    go_wp2
    go_loopw [3, 4, 5] (fun v y i wr => ∃ (k : Nat) (yy : Int), k ≤ n ∧ i = .int .i64 k ∧ y = .int .i64 (3 - yy) ∧ Hid ((lst xs k).2 = yy) ∧ wr.ownsRow w.heap.size 5 1 v k (Lib.byteCells (lst xs k).1) ∧ Below w.heap.size w wr) (fun _ _ i _ => n - (intOf i).toNat)
    case atStart => exact ⟨0, 0, by omega, rfl, rfl, rfl, World.ownsRow_made w #[] 0 (Nat.le_refl _) (by decide) rfl, by (repeat' (first | (with_reducible exact Below.refl _ _) | (with_reducible assumption) | (with_reducible refine Below.alloc ?_ ?_ _) | (with_reducible refine below_plus ?_ ?_ _ _) | (with_reducible refine Below.drew ?_) | (with_reducible refine Below.setCell ?_ ?_ _) | (with_reducible refine below_adv ?_ ?_ _) | go_size | (simp; omega)))⟩
    case round =>
      obtain ⟨k, yy, hk, rfl, rfl, hy, hB, hbel⟩ := hrel
      have hyb := lst_y xs k
      rw [hy.out] at hyb
      obtain ⟨hy0, hy3⟩ := hyb
      have hll := lst_len xs k
      have hsz := hbel.size
      have hS2 := hS.below hbel
      obtain ⟨L, hL⟩ : ∃ L, L = (lst xs k).1 := ⟨_, rfl⟩
      rw [← hL] at hB
      have HLL := Lib.hid hL
      clear hll hL
      by_cases hlt : k < n
      · obtain ⟨b, o, g, rfl, hb, hg, hcell⟩ := hS2.at_ hlt
        have hcell' : wr.cell? ⟨b, o + k, none⟩ = some (.bool g) := hcell
        clear hcell
        cases g
        · by_cases hyp : 0 < yy
          · have hst := Lib.hid (lst_yl hg hy.out hyp)
            clear hg hS2
            go_wp2_with (at_builtin; refine wpList_app1 w wr rfl _ _ 31 rfl 5 i0 (.int .u8 0) 1 Try.underlying31 hi hz0 hz1 hz2 rfl (by decide) w.heap.size _ k _ (by rfl) hB _ rfl _ (by rfl) rfl (by omega) hbel hsz ?_; intro v1 w1 hB1 hb1 hg1)
            rw [byteCells_snoc L 89 89 rfl] at hB1
            go_roundw
            case rel => exact ⟨k + 1, yy - 1, by omega, by go_num, by go_num, by rw [hst.out]; rfl, by rw [hst.out, ← HLL.out]; exact hB1, hb1⟩
            case measure => simp [intOf]; omega
          · by_cases hk1 : k + 1 < n
            · obtain ⟨b2, o2, g2, hA2, hb2, hg2, hcell2⟩ := hS2.at_ hk1
              injection hA2 with hA2
              injection hA2 with hA3 hA4
              subst hA3 hA4
              have hcell2' : wr.cell? ⟨b, o + (k + 1), none⟩ = some (.bool g2) := hcell2
              clear hcell2
              cases g2
              · have hst := Lib.hid (lst_r hg hy.out hyp (by rw [hg2]; rfl))
                clear hg hg2 hS2
                go_wp2_with (at_builtin; refine wpList_app1 w wr rfl _ _ 31 rfl 5 i0 (.int .u8 0) 1 Try.underlying31 hi hz0 hz1 hz2 rfl (by decide) w.heap.size _ k _ (by rfl) hB _ rfl _ (by rfl) rfl (by omega) hbel hsz ?_; intro v1 w1 hB1 hb1 hg1)
                rw [byteCells_snoc L 82 82 rfl] at hB1
                go_roundw
                case rel => exact ⟨k + 1, yy, by omega, by go_num, rfl, by rw [hst.out]; rfl, by rw [hst.out, ← HLL.out]; exact hB1, hb1⟩
                case measure => simp [intOf]; omega
              · have hst := Lib.hid (lst_a hg hy.out hyp hg2)
                clear hg hg2 hS2
                go_wp2_with (at_builtin; refine wpList_app1 w wr rfl _ _ 31 rfl 5 i0 (.int .u8 0) 1 Try.underlying31 hi hz0 hz1 hz2 rfl (by decide) w.heap.size _ k _ (by rfl) hB _ rfl _ (by rfl) rfl (by omega) hbel hsz ?_; intro v1 w1 hB1 hb1 hg1)
                rw [byteCells_snoc L 65 65 rfl] at hB1
                go_roundw
                case rel => exact ⟨k + 1, yy, by omega, by go_num, rfl, by rw [hst.out]; rfl, by rw [hst.out, ← HLL.out]; exact hB1, hb1⟩
                case measure => simp [intOf]; omega
            · have hst := Lib.hid (lst_r hg hy.out hyp (by rw [List.getElem?_eq_none (by have := HL.out; omega)]; rfl))
              clear hg hS2
              go_wp2_with (at_builtin; refine wpList_app1 w wr rfl _ _ 31 rfl 5 i0 (.int .u8 0) 1 Try.underlying31 hi hz0 hz1 hz2 rfl (by decide) w.heap.size _ k _ (by rfl) hB _ rfl _ (by rfl) rfl (by omega) hbel hsz ?_; intro v1 w1 hB1 hb1 hg1)
              rw [byteCells_snoc L 82 82 rfl] at hB1
              go_roundw
              case rel => exact ⟨k + 1, yy, by omega, by go_num, rfl, by rw [hst.out]; rfl, by rw [hst.out, ← HLL.out]; exact hB1, hb1⟩
              case measure => simp [intOf]; omega
        · have hst := Lib.hid (lst_g hg)
          clear hg hS2
          go_wp2_with (at_builtin; refine wpList_app1 w wr rfl _ _ 31 rfl 5 i0 (.int .u8 0) 1 Try.underlying31 hi hz0 hz1 hz2 rfl (by decide) w.heap.size _ k _ (by rfl) hB _ rfl _ (by rfl) rfl (by omega) hbel hsz ?_; intro v1 w1 hB1 hb1 hg1)
          rw [byteCells_snoc L 71 71 rfl] at hB1
          go_roundw
          case rel => exact ⟨k + 1, 3, by omega, by go_num, by rfl, by rw [hst.out]; rfl, by rw [hst.out, ← HLL.out]; exact hB1, hb1⟩
          case measure => simp [intOf]; omega
      · obtain rfl : k = n := by omega
        clear hS2
        obtain ⟨A', c', rfl, hsl⟩ := own_sl (f := fun x : UInt8 => Value.int .u8 x.toNat) hB
        have hcv := run_bytes_str (P := Try.prog) wr 31 5 9 Try.underlying31 Try.underlying5 Try.underlying9 hsl
        clear hB hsl
        go_wp2
        go_ret
        exact ⟨by rw [HLL.out]; rfl, hbel⟩
end Go.Proofs.Ytafhjkhpibpldaa
