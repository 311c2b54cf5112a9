/- spec.orders, walked: by induction on the depth. -/
import Derived.Test.YtlpbmnmhpknppaaCf1
import Derived.Test.YtlpbmnmhpknppaaBb
import Derived.Test.YtlpbmnmhpknppaaPe
set_option linter.unusedVariables false
set_option linter.unusedSimpArgs false
namespace Go.Proofs.Ytlpbmnmhpknppaa
open Go.RowKit

theorem OrdOf.one {w w' : World} {A : Option Addr} {n c : Nat} {o : List Int} {v : Value} {B : Nat} (hS : Sl w B ILit A n c o) (hB : B ≤ w.heap.size) (hb : Below w.heap.size w w') (hO : w'.ownsRow w.heap.size 35 1 v 1 [.slice A n c]) : OrdOf w A [o] (.returned v) w' := by
  obtain ⟨A5, c5, rfl, h5⟩ := own_sl (f := SLit) (xs := [(A, n, c)]) hO
  refine ⟨A5, c5, rfl, hb, [(A, n, c)], h5, rfl, fun j u xs hu hx => ?_⟩
  match j, hu, hx with
  | 0, hu, hx =>
    simp at hu hx
    subst hu hx
    exact ⟨((hS.more hB).below hb).more hb.size, fun _ b o' hA => .inr ⟨o', hA⟩⟩

set_option maxHeartbeats 4000000 in
theorem orders_c (n : Nat) (hn5 : n ≤ 5) : ∀ (d : Nat) (A : Option Addr) (k c : Nat) (o : List Int) (w : World) (B : Nat), Sl w B ILit A k c o → B ≤ w.heap.size → k + d = n →
    Calls Try.prog 65 #[.slice A k c, .int .i64 n] w (OrdOf w A (ordL n d o)) := by
  intro d
  induction d with
  | zero =>
    intro A k c o w B hO hB hkd
    obtain ⟨hc0, hc1⟩ := hO.cap
    obtain ⟨i1, hj, hj0, hj1, hj2⟩ := info_parts info_rowI
    have hkn : k = n := by omega
    subst hkn
    have HS := Lib.hid hO
    have h0 := World.ownsRow_made (base := w.heap.size) (e := 35) (size := 1) w #[] 0 (Nat.le_refl _) (by decide) rfl
    have hb1 : Below w.heap.size w (w.alloc (.cells #[] 35)) := (Below.refl _ _).alloc (Nat.le_refl _) _
    clear hO hkd
    go_enter Try.func65, Try.ntmps65
    go_wp2_with (at_builtin; refine wpList_app1 w (w.alloc (.cells #[] 35)) rfl _ _ 22 rfl 35 i1 (.slice none 0 0) 24 Try.underlying22 hj hj0 hj1 hj2 rfl (by decide) w.heap.size _ 0 _ (by rfl) h0 _ rfl _ (by rfl) (by simp) (by omega) hb1 (by simp) ?_; intro v8 w8 hO8 hb8 hg8)
    rw [List.nil_append] at hO8
    go_ret
    exact OrdOf.one HS.out hB hb8 hO8
  | succ d ih =>
    intro A k c o w B hO hB hkd
    obtain ⟨hc0, hc1⟩ := hO.cap
    obtain ⟨i0, hi, hi0, hi1, hi2⟩ := info_parts info_int
    obtain ⟨i1, hj, hj0, hj1, hj2⟩ := info_parts info_rowI
    have hO0 := hO.more hB
    have hkne : ((k : Int) == (n : Int)) = false := by simp; omega
    have hkne2 : (k == n) = false := by simp; omega
    have hkne3 : ¬ k = n := by omega
    have h0 := World.ownsRow_made (base := w.heap.size) (e := 35) (size := 1) w #[] 0 (Nat.le_refl _) (by decide) rfl
    have hM0 : Mix (w.alloc (.cells #[] 35)) w.heap.size 35 ILit (.slice (some ⟨w.heap.size, 0, none⟩) 0 0) 0 ([] : List (List Int)) := Mix.nil h0
    have hb1 : Below w.heap.size w (w.alloc (.cells #[] 35)) := (Below.refl _ _).alloc (Nat.le_refl _) _
    clear hO h0
    go_enter Try.func65, Try.ntmps65
    go_wp2_with fail
    go_loopw [5, 6] (fun v i wr => ∃ (j z : Nat), j ≤ n ∧ i = .int .i64 j ∧ Mix wr w.heap.size 35 ILit v z (ordUp n d o j) ∧ Below w.heap.size w wr) (fun _ i _ => n - (intOf i).toNat)
    case atStart => exact ⟨0, 0, by omega, rfl, hM0, hb1⟩
    case round =>
      clear hM0 hb1
      obtain ⟨j, z, hjn, rfl, hM, hb⟩ := hrel
      have hzr := hb.size
      have hzl := hM.len
      have hzs : z ≤ 15625 := by rw [← hzl]; exact ordUp_small hn5 (by omega) hjn
      clear hzl
      by_cases hlt : j < n
      · have C1 := Lib.hid (isIn_c A k c o (j : Int) wr _ (hO0.below hb) hzr (by omega))
        by_cases hin : (j : Int) ∈ o
        · rw [decide_eq_true hin] at C1
          have HN := Lib.hid (ordUp_in (n := n) (d := d) hin)
          go_wp2_with fail
          refine C1.out.mono ?_
          rintro e w1 ⟨rfl, hb1⟩
          go_wp2_with fail
          go_roundw
          case rel => exact ⟨j + 1, z, by omega, by go_num, by rw [HN.out]; exact hM.below hb1, hb.trans (hb1.mono hzr)⟩
          case measure => simp [intOf]; omega
        · rw [decide_eq_false hin] at C1
          have HN := Lib.hid (ordUp_out (n := n) (d := d) hin)
          have hys : (ordL n d (o ++ [(j : Int)])).length ≤ 3125 := ordL_small hn5 (by omega)
          obtain ⟨ys, hy⟩ : ∃ ys, ordL n d (o ++ [(j : Int)]) = ys := ⟨_, rfl⟩
          have HY := Lib.hid hy
          rw [hy] at hys
          clear hy
          go_wp2_with fail
          refine C1.out.mono ?_
          rintro e w1 ⟨rfl, hb1⟩
          have hb01 := hb.trans (hb1.mono hzr)
          have hz1 := hb01.size
          have hM1 := hM.below hb1
          have C2 := Lib.hid (copyInts_c A k c o w1 _ (hO0.below hb01) hz1 (by omega))
          clear C1 hM hb1 hb
          go_wp2_with fail
          refine C2.out.mono ?_
          rintro e w2 ⟨v2, rfl, hO2, hb2⟩
          have hz2 := hb2.size
          have hM2 := hM1.below hb2
          clear C2
          go_wp2_with (at_builtin; refine wpList_app1 w1 w2 rfl _ _ 35 rfl 3 i0 (.int .i64 0) 8 Try.underlying35 hi hi0 hi1 hi2 rfl (by decide) w1.heap.size _ k _ (by rfl) hO2 _ rfl _ (by rfl) rfl (by omega) hb2 hz2 ?_; intro v3 w3 hO3 hb3 hg3)
          rw [ints_snoc] at hO3
          obtain ⟨A3, c3, rfl, hW3⟩ := Ow.of_own hO3
          have hz3 := hb3.size
          have hM3 := hM1.below hb3
          obtain ⟨vs1, hv11, -⟩ := hM1
          have hvl := fun b hb => (hv11.lt b hb).2
          have HVL := Lib.hid hvl
          have HLO := Lib.hid hW3.lo
          have ch := ih A3 (k + 1) c3 _ w3 _ hW3.sl (Nat.le_refl _) (by omega)
          rw [HY.out] at ch
          have CH := Lib.hid ch
          clear ch hO3 hW3 hg3 hO2 hb2 hM2 hv11 hvl
          go_wp2_with fail
          refine CH.out.mono ?_
          rintro e w4 ⟨A4, c4, rfl, hb4, ts, hT4, htl, hrows⟩
          have hz4 := hb4.size
          have hM4 := hM3.below hb4
          obtain ⟨vs, hv1, hv2⟩ := hM4
          have hb04 := (hb01.trans (hb3.mono hz1)).trans (hb4.mono (by omega))
          have HRW := Lib.hid hrows
          have HTL := Lib.hid htl
          clear CH hM3 hrows htl hb3 hb01
          go_wp2_with (at_builtin; refine wpList_appS_at w w4 rfl _ _ 22 rfl 35 i1 (.slice none 0 0) 24 Try.underlying22 hj hj0 hj1 hj2 rfl (by decide) w.heap.size _ z _ (by rfl) hv1 A4 ys.length c4 _ SLit ts (by rfl) hT4 (fun _ => rfl) (by omega) (by omega) hb04 (by omega) ?_; intro v8 w8 hO8 hb8 hg8 hv8)
          have hM8 := Mix.appL hv1 hv2 HTL.out (fun j' u xs hu hx => by
            obtain ⟨e1, e2⟩ := HRW.out j' u xs hu hx
            refine ⟨e1, fun hp b o' hA => ?_⟩
            have hbb : w1.heap.size ≤ b := by
              rcases e2 hp b o' hA with h | ⟨o'', h⟩
              · omega
              · exact HLO.out (by omega) b o'' h
            exact ⟨by omega, fun e => by have := HVL.out b e; omega⟩) hO8 hg8 hv8
          clear hv1 hv2 hO8 hg8 hv8 hT4 hb4
          go_roundw
          case rel => exact ⟨j + 1, z + ys.length, by omega, by go_num, by rw [HN.out, HY.out]; exact hM8, hb8⟩
          case measure => simp [intOf]; omega
      · obtain rfl : j = n := by omega
        rw [ordUp_all] at hM
        obtain ⟨A5, c5, rfl, hz, hR⟩ := hM.ord (Ab := A) hb
        have HR := Lib.hid hR
        clear hM hR
        go_wp2_with fail
        go_ret
        exact HR.out
end Go.Proofs.Ytlpbmnmhpknppaa
