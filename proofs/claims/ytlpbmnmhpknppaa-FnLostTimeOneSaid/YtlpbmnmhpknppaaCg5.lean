/- The generators anyPhase, DrawChangeTime. -/
import Derived.Test.YtlpbmnmhpknppaaCg4
set_option linter.unusedVariables false
set_option linter.unusedSimpArgs false
namespace Go.Proofs.Ytlpbmnmhpknppaa
open Go.RowKit

set_option maxHeartbeats 4000000 in
theorem anyPhase_c (w : World) (r n c p : Nat) (A : Option Addr) (bs : List Int) (hR : Rd w r A n c bs p) (hp : p ≤ 300000) (At : Option Addr) (m ct : Nat) (t : List (List Int)) (B : Nat) (hT : Sl2 w B ILit At m ct t) (hB : B ≤ w.heap.size) :
    Calls Try.prog 60 #[.pointer (some ⟨r, 0, none⟩), .slice At m ct] w (IntsOf w r p 9 13) := by
  have hlt := hR.lt
  have C1' := sValidClearance_c At m ct t w B hT hB
  have hT0 := hT.more hB
  cases hok : cOk t
  · rw [hok] at C1'
    have C1 := Lib.hid C1'
    clear C1' hok hT hT0
    go_enter Try.func60, Try.ntmps60
    go_wp2_with fail
    refine C1.out.mono ?_
    rintro e w1 ⟨rfl, hb1⟩
    have hz1 := hb1.size
    have hb01 : Below w.heap.size (adv w r p) w1 := by rw [adv_self hR]; exact hb1
    have hS := Sl.new w1 ILit [0] 3 (by simp)
    go_wp2_with fail
    go_ret
    exact ⟨_, _, _, p, _, rfl, hS.more (by simp), by simp, by omega, hb01.alloc hz1 _, fun _ b o h => by injection h with h; injection h with h; omega⟩
  · rw [hok] at C1'
    have C1 := Lib.hid C1'
    have HOK := Lib.hid hok
    clear C1' hok hT
    go_enter Try.func60, Try.ntmps60
    go_wp2_with fail
    refine C1.out.mono ?_
    rintro e w1 ⟨rfl, hb1⟩
    have hz1 := hb1.size
    have hb01 : Below w.heap.size (adv w r p) w1 := by rw [adv_self hR]; exact hb1
    have hR1 : Rd w1 r A n c bs p := hR.below hb1 hlt
    have C2 := Lib.hid (randomPhase_c w1 r n c p A bs hR1 (by omega) At m ct t _ (hT0.below hb1) hz1 HOK.out)
    clear C1 hT0 hb1
    go_wp2_with fail
    refine C2.out.mono ?_
    rintro e w2 ⟨A2, n2, c2, q2, xs, rfl, hS2, hn2, hq2, hb2, -⟩
    have hz2 := hb2.size
    rw [size_adv] at hz2
    have hR2 := (hR1.adv q2).below hb2 (by omega)
    have hb02 := (below_adv2 hb01 q2).trans (hb2.mono hz1)
    have C3 := Lib.hid (spoil_c w2 r n c q2 A bs hR2 (by omega) A2 n2 c2 _ xs 8 hS2 (Nat.le_refl _) (by omega))
    clear C2 hS2 hb2 hb01 hR1 hR2
    go_wp2_with fail
    refine C3.out.mono ?_
    rintro e w3 ⟨A3, n3, c3, q3, ys, rfl, hS3, hn3, hq3, hb3, hlo3⟩
    have HLO := Lib.hid hlo3
    have hb03 := (below_adv2 hb02 q3).trans (hb3.mono (by omega))
    clear hlo3
    go_wp2_with fail
    go_ret
    exact ⟨_, _, _, q3, _, rfl, hS3, by omega, by omega, hb03, fun h b o hA => by have := HLO.out h b o hA; omega⟩
def ChgDrawn (w : World) (e : Ending) (w' : World) : Prop :=
  ∃ A n c t A2 n2 c2 fr A3 n3 c3 to, e = .returned (.tuple #[.slice A n c, .slice A2 n2 c2, .slice A3 n3 c3]) ∧ Sl2 w' w'.heap.size ILit A n c t ∧ Sl w' w'.heap.size ILit A2 n2 c2 fr ∧ Sl w' w'.heap.size ILit A3 n3 c3 to ∧ n ≤ 8 ∧ n2 ≤ 9 ∧ n3 ≤ 9 ∧ Below w.heap.size w w'

set_option maxHeartbeats 4000000 in
theorem drawChangeTime_c (A : Option Addr) (n c : Nat) (bs : List Int) (w : World) (B : Nat) (hS : Sl w B BLit A n c bs) (hB : B ≤ w.heap.size) (hbs : ∀ x ∈ bs, 0 ≤ x ∧ x ≤ 255) :
    Calls Try.prog 35 #[.slice A n c] w (ChgDrawn w) := by
  go_enter Try.func35, Try.ntmps35
  go_wp2_with fail
  refine (newReader_c w A n c _ bs hS hB hbs).mono ?_
  rintro e w1 ⟨r, A1, n1, c1, bs1, rfl, hw1, hR, hr0, hr1⟩
  have hlt := hR.lt
  have hb1 : Below w.heap.size w w1 := by rw [← hw1]; exact (Below.refl _ _).alloc (Nat.le_refl _) _
  have hz1 := hb1.size
  clear hw1 hS hbs
  go_wp2_with fail
  refine (anyClear_c w1 r n1 c1 0 A1 bs1 hR (by omega)).mono ?_
  rintro e w2 ⟨A2, n2, c2, q2, t, rfl, hK2, hn2, hq2, hb2⟩
  have hz2 := hb2.size
  rw [size_adv] at hz2
  have hR2 := (hR.adv q2).below hb2 hlt
  have HK := Lib.hid hK2
  have C3 := Lib.hid (anyPhase_c w2 r n1 c1 q2 A1 bs1 hR2 (by omega) A2 n2 c2 t _ hK2.here (Nat.le_refl _))
  clear hK2
  go_wp2_with fail
  refine C3.out.mono ?_
  rintro e w3 ⟨A3, n3, c3, q3, fr, rfl, hS3, hn3, hq3, hb3, hlo3⟩
  have hz3 := hb3.size
  rw [size_adv] at hz3
  have hR3 := (hR2.adv q3).below hb3 (by omega)
  have hk3 : ∀ b, w1.heap.size ≤ b → b < w2.heap.size → w3.heap[b]? = w2.heap[b]? := fun b h1 h2 => (hb3.block b h2).trans (heap_adv _ _ _ _ (by omega))
  have C4 := Lib.hid (anyPhase_c w3 r n1 c1 q3 A1 bs1 hR3 (by omega) A2 n2 c2 t _ (HK.out w3 hk3) (by omega))
  have HK3 := Lib.hid hk3
  have HLO := Lib.hid hlo3
  clear hk3 C3 hlo3
  go_wp2_with fail
  refine C4.out.mono ?_
  rintro e w4 ⟨A4, n4, c4, q4, to, rfl, hS4, hn4, hq4, hb4, -⟩
  have hz4 := hb4.size
  rw [size_adv] at hz4
  have hT4 : Sl2 w4 w4.heap.size ILit A2 n2 c2 t := (HK.out w4 fun b h1 h2 => ((hb4.block b (by omega)).trans (heap_adv _ _ _ _ (by omega))).trans (HK3.out b h1 h2)).more (by omega)
  have hF4 : Sl w4 w4.heap.size ILit A3 n3 c3 fr := ((hS3.adv (q := q4) (r := r) fun h b o hA => by have := HLO.out h b o hA; omega).below hb4).more (by omega)
  have hb24 := (below_adv2 hb3 q4).trans (hb4.mono hz3)
  have hb14 := (below_adv2 hb2 q4).trans (hb24.mono hz2)
  have hb04 : Below w.heap.size w w4 := (below_adv hb1 hr0 q4).trans (hb14.mono hz1)
  clear hb4 hb24 hb14 hS3 hb3 hb2 C4
  go_wp2_with fail
  go_ret3
  exact ⟨_, _, _, _, _, _, _, _, _, _, _, _, rfl, hT4, hF4, hS4, hn2, hn3, hn4, hb04⟩
end Go.Proofs.Ytlpbmnmhpknppaa
