/- The exact law of GreenTime, walked. -/
import Derived.Test.YtpfdhggejnbpbaaQh4
import Derived.Test.YtpfdhggejnbpbaaQr7
set_option linter.unusedVariables false
set_option linter.unusedSimpArgs false
namespace Go.Proofs.Ytpfdhggejnbpbaa
open Go.RowKit

set_option maxHeartbeats 1600000 in
theorem exactGreenTime_walk (At : Option Addr) (m ct : Nat) (A : Option Addr) (n c : Nat) (t : List (List Int)) (ss : List (List Int × Int)) (x : Int) (w : World) (h : Sl2 w w.heap.size ILit At m ct t ∧ SlS w w.heap.size A n c ss) :
    Calls Try.prog 5 #[.agg #[.slice At m ct, .slice A n c], .int .i64 x] w fun e w' => e = .returned (.bool true) ∧ Below w.heap.size w w' := by
  obtain ⟨hT, hS⟩ := h
  obtain ⟨W2, hW2⟩ : ∃ W2, w.alloc (.cells #[.slice At m ct, .slice A n c] 38) = W2 := ⟨_, rfl⟩
  have z2 : W2.heap.size = w.heap.size + 1 := by rw [← hW2]; simp
  have b2 : Below w.heap.size w W2 := by rw [← hW2]; exact (Below.refl _ _).alloc (Nat.le_refl _) _
  have hh : W2.heap[w.heap.size]? = some (.cells #[.slice At m ct, .slice A n c] 38 (0, 0)) := by rw [← hW2]; exact heap_alloc_new w _
  have KK : ∀ w', Below W2.heap.size W2 w' → w'.cell? ⟨w.heap.size, 0, none⟩ = some (.slice At m ct) ∧ w'.cell? ⟨w.heap.size, 1, none⟩ = some (.slice A n c) := fun w' hb => by
    have h1 := (hb.block _ (show w.heap.size < W2.heap.size by omega)).trans hh
    constructor
    · rw [cell_of_row _ _ _ _ _ _ h1]; rfl
    · rw [cell_of_row _ _ _ _ _ _ h1]; rfl
  have TT : ∀ w', Below w.heap.size w w' → Sl2 w' w'.heap.size ILit At m ct t ∧ SlS w' w'.heap.size A n c ss := fun w' hb => ⟨(hT.below hb).more hb.size, (hS.below hb).more hb.size⟩
  have SZ := Lib.hid (szPlan_c At m ct t A n c ss W2 _ (TT W2 b2).1 (TT W2 b2).2 (Nat.le_refl _))
  have s1 : ∀ At' m' ct' A' n' c' w', Sl2 w' w'.heap.size ILit At' m' ct' t → SlS w' w'.heap.size A' n' c' ss → Small t ss → Calls Try.prog 11 #[.agg #[.slice At' m' ct', .slice A' n' c'], .int .i64 x] w' (fun e w'' => e = .returned (.int .i64 (gtF t ss x)) ∧ Below w'.heap.size w' w'') := fun At' m' ct' A' n' c' w' a b hsm => sGreenTime_c At' m' ct' t A' n' c' ss x w' _ a b (Nat.le_refl _) (fun s hs => by have := hsm.2.2.2 s hs; omega) (by have h1 := hsm.1; rw [a.len] at h1; exact h1)
  have i1 : ∀ At' m' ct' A' n' c' w', Sl2 w' w'.heap.size ILit At' m' ct' t → SlS w' w'.heap.size A' n' c' ss → Small t ss → Calls Try.prog 10 #[.agg #[.slice At' m' ct', .slice A' n' c'], .int .i64 x] w' (fun e w'' => e = .returned (.int .i64 (gtF t ss x)) ∧ Below w'.heap.size w' w'') := fun At' m' ct' A' n' c' w' a b hsm => greenTime_c At' m' ct' t A' n' c' ss x w' _ a b (Nat.le_refl _) (fun s hs => by have := hsm.2.2.2 s hs; omega) (by have h1 := hsm.1; rw [a.len] at h1; exact h1)
  obtain ⟨R, hR⟩ : ∃ R, gtF t ss x = R := ⟨_, rfl⟩
  rw [hR] at s1 i1
  have S1 := Lib.hid s1
  have I1 := Lib.hid i1
  have HT := Lib.hid TT
  have HK := Lib.hid KK
  have HB2 := Lib.hid b2
  have HL := Lib.hid hS.len
  have Z2 := Lib.hid z2
  obtain ⟨q0, q1⟩ := KK W2 (Below.refl _ _)
  clear hh hR s1 i1 hT hS KK TT b2 z2
  go_enter Try.func5, Try.ntmps5
  go_wp2_with fail
  clear hW2 q0 q1
  refine SZ.out.mono ?_
  rintro e w1 ⟨v, rfl, hv0, hv1, hvG, hb1⟩
  have hzz := Z2.out
  have c1 := HB2.out.trans (hb1.mono (show w.heap.size ≤ W2.heap.size by omega))
  by_cases hvn : v < 0
  · go_wp2_with fail
    go_ret
    exact ⟨rfl, c1⟩
  have hsm := hvG (by omega)
  have hn9 : n ≤ 9223372036854775807 := by have := hsm.2.2.1; have := HL.out; omega
  have HG := Lib.hid hsm
  obtain ⟨k0, k1⟩ := HK.out w1 hb1
  have TP := Lib.hid (fun w' (hb : Below w.heap.size w w') => toPlan_f At m ct t A n c ss w' _ (HT.out w' hb).1 (HT.out w' hb).2 (Nat.le_refl _) HG.out)
  clear hvG SZ hsm
  go_wp2_with fail
  clear k0 k1
  refine (TP.out w1 c1).mono ?_
  rintro e w2 ⟨g, g2, hi, rfl, hO, hH, hg0, hg1, hg2, hb2⟩
  have e2 := hb1.trans (hb2.mono hb1.size)
  have c2 := c1.trans (hb2.mono c1.size)
  have P2 := Lib.hid (And.intro hO.sl2 (hH.done HL.out hn9))
  clear hO hH hb1 hb2
  go_wp2_with fail
  refine (S1.out _ _ _ _ _ _ w2 P2.out.1 P2.out.2 HG.out).mono ?_
  rintro e w3 ⟨rfl, hb3⟩
  have e3 := e2.trans (hb3.mono e2.size)
  have c3 := c2.trans (hb3.mono c2.size)
  obtain ⟨k0, k1⟩ := HK.out w3 e3
  clear hb3 e2 c2 P2 c1
  go_wp2_with fail
  clear k0 k1
  refine (TP.out w3 c3).mono ?_
  rintro e w4 ⟨h1, h2, hj, rfl, hO, hH, hh0, hh1, hh2, hb4⟩
  have e4 := e3.trans (hb4.mono e3.size)
  have c4 := c3.trans (hb4.mono c3.size)
  have P4 := Lib.hid (And.intro hO.sl2 (hH.done HL.out hn9))
  obtain ⟨k0, k1⟩ := HK.out w4 e4
  clear hO hH hb4 e3 c3
  go_wp2_with fail
  clear k0 k1
  obtain ⟨W5, hW5⟩ : ∃ W5, w4.alloc (.cells #[.slice (some ⟨h1, 0, none⟩) m m, .slice (some ⟨h2, 0, none⟩) n n] 26) = W5 := ⟨_, rfl⟩
  rw [hW5]
  have b5 : Below w4.heap.size w4 W5 := by rw [← hW5]; exact (Below.refl _ _).alloc (Nat.le_refl _) _
  have z5 : W5.heap.size = w4.heap.size + 1 := by rw [← hW5]; simp
  have hx5 : W5.heap[w4.heap.size]? = some (.cells #[.slice (some ⟨h1, 0, none⟩) m m, .slice (some ⟨h2, 0, none⟩) n n] 26 (0, 0)) := by rw [← hW5]; exact heap_alloc_new w4 _
  have p50 := (P4.out.1.below b5).more b5.size
  have p51 := (P4.out.2.below b5).more b5.size
  clear hW5
  refine (I1.out _ _ _ _ _ _ W5 p50 p51 HG.out).mono ?_
  rintro e w6 ⟨rfl, hb6⟩
  have z6 := hb6.size
  have b46 : Below w4.heap.size w4 w6 := b5.trans (hb6.mono (by omega))
  have e6 := e4.trans (b46.mono e4.size)
  have c6 := c4.trans (b46.mono c4.size)
  have hx6 := (hb6.block _ (show w4.heap.size < W5.heap.size by omega)).trans hx5
  have x0 : w6.cell? ⟨w4.heap.size, 0, none⟩ = some (.slice (some ⟨h1, 0, none⟩) m m) := by rw [cell_of_row _ _ _ _ _ _ hx6]; rfl
  have x1 : w6.cell? ⟨w4.heap.size, 1, none⟩ = some (.slice (some ⟨h2, 0, none⟩) n n) := by rw [cell_of_row _ _ _ _ _ _ hx6]; rfl
  have P6 := Lib.hid (And.intro ((p50.below hb6).more z6) ((p51.below hb6).more z6))
  obtain ⟨k0, k1⟩ := HK.out w6 e6
  have hlx : w4.heap.size < w6.heap.size := by omega
  have hlk : w.heap.size < w6.heap.size := by have := e6.size; omega
  have CP := Lib.hid (TP.out w6.drew ⟨c6.os, c6.tape, c6.output, c6.size, c6.block⟩)
  have C6 := Lib.hid c6
  clear hb6 b46 e6 c6 hx6 hx5 p50 p51 b5 e4 c4 P4 TP
  go_wp2_with fail
  go_region_held3 (fun w' => w'.cell? ⟨w4.heap.size, 0, none⟩ = some (.slice (some ⟨h1, 0, none⟩) m m) ∧ w'.cell? ⟨w4.heap.size, 1, none⟩ = some (.slice (some ⟨h2, 0, none⟩) n n) ∧ w'.cell? ⟨w.heap.size, 0, none⟩ = some (.slice At m ct) ∧ w'.cell? ⟨w.heap.size, 1, none⟩ = some (.slice A n c)) (first | go_keep | (exact ⟨s0, s1, s2, s3⟩) | (exact ⟨u0, u1, u2, u3⟩))
    (first | (go_at_call 15; refine CP.out.mono ?_; rintro e w7 ⟨g7, g8, hk, rfl, hO, hH, -, -, -, hb7⟩; have hb67 := below_undrew hb7; have hz7 := hb67.size; have s0 := (hb67.cell (p := ⟨w4.heap.size, 0, none⟩) hlx).trans x0; have s1 := (hb67.cell (p := ⟨w4.heap.size, 1, none⟩) hlx).trans x1; have s2 := (hb67.cell (p := ⟨w.heap.size, 0, none⟩) hlk).trans k0; have s3 := (hb67.cell (p := ⟨w.heap.size, 1, none⟩) hlk).trans k1; have C8 := Lib.hid (eqPlan_t (some ⟨h1, 0, none⟩) m m (some ⟨h2, 0, none⟩) n n (some ⟨g7, 0, none⟩) m m (some ⟨g8, 0, none⟩) n n t ss w7 _ ((P6.out.1.below hb67).more hz7) ((P6.out.2.below hb67).more hz7) hO.sl2 (hH.done HL.out hn9) (Nat.le_refl _)); clear hO hH) | (go_at_call 16; refine C8.out.mono ?_; rintro e w8 ⟨rfl, hb8⟩; have hb68 := hb67.trans (hb8.mono hz7); have u0 := (hb68.cell (p := ⟨w4.heap.size, 0, none⟩) hlx).trans x0; have u1 := (hb68.cell (p := ⟨w4.heap.size, 1, none⟩) hlx).trans x1; have u2 := (hb68.cell (p := ⟨w.heap.size, 0, none⟩) hlk).trans k0; have u3 := (hb68.cell (p := ⟨w.heap.size, 1, none⟩) hlk).trans k1) | fail)
  all_goals
    clear hb67 hb7 hb8 s0 s1 s2 s3 u0 u1 u2 u3 x0 x1 k0 k1
    go_wp2_with fail
    go_ret
    exact ⟨rfl, C6.out.trans (hb68.mono C6.out.size)⟩
end Go.Proofs.Ytpfdhggejnbpbaa
