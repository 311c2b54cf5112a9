/- The exact law of GreenAt, walked. -/
import Derived.Test.YtckohbjgogbfaaaQh4
import Derived.Test.YtckohbjgogbfaaaQu1
import Derived.Test.YtckohbjgogbfaaaQi1
set_option linter.unusedVariables false
set_option linter.unusedSimpArgs false
namespace Go.Proofs.Ytckohbjgogbfaaa
open Go.RowKit

set_option maxHeartbeats 4000000 in
theorem exactGreenAt_walk (At : Option Addr) (m ct : Nat) (A : Option Addr) (n c : Nat) (t : List (List Int)) (ss : List (List Int × Int)) (x : Int) (w : World) (h : Sl2 w w.heap.size ILit At m ct t ∧ SlS w w.heap.size A n c ss) :
    Calls Try.prog 6 #[.agg #[.slice At m ct, .slice A n c], .int .i64 x] w fun e w' => e = .returned (.bool true) ∧ Below w.heap.size w w' := by
  obtain ⟨hT, hS⟩ := h
  obtain ⟨W2, hW2⟩ : ∃ W2, w.alloc (.cells #[.slice At m ct, .slice A n c] 42) = W2 := ⟨_, rfl⟩
  have z2 : W2.heap.size = w.heap.size + 1 := by rw [← hW2]; simp
  have b2 : Below w.heap.size w W2 := by rw [← hW2]; exact (Below.refl _ _).alloc (Nat.le_refl _) _
  have hh : W2.heap[w.heap.size]? = some (.cells #[.slice At m ct, .slice A n c] 42 (0, 0)) := by rw [← hW2]; exact heap_alloc_new w _
  have KK : ∀ w', Below W2.heap.size W2 w' → w'.cell? ⟨w.heap.size, 0, none⟩ = some (.slice At m ct) ∧ w'.cell? ⟨w.heap.size, 1, none⟩ = some (.slice A n c) := fun w' hb => by
    have h1 := (hb.block _ (show w.heap.size < W2.heap.size by omega)).trans hh
    constructor
    · rw [cell_of_row _ _ _ _ _ _ h1]; rfl
    · rw [cell_of_row _ _ _ _ _ _ h1]; rfl
  have TT : ∀ w', Below w.heap.size w w' → Sl2 w' w'.heap.size ILit At m ct t ∧ SlS w' w'.heap.size A n c ss := fun w' hb => ⟨(hT.below hb).more hb.size, (hS.below hb).more hb.size⟩
  have SZ := Lib.hid (szPlan_c At m ct t A n c ss W2 _ (TT W2 b2).1 (TT W2 b2).2 (Nat.le_refl _))
  obtain ⟨L, hL⟩ : ∃ L, gaF t ss x = L := ⟨_, rfl⟩
  have s1 : ∀ At' m' ct' A' n' c' w', Sl2 w' w'.heap.size ILit At' m' ct' t → SlS w' w'.heap.size A' n' c' ss → Small t ss → Calls Try.prog 10 #[.agg #[.slice At' m' ct', .slice A' n' c'], .int .i64 x] w' (OwnGreen w' L) := fun At' m' ct' A' n' c' w' a b hsm => by
    rw [← hL]; exact sGreenAt1_c At' m' ct' t A' n' c' ss x w' _ a b (Nat.le_refl _) (fun s hs => by have := hsm.2.2.2 s hs; omega) (by have h1 := hsm.1; rw [a.len] at h1; exact h1)
  have i1 : ∀ At' m' ct' A' n' c' w', Sl2 w' w'.heap.size ILit At' m' ct' t → SlS w' w'.heap.size A' n' c' ss → Small t ss → Calls Try.prog 8 #[.agg #[.slice At' m' ct', .slice A' n' c'], .int .i64 x] w' (OwnGreen w' L) := fun At' m' ct' A' n' c' w' a b hsm => by
    rw [← hL]; exact greenAt_c At' m' ct' t A' n' c' ss x w' _ a b (Nat.le_refl _) (fun s hs => by have := hsm.2.2.2 s hs; omega) (by have h1 := hsm.1; rw [a.len] at h1; exact h1)
  have HLL : Hid (Small t ss → L.length ≤ 1048576) := Lib.hid fun hsm => by
    rw [← hL]; unfold gaF; split
    · exact greenN_len fun s hs => by have := hsm.2.2.2 s hs; omega
    · exact Nat.zero_le _
  have S1 := Lib.hid s1
  have I1 := Lib.hid i1
  have HT := Lib.hid TT
  have HK := Lib.hid KK
  have HB2 := Lib.hid b2
  have HL := Lib.hid hS.len
  have HTL := Lib.hid hT.len
  have Z2 := Lib.hid z2
  obtain ⟨q0, q1⟩ := KK W2 (Below.refl _ _)
  clear hh hL s1 i1 hT hS KK TT b2 z2
  go_enter Try.func6, Try.ntmps6
  go_wp2_with fail
  clear hW2 q0 q1
  refine SZ.out.mono ?_
  rintro e w1 ⟨v, rfl, hv0, hv1, hvG, hb1⟩
  have hzz := Z2.out
  have c1 := HB2.out.trans (hb1.mono (show w.heap.size ≤ W2.heap.size by omega))
  by_cases hvn : v < 0
  · go_wp2_with fail
    go_ret
    exact ⟨rfl, c1⟩
  have hsm := hvG (by omega)
  have hn9 : n ≤ 9223372036854775807 := by have := hsm.2.2.1; have := HL.out; omega
  have HG := Lib.hid hsm
  have hLL := HLL.out hsm
  obtain ⟨k0, k1⟩ := HK.out w1 hb1
  have TP := Lib.hid (fun w' (hb : Below w.heap.size w w') => toPlan_f At m ct t A n c ss w' _ (HT.out w' hb).1 (HT.out w' hb).2 (Nat.le_refl _) HG.out)
  clear hvG SZ hsm
  go_wp2_with fail
  clear k0 k1
  refine (TP.out w1 c1).mono ?_
  rintro e w2 ⟨g, g2, hi, rfl, hO, hH, hg0, hg1, hg2, hb2⟩
  have e2 := hb1.trans (hb2.mono hb1.size)
  have c2 := c1.trans (hb2.mono c1.size)
  have P2 := Lib.hid (And.intro hO.sl2 (hH.done HL.out hn9))
  clear hO hH hb1 hb2
  go_wp2_with fail
  refine (S1.out _ _ _ _ _ _ w2 P2.out.1 P2.out.2 HG.out).mono ?_
  rintro e w3 ⟨v3, n3, rfl, hO3, hb3⟩
  obtain ⟨A3, c3', rfl, hW3⟩ := Ow.of_own hO3
  have R3 := Lib.hid hW3.sl
  have e3 := e2.trans (hb3.mono e2.size)
  have c3 := c2.trans (hb3.mono c2.size)
  obtain ⟨k0, k1⟩ := HK.out w3 e3
  clear hb3 e2 c2 P2 c1 hO3 hW3
  go_wp2_with fail
  clear k0 k1
  refine (TP.out w3 c3).mono ?_
  rintro e w4 ⟨h1, h2, hj, rfl, hO, hH, ⟨hh0, hh0'⟩, hh1, hh2, hb4⟩
  have e4 := e3.trans (hb4.mono e3.size)
  have c4 := c3.trans (hb4.mono c3.size)
  have P4 := Lib.hid (And.intro hO.sl2 (hH.done HL.out hn9))
  have HO4 := Lib.hid hO
  have HH4 := Lib.hid hH
  have HB34 := Lib.hid hb4
  obtain ⟨k0, k1⟩ := HK.out w4 e4
  have hz3w := c3.size
  have zW3 := e3.size
  clear hO hH hb4 e3 c3
  go_wp2_with fail
  clear k0 k1
  obtain ⟨W5, hW5⟩ : ∃ W5, w4.alloc (.cells #[.slice (some ⟨h1, 0, none⟩) m m, .slice (some ⟨h2, 0, none⟩) n n] 26) = W5 := ⟨_, rfl⟩
  rw [hW5]
  have b5 : Below w4.heap.size w4 W5 := by rw [← hW5]; exact (Below.refl _ _).alloc (Nat.le_refl _) _
  have z5 : W5.heap.size = w4.heap.size + 1 := by rw [← hW5]; simp
  have hx5 : W5.heap[w4.heap.size]? = some (.cells #[.slice (some ⟨h1, 0, none⟩) m m, .slice (some ⟨h2, 0, none⟩) n n] 26 (0, 0)) := by rw [← hW5]; exact heap_alloc_new w4 _
  have p50 := (P4.out.1.below b5).more b5.size
  have p51 := (P4.out.2.below b5).more b5.size
  clear hW5
  refine (I1.out _ _ _ _ _ _ W5 p50 p51 HG.out).mono ?_
  rintro e w6 ⟨v6, n6, rfl, hO6, hb6⟩
  obtain ⟨A6, c6', rfl, hW6⟩ := Ow.of_own hO6
  have hn6 := hW6.len
  have W6 := Lib.hid hW6
  have z6 := hb6.size
  have b46 : Below w4.heap.size w4 w6 := b5.trans (hb6.mono (by omega))
  have b36 : Below w3.heap.size w3 w6 := HB34.out.trans (b46.mono HB34.out.size)
  have X5 := Lib.hid hx5
  have B6 := Lib.hid hb6
  have HB46 := Lib.hid b46
  have HB36 := Lib.hid b36
  have E4 := Lib.hid e4
  have C4 := Lib.hid c4
  have E6 := Lib.hid (eqIntS_t A6 n6 c6' L A3 n3 c3' w6 _ _ hW6.sl (Nat.le_refl _) (R3.out.below b36) b36.size)
  clear hb6 b46 b36 hx5 p50 p51 b5 e4 c4 hO6 hW6
  go_wp2_with fail
  refine E6.out.mono ?_
  rintro e w7 ⟨rfl, hb7⟩
  have b47 : Below w4.heap.size w4 w7 := HB46.out.trans (hb7.mono HB46.out.size)
  have z7 := hb7.size
  have z47 := b47.size
  have e7 := E4.out.trans (b47.mono E4.out.size)
  have c7 := C4.out.trans (b47.mono C4.out.size)
  have hx7 := (hb7.block _ (show w4.heap.size < w6.heap.size by omega)).trans ((B6.out.block _ (show w4.heap.size < W5.heap.size by omega)).trans X5.out)
  have x0 : w7.cell? ⟨w4.heap.size, 0, none⟩ = some (.slice (some ⟨h1, 0, none⟩) m m) := by rw [cell_of_row _ _ _ _ _ _ hx7]; rfl
  have x1 : w7.cell? ⟨w4.heap.size, 1, none⟩ = some (.slice (some ⟨h2, 0, none⟩) n n) := by rw [cell_of_row _ _ _ _ _ _ hx7]; rfl
  have P7 := Lib.hid (And.intro ((P4.out.1.below b47).more b47.size) ((P4.out.2.below b47).more b47.size))
  obtain ⟨k0, k1⟩ := HK.out w7 e7
  have hlx : w4.heap.size < w7.heap.size := by omega
  have hlk : w.heap.size < w7.heap.size := by have := e7.size; omega
  have CP := Lib.hid (TP.out w7.drew ⟨c7.os, c7.tape, c7.output, c7.size, c7.block⟩)
  have C7 := Lib.hid c7
  have E7 := Lib.hid e7
  have X7 := Lib.hid hx7
  have B47 := Lib.hid b47
  have B67 := Lib.hid hb7
  clear hb7 b47 e7 c7 hx7 E6
  go_wp2_with fail
  go_region_held3 (fun w' => w'.cell? ⟨w4.heap.size, 0, none⟩ = some (.slice (some ⟨h1, 0, none⟩) m m) ∧ w'.cell? ⟨w4.heap.size, 1, none⟩ = some (.slice (some ⟨h2, 0, none⟩) n n) ∧ w'.cell? ⟨w.heap.size, 0, none⟩ = some (.slice At m ct) ∧ w'.cell? ⟨w.heap.size, 1, none⟩ = some (.slice A n c)) (first | go_keep | (exact ⟨s0, s1, s2, s3⟩) | (exact ⟨u0, u1, u2, u3⟩))
    (first | (go_at_call 16; refine CP.out.mono ?_; rintro e w8 ⟨g7, g8, hk, rfl, hO, hH, -, -, -, hb8⟩; have hb78 := below_undrew hb8; have hz8 := hb78.size; have s0 := (hb78.cell (p := ⟨w4.heap.size, 0, none⟩) hlx).trans x0; have s1 := (hb78.cell (p := ⟨w4.heap.size, 1, none⟩) hlx).trans x1; have s2 := (hb78.cell (p := ⟨w.heap.size, 0, none⟩) hlk).trans k0; have s3 := (hb78.cell (p := ⟨w.heap.size, 1, none⟩) hlk).trans k1; have C8 := Lib.hid (eqPlan_t (some ⟨h1, 0, none⟩) m m (some ⟨h2, 0, none⟩) n n (some ⟨g7, 0, none⟩) m m (some ⟨g8, 0, none⟩) n n t ss w8 _ ((P7.out.1.below hb78).more hz8) ((P7.out.2.below hb78).more hz8) hO.sl2 (hH.done HL.out hn9) (Nat.le_refl _)); clear hO hH) | (go_at_call 18; refine C8.out.mono ?_; rintro e w9 ⟨rfl, hb9⟩; have hb79 := hb78.trans (hb9.mono hz8); have u0 := (hb79.cell (p := ⟨w4.heap.size, 0, none⟩) hlx).trans x0; have u1 := (hb79.cell (p := ⟨w4.heap.size, 1, none⟩) hlx).trans x1; have u2 := (hb79.cell (p := ⟨w.heap.size, 0, none⟩) hlk).trans k0; have u3 := (hb79.cell (p := ⟨w.heap.size, 1, none⟩) hlk).trans k1) | fail)
  all_goals
    clear hb8 hb9 hb78 s0 s1 s2 s3 u2 u3 x0 x1 k0 k1 C8
    have b49 : Below w4.heap.size w4 w9 := B47.out.trans (hb79.mono z47)
    have z9 := b49.size
    have z79 := hb79.size
    have hM : ∃ M, (∀ s ∈ ss, s.1.length + 1 ≤ M) ∧ M ≤ 1048577 ∧ n * M ≤ 549756862464 := by
      have h9 := HG.out
      have hl9 := HL.out
      by_cases hbig : n ≤ 524288
      · exact ⟨1048577, fun s hs => by have := h9.2.2.2 s hs; omega, Nat.le_refl _, by omega⟩
      · exact ⟨524289, fun s hs => by have := h9.2.2.2 s hs; omega, by omega, by have := h9.2.2.1; omega⟩
    obtain ⟨M, hM1, hM2, hM3⟩ := hM
    have hm1 : m ≤ 1048576 := by have h9 := HG.out.1; have h8 := HTL.out; omega
    have hn1 : n ≤ 1048576 := by have h9 := HG.out.2.2.1; have h8 := HL.out; omega
    have hst := (HH4.out.sto HL.out hM1).below b49
    have hlt1 := (HH4.out.sto HL.out hM1).lt
    have MP := Lib.hid (markPlan_f h1 h2 hj w4.heap.size m n M t w9 (HO4.out.below b49) hst (by omega) (by omega) hh1 (by omega) (by omega) hm1 HG.out.2.1 hn1 hM2 hM3)
    have B49 := Lib.hid b49
    have B79 := Lib.hid hb79
    clear b49 hb79 hst hM1 hM3
    go_wp2_with fail
    clear u0 u1
    refine MP.out.mono ?_
    rintro e w10 ⟨k, rfl, hk0, hb10, hag10⟩
    have B69 : Below w6.heap.size w6 w9 := B67.out.trans (B79.out.mono B67.out.size)
    have z69 := B69.size
    have z36 := HB36.out.size
    have z46 := HB46.out.size
    have z34 := HB34.out.size
    have z10 := hb10.size
    have hW9 := W6.out.below B69
    have hW10 : Ow w10 W5.heap.size 3 ILit A6 n6 c6' L := hW9.keep fun b hb1 hb2 _ => hag10 b (by omega) hb2
    have b310 : Below w3.heap.size w3 w10 := (HB36.out.trans (B69.mono HB36.out.size)).trans (hb10.mono hh0)
    have hR10 := R3.out.below b310
    have b010 : Below w.heap.size w w10 := (C4.out.trans (B49.out.mono C4.out.size)).trans (hb10.mono (by omega))
    have HW10 := Lib.hid hW10
    have B310 := Lib.hid b310
    have B010 := Lib.hid b010
    have E10 := Lib.hid (eqIntS_t A6 n6 c6' L A3 n3 c3' w10 _ _ hW10.sl (Nat.le_refl _) hR10 b310.size)
    have ek10 : Below W2.heap.size W2 w10 := (E4.out.trans (B49.out.mono E4.out.size)).trans (hb10.mono (by omega))
    have EK10 := Lib.hid ek10
    clear B69 hW9 hW10 b310 hR10 b010 hb10 hag10 MP ek10
    go_wp2_with fail
    refine E10.out.mono ?_
    rintro e w11 ⟨rfl, hb11⟩
    have z11 := hb11.size
    have C11 := Lib.hid (markIntS_f A6 n6 c6' L 1 w11 W5.heap.size w11.heap.size (HW10.out.below hb11) (by omega) (fun _ _ => .inr (Nat.le_refl _)) (by omega) (by omega) (by omega))
    have HB11 := Lib.hid hb11
    clear hb11 E10
    go_wp2_with fail
    refine C11.out.mono ?_
    rintro e w12 ⟨rfl, hW12, hb12, z12, -⟩
    have HW12 := Lib.hid hW12
    have b0 : Below w.heap.size w w12 := (B010.out.trans (HB11.out.mono B010.out.size)).trans (hb12.mono (by omega))
    have b3 : Below w3.heap.size w3 w12 := (B310.out.trans (HB11.out.mono B310.out.size)).trans (hb12.mono (by omega))
    have ek : Below W2.heap.size W2 w12 := (EK10.out.trans (HB11.out.mono EK10.out.size)).trans (hb12.mono (by omega))
    have B012 := Lib.hid b0
    have B312 := Lib.hid b3
    have EK12 := Lib.hid ek
    have C12 := Lib.hid (heldIntS_c A6 n6 c6' 1 w12 _ hW12.sl (Nat.le_refl _) (by omega) (by omega) (by omega))
    clear hW12 hb12 C11 b0 b3 ek
    go_wp2_with fail
    refine C12.out.mono ?_
    rintro e w13 ⟨rfl, hb13⟩
    have z13 := hb13.size
    have ek := EK12.out.trans (hb13.mono EK12.out.size)
    have b0 := B012.out.trans (hb13.mono B012.out.size)
    obtain ⟨k0, k1⟩ := HK.out w13 ek
    have CP13 := Lib.hid (TP.out w13 b0)
    have HB13 := Lib.hid hb13
    clear hb13 C12 ek b0
    go_wp2_with fail
    clear k0 k1
    refine CP13.out.mono ?_
    rintro e w14 ⟨g9, g10, hi9, rfl, hO, hH, -, -, -, hb14⟩
    have z14 := hb14.size
    have HB14 := Lib.hid hb14
    have C14 := Lib.hid (I1.out _ _ _ _ _ _ w14 hO.sl2 (hH.done HL.out hn9) HG.out)
    clear hO hH hb14 CP13
    go_wp2_with fail
    refine C14.out.mono ?_
    rintro e w15 ⟨v15, n15, rfl, hO15, hb15⟩
    obtain ⟨A15, c15, rfl, hW15⟩ := Ow.of_own hO15
    have z15 := hb15.size
    have b1215 : Below w12.heap.size w12 w15 := HB13.out.trans ((HB14.out.trans (hb15.mono z14)).mono z13)
    have E15 := Lib.hid (eqIntS_t A15 n15 c15 L A3 n3 c3' w15 _ _ hW15.sl (Nat.le_refl _) (R3.out.below (B312.out.trans (b1215.mono B312.out.size))) (by have := B312.out.size; omega))
    have HB15 := Lib.hid b1215
    clear hO15 hW15 hb15 C14 b1215
    go_wp2_with fail
    refine E15.out.mono ?_
    rintro e w16 ⟨rfl, hb16⟩
    have b1216 := HB15.out.trans (hb16.mono HB15.out.size)
    have C16 := Lib.hid (heldIntS_c A6 n6 c6' 1 w16 _ (HW12.out.below b1216).sl (Nat.le_refl _) (by omega) (by omega) (by omega))
    have HB16 := Lib.hid b1216
    clear hb16 b1216 E15
    go_wp2_with fail
    refine C16.out.mono ?_
    rintro e w17 ⟨rfl, hb17⟩
    have b17 := B012.out.trans ((HB16.out.trans (hb17.mono HB16.out.size)).mono B012.out.size)
    clear hb17 C16
    go_wp2_with fail
    go_ret
    exact ⟨rfl, b17⟩
end Go.Proofs.Ytckohbjgogbfaaa
