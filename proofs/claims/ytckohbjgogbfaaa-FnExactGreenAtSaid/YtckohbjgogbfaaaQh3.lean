/- The exact laws' copies of plans: toStageS, toPlan. -/
import Derived.Test.YtckohbjgogbfaaaQh2
set_option linter.unusedVariables false
set_option linter.unusedSimpArgs false
namespace Go.Proofs.Ytckohbjgogbfaaa
open Go.RowKit

/-- k stages of n are laid in block g, their phases behind it, one behind the other. -/
def HalfSt (wr : World) (g n k : Nat) (ss : List (List Int × Int)) : Prop :=
  ∃ (cs : Array Value) (gs ms : Nat → Nat), wr.heap[g]? = some (.cells cs 35 (0, 0)) ∧ cs.size = n * 2 ∧ (∀ (j : Nat) (s : List Int × Int), j < k → ss[j]? = some s → cs[j * 2]? = some (.slice (some ⟨gs j, 0, none⟩) (ms j) (ms j)) ∧ cs[j * 2 + 1]? = some (.int .i64 s.2) ∧ g < gs j ∧ gs j < wr.heap.size ∧ Ow wr (gs j) 3 ILit (some ⟨gs j, 0, none⟩) (ms j) (ms j) s.1) ∧ ∀ i j : Nat, i < j → j < k → gs i < gs j
theorem HalfSt.step {wr w1 : World} {g n k m g1 : Nat} {ss : List (List Int × Int)} {ph : List Int} {gr : Int} (h : HalfSt wr g n k ss) (hk : k < n) (hx : ss[k]? = some (ph, gr)) (hb : Below wr.heap.size wr w1)
    (hS : Ow w1 g1 3 ILit (some ⟨g1, 0, none⟩) m m ph) (h1 : wr.heap.size ≤ g1) (h2 : g1 < w1.heap.size) : HalfSt ((w1.setCell ⟨g, k * 2, none⟩ (.slice (some ⟨g1, 0, none⟩) m m)).setCell ⟨g, k * 2 + 1, none⟩ (.int .i64 gr)) g n (k + 1) ss := by
  obtain ⟨cs, gs, ms, e1, e2, e3, e4⟩ := h
  have hgl := lt_of_heap e1
  have hg1 : w1.heap[g]? = some (.cells cs 35 (0, 0)) := (hb.block g hgl).trans e1
  have hz := hb.size
  have hs2 : ((w1.setCell ⟨g, k * 2, none⟩ (.slice (some ⟨g1, 0, none⟩) m m)).setCell ⟨g, k * 2 + 1, none⟩ (.int .i64 gr)).heap.size = w1.heap.size := by simp [World.setCell]
  have hag : ∀ b, b ≠ g → ((w1.setCell ⟨g, k * 2, none⟩ (.slice (some ⟨g1, 0, none⟩) m m)).setCell ⟨g, k * 2 + 1, none⟩ (.int .i64 gr)).heap[b]? = w1.heap[b]? := fun b hne =>
    (Below.heap_setCell _ ⟨g, k * 2 + 1, none⟩ _ b hne).trans (Below.heap_setCell _ ⟨g, k * 2, none⟩ _ b hne)
  have hkl := (List.getElem?_eq_some_iff.1 hx).1
  refine ⟨_, fun j => if j = k then g1 else gs j, fun j => if j = k then m else ms j, heap_setCell_same _ g _ _ _ _ (heap_setCell_same w1 g _ cs _ _ hg1), by simp [e2], fun j s hj hs => ?_, fun i j hij hj => ?_⟩
  · rw [hs2]
    by_cases hjk : j = k
    · subst hjk
      rw [hx] at hs
      injection hs with hs
      subst hs
      simp only [if_true]
      refine ⟨?_, ?_, by omega, h2, hS.keep fun b hb1 _ _ => hag b (by omega)⟩
      · rw [Array.getElem?_setIfInBounds, if_neg (by omega), Array.getElem?_setIfInBounds, if_pos rfl, if_pos (by omega)]
      · rw [Array.getElem?_setIfInBounds, if_pos rfl, if_pos (by simp; omega)]
    · obtain ⟨a1, a2, a3, a4, a5⟩ := e3 j s (by omega) hs
      simp only [if_neg hjk]
      refine ⟨?_, ?_, a3, by omega, (a5.below hb).keep fun b hb1 _ _ => hag b (by omega)⟩
      · rw [Array.getElem?_setIfInBounds, if_neg (by omega), Array.getElem?_setIfInBounds, if_neg (by omega)]; exact a1
      · rw [Array.getElem?_setIfInBounds, if_neg (by omega), Array.getElem?_setIfInBounds, if_neg (by omega)]; exact a2
  · have hik : ¬ i = k := by omega
    simp only [if_neg hik]
    by_cases hjk : j = k
    · subst hjk
      simp only [if_true]
      obtain ⟨-, -, -, a4, -⟩ := e3 i ss[i] hij (List.getElem?_eq_getElem (by omega))
      omega
    · simp only [if_neg hjk]
      exact e4 i j hij (by omega)
theorem HalfSt.done {wr : World} {g n : Nat} {ss : List (List Int × Int)} (h : HalfSt wr g n n ss) (hl : ss.length = n) (hn : n ≤ 9223372036854775807) : SlS wr wr.heap.size (some ⟨g, 0, none⟩) n n ss := by
  obtain ⟨cs, gs, ms, e1, e2, e3, -⟩ := h
  refine ⟨hl, Nat.le_refl _, hn, fun _ => ⟨g, 0, rfl, lt_of_heap e1, fun j s hs => ?_⟩⟩
  have hj := (List.getElem?_eq_some_iff.1 hs).1
  obtain ⟨a1, a2, -, -, a4⟩ := e3 j s (by omega) hs
  refine ⟨_, ms j, ms j, ?_, ?_, a4.sl⟩
  · rw [cell_of_row _ _ _ _ _ _ e1, Nat.zero_add]; exact a1
  · rw [cell_of_row _ _ _ _ _ _ e1, Nat.zero_add]; exact a2

theorem HalfSt.past {wr w' : World} {g n k : Nat} {ss : List (List Int × Int)} (h : HalfSt wr g n k ss) (hz : wr.heap.size ≤ w'.heap.size) (hk : ∀ b, g ≤ b → b < wr.heap.size → w'.heap[b]? = wr.heap[b]?) : HalfSt w' g n k ss := by
  obtain ⟨cs, gs, ms, e1, e2, e3, e4⟩ := h
  refine ⟨cs, gs, ms, (hk g (Nat.le_refl _) (lt_of_heap e1)).trans e1, e2, fun j s hj hs => ?_, e4⟩
  obtain ⟨a1, a2, a3, a4, a5⟩ := e3 j s hj hs
  exact ⟨a1, a2, a3, by omega, a5.keep fun b hb1 hb2 _ => hk b (by omega) hb2⟩
theorem HalfSt.below {wr w' : World} {g n k : Nat} {ss : List (List Int × Int)} (h : HalfSt wr g n k ss) (hb : Below wr.heap.size wr w') : HalfSt w' g n k ss := h.past hb.size fun b _ hlt => hb.block b hlt
theorem HalfSt.set_past {wr : World} {g n k : Nat} {ss : List (List Int × Int)} (h : HalfSt wr g n k ss) (a : Addr) (v : Value) (ha : a.block < g) : HalfSt (wr.setCell a v) g n k ss :=
  h.past (by simp [World.setCell]) fun b hb _ => Below.heap_setCell _ _ _ _ (by omega)

/-- Stages copied. -/
def FreshStages (w : World) (n : Nat) (ss : List (List Int × Int)) (e : Ending) (w1 : World) : Prop :=
  ∃ g, e = .returned (.slice (some ⟨g, 0, none⟩) n n) ∧ HalfSt w1 g n n ss ∧ w.heap.size ≤ g ∧ Below w.heap.size w w1

set_option maxHeartbeats 1600000 in
theorem toStageS_f (A : Option Addr) (n c : Nat) (ss : List (List Int × Int)) (w : World) (B : Nat) (hS : SlS w B A n c ss) (hB : B ≤ w.heap.size) (hn : n ≤ 1048576) (hph : ∀ s ∈ ss, s.1.length ≤ 1048576) :
    Calls Try.prog 41 #[.slice A n c] w (FreshStages w n ss) := by
  have hmk := run_make_two (P := Try.prog) 24 35 (.agg #[.slice none 0 0, .int .i64 0]) (.slice none 0 0) (.int .i64 0) 32 Try.underlying24 info_stage rfl n (by omega) (by omega)
  have hsz : (madeCells #[.slice none 0 0, .int .i64 0] (n * 2)).size = n * 2 := by simp [madeCells]
  obtain ⟨cs0, hcs0⟩ : ∃ cs, madeCells #[.slice none 0 0, .int .i64 0] (n * 2) = cs := ⟨_, rfl⟩
  rw [hcs0] at hmk hsz
  have HZ := Lib.hid hsz
  have HL := Lib.hid hS.len
  have HP := Lib.hid hph
  obtain ⟨hc0, hc1⟩ := hS.cap
  have hS0 := hS.more hB
  clear hcs0 hsz hS hph
  go_enter Try.func41, Try.ntmps41
  go_wp2_with fail
  go_loopw [4] (fun i wr => ∃ k : Nat, k ≤ n ∧ i = .int .i64 k ∧ HalfSt wr w.heap.size n k ss ∧ Below w.heap.size w wr) (fun i _ => n - (intOf i).toNat)
  case atStart =>
    exact ⟨0, Nat.zero_le _, rfl, ⟨cs0, fun _ => 0, fun _ => 0, heap_alloc_new w _, HZ.out, fun j s hj => absurd hj (by omega), fun i j _ hj => absurd hj (by omega)⟩, (Below.refl _ _).alloc (Nat.le_refl _) _⟩
  case round =>
    obtain ⟨k, hk, rfl, hH, hb⟩ := hrel
    have hzr := hb.size
    by_cases hlt : k < n
    · obtain ⟨b, o, ph, gr, A', n', c', rfl, hbl, hx, hcell, hcellg, hrow⟩ := (hS0.below hb).at_ hlt
      have r1 : wr.cell? ⟨b, o + k * 2, none⟩ = some (.slice A' n' c') := hcell
      have r2 : wr.cell? ⟨b, o + k * 2 + 1, none⟩ = some (.int .i64 gr) := hcellg
      have hn' : n' ≤ 1048576 := by rw [← hrow.len]; exact HP.out _ (List.mem_of_getElem? hx)
      have hgl : w.heap.size < wr.heap.size := by
        obtain ⟨cs, gs, ms, e1, -⟩ := hH
        exact lt_of_heap e1
      have HX := Lib.hid hx
      have CS := Lib.hid (toStage_f A' n' c' ph gr wr w.heap.size hrow hzr hn')
      clear hcell hcellg hmk hx hrow
      go_wp2_with fail
      refine CS.out.mono ?_
      rintro e w1 ⟨g1, m, rfl, hS1, hg1, hg1', hb1⟩
      have hz1 := hb1.size
      have hN := Lib.hid (hH.step hlt HX.out hb1 hS1 hg1 hg1')
      have hbb := hb.trans (hb1.mono hzr)
      obtain ⟨o0, o1, c0, c1, f0, f1⟩ : ∃ o0 o1, w1.cell? ⟨w.heap.size, k * 2, none⟩ = some o0 ∧ w1.cell? ⟨w.heap.size, k * 2 + 1, none⟩ = some o1 ∧ w1.frozen? ⟨w.heap.size, k * 2, none⟩ = false ∧ w1.frozen? ⟨w.heap.size, k * 2 + 1, none⟩ = false := by
        obtain ⟨cs, gs, ms, e1, e2, -⟩ := hH
        have e3 := (hb1.block _ hgl).trans e1
        refine ⟨cs[k * 2]'(by omega), cs[k * 2 + 1]'(by omega), ?_, ?_, by simp [World.frozen?, e3], by simp [World.frozen?, e3]⟩
        · rw [cell_of_row w1 _ _ cs _ _ e3]
          exact Array.getElem?_eq_getElem (by omega)
        · rw [cell_of_row w1 _ _ cs _ _ e3]
          exact Array.getElem?_eq_getElem (by omega)
      clear hH hS1 hb1 hb CS
      go_wp2_with fail
      go_roundw
      case rel => exact ⟨k + 1, by omega, by go_num, hN.out, (hbb.setCell (Nat.le_refl _) _).setCell (Nat.le_refl _) _⟩
      case measure => simp [intOf]; omega
    · obtain rfl : k = n := by omega
      have hN := Lib.hid hH
      clear hmk hH hS0
      go_wp2_with fail
      go_ret
      exact ⟨_, rfl, hN.out, Nat.le_refl _, hb⟩
/-- A plan copied. -/
def FreshPlan (w : World) (m n : Nat) (t : List (List Int)) (ss : List (List Int × Int)) (e : Ending) (w1 : World) : Prop :=
  ∃ g h hi, e = .returned (.agg #[.slice (some ⟨g, 0, none⟩) m m, .slice (some ⟨h, 0, none⟩) n n]) ∧ Ow2 w1 g hi 29 3 ILit (some ⟨g, 0, none⟩) m m t ∧ HalfSt w1 h n n ss ∧ (w.heap.size ≤ g ∧ g < hi) ∧ hi ≤ h ∧ w.heap.size ≤ hi ∧ Below w.heap.size w w1

set_option maxHeartbeats 1600000 in
theorem toPlan_f (At : Option Addr) (m ct : Nat) (t : List (List Int)) (A : Option Addr) (n c : Nat) (ss : List (List Int × Int)) (w : World) (B : Nat) (hT : Sl2 w B ILit At m ct t) (hS : SlS w B A n c ss) (hB : B ≤ w.heap.size) (hsm : Small t ss) :
    Calls Try.prog 16 #[.agg #[.slice At m ct, .slice A n c]] w (FreshPlan w m n t ss) := by
  obtain ⟨W2, hW2⟩ : ∃ W2, w.alloc (.cells #[.slice At m ct, .slice A n c] 42) = W2 := ⟨_, rfl⟩
  obtain ⟨W3, hW3⟩ : ∃ W3, W2.alloc (.cells #[.slice none 0 0, .slice none 0 0] 26) = W3 := ⟨_, rfl⟩
  obtain ⟨W4, hW4⟩ : ∃ W4, W3.alloc (.cells #[.slice none 0 0, .slice none 0 0] 26) = W4 := ⟨_, rfl⟩
  have z2 : W2.heap.size = w.heap.size + 1 := by rw [← hW2]; simp
  have z3 : W3.heap.size = w.heap.size + 1 + 1 := by rw [← hW3]; simp [z2]
  have z4 : W4.heap.size = w.heap.size + 1 + 1 + 1 := by rw [← hW4]; simp [z3]
  have b2 : Below w.heap.size w W2 := by rw [← hW2]; exact (Below.refl _ _).alloc (Nat.le_refl _) _
  have b3 : Below W2.heap.size W2 W3 := by rw [← hW3]; exact (Below.refl _ _).alloc (Nat.le_refl _) _
  have b4 : Below W3.heap.size W3 W4 := by rw [← hW4]; exact (Below.refl _ _).alloc (Nat.le_refl _) _
  have hh : W4.heap[w.heap.size]? = some (.cells #[.slice At m ct, .slice A n c] 42 (0, 0)) := by
    rw [b4.block _ (by omega), b3.block _ (by omega), ← hW2]; exact heap_alloc_new w _
  have hh1 : W4.heap[w.heap.size + 1]? = some (.cells #[.slice none 0 0, .slice none 0 0] 26 (0, 0)) := by
    rw [b4.block _ (by omega), ← hW3, ← z2]; exact heap_alloc_new W2 _
  have hh2 : W4.heap[w.heap.size + 1 + 1]? = some (.cells #[.slice none 0 0, .slice none 0 0] 26 (0, 0)) := by
    rw [← hW4, ← z3]; exact heap_alloc_new W3 _
  have hb : Below w.heap.size w W4 := (b2.trans (b3.mono (by omega))).trans (b4.mono (by omega))
  have k0 : W4.cell? ⟨w.heap.size, 0, none⟩ = some (.slice At m ct) := by rw [cell_of_row _ _ _ _ _ _ hh]; rfl
  obtain ⟨s1, s2, s3, s4⟩ := hsm
  rw [hT.len] at s1
  rw [hS.len] at s3
  have hT0 := ((hT.more hB).below hb).more hb.size
  have CI := Lib.hid (toIntSS_f At m ct t W4 _ hT0 (Nat.le_refl _) (by omega) s2)
  have HH := Lib.hid hh
  have HH1 := Lib.hid hh1
  have HH2 := Lib.hid hh2
  have HB := Lib.hid hb
  have Z4 := Lib.hid z4
  have HS := Lib.hid (hS.more hB)
  have HPH : Hid (∀ s ∈ ss, s.1.length ≤ 1048576) := Lib.hid fun s hs => by have := s4 s hs; omega
  clear hT hS hT0 b2 b3 b4 hh hh1 hh2 hb z4 s4
  go_enter Try.func16, Try.ntmps16
  go_wp2_with fail
  clear hW2 hW3 hW4 z2 z3
  refine CI.out.mono ?_
  rintro e w1 ⟨g1, rfl, hO1, hg1, hg2, hb1⟩
  have hz4 := Z4.out
  have hz1 := hb1.size
  obtain ⟨W5, hW5⟩ : ∃ W5, w1.setCell ⟨w.heap.size + 1 + 1, 0, none⟩ (.slice (some ⟨g1, 0, none⟩) m m) = W5 := ⟨_, rfl⟩
  have i2 := (hb1.block _ (show w.heap.size + 1 + 1 < W4.heap.size by omega)).trans HH2.out
  have j0 : W5.heap[w.heap.size]? = some (.cells #[.slice At m ct, .slice A n c] 42 (0, 0)) := by
    rw [← hW5, Below.heap_setCell _ _ _ _ (by show w.heap.size ≠ w.heap.size + 1 + 1; omega)]; exact (hb1.block _ (show w.heap.size < W4.heap.size by omega)).trans HH.out
  have j1 : W5.heap[w.heap.size + 1]? = some (.cells #[.slice none 0 0, .slice none 0 0] 26 (0, 0)) := by
    rw [← hW5, Below.heap_setCell _ _ _ _ (by show w.heap.size + 1 ≠ w.heap.size + 1 + 1; omega)]; exact (hb1.block _ (show w.heap.size + 1 < W4.heap.size by omega)).trans HH1.out
  have j2 : W5.heap[w.heap.size + 1 + 1]? = some (.cells #[.slice (some ⟨g1, 0, none⟩) m m, .slice none 0 0] 26 (0, 0)) := by
    rw [← hW5]; exact heap_setCell_same _ (w.heap.size + 1 + 1) 0 _ _ _ i2
  have z5 : W5.heap.size = w1.heap.size := by rw [← hW5]; simp [World.setCell]
  have hb5 : Below w.heap.size w W5 := by rw [← hW5]; exact (HB.out.trans (hb1.mono (by omega))).setCell (show w.heap.size ≤ w.heap.size + 1 + 1 by omega) _
  have hO5 : Ow2 W5 g1 w1.heap.size 29 3 ILit (some ⟨g1, 0, none⟩) m m t := by
    rw [← hW5]; exact hO1.keep fun b hbl _ _ => Below.heap_setCell _ _ _ _ (by show b ≠ w.heap.size + 1 + 1; omega)
  have c20 : w1.cell? ⟨w.heap.size + 1 + 1, 0, none⟩ = some (.slice none 0 0) := by rw [cell_of_row _ _ _ _ _ _ i2]; rfl
  have f20 : w1.frozen? ⟨w.heap.size + 1 + 1, 0, none⟩ = false := by simp [World.frozen?, i2]
  have c01 : W5.cell? ⟨w.heap.size, 1, none⟩ = some (.slice A n c) := by rw [cell_of_row _ _ _ _ _ _ j0]; rfl
  have CS := Lib.hid (toStageS_f A n c ss W5 _ (((HS.out.below hb5).more hb5.size)) (Nat.le_refl _) s3 HPH.out)
  have J1 := Lib.hid j1
  have J2 := Lib.hid j2
  have HO5 := Lib.hid hO5
  have HB5 := Lib.hid hb5
  clear i2 j0 j1 j2 hO5 hO1 hb1 hb5 CI k0
  go_wp2_with fail
  clear c20 f20 c01 hW5
  refine CS.out.mono ?_
  rintro e w2 ⟨g2, rfl, hO2, hg3, hb2⟩
  have hz2 := hb2.size
  have i1 := (hb2.block _ (show w.heap.size + 1 < W5.heap.size by omega)).trans J1.out
  have i2 := (hb2.block _ (show w.heap.size + 1 + 1 < W5.heap.size by omega)).trans J2.out
  have c10 : w2.cell? ⟨w.heap.size + 1, 0, none⟩ = some (.slice none 0 0) := by rw [cell_of_row _ _ _ _ _ _ i1]; rfl
  have c11 : w2.cell? ⟨w.heap.size + 1, 1, none⟩ = some (.slice none 0 0) := by rw [cell_of_row _ _ _ _ _ _ i1]; rfl
  have c20 : w2.cell? ⟨w.heap.size + 1 + 1, 0, none⟩ = some (.slice (some ⟨g1, 0, none⟩) m m) := by rw [cell_of_row _ _ _ _ _ _ i2]; rfl
  have c21 : w2.cell? ⟨w.heap.size + 1 + 1, 1, none⟩ = some (.slice none 0 0) := by rw [cell_of_row _ _ _ _ _ _ i2]; rfl
  have f10 : w2.frozen? ⟨w.heap.size + 1, 0, none⟩ = false := by simp [World.frozen?, i1]
  have f11 : w2.frozen? ⟨w.heap.size + 1, 1, none⟩ = false := by simp [World.frozen?, i1]
  have f21 : w2.frozen? ⟨w.heap.size + 1 + 1, 1, none⟩ = false := by simp [World.frozen?, i2]
  have I1 := Lib.hid i1
  have HO := Lib.hid hO2
  have HO1 := Lib.hid (HO5.out.below hb2)
  have HB1 := Lib.hid (HB5.out.trans (hb2.mono (by omega)))
  clear i1 i2 hO2 hb2 CS
  go_wp2_with fail
  obtain ⟨X, hX⟩ : ∃ X, ((w2.setCell ⟨w.heap.size + 1 + 1, 1, none⟩ (.slice (some ⟨g2, 0, none⟩) n n)).setCell ⟨w.heap.size + 1, 0, none⟩ (.slice (some ⟨g1, 0, none⟩) m m)).setCell ⟨w.heap.size + 1, 1, none⟩ (.slice (some ⟨g2, 0, none⟩) n n) = X := ⟨_, rfl⟩
  have hQX : X.heap[w.heap.size + 1]? = some (.cells #[.slice (some ⟨g1, 0, none⟩) m m, .slice (some ⟨g2, 0, none⟩) n n] 26 (0, 0)) := by
    rw [← hX]
    have e1 : (w2.setCell ⟨w.heap.size + 1 + 1, 1, none⟩ (.slice (some ⟨g2, 0, none⟩) n n)).heap[w.heap.size + 1]? = some (.cells #[.slice none 0 0, .slice none 0 0] 26 (0, 0)) := (Below.heap_setCell _ ⟨w.heap.size + 1 + 1, 1, none⟩ _ _ (by show w.heap.size + 1 ≠ w.heap.size + 1 + 1; omega)).trans I1.out
    have e2 := heap_setCell_same _ (w.heap.size + 1) 0 _ _ (.slice (some ⟨g1, 0, none⟩) m m) e1
    exact heap_setCell_same _ (w.heap.size + 1) 1 _ _ (.slice (some ⟨g2, 0, none⟩) n n) e2
  have d0 : X.cell? ⟨w.heap.size + 1, 0, none⟩ = some (.slice (some ⟨g1, 0, none⟩) m m) := by rw [cell_of_row _ _ _ _ _ _ hQX]; rfl
  have d1 : X.cell? ⟨w.heap.size + 1, 1, none⟩ = some (.slice (some ⟨g2, 0, none⟩) n n) := by rw [cell_of_row _ _ _ _ _ _ hQX]; rfl
  have hSX : HalfSt X g2 n n ss := by
    rw [← hX]
    exact ((HO.out.set_past _ _ (show w.heap.size + 1 + 1 < g2 by omega)).set_past _ _ (show w.heap.size + 1 < g2 by omega)).set_past _ _ (show w.heap.size + 1 < g2 by omega)
  have hTX : Ow2 X g1 w1.heap.size 29 3 ILit (some ⟨g1, 0, none⟩) m m t := by
    rw [← hX]
    refine HO1.out.keep fun b hbl _ _ => ?_
    have hne1 : b ≠ w.heap.size + 1 := by omega
    have hne2 : b ≠ w.heap.size + 1 + 1 := by omega
    rw [Below.heap_setCell _ ⟨w.heap.size + 1, 1, none⟩ _ _ hne1, Below.heap_setCell _ ⟨w.heap.size + 1, 0, none⟩ _ _ hne1, Below.heap_setCell _ ⟨w.heap.size + 1 + 1, 1, none⟩ _ _ hne2]
  have hbX : Below w.heap.size w X := by
    rw [← hX]
    exact ((HB1.out.setCell (show w.heap.size ≤ w.heap.size + 1 + 1 by omega) _).setCell (show w.heap.size ≤ w.heap.size + 1 by omega) _).setCell (show w.heap.size ≤ w.heap.size + 1 by omega) _
  rw [hX]
  clear hX hQX c10 c11 c20 c21 f10 f11 f21
  refine bodyPost_ret (v := .agg #[.slice (some ⟨g1, 0, none⟩) m m, .slice (some ⟨g2, 0, none⟩) n n]) (by simp [results, Try.results16, go_sem, d0, d1]; try rfl) rfl ?_
  exact ⟨g1, g2, _, rfl, hTX, hSX, ⟨by omega, hg2⟩, by omega, by omega, hbX⟩
end Go.Proofs.Ytckohbjgogbfaaa
