/- The exact laws' marks on plans: markStageS, markPlan. -/
import Derived.Test.YtckohbjgogbfaaaQh3
set_option linter.unusedVariables false
set_option linter.unusedSimpArgs false
namespace Go.Proofs.Ytckohbjgogbfaaa
open Go.RowKit

/-- Stages that may be written: their block g, their phases behind it, all ahead of hi. -/
def StO (w : World) (g hi n M : Nat) : Prop :=
  ∃ (cs : Array Value) (gs ms : Nat → Nat), w.heap[g]? = some (.cells cs 35 (0, 0)) ∧ cs.size = n * 2 ∧ hi ≤ w.heap.size ∧ (∀ j : Nat, j < n → cs[j * 2]? = some (.slice (some ⟨gs j, 0, none⟩) (ms j) (ms j)) ∧ ms j + 1 ≤ M ∧ g < gs j ∧ gs j < hi ∧ ∃ ys, Ow w (gs j) 3 ILit (some ⟨gs j, 0, none⟩) (ms j) (ms j) ys) ∧ ∀ i j : Nat, i < j → j < n → gs i < gs j
section
variable {w w' : World} {g hi n M j : Nat} {ss : List (List Int × Int)}
theorem HalfSt.sto (h : HalfSt w g n n ss) (hl : ss.length = n) (hM : ∀ s ∈ ss, s.1.length + 1 ≤ M) : StO w g w.heap.size n M := by
  obtain ⟨cs, gs, ms, e1, e2, e3, e4⟩ := h
  refine ⟨cs, gs, ms, e1, e2, Nat.le_refl _, fun j hj => ?_, e4⟩
  obtain ⟨a1, a2, a3, a4, a5⟩ := e3 j ss[j] hj (List.getElem?_eq_getElem (by omega))
  have := hM ss[j] (List.getElem_mem (by omega))
  exact ⟨a1, by rw [← a5.len]; exact this, a3, a4, _, a5⟩
theorem StO.low (h : StO w g hi n M) (hz : w.heap.size ≤ w'.heap.size) (hk : ∀ b, g ≤ b → b < w.heap.size → w'.heap[b]? = w.heap[b]?) : StO w' g hi n M := by
  obtain ⟨cs, gs, ms, e1, e2, e5, e3, e4⟩ := h
  refine ⟨cs, gs, ms, (hk g (Nat.le_refl _) (lt_of_heap e1)).trans e1, e2, by omega, fun j hj => ?_, e4⟩
  obtain ⟨a1, a2, a3, a4, ys, a5⟩ := e3 j hj
  exact ⟨a1, a2, a3, a4, ys, a5.keep fun b hb1 hb2 _ => hk b (by omega) hb2⟩
theorem StO.below (h : StO w g hi n M) (hb : Below w.heap.size w w') : StO w' g hi n M := h.low hb.size fun b _ hlt => hb.block b hlt
theorem StO.lt (h : StO w g hi n M) : g < w.heap.size := by
  obtain ⟨cs, gs, ms, e1, -⟩ := h
  exact lt_of_heap e1
theorem StO.his (h : StO w g hi n M) : hi ≤ w.heap.size := by
  obtain ⟨cs, gs, ms, e1, e2, e5, -⟩ := h
  exact e5
theorem StO.at_ (h : StO w g hi n M) (hj : j < n) : ∃ g1 m ys, w.cell? ⟨g, j * 2, none⟩ = some (.slice (some ⟨g1, 0, none⟩) m m) ∧ m + 1 ≤ M ∧ g < g1 ∧ g1 < hi ∧ Ow w g1 3 ILit (some ⟨g1, 0, none⟩) m m ys ∧
    ∀ w1 : World, w1.heap.size = w.heap.size → (∀ b, b < w.heap.size → b ≠ g1 → w1.heap[b]? = w.heap[b]?) → (∃ zs, Ow w1 g1 3 ILit (some ⟨g1, 0, none⟩) m m zs) → StO w1 g hi n M := by
  obtain ⟨cs, gs, ms, e1, e2, e5, e3, e4⟩ := h
  obtain ⟨a1, a2, a3, a4, ys, a5⟩ := e3 j hj
  refine ⟨gs j, ms j, ys, by rw [cell_of_row _ _ _ _ _ _ e1]; exact a1, a2, a3, a4, a5, fun w1 hz hag hO => ⟨cs, gs, ms, (hag g (lt_of_heap e1) (by omega)).trans e1, e2, by omega, fun i hi => ?_, e4⟩⟩
  obtain ⟨b1, b2, b3, b4, zs, b5⟩ := e3 i hi
  refine ⟨b1, b2, b3, b4, ?_⟩
  by_cases hij : i = j
  · subst hij; exact hO
  · have hne : gs i ≠ gs j := by
      rcases Nat.lt_or_ge i j with hl | hl
      · have := e4 i j hl hj; omega
      · have := e4 j i (by omega) hi; omega
    exact ⟨zs, b5.keep fun b hb1 hb2 hA => hag b hb2 (by
      have hbg : gs i = b := by simpa using congrArg (fun x => x.map (·.block)) hA
      omega)⟩
theorem StO.green (h : StO w g hi n M) (hj : j < n) : ∃ o, w.cell? ⟨g, j * 2 + 1, none⟩ = some o ∧ w.frozen? ⟨g, j * 2 + 1, none⟩ = false ∧ ∀ v, StO (w.setCell ⟨g, j * 2 + 1, none⟩ v) g hi n M := by
  obtain ⟨cs, gs, ms, e1, e2, e5, e3, e4⟩ := h
  refine ⟨cs[j * 2 + 1]'(by omega), by rw [cell_of_row _ _ _ _ _ _ e1]; exact Array.getElem?_eq_getElem (by omega), by simp [World.frozen?, e1], fun v => ?_⟩
  refine ⟨_, gs, ms, heap_setCell_same w g _ cs _ _ e1, by simp [e2], by simpa [World.setCell] using e5, fun i hi => ?_, e4⟩
  obtain ⟨b1, b2, b3, b4, zs, b5⟩ := e3 i hi
  refine ⟨by rw [Array.getElem?_setIfInBounds, if_neg (by omega)]; exact b1, b2, b3, b4, zs, b5.keep fun b hb1 _ _ => Below.heap_setCell _ _ _ _ (by show b ≠ g; omega)⟩
end

/-- Stages marked. -/
def MarkedSt (w : World) (g hi n M : Nat) (k0 : Int) (e : Ending) (w' : World) : Prop :=
  ∃ k : Int, e = .returned (.int .i64 k) ∧ 0 ≤ k ∧ k ≤ k0 + (n * M : Nat) ∧ StO w' g hi n M ∧ Below g w w' ∧ w'.heap.size = w.heap.size ∧ ∀ b, hi ≤ b → b < w.heap.size → w'.heap[b]? = w.heap[b]?

set_option maxHeartbeats 1600000 in
theorem markStageS_f (g hi n M : Nat) (k0 : Int) (w : World) (hO : StO w g hi n M) (hn : n ≤ 1048576) (hM : M ≤ 1048577) (hk0 : 0 ≤ k0) (hkM : k0 + (n * M : Nat) ≤ 1099511627776) :
    Calls Try.prog 45 #[.slice (some ⟨g, 0, none⟩) n n, .int .i64 k0] w (MarkedSt w g hi n M k0) := by
  have hgl := hO.lt
  have hhi := hO.his
  go_enter Try.func45, Try.ntmps45
  go_wp2_with fail
  go_loopw [1, 5] (fun kk i wr => ∃ (j : Nat) (k' : Int), j ≤ n ∧ i = .int .i64 j ∧ kk = .int .i64 k' ∧ 0 ≤ k' ∧ Hid (k' ≤ k0 + (j * M : Nat)) ∧ StO wr g hi n M ∧ Below g w wr ∧ wr.heap.size = w.heap.size ∧ Hid (∀ b, hi ≤ b → b < w.heap.size → wr.heap[b]? = w.heap[b]?)) (fun _ i _ => n - (intOf i).toNat)
  case atStart => exact ⟨0, k0, Nat.zero_le _, rfl, rfl, hk0, Lib.hid (by simp), hO, Below.refl _ _, rfl, Lib.hid fun _ _ _ => rfl⟩
  case round =>
    clear hO
    obtain ⟨j, k', hj, rfl, rfl, hk0', hkj, hS, hb, hz, hag⟩ := hrel
    by_cases hlt : j < n
    · have hjM : j * M + M ≤ n * M := by rw [← Nat.succ_mul]; exact Nat.mul_le_mul_right M hlt
      have hkb := hkj.out
      obtain ⟨g1, m, ys, hcell, hm1, hg1, hg2, hO1, hstep⟩ := hS.at_ hlt
      have hk9 : k' ≤ 1099511627776 := by omega
      have CM := Lib.hid (markIntS_f (some ⟨g1, 0, none⟩) m m ys k' wr g1 (g1 + 1) hO1 (by omega) (fun b hA => by
        have hbg : g1 = b := by simpa using congrArg (fun x => x.map (·.block)) hA
        left; omega) hk0' hk9 (by omega))
      have HST := Lib.hid hstep
      have hk10 : Hid (k' + m + 1 ≤ k0 + ((j + 1) * M : Nat)) := Lib.hid (by rw [Nat.succ_mul]; omega)
      have hk11 : k' + m + 1 ≤ 1099511627776 := by omega
      clear hstep hO1 hS hjM hkj hkM
      go_wp2_with fail
      clear hcell
      refine CM.out.mono ?_
      rintro e w1 ⟨rfl, h1, h2, h3, h4⟩
      have hS1 : StO w1 g hi n M := HST.out w1 h3 (fun b hb1 hb2 => by
        rcases Nat.lt_or_ge b g1 with hl | hl
        · exact h2.block b hl
        · exact h4 b (by omega) hb1) ⟨_, h1⟩
      obtain ⟨o, c1, f1, hset⟩ := hS1.green hlt
      have hs2 := hset (.int .i64 (k' + m))
      have hb1 : Below g w w1 := hb.trans ⟨h2.os, h2.tape, h2.output, by omega, fun b hbg => h2.block b (by omega)⟩
      have hb2 : Below g w (w1.setCell ⟨g, j * 2 + 1, none⟩ (.int .i64 (k' + m))) := hb1.setCell (Nat.le_refl _) _
      have hz2 : (w1.setCell ⟨g, j * 2 + 1, none⟩ (.int .i64 (k' + m))).heap.size = w.heap.size := by simp [World.setCell]; omega
      have hag2 : Hid (∀ b, hi ≤ b → b < w.heap.size → (w1.setCell ⟨g, j * 2 + 1, none⟩ (.int .i64 (k' + m))).heap[b]? = w.heap[b]?) := Lib.hid fun b hb3 hb4 =>
        (Below.heap_setCell w1 ⟨g, j * 2 + 1, none⟩ _ b (by show b ≠ g; omega)).trans ((h4 b (by omega) (by omega)).trans (hag.out b hb3 hb4))
      have HS2 := Lib.hid hs2
      have HB2 := Lib.hid hb2
      have HZ2 := Lib.hid hz2
      clear h1 h2 h3 h4 hS1 hset hs2 hb1 hb2 hz2 CM HST hb hag
      go_wp2_with fail
      go_roundw
      case rel => exact ⟨j + 1, k' + m + 1, by omega, by go_num, rfl, by omega, hk10, HS2.out, HB2.out, HZ2.out, hag2⟩
      case measure => simp [intOf]; omega
    · obtain rfl : j = n := by omega
      have hkb := hkj.out
      clear hkM
      go_wp2_with fail
      go_ret
      exact ⟨k', rfl, hk0', hkb, hS, hb, hz, hag.out⟩

/-- A plan marked. -/
def MarkedPlan (w : World) (g hi : Nat) (e : Ending) (w' : World) : Prop :=
  ∃ k : Int, e = .returned (.int .i64 k) ∧ 0 ≤ k ∧ Below g w w' ∧ ∀ b, hi ≤ b → b < w.heap.size → w'.heap[b]? = w.heap[b]?

set_option maxHeartbeats 1600000 in
theorem markPlan_f (g h hi hi2 m n M : Nat) (t : List (List Int)) (w : World) (hT : Ow2 w g hi 29 3 ILit (some ⟨g, 0, none⟩) m m t) (hS : StO w h hi2 n M) (hg : g < w.heap.size) (hgh : g ≤ h) (hih : hi ≤ h) (hhi : hi ≤ w.heap.size) (hh2 : h ≤ hi2) (hm : m ≤ 1048576) (ht : tot t ≤ 1048576) (hn : n ≤ 1048576) (hM : M ≤ 1048577) (hnM : n * M ≤ 549756862464) :
    Calls Try.prog 19 #[.agg #[.slice (some ⟨g, 0, none⟩) m m, .slice (some ⟨h, 0, none⟩) n n], .int .i64 1] w (MarkedPlan w g hi2) := by
  obtain ⟨W2, hW2⟩ : ∃ W2, w.alloc (.cells #[.slice (some ⟨g, 0, none⟩) m m, .slice (some ⟨h, 0, none⟩) n n] 26) = W2 := ⟨_, rfl⟩
  have hb0 : Below w.heap.size w W2 := by rw [← hW2]; exact (Below.refl _ _).alloc (Nat.le_refl _) _
  have hz2 : W2.heap.size = w.heap.size + 1 := by rw [← hW2]; simp
  have hh : W2.heap[w.heap.size]? = some (.cells #[.slice (some ⟨g, 0, none⟩) m m, .slice (some ⟨h, 0, none⟩) n n] 26 (0, 0)) := by rw [← hW2]; exact heap_alloc_new w _
  have k0 : W2.cell? ⟨w.heap.size, 0, none⟩ = some (.slice (some ⟨g, 0, none⟩) m m) := by rw [cell_of_row _ _ _ _ _ _ hh]; rfl
  have hhl := hS.lt
  have hhs := hS.his
  have CT := Lib.hid (markIntSS_f (some ⟨g, 0, none⟩) m m t 1 W2 g hi (hT.below hb0) (by omega) (by omega) (by omega) (by omega) hm ht)
  have HS := Lib.hid (hS.below hb0)
  have HH := Lib.hid hh
  have HB0 := Lib.hid hb0
  have HTT := Lib.hid ht
  have hnM' := Lib.hid hnM
  clear hT hS hh hb0 ht hnM
  go_enter Try.func19, Try.ntmps19
  go_wp2_with fail
  clear hW2 k0
  refine CT.out.mono ?_
  rintro e w1 ⟨rfl, -, h2, h3, h4⟩
  have hh1 : w1.heap[w.heap.size]? = some (.cells #[.slice (some ⟨g, 0, none⟩) m m, .slice (some ⟨h, 0, none⟩) n n] 26 (0, 0)) := (h4 _ (by omega) (by omega)).trans HH.out
  have k1 : w1.cell? ⟨w.heap.size, 1, none⟩ = some (.slice (some ⟨h, 0, none⟩) n n) := by rw [cell_of_row _ _ _ _ _ _ hh1]; rfl
  have hS1 := HS.out.low (w' := w1) (by omega) fun b hb1 hb2 => h4 b (by omega) hb2
  have htt := HTT.out
  have CS := Lib.hid (markStageS_f h hi2 n M (1 + tot t) w1 hS1 hn hM (by omega) (by have := hnM'.out; omega))
  have hb1 : Below g w w1 := ((HB0.out).mono (by omega)).trans h2
  have hag1 : Hid (∀ b, hi2 ≤ b → b < w.heap.size → w1.heap[b]? = w.heap[b]?) := Lib.hid fun b hb1 hb2 => (h4 b (by omega) (by omega)).trans (HB0.out.block b hb2)
  clear hh1 hS1 h2 h4 CT HS HTT htt
  go_wp2_with fail
  clear k1
  refine CS.out.mono ?_
  rintro e w2 ⟨k, rfl, hk0, -, -, h5, h6, h7⟩
  have hb2 : Below g w w2 := hb1.trans (h5.mono hgh)
  have hag2 : Hid (∀ b, hi2 ≤ b → b < w.heap.size → w2.heap[b]? = w.heap[b]?) := Lib.hid fun b h8 h9 => (h7 b h8 (by omega)).trans (hag1.out b h8 h9)
  clear h5 h6 h7 hb1 hag1
  go_wp2_with fail
  go_ret
  exact ⟨k, rfl, hk0, hb2, hag2.out⟩
end Go.Proofs.Ytckohbjgogbfaaa
