/- What the closure of BestOrder works on, and slices.Clone walked. -/
import Derived.Test.YtlpbmnmhpknppaaCc3
import Derived.Test.YtlpbmnmhpknppaaBc
import Derived.Test.YtlpbmnmhpknppaaBb
import Derived.Test.YtlpbmnmhpknppaaPg
import Derived.WalkSpells
import Derived.OneCell
set_option linter.unusedVariables false
set_option linter.unusedSimpArgs false
namespace Go.Proofs.Ytlpbmnmhpknppaa
open Go.RowKit

theorem cloneI_c (a : Addr) (n c : Nat) (xs : List Int) (w : World) (B : Nat) (hS : Sl w B ILit (some a) n c xs) (hB : B ≤ w.heap.size) (hn : n ≤ 1099511627776) :
    Calls Try.prog 68 #[.slice (some a) n c] w (OwnInts w n xs) := by
  obtain ⟨i0, hi, hi0, hi1, hi2⟩ := info_parts info_int
  have h0 := World.ownsRow_made (base := w.heap.size) (e := 3) (size := 1) w #[] 0 (Nat.le_refl _) (by decide) rfl
  have hS1 := hS.alloc hB (.cells #[] 3)
  have hb1 : Below w.heap.size w (w.alloc (.cells #[] 3)) := (Below.refl _ _).alloc (Nat.le_refl _) _
  have hq := fun w' => Lib.run_eql_slice_nil (P := Try.prog) w' 35 3 (some a) n c 0 0 Try.underlying35
  clear hS
  go_enter Try.func68, Try.ntmps68
  go_wp2_with (at_builtin; refine wpList_appS w _ rfl _ _ 35 rfl 3 i0 (.int .i64 0) 8 Try.underlying35 hi hi0 hi1 hi2 rfl (by decide) w.heap.size _ 0 [] (by rfl) h0 (some a) n c B ILit xs (by rfl) hS1 (fun _ => rfl) (by omega) (by omega) hb1 (by simp) ?_; intro v2 w2 hB2 hb2 hg2)
  rw [Nat.zero_add, List.nil_append] at hB2
  go_ret
  exact ⟨_, rfl, hB2, hb2⟩

def OwnVals (w : World) (n : Nat) (vs : List Value) (e : Ending) (w' : World) : Prop :=
  ∃ v, e = .returned v ∧ w'.ownsRow w.heap.size 35 1 v n vs ∧ Below w.heap.size w w'
theorem cloneS_c (a : Addr) (n c : Nat) (vs : List Value) (w : World) (B : Nat) (hS : Sl w B id (some a) n c vs) (hm : (vs.map triple).map SLit = vs) (hB : B ≤ w.heap.size) (hn : n ≤ 1099511627776) :
    Calls Try.prog 70 #[.slice (some a) n c] w (OwnVals w n vs) := by
  obtain ⟨i1, hj, hj0, hj1, hj2⟩ := info_parts info_rowI
  have h0 := World.ownsRow_made (base := w.heap.size) (e := 35) (size := 1) w #[] 0 (Nat.le_refl _) (by decide) rfl
  have hS1 := (hS.tripled hm).alloc hB (.cells #[] 35)
  have hb1 : Below w.heap.size w (w.alloc (.cells #[] 35)) := (Below.refl _ _).alloc (Nat.le_refl _) _
  have hq := fun w' => Lib.run_eql_slice_nil (P := Try.prog) w' 22 35 (some a) n c 0 0 Try.underlying22
  have HM := Lib.hid hm
  clear hS hm
  go_enter Try.func70, Try.ntmps70
  go_wp2_with (at_builtin; refine wpList_appS w _ rfl _ _ 22 rfl 35 i1 (.slice none 0 0) 24 Try.underlying22 hj hj0 hj1 hj2 rfl (by decide) w.heap.size _ 0 [] (by rfl) h0 (some a) n c B SLit (vs.map triple) (by rfl) hS1 (fun _ => rfl) (by omega) (by omega) hb1 (by simp) ?_; intro v2 w2 hB2 hb2 hg2)
  rw [Nat.zero_add, List.nil_append, HM.out] at hB2
  go_ret
  exact ⟨_, rfl, hB2, hb2⟩

theorem below_undrew {w w2 : World} (h : Below w.drew.heap.size w.drew w2) : Below w.heap.size w w2 := ⟨h.os, h.tape, h.output, h.size, h.block⟩
theorem cell_new (w : World) (u : Value) (E : TypeId) : (w.alloc (.cells #[u] E)).cell? ⟨w.heap.size, 0, none⟩ = some u := by simp
/-- Only two blocks of the old ones changed. -/
def Ch (gB gM : Nat) (w w' : World) : Prop := w'.os = w.os ∧ w'.tape = w.tape ∧ w'.output = w.output ∧ w.heap.size ≤ w'.heap.size ∧ ∀ k, k < w.heap.size → k ≠ gB → k ≠ gM → w'.heap[k]? = w.heap[k]?
section
variable {gB gM lo hi : Nat} {w w' w'' : World}
theorem Ch.refl (gB gM : Nat) (w : World) : Ch gB gM w w := ⟨rfl, rfl, rfl, Nat.le_refl _, fun _ _ _ _ => rfl⟩
theorem Ch.trans (h : Ch gB gM w w') (h2 : Ch gB gM w' w'') : Ch gB gM w w'' :=
  ⟨h2.1.trans h.1, h2.2.1.trans h.2.1, h2.2.2.1.trans h.2.2.1, Nat.le_trans h.2.2.2.1 h2.2.2.2.1, fun k h1 h3 h4 => (h2.2.2.2.2 k (Nat.lt_of_lt_of_le h1 h.2.2.2.1) h3 h4).trans (h.2.2.2.2 k h1 h3 h4)⟩
theorem Ch.of (h : Below w.heap.size w w') : Ch gB gM w w' := ⟨h.os, h.tape, h.output, h.size, fun k h1 _ _ => h.block k h1⟩
theorem Ch.size (h : Ch gB gM w w') : w.heap.size ≤ w'.heap.size := h.2.2.2.1
theorem Ch.setB (w : World) (u : Value) : Ch gB gM w (w.setCell ⟨gB, 0, none⟩ u) := ⟨rfl, rfl, rfl, by simp [World.setCell], fun k _ h1 _ => Below.heap_setCell w _ _ k h1⟩
theorem Ch.setM (w : World) (u : Value) : Ch gB gM w (w.setCell ⟨gM, 0, none⟩ u) := ⟨rfl, rfl, rfl, by simp [World.setCell], fun k _ _ h1 => Below.heap_setCell w _ _ k h1⟩
theorem Ch.drew (h : Ch gB gM w w') : Ch gB gM w w'.drew := h
theorem Ch.below {B : Nat} (h : Ch gB gM w w') (h1 : B ≤ gB) (h2 : B ≤ gM) (h3 : B ≤ w.heap.size) : Below B w w' := ⟨h.1, h.2.1, h.2.2.1, h.2.2.2.1, fun k hk => h.2.2.2.2 k (by omega) (by omega) (by omega)⟩
theorem Ow.ch {α : Type} {E n c : Nat} {f : α → Value} {A : Option Addr} {xs : List α} (h : Ow w lo E f A n c xs) (hc : Ch gB gM w w') (h1 : gB < lo) (h2 : gM < lo) : Ow w' lo E f A n c xs := h.keep fun g hg hl _ => hc.2.2.2.2 g hl (by omega) (by omega)
theorem Shr.ch {α : Type} {E2 k : Nat} {f : α → Value} {v : Value} {xss : List (List α)} (h : Shr w lo hi E2 f v k xss) (hc : Ch gB gM w w') (h1 : gB < lo) (h2 : gM < lo) (h3 : hi ≤ gB) (h4 : hi ≤ gM) (h5 : hi ≤ w.heap.size) : Shr w' lo hi E2 f v k xss := by
  obtain ⟨vs, e1, e2⟩ := h
  exact ⟨vs, own_keep e1 fun g hg hl => hc.2.2.2.2 g hl (by omega) (by omega), e2.below (hc.below h3 h4 h5)⟩
end

def leastO (t list : List (List Int)) (b : List Int) : Int := if b = [] then 0 else lostN t (arrL list b)
/-- The closure's variables: the table, the list, the best order so far, its lost time, the closure itself. -/
def BoSt (X : World) (gT gL gB gM gE lo : Nat) (vT vL : Value) (t list : List (List Int)) (b : List Int) : Prop :=
  X.heap[gT]? = some (.cells #[vT] 22 (0, 0)) ∧ X.heap[gL]? = some (.cells #[vL] 22 (0, 0)) ∧
  (∃ Ab nb cb, X.heap[gB]? = some (.cells #[.slice Ab nb cb] 35 (0, 0)) ∧ Ow X lo 3 ILit Ab nb cb b ∧ (b = [] → Ab = none)) ∧
  X.heap[gM]? = some (.cells #[.int .i64 (leastO t list b)] 3 (0, 0)) ∧
  X.heap[gE]? = some (.cells #[.func (.func 67) #[] #[.pointer (some ⟨gL, 0, none⟩), .pointer (some ⟨gT, 0, none⟩), .pointer (some ⟨gB, 0, none⟩), .pointer (some ⟨gM, 0, none⟩), .pointer (some ⟨gE, 0, none⟩)]] 61 (0, 0))
section
variable {X X' : World} {gT gL gB gM gE lo : Nat} {vT vL : Value} {t list : List (List Int)} {b : List Int}
theorem BoSt.below (h : BoSt X gT gL gB gM gE lo vT vL t list b) (hb : Below X.heap.size X X') : BoSt X' gT gL gB gM gE lo vT vL t list b := by
  obtain ⟨h1, h2, ⟨Ab, nb, cb, h3, h4, h5⟩, h6, h7⟩ := h
  have k : ∀ {g : Nat} {o : Obj}, X.heap[g]? = some o → X'.heap[g]? = some o := fun {g o} hg => (hb.block g (lt_of_heap hg)).trans hg
  exact ⟨k h1, k h2, ⟨Ab, nb, cb, k h3, h4.below hb, h5⟩, k h6, k h7⟩
theorem BoSt.set (h : BoSt X gT gL gB gM gE lo vT vL t list b) {A5 : Option Addr} {n5 c5 : Nat} {o : List Int} (hO : Ow X lo 3 ILit A5 n5 c5 o) (ho : o ≠ []) (hBM : gB ≠ gM) (hTB : gT ≠ gB) (hTM : gT ≠ gM) (hLB : gL ≠ gB) (hLM : gL ≠ gM) (hEB : gE ≠ gB) (hEM : gE ≠ gM) (hBl : gB < lo) (hMl : gM < lo) :
    BoSt ((X.setCell ⟨gB, 0, none⟩ (.slice A5 n5 c5)).setCell ⟨gM, 0, none⟩ (.int .i64 (lostN t (arrL list o)))) gT gL gB gM gE lo vT vL t list o := by
  obtain ⟨h1, h2, ⟨Ab, nb, cb, h3, h4, h5⟩, h6, h7⟩ := h
  have k : ∀ g, g ≠ gB → g ≠ gM → ((X.setCell ⟨gB, 0, none⟩ (.slice A5 n5 c5)).setCell ⟨gM, 0, none⟩ (.int .i64 (lostN t (arrL list o)))).heap[g]? = X.heap[g]? := fun g e1 e2 =>
    (Below.heap_setCell _ ⟨gM, 0, none⟩ _ g e2).trans (Below.heap_setCell _ ⟨gB, 0, none⟩ _ g e1)
  refine ⟨(k gT hTB hTM).trans h1, (k gL hLB hLM).trans h2, ⟨A5, n5, c5, ?_, hO.keep fun g hg _ _ => k g (by omega) (by omega), fun e => absurd e ho⟩, ?_, (k gE hEB hEM).trans h7⟩
  · exact (Below.heap_setCell _ ⟨gM, 0, none⟩ _ gB hBM).trans (one_setCell h3)
  · rw [leastO, if_neg ho]
    exact one_setCell ((Below.heap_setCell _ ⟨gB, 0, none⟩ _ gM (Ne.symm hBM)).trans h6)
end
end Go.Proofs.Ytlpbmnmhpknppaa
