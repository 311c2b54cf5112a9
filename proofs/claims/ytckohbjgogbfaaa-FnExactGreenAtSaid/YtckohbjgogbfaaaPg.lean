/- My words and contracts, laid together: Cg1, Cg2, Cg3, Cg4, Cg5. -/
import Derived.Test.YtckohbjgogbfaaaPc
import Derived.Test.YtckohbjgogbfaaaBb
import Derived.Test.YtckohbjgogbfaaaBc
import Derived.StillTailTactics
import Derived.Test.YtckohbjgogbfaaaPp
set_option linter.unusedVariables false
set_option linter.unusedSimpArgs false
/- The generator of tables of clearance times: randomClear. -/
namespace Go.Proofs.Ytckohbjgogbfaaa
open Go.RowKit

/-- A table as the generator makes it. -/
def matOk (n : Nat) (t : List (List Int)) : Prop := t.length = n ∧ sqB t = true ∧ inC t = true ∧ ∀ a b, a < n → b < n → okC t a b = true
theorem matOk.ok {n : Nat} {t : List (List Int)} (h : matOk n t) (h1 : 1 ≤ n) (h2 : n ≤ 8) : cOk t = true := by
  obtain ⟨e1, e2, e3, e4⟩ := h
  subst e1
  exact cOk_iff.2 ⟨h1, h2, e2, e3, fun a b ha hb => e4 a b ha hb⟩
theorem matOk_zero (n : Nat) : matOk n (List.replicate n (List.replicate n 0)) := by
  have hat : ∀ a b, cAt (List.replicate n (List.replicate n 0)) a b = 0 := fun a b => by
    simp only [cAt, List.getD_eq_getElem?_getD, List.getElem?_replicate]
    split
    · simp only [Option.getD_some, List.getElem?_replicate]
      split <;> rfl
    · rfl
  refine ⟨by simp, sqB_mk fun a r ha => ?_, inC_mk fun a r ha => ?_, fun a b _ _ => okC_ok (by rw [hat, hat]) fun _ => hat a b⟩
  · rw [List.getElem?_replicate] at ha
    split at ha
    · injection ha with ha; subst ha; simp
    · cases ha
  · rw [List.getElem?_replicate] at ha
    split at ha
    · injection ha with ha
      subst ha
      rw [allB, List.all_eq_true]
      intro x hx
      have := (List.mem_replicate.1 hx).2
      subst this; decide
    · cases ha
theorem cAt_set {t : List (List Int)} {i k a b : Nat} {r : List Int} {x : Int} (hr : t[i]? = some r) (hk : k < r.length) : cAt (t.set i (r.set k x)) a b = if a = i ∧ b = k then x else cAt t a b := by
  have hi := (List.getElem?_eq_some_iff.1 hr).1
  simp only [cAt, List.getD_eq_getElem?_getD, List.getElem?_set]
  by_cases ha : i = a
  · subst ha
    rw [if_pos rfl, if_pos hi]
    simp only [Option.getD_some, List.getElem?_set, hr, true_and]
    by_cases hb : k = b
    · subst hb; simp [hk]
    · rw [if_neg hb, if_neg (fun e => hb e.symm)]
  · rw [if_neg ha, if_neg (fun e => ha e.1.symm)]
theorem matOk_step {n i k : Nat} {t : List (List Int)} {ri rk : List Int} {x1 x2 : Int} (h : matOk n t) (hki : k < i) (hi : i < n) (hri : t[i]? = some ri) (hrk : (t.set i (ri.set k x1))[k]? = some rk) (h1 : 1 ≤ x1 ∧ x1 ≤ 5) (h2 : 1 ≤ x2 ∧ x2 ≤ 5) :
    matOk n ((t.set i (ri.set k x1)).set k (rk.set i x2)) := by
  obtain ⟨e1, e2, e3, e4⟩ := h
  have hl1 := sqB_all e2 hri
  have hrk0 : t[k]? = some rk := by
    rw [List.getElem?_set] at hrk
    rwa [if_neg (by omega)] at hrk
  have hl2 := sqB_all e2 hrk0
  have hrow : ∀ (a : Nat) (r : List Int), ((t.set i (ri.set k x1)).set k (rk.set i x2))[a]? = some r → r.length = n ∧ allB r 0 5 = true := by
    intro a r ha
    rw [List.getElem?_set] at ha
    by_cases hak : k = a
    · rw [if_pos hak, if_pos (by simp; omega)] at ha
      injection ha with ha
      subst ha
      refine ⟨by simp; omega, ?_⟩
      have := inC_row e3 hrk0
      rw [allB, List.all_eq_true] at this ⊢
      intro y hy
      rcases List.mem_or_eq_of_mem_set hy with hy | rfl
      · exact this y hy
      · simp [inB]; omega
    · rw [if_neg hak, List.getElem?_set] at ha
      by_cases hai : i = a
      · rw [if_pos hai, if_pos (by omega)] at ha
        injection ha with ha
        subst ha
        refine ⟨by simp; omega, ?_⟩
        have := inC_row e3 hri
        rw [allB, List.all_eq_true] at this ⊢
        intro y hy
        rcases List.mem_or_eq_of_mem_set hy with hy | rfl
        · exact this y hy
        · simp [inB]; omega
      · rw [if_neg hai] at ha
        exact ⟨by rw [sqB_all e2 ha, e1], inC_row e3 ha⟩
  have hat : ∀ a b, cAt ((t.set i (ri.set k x1)).set k (rk.set i x2)) a b = if a = k ∧ b = i then x2 else if a = i ∧ b = k then x1 else cAt t a b := fun a b => by
    rw [cAt_set hrk (by omega), cAt_set hri (by omega)]
  refine ⟨by simp [e1], sqB_mk fun a r ha => by simp [(hrow a r ha).1, e1], inC_mk fun a r ha => (hrow a r ha).2, fun a b ha hb => ?_⟩
  refine okC_ok ?_ fun e => ?_
  · rw [hat, hat]
    by_cases c1 : a = k ∧ b = i
    · obtain ⟨rfl, rfl⟩ := c1
      rw [if_pos ⟨rfl, rfl⟩, if_neg (by omega), if_pos ⟨rfl, rfl⟩]
      simp; omega
    · rw [if_neg c1]
      by_cases c2 : a = i ∧ b = k
      · obtain ⟨rfl, rfl⟩ := c2
        rw [if_pos ⟨rfl, rfl⟩, if_pos ⟨rfl, rfl⟩]
        simp; omega
      · rw [if_neg c2, if_neg (fun e => c2 ⟨e.2, e.1⟩), if_neg (fun e => c1 ⟨e.2, e.1⟩)]
        exact okC_sym (e4 a b ha hb)
  · subst e
    rw [hat, if_neg (by omega), if_neg (by omega)]
    exact okC_irr (e4 a a ha ha)

/-- A row of a slice of slices of the call's own: its cells, and what a store into it leaves. -/
theorem Ow2.row {w : World} {lo hi E2 E n c j : Nat} {A : Option Addr} {xss : List (List Int)} (h : Ow2 w lo hi E2 E ILit A n c xss) (hne : E ≠ E2) (hhi : hi ≤ w.heap.size) {xs : List Int} (hx : xss[j]? = some xs) (hp : 0 < xs.length) :
    ∃ g gj cj, A = some ⟨g, 0, none⟩ ∧ lo ≤ g ∧ g < w.heap.size ∧ lo ≤ gj ∧ gj < w.heap.size ∧ g ≠ gj ∧ xs.length ≤ cj ∧ w.cell? ⟨g, j, none⟩ = some (.slice (some ⟨gj, 0, none⟩) xs.length cj) ∧
      (∀ k x, xs[k]? = some x → w.cell? ⟨gj, k, none⟩ = some (.int .i64 x)) ∧ (∀ k, w.frozen? ⟨gj, k, none⟩ = false) ∧
      ∀ k x, k < xs.length → Ow2 (w.setCell ⟨gj, k, none⟩ (.int .i64 x)) lo hi E2 E ILit A n c (xss.set j (xs.set k x)) := by
  have hlen := h.len
  obtain ⟨vs, h1, h2, h3⟩ := h
  have hj := (List.getElem?_eq_some_iff.1 hx).1
  obtain ⟨g, cs, rfl, hg1, hg2, hg3⟩ := h1.2.2.2 (by omega)
  obtain ⟨v, hv⟩ : ∃ v, vs[j]? = some v := ⟨_, List.getElem?_eq_getElem (by rw [h2.1]; exact hj)⟩
  obtain ⟨xs', A', n', c', hx', rfl, hO, hbl⟩ := h2.at_ hv
  have hxx : xs' = xs := by rw [hx] at hx'; injection hx' with hx'; exact hx'.symm
  subst hxx
  have hn' : n' = xs'.length := hO.len.symm
  subst hn'
  obtain ⟨gj, ds, rfl, hj1, hj2, hj3⟩ := hO.2.2.2 hp
  have hne2 : g ≠ gj := fun e => by
    subst e
    rw [hg2] at hj2
    injection hj2 with hj2
    injection hj2 with _ hj2
    exact hne hj2.symm
  refine ⟨g, gj, c', rfl, hg1, lt_of_heap hg2, hj1, lt_of_heap hj2, hne2, hO.2.1, by rw [cell_of_row w g j cs _ _ hg2]; exact hg3 j _ hv, fun k x hk => by rw [cell_of_row w gj k ds _ _ hj2]; exact hj3 k x hk, fun k => by simp [World.frozen?, hj2], fun k x hk => ?_⟩
  have hset := hO.set (j := k) (x := x) hk
  refine ⟨vs, h1.keep fun b hb hb2 hA => ?_, ?_, h3⟩
  · injection hA with hA
    injection hA with hA
    subst hA
    exact Below.heap_setCell w _ _ _ hne2
  · refine h2.set (w' := w.setCell ⟨gj, k, none⟩ (.int .i64 x)) hv hset (fun b hb hbn => Below.heap_setCell w _ _ b (fun e => hbn ?_)) (fun b _ hb => by omega)
    simp only at e
    subst e; rfl
theorem Ow2.store {w : World} {lo hi E2 E n c j g gj m cj k : Nat} {xss : List (List Int)} (h : Ow2 w lo hi E2 E ILit (some ⟨g, 0, none⟩) n c xss) (hne : E ≠ E2) (hhi : hi ≤ w.heap.size) {xs : List Int} (hx : xss[j]? = some xs) (hk : k < xs.length)
    (hc : w.cell? ⟨g, j, none⟩ = some (.slice (some ⟨gj, 0, none⟩) m cj)) (x : Int) : Ow2 (w.setCell ⟨gj, k, none⟩ (.int .i64 x)) lo hi E2 E ILit (some ⟨g, 0, none⟩) n c (xss.set j (xs.set k x)) := by
  obtain ⟨g', gj', cj', hA, -, -, -, -, -, -, cell1, -, -, hset⟩ := h.row hne hhi hx (by omega)
  injection hA with hA
  injection hA with hA
  subst hA
  rw [hc] at cell1
  injection cell1 with e
  injection e with e _ _
  injection e with e
  injection e with e
  subst e
  exact hset k x hk
end Go.Proofs.Ytckohbjgogbfaaa

/- randomClear, walked. -/
namespace Go.Proofs.Ytckohbjgogbfaaa
open Go.RowKit

def ClearOf (w : World) (r p m : Nat) (e : Ending) (w' : World) : Prop :=
  ∃ A c q t, e = .returned (.slice A m c) ∧ Ow2 w' w.heap.size w'.heap.size 29 3 ILit A m c t ∧ matOk m t ∧ q ≤ p + 200 ∧ Below w.heap.size (adv w r q) w'

theorem info_rowI : (Try.prog.info? 29).map (fun i => (i.zero, i.size, i.bytes)) = some (some (.slice none 0 0), 1, 24) := by kernel_rfl
theorem made_rep0 (m : Nat) : madeCells #[.int .i64 0] m = ((List.replicate m (0 : Int)).map ILit).toArray := by
  have h1 := part_zero ILit (.int .i64 0) (List.replicate m (0 : Int))
  rw [List.length_replicate] at h1
  rw [← h1]
  simp [part, ILit]

set_option maxHeartbeats 4000000 in
theorem randomClear_c (w : World) (r n c p : Nat) (A : Option Addr) (bs : List Int) (m : Nat) (hR : Rd w r A n c bs p) (hp : p ≤ 400000) (hm1 : 1 ≤ m) (hm8 : m ≤ 8) :
    Calls Try.prog 47 #[.pointer (some ⟨r, 0, none⟩), .int .i64 m] w (ClearOf w r p m) := by
  have hlt := hR.lt
  obtain ⟨i0, hi, hi0, hi1, hi2⟩ := info_parts info_int
  obtain ⟨i1, hj, hj0, hj1, hj2⟩ := info_parts info_rowI
  have hmk := run_make_row' (P := Try.prog) 29 3 (.int .i64 0) 8 Try.underlying29 info_int rfl .i64 .i64 m (by omega) (by omega)
  rw [made_rep0] at hmk
  obtain ⟨cs, hcs⟩ : ∃ cs, ((List.replicate m (0 : Int)).map ILit).toArray = cs := ⟨_, rfl⟩
  rw [hcs] at hmk
  have HCS := Lib.hid hcs
  clear hcs
  go_enter Try.func47, Try.ntmps47
  go_wp2_with fail
  go_loopw [5, 6] (fun v i wr => ∃ (k : Nat), k ≤ m ∧ i = .int .i64 k ∧ Bld wr w.heap.size 29 3 ILit v k (List.replicate k (List.replicate m 0)) ∧ Below w.heap.size w wr) (fun _ i _ => m - (intOf i).toNat)
  case atStart => exact ⟨0, by omega, rfl, Bld.nil _ _ _ _ _ _ (World.ownsRow_made _ #[] 0 (Nat.le_refl _) (by decide) rfl), by (repeat' (first | (with_reducible exact Below.refl _ _) | (with_reducible assumption) | (with_reducible refine Below.alloc ?_ ?_ _) | (with_reducible refine below_plus ?_ ?_ _ _) | (with_reducible refine Below.drew ?_) | (with_reducible refine Below.setCell ?_ ?_ _) | (with_reducible refine below_adv ?_ ?_ _) | go_size | (simp; done) | (simp; omega)))⟩
  case round =>
    obtain ⟨k, hk, rfl, hBl, hb⟩ := hrel
    have hzr := hb.size
    by_cases hkm : k < m
    · obtain ⟨vs, hv1, hv2, hv3⟩ := hBl
      have hv0 := fun b hb => (hv1.lt b hb).2
      have hb2 : Below wr.heap.size wr (wr.alloc (.cells cs 3)) := (Below.refl _ _).alloc (Nat.le_refl _) _
      have hown2 := own_below hv1 hb2
      have hR2 := hv2.below (Nat.le_refl _) hb2
      have hbb := hb.trans (hb2.mono hzr)
      have hW5 := Ow.new wr ILit (List.replicate m (0 : Int)) 3 (by simp; omega)
      rw [HCS.out, List.length_replicate] at hW5
      have HW := Lib.hid hW5
      have HV0 := Lib.hid hv0
      clear hv1 hv2 hb2 hW5 hv0
      go_wp2_with (at_builtin; refine wpList_app1_at w (wr.alloc (.cells cs 3)) rfl _ _ 23 rfl 29 i1 (.slice none 0 0) 24 Try.underlying23 hj hj0 hj1 hj2 rfl (by decide) w.heap.size _ k _ (by rfl) hown2 _ rfl _ (by rfl) (by simp) (by omega) hbb (by simp; omega) ?_; intro v8 w8 hO8 hb8 hg8 hv8)
      have hN := Bld.app (f := ILit) (E := 3) hown2 hR2 hv3 HV0.out (by simp) hzr HW.out (fun b hb => by simp [Value.ownBlock] at hb; subst hb; simp) hO8 hg8 hv8
      rw [← List.replicate_succ'] at hN
      clear hv3 hown2 hR2 hO8 hg8 hv8 HV0 HW
      go_roundw
      case rel => exact ⟨k + 1, by omega, by go_num, hN, hb8⟩
      case measure => simp [intOf]; omega
    · obtain rfl : k = m := by omega
      obtain ⟨A5, c5, rfl, hW5⟩ := hBl.ow2
      have hbq : Below w.heap.size (adv w r p) wr := by rw [adv_self hR]; exact hb
      have hM := Lib.hid (matOk_zero k)
      clear hBl hmk
      obtain ⟨wo, rfl⟩ : ∃ wo : World, wo = wr := ⟨_, rfl⟩
      go_wp2_with fail
      go_loopw [7] (fun i wr => ∃ (a q : Nat) (t : List (List Int)), a ≤ k ∧ i = .int .i64 a ∧ q ≤ p + 24 * a ∧ Ow2 wr w.heap.size wo.heap.size 29 3 ILit A5 k c5 t ∧ Hid (matOk k t) ∧ wr.heap.size ≥ wo.heap.size ∧ Below w.heap.size (adv w r q) wr) (fun i _ => k - (intOf i).toNat)
      case atStart => exact ⟨0, p, _, by omega, rfl, by omega, hW5, hM, Nat.le_refl _, hbq⟩
      case round =>
        clear hW5 hM hbq hb
        obtain ⟨a, q, t, ha, rfl, hq, hO, hM, hzo, hb⟩ := hrel
        by_cases hak : a < k
        · go_wp2_with fail
          go_loopw [8] (fun i wr => ∃ (b q : Nat) (t : List (List Int)), b ≤ a ∧ i = .int .i64 b ∧ q ≤ p + 24 * a + 3 * b ∧ Ow2 wr w.heap.size wo.heap.size 29 3 ILit A5 k c5 t ∧ Hid (matOk k t) ∧ wr.heap.size ≥ wo.heap.size ∧ Below w.heap.size (adv w r q) wr) (fun i _ => a - (intOf i).toNat)
          case atStart => exact ⟨0, q, t, by omega, rfl, by omega, hO, hM, hzo, hb⟩
          case round =>
            clear hO hM hzo hb hq
            obtain ⟨b, q, t, hba, rfl, hq, hO, hM, hzo, hb⟩ := hrel
            have hsz := hb.size
            rw [size_adv] at hsz
            by_cases hlt2 : b < a
            · go_wp2_with fail
              refine (pick_g w wr r n c p q A bs 2 hR hb (by omega)).mono ?_
              rintro e w1 ⟨k1, ⟨hk0, hk1, -⟩, rfl, hb1, hg1⟩
              have hk1' := hk1 (by omega)
              have hz1 := hg1.size
              rw [size_adv] at hz1
              have hO1 : Ow2 w1 w.heap.size wo.heap.size 29 3 ILit A5 k c5 t := hO.keep fun b' h1 _ h2 => (hg1.block b' h2).trans (heap_adv _ _ _ _ (by omega))
              clear hO hb hg1 hk1
              by_cases hkz : k1 = 0
              · subst hkz
                obtain ⟨ra, hra⟩ : ∃ ra, t[a]? = some ra := ⟨_, List.getElem?_eq_getElem (by rw [hM.out.1]; omega)⟩
                have hral : ra.length = k := by rw [sqB_all hM.out.2.1 hra, hM.out.1]
                obtain ⟨g, ga, ca, rfl, hg0, hgl, hga0, hgal, hne, hca, cell1, celle, frz, hset⟩ := hO1.row (by decide) (by omega) hra (by omega)
                rw [hral] at cell1 hset hca
                obtain ⟨y, hy⟩ : ∃ y, ra[b]? = some y := ⟨_, List.getElem?_eq_getElem (by omega)⟩
                have HRA := Lib.hid hra
                have HRL := Lib.hid hral
                have HO1 := Lib.hid hO1
                have cell2 := celle b y hy
                have frz2 := frz b
                have b0 : (0 : Int) ≤ (b : Int) := by omega
                have b1 : (b : Int) < (k : Int) := by omega
                have a0 : (0 : Int) ≤ (a : Int) := by omega
                have a1 : (a : Int) < (k : Int) := by omega
                have HB1 := Lib.hid hb1
                clear hO1 celle frz hset hra hral hy hb1
                go_wp2_with fail
                go_region_held3 (fun w' => w'.cell? ⟨g, a, none⟩ = some (.slice (some ⟨ga, 0, none⟩) k ca)) (first | go_keep | (exact (World.cell?_of_block (a := ⟨g, a, none⟩) ((hg2.block g hgl).trans (heap_adv _ _ _ _ (by omega)))).trans cell1) | (rw [World.cell?_setCell_other _ _ _ _ (by first | (simp; done) | (simp; omega))]; assumption))
                  ((go_at_call 49; refine (pick_g w _ r n c p (q + 1) A bs 5 hR HB1.out.drew (by omega)).mono ?_; rintro e w2 ⟨k2, ⟨hk20, hk21, -⟩, rfl, hb2, hg2⟩; have hk22 := hk21 (by decide); have hwr : IntKind.i64.wrap (1 + k2) = 1 + k2 := IntWalk.i64_in _ (by omega); have cw2 := (World.cell?_of_block (a := ⟨ga, b, none⟩) ((hg2.block ga hgal).trans (heap_adv _ _ _ _ (by omega)))).trans cell2; have fw2 := (World.frozen?_of_block (a := ⟨ga, b, none⟩) ((hg2.block ga hgal).trans (heap_adv _ _ _ _ (by omega)))).trans frz2))
                have hz2 : w1.heap.size ≤ w2.heap.size := by have := hg2.size; rw [size_adv] at this; exact this
                have hO2 : Ow2 w2 w.heap.size wo.heap.size 29 3 ILit (some ⟨g, 0, none⟩) k c5 t := HO1.out.keep fun b' h1 _ h2 => (hg2.block b' h2).trans (heap_adv _ _ _ _ (by omega))
                have cell2' : w2.cell? ⟨g, a, none⟩ = some (.slice (some ⟨ga, 0, none⟩) k ca) := (World.cell?_of_block (a := ⟨g, a, none⟩) ((hg2.block g hgl).trans (heap_adv _ _ _ _ (by omega)))).trans cell1
                have hO3 := hO2.store (by decide) (by omega) HRA.out (k := b) (by rw [HRL.out]; omega) cell2' (1 + k2)
                have hb3 : Below w.heap.size (adv w r (q + 1 + 1)) (w2.setCell ⟨ga, b, none⟩ (.int .i64 (1 + k2))) := hb2.setCell hga0 _
                have hz3 : w2.heap.size = (w2.setCell ⟨ga, b, none⟩ (.int .i64 (1 + k2))).heap.size := by simp [World.setCell]
                obtain ⟨w3, hw3⟩ : ∃ w3, w2.setCell ⟨ga, b, none⟩ (.int .i64 (1 + k2)) = w3 := ⟨_, rfl⟩
                rw [hw3] at hO3 hb3 hz3 ⊢
                clear hw3 hO2 cell2' cw2 fw2 cell1 cell2 frz2 hb2 hg2 HO1 HB1 hwr
                have hml := hM.out.1
                obtain ⟨rb, hrb⟩ : ∃ rb, (t.set a (ra.set b (1 + k2)))[b]? = some rb := ⟨_, List.getElem?_eq_getElem (by simp; omega)⟩
                have hrb0 : t[b]? = some rb := by
                  rw [List.getElem?_set] at hrb
                  rwa [if_neg (by omega)] at hrb
                have hrbl : rb.length = k := by rw [sqB_all hM.out.2.1 hrb0, hml]
                obtain ⟨g', gb, cb, hA', -, hgl3, hgb0, hgbl, hne3, hcb, cell3, cellf, frz3, -⟩ := hO3.row (by decide) (by omega) hrb (by omega)
                injection hA' with hA'
                injection hA' with hA'
                subst hA'
                rw [hrbl] at cell3 hcb
                obtain ⟨y3, hy3⟩ : ∃ y, rb[a]? = some y := ⟨_, List.getElem?_eq_getElem (by omega)⟩
                have cell4 := cellf a y3 hy3
                have frz4 := frz3 a
                have HRB := Lib.hid hrb
                have HRBL := Lib.hid hrbl
                have HO3 := Lib.hid hO3
                have HB3 := Lib.hid hb3
                clear hO3 cellf frz3 hrb hrb0 hrbl hy3 hb3 hml
                go_wp2_with fail
                go_region_held3 (fun w' => w'.cell? ⟨g, b, none⟩ = some (.slice (some ⟨gb, 0, none⟩) k cb)) (first | go_keep | (exact (World.cell?_of_block (a := ⟨g, b, none⟩) ((hg4.block g hgl3).trans (heap_adv _ _ _ _ (by omega)))).trans cell3) | (rw [World.cell?_setCell_other _ _ _ _ (by first | (simp; done) | (simp; omega))]; assumption))
                  ((go_at_call 49; refine (pick_g w _ r n c p (q + 1 + 1) A bs 5 hR HB3.out.drew (by omega)).mono ?_; rintro e w4 ⟨k3, ⟨hk30, hk31, -⟩, rfl, hb4, hg4⟩; have hk32 := hk31 (by decide); have hwr : IntKind.i64.wrap (1 + k3) = 1 + k3 := IntWalk.i64_in _ (by omega); have cw4 := (World.cell?_of_block (a := ⟨gb, a, none⟩) ((hg4.block gb hgbl).trans (heap_adv _ _ _ _ (by omega)))).trans cell4; have fw4 := (World.frozen?_of_block (a := ⟨gb, a, none⟩) ((hg4.block gb hgbl).trans (heap_adv _ _ _ _ (by omega)))).trans frz4))
                have hz4 : w3.heap.size ≤ w4.heap.size := by have := hg4.size; rw [size_adv] at this; exact this
                have hO4 : Ow2 w4 w.heap.size wo.heap.size 29 3 ILit (some ⟨g, 0, none⟩) k c5 _ := HO3.out.keep fun b' h1 _ h2 => (hg4.block b' h2).trans (heap_adv _ _ _ _ (by omega))
                have cell4' : w4.cell? ⟨g, b, none⟩ = some (.slice (some ⟨gb, 0, none⟩) k cb) := (World.cell?_of_block (a := ⟨g, b, none⟩) ((hg4.block g hgl3).trans (heap_adv _ _ _ _ (by omega)))).trans cell3
                have hO5 := hO4.store (by decide) (by omega) HRB.out (k := a) (by rw [HRBL.out]; omega) cell4' (1 + k3)
                have hM5 := Lib.hid (matOk_step hM.out hlt2 hak HRA.out HRB.out ⟨show 1 ≤ 1 + k2 by omega, show 1 + k2 ≤ 5 by omega⟩ ⟨show 1 ≤ 1 + k3 by omega, show 1 + k3 ≤ 5 by omega⟩)
                have hb5 : Below w.heap.size (adv w r (q + 1 + 1 + 1)) (w4.setCell ⟨gb, a, none⟩ (.int .i64 (1 + k3))) := hb4.setCell hgb0 _
                have hz5 : w4.heap.size = (w4.setCell ⟨gb, a, none⟩ (.int .i64 (1 + k3))).heap.size := by simp [World.setCell]
                clear hO4 cell4' cw4 fw4 cell3 cell4 frz4 hb4 hg4 HO3 HB3 hwr
                go_wp2_with fail
                go_roundw
                case rel => exact ⟨b + 1, q + 1 + 1 + 1, _, by omega, by go_num, by omega, hO5, hM5, by omega, hb5⟩
                case measure => simp [intOf]; omega
              · have hk2 : (k1 == 0) = false := by simpa using hkz
                go_wp2_with fail
                go_roundw
                case rel => exact ⟨b + 1, q + 1, t, by omega, by go_num, by omega, hO1, hM, by omega, hb1⟩
                case measure => simp [intOf]; omega
            · obtain rfl : b = a := by omega
              go_wp2_with fail
              go_roundw
              case rel => exact ⟨b + 1, q, t, by omega, by go_num, by omega, hO, hM, hzo, hb⟩
              case measure => simp [intOf]; omega
        · obtain rfl : a = k := by omega
          go_wp2_with fail
          go_ret
          exact ⟨_, _, q, t, rfl, hO.more hzo, hM.out, by omega, hb⟩
end Go.Proofs.Ytckohbjgogbfaaa

/- The generators of tables of clearance times: anyClear. -/
namespace Go.Proofs.Ytckohbjgogbfaaa
open Go.RowKit

def ClearAny (w : World) (r p : Nat) (e : Ending) (w' : World) : Prop :=
  ∃ A n c q t, e = .returned (.slice A n c) ∧ Kept2 w' w.heap.size ILit A n c t ∧ n ≤ 8 ∧ q ≤ p + 300 ∧ Below w.heap.size (adv w r q) w'

set_option maxHeartbeats 4000000 in
theorem anyClear_c (w : World) (r n c p : Nat) (A : Option Addr) (bs : List Int) (hR : Rd w r A n c bs p) (hp : p ≤ 300000) :
    Calls Try.prog 51 #[.pointer (some ⟨r, 0, none⟩)] w (ClearAny w r p) := by
  have hlt := hR.lt
  go_enter Try.func51, Try.ntmps51
  go_wp2_with fail
  refine (one_lit_c _ r n c (p) A bs _ _ _ _ [4, 5, 3, 6, 2, 1, 8] (by rfl) (by rfl) (by decide) (by decide) (by (repeat' (first | (with_reducible exact hR) | (with_reducible exact RdX.of hR) | (with_reducible refine Rd.alloc ?_ _) | (with_reducible refine Rd.plus ?_ _ _) | (with_reducible refine Rd.drew ?_) | (with_reducible refine RdX.to ?_ _) | (with_reducible refine RdX.alloc ?_ _) | (with_reducible refine RdX.plus ?_ _ _) | (with_reducible refine RdX.adv ?_ _)))) (by omega) (by first | rfl | (simp; done) | (simp; omega))).mono ?_; rintro e w1 ⟨x1, hx1, rfl, os1, d1, rfl⟩
  have hx : 1 ≤ x1 ∧ x1 ≤ 8 := by simp at hx1; omega
  clear hx1
  obtain ⟨hx0, hx8⟩ := hx
  obtain ⟨m, rfl⟩ := Int.eq_ofNat_of_zero_le (show 0 ≤ x1 by omega)
  obtain ⟨w1, hw1⟩ : ∃ w1, plus (adv (w.alloc (.cells #[.int .i64 4, .int .i64 5, .int .i64 3, .int .i64 6, .int .i64 2, .int .i64 1, .int .i64 8] 3)) r (p + 1)) os1 d1 = w1 := ⟨_, rfl⟩
  have hb1 : Below w.heap.size (adv w r (p + 1)) w1 := by
    rw [← hw1, adv_alloc _ _ _ _ hlt]
    (repeat' (first | (with_reducible exact Below.refl _ _) | (with_reducible assumption) | (with_reducible refine Below.alloc ?_ ?_ _) | (with_reducible refine below_plus ?_ ?_ _ _) | (with_reducible refine Below.drew ?_) | (with_reducible refine Below.setCell ?_ ?_ _) | (with_reducible refine below_adv ?_ ?_ _) | go_size | (simp; done) | (simp; omega)))
  have hR1 := (hR.adv (p + 1)).below hb1 hlt
  have hz1 := hb1.size
  rw [size_adv] at hz1
  have hl1 := hR1.lt
  rw [hw1]
  clear hw1
  go_wp2_with fail
  refine (randomClear_c w1 r n c (p + 1) A bs m hR1 (by omega) (by omega) (by omega)).mono ?_
  rintro e w2 ⟨A2, c2, q2, t, rfl, hO2, hM, hq2, hb2⟩
  have hz2 := hb2.size
  rw [size_adv] at hz2
  have hb02 := (below_adv2 hb1 q2).trans (hb2.mono hz1)
  have HTL := Lib.hid hM.1
  have HSQ := Lib.hid hM.2.1
  clear hb1 hb2 hM
  go_wp2_with fail
  refine (pick_g w w2 r n c p q2 A bs 24 hR hb02 (by omega)).mono ?_
  rintro e w4 ⟨k, -, rfl, hb4, hg4⟩
  have hz4 : w2.heap.size ≤ w4.heap.size := by have := hg4.size; rw [size_adv] at this; exact this
  have hO4 : Ow2 w4 w1.heap.size w2.heap.size 29 3 ILit A2 m c2 t := hO2.keep fun b' h1 _ h2 => (hg4.block b' h2).trans (heap_adv _ _ _ _ (by omega))
  have hK4 := (hO4.less (lo' := w.heap.size) (by omega)).kept2 (by omega)
  obtain ⟨hcc0, hcc1⟩ := hO4.cap
  clear hO2 hg4 hb02
  by_cases k0 : k = 0
  · subst k0
    obtain ⟨r0, hr0⟩ : ∃ r0, t[0]? = some r0 := ⟨_, List.getElem?_eq_getElem (by rw [HTL.out]; omega)⟩
    have hrl : r0.length = m := by rw [sqB_all HSQ.out hr0, HTL.out]
    obtain ⟨g, ga, ca, rfl, hg0, hgl, hga0, hgal, hne, hca, cell1, celle, frz, hset⟩ := hO4.row (by decide) (by omega) hr0 (by omega)
    obtain ⟨y, hy⟩ : ∃ y, r0[0]? = some y := ⟨_, List.getElem?_eq_getElem (by omega)⟩
    have cell2 := celle 0 y hy
    have frz2 := frz 0
    have hO5 := hset 0 1 (by omega)
    have hK5 := (hO5.less (lo' := w.heap.size) (by omega)).kept2 (by simp [World.setCell]; omega)
    rw [hrl] at cell1 hca
    have HK := Lib.hid hK5
    have hm0 : (0 : Int) < (m : Int) := by omega
    have hb5 := hb4.setCell (p := ⟨ga, 0, none⟩) (show w.heap.size ≤ ga by omega) (.int .i64 1)
    clear hO4 hK4 hr0 hrl celle frz hset hy hO5 hK5
    go_wp2_with fail
    go_ret
    exact ⟨_, _, _, q2 + 1, _, rfl, HK.out, by omega, by omega, hb5⟩
  · by_cases k1 : k = 1
    · subst k1
      obtain ⟨m', rfl⟩ : ∃ m', m = m' + 1 := ⟨m - 1, by omega⟩
      obtain ⟨r0, hr0⟩ : ∃ r0, t[m']? = some r0 := ⟨_, List.getElem?_eq_getElem (by rw [HTL.out]; omega)⟩
      have hrl : r0.length = m' + 1 := by rw [sqB_all HSQ.out hr0, HTL.out]
      obtain ⟨g, ga, ca, rfl, hg0, hgl, hga0, hgal, hne, hca, cell1, celle, frz, hset⟩ := hO4.row (by decide) (by omega) hr0 (by omega)
      obtain ⟨y, hy⟩ : ∃ y, r0[0]? = some y := ⟨_, List.getElem?_eq_getElem (by omega)⟩
      have cell2 := celle 0 y hy
      have frz2 := frz 0
      rw [hrl] at cell1 hca
      have hm0 : (0 : Int) < ((m' : Int) + 1) := by omega
      have hm2 : ((m' : Int) + 1) - 1 = (m' : Int) := by omega
      have hR4 := (hR.adv (q2 + 1)).below hb4 hlt
      have n1 : (0 : Int) ≤ (m' : Int) := by omega
      have n2 : (m' : Int) < (m' : Int) + 1 := by omega
      have n3 : IntKind.i64.wrap (m' : Int) = (m' : Int) := IntWalk.i64_in _ (by omega)
      have HR0 := Lib.hid hr0
      have HRL := Lib.hid hrl
      have HO := Lib.hid hO4
      have HB4 := Lib.hid hb4
      have HR4 := Lib.hid hR4
      have hr4 : r < w4.heap.size := by omega
      clear hO4 hK4 hr0 hrl celle frz hset hy hb4 hR4
      go_wp2_with fail
      go_region_held3 (fun w' => w'.cell? ⟨g, m', none⟩ = some (.slice (some ⟨ga, 0, none⟩) (m' + 1) ca)) (first | go_keep | (exact hS5) | (rw [World.cell?_setCell_other _ _ _ _ (by first | (simp; done) | (simp; omega))]; assumption))
        ((go_at_call 48; refine (one_lit_c w4.drew r n c (q2 + 1) A bs _ _ _ _ [0, 5, 6, -1] (by rfl) (by rfl) (by decide) (by decide) HR4.out.drew (by omega) (by first | rfl | (simp; done) | (simp; omega))).mono ?_; rintro e w5 ⟨x, hxm, rfl, os5, d5, hw5⟩; have hb5 : Below w4.heap.size (adv w4 r (q2 + 1 + 1)) w5 := (by rw [← hw5, adv_alloc _ _ _ _ (show r < w4.drew.heap.size from hr4), adv_drew]; (repeat' (first | (with_reducible exact Below.refl _ _) | (with_reducible assumption) | (with_reducible refine Below.alloc ?_ ?_ _) | (with_reducible refine below_plus ?_ ?_ _ _) | (with_reducible refine Below.drew ?_) | (with_reducible refine Below.setCell ?_ ?_ _) | (with_reducible refine below_adv ?_ ?_ _) | go_size | (simp; done) | (simp; omega)))); have hS5 := (World.cell?_of_block (a := ⟨g, m', none⟩) ((hb5.block g hgl).trans (heap_adv _ _ _ _ (by omega)))).trans cell1; have cw5 := (World.cell?_of_block (a := ⟨ga, 0, none⟩) ((hb5.block ga hgal).trans (heap_adv _ _ _ _ (by omega)))).trans cell2; have fw5 := (World.frozen?_of_block (a := ⟨ga, 0, none⟩) ((hb5.block ga hgal).trans (heap_adv _ _ _ _ (by omega)))).trans frz2))
      have hz5 : w4.heap.size ≤ w5.heap.size := by have := hb5.size; rw [size_adv] at this; exact this
      have hO5 : Ow2 w5 w1.heap.size w2.heap.size 29 3 ILit (some ⟨g, 0, none⟩) (m' + 1) c2 t := HO.out.keep fun b' h1 _ h2 => (hb5.block b' h2).trans (heap_adv _ _ _ _ (by omega))
      have hO6 := hO5.store (by decide) (by omega) HR0.out (k := 0) (by rw [HRL.out]; omega) hS5 x
      have hK6 := (hO6.less (lo' := w.heap.size) (by omega)).kept2 (by simp [World.setCell]; omega)
      have HK := Lib.hid hK6
      have hb6 : Below w.heap.size (adv w r (q2 + 1 + 1)) w5 := (below_adv2 HB4.out (q2 + 1 + 1)).trans (hb5.mono (by omega))
      have hb7 := hb6.setCell (p := ⟨ga, 0, none⟩) (show w.heap.size ≤ ga by omega) (.int .i64 x)
      clear hO5 hO6 hK6 hb5 hb6 hS5 cw5 fw5 n3 hw5 cell1 cell2 frz2
      go_wp2_with fail
      go_ret
      exact ⟨_, _, _, q2 + 1 + 1, _, rfl, HK.out, by omega, by omega, hb7⟩
    · by_cases k2 : k = 2
      · subst k2
        have hd := hK4.drop (k := 1) (by omega)
        have hA2 : ∃ g, A2 = some ⟨g, 0, none⟩ := by
          obtain ⟨vs, h1, -, -⟩ := hO4
          obtain ⟨g, cs, hA, -⟩ := h1.2.2.2 (by omega)
          exact ⟨g, hA⟩
        obtain ⟨g, rfl⟩ := hA2
        by_cases hc1 : c2 = 1
        · rw [if_pos hc1] at hd
          rw [hc1] at hd
          have HD := Lib.hid hd
          clear hd hO4 hK4
          go_wp2_with fail
          go_ret
          exact ⟨_, _, _, q2 + 1, _, rfl, by simpa [hc1] using HD.out, by omega, by omega, hb4⟩
        · rw [if_neg hc1] at hd
          have HD := Lib.hid hd
          clear hd hO4 hK4
          go_wp2_with fail
          go_ret
          exact ⟨_, _, _, q2 + 1, _, rfl, HD.out, by omega, by omega, hb4⟩
      · have k0' : (k == 0) = false := by simpa using k0
        have k1' : (k == 1) = false := by simpa using k1
        have k2' : (k == 2) = false := by simpa using k2
        have HK := Lib.hid hK4
        clear hO4 hK4 k0 k1 k2
        go_wp2_with fail
        go_ret
        exact ⟨_, _, _, q2 + 1, _, rfl, HK.out, by omega, by omega, hb4⟩
end Go.Proofs.Ytckohbjgogbfaaa

/- The generators of phases: randomPhase, anyPhase. -/
namespace Go.Proofs.Ytckohbjgogbfaaa
open Go.RowKit

theorem mod_bd {a m : Int} (h : 0 < m) : 0 ≤ a % m ∧ a % m < m := ⟨Int.emod_nonneg a (by omega), Int.emod_lt_of_pos a h⟩

set_option maxHeartbeats 4000000 in
theorem randomPhase_c (w : World) (r n c p : Nat) (A : Option Addr) (bs : List Int) (hR : Rd w r A n c bs p) (hp : p ≤ 400000) (At : Option Addr) (m ct : Nat) (t : List (List Int)) (B : Nat) (hT : Sl2 w B ILit At m ct t) (hB : B ≤ w.heap.size) (hok : cOk t = true) :
    Calls Try.prog 67 #[.pointer (some ⟨r, 0, none⟩), .slice At m ct] w (IntsOf w r p 8 10) := by
  have hlt := hR.lt
  obtain ⟨ht0, ht1⟩ := hT.cap
  obtain ⟨i0, hi, hi0, hi1, hi2⟩ := info_parts info_int
  obtain ⟨hm1, hm8, hsq, -, -⟩ := cOk_iff.1 hok
  rw [hT.len] at hm1 hm8
  have HSQ := Lib.hid (conf_sq hsq)
  have HTL := Lib.hid ((conf_len t).trans hT.len)
  have hb0 : Below w.heap.size w (w.alloc (.cells #[] 3)) := (Below.refl _ _).alloc (Nat.le_refl _) _
  have C1 := Lib.hid (sConflictsOf_c At m ct t (w.alloc (.cells #[] 3)) B (hT.keep fun b i hb => World.cell?_alloc_lt w _ ⟨b, i, none⟩ (by show b < _; omega)) (by simp; omega))
  rw [confF_yes hok] at C1
  have hown0 := World.ownsRow_made (base := w.heap.size) (e := 3) (size := 1) w #[] 0 (Nat.le_refl _) (by decide) rfl
  have hm0 : (0 : Int) < (m : Int) := by omega
  clear hT hok hsq
  go_enter Try.func67, Try.ntmps67
  go_wp2_with fail
  refine C1.out.mono ?_
  rintro e w1 ⟨A1, n1, c1, rfl, hO1, hb1⟩
  have hn1 : n1 = m := by rw [← hO1.len]; exact HTL.out
  subst hn1
  have hz1 := hb1.size
  simp only [World.size_alloc] at hz1
  have hown1 := own_below hown0 hb1
  have hb01 : Below w.heap.size (adv w r p) w1 := by rw [adv_self hR]; exact hb0.trans (hb1.mono (by simp))
  clear hb1 hown0 hb0 C1
  go_wp2_with fail
  refine (pick_g w w1 r n c p p A bs _ hR hb01 (by omega)).mono ?_
  rintro e w2 ⟨at0, ⟨ha0, ha1, -⟩, rfl, hb2, hg2⟩
  have ha1' := ha1 (by omega)
  obtain ⟨a0, rfl⟩ := Int.eq_ofNat_of_zero_le ha0
  have hz2 := hg2.size
  rw [size_adv] at hz2
  have hown2 := own_go hown1 hlt hg2
  have hO2 : Ow2 w2 (w.heap.size + 1) w1.heap.size 62 4 OLit A1 n1 c1 (conf t) := (by simpa using hO1 : Ow2 w1 (w.heap.size + 1) _ _ _ OLit A1 n1 c1 (conf t)).keep fun b' h1 _ h2 => (hg2.block b' h2).trans (heap_adv _ _ _ _ (by omega))
  obtain ⟨hi0', hhi⟩ : ∃ hi0', w1.heap.size = hi0' := ⟨_, rfl⟩
  rw [hhi] at hO2 hz1 hz2
  clear hb01 hO1 hown1 hg2 ha1 hhi
  go_wp2_with fail
  go_loopw [5, 8] (fun v i wr => ∃ (k j q : Nat) (xs : List Int), k ≤ n1 ∧ i = .int .i64 k ∧ j ≤ k ∧ q ≤ p + 1 + k ∧ wr.ownsRow w.heap.size 3 1 v j (xs.map ILit) ∧ Hid (∀ x ∈ xs, 0 ≤ x ∧ x < n1) ∧ Hid (∀ b, v.ownBlock = some b → b = w.heap.size ∨ hi0' ≤ b) ∧ Ow2 wr (w.heap.size + 1) hi0' 62 4 OLit A1 n1 c1 (conf t) ∧ hi0' ≤ wr.heap.size ∧ Below w.heap.size (adv w r q) wr) (fun _ i _ => n1 - (intOf i).toNat)
  case atStart => exact ⟨0, 0, p + 1, [], by omega, rfl, by omega, by omega, hown2, Lib.hid (by simp), Lib.hid (fun b hb => by simp [Value.ownBlock] at hb; left; exact hb.symm), hO2, hz2, hb2⟩
  case round =>
    clear hown2 hO2 hz2 hb2
    obtain ⟨k, j, q, xs, hk, rfl, hjk, hq, hown, hin, hbl, hO, hzh, hb⟩ := hrel
    have hzr := hb.size
    rw [size_adv] at hzr
    by_cases hlt2 : k < n1
    · obtain ⟨hy0, hy1⟩ := mod_bd (a := (a0 : Int) + (k : Int)) hm0
      go_wp2_with fail
      refine (pick_g w wr r n c p q A bs _ hR hb (by omega)).mono ?_
      rintro e w3 ⟨k3, ⟨hk30, hk31, -⟩, rfl, hb3, hg3⟩
      have hz3 := hg3.size
      rw [size_adv] at hz3
      have hown3 := own_go hown hlt hg3
      have hO3 := hO.keep (w' := w3) fun b' h1 _ h2 => (hg3.block b' h2).trans (heap_adv _ _ _ _ (by omega))
      clear hown hO hb hg3 hk31
      by_cases hk0 : k3 = 0
      · subst hk0
        go_wp2_with fail
        go_roundw
        case rel => exact ⟨k + 1, j, q + 1, xs, by omega, by go_num, by omega, by omega, hown3, hin, hbl, hO3, by omega, hb3⟩
        case measure => simp [intOf]; omega
      · obtain ⟨Av, cv, rfl, hW3⟩ := Ow.of_own hown3
        have C4 := Lib.hid (copyInts_c Av j cv xs w3 _ hW3.sl (Nat.le_refl _) (by omega))
        have hk3p : 0 < k3 := by omega
        go_wp2_with fail
        refine C4.out.mono ?_
        rintro e w4 ⟨v4, rfl, hown4, hb4⟩
        have hz4 := hb4.size
        clear C4
        have hcl : ∀ Ax cx wx Bx, Sl2 wx Bx OLit A1 n1 c1 (conf t) → Sl wx Bx ILit Ax (j + 1) cx (xs ++ [((a0 : Int) + (k : Int)) % (n1 : Int)]) → Bx ≤ wx.heap.size → Calls Try.prog 73 #[.slice A1 n1 c1, .slice Ax (j + 1) cx] wx fun e w' => e = .returned (.bool (clearB (conf t) (xs ++ [((a0 : Int) + (k : Int)) % (n1 : Int)]))) ∧ Below wx.heap.size wx w' := fun Ax cx wx Bx h1 h2 h3 =>
          clear_c A1 n1 c1 (conf t) Ax (j + 1) cx _ wx Bx h1 h2 h3 HSQ.out (fun x hx => by
            rcases List.mem_append.1 hx with hx | hx
            · exact hin.out x hx
            · simp at hx; subst hx; exact ⟨hy0, hy1⟩) (by omega)
        cases hcb : clearB (conf t) (xs ++ [((a0 : Int) + (k : Int)) % (n1 : Int)])
        all_goals
          rw [hcb] at hcl
          have HCL := Lib.hid hcl
          clear hcl hcb
          go_wp2_with (at_builtin; refine wpList_unguard (by rfl) ?_; refine wpList_app1 w3 w4 rfl _ _ 29 rfl 3 i0 (.int .i64 0) 8 Try.underlying29 hi hi0 hi1 hi2 rfl (by decide) w3.heap.size _ j _ (by rfl) hown4 _ rfl _ (by rfl) rfl (by omega) hb4 hz4 ?_; intro v5 w5 hO5 hb5 hg5)
          rw [ints_snoc] at hO5
          obtain ⟨A5, c5, rfl, hW5⟩ := Ow.of_own hO5
          have hz5 := hb5.size
          have hT5 := ((hO3.below hb5).more (hi' := w5.heap.size) (by omega)).sl2hi
          have C5 := Lib.hid (HCL.out A5 c5 w5 _ hT5 hW5.sl (Nat.le_refl _))
          have hown5 := own_below hown3 hb5
          have hO6 := hO3.below hb5
          clear hW5 hO5 hT5 hg5 hown4 hb4 HCL
          go_wp2_with fail
          refine C5.out.mono ?_
          rintro e w6 ⟨rfl, hb6⟩
          have hz6 := hb6.size
          have hown6 := own_below hown5 hb6
          have hO7 := hO6.below hb6
          have hb06 : Below w.heap.size (adv w r (q + 1)) w6 := (hb3.trans (hb5.mono (by omega))).trans (hb6.mono (by omega))
          clear hown5 hO6 hb5 hb6 hb3 hO3 hown3 C5 hW3
        · go_wp2_with fail
          go_roundw
          case rel => exact ⟨k + 1, j, q + 1, xs, by omega, by go_num, by omega, by omega, hown6, hin, hbl, hO7, by omega, hb06⟩
          case measure => simp [intOf]; omega
        · have hzq := hb06.size
          go_wp2_with (at_builtin; refine wpList_app1_at (adv w r (q + 1)) w6 rfl _ _ 29 rfl 3 i0 (.int .i64 0) 8 Try.underlying29 hi hi0 hi1 hi2 rfl (by decide) w.heap.size _ j _ (by rfl) hown6 _ rfl _ (by rfl) rfl (by omega) hb06 (by rw [size_adv] at hzq; exact hzq) ?_; intro v8 w8 hO8 hb8 hg8 hv8)
          rw [ints_snoc] at hO8
          have hz8 := hg8.size
          have hO9 : Ow2 w8 (w.heap.size + 1) hi0' 62 4 OLit A1 n1 c1 (conf t) := hO7.keep fun b' h1 h2 h3 => hg8.block b' h3 fun e => by
            have := hbl.out b' e.symm
            omega
          have hbl8 : Hid (∀ b, v8.ownBlock = some b → b = w.heap.size ∨ hi0' ≤ b) := Lib.hid fun b hb => by
            rcases hv8 with e | e
            · exact hbl.out b (e ▸ hb)
            · rw [e] at hb; injection hb with hb; omega
          have hin8 : Hid (∀ x ∈ xs ++ [((a0 : Int) + (k : Int)) % (n1 : Int)], 0 ≤ x ∧ x < n1) := Lib.hid fun x hx => by
            rcases List.mem_append.1 hx with hx | hx
            · exact hin.out x hx
            · simp at hx; subst hx; exact ⟨hy0, hy1⟩
          clear hO7 hg8 hown6 hv8
          go_roundw
          case rel => exact ⟨k + 1, j + 1, q + 1, _, by omega, by go_num, by omega, by omega, hO8, hin8, hbl8, hO9, by omega, hb8⟩
          case measure => simp [intOf]; omega
    · obtain rfl : k = n1 := by omega
      obtain ⟨Av, cv, rfl, hW⟩ := Ow.of_own hown
      have C9 := Lib.hid (sorted_c Av j cv xs wr _ hW.sl (Nat.le_refl _) (by omega))
      clear hW hown hO hbl hin
      go_wp2_with fail
      refine C9.out.mono ?_
      rintro e w9 ⟨A9, c9, rfl, hW9, hb9⟩
      go_wp2_with fail
      go_ret
      exact ⟨A9, j, c9, q, _, rfl, hW9.sl, by omega, by omega, hb.trans (hb9.mono hzr), (hW9.mono hzr).lo⟩
end Go.Proofs.Ytckohbjgogbfaaa

/- The generators anyPhase, DrawChangeTime. -/
namespace Go.Proofs.Ytckohbjgogbfaaa
open Go.RowKit

set_option maxHeartbeats 4000000 in
theorem anyPhase_c (w : World) (r n c p : Nat) (A : Option Addr) (bs : List Int) (hR : Rd w r A n c bs p) (hp : p ≤ 300000) (At : Option Addr) (m ct : Nat) (t : List (List Int)) (B : Nat) (hT : Sl2 w B ILit At m ct t) (hB : B ≤ w.heap.size) :
    Calls Try.prog 50 #[.pointer (some ⟨r, 0, none⟩), .slice At m ct] w (IntsOf w r p 9 13) := by
  have hlt := hR.lt
  have C1' := sValidClearance_c At m ct t w B hT hB
  have hT0 := hT.more hB
  cases hok : cOk t
  · rw [hok] at C1'
    have C1 := Lib.hid C1'
    clear C1' hok hT hT0
    go_enter Try.func50, Try.ntmps50
    go_wp2_with fail
    refine C1.out.mono ?_
    rintro e w1 ⟨rfl, hb1⟩
    have hz1 := hb1.size
    have hb01 : Below w.heap.size (adv w r p) w1 := by rw [adv_self hR]; exact hb1
    have hS := Sl.new w1 ILit [0] 3 (by simp)
    go_wp2_with fail
    go_ret
    exact ⟨_, _, _, p, _, rfl, hS.more (by simp), by simp, by omega, hb01.alloc hz1 _, fun _ b o h => by injection h with h; injection h with h; omega⟩
  · rw [hok] at C1'
    have C1 := Lib.hid C1'
    have HOK := Lib.hid hok
    clear C1' hok hT
    go_enter Try.func50, Try.ntmps50
    go_wp2_with fail
    refine C1.out.mono ?_
    rintro e w1 ⟨rfl, hb1⟩
    have hz1 := hb1.size
    have hb01 : Below w.heap.size (adv w r p) w1 := by rw [adv_self hR]; exact hb1
    have hR1 : Rd w1 r A n c bs p := hR.below hb1 hlt
    have C2 := Lib.hid (randomPhase_c w1 r n c p A bs hR1 (by omega) At m ct t _ (hT0.below hb1) hz1 HOK.out)
    clear C1 hT0 hb1
    go_wp2_with fail
    refine C2.out.mono ?_
    rintro e w2 ⟨A2, n2, c2, q2, xs, rfl, hS2, hn2, hq2, hb2, -⟩
    have hz2 := hb2.size
    rw [size_adv] at hz2
    have hR2 := (hR1.adv q2).below hb2 (by omega)
    have hb02 := (below_adv2 hb01 q2).trans (hb2.mono hz1)
    have C3 := Lib.hid (spoil_c w2 r n c q2 A bs hR2 (by omega) A2 n2 c2 _ xs 8 hS2 (Nat.le_refl _) (by omega))
    clear C2 hS2 hb2 hb01 hR1 hR2
    go_wp2_with fail
    refine C3.out.mono ?_
    rintro e w3 ⟨A3, n3, c3, q3, ys, rfl, hS3, hn3, hq3, hb3, hlo3⟩
    have HLO := Lib.hid hlo3
    have hb03 := (below_adv2 hb02 q3).trans (hb3.mono (by omega))
    clear hlo3
    go_wp2_with fail
    go_ret
    exact ⟨_, _, _, q3, _, rfl, hS3, by omega, by omega, hb03, fun h b o hA => by have := HLO.out h b o hA; omega⟩
end Go.Proofs.Ytckohbjgogbfaaa
