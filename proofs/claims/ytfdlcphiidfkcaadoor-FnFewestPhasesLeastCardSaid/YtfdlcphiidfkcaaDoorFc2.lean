/- slices.SortFunc over rows of ints, in my own words. -/
import Derived.Test.YtfdlcphiidfkcaaDoorShelf
import Derived.Test.YtfdlcphiidfkcaaDoorFc1
import Derived.Test.YtfdlcphiidfkcaaDoorFb2
import Derived.Test.YtfdlcphiidfkcaaDoorBc
set_option linter.unusedVariables false
set_option linter.unusedSimpArgs false
namespace Go.Proofs.YtfdlcphiidfkcaaDoor
open Go.RowKit Go.Sort

theorem lessL_tr {a b c : List Int} (h1 : lessL a b = true) (h2 : lessL b c = true) : lessL a c = true := by
  cases h : lessL a c
  · have h3 := lessL_trans (a := b) (b := c) (c := a) (lessL_asym h2) h
    rw [h1] at h3; cases h3
  · rfl
theorem ltOf_cmp {α : Type} (f : α → List Int) (x y : α) : ltOf (fun a b => cmpL (f a) (f b)) x y = lessL (f x) (f y) := by
  unfold ltOf
  rw [Bool.eq_iff_iff, decide_eq_true_eq]
  exact cmpL_neg
theorem swo_cmp {α : Type} (f : α → List Int) : SWO (ltOf fun a b : α => cmpL (f a) (f b)) where
  irrefl x := by rw [ltOf_cmp]; exact lessL_irr _
  trans x y z h1 h2 := by rw [ltOf_cmp] at *; exact lessL_tr h1 h2
  ntrans x y z h1 h2 := by rw [ltOf_cmp] at *; exact lessL_trans h2 h1

theorem sortWorld_off {α : Type} [Inhabited α] (enc : α → Value) (w : World) (g m : Nat) (dk : Array α) (os : Array Obj) {b : Nat} (hne : b ≠ g) (hlt : b < w.heap.size) : (sortWorld enc w g 0 m dk os).heap[b]? = w.heap[b]? := by
  show (_ ++ os)[b]? = _
  rw [Array.getElem?_append_left (by simpa using hlt)]
  simp [Go.Sort.putRow, Go.Sort.mapBlock, Array.getElem?_modify, Ne.symm hne]
theorem sortWorld_at {α : Type} [Inhabited α] (enc : α → Value) (w : World) (g m : Nat) (dk : Array α) (os : Array Obj) {cs : Array Value} {E : Nat} (hh : w.heap[g]? = some (.cells cs E (0, 0))) : (sortWorld enc w g 0 m dk os).heap[g]? = some (.cells (Go.Sort.putCells enc 0 dk cs) E (0, 0)) := by
  have hg := lt_of_heap hh
  show (_ ++ os)[g]? = _
  rw [Array.getElem?_append_left (by simpa using hg)]
  simp only [Go.Sort.putRow, Go.Sort.mapBlock, Go.Sort.heap_ahead, Array.getElem?_modify, if_true, hh, Option.map_some, Go.Sort.onCells]

def RowsSorted (w : World) (lo hi : Nat) (A : Option Addr) (n c : Nat) (xss : List (List Int)) (e : Ending) (w' : World) : Prop :=
  e = .returned (.tuple #[]) ∧ Ow2 w' lo hi 28 3 ILit A n c (sortL xss) ∧ Below lo w w'

theorem enters_cmp : ∀ args w, (callFunc 43 args).run Tryd.prog w = .ok (.enter 43 args) w := enters_of Tryd.func43 (by kernel_rfl) rfl

set_option maxHeartbeats 1000000 in
theorem sortRows_c (A : Option Addr) (n c : Nat) (xss : List (List Int)) (w : World) (lo hi : Nat) (h : Ow2 w lo hi 28 3 ILit A n c xss) (hhi : hi ≤ w.heap.size) (hn : 0 < n) (hn2 : n ≤ 1048576) :
    Calls Tryd.prog 42 #[.slice A n c, .func (.func 43) #[] #[]] w (RowsSorted w lo hi A n c xss) := by
  have hxl := h.len
  obtain ⟨hc0, hc1⟩ := h.cap
  obtain ⟨vs, hV, hR, hA⟩ := h
  have hvl := hV.len
  obtain ⟨g, cs, rfl, hb, hh, hc⟩ := hV.2.2.2 hn
  have hg := lt_of_heap hh
  have hghi := hA g 0 rfl
  haveI : Inhabited (Fin n) := ⟨⟨0, hn⟩⟩
  let enc : Fin n → Value := fun i => vs[i.1]'(by rw [hvl]; exact i.2)
  let rw' : Fin n → List Int := fun i => xss[i.1]'(by rw [hxl]; exact i.2)
  let d : Array (Fin n) := Array.ofFn id
  have hds : d.size = n := by simp [d]
  have hdj : ∀ (j : Nat) (hj : j < n), d[j]! = ⟨j, hj⟩ := fun j hj => by
    rw [getElem!_pos d j (by omega)]; simp [d]
  have hrow : ∀ i : Fin n, ∃ A1 n1 c1, enc i = .slice A1 n1 c1 ∧ Ow w lo 3 ILit A1 n1 c1 (rw' i) ∧ ∀ w' : World, (∀ b, b ≠ g → b < w.heap.size → w'.heap[b]? = w.heap[b]?) → Sl w' w.heap.size ILit A1 n1 c1 (rw' i) := fun i => by
    have hu : vs[i.1]? = some (enc i) := List.getElem?_eq_getElem _
    obtain ⟨xs, A1, n1, c1, hx, e1, o1, -⟩ := hR.at_ hu
    have hxr : xs = rw' i := by
      rw [List.getElem?_eq_getElem (show i.1 < xss.length by rw [hxl]; exact i.2)] at hx
      injection hx with hx
      exact hx.symm
    subst hxr
    refine ⟨A1, n1, c1, e1, o1, fun w' hag => o1.sl.at1 fun h0 b o hA' hlt => hag b (fun e => ?_) hlt⟩
    obtain ⟨b', cs', hA2, -, hh', -⟩ := o1.2.2.2 h0
    rw [hA'] at hA2
    injection hA2 with hA2
    injection hA2 with hA2
    subst hA2
    rw [e, hh] at hh'
    injection hh' with hh'
    injection hh' with _ hh'
    exact absurd hh' (by decide)
  have hH : Holds enc w g 0 d := fun j hj => by
    rw [hds] at hj
    rw [Nat.zero_add, hdj j hj]
    have hu : vs[j]? = some (enc ⟨j, hj⟩) := List.getElem?_eq_getElem _
    exact ⟨by rw [cell_of_row _ _ _ _ _ _ hh]; exact hc j _ hu, by simp [World.frozen?, hh]⟩
  have hone : OneCell enc := fun i => by
    obtain ⟨A1, n1, c1, e1, -⟩ := hrow i
    rw [e1]; rfl
  have hcmp : CmpLays1 Tryd.prog 43 #[] enc (fun x y => cmpL (rw' x) (rw' y)) g 0 d.size w := fun m os dk hdk x y => by
    obtain ⟨A1, n1, c1, e1, -, k1⟩ := hrow x
    obtain ⟨A2, n2, c2, e2, -, k2⟩ := hrow y
    rw [Array.append_empty, e1, e2]
    have hag : ∀ b, b ≠ g → b < w.heap.size → (sortWorld enc w g 0 m dk os).heap[b]? = w.heap[b]? := fun b h1 h2 => sortWorld_off enc w g m dk os h1 h2
    refine (compare_c A1 n1 c1 (rw' x) A2 n2 c2 (rw' y) (sortWorld enc w g 0 m dk os) w.heap.size (k1 _ hag) (k2 _ hag)).mono ?_
    rintro e w' ⟨rfl, rfl⟩
    exact ⟨rfl, 0, #[], by rw [grow_empty]; rfl⟩
  have hcall := Tryd.slices_SortFunc enc hone (fun x y => cmpL (rw' x) (rw' y)) (swo_cmp rw') 43 #[] g 0 c d w enters_cmp hcmp hH hg (by rw [hds]; omega)
  rw [hds] at hcall
  refine hcall.mono ?_
  rintro e w' ⟨rfl, d', m, os, hp, hs, rfl⟩
  obtain ⟨p1, -, p3⟩ := hp
  rw [hds] at p1
  have hperm : d'.toList.Perm d.toList := by
    have e1 : (d'.extract 0 n) = d' := Array.extract_eq_self_of_le (by omega)
    have e2 : (d.extract 0 n) = d := Array.extract_eq_self_of_le (by omega)
    rw [e1, e2] at p3
    exact p3
  have hdl : d.toList.map enc = vs := by
    apply List.ext_getElem
    · simp [d, hvl]
    · intro i h1 h2; simp [d, enc]
  have hdx : d.toList.map rw' = xss := by
    apply List.ext_getElem
    · simp [d, hxl]
    · intro i h1 h2; simp [d, rw']
  have hx' : d'.toList.map rw' = sortL xss := by
    refine sortL_of ?_ ?_
    · have := hperm.map rw'
      rwa [hdx] at this
    · rw [List.pairwise_map, List.pairwise_iff_getElem]
      intro i j h1 h2 hij
      simp only [Array.length_toList] at h1 h2
      have := hs i j (Nat.zero_le _) hij (by omega)
      rw [ltOf_cmp, getElem!_pos d' i h1, getElem!_pos d' j h2] at this
      simpa [leL] using this
  have hag : ∀ b, b ≠ g → b < w.heap.size → (sortWorld enc w g 0 m d' os).heap[b]? = w.heap[b]? := fun b h1 h2 => sortWorld_off enc w g m d' os h1 h2
  have hgg := sortWorld_at enc w g m d' os hh
  have hRn : Rws (sortWorld enc w g 0 m d' os) lo hi 3 ILit vs xss := by
    refine ⟨hR.1, fun j v xs hv hx => ?_, hR.2.2⟩
    obtain ⟨A1, n1, c1, e1, o1, b1⟩ := hR.2.1 j v xs hv hx
    refine ⟨A1, n1, c1, e1, ?_, b1⟩
    refine ⟨o1.1, o1.2.1, o1.2.2.1, fun h0 => ?_⟩
    obtain ⟨b', cs', hA2, hb', hh', hc'⟩ := o1.2.2.2 h0
    refine ⟨b', cs', hA2, hb', (hag b' (fun e => ?_) (lt_of_heap hh')).trans hh', hc'⟩
    rw [e, hh] at hh'
    injection hh' with hh'
    injection hh' with _ hh'
    exact absurd hh' (by decide)
  refine ⟨rfl, ⟨d'.toList.map enc, ⟨by simp [p1], hc0, hc1, fun _ => ⟨g, _, rfl, hb, hgg, fun j x hx => ?_⟩⟩, ?_, fun b o hA' => hA b o hA'⟩, ?_⟩
  · have hj : j < n := by have := (List.getElem?_eq_some_iff.1 hx).1; simpa [p1] using this
    have hjc : j < cs.size := by
      have := hc j _ (List.getElem?_eq_getElem (show j < vs.length by omega))
      exact (Array.getElem?_eq_some_iff.1 this).1
    rw [Go.Sort.putCells, Array.getElem?_mapIdx, Array.getElem?_eq_getElem hjc]
    simp only [Option.map_some, Nat.zero_le, true_and, Nat.zero_add, Nat.sub_zero]
    rw [if_pos (by omega), getElem!_pos d' j (by omega)]
    rw [List.getElem?_map, Array.getElem?_toList, Array.getElem?_eq_getElem (by omega)] at hx
    simpa using hx
  · rw [← hx']
    refine hRn.reindex (by simp) (by have := hperm.map enc; rwa [hdl] at this) fun j u xs hu hx => ?_
    rw [List.getElem?_map, Array.getElem?_toList] at hu hx
    obtain ⟨i, hi', rfl⟩ := Option.map_eq_some_iff.1 hu
    rw [hi', Option.map_some] at hx
    injection hx with hx
    exact ⟨i.1, List.getElem?_eq_getElem _, by rw [← hx]; exact List.getElem?_eq_getElem _⟩
  · refine ⟨rfl, rfl, rfl, ?_, fun b hlt => hag b (by omega) (by omega)⟩
    show w.heap.size ≤ (_ ++ os).size
    simp
end Go.Proofs.YtfdlcphiidfkcaaDoor
