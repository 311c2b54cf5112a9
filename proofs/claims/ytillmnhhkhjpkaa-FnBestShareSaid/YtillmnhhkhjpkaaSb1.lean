/- The fleet's functions, walked. -/
import Derived.Test.YtillmnhhkhjpkaaSa1
import Derived.Test.YtillmnhhkhjpkaaBc
import Derived.StillTailTactics
set_option linter.unusedVariables false
set_option linter.unusedSimpArgs false
namespace Go.Proofs.Ytillmnhhkhjpkaa
open Go.RowKit

theorem distance_c (a b : Int) (w : World) (ha : 0 ≤ a ∧ a ≤ 1000000) (hb : 0 ≤ b ∧ b ≤ 1000000) :
    Calls Try.prog 28 #[.int .i64 a, .int .i64 b] w fun e w' => e = .returned (.int .i64 (dst a b)) ∧ w' = w := by
  have h1 : IntKind.i64.wrap (a - b) = a - b := IntWalk.i64_in _ (by omega)
  have h2 : IntKind.i64.wrap (b - a) = b - a := IntWalk.i64_in _ (by omega)
  go_enter Try.func28, Try.ntmps28
  go_wp2_with fail
  all_goals
    go_ret
    refine ⟨?_, rfl⟩
  · have e : dst a b = b - a := by unfold dst; omega
    rw [e]; rfl
  · have e : dst a b = a - b := by unfold dst; omega
    rw [e]; rfl
theorem sDistance_c (a : Int) (w : World) (ha : -1000000 ≤ a ∧ a ≤ 1000000) :
    Calls Try.prog 41 #[.int .i64 a] w fun e w' => e = .returned (.int .i64 (a.natAbs : Int)) ∧ w' = w := by
  by_cases h : a < 0
  · have h1 : IntKind.i64.wrap (-a) = -a := IntWalk.i64_in _ (by omega)
    have e : (a.natAbs : Int) = -a := by omega
    rw [e]
    clear e
    go_enter Try.func41, Try.ntmps41
    go_wp2_with fail
    go_ret
    exact ⟨rfl, rfl⟩
  · have e : (a.natAbs : Int) = a := by omega
    rw [e]
    clear e
    go_enter Try.func41, Try.ntmps41
    go_wp2_with fail
    go_ret
    exact ⟨rfl, rfl⟩

theorem run_max3 {P : Program} (w : World) (ts : Array TypeId) (t : TypeId) (x y z : Int) : (Builtin.max_ ts t #[.int .i64 x, .int .i64 y, .int .i64 z]).run P w = .ok (.int .i64 (max (max x y) z)) w := by
  have e : ∀ a b : Int, max a b = if b > a then b else a := fun a b => by omega
  simp [Builtin.max_, Builtin.max2, e]
abbrev Flt.v (f : Flt) : Value := .agg #[.int .i64 (f.at_ 0), .int .i64 (f.at_ 1), .int .i64 (f.at_ 2), .int .i64 (f.way 0), .int .i64 (f.way 1), .int .i64 (f.way 2)]
theorem cost_c (f : Flt) (w : World) :
    Calls Try.prog 13 #[f.v] w fun e w' => e = .returned (.int .i64 f.cost) ∧ Below w.heap.size w w' := by
  have hm := fun w' x y z => run_max3 (P := Try.prog) w' #[3, 3, 3] 3 x y z
  have e : f.cost = max (f.way 0) (max (f.way 1) (f.way 2)) := by unfold Flt.cost; omega
  rw [e]
  go_enter Try.func13, Try.ntmps13
  go_wp2_with fail
  go_ret
  exact ⟨rfl, by (repeat' (first | (with_reducible exact Below.refl _ _) | (with_reducible assumption) | (with_reducible refine Below.alloc ?_ ?_ _) | (with_reducible refine below_plus ?_ ?_ _ _) | (with_reducible refine Below.drew ?_) | (with_reducible refine Below.setCell ?_ ?_ _) | (with_reducible refine below_adv ?_ ?_ _) | go_size | (simp; done) | (simp; omega)))⟩

/-- A fleet of at most three cars within bounds. -/
def Flt.small (f : Flt) (b : Int) : Prop := ∀ i, 0 ≤ f.at_ i ∧ f.at_ i ≤ 1000000 ∧ 0 ≤ f.way i ∧ f.way i ≤ b
theorem dst_le {a b m : Int} (ha : 0 ≤ a ∧ a ≤ m) (hb : 0 ≤ b ∧ b ≤ m) : dst a b ≤ m := by unfold dst; omega
theorem Flt.small.serve {f : Flt} {b : Int} (h : f.small b) (hb : 0 ≤ b) {c : Int × Int} (h1 : 0 ≤ c.1 ∧ c.1 ≤ 1000000) (h2 : 0 ≤ c.2 ∧ c.2 ≤ 1000000) (car : Nat) : (f.serve car c).small (b + 2000000) := fun i => by
  obtain ⟨k1, k2, k3, k4⟩ := h i
  have d1 := dst_le (m := 1000000) ⟨k1, k2⟩ h1
  have d2 := dst_le (m := 1000000) h1 h2
  have d3 := dst_pos (f.at_ i) c.1
  have d4 := dst_pos c.1 c.2
  simp only [Flt.serve]
  split <;> omega
theorem cell3_a (w : World) (c1 c2 c3 : Array Value) (t1 t2 t3 : TypeId) (i : Nat) : (((w.alloc (.cells c1 t1)).alloc (.cells c2 t2)).alloc (.cells c3 t3)).cell? ⟨w.heap.size, i, none⟩ = c1[i]? := by
  refine (World.cell?_alloc_lt _ _ _ ?_).trans ((World.cell?_alloc_lt _ _ _ ?_).trans ?_)
  · simp; omega
  · simp
  · simp
theorem cell3_b (w : World) (c1 c2 c3 : Array Value) (t1 t2 t3 : TypeId) (i : Nat) : (((w.alloc (.cells c1 t1)).alloc (.cells c2 t2)).alloc (.cells c3 t3)).cell? ⟨w.heap.size + 1, i, none⟩ = c2[i]? := by
  refine (World.cell?_alloc_lt _ _ _ ?_).trans ?_
  · simp
  · exact World.cell?_alloc_at _ _ _ _ (by simp)
set_option maxHeartbeats 2000000 in
theorem serve_c (f : Flt) (car : Nat) (x y z : Int) (w : World) (hf : f.small 1000000000) (hc : car < 3) (h1 : 0 ≤ x ∧ x ≤ 1000000) (h2 : 0 ≤ y ∧ y ≤ 1000000) :
    Calls Try.prog 14 #[f.v, .int .i64 car, .agg #[.int .i64 x, .int .i64 y, .int .i64 z]] w fun e w' => e = .returned (f.serve car (x, y)).v ∧ Below w.heap.size w w' := by
  obtain ⟨k1, k2, k3, k4⟩ := hf car
  have d1 := dst_le (m := 1000000) ⟨k1, k2⟩ h1
  have d2 := dst_le (m := 1000000) h1 h2
  have d3 := dst_pos (f.at_ car) x
  have d4 := dst_pos x y
  have C1 := Lib.hid (fun (os : Array Obj) (d : Nat) => distance_c (f.at_ car) x (plus w os d) ⟨k1, k2⟩ h1)
  have C2 := Lib.hid (fun (os : Array Obj) (d : Nat) => distance_c x y (plus w os d) h1 h2)
  have g1 : IntKind.i64.wrap (dst (f.at_ car) x + dst x y) = dst (f.at_ car) x + dst x y := IntWalk.i64_in _ (by omega)
  have g2 : IntKind.i64.wrap (f.way car + (dst (f.at_ car) x + dst x y)) = f.way car + (dst (f.at_ car) x + dst x y) := IntWalk.i64_in _ (by omega)
  have hcar : car = 0 ∨ car = 1 ∨ car = 2 := by omega
  have hw : ∀ i, i < 3 → (f.serve car (x, y)).way i = if i = car then f.way i + (dst (f.at_ i) x + dst x y) else f.way i := fun i _ => by simp only [Flt.serve]; split <;> omega
  have ha : ∀ i, (f.serve car (x, y)).at_ i = if i = car then y else f.at_ i := fun i => rfl
  have HV : Hid ((f.serve car (x, y)).v = .agg #[.int .i64 (if 0 = car then y else f.at_ 0), .int .i64 (if 1 = car then y else f.at_ 1), .int .i64 (if 2 = car then y else f.at_ 2), .int .i64 (if 0 = car then f.way 0 + (dst (f.at_ 0) x + dst x y) else f.way 0), .int .i64 (if 1 = car then f.way 1 + (dst (f.at_ 1) x + dst x y) else f.way 1), .int .i64 (if 2 = car then f.way 2 + (dst (f.at_ 2) x + dst x y) else f.way 2)]) := Lib.hid (by
    rw [Flt.v, ha, ha, ha, hw 0 (by omega), hw 1 (by omega), hw 2 (by omega)])
  clear hw ha C1 C2
  rcases hcar with rfl | rfl | rfl
  · go_enter Try.func14, Try.ntmps14
    go_wp2_with fail
    obtain ⟨w3, hw3⟩ : ∃ w3, ((w.alloc (.cells #[.int .i64 (f.at_ 0), .int .i64 (f.at_ 1), .int .i64 (f.at_ 2), .int .i64 (f.way 0), .int .i64 (f.way 1), .int .i64 (f.way 2)] 37)).alloc (.cells #[.int .i64 x, .int .i64 y, .int .i64 z] 41)).alloc (.cells #[.int .i64 0, .int .i64 0, .int .i64 0, .int .i64 0, .int .i64 0, .int .i64 0] 37) = w3 := ⟨_, rfl⟩
    rw [hw3]
    have r1 : w3.cell? ⟨w.heap.size, 3 + 0, none⟩ = some (.int .i64 (f.way 0)) := by rw [← hw3]; exact cell3_a _ _ _ _ _ _ _ _
    have r2 : w3.cell? ⟨w.heap.size, 0, none⟩ = some (.int .i64 (f.at_ 0)) := by rw [← hw3]; exact cell3_a _ _ _ _ _ _ _ _
    have r3 : w3.cell? ⟨w.heap.size + 1, 0, none⟩ = some (.int .i64 x) := by rw [← hw3]; exact cell3_b _ _ _ _ _ _ _ _
    have r4 : w3.cell? ⟨w.heap.size + 1, 1, none⟩ = some (.int .i64 y) := by rw [← hw3]; exact cell3_b _ _ _ _ _ _ _ _
    have z3 : w3.heap.size = w.heap.size + 3 := by rw [← hw3]; simp
    go_still_tail 20, (by kernel_rfl)
    still_call (distance_c _ x _ ⟨k1, k2⟩ h1)
    repeat still_step
    still_call (distance_c x y _ h1 h2)
    repeat still_step
    refine wpStill_nil ?_
    change wpList _ _ _ _ _ w3.drew
    subst hw3
    clear r1 r2 r3 r4 z3
    go_wp2_with fail
    go_returns
    exact ⟨by rw [HV.out]; simp, by (repeat' (first | (with_reducible exact Below.refl _ _) | (with_reducible assumption) | (with_reducible refine Below.alloc ?_ ?_ _) | (with_reducible refine below_plus ?_ ?_ _ _) | (with_reducible refine Below.drew ?_) | (with_reducible refine Below.setCell ?_ ?_ _) | (with_reducible refine below_adv ?_ ?_ _) | go_size | (simp; done) | (simp; omega)))⟩
  · go_enter Try.func14, Try.ntmps14
    go_wp2_with fail
    obtain ⟨w3, hw3⟩ : ∃ w3, ((w.alloc (.cells #[.int .i64 (f.at_ 0), .int .i64 (f.at_ 1), .int .i64 (f.at_ 2), .int .i64 (f.way 0), .int .i64 (f.way 1), .int .i64 (f.way 2)] 37)).alloc (.cells #[.int .i64 x, .int .i64 y, .int .i64 z] 41)).alloc (.cells #[.int .i64 0, .int .i64 0, .int .i64 0, .int .i64 0, .int .i64 0, .int .i64 0] 37) = w3 := ⟨_, rfl⟩
    rw [hw3]
    have r1 : w3.cell? ⟨w.heap.size, 3 + 1, none⟩ = some (.int .i64 (f.way 1)) := by rw [← hw3]; exact cell3_a _ _ _ _ _ _ _ _
    have r2 : w3.cell? ⟨w.heap.size, 1, none⟩ = some (.int .i64 (f.at_ 1)) := by rw [← hw3]; exact cell3_a _ _ _ _ _ _ _ _
    have r3 : w3.cell? ⟨w.heap.size + 1, 0, none⟩ = some (.int .i64 x) := by rw [← hw3]; exact cell3_b _ _ _ _ _ _ _ _
    have r4 : w3.cell? ⟨w.heap.size + 1, 1, none⟩ = some (.int .i64 y) := by rw [← hw3]; exact cell3_b _ _ _ _ _ _ _ _
    have z3 : w3.heap.size = w.heap.size + 3 := by rw [← hw3]; simp
    go_still_tail 20, (by kernel_rfl)
    still_call (distance_c _ x _ ⟨k1, k2⟩ h1)
    repeat still_step
    still_call (distance_c x y _ h1 h2)
    repeat still_step
    refine wpStill_nil ?_
    change wpList _ _ _ _ _ w3.drew
    subst hw3
    clear r1 r2 r3 r4 z3
    go_wp2_with fail
    go_returns
    exact ⟨by rw [HV.out]; simp, by (repeat' (first | (with_reducible exact Below.refl _ _) | (with_reducible assumption) | (with_reducible refine Below.alloc ?_ ?_ _) | (with_reducible refine below_plus ?_ ?_ _ _) | (with_reducible refine Below.drew ?_) | (with_reducible refine Below.setCell ?_ ?_ _) | (with_reducible refine below_adv ?_ ?_ _) | go_size | (simp; done) | (simp; omega)))⟩
  · go_enter Try.func14, Try.ntmps14
    go_wp2_with fail
    obtain ⟨w3, hw3⟩ : ∃ w3, ((w.alloc (.cells #[.int .i64 (f.at_ 0), .int .i64 (f.at_ 1), .int .i64 (f.at_ 2), .int .i64 (f.way 0), .int .i64 (f.way 1), .int .i64 (f.way 2)] 37)).alloc (.cells #[.int .i64 x, .int .i64 y, .int .i64 z] 41)).alloc (.cells #[.int .i64 0, .int .i64 0, .int .i64 0, .int .i64 0, .int .i64 0, .int .i64 0] 37) = w3 := ⟨_, rfl⟩
    rw [hw3]
    have r1 : w3.cell? ⟨w.heap.size, 3 + 2, none⟩ = some (.int .i64 (f.way 2)) := by rw [← hw3]; exact cell3_a _ _ _ _ _ _ _ _
    have r2 : w3.cell? ⟨w.heap.size, 2, none⟩ = some (.int .i64 (f.at_ 2)) := by rw [← hw3]; exact cell3_a _ _ _ _ _ _ _ _
    have r3 : w3.cell? ⟨w.heap.size + 1, 0, none⟩ = some (.int .i64 x) := by rw [← hw3]; exact cell3_b _ _ _ _ _ _ _ _
    have r4 : w3.cell? ⟨w.heap.size + 1, 1, none⟩ = some (.int .i64 y) := by rw [← hw3]; exact cell3_b _ _ _ _ _ _ _ _
    have z3 : w3.heap.size = w.heap.size + 3 := by rw [← hw3]; simp
    go_still_tail 20, (by kernel_rfl)
    still_call (distance_c _ x _ ⟨k1, k2⟩ h1)
    repeat still_step
    still_call (distance_c x y _ h1 h2)
    repeat still_step
    refine wpStill_nil ?_
    change wpList _ _ _ _ _ w3.drew
    subst hw3
    clear r1 r2 r3 r4 z3
    go_wp2_with fail
    go_returns
    exact ⟨by rw [HV.out]; simp, by (repeat' (first | (with_reducible exact Below.refl _ _) | (with_reducible assumption) | (with_reducible refine Below.alloc ?_ ?_ _) | (with_reducible refine below_plus ?_ ?_ _ _) | (with_reducible refine Below.drew ?_) | (with_reducible refine Below.setCell ?_ ?_ _) | (with_reducible refine below_adv ?_ ?_ _) | go_size | (simp; done) | (simp; omega)))⟩
end Go.Proofs.Ytillmnhhkhjpkaa
