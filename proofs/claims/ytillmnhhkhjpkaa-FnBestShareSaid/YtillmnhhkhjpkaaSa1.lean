/- BestShare, plain: the search that leaves out finds what the search through all shares finds. -/
import Derived.Test.YtillmnhhkhjpkaaBa
set_option linter.unusedVariables false
set_option linter.unusedSimpArgs false
namespace Go.Proofs.Ytillmnhhkhjpkaa
open Go.RowKit

/-- The distance of two floors. -/
def dst (a b : Int) : Int := ((a - b).natAbs : Int)
theorem dst_pos (a b : Int) : 0 ≤ dst a b := Int.natCast_nonneg _
theorem dst_comm (a b : Int) : dst a b = dst b a := by unfold dst; omega
/-- Where the cars are, and how far they have gone. -/
structure Flt where
  at_ : Nat → Int
  way : Nat → Int
def Flt.serve (f : Flt) (car : Nat) (c : Int × Int) : Flt :=
  ⟨fun i => if i = car then c.2 else f.at_ i, fun i => if i = car then f.way i + dst (f.at_ i) c.1 + dst c.1 c.2 else f.way i⟩
def Flt.cost (f : Flt) : Int := max (max (f.way 0) (f.way 1)) (f.way 2)
theorem serve_way (f : Flt) (car : Nat) (c : Int × Int) (i : Nat) : f.way i ≤ (f.serve car c).way i := by
  have h1 := dst_pos (f.at_ i) c.1
  have h2 := dst_pos c.1 c.2
  simp only [Flt.serve]
  split <;> omega
theorem serve_cost (f : Flt) (car : Nat) (c : Int × Int) : f.cost ≤ (f.serve car c).cost := by
  have h0 := serve_way f car c 0
  have h1 := serve_way f car c 1
  have h2 := serve_way f car c 2
  unfold Flt.cost; omega
/-- The cars behind a share. -/
def Flt.run (f : Flt) : List (Int × Int) → List Nat → Flt
  | c :: cs, s :: ss => Flt.run (f.serve s c) cs ss
  | _, _ => f
theorem run_cost : ∀ (cs : List (Int × Int)) (ss : List Nat) (f : Flt), f.cost ≤ (f.run cs ss).cost
  | [], _, f => by rw [Flt.run]; · exact Int.le_refl _
                   · intro _ _ _ _ h; cases h
  | c :: cs, [], f => by rw [Flt.run]; · exact Int.le_refl _
                         · intro _ _ _ _ _ h; cases h
  | c :: cs, s :: ss, f => Int.le_trans (serve_cost f s c) (run_cost cs ss _)
theorem run_nil (f : Flt) (ss : List Nat) : f.run [] ss = f := by
  rw [Flt.run]; intro _ _ _ _ h; cases h

/-- All shares, in their order. -/
def allS (k : Nat) : Nat → List (List Nat)
  | 0 => [[]]
  | d + 1 => (List.range k).flatMap fun s => (allS k d).map (s :: ·)
abbrev Best := Option (Int × List Nat)
def upd (S : Best) (x : Int × List Nat) : Best := match S with
  | none => some x
  | some s => if x.1 < s.1 then some x else some s
def prn (S : Best) (f : Flt) : Bool := match S with
  | none => false
  | some s => decide (s.1 ≤ f.cost)
/-- The program's search. -/
def srch (k : Nat) : List (Int × Int) → Flt → List Nat → Best → Best
  | [], f, sh, S => if prn S f = true then S else some (f.cost, sh)
  | c :: cs, f, sh, S => if prn S f = true then S else (List.range k).foldl (fun S car => srch k cs (f.serve car c) (sh ++ [car]) S) S
theorem upd_keep {s : Int × List Nat} : ∀ (xs : List (Int × List Nat)), (∀ x ∈ xs, s.1 ≤ x.1) → xs.foldl upd (some s) = some s
  | [], _ => rfl
  | x :: r, h => by
    have hx := h x List.mem_cons_self
    rw [List.foldl_cons, show upd (some s) x = some s from if_neg (by omega)]
    exact upd_keep r fun y hy => h y (List.mem_cons_of_mem _ hy)
theorem srch_all (k : Nat) : ∀ (cs : List (Int × Int)) (f : Flt) (sh : List Nat) (S : Best), srch k cs f sh S = ((allS k cs.length).map fun x => ((f.run cs x).cost, sh ++ x)).foldl upd S := by
  have hp : ∀ (cs : List (Int × Int)) (f : Flt) (sh : List Nat) (S : Best), prn S f = true → ((allS k cs.length).map fun x => ((f.run cs x).cost, sh ++ x)).foldl upd S = S := fun cs f sh S h => by
    cases S with
    | none => cases h
    | some s =>
      refine upd_keep _ fun x hx => ?_
      obtain ⟨y, -, rfl⟩ := List.mem_map.1 hx
      have h1 : s.1 ≤ f.cost := by simpa [prn] using h
      exact Int.le_trans h1 (run_cost cs y f)
  intro cs
  induction cs with
  | nil =>
    intro f sh S
    rw [srch]
    split
    · rename_i h
      exact (hp [] f sh S h).symm
    · rename_i h
      cases S with
      | none => simp [allS, run_nil, upd]
      | some s =>
        simp only [prn, decide_eq_true_eq, Int.not_le] at h
        simp [allS, run_nil, upd, h]
  | cons c cs ih =>
    intro f sh S
    rw [srch]
    split
    · rename_i h
      exact (hp (c :: cs) f sh S h).symm
    · rw [List.length_cons, allS]
      have hL : ∀ (L : List Nat) (S : Best), L.foldl (fun S car => srch k cs (f.serve car c) (sh ++ [car]) S) S = ((L.flatMap fun s => (allS k cs.length).map (s :: ·)).map fun x => ((f.run (c :: cs) x).cost, sh ++ x)).foldl upd S := by
        intro L
        induction L with
        | nil => intro S; rfl
        | cons s r ihL =>
          intro S
          rw [List.foldl_cons, ihL, List.flatMap_cons, List.map_append, List.foldl_append, ih]
          congr 1
          rw [List.map_map]
          congr 1
          refine List.map_congr_left fun x _ => ?_
          simp [Flt.run]
      exact hL _ S

/-- The digits of a number. -/
def dgs (k d n : Nat) : List Nat := (List.range d).map fun j => n / k ^ (d - 1 - j) % k
theorem range_mul (k P : Nat) : List.range (k * P) = (List.range k).flatMap fun s => (List.range P).map fun r => s * P + r := by
  induction k with
  | zero => simp
  | succ k ih =>
    rw [Nat.succ_mul, List.range_add, ih, List.range_succ, List.flatMap_append]
    simp
theorem dgs_cons {k d s r : Nat} (hs : s < k) (hr : r < k ^ d) : dgs k (d + 1) (s * k ^ d + r) = s :: dgs k d r := by
  unfold dgs
  rw [List.range_succ_eq_map, List.map_cons, List.map_map]
  have hP : 0 < k ^ d := by omega
  congr 1
  · have e : (s * k ^ d + r) / k ^ d = s := by
      rw [Nat.mul_comm, Nat.mul_add_div hP, Nat.div_eq_of_lt hr]; omega
    simp only [Nat.sub_zero, Nat.add_sub_cancel]
    rw [e, Nat.mod_eq_of_lt hs]
  · refine List.map_congr_left fun j hj => ?_
    rw [List.mem_range] at hj
    simp only [Function.comp_apply]
    have e1 : d + 1 - 1 - (j + 1) = d - 1 - j := by omega
    have e2 : k ^ d = k ^ (d - 1 - j) * (k * k ^ j) := by
      rw [← Nat.pow_succ', ← Nat.pow_add]; congr 1; omega
    have hQ : 0 < k ^ (d - 1 - j) := Nat.pow_pos (by omega)
    rw [e1, e2, show s * (k ^ (d - 1 - j) * (k * k ^ j)) = k ^ (d - 1 - j) * (k * (k ^ j * s)) by
      rw [Nat.mul_left_comm, Nat.mul_comm s, Nat.mul_assoc]]
    rw [Nat.mul_add_div hQ, Nat.mul_add_mod]
theorem flatMap_congr' {α β : Type} {l : List α} {f g : α → List β} (h : ∀ x ∈ l, f x = g x) : l.flatMap f = l.flatMap g := by
  rw [List.flatMap_def, List.flatMap_def, List.map_congr_left h]
theorem allS_dgs (k : Nat) : ∀ d, allS k d = (List.range (k ^ d)).map (dgs k d)
  | 0 => by simp [allS, dgs]
  | d + 1 => by
    rw [allS, allS_dgs k d, Nat.pow_succ', range_mul, List.map_flatMap]
    refine flatMap_congr' fun s hs => ?_
    rw [List.mem_range] at hs
    rw [List.map_map, List.map_map]
    refine List.map_congr_left fun r hr => ?_
    rw [List.mem_range] at hr
    exact (dgs_cons hs hr).symm
/-- The reference's choice among the first numbers. -/
def refB (g : List Nat → Int) (k d : Nat) : Nat → List Nat
  | 0 => dgs k d 0
  | N + 1 => if g (dgs k d N) < g (refB g k d N) then dgs k d N else refB g k d N
theorem refB_all (g : List Nat → Int) (k d : Nat) : ∀ N, ((List.range (N + 1)).map fun n => (g (dgs k d n), dgs k d n)).foldl upd none = some (g (refB g k d (N + 1)), refB g k d (N + 1))
  | 0 => by simp [upd, refB]
  | N + 1 => by
    rw [List.range_succ, List.map_append, List.foldl_append, refB_all g k d N]
    have e : refB g k d (N + 1 + 1) = if g (dgs k d (N + 1)) < g (refB g k d (N + 1)) then dgs k d (N + 1) else refB g k d (N + 1) := rfl
    rw [e]
    simp only [List.map_cons, List.map_nil, List.foldl_cons, List.foldl_nil, upd]
    split <;> rfl
theorem srch_ref {k : Nat} (hk : 0 < k) (cs : List (Int × Int)) (f : Flt) : srch k cs f [] none = some ((f.run cs (refB (fun x => (f.run cs x).cost) k cs.length (k ^ cs.length))).cost, refB (fun x => (f.run cs x).cost) k cs.length (k ^ cs.length)) := by
  have hP : 0 < k ^ cs.length := Nat.pow_pos hk
  obtain ⟨N, hN⟩ : ∃ N, k ^ cs.length = N + 1 := ⟨k ^ cs.length - 1, by omega⟩
  rw [srch_all, allS_dgs, List.map_map, hN]
  exact refB_all (fun x => (f.run cs x).cost) k cs.length N

/-- The way of one car. -/
def trp (at_ : Int) : List (Int × Int) → List Nat → Nat → Int
  | c :: cs, s :: ss, i => if s = i then dst at_ c.1 + dst c.1 c.2 + trp c.2 cs ss i else trp at_ cs ss i
  | _, _, _ => 0
theorem run_way (i : Nat) : ∀ (cs : List (Int × Int)) (ss : List Nat) (f : Flt), (f.run cs ss).way i = f.way i + trp (f.at_ i) cs ss i
  | [], ss, f => by rw [run_nil, trp]; · omega
                    · intro _ _ _ _ h; cases h
  | c :: cs, [], f => by simp [Flt.run, trp]
  | c :: cs, s :: ss, f => by
    rw [Flt.run, run_way i cs ss, trp]
    simp only [Flt.serve]
    by_cases h : s = i
    · subst h; simp; omega
    · rw [if_neg h, if_neg (fun e => h e.symm), if_neg (fun e => h e.symm)]
theorem trp_pos (i : Nat) : ∀ (cs : List (Int × Int)) (ss : List Nat) (a : Int), 0 ≤ trp a cs ss i
  | [], ss, a => by rw [trp]; · exact Int.le_refl _
                    · intro _ _ _ _ h; cases h
  | c :: cs, [], a => by simp [trp]
  | c :: cs, s :: ss, a => by
    have h1 := dst_pos a c.1
    have h2 := dst_pos c.1 c.2
    have h3 := trp_pos i cs ss c.2
    have h4 := trp_pos i cs ss a
    rw [trp]
    split <;> omega
theorem trp_far {i : Nat} : ∀ (cs : List (Int × Int)) (ss : List Nat) (a : Int), (∀ s ∈ ss, s ≠ i) → trp a cs ss i = 0
  | [], ss, a, _ => by rw [trp]; intro _ _ _ _ h; cases h
  | c :: cs, [], a, _ => by simp [trp]
  | c :: cs, s :: ss, a, h => by
    rw [trp, if_neg (h s List.mem_cons_self)]
    exact trp_far cs ss a fun x hx => h x (List.mem_cons_of_mem _ hx)
/-- The reference's greatest way. -/
def grt (cars : List Int) (cs : List (Int × Int)) (ss : List Nat) : Nat → Int
  | 0 => 0
  | c + 1 => max (grt cars cs ss c) (trp (cars.getD c 0) cs ss c)
def flt0 (cars : List Int) : Flt := ⟨fun i => cars.getD i 0, fun _ => 0⟩
theorem grt_cost {cars : List Int} {cs : List (Int × Int)} {ss : List Nat} (h1 : 1 ≤ cars.length) (h3 : cars.length ≤ 3) (hs : ∀ s ∈ ss, s < cars.length) : grt cars cs ss cars.length = ((flt0 cars).run cs ss).cost := by
  unfold Flt.cost
  rw [run_way, run_way, run_way]
  simp only [flt0, Int.zero_add]
  have p0 := trp_pos 0 cs ss (cars.getD 0 0)
  have p1 := trp_pos 1 cs ss (cars.getD 1 0)
  have p2 := trp_pos 2 cs ss (cars.getD 2 0)
  have f1 : cars.length ≤ 1 → trp (cars.getD 1 0) cs ss 1 = 0 := fun h => trp_far cs ss _ fun s hs' e => by have := hs s hs'; omega
  have f2 : cars.length ≤ 2 → trp (cars.getD 2 0) cs ss 2 = 0 := fun h => trp_far cs ss _ fun s hs' e => by have := hs s hs'; omega
  have hk : cars.length = 1 ∨ cars.length = 2 ∨ cars.length = 3 := by omega
  rcases hk with hk | hk | hk
  · rw [hk, f1 (by omega), f2 (by omega)]; simp only [grt]; omega
  · rw [hk, f2 (by omega)]; simp only [grt]; omega
  · rw [hk]; simp only [grt]; omega
end Go.Proofs.Ytillmnhhkhjpkaa
