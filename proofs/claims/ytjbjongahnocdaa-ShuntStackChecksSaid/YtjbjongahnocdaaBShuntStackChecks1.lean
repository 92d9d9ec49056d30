-- Written by wip/bundle.py: texts of this claim, one behind the other.
import Derived.Test.YtjbjongahnocdaaBShuntStackChecks0
set_option linter.unusedVariables false
set_option linter.unusedSimpArgs false

namespace Go.Proofs.Ytjbjongahnocdaa.S
open Go.Proofs.Ytjbjongahnocdaa.Lib
open Go.Proofs.Ytjbjongahnocdaa.Defs
open Go.Maps (Keyed)
open Go.RowKit Go.Proofs.YtjbjongahnocdaaW.PrintWords Go.Proofs.YtjbjongahnocdaaW.PrintLast Go.Proofs.YtjbjongahnocdaaW.PrintMore
attribute [local go_sem] max2_int min2_int max_two min_two max_three min_three max_four min_four   -- for this text's walks alone
set_option linter.unusedVariables false
set_option linter.unusedSimpArgs false

/-! ### tickinglaw02_awake: function 22 -/
def tickinglaw02_awake.j0 : Nat → Bool → Option (Bool)
  | 0, _ => none
  | k + 1, x86 => if x86 = true then (some false) else (some true)
def tickinglaw02_awake.f (k : Nat)  : Option (Bool) := (shunt_Stack.f k (([2, 1, 3] : List Int))).bind fun bt135 => ((shunt_Stack.f k (([2, 3, 1] : List Int))).bind fun bt143 => ((shunt_Least.f k (([3, 2, 1] : List Int))).bind fun bt151 => ((shunt_Rank.f k (([3, 2, 1] : List Int))).bind fun bt156 => ((shunt_Pass.f (([2, 3, 1] : List Int))).bind fun bt161 => (if bt135.2.2 = 0 then (if bt135.1.toList = ([105, 105, 111, 111, 105, 111] : List UInt8) then (if (bt135.2.1.length : Int) = 0 then (if bt143.2.2 = 0 then ((tickinglaw02_ints.f k bt143.2.1 (([0, 1, 2] : List Int))).bind fun t168 => (if t168 = true then (if bt151.2 = 0 then (if bt151.1 = 3 then (if bt156.2 = 0 then (if bt156.1 = 4 then (if bt161.2 = 0 then ((tickinglaw02_ints.f k bt161.1 (([2, 1, 3] : List Int))).bind fun t172 => (tickinglaw02_awake.j0 k (!t172))) else (tickinglaw02_awake.j0 k true)) else (tickinglaw02_awake.j0 k true)) else (tickinglaw02_awake.j0 k true)) else (tickinglaw02_awake.j0 k true)) else (tickinglaw02_awake.j0 k true)) else (tickinglaw02_awake.j0 k true))) else (tickinglaw02_awake.j0 k true)) else (tickinglaw02_awake.j0 k true)) else (tickinglaw02_awake.j0 k true)) else (tickinglaw02_awake.j0 k true))))))
theorem tickinglaw02_awake.mono_l : ∀ k, (∀ y0, LeO (tickinglaw02_awake.j0 k y0) (tickinglaw02_awake.j0 (k + 1) y0))
  | 0 => fun _ r h => by simp [tickinglaw02_awake.j0] at h
  | k + 1 => by
    have ih0 := tickinglaw02_awake.mono_l k
    · intro y0
      unfold tickinglaw02_awake.j0
      repeat' first
      | (with_reducible exact ih0 _)
      | (with_reducible exact shunt_Least.mono _ _)
      | (with_reducible exact shunt_Rank.mono _ _)
      | (with_reducible exact shunt_Stack.mono _ _)
      | (with_reducible exact tickinglaw02_ints.mono _ _ _)
      | (with_reducible exact LeO.refl _)
      | (with_reducible exact LeO.none _)
      | (with_reducible refine LeO.ite ?_ ?_)
      | (with_reducible refine LeO.bind ?_ (fun _ => ?_))
      | exact ih0 _
      | exact shunt_Least.mono _ _
      | exact shunt_Rank.mono _ _
      | exact shunt_Stack.mono _ _
      | exact tickinglaw02_ints.mono _ _ _
      | exact LeO.none _
      | refine LeO.ite ?_ ?_
      | refine LeO.bind ?_ (fun _ => ?_)
theorem tickinglaw02_awake.mono : ∀ k, LeO (tickinglaw02_awake.f k ) (tickinglaw02_awake.f (k + 1) ) := by
  intro  k
  have ih0 := tickinglaw02_awake.mono_l k
  unfold tickinglaw02_awake.f
  repeat' first
      | (with_reducible exact ih0 _)
      | (with_reducible exact shunt_Least.mono _ _)
      | (with_reducible exact shunt_Rank.mono _ _)
      | (with_reducible exact shunt_Stack.mono _ _)
      | (with_reducible exact tickinglaw02_ints.mono _ _ _)
      | (with_reducible exact LeO.refl _)
      | (with_reducible exact LeO.none _)
      | (with_reducible refine LeO.ite ?_ ?_)
      | (with_reducible refine LeO.bind ?_ (fun _ => ?_))
      | exact ih0 _
      | exact shunt_Least.mono _ _
      | exact shunt_Rank.mono _ _
      | exact shunt_Stack.mono _ _
      | exact tickinglaw02_ints.mono _ _ _
      | exact LeO.none _
      | refine LeO.ite ?_ ?_
      | refine LeO.bind ?_ (fun _ => ?_)
set_option maxHeartbeats 8000000 in
set_option maxRecDepth 100000 in
theorem tickinglaw02_awake.calls (k : Nat)  (r : Bool) (w : World) (h : tickinglaw02_awake.f k  = some r) :
    Calls Try.prog 22 #[] w fun e w' => e = .returned (.bool r) ∧ Below w.heap.size w w' := by
  have HB := Aside0.mk (Below.refl w.heap.size w)
  have H : ((shunt_Stack.f k (([2, 1, 3] : List Int))).bind fun bt135 => ((shunt_Stack.f k (([2, 3, 1] : List Int))).bind fun bt143 => ((shunt_Least.f k (([3, 2, 1] : List Int))).bind fun bt151 => ((shunt_Rank.f k (([3, 2, 1] : List Int))).bind fun bt156 => ((shunt_Pass.f (([2, 3, 1] : List Int))).bind fun bt161 => (if bt135.2.2 = 0 then (if bt135.1.toList = ([105, 105, 111, 111, 105, 111] : List UInt8) then (if (bt135.2.1.length : Int) = 0 then (if bt143.2.2 = 0 then ((tickinglaw02_ints.f k bt143.2.1 (([0, 1, 2] : List Int))).bind fun t168 => (if t168 = true then (if bt151.2 = 0 then (if bt151.1 = 3 then (if bt156.2 = 0 then (if bt156.1 = 4 then (if bt161.2 = 0 then ((tickinglaw02_ints.f k bt161.1 (([2, 1, 3] : List Int))).bind fun t172 => (tickinglaw02_awake.j0 k (!t172))) else (tickinglaw02_awake.j0 k true)) else (tickinglaw02_awake.j0 k true)) else (tickinglaw02_awake.j0 k true)) else (tickinglaw02_awake.j0 k true)) else (tickinglaw02_awake.j0 k true)) else (tickinglaw02_awake.j0 k true))) else (tickinglaw02_awake.j0 k true)) else (tickinglaw02_awake.j0 k true)) else (tickinglaw02_awake.j0 k true)) else (tickinglaw02_awake.j0 k true))))))) = some r := h
  clear h
  obtain ⟨y132, hy132⟩ : ∃ y_ : List Int, y_ = (([2, 1, 3] : List Int)) := ⟨_, rfl⟩
  replace H : ((shunt_Stack.f k y132).bind fun bt135 => ((shunt_Stack.f k (([2, 3, 1] : List Int))).bind fun bt143 => ((shunt_Least.f k (([3, 2, 1] : List Int))).bind fun bt151 => ((shunt_Rank.f k (([3, 2, 1] : List Int))).bind fun bt156 => ((shunt_Pass.f (([2, 3, 1] : List Int))).bind fun bt161 => (if bt135.2.2 = 0 then (if bt135.1.toList = ([105, 105, 111, 111, 105, 111] : List UInt8) then (if (bt135.2.1.length : Int) = 0 then (if bt143.2.2 = 0 then ((tickinglaw02_ints.f k bt143.2.1 (([0, 1, 2] : List Int))).bind fun t168 => (if t168 = true then (if bt151.2 = 0 then (if bt151.1 = 3 then (if bt156.2 = 0 then (if bt156.1 = 4 then (if bt161.2 = 0 then ((tickinglaw02_ints.f k bt161.1 (([2, 1, 3] : List Int))).bind fun t172 => (tickinglaw02_awake.j0 k (!t172))) else (tickinglaw02_awake.j0 k true)) else (tickinglaw02_awake.j0 k true)) else (tickinglaw02_awake.j0 k true)) else (tickinglaw02_awake.j0 k true)) else (tickinglaw02_awake.j0 k true)) else (tickinglaw02_awake.j0 k true))) else (tickinglaw02_awake.j0 k true)) else (tickinglaw02_awake.j0 k true)) else (tickinglaw02_awake.j0 k true)) else (tickinglaw02_awake.j0 k true))))))) = some r := by first | (rw [hy132]; with_reducible exact H) | (have H2_ := (Option.bind_some _ _).symm.trans H; rw [hy132]; with_reducible exact H2_) | (have H2_ := (Option.bind_some _ _).symm.trans H; with_reducible exact H2_) | with_reducible exact H | (rw [hy132]; exact H) | exact H
  have Ny132 := Aside0.mk hy132
  clear hy132
  replace H := Option.bind_eq_some_iff.mp H
  obtain ⟨⟨t135, t136, t137⟩, A10, H⟩ := H
  replace H : ((shunt_Stack.f k (([2, 3, 1] : List Int))).bind fun bt143 => ((shunt_Least.f k (([3, 2, 1] : List Int))).bind fun bt151 => ((shunt_Rank.f k (([3, 2, 1] : List Int))).bind fun bt156 => ((shunt_Pass.f (([2, 3, 1] : List Int))).bind fun bt161 => (if t137 = 0 then (if t135.toList = ([105, 105, 111, 111, 105, 111] : List UInt8) then (if (t136.length : Int) = 0 then (if bt143.2.2 = 0 then ((tickinglaw02_ints.f k bt143.2.1 (([0, 1, 2] : List Int))).bind fun t168 => (if t168 = true then (if bt151.2 = 0 then (if bt151.1 = 3 then (if bt156.2 = 0 then (if bt156.1 = 4 then (if bt161.2 = 0 then ((tickinglaw02_ints.f k bt161.1 (([2, 1, 3] : List Int))).bind fun t172 => (tickinglaw02_awake.j0 k (!t172))) else (tickinglaw02_awake.j0 k true)) else (tickinglaw02_awake.j0 k true)) else (tickinglaw02_awake.j0 k true)) else (tickinglaw02_awake.j0 k true)) else (tickinglaw02_awake.j0 k true)) else (tickinglaw02_awake.j0 k true))) else (tickinglaw02_awake.j0 k true)) else (tickinglaw02_awake.j0 k true)) else (tickinglaw02_awake.j0 k true)) else (tickinglaw02_awake.j0 k true)))))) = some r := H
  have A1 := Aside0.mk A10
  clear A10
  obtain ⟨y140, hy140⟩ : ∃ y_ : List Int, y_ = (([2, 3, 1] : List Int)) := ⟨_, rfl⟩
  replace H : ((shunt_Stack.f k y140).bind fun bt143 => ((shunt_Least.f k (([3, 2, 1] : List Int))).bind fun bt151 => ((shunt_Rank.f k (([3, 2, 1] : List Int))).bind fun bt156 => ((shunt_Pass.f (([2, 3, 1] : List Int))).bind fun bt161 => (if t137 = 0 then (if t135.toList = ([105, 105, 111, 111, 105, 111] : List UInt8) then (if (t136.length : Int) = 0 then (if bt143.2.2 = 0 then ((tickinglaw02_ints.f k bt143.2.1 (([0, 1, 2] : List Int))).bind fun t168 => (if t168 = true then (if bt151.2 = 0 then (if bt151.1 = 3 then (if bt156.2 = 0 then (if bt156.1 = 4 then (if bt161.2 = 0 then ((tickinglaw02_ints.f k bt161.1 (([2, 1, 3] : List Int))).bind fun t172 => (tickinglaw02_awake.j0 k (!t172))) else (tickinglaw02_awake.j0 k true)) else (tickinglaw02_awake.j0 k true)) else (tickinglaw02_awake.j0 k true)) else (tickinglaw02_awake.j0 k true)) else (tickinglaw02_awake.j0 k true)) else (tickinglaw02_awake.j0 k true))) else (tickinglaw02_awake.j0 k true)) else (tickinglaw02_awake.j0 k true)) else (tickinglaw02_awake.j0 k true)) else (tickinglaw02_awake.j0 k true)))))) = some r := by first | (rw [hy140]; with_reducible exact H) | (have H2_ := (Option.bind_some _ _).symm.trans H; rw [hy140]; with_reducible exact H2_) | (have H2_ := (Option.bind_some _ _).symm.trans H; with_reducible exact H2_) | with_reducible exact H | (rw [hy140]; exact H) | exact H
  have Ny140 := Aside0.mk hy140
  clear hy140
  replace H := Option.bind_eq_some_iff.mp H
  obtain ⟨⟨t143, t144, t145⟩, A20, H⟩ := H
  replace H : ((shunt_Least.f k (([3, 2, 1] : List Int))).bind fun bt151 => ((shunt_Rank.f k (([3, 2, 1] : List Int))).bind fun bt156 => ((shunt_Pass.f (([2, 3, 1] : List Int))).bind fun bt161 => (if t137 = 0 then (if t135.toList = ([105, 105, 111, 111, 105, 111] : List UInt8) then (if (t136.length : Int) = 0 then (if t145 = 0 then ((tickinglaw02_ints.f k t144 (([0, 1, 2] : List Int))).bind fun t168 => (if t168 = true then (if bt151.2 = 0 then (if bt151.1 = 3 then (if bt156.2 = 0 then (if bt156.1 = 4 then (if bt161.2 = 0 then ((tickinglaw02_ints.f k bt161.1 (([2, 1, 3] : List Int))).bind fun t172 => (tickinglaw02_awake.j0 k (!t172))) else (tickinglaw02_awake.j0 k true)) else (tickinglaw02_awake.j0 k true)) else (tickinglaw02_awake.j0 k true)) else (tickinglaw02_awake.j0 k true)) else (tickinglaw02_awake.j0 k true)) else (tickinglaw02_awake.j0 k true))) else (tickinglaw02_awake.j0 k true)) else (tickinglaw02_awake.j0 k true)) else (tickinglaw02_awake.j0 k true)) else (tickinglaw02_awake.j0 k true))))) = some r := H
  have A2 := Aside0.mk A20
  clear A20
  obtain ⟨y148, hy148⟩ : ∃ y_ : List Int, y_ = (([3, 2, 1] : List Int)) := ⟨_, rfl⟩
  replace H : ((shunt_Least.f k y148).bind fun bt151 => ((shunt_Rank.f k (([3, 2, 1] : List Int))).bind fun bt156 => ((shunt_Pass.f (([2, 3, 1] : List Int))).bind fun bt161 => (if t137 = 0 then (if t135.toList = ([105, 105, 111, 111, 105, 111] : List UInt8) then (if (t136.length : Int) = 0 then (if t145 = 0 then ((tickinglaw02_ints.f k t144 (([0, 1, 2] : List Int))).bind fun t168 => (if t168 = true then (if bt151.2 = 0 then (if bt151.1 = 3 then (if bt156.2 = 0 then (if bt156.1 = 4 then (if bt161.2 = 0 then ((tickinglaw02_ints.f k bt161.1 (([2, 1, 3] : List Int))).bind fun t172 => (tickinglaw02_awake.j0 k (!t172))) else (tickinglaw02_awake.j0 k true)) else (tickinglaw02_awake.j0 k true)) else (tickinglaw02_awake.j0 k true)) else (tickinglaw02_awake.j0 k true)) else (tickinglaw02_awake.j0 k true)) else (tickinglaw02_awake.j0 k true))) else (tickinglaw02_awake.j0 k true)) else (tickinglaw02_awake.j0 k true)) else (tickinglaw02_awake.j0 k true)) else (tickinglaw02_awake.j0 k true))))) = some r := by first | (rw [hy148]; with_reducible exact H) | (have H2_ := (Option.bind_some _ _).symm.trans H; rw [hy148]; with_reducible exact H2_) | (have H2_ := (Option.bind_some _ _).symm.trans H; with_reducible exact H2_) | with_reducible exact H | (rw [hy148]; exact H) | exact H
  have Ny148 := Aside0.mk hy148
  clear hy148
  replace H := Option.bind_eq_some_iff.mp H
  obtain ⟨⟨t151, t152⟩, A30, H⟩ := H
  replace H : ((shunt_Rank.f k (([3, 2, 1] : List Int))).bind fun bt156 => ((shunt_Pass.f (([2, 3, 1] : List Int))).bind fun bt161 => (if t137 = 0 then (if t135.toList = ([105, 105, 111, 111, 105, 111] : List UInt8) then (if (t136.length : Int) = 0 then (if t145 = 0 then ((tickinglaw02_ints.f k t144 (([0, 1, 2] : List Int))).bind fun t168 => (if t168 = true then (if t152 = 0 then (if t151 = 3 then (if bt156.2 = 0 then (if bt156.1 = 4 then (if bt161.2 = 0 then ((tickinglaw02_ints.f k bt161.1 (([2, 1, 3] : List Int))).bind fun t172 => (tickinglaw02_awake.j0 k (!t172))) else (tickinglaw02_awake.j0 k true)) else (tickinglaw02_awake.j0 k true)) else (tickinglaw02_awake.j0 k true)) else (tickinglaw02_awake.j0 k true)) else (tickinglaw02_awake.j0 k true)) else (tickinglaw02_awake.j0 k true))) else (tickinglaw02_awake.j0 k true)) else (tickinglaw02_awake.j0 k true)) else (tickinglaw02_awake.j0 k true)) else (tickinglaw02_awake.j0 k true)))) = some r := H
  have A3 := Aside0.mk A30
  clear A30
  obtain ⟨y153, hy153⟩ : ∃ y_ : List Int, y_ = (([3, 2, 1] : List Int)) := ⟨_, rfl⟩
  replace H : ((shunt_Rank.f k y153).bind fun bt156 => ((shunt_Pass.f (([2, 3, 1] : List Int))).bind fun bt161 => (if t137 = 0 then (if t135.toList = ([105, 105, 111, 111, 105, 111] : List UInt8) then (if (t136.length : Int) = 0 then (if t145 = 0 then ((tickinglaw02_ints.f k t144 (([0, 1, 2] : List Int))).bind fun t168 => (if t168 = true then (if t152 = 0 then (if t151 = 3 then (if bt156.2 = 0 then (if bt156.1 = 4 then (if bt161.2 = 0 then ((tickinglaw02_ints.f k bt161.1 (([2, 1, 3] : List Int))).bind fun t172 => (tickinglaw02_awake.j0 k (!t172))) else (tickinglaw02_awake.j0 k true)) else (tickinglaw02_awake.j0 k true)) else (tickinglaw02_awake.j0 k true)) else (tickinglaw02_awake.j0 k true)) else (tickinglaw02_awake.j0 k true)) else (tickinglaw02_awake.j0 k true))) else (tickinglaw02_awake.j0 k true)) else (tickinglaw02_awake.j0 k true)) else (tickinglaw02_awake.j0 k true)) else (tickinglaw02_awake.j0 k true)))) = some r := by first | (rw [hy153]; with_reducible exact H) | (have H2_ := (Option.bind_some _ _).symm.trans H; rw [hy153]; with_reducible exact H2_) | (have H2_ := (Option.bind_some _ _).symm.trans H; with_reducible exact H2_) | with_reducible exact H | (rw [hy153]; exact H) | exact H
  have Ny153 := Aside0.mk hy153
  clear hy153
  replace H := Option.bind_eq_some_iff.mp H
  obtain ⟨⟨t156, t157⟩, A40, H⟩ := H
  replace H : ((shunt_Pass.f (([2, 3, 1] : List Int))).bind fun bt161 => (if t137 = 0 then (if t135.toList = ([105, 105, 111, 111, 105, 111] : List UInt8) then (if (t136.length : Int) = 0 then (if t145 = 0 then ((tickinglaw02_ints.f k t144 (([0, 1, 2] : List Int))).bind fun t168 => (if t168 = true then (if t152 = 0 then (if t151 = 3 then (if t157 = 0 then (if t156 = 4 then (if bt161.2 = 0 then ((tickinglaw02_ints.f k bt161.1 (([2, 1, 3] : List Int))).bind fun t172 => (tickinglaw02_awake.j0 k (!t172))) else (tickinglaw02_awake.j0 k true)) else (tickinglaw02_awake.j0 k true)) else (tickinglaw02_awake.j0 k true)) else (tickinglaw02_awake.j0 k true)) else (tickinglaw02_awake.j0 k true)) else (tickinglaw02_awake.j0 k true))) else (tickinglaw02_awake.j0 k true)) else (tickinglaw02_awake.j0 k true)) else (tickinglaw02_awake.j0 k true)) else (tickinglaw02_awake.j0 k true))) = some r := H
  have A4 := Aside0.mk A40
  clear A40
  obtain ⟨y158, hy158⟩ : ∃ y_ : List Int, y_ = (([2, 3, 1] : List Int)) := ⟨_, rfl⟩
  replace H : ((shunt_Pass.f y158).bind fun bt161 => (if t137 = 0 then (if t135.toList = ([105, 105, 111, 111, 105, 111] : List UInt8) then (if (t136.length : Int) = 0 then (if t145 = 0 then ((tickinglaw02_ints.f k t144 (([0, 1, 2] : List Int))).bind fun t168 => (if t168 = true then (if t152 = 0 then (if t151 = 3 then (if t157 = 0 then (if t156 = 4 then (if bt161.2 = 0 then ((tickinglaw02_ints.f k bt161.1 (([2, 1, 3] : List Int))).bind fun t172 => (tickinglaw02_awake.j0 k (!t172))) else (tickinglaw02_awake.j0 k true)) else (tickinglaw02_awake.j0 k true)) else (tickinglaw02_awake.j0 k true)) else (tickinglaw02_awake.j0 k true)) else (tickinglaw02_awake.j0 k true)) else (tickinglaw02_awake.j0 k true))) else (tickinglaw02_awake.j0 k true)) else (tickinglaw02_awake.j0 k true)) else (tickinglaw02_awake.j0 k true)) else (tickinglaw02_awake.j0 k true))) = some r := by first | (rw [hy158]; with_reducible exact H) | (have H2_ := (Option.bind_some _ _).symm.trans H; rw [hy158]; with_reducible exact H2_) | (have H2_ := (Option.bind_some _ _).symm.trans H; with_reducible exact H2_) | with_reducible exact H | (rw [hy158]; exact H) | exact H
  have Ny158 := Aside0.mk hy158
  clear hy158
  replace H := Option.bind_eq_some_iff.mp H
  obtain ⟨⟨t161, t162⟩, A50, H⟩ := H
  replace H : (if t137 = 0 then (if t135.toList = ([105, 105, 111, 111, 105, 111] : List UInt8) then (if (t136.length : Int) = 0 then (if t145 = 0 then ((tickinglaw02_ints.f k t144 (([0, 1, 2] : List Int))).bind fun t168 => (if t168 = true then (if t152 = 0 then (if t151 = 3 then (if t157 = 0 then (if t156 = 4 then (if t162 = 0 then ((tickinglaw02_ints.f k t161 (([2, 1, 3] : List Int))).bind fun t172 => (tickinglaw02_awake.j0 k (!t172))) else (tickinglaw02_awake.j0 k true)) else (tickinglaw02_awake.j0 k true)) else (tickinglaw02_awake.j0 k true)) else (tickinglaw02_awake.j0 k true)) else (tickinglaw02_awake.j0 k true)) else (tickinglaw02_awake.j0 k true))) else (tickinglaw02_awake.j0 k true)) else (tickinglaw02_awake.j0 k true)) else (tickinglaw02_awake.j0 k true)) else (tickinglaw02_awake.j0 k true)) = some r := H
  have A5 := Aside0.mk A50
  clear A50
  have HC6 := Aside0.mk H
  clear H
  go_enter Try.func22, Try.ntmps22
  go_upto_region 6 with (first | ((with_reducible refine gate_dst (N := 14) rfl ?_); (try (refine gate_guard (by rfl) ?_; dsimp only)); refine Kd.R_lit (Kd.int .i64) _ 3 ?hg (N := 14) ?hd (xs := ([2, 1, 3] : List Int)) (inner := [.int .i64 2, .int .i64 1, .int .i64 3]) (ok := fun _ => True) (okp := fun _ => True) ?hr ?hp (fun _ hk => hk) trivial (Below.refl _ _) (Nat.le_refl _) (by simp) ?_; (case hd => rfl); (case hg => rfl); (case hr => first | (go_simp; done) | (go_simp; rfl)); (case hp => exact (Reps.one (show Kd.M (Kd.int .i64) _ _ _ 2 [.int .i64 2] from rfl) (Reps.one (show Kd.M (Kd.int .i64) _ _ _ 1 [.int .i64 1] from rfl) (Reps.one (show Kd.M (Kd.int .i64) _ _ _ 3 [.int .i64 3] from rfl) (Reps.none _ _))))); intro v133 w7 ho8 hb hg_ hnew_; clear hg_ hnew_; (first | rw [← Ny132.out] at ho8 | (simp only [Int.reduceToNat] at ho8; rw [← Ny132.out] at ho8)); have n0_ := Aside0.mk (Kd.R_lower ho8 (below_size (by repeat (first | (with_reducible first | exact HB.out | apply below_alloc | apply pw_below_drewN | apply below_drew1) | exact HB.out)))); have n1_ := Aside0.mk (below_step (by repeat (first | (with_reducible first | exact HB.out | apply below_alloc | apply pw_below_drewN | apply below_drew1) | exact HB.out)) hb); clear HB; have HO134 := n0_; have HB := n1_; clear n0_ n1_; clear hb ho8; obtain ⟨Ao9, co9, eo9⟩ := Kd.R_slice HO134.out; subst eo9) | ((with_reducible refine gate_callee (f := 28) rfl ?_); refine goesL_ (some 15) rfl rfl Try.func28 (by kernel_rfl) rfl #[.slice Ao9 y132.length co9] rfl (by (try simp only [List.map_toArray, List.map_cons, List.map_nil]); first | done | rfl | (simp only [List.length_drop, List.length_take]; rfl)) ?_; (with_reducible refine (shunt_Stack.calls k _ _ y132 t135 t136 t137 _ ?side1 ?side2 A1.out).mono ?_); (case side1 => repeat (first | exact (Kd.R_reads' HO134.out).2.2 | (with_reducible refine Kd.C_alloc ?_ _) | (with_reducible refine Kd.C_drewN ?_ _) | (with_reducible refine Kd.C_drew ?_))); (case side2 => exact (Kd.R_reads' HO134.out).2.1); rintro e w10 ⟨v138, rfl, ho0, hb⟩; refine ⟨_, rfl, ?_⟩; have n0_ := Aside0.mk (Kd.R_elder' (by (with_reducible repeat (first | apply Kd.R_alloc | apply Kd.R_drewN | apply Kd.R_drew)); exact HO134.out) (Kd.R_base ho0) hb); have n1_ := Aside0.mk (Kd.R_lower (Kd.R_new' ho0 (Kd.R_lt (by (with_reducible repeat (first | apply Kd.R_alloc | apply Kd.R_drewN | apply Kd.R_drew)); exact HO134.out))) (below_size (by repeat (first | (with_reducible first | exact HB.out | apply below_alloc | apply pw_below_drewN | apply below_drew1) | exact HB.out)))); have n2_ := Aside0.mk (below_step (by repeat (first | (with_reducible first | exact HB.out | apply below_alloc | apply pw_below_drewN | apply below_drew1) | exact HB.out)) hb); clear HO134; clear HB; have HO134 := n0_; have HO139 := n1_; have HB := n2_; clear n0_ n1_ n2_; (try clear hb); (try clear hb2); (try clear hk); (try clear hi); (try clear ho0)) | ((with_reducible refine gate_dst (N := 20) rfl ?_); (try (refine gate_guard (by rfl) ?_; dsimp only)); refine Kd.R_lit (Kd.int .i64) _ 3 ?hg (N := 20) ?hd (xs := ([2, 3, 1] : List Int)) (inner := [.int .i64 2, .int .i64 3, .int .i64 1]) (ok := fun _ => True) (okp := fun _ => True) ?hr ?hp (fun _ hk => hk) trivial (Below.refl _ _) (Nat.le_refl _) (by simp) ?_; (case hd => rfl); (case hg => rfl); (case hr => first | (go_simp; done) | (go_simp; rfl)); (case hp => exact (Reps.one (show Kd.M (Kd.int .i64) _ _ _ 2 [.int .i64 2] from rfl) (Reps.one (show Kd.M (Kd.int .i64) _ _ _ 3 [.int .i64 3] from rfl) (Reps.one (show Kd.M (Kd.int .i64) _ _ _ 1 [.int .i64 1] from rfl) (Reps.none _ _))))); intro v141 w11 ho12 hb hg_ hnew_; clear hg_ hnew_; (first | rw [← Ny140.out] at ho12 | (simp only [Int.reduceToNat] at ho12; rw [← Ny140.out] at ho12)); have n0_ := Aside0.mk (Kd.R_elder' (by (with_reducible repeat (first | apply Kd.R_alloc | apply Kd.R_drewN | apply Kd.R_drew)); exact HO134.out) (Kd.R_base ho12) hb); have n1_ := Aside0.mk (Kd.R_elder' (by (with_reducible repeat (first | apply Kd.R_alloc | apply Kd.R_drewN | apply Kd.R_drew)); exact HO139.out) (Kd.R_base ho12) hb); have n2_ := Aside0.mk (Kd.R_lower (Kd.R_new' (Kd.R_new' ho12 (Kd.R_lt (by (with_reducible repeat (first | apply Kd.R_alloc | apply Kd.R_drewN | apply Kd.R_drew)); exact HO134.out))) (Kd.R_lt (by (with_reducible repeat (first | apply Kd.R_alloc | apply Kd.R_drewN | apply Kd.R_drew)); exact HO139.out))) (below_size (by repeat (first | (with_reducible first | exact HB.out | apply below_alloc | apply pw_below_drewN | apply below_drew1) | exact HB.out)))); have n3_ := Aside0.mk (below_step (by repeat (first | (with_reducible first | exact HB.out | apply below_alloc | apply pw_below_drewN | apply below_drew1) | exact HB.out)) hb); clear HO134; clear HO139; clear HB; have HO134 := n0_; have HO139 := n1_; have HO142 := n2_; have HB := n3_; clear n0_ n1_ n2_ n3_; clear hb ho12; obtain ⟨Ao13, co13, eo13⟩ := Kd.R_slice HO142.out; subst eo13) | ((with_reducible refine gate_callee (f := 28) rfl ?_); refine goesL_ (some 21) rfl rfl Try.func28 (by kernel_rfl) rfl #[.slice Ao13 y140.length co13] rfl (by (try simp only [List.map_toArray, List.map_cons, List.map_nil]); first | done | rfl | (simp only [List.length_drop, List.length_take]; rfl)) ?_; (with_reducible refine (shunt_Stack.calls k _ _ y140 t143 t144 t145 _ ?side1 ?side2 A2.out).mono ?_); (case side1 => repeat (first | exact (Kd.R_reads' HO142.out).2.2 | (with_reducible refine Kd.C_alloc ?_ _) | (with_reducible refine Kd.C_drewN ?_ _) | (with_reducible refine Kd.C_drew ?_))); (case side2 => exact (Kd.R_reads' HO142.out).2.1); rintro e w14 ⟨v146, rfl, ho0, hb⟩; refine ⟨_, rfl, ?_⟩; have n0_ := Aside0.mk (Kd.R_elder' (by (with_reducible repeat (first | apply Kd.R_alloc | apply Kd.R_drewN | apply Kd.R_drew)); exact HO134.out) (Kd.R_base ho0) hb); have n1_ := Aside0.mk (Kd.R_elder' (by (with_reducible repeat (first | apply Kd.R_alloc | apply Kd.R_drewN | apply Kd.R_drew)); exact HO139.out) (Kd.R_base ho0) hb); have n2_ := Aside0.mk (Kd.R_elder' (by (with_reducible repeat (first | apply Kd.R_alloc | apply Kd.R_drewN | apply Kd.R_drew)); exact HO142.out) (Kd.R_base ho0) hb); have n3_ := Aside0.mk (Kd.R_lower (Kd.R_new' (Kd.R_new' (Kd.R_new' ho0 (Kd.R_lt (by (with_reducible repeat (first | apply Kd.R_alloc | apply Kd.R_drewN | apply Kd.R_drew)); exact HO134.out))) (Kd.R_lt (by (with_reducible repeat (first | apply Kd.R_alloc | apply Kd.R_drewN | apply Kd.R_drew)); exact HO139.out))) (Kd.R_lt (by (with_reducible repeat (first | apply Kd.R_alloc | apply Kd.R_drewN | apply Kd.R_drew)); exact HO142.out))) (below_size (by repeat (first | (with_reducible first | exact HB.out | apply below_alloc | apply pw_below_drewN | apply below_drew1) | exact HB.out)))); have n4_ := Aside0.mk (below_step (by repeat (first | (with_reducible first | exact HB.out | apply below_alloc | apply pw_below_drewN | apply below_drew1) | exact HB.out)) hb); clear HO134; clear HO139; clear HO142; clear HB; have HO134 := n0_; have HO139 := n1_; have HO142 := n2_; have HO147 := n3_; have HB := n4_; clear n0_ n1_ n2_ n3_ n4_; (try clear hb); (try clear hb2); (try clear hk); (try clear hi); (try clear ho0)) | ((with_reducible refine gate_dst (N := 26) rfl ?_); (try (refine gate_guard (by rfl) ?_; dsimp only)); refine Kd.R_lit (Kd.int .i64) _ 3 ?hg (N := 26) ?hd (xs := ([3, 2, 1] : List Int)) (inner := [.int .i64 3, .int .i64 2, .int .i64 1]) (ok := fun _ => True) (okp := fun _ => True) ?hr ?hp (fun _ hk => hk) trivial (Below.refl _ _) (Nat.le_refl _) (by simp) ?_; (case hd => rfl); (case hg => rfl); (case hr => first | (go_simp; done) | (go_simp; rfl)); (case hp => exact (Reps.one (show Kd.M (Kd.int .i64) _ _ _ 3 [.int .i64 3] from rfl) (Reps.one (show Kd.M (Kd.int .i64) _ _ _ 2 [.int .i64 2] from rfl) (Reps.one (show Kd.M (Kd.int .i64) _ _ _ 1 [.int .i64 1] from rfl) (Reps.none _ _))))); intro v149 w15 ho16 hb hg_ hnew_; clear hg_ hnew_; (first | rw [← Ny148.out] at ho16 | (simp only [Int.reduceToNat] at ho16; rw [← Ny148.out] at ho16)); have n0_ := Aside0.mk (Kd.R_elder' (by (with_reducible repeat (first | apply Kd.R_alloc | apply Kd.R_drewN | apply Kd.R_drew)); exact HO134.out) (Kd.R_base ho16) hb); have n1_ := Aside0.mk (Kd.R_elder' (by (with_reducible repeat (first | apply Kd.R_alloc | apply Kd.R_drewN | apply Kd.R_drew)); exact HO139.out) (Kd.R_base ho16) hb); have n2_ := Aside0.mk (Kd.R_elder' (by (with_reducible repeat (first | apply Kd.R_alloc | apply Kd.R_drewN | apply Kd.R_drew)); exact HO142.out) (Kd.R_base ho16) hb); have n3_ := Aside0.mk (Kd.R_elder' (by (with_reducible repeat (first | apply Kd.R_alloc | apply Kd.R_drewN | apply Kd.R_drew)); exact HO147.out) (Kd.R_base ho16) hb); have n4_ := Aside0.mk (Kd.R_lower (Kd.R_new' (Kd.R_new' (Kd.R_new' (Kd.R_new' ho16 (Kd.R_lt (by (with_reducible repeat (first | apply Kd.R_alloc | apply Kd.R_drewN | apply Kd.R_drew)); exact HO134.out))) (Kd.R_lt (by (with_reducible repeat (first | apply Kd.R_alloc | apply Kd.R_drewN | apply Kd.R_drew)); exact HO139.out))) (Kd.R_lt (by (with_reducible repeat (first | apply Kd.R_alloc | apply Kd.R_drewN | apply Kd.R_drew)); exact HO142.out))) (Kd.R_lt (by (with_reducible repeat (first | apply Kd.R_alloc | apply Kd.R_drewN | apply Kd.R_drew)); exact HO147.out))) (below_size (by repeat (first | (with_reducible first | exact HB.out | apply below_alloc | apply pw_below_drewN | apply below_drew1) | exact HB.out)))); have n5_ := Aside0.mk (below_step (by repeat (first | (with_reducible first | exact HB.out | apply below_alloc | apply pw_below_drewN | apply below_drew1) | exact HB.out)) hb); clear HO134; clear HO139; clear HO142; clear HO147; clear HB; have HO134 := n0_; have HO139 := n1_; have HO142 := n2_; have HO147 := n3_; have HO150 := n4_; have HB := n5_; clear n0_ n1_ n2_ n3_ n4_ n5_; clear hb ho16; obtain ⟨Ao17, co17, eo17⟩ := Kd.R_slice HO150.out; subst eo17) | ((with_reducible refine gate_callee (f := 29) rfl ?_); refine goesL_ (some 27) rfl rfl Try.func29 (by kernel_rfl) rfl #[.slice Ao17 y148.length co17] rfl (by (try simp only [List.map_toArray, List.map_cons, List.map_nil]); first | done | rfl | (simp only [List.length_drop, List.length_take]; rfl)) ?_; (with_reducible refine (shunt_Least.calls k _ _ y148 t151 t152 _ ?side1 ?side2 A3.out).mono ?_); (case side1 => repeat (first | exact (Kd.R_reads' HO150.out).2.2 | (with_reducible refine Kd.C_alloc ?_ _) | (with_reducible refine Kd.C_drewN ?_ _) | (with_reducible refine Kd.C_drew ?_))); (case side2 => exact (Kd.R_reads' HO150.out).2.1); rintro e w18 ⟨rfl, hb⟩; refine ⟨_, rfl, ?_⟩; have n0_ := Aside0.mk (Kd.R_below (by (with_reducible repeat (first | apply Kd.R_alloc | apply Kd.R_drewN | apply Kd.R_drew)); exact HO134.out) hb); have n1_ := Aside0.mk (Kd.R_below (by (with_reducible repeat (first | apply Kd.R_alloc | apply Kd.R_drewN | apply Kd.R_drew)); exact HO139.out) hb); have n2_ := Aside0.mk (Kd.R_below (by (with_reducible repeat (first | apply Kd.R_alloc | apply Kd.R_drewN | apply Kd.R_drew)); exact HO142.out) hb); have n3_ := Aside0.mk (Kd.R_below (by (with_reducible repeat (first | apply Kd.R_alloc | apply Kd.R_drewN | apply Kd.R_drew)); exact HO147.out) hb); have n4_ := Aside0.mk (Kd.R_below (by (with_reducible repeat (first | apply Kd.R_alloc | apply Kd.R_drewN | apply Kd.R_drew)); exact HO150.out) hb); have n5_ := Aside0.mk (below_step (by repeat (first | (with_reducible first | exact HB.out | apply below_alloc | apply pw_below_drewN | apply below_drew1) | exact HB.out)) hb); clear HO134; clear HO139; clear HO142; clear HO147; clear HO150; clear HB; have HO134 := n0_; have HO139 := n1_; have HO142 := n2_; have HO147 := n3_; have HO150 := n4_; have HB := n5_; clear n0_ n1_ n2_ n3_ n4_ n5_; (try clear hb); (try clear hb2); (try clear hk); (try clear hi)) | ((with_reducible refine gate_dst (N := 31) rfl ?_); (try (refine gate_guard (by rfl) ?_; dsimp only)); refine Kd.R_lit (Kd.int .i64) _ 3 ?hg (N := 31) ?hd (xs := ([3, 2, 1] : List Int)) (inner := [.int .i64 3, .int .i64 2, .int .i64 1]) (ok := fun _ => True) (okp := fun _ => True) ?hr ?hp (fun _ hk => hk) trivial (Below.refl _ _) (Nat.le_refl _) (by simp) ?_; (case hd => rfl); (case hg => rfl); (case hr => first | (go_simp; done) | (go_simp; rfl)); (case hp => exact (Reps.one (show Kd.M (Kd.int .i64) _ _ _ 3 [.int .i64 3] from rfl) (Reps.one (show Kd.M (Kd.int .i64) _ _ _ 2 [.int .i64 2] from rfl) (Reps.one (show Kd.M (Kd.int .i64) _ _ _ 1 [.int .i64 1] from rfl) (Reps.none _ _))))); intro v154 w19 ho20 hb hg_ hnew_; clear hg_ hnew_; (first | rw [← Ny153.out] at ho20 | (simp only [Int.reduceToNat] at ho20; rw [← Ny153.out] at ho20)); have n0_ := Aside0.mk (Kd.R_elder' (by (with_reducible repeat (first | apply Kd.R_alloc | apply Kd.R_drewN | apply Kd.R_drew)); exact HO134.out) (Kd.R_base ho20) hb); have n1_ := Aside0.mk (Kd.R_elder' (by (with_reducible repeat (first | apply Kd.R_alloc | apply Kd.R_drewN | apply Kd.R_drew)); exact HO139.out) (Kd.R_base ho20) hb); have n2_ := Aside0.mk (Kd.R_elder' (by (with_reducible repeat (first | apply Kd.R_alloc | apply Kd.R_drewN | apply Kd.R_drew)); exact HO142.out) (Kd.R_base ho20) hb); have n3_ := Aside0.mk (Kd.R_elder' (by (with_reducible repeat (first | apply Kd.R_alloc | apply Kd.R_drewN | apply Kd.R_drew)); exact HO147.out) (Kd.R_base ho20) hb); have n4_ := Aside0.mk (Kd.R_elder' (by (with_reducible repeat (first | apply Kd.R_alloc | apply Kd.R_drewN | apply Kd.R_drew)); exact HO150.out) (Kd.R_base ho20) hb); have n5_ := Aside0.mk (Kd.R_lower (Kd.R_new' (Kd.R_new' (Kd.R_new' (Kd.R_new' (Kd.R_new' ho20 (Kd.R_lt (by (with_reducible repeat (first | apply Kd.R_alloc | apply Kd.R_drewN | apply Kd.R_drew)); exact HO134.out))) (Kd.R_lt (by (with_reducible repeat (first | apply Kd.R_alloc | apply Kd.R_drewN | apply Kd.R_drew)); exact HO139.out))) (Kd.R_lt (by (with_reducible repeat (first | apply Kd.R_alloc | apply Kd.R_drewN | apply Kd.R_drew)); exact HO142.out))) (Kd.R_lt (by (with_reducible repeat (first | apply Kd.R_alloc | apply Kd.R_drewN | apply Kd.R_drew)); exact HO147.out))) (Kd.R_lt (by (with_reducible repeat (first | apply Kd.R_alloc | apply Kd.R_drewN | apply Kd.R_drew)); exact HO150.out))) (below_size (by repeat (first | (with_reducible first | exact HB.out | apply below_alloc | apply pw_below_drewN | apply below_drew1) | exact HB.out)))); have n6_ := Aside0.mk (below_step (by repeat (first | (with_reducible first | exact HB.out | apply below_alloc | apply pw_below_drewN | apply below_drew1) | exact HB.out)) hb); clear HO134; clear HO139; clear HO142; clear HO147; clear HO150; clear HB; have HO134 := n0_; have HO139 := n1_; have HO142 := n2_; have HO147 := n3_; have HO150 := n4_; have HO155 := n5_; have HB := n6_; clear n0_ n1_ n2_ n3_ n4_ n5_ n6_; clear hb ho20; obtain ⟨Ao21, co21, eo21⟩ := Kd.R_slice HO155.out; subst eo21) | ((with_reducible refine gate_callee (f := 19) rfl ?_); refine goesL_ (some 32) rfl rfl Try.func19 (by kernel_rfl) rfl #[.slice Ao21 y153.length co21] rfl (by (try simp only [List.map_toArray, List.map_cons, List.map_nil]); first | done | rfl | (simp only [List.length_drop, List.length_take]; rfl)) ?_; (with_reducible refine (shunt_Rank.calls k _ _ y153 t156 t157 _ ?side1 ?side2 A4.out).mono ?_); (case side1 => repeat (first | exact (Kd.R_reads' HO155.out).2.2 | (with_reducible refine Kd.C_alloc ?_ _) | (with_reducible refine Kd.C_drewN ?_ _) | (with_reducible refine Kd.C_drew ?_))); (case side2 => exact (Kd.R_reads' HO155.out).2.1); rintro e w22 ⟨rfl, hb⟩; refine ⟨_, rfl, ?_⟩; have n0_ := Aside0.mk (Kd.R_below (by (with_reducible repeat (first | apply Kd.R_alloc | apply Kd.R_drewN | apply Kd.R_drew)); exact HO134.out) hb); have n1_ := Aside0.mk (Kd.R_below (by (with_reducible repeat (first | apply Kd.R_alloc | apply Kd.R_drewN | apply Kd.R_drew)); exact HO139.out) hb); have n2_ := Aside0.mk (Kd.R_below (by (with_reducible repeat (first | apply Kd.R_alloc | apply Kd.R_drewN | apply Kd.R_drew)); exact HO142.out) hb); have n3_ := Aside0.mk (Kd.R_below (by (with_reducible repeat (first | apply Kd.R_alloc | apply Kd.R_drewN | apply Kd.R_drew)); exact HO147.out) hb); have n4_ := Aside0.mk (Kd.R_below (by (with_reducible repeat (first | apply Kd.R_alloc | apply Kd.R_drewN | apply Kd.R_drew)); exact HO150.out) hb); have n5_ := Aside0.mk (Kd.R_below (by (with_reducible repeat (first | apply Kd.R_alloc | apply Kd.R_drewN | apply Kd.R_drew)); exact HO155.out) hb); have n6_ := Aside0.mk (below_step (by repeat (first | (with_reducible first | exact HB.out | apply below_alloc | apply pw_below_drewN | apply below_drew1) | exact HB.out)) hb); clear HO134; clear HO139; clear HO142; clear HO147; clear HO150; clear HO155; clear HB; have HO134 := n0_; have HO139 := n1_; have HO142 := n2_; have HO147 := n3_; have HO150 := n4_; have HO155 := n5_; have HB := n6_; clear n0_ n1_ n2_ n3_ n4_ n5_ n6_; (try clear hb); (try clear hb2); (try clear hk); (try clear hi)) | ((with_reducible refine gate_dst (N := 36) rfl ?_); (try (refine gate_guard (by rfl) ?_; dsimp only)); refine Kd.R_lit (Kd.int .i64) _ 3 ?hg (N := 36) ?hd (xs := ([2, 3, 1] : List Int)) (inner := [.int .i64 2, .int .i64 3, .int .i64 1]) (ok := fun _ => True) (okp := fun _ => True) ?hr ?hp (fun _ hk => hk) trivial (Below.refl _ _) (Nat.le_refl _) (by simp) ?_; (case hd => rfl); (case hg => rfl); (case hr => first | (go_simp; done) | (go_simp; rfl)); (case hp => exact (Reps.one (show Kd.M (Kd.int .i64) _ _ _ 2 [.int .i64 2] from rfl) (Reps.one (show Kd.M (Kd.int .i64) _ _ _ 3 [.int .i64 3] from rfl) (Reps.one (show Kd.M (Kd.int .i64) _ _ _ 1 [.int .i64 1] from rfl) (Reps.none _ _))))); intro v159 w23 ho24 hb hg_ hnew_; clear hg_ hnew_; (first | rw [← Ny158.out] at ho24 | (simp only [Int.reduceToNat] at ho24; rw [← Ny158.out] at ho24)); have n0_ := Aside0.mk (Kd.R_elder' (by (with_reducible repeat (first | apply Kd.R_alloc | apply Kd.R_drewN | apply Kd.R_drew)); exact HO134.out) (Kd.R_base ho24) hb); have n1_ := Aside0.mk (Kd.R_elder' (by (with_reducible repeat (first | apply Kd.R_alloc | apply Kd.R_drewN | apply Kd.R_drew)); exact HO139.out) (Kd.R_base ho24) hb); have n2_ := Aside0.mk (Kd.R_elder' (by (with_reducible repeat (first | apply Kd.R_alloc | apply Kd.R_drewN | apply Kd.R_drew)); exact HO142.out) (Kd.R_base ho24) hb); have n3_ := Aside0.mk (Kd.R_elder' (by (with_reducible repeat (first | apply Kd.R_alloc | apply Kd.R_drewN | apply Kd.R_drew)); exact HO147.out) (Kd.R_base ho24) hb); have n4_ := Aside0.mk (Kd.R_elder' (by (with_reducible repeat (first | apply Kd.R_alloc | apply Kd.R_drewN | apply Kd.R_drew)); exact HO150.out) (Kd.R_base ho24) hb); have n5_ := Aside0.mk (Kd.R_elder' (by (with_reducible repeat (first | apply Kd.R_alloc | apply Kd.R_drewN | apply Kd.R_drew)); exact HO155.out) (Kd.R_base ho24) hb); have n6_ := Aside0.mk (Kd.R_lower (Kd.R_new' (Kd.R_new' (Kd.R_new' (Kd.R_new' (Kd.R_new' (Kd.R_new' ho24 (Kd.R_lt (by (with_reducible repeat (first | apply Kd.R_alloc | apply Kd.R_drewN | apply Kd.R_drew)); exact HO134.out))) (Kd.R_lt (by (with_reducible repeat (first | apply Kd.R_alloc | apply Kd.R_drewN | apply Kd.R_drew)); exact HO139.out))) (Kd.R_lt (by (with_reducible repeat (first | apply Kd.R_alloc | apply Kd.R_drewN | apply Kd.R_drew)); exact HO142.out))) (Kd.R_lt (by (with_reducible repeat (first | apply Kd.R_alloc | apply Kd.R_drewN | apply Kd.R_drew)); exact HO147.out))) (Kd.R_lt (by (with_reducible repeat (first | apply Kd.R_alloc | apply Kd.R_drewN | apply Kd.R_drew)); exact HO150.out))) (Kd.R_lt (by (with_reducible repeat (first | apply Kd.R_alloc | apply Kd.R_drewN | apply Kd.R_drew)); exact HO155.out))) (below_size (by repeat (first | (with_reducible first | exact HB.out | apply below_alloc | apply pw_below_drewN | apply below_drew1) | exact HB.out)))); have n7_ := Aside0.mk (below_step (by repeat (first | (with_reducible first | exact HB.out | apply below_alloc | apply pw_below_drewN | apply below_drew1) | exact HB.out)) hb); clear HO134; clear HO139; clear HO142; clear HO147; clear HO150; clear HO155; clear HB; have HO134 := n0_; have HO139 := n1_; have HO142 := n2_; have HO147 := n3_; have HO150 := n4_; have HO155 := n5_; have HO160 := n6_; have HB := n7_; clear n0_ n1_ n2_ n3_ n4_ n5_ n6_ n7_; clear hb ho24; obtain ⟨Ao25, co25, eo25⟩ := Kd.R_slice HO160.out; subst eo25) | ((with_reducible refine gate_callee (f := 20) rfl ?_); refine goesL_ (some 37) rfl rfl Try.func20 (by kernel_rfl) rfl #[.slice Ao25 y158.length co25] rfl (by (try simp only [List.map_toArray, List.map_cons, List.map_nil]); first | done | rfl | (simp only [List.length_drop, List.length_take]; rfl)) ?_; (with_reducible refine (shunt_Pass.calls _ _ y158 t161 t162 _ ?side1 ?side2 A5.out).mono ?_); (case side1 => repeat (first | exact (Kd.R_reads' HO160.out).2.2 | (with_reducible refine Kd.C_alloc ?_ _) | (with_reducible refine Kd.C_drewN ?_ _) | (with_reducible refine Kd.C_drew ?_))); (case side2 => exact (Kd.R_reads' HO160.out).2.1); rintro e w26 ⟨v163, rfl, ho0, hb⟩; refine ⟨_, rfl, ?_⟩; have n0_ := Aside0.mk (Kd.R_elder' (by (with_reducible repeat (first | apply Kd.R_alloc | apply Kd.R_drewN | apply Kd.R_drew)); exact HO134.out) (Kd.R_base ho0) hb); have n1_ := Aside0.mk (Kd.R_elder' (by (with_reducible repeat (first | apply Kd.R_alloc | apply Kd.R_drewN | apply Kd.R_drew)); exact HO139.out) (Kd.R_base ho0) hb); have n2_ := Aside0.mk (Kd.R_elder' (by (with_reducible repeat (first | apply Kd.R_alloc | apply Kd.R_drewN | apply Kd.R_drew)); exact HO142.out) (Kd.R_base ho0) hb); have n3_ := Aside0.mk (Kd.R_elder' (by (with_reducible repeat (first | apply Kd.R_alloc | apply Kd.R_drewN | apply Kd.R_drew)); exact HO147.out) (Kd.R_base ho0) hb); have n4_ := Aside0.mk (Kd.R_elder' (by (with_reducible repeat (first | apply Kd.R_alloc | apply Kd.R_drewN | apply Kd.R_drew)); exact HO150.out) (Kd.R_base ho0) hb); have n5_ := Aside0.mk (Kd.R_elder' (by (with_reducible repeat (first | apply Kd.R_alloc | apply Kd.R_drewN | apply Kd.R_drew)); exact HO155.out) (Kd.R_base ho0) hb); have n6_ := Aside0.mk (Kd.R_elder' (by (with_reducible repeat (first | apply Kd.R_alloc | apply Kd.R_drewN | apply Kd.R_drew)); exact HO160.out) (Kd.R_base ho0) hb); have n7_ := Aside0.mk (Kd.R_lower (Kd.R_new' (Kd.R_new' (Kd.R_new' (Kd.R_new' (Kd.R_new' (Kd.R_new' (Kd.R_new' ho0 (Kd.R_lt (by (with_reducible repeat (first | apply Kd.R_alloc | apply Kd.R_drewN | apply Kd.R_drew)); exact HO134.out))) (Kd.R_lt (by (with_reducible repeat (first | apply Kd.R_alloc | apply Kd.R_drewN | apply Kd.R_drew)); exact HO139.out))) (Kd.R_lt (by (with_reducible repeat (first | apply Kd.R_alloc | apply Kd.R_drewN | apply Kd.R_drew)); exact HO142.out))) (Kd.R_lt (by (with_reducible repeat (first | apply Kd.R_alloc | apply Kd.R_drewN | apply Kd.R_drew)); exact HO147.out))) (Kd.R_lt (by (with_reducible repeat (first | apply Kd.R_alloc | apply Kd.R_drewN | apply Kd.R_drew)); exact HO150.out))) (Kd.R_lt (by (with_reducible repeat (first | apply Kd.R_alloc | apply Kd.R_drewN | apply Kd.R_drew)); exact HO155.out))) (Kd.R_lt (by (with_reducible repeat (first | apply Kd.R_alloc | apply Kd.R_drewN | apply Kd.R_drew)); exact HO160.out))) (below_size (by repeat (first | (with_reducible first | exact HB.out | apply below_alloc | apply pw_below_drewN | apply below_drew1) | exact HB.out)))); have n8_ := Aside0.mk (below_step (by repeat (first | (with_reducible first | exact HB.out | apply below_alloc | apply pw_below_drewN | apply below_drew1) | exact HB.out)) hb); clear HO134; clear HO139; clear HO142; clear HO147; clear HO150; clear HO155; clear HO160; clear HB; have HO134 := n0_; have HO139 := n1_; have HO142 := n2_; have HO147 := n3_; have HO150 := n4_; have HO155 := n5_; have HO160 := n6_; have HO164 := n7_; have HB := n8_; clear n0_ n1_ n2_ n3_ n4_ n5_ n6_ n7_ n8_; (try clear hb); (try clear hb2); (try clear hk); (try clear hi); (try clear ho0)))
  (try simp only [Act.put, List.setIfInBounds_toArray, List.set_cons_zero, List.set_cons_succ])
  go_cut [86] (fun v86 wc => ∃ (kq : Nat) (x86_5 : Bool), v86 = .bool x86_5 ∧ Aside0 (tickinglaw02_awake.j0 kq x86_5 = some r) ∧ Aside0 (kq ≤ k) ∧ Aside0 (Below w.heap.size w wc))
  case first =>
    have H := HC6.out
    clear HC6
    by_cases c27 : t137 = 0
    · rw [if_pos c27] at H
      have c27b0 : (t137 == 0) = true := beq_iff_eq.mpr c27
      have c27b1 : (t137 != 0) = false := bne_eq_false_iff_eq.mpr c27
      clear c27
      (first | rw [c27b0] | (simp only [i64_w, i32_w]; rw [c27b0]) | skip)
      by_cases c28 : t135.toList = ([105, 105, 111, 111, 105, 111] : List UInt8)
      · rw [if_pos c28] at H
        have c28b0 : (t135.toList == ([105, 105, 111, 111, 105, 111] : List UInt8)) = true := beq_iff_eq.mpr c28
        have c28b1 : (t135.toList != ([105, 105, 111, 111, 105, 111] : List UInt8)) = false := bne_eq_false_iff_eq.mpr c28
        clear c28
        by_cases c29 : (t136.length : Int) = 0
        · rw [if_pos c29] at H
          have c29b0 : ((t136.length : Int) == 0) = true := beq_iff_eq.mpr c29
          have c29b1 : ((t136.length : Int) != 0) = false := bne_eq_false_iff_eq.mpr c29
          clear c29
          by_cases c30 : t145 = 0
          · rw [if_pos c30] at H
            have c30b0 : (t145 == 0) = true := beq_iff_eq.mpr c30
            have c30b1 : (t145 != 0) = false := bne_eq_false_iff_eq.mpr c30
            clear c30
            obtain ⟨y165, hy165⟩ : ∃ y_ : List Int, y_ = (([0, 1, 2] : List Int)) := ⟨_, rfl⟩
            replace H : ((tickinglaw02_ints.f k t144 y165).bind fun t168 => (if t168 = true then (if t152 = 0 then (if t151 = 3 then (if t157 = 0 then (if t156 = 4 then (if t162 = 0 then ((tickinglaw02_ints.f k t161 (([2, 1, 3] : List Int))).bind fun t172 => (tickinglaw02_awake.j0 k (!t172))) else (tickinglaw02_awake.j0 k true)) else (tickinglaw02_awake.j0 k true)) else (tickinglaw02_awake.j0 k true)) else (tickinglaw02_awake.j0 k true)) else (tickinglaw02_awake.j0 k true)) else (tickinglaw02_awake.j0 k true))) = some r := by first | (rw [hy165]; with_reducible exact H) | (have H2_ := (Option.bind_some _ _).symm.trans H; rw [hy165]; with_reducible exact H2_) | (have H2_ := (Option.bind_some _ _).symm.trans H; with_reducible exact H2_) | with_reducible exact H | (rw [hy165]; exact H) | exact H
            have Ny165 := Aside0.mk hy165
            clear hy165
            replace H := Option.bind_eq_some_iff.mp H
            obtain ⟨t168, A310, H⟩ := H
            replace H : (if t168 = true then (if t152 = 0 then (if t151 = 3 then (if t157 = 0 then (if t156 = 4 then (if t162 = 0 then ((tickinglaw02_ints.f k t161 (([2, 1, 3] : List Int))).bind fun t172 => (tickinglaw02_awake.j0 k (!t172))) else (tickinglaw02_awake.j0 k true)) else (tickinglaw02_awake.j0 k true)) else (tickinglaw02_awake.j0 k true)) else (tickinglaw02_awake.j0 k true)) else (tickinglaw02_awake.j0 k true)) else (tickinglaw02_awake.j0 k true)) = some r := H
            have A31 := Aside0.mk A310
            clear A310
            by_cases c32 : t168 = true
            · subst c32
              have H1 : (if t152 = 0 then (if t151 = 3 then (if t157 = 0 then (if t156 = 4 then (if t162 = 0 then ((tickinglaw02_ints.f k t161 (([2, 1, 3] : List Int))).bind fun t172 => (tickinglaw02_awake.j0 k (!t172))) else (tickinglaw02_awake.j0 k true)) else (tickinglaw02_awake.j0 k true)) else (tickinglaw02_awake.j0 k true)) else (tickinglaw02_awake.j0 k true)) else (tickinglaw02_awake.j0 k true)) = some r := by rw [if_pos rfl] at H; exact H
              clear H
              have H := H1
              clear H1
              by_cases c33 : t152 = 0
              · rw [if_pos c33] at H
                have c33b0 : (t152 == 0) = true := beq_iff_eq.mpr c33
                have c33b1 : (t152 != 0) = false := bne_eq_false_iff_eq.mpr c33
                clear c33
                by_cases c34 : t151 = 3
                · rw [if_pos c34] at H
                  have c34b0 : (t151 == 3) = true := beq_iff_eq.mpr c34
                  have c34b1 : (t151 != 3) = false := bne_eq_false_iff_eq.mpr c34
                  clear c34
                  by_cases c35 : t157 = 0
                  · rw [if_pos c35] at H
                    have c35b0 : (t157 == 0) = true := beq_iff_eq.mpr c35
                    have c35b1 : (t157 != 0) = false := bne_eq_false_iff_eq.mpr c35
                    clear c35
                    by_cases c36 : t156 = 4
                    · rw [if_pos c36] at H
                      have c36b0 : (t156 == 4) = true := beq_iff_eq.mpr c36
                      have c36b1 : (t156 != 4) = false := bne_eq_false_iff_eq.mpr c36
                      clear c36
                      by_cases c37 : t162 = 0
                      · rw [if_pos c37] at H
                        have c37b0 : (t162 == 0) = true := beq_iff_eq.mpr c37
                        have c37b1 : (t162 != 0) = false := bne_eq_false_iff_eq.mpr c37
                        clear c37
                        obtain ⟨y169, hy169⟩ : ∃ y_ : List Int, y_ = (([2, 1, 3] : List Int)) := ⟨_, rfl⟩
                        replace H : ((tickinglaw02_ints.f k t161 y169).bind fun t172 => (tickinglaw02_awake.j0 k (!t172))) = some r := by first | (rw [hy169]; with_reducible exact H) | (have H2_ := (Option.bind_some _ _).symm.trans H; rw [hy169]; with_reducible exact H2_) | (have H2_ := (Option.bind_some _ _).symm.trans H; with_reducible exact H2_) | with_reducible exact H | (rw [hy169]; exact H) | exact H
                        have Ny169 := Aside0.mk hy169
                        clear hy169
                        replace H := Option.bind_eq_some_iff.mp H
                        obtain ⟨t172, A380, H⟩ := H
                        replace H : (tickinglaw02_awake.j0 k (!t172)) = some r := H
                        have A38 := Aside0.mk A380
                        clear A380
                        have H' := Aside0.mk H
                        clear H
                        obtain ⟨Ao39, co39, eo39⟩ := Kd.R_slice HO139.out
                        subst eo39
                        go_wp2_with (first | ((with_reducible refine gate_dst (N := 57) rfl ?_); (try (refine gate_guard (by rfl) ?_; dsimp only)); refine Kd.R_lit (Kd.int .i64) _ 3 ?hg (N := 57) ?hd (xs := ([0, 1, 2] : List Int)) (inner := [.int .i64 0, .int .i64 1, .int .i64 2]) (ok := fun _ => True) (okp := fun _ => True) ?hr ?hp (fun _ hk => hk) trivial (Below.refl _ _) (Nat.le_refl _) (by simp) ?_; (case hd => rfl); (case hg => rfl); (case hr => first | (go_simp; done) | (go_simp; rfl)); (case hp => exact (Reps.one (show Kd.M (Kd.int .i64) _ _ _ 0 [.int .i64 0] from rfl) (Reps.one (show Kd.M (Kd.int .i64) _ _ _ 1 [.int .i64 1] from rfl) (Reps.one (show Kd.M (Kd.int .i64) _ _ _ 2 [.int .i64 2] from rfl) (Reps.none _ _))))); intro v166 w40 ho41 hb hg_ hnew_; clear hg_ hnew_; (first | rw [← Ny165.out] at ho41 | (simp only [Int.reduceToNat] at ho41; rw [← Ny165.out] at ho41)); have n0_ := Aside0.mk (Kd.R_elder' (by (with_reducible repeat (first | apply Kd.R_alloc | apply Kd.R_drewN | apply Kd.R_drew)); exact HO134.out) (Kd.R_base ho41) hb); have n1_ := Aside0.mk (Kd.R_elder' (by (with_reducible repeat (first | apply Kd.R_alloc | apply Kd.R_drewN | apply Kd.R_drew)); exact HO139.out) (Kd.R_base ho41) hb); have n2_ := Aside0.mk (Kd.R_elder' (by (with_reducible repeat (first | apply Kd.R_alloc | apply Kd.R_drewN | apply Kd.R_drew)); exact HO142.out) (Kd.R_base ho41) hb); have n3_ := Aside0.mk (Kd.R_elder' (by (with_reducible repeat (first | apply Kd.R_alloc | apply Kd.R_drewN | apply Kd.R_drew)); exact HO147.out) (Kd.R_base ho41) hb); have n4_ := Aside0.mk (Kd.R_elder' (by (with_reducible repeat (first | apply Kd.R_alloc | apply Kd.R_drewN | apply Kd.R_drew)); exact HO150.out) (Kd.R_base ho41) hb); have n5_ := Aside0.mk (Kd.R_elder' (by (with_reducible repeat (first | apply Kd.R_alloc | apply Kd.R_drewN | apply Kd.R_drew)); exact HO155.out) (Kd.R_base ho41) hb); have n6_ := Aside0.mk (Kd.R_elder' (by (with_reducible repeat (first | apply Kd.R_alloc | apply Kd.R_drewN | apply Kd.R_drew)); exact HO160.out) (Kd.R_base ho41) hb); have n7_ := Aside0.mk (Kd.R_elder' (by (with_reducible repeat (first | apply Kd.R_alloc | apply Kd.R_drewN | apply Kd.R_drew)); exact HO164.out) (Kd.R_base ho41) hb); have n8_ := Aside0.mk (Kd.R_lower (Kd.R_new' (Kd.R_new' (Kd.R_new' (Kd.R_new' (Kd.R_new' (Kd.R_new' (Kd.R_new' (Kd.R_new' ho41 (Kd.R_lt (by (with_reducible repeat (first | apply Kd.R_alloc | apply Kd.R_drewN | apply Kd.R_drew)); exact HO134.out))) (Kd.R_lt (by (with_reducible repeat (first | apply Kd.R_alloc | apply Kd.R_drewN | apply Kd.R_drew)); exact HO139.out))) (Kd.R_lt (by (with_reducible repeat (first | apply Kd.R_alloc | apply Kd.R_drewN | apply Kd.R_drew)); exact HO142.out))) (Kd.R_lt (by (with_reducible repeat (first | apply Kd.R_alloc | apply Kd.R_drewN | apply Kd.R_drew)); exact HO147.out))) (Kd.R_lt (by (with_reducible repeat (first | apply Kd.R_alloc | apply Kd.R_drewN | apply Kd.R_drew)); exact HO150.out))) (Kd.R_lt (by (with_reducible repeat (first | apply Kd.R_alloc | apply Kd.R_drewN | apply Kd.R_drew)); exact HO155.out))) (Kd.R_lt (by (with_reducible repeat (first | apply Kd.R_alloc | apply Kd.R_drewN | apply Kd.R_drew)); exact HO160.out))) (Kd.R_lt (by (with_reducible repeat (first | apply Kd.R_alloc | apply Kd.R_drewN | apply Kd.R_drew)); exact HO164.out))) (below_size (by repeat (first | (with_reducible first | exact HB.out | apply below_alloc | apply pw_below_drewN | apply below_drew1) | exact HB.out)))); have n9_ := Aside0.mk (below_step (by repeat (first | (with_reducible first | exact HB.out | apply below_alloc | apply pw_below_drewN | apply below_drew1) | exact HB.out)) hb); clear HO134; clear HO139; clear HO142; clear HO147; clear HO150; clear HO155; clear HO160; clear HO164; clear HB; have HO134 := n0_; have HO139 := n1_; have HO142 := n2_; have HO147 := n3_; have HO150 := n4_; have HO155 := n5_; have HO160 := n6_; have HO164 := n7_; have HO167 := n8_; have HB := n9_; clear n0_ n1_ n2_ n3_ n4_ n5_ n6_ n7_ n8_ n9_; clear hb ho41; obtain ⟨Ao42, co42, eo42⟩ := Kd.R_slice HO147.out; subst eo42; obtain ⟨Ao43, co43, eo43⟩ := Kd.R_slice HO167.out; subst eo43) | (go_at_call 23; (with_reducible refine (tickinglaw02_ints.calls k _ _ t144 _ _ y165 true _ ?side1 ?side2 ?side3 ?side4 A31.out).mono ?_); (case side1 => repeat (first | exact (Kd.R_reads' HO147.out).2.2 | (with_reducible refine Kd.C_alloc ?_ _) | (with_reducible refine Kd.C_drewN ?_ _) | (with_reducible refine Kd.C_drew ?_))); (case side2 => exact (Kd.R_reads' HO147.out).2.1); (case side3 => repeat (first | exact (Kd.R_reads' HO167.out).2.2 | (with_reducible refine Kd.C_alloc ?_ _) | (with_reducible refine Kd.C_drewN ?_ _) | (with_reducible refine Kd.C_drew ?_))); (case side4 => exact (Kd.R_reads' HO167.out).2.1); rintro e w' ⟨rfl, ⟨nd, rfl⟩⟩) | ((with_reducible refine gate_dst (N := 83) rfl ?_); (try (refine gate_guard (by rfl) ?_; dsimp only)); refine Kd.R_lit (Kd.int .i64) _ 3 ?hg (N := 83) ?hd (xs := ([2, 1, 3] : List Int)) (inner := [.int .i64 2, .int .i64 1, .int .i64 3]) (ok := fun _ => True) (okp := fun _ => True) ?hr ?hp (fun _ hk => hk) trivial (Below.refl _ _) (Nat.le_refl _) (by simp) ?_; (case hd => rfl); (case hg => rfl); (case hr => first | (go_simp; done) | (go_simp; rfl)); (case hp => exact (Reps.one (show Kd.M (Kd.int .i64) _ _ _ 2 [.int .i64 2] from rfl) (Reps.one (show Kd.M (Kd.int .i64) _ _ _ 1 [.int .i64 1] from rfl) (Reps.one (show Kd.M (Kd.int .i64) _ _ _ 3 [.int .i64 3] from rfl) (Reps.none _ _))))); intro v170 w44 ho45 hb hg_ hnew_; clear hg_ hnew_; (first | rw [← Ny169.out] at ho45 | (simp only [Int.reduceToNat] at ho45; rw [← Ny169.out] at ho45)); have n0_ := Aside0.mk (Kd.R_elder' (by (with_reducible repeat (first | apply Kd.R_alloc | apply Kd.R_drewN | apply Kd.R_drew)); exact HO134.out) (Kd.R_base ho45) hb); have n1_ := Aside0.mk (Kd.R_elder' (by (with_reducible repeat (first | apply Kd.R_alloc | apply Kd.R_drewN | apply Kd.R_drew)); exact HO139.out) (Kd.R_base ho45) hb); have n2_ := Aside0.mk (Kd.R_elder' (by (with_reducible repeat (first | apply Kd.R_alloc | apply Kd.R_drewN | apply Kd.R_drew)); exact HO142.out) (Kd.R_base ho45) hb); have n3_ := Aside0.mk (Kd.R_elder' (by (with_reducible repeat (first | apply Kd.R_alloc | apply Kd.R_drewN | apply Kd.R_drew)); exact HO147.out) (Kd.R_base ho45) hb); have n4_ := Aside0.mk (Kd.R_elder' (by (with_reducible repeat (first | apply Kd.R_alloc | apply Kd.R_drewN | apply Kd.R_drew)); exact HO150.out) (Kd.R_base ho45) hb); have n5_ := Aside0.mk (Kd.R_elder' (by (with_reducible repeat (first | apply Kd.R_alloc | apply Kd.R_drewN | apply Kd.R_drew)); exact HO155.out) (Kd.R_base ho45) hb); have n6_ := Aside0.mk (Kd.R_elder' (by (with_reducible repeat (first | apply Kd.R_alloc | apply Kd.R_drewN | apply Kd.R_drew)); exact HO160.out) (Kd.R_base ho45) hb); have n7_ := Aside0.mk (Kd.R_elder' (by (with_reducible repeat (first | apply Kd.R_alloc | apply Kd.R_drewN | apply Kd.R_drew)); exact HO164.out) (Kd.R_base ho45) hb); have n8_ := Aside0.mk (Kd.R_elder' (by (with_reducible repeat (first | apply Kd.R_alloc | apply Kd.R_drewN | apply Kd.R_drew)); exact HO167.out) (Kd.R_base ho45) hb); have n9_ := Aside0.mk (Kd.R_lower (Kd.R_new' (Kd.R_new' (Kd.R_new' (Kd.R_new' (Kd.R_new' (Kd.R_new' (Kd.R_new' (Kd.R_new' (Kd.R_new' ho45 (Kd.R_lt (by (with_reducible repeat (first | apply Kd.R_alloc | apply Kd.R_drewN | apply Kd.R_drew)); exact HO134.out))) (Kd.R_lt (by (with_reducible repeat (first | apply Kd.R_alloc | apply Kd.R_drewN | apply Kd.R_drew)); exact HO139.out))) (Kd.R_lt (by (with_reducible repeat (first | apply Kd.R_alloc | apply Kd.R_drewN | apply Kd.R_drew)); exact HO142.out))) (Kd.R_lt (by (with_reducible repeat (first | apply Kd.R_alloc | apply Kd.R_drewN | apply Kd.R_drew)); exact HO147.out))) (Kd.R_lt (by (with_reducible repeat (first | apply Kd.R_alloc | apply Kd.R_drewN | apply Kd.R_drew)); exact HO150.out))) (Kd.R_lt (by (with_reducible repeat (first | apply Kd.R_alloc | apply Kd.R_drewN | apply Kd.R_drew)); exact HO155.out))) (Kd.R_lt (by (with_reducible repeat (first | apply Kd.R_alloc | apply Kd.R_drewN | apply Kd.R_drew)); exact HO160.out))) (Kd.R_lt (by (with_reducible repeat (first | apply Kd.R_alloc | apply Kd.R_drewN | apply Kd.R_drew)); exact HO164.out))) (Kd.R_lt (by (with_reducible repeat (first | apply Kd.R_alloc | apply Kd.R_drewN | apply Kd.R_drew)); exact HO167.out))) (below_size (by repeat (first | (with_reducible first | exact HB.out | apply below_alloc | apply pw_below_drewN | apply below_drew1) | exact HB.out)))); have n10_ := Aside0.mk (below_step (by repeat (first | (with_reducible first | exact HB.out | apply below_alloc | apply pw_below_drewN | apply below_drew1) | exact HB.out)) hb); clear HO134; clear HO139; clear HO142; clear HO147; clear HO150; clear HO155; clear HO160; clear HO164; clear HO167; clear HB; have HO134 := n0_; have HO139 := n1_; have HO142 := n2_; have HO147 := n3_; have HO150 := n4_; have HO155 := n5_; have HO160 := n6_; have HO164 := n7_; have HO167 := n8_; have HO171 := n9_; have HB := n10_; clear n0_ n1_ n2_ n3_ n4_ n5_ n6_ n7_ n8_ n9_ n10_; clear hb ho45; obtain ⟨Ao46, co46, eo46⟩ := Kd.R_slice HO164.out; subst eo46; obtain ⟨Ao47, co47, eo47⟩ := Kd.R_slice HO171.out; subst eo47) | (go_at_call 23; (with_reducible refine (tickinglaw02_ints.calls k _ _ t161 _ _ y169 t172 _ ?side1 ?side2 ?side3 ?side4 A38.out).mono ?_); (case side1 => repeat (first | exact (Kd.R_reads' HO164.out).2.2 | (with_reducible refine Kd.C_alloc ?_ _) | (with_reducible refine Kd.C_drewN ?_ _) | (with_reducible refine Kd.C_drew ?_))); (case side2 => exact (Kd.R_reads' HO164.out).2.1); (case side3 => repeat (first | exact (Kd.R_reads' HO171.out).2.2 | (with_reducible refine Kd.C_alloc ?_ _) | (with_reducible refine Kd.C_drewN ?_ _) | (with_reducible refine Kd.C_drew ?_))); (case side4 => exact (Kd.R_reads' HO171.out).2.1); rintro e w' ⟨rfl, ⟨nd, rfl⟩⟩))
                        go_meet
                        case rel => exact ⟨_, (!t172), (by first | rfl | (simp; done) | (simp [*]; done)), H', ⟨by first | omega | exact Nat.le_refl _⟩, ⟨by repeat (first | (with_reducible first | exact HB.out | apply below_alloc | apply pw_below_drewN | apply below_drew1) | exact HB.out)⟩⟩
                      · rw [if_neg c37] at H
                        have c37b0 : (t162 == 0) = false := beq_eq_false_iff_ne.mpr c37
                        have c37b1 : (t162 != 0) = true := bne_iff_ne.mpr c37
                        have H' := Aside0.mk H
                        clear H
                        obtain ⟨Ao48, co48, eo48⟩ := Kd.R_slice HO139.out
                        subst eo48
                        go_wp2_with (first | ((with_reducible refine gate_dst (N := 57) rfl ?_); (try (refine gate_guard (by rfl) ?_; dsimp only)); refine Kd.R_lit (Kd.int .i64) _ 3 ?hg (N := 57) ?hd (xs := ([0, 1, 2] : List Int)) (inner := [.int .i64 0, .int .i64 1, .int .i64 2]) (ok := fun _ => True) (okp := fun _ => True) ?hr ?hp (fun _ hk => hk) trivial (Below.refl _ _) (Nat.le_refl _) (by simp) ?_; (case hd => rfl); (case hg => rfl); (case hr => first | (go_simp; done) | (go_simp; rfl)); (case hp => exact (Reps.one (show Kd.M (Kd.int .i64) _ _ _ 0 [.int .i64 0] from rfl) (Reps.one (show Kd.M (Kd.int .i64) _ _ _ 1 [.int .i64 1] from rfl) (Reps.one (show Kd.M (Kd.int .i64) _ _ _ 2 [.int .i64 2] from rfl) (Reps.none _ _))))); intro v166 w49 ho50 hb hg_ hnew_; clear hg_ hnew_; (first | rw [← Ny165.out] at ho50 | (simp only [Int.reduceToNat] at ho50; rw [← Ny165.out] at ho50)); have n0_ := Aside0.mk (Kd.R_elder' (by (with_reducible repeat (first | apply Kd.R_alloc | apply Kd.R_drewN | apply Kd.R_drew)); exact HO134.out) (Kd.R_base ho50) hb); have n1_ := Aside0.mk (Kd.R_elder' (by (with_reducible repeat (first | apply Kd.R_alloc | apply Kd.R_drewN | apply Kd.R_drew)); exact HO139.out) (Kd.R_base ho50) hb); have n2_ := Aside0.mk (Kd.R_elder' (by (with_reducible repeat (first | apply Kd.R_alloc | apply Kd.R_drewN | apply Kd.R_drew)); exact HO142.out) (Kd.R_base ho50) hb); have n3_ := Aside0.mk (Kd.R_elder' (by (with_reducible repeat (first | apply Kd.R_alloc | apply Kd.R_drewN | apply Kd.R_drew)); exact HO147.out) (Kd.R_base ho50) hb); have n4_ := Aside0.mk (Kd.R_elder' (by (with_reducible repeat (first | apply Kd.R_alloc | apply Kd.R_drewN | apply Kd.R_drew)); exact HO150.out) (Kd.R_base ho50) hb); have n5_ := Aside0.mk (Kd.R_elder' (by (with_reducible repeat (first | apply Kd.R_alloc | apply Kd.R_drewN | apply Kd.R_drew)); exact HO155.out) (Kd.R_base ho50) hb); have n6_ := Aside0.mk (Kd.R_elder' (by (with_reducible repeat (first | apply Kd.R_alloc | apply Kd.R_drewN | apply Kd.R_drew)); exact HO160.out) (Kd.R_base ho50) hb); have n7_ := Aside0.mk (Kd.R_elder' (by (with_reducible repeat (first | apply Kd.R_alloc | apply Kd.R_drewN | apply Kd.R_drew)); exact HO164.out) (Kd.R_base ho50) hb); have n8_ := Aside0.mk (Kd.R_lower (Kd.R_new' (Kd.R_new' (Kd.R_new' (Kd.R_new' (Kd.R_new' (Kd.R_new' (Kd.R_new' (Kd.R_new' ho50 (Kd.R_lt (by (with_reducible repeat (first | apply Kd.R_alloc | apply Kd.R_drewN | apply Kd.R_drew)); exact HO134.out))) (Kd.R_lt (by (with_reducible repeat (first | apply Kd.R_alloc | apply Kd.R_drewN | apply Kd.R_drew)); exact HO139.out))) (Kd.R_lt (by (with_reducible repeat (first | apply Kd.R_alloc | apply Kd.R_drewN | apply Kd.R_drew)); exact HO142.out))) (Kd.R_lt (by (with_reducible repeat (first | apply Kd.R_alloc | apply Kd.R_drewN | apply Kd.R_drew)); exact HO147.out))) (Kd.R_lt (by (with_reducible repeat (first | apply Kd.R_alloc | apply Kd.R_drewN | apply Kd.R_drew)); exact HO150.out))) (Kd.R_lt (by (with_reducible repeat (first | apply Kd.R_alloc | apply Kd.R_drewN | apply Kd.R_drew)); exact HO155.out))) (Kd.R_lt (by (with_reducible repeat (first | apply Kd.R_alloc | apply Kd.R_drewN | apply Kd.R_drew)); exact HO160.out))) (Kd.R_lt (by (with_reducible repeat (first | apply Kd.R_alloc | apply Kd.R_drewN | apply Kd.R_drew)); exact HO164.out))) (below_size (by repeat (first | (with_reducible first | exact HB.out | apply below_alloc | apply pw_below_drewN | apply below_drew1) | exact HB.out)))); have n9_ := Aside0.mk (below_step (by repeat (first | (with_reducible first | exact HB.out | apply below_alloc | apply pw_below_drewN | apply below_drew1) | exact HB.out)) hb); clear HO134; clear HO139; clear HO142; clear HO147; clear HO150; clear HO155; clear HO160; clear HO164; clear HB; have HO134 := n0_; have HO139 := n1_; have HO142 := n2_; have HO147 := n3_; have HO150 := n4_; have HO155 := n5_; have HO160 := n6_; have HO164 := n7_; have HO167 := n8_; have HB := n9_; clear n0_ n1_ n2_ n3_ n4_ n5_ n6_ n7_ n8_ n9_; clear hb ho50; obtain ⟨Ao51, co51, eo51⟩ := Kd.R_slice HO147.out; subst eo51; obtain ⟨Ao52, co52, eo52⟩ := Kd.R_slice HO167.out; subst eo52) | (go_at_call 23; (with_reducible refine (tickinglaw02_ints.calls k _ _ t144 _ _ y165 true _ ?side1 ?side2 ?side3 ?side4 A31.out).mono ?_); (case side1 => repeat (first | exact (Kd.R_reads' HO147.out).2.2 | (with_reducible refine Kd.C_alloc ?_ _) | (with_reducible refine Kd.C_drewN ?_ _) | (with_reducible refine Kd.C_drew ?_))); (case side2 => exact (Kd.R_reads' HO147.out).2.1); (case side3 => repeat (first | exact (Kd.R_reads' HO167.out).2.2 | (with_reducible refine Kd.C_alloc ?_ _) | (with_reducible refine Kd.C_drewN ?_ _) | (with_reducible refine Kd.C_drew ?_))); (case side4 => exact (Kd.R_reads' HO167.out).2.1); rintro e w' ⟨rfl, ⟨nd, rfl⟩⟩))
                        go_meet
                        case rel => exact ⟨_, (true), (by first | rfl | (simp; done) | (simp [*]; done)), H', ⟨by first | omega | exact Nat.le_refl _⟩, ⟨by repeat (first | (with_reducible first | exact HB.out | apply below_alloc | apply pw_below_drewN | apply below_drew1) | exact HB.out)⟩⟩
                    · rw [if_neg c36] at H
                      have c36b0 : (t156 == 4) = false := beq_eq_false_iff_ne.mpr c36
                      have c36b1 : (t156 != 4) = true := bne_iff_ne.mpr c36
                      have H' := Aside0.mk H
                      clear H
                      obtain ⟨Ao53, co53, eo53⟩ := Kd.R_slice HO139.out
                      subst eo53
                      go_wp2_with (first | ((with_reducible refine gate_dst (N := 57) rfl ?_); (try (refine gate_guard (by rfl) ?_; dsimp only)); refine Kd.R_lit (Kd.int .i64) _ 3 ?hg (N := 57) ?hd (xs := ([0, 1, 2] : List Int)) (inner := [.int .i64 0, .int .i64 1, .int .i64 2]) (ok := fun _ => True) (okp := fun _ => True) ?hr ?hp (fun _ hk => hk) trivial (Below.refl _ _) (Nat.le_refl _) (by simp) ?_; (case hd => rfl); (case hg => rfl); (case hr => first | (go_simp; done) | (go_simp; rfl)); (case hp => exact (Reps.one (show Kd.M (Kd.int .i64) _ _ _ 0 [.int .i64 0] from rfl) (Reps.one (show Kd.M (Kd.int .i64) _ _ _ 1 [.int .i64 1] from rfl) (Reps.one (show Kd.M (Kd.int .i64) _ _ _ 2 [.int .i64 2] from rfl) (Reps.none _ _))))); intro v166 w54 ho55 hb hg_ hnew_; clear hg_ hnew_; (first | rw [← Ny165.out] at ho55 | (simp only [Int.reduceToNat] at ho55; rw [← Ny165.out] at ho55)); have n0_ := Aside0.mk (Kd.R_elder' (by (with_reducible repeat (first | apply Kd.R_alloc | apply Kd.R_drewN | apply Kd.R_drew)); exact HO134.out) (Kd.R_base ho55) hb); have n1_ := Aside0.mk (Kd.R_elder' (by (with_reducible repeat (first | apply Kd.R_alloc | apply Kd.R_drewN | apply Kd.R_drew)); exact HO139.out) (Kd.R_base ho55) hb); have n2_ := Aside0.mk (Kd.R_elder' (by (with_reducible repeat (first | apply Kd.R_alloc | apply Kd.R_drewN | apply Kd.R_drew)); exact HO142.out) (Kd.R_base ho55) hb); have n3_ := Aside0.mk (Kd.R_elder' (by (with_reducible repeat (first | apply Kd.R_alloc | apply Kd.R_drewN | apply Kd.R_drew)); exact HO147.out) (Kd.R_base ho55) hb); have n4_ := Aside0.mk (Kd.R_elder' (by (with_reducible repeat (first | apply Kd.R_alloc | apply Kd.R_drewN | apply Kd.R_drew)); exact HO150.out) (Kd.R_base ho55) hb); have n5_ := Aside0.mk (Kd.R_elder' (by (with_reducible repeat (first | apply Kd.R_alloc | apply Kd.R_drewN | apply Kd.R_drew)); exact HO155.out) (Kd.R_base ho55) hb); have n6_ := Aside0.mk (Kd.R_elder' (by (with_reducible repeat (first | apply Kd.R_alloc | apply Kd.R_drewN | apply Kd.R_drew)); exact HO160.out) (Kd.R_base ho55) hb); have n7_ := Aside0.mk (Kd.R_elder' (by (with_reducible repeat (first | apply Kd.R_alloc | apply Kd.R_drewN | apply Kd.R_drew)); exact HO164.out) (Kd.R_base ho55) hb); have n8_ := Aside0.mk (Kd.R_lower (Kd.R_new' (Kd.R_new' (Kd.R_new' (Kd.R_new' (Kd.R_new' (Kd.R_new' (Kd.R_new' (Kd.R_new' ho55 (Kd.R_lt (by (with_reducible repeat (first | apply Kd.R_alloc | apply Kd.R_drewN | apply Kd.R_drew)); exact HO134.out))) (Kd.R_lt (by (with_reducible repeat (first | apply Kd.R_alloc | apply Kd.R_drewN | apply Kd.R_drew)); exact HO139.out))) (Kd.R_lt (by (with_reducible repeat (first | apply Kd.R_alloc | apply Kd.R_drewN | apply Kd.R_drew)); exact HO142.out))) (Kd.R_lt (by (with_reducible repeat (first | apply Kd.R_alloc | apply Kd.R_drewN | apply Kd.R_drew)); exact HO147.out))) (Kd.R_lt (by (with_reducible repeat (first | apply Kd.R_alloc | apply Kd.R_drewN | apply Kd.R_drew)); exact HO150.out))) (Kd.R_lt (by (with_reducible repeat (first | apply Kd.R_alloc | apply Kd.R_drewN | apply Kd.R_drew)); exact HO155.out))) (Kd.R_lt (by (with_reducible repeat (first | apply Kd.R_alloc | apply Kd.R_drewN | apply Kd.R_drew)); exact HO160.out))) (Kd.R_lt (by (with_reducible repeat (first | apply Kd.R_alloc | apply Kd.R_drewN | apply Kd.R_drew)); exact HO164.out))) (below_size (by repeat (first | (with_reducible first | exact HB.out | apply below_alloc | apply pw_below_drewN | apply below_drew1) | exact HB.out)))); have n9_ := Aside0.mk (below_step (by repeat (first | (with_reducible first | exact HB.out | apply below_alloc | apply pw_below_drewN | apply below_drew1) | exact HB.out)) hb); clear HO134; clear HO139; clear HO142; clear HO147; clear HO150; clear HO155; clear HO160; clear HO164; clear HB; have HO134 := n0_; have HO139 := n1_; have HO142 := n2_; have HO147 := n3_; have HO150 := n4_; have HO155 := n5_; have HO160 := n6_; have HO164 := n7_; have HO167 := n8_; have HB := n9_; clear n0_ n1_ n2_ n3_ n4_ n5_ n6_ n7_ n8_ n9_; clear hb ho55; obtain ⟨Ao56, co56, eo56⟩ := Kd.R_slice HO147.out; subst eo56; obtain ⟨Ao57, co57, eo57⟩ := Kd.R_slice HO167.out; subst eo57) | (go_at_call 23; (with_reducible refine (tickinglaw02_ints.calls k _ _ t144 _ _ y165 true _ ?side1 ?side2 ?side3 ?side4 A31.out).mono ?_); (case side1 => repeat (first | exact (Kd.R_reads' HO147.out).2.2 | (with_reducible refine Kd.C_alloc ?_ _) | (with_reducible refine Kd.C_drewN ?_ _) | (with_reducible refine Kd.C_drew ?_))); (case side2 => exact (Kd.R_reads' HO147.out).2.1); (case side3 => repeat (first | exact (Kd.R_reads' HO167.out).2.2 | (with_reducible refine Kd.C_alloc ?_ _) | (with_reducible refine Kd.C_drewN ?_ _) | (with_reducible refine Kd.C_drew ?_))); (case side4 => exact (Kd.R_reads' HO167.out).2.1); rintro e w' ⟨rfl, ⟨nd, rfl⟩⟩))
                      go_meet
                      case rel => exact ⟨_, (true), (by first | rfl | (simp; done) | (simp [*]; done)), H', ⟨by first | omega | exact Nat.le_refl _⟩, ⟨by repeat (first | (with_reducible first | exact HB.out | apply below_alloc | apply pw_below_drewN | apply below_drew1) | exact HB.out)⟩⟩
                  · rw [if_neg c35] at H
                    have c35b0 : (t157 == 0) = false := beq_eq_false_iff_ne.mpr c35
                    have c35b1 : (t157 != 0) = true := bne_iff_ne.mpr c35
                    have H' := Aside0.mk H
                    clear H
                    obtain ⟨Ao58, co58, eo58⟩ := Kd.R_slice HO139.out
                    subst eo58
                    go_wp2_with (first | ((with_reducible refine gate_dst (N := 57) rfl ?_); (try (refine gate_guard (by rfl) ?_; dsimp only)); refine Kd.R_lit (Kd.int .i64) _ 3 ?hg (N := 57) ?hd (xs := ([0, 1, 2] : List Int)) (inner := [.int .i64 0, .int .i64 1, .int .i64 2]) (ok := fun _ => True) (okp := fun _ => True) ?hr ?hp (fun _ hk => hk) trivial (Below.refl _ _) (Nat.le_refl _) (by simp) ?_; (case hd => rfl); (case hg => rfl); (case hr => first | (go_simp; done) | (go_simp; rfl)); (case hp => exact (Reps.one (show Kd.M (Kd.int .i64) _ _ _ 0 [.int .i64 0] from rfl) (Reps.one (show Kd.M (Kd.int .i64) _ _ _ 1 [.int .i64 1] from rfl) (Reps.one (show Kd.M (Kd.int .i64) _ _ _ 2 [.int .i64 2] from rfl) (Reps.none _ _))))); intro v166 w59 ho60 hb hg_ hnew_; clear hg_ hnew_; (first | rw [← Ny165.out] at ho60 | (simp only [Int.reduceToNat] at ho60; rw [← Ny165.out] at ho60)); have n0_ := Aside0.mk (Kd.R_elder' (by (with_reducible repeat (first | apply Kd.R_alloc | apply Kd.R_drewN | apply Kd.R_drew)); exact HO134.out) (Kd.R_base ho60) hb); have n1_ := Aside0.mk (Kd.R_elder' (by (with_reducible repeat (first | apply Kd.R_alloc | apply Kd.R_drewN | apply Kd.R_drew)); exact HO139.out) (Kd.R_base ho60) hb); have n2_ := Aside0.mk (Kd.R_elder' (by (with_reducible repeat (first | apply Kd.R_alloc | apply Kd.R_drewN | apply Kd.R_drew)); exact HO142.out) (Kd.R_base ho60) hb); have n3_ := Aside0.mk (Kd.R_elder' (by (with_reducible repeat (first | apply Kd.R_alloc | apply Kd.R_drewN | apply Kd.R_drew)); exact HO147.out) (Kd.R_base ho60) hb); have n4_ := Aside0.mk (Kd.R_elder' (by (with_reducible repeat (first | apply Kd.R_alloc | apply Kd.R_drewN | apply Kd.R_drew)); exact HO150.out) (Kd.R_base ho60) hb); have n5_ := Aside0.mk (Kd.R_elder' (by (with_reducible repeat (first | apply Kd.R_alloc | apply Kd.R_drewN | apply Kd.R_drew)); exact HO155.out) (Kd.R_base ho60) hb); have n6_ := Aside0.mk (Kd.R_elder' (by (with_reducible repeat (first | apply Kd.R_alloc | apply Kd.R_drewN | apply Kd.R_drew)); exact HO160.out) (Kd.R_base ho60) hb); have n7_ := Aside0.mk (Kd.R_elder' (by (with_reducible repeat (first | apply Kd.R_alloc | apply Kd.R_drewN | apply Kd.R_drew)); exact HO164.out) (Kd.R_base ho60) hb); have n8_ := Aside0.mk (Kd.R_lower (Kd.R_new' (Kd.R_new' (Kd.R_new' (Kd.R_new' (Kd.R_new' (Kd.R_new' (Kd.R_new' (Kd.R_new' ho60 (Kd.R_lt (by (with_reducible repeat (first | apply Kd.R_alloc | apply Kd.R_drewN | apply Kd.R_drew)); exact HO134.out))) (Kd.R_lt (by (with_reducible repeat (first | apply Kd.R_alloc | apply Kd.R_drewN | apply Kd.R_drew)); exact HO139.out))) (Kd.R_lt (by (with_reducible repeat (first | apply Kd.R_alloc | apply Kd.R_drewN | apply Kd.R_drew)); exact HO142.out))) (Kd.R_lt (by (with_reducible repeat (first | apply Kd.R_alloc | apply Kd.R_drewN | apply Kd.R_drew)); exact HO147.out))) (Kd.R_lt (by (with_reducible repeat (first | apply Kd.R_alloc | apply Kd.R_drewN | apply Kd.R_drew)); exact HO150.out))) (Kd.R_lt (by (with_reducible repeat (first | apply Kd.R_alloc | apply Kd.R_drewN | apply Kd.R_drew)); exact HO155.out))) (Kd.R_lt (by (with_reducible repeat (first | apply Kd.R_alloc | apply Kd.R_drewN | apply Kd.R_drew)); exact HO160.out))) (Kd.R_lt (by (with_reducible repeat (first | apply Kd.R_alloc | apply Kd.R_drewN | apply Kd.R_drew)); exact HO164.out))) (below_size (by repeat (first | (with_reducible first | exact HB.out | apply below_alloc | apply pw_below_drewN | apply below_drew1) | exact HB.out)))); have n9_ := Aside0.mk (below_step (by repeat (first | (with_reducible first | exact HB.out | apply below_alloc | apply pw_below_drewN | apply below_drew1) | exact HB.out)) hb); clear HO134; clear HO139; clear HO142; clear HO147; clear HO150; clear HO155; clear HO160; clear HO164; clear HB; have HO134 := n0_; have HO139 := n1_; have HO142 := n2_; have HO147 := n3_; have HO150 := n4_; have HO155 := n5_; have HO160 := n6_; have HO164 := n7_; have HO167 := n8_; have HB := n9_; clear n0_ n1_ n2_ n3_ n4_ n5_ n6_ n7_ n8_ n9_; clear hb ho60; obtain ⟨Ao61, co61, eo61⟩ := Kd.R_slice HO147.out; subst eo61; obtain ⟨Ao62, co62, eo62⟩ := Kd.R_slice HO167.out; subst eo62) | (go_at_call 23; (with_reducible refine (tickinglaw02_ints.calls k _ _ t144 _ _ y165 true _ ?side1 ?side2 ?side3 ?side4 A31.out).mono ?_); (case side1 => repeat (first | exact (Kd.R_reads' HO147.out).2.2 | (with_reducible refine Kd.C_alloc ?_ _) | (with_reducible refine Kd.C_drewN ?_ _) | (with_reducible refine Kd.C_drew ?_))); (case side2 => exact (Kd.R_reads' HO147.out).2.1); (case side3 => repeat (first | exact (Kd.R_reads' HO167.out).2.2 | (with_reducible refine Kd.C_alloc ?_ _) | (with_reducible refine Kd.C_drewN ?_ _) | (with_reducible refine Kd.C_drew ?_))); (case side4 => exact (Kd.R_reads' HO167.out).2.1); rintro e w' ⟨rfl, ⟨nd, rfl⟩⟩))
                    go_meet
                    case rel => exact ⟨_, (true), (by first | rfl | (simp; done) | (simp [*]; done)), H', ⟨by first | omega | exact Nat.le_refl _⟩, ⟨by repeat (first | (with_reducible first | exact HB.out | apply below_alloc | apply pw_below_drewN | apply below_drew1) | exact HB.out)⟩⟩
                · rw [if_neg c34] at H
                  have c34b0 : (t151 == 3) = false := beq_eq_false_iff_ne.mpr c34
                  have c34b1 : (t151 != 3) = true := bne_iff_ne.mpr c34
                  have H' := Aside0.mk H
                  clear H
                  obtain ⟨Ao63, co63, eo63⟩ := Kd.R_slice HO139.out
                  subst eo63
                  go_wp2_with (first | ((with_reducible refine gate_dst (N := 57) rfl ?_); (try (refine gate_guard (by rfl) ?_; dsimp only)); refine Kd.R_lit (Kd.int .i64) _ 3 ?hg (N := 57) ?hd (xs := ([0, 1, 2] : List Int)) (inner := [.int .i64 0, .int .i64 1, .int .i64 2]) (ok := fun _ => True) (okp := fun _ => True) ?hr ?hp (fun _ hk => hk) trivial (Below.refl _ _) (Nat.le_refl _) (by simp) ?_; (case hd => rfl); (case hg => rfl); (case hr => first | (go_simp; done) | (go_simp; rfl)); (case hp => exact (Reps.one (show Kd.M (Kd.int .i64) _ _ _ 0 [.int .i64 0] from rfl) (Reps.one (show Kd.M (Kd.int .i64) _ _ _ 1 [.int .i64 1] from rfl) (Reps.one (show Kd.M (Kd.int .i64) _ _ _ 2 [.int .i64 2] from rfl) (Reps.none _ _))))); intro v166 w64 ho65 hb hg_ hnew_; clear hg_ hnew_; (first | rw [← Ny165.out] at ho65 | (simp only [Int.reduceToNat] at ho65; rw [← Ny165.out] at ho65)); have n0_ := Aside0.mk (Kd.R_elder' (by (with_reducible repeat (first | apply Kd.R_alloc | apply Kd.R_drewN | apply Kd.R_drew)); exact HO134.out) (Kd.R_base ho65) hb); have n1_ := Aside0.mk (Kd.R_elder' (by (with_reducible repeat (first | apply Kd.R_alloc | apply Kd.R_drewN | apply Kd.R_drew)); exact HO139.out) (Kd.R_base ho65) hb); have n2_ := Aside0.mk (Kd.R_elder' (by (with_reducible repeat (first | apply Kd.R_alloc | apply Kd.R_drewN | apply Kd.R_drew)); exact HO142.out) (Kd.R_base ho65) hb); have n3_ := Aside0.mk (Kd.R_elder' (by (with_reducible repeat (first | apply Kd.R_alloc | apply Kd.R_drewN | apply Kd.R_drew)); exact HO147.out) (Kd.R_base ho65) hb); have n4_ := Aside0.mk (Kd.R_elder' (by (with_reducible repeat (first | apply Kd.R_alloc | apply Kd.R_drewN | apply Kd.R_drew)); exact HO150.out) (Kd.R_base ho65) hb); have n5_ := Aside0.mk (Kd.R_elder' (by (with_reducible repeat (first | apply Kd.R_alloc | apply Kd.R_drewN | apply Kd.R_drew)); exact HO155.out) (Kd.R_base ho65) hb); have n6_ := Aside0.mk (Kd.R_elder' (by (with_reducible repeat (first | apply Kd.R_alloc | apply Kd.R_drewN | apply Kd.R_drew)); exact HO160.out) (Kd.R_base ho65) hb); have n7_ := Aside0.mk (Kd.R_elder' (by (with_reducible repeat (first | apply Kd.R_alloc | apply Kd.R_drewN | apply Kd.R_drew)); exact HO164.out) (Kd.R_base ho65) hb); have n8_ := Aside0.mk (Kd.R_lower (Kd.R_new' (Kd.R_new' (Kd.R_new' (Kd.R_new' (Kd.R_new' (Kd.R_new' (Kd.R_new' (Kd.R_new' ho65 (Kd.R_lt (by (with_reducible repeat (first | apply Kd.R_alloc | apply Kd.R_drewN | apply Kd.R_drew)); exact HO134.out))) (Kd.R_lt (by (with_reducible repeat (first | apply Kd.R_alloc | apply Kd.R_drewN | apply Kd.R_drew)); exact HO139.out))) (Kd.R_lt (by (with_reducible repeat (first | apply Kd.R_alloc | apply Kd.R_drewN | apply Kd.R_drew)); exact HO142.out))) (Kd.R_lt (by (with_reducible repeat (first | apply Kd.R_alloc | apply Kd.R_drewN | apply Kd.R_drew)); exact HO147.out))) (Kd.R_lt (by (with_reducible repeat (first | apply Kd.R_alloc | apply Kd.R_drewN | apply Kd.R_drew)); exact HO150.out))) (Kd.R_lt (by (with_reducible repeat (first | apply Kd.R_alloc | apply Kd.R_drewN | apply Kd.R_drew)); exact HO155.out))) (Kd.R_lt (by (with_reducible repeat (first | apply Kd.R_alloc | apply Kd.R_drewN | apply Kd.R_drew)); exact HO160.out))) (Kd.R_lt (by (with_reducible repeat (first | apply Kd.R_alloc | apply Kd.R_drewN | apply Kd.R_drew)); exact HO164.out))) (below_size (by repeat (first | (with_reducible first | exact HB.out | apply below_alloc | apply pw_below_drewN | apply below_drew1) | exact HB.out)))); have n9_ := Aside0.mk (below_step (by repeat (first | (with_reducible first | exact HB.out | apply below_alloc | apply pw_below_drewN | apply below_drew1) | exact HB.out)) hb); clear HO134; clear HO139; clear HO142; clear HO147; clear HO150; clear HO155; clear HO160; clear HO164; clear HB; have HO134 := n0_; have HO139 := n1_; have HO142 := n2_; have HO147 := n3_; have HO150 := n4_; have HO155 := n5_; have HO160 := n6_; have HO164 := n7_; have HO167 := n8_; have HB := n9_; clear n0_ n1_ n2_ n3_ n4_ n5_ n6_ n7_ n8_ n9_; clear hb ho65; obtain ⟨Ao66, co66, eo66⟩ := Kd.R_slice HO147.out; subst eo66; obtain ⟨Ao67, co67, eo67⟩ := Kd.R_slice HO167.out; subst eo67) | (go_at_call 23; (with_reducible refine (tickinglaw02_ints.calls k _ _ t144 _ _ y165 true _ ?side1 ?side2 ?side3 ?side4 A31.out).mono ?_); (case side1 => repeat (first | exact (Kd.R_reads' HO147.out).2.2 | (with_reducible refine Kd.C_alloc ?_ _) | (with_reducible refine Kd.C_drewN ?_ _) | (with_reducible refine Kd.C_drew ?_))); (case side2 => exact (Kd.R_reads' HO147.out).2.1); (case side3 => repeat (first | exact (Kd.R_reads' HO167.out).2.2 | (with_reducible refine Kd.C_alloc ?_ _) | (with_reducible refine Kd.C_drewN ?_ _) | (with_reducible refine Kd.C_drew ?_))); (case side4 => exact (Kd.R_reads' HO167.out).2.1); rintro e w' ⟨rfl, ⟨nd, rfl⟩⟩))
                  go_meet
                  case rel => exact ⟨_, (true), (by first | rfl | (simp; done) | (simp [*]; done)), H', ⟨by first | omega | exact Nat.le_refl _⟩, ⟨by repeat (first | (with_reducible first | exact HB.out | apply below_alloc | apply pw_below_drewN | apply below_drew1) | exact HB.out)⟩⟩
              · rw [if_neg c33] at H
                have c33b0 : (t152 == 0) = false := beq_eq_false_iff_ne.mpr c33
                have c33b1 : (t152 != 0) = true := bne_iff_ne.mpr c33
                have H' := Aside0.mk H
                clear H
                obtain ⟨Ao68, co68, eo68⟩ := Kd.R_slice HO139.out
                subst eo68
                go_wp2_with (first | ((with_reducible refine gate_dst (N := 57) rfl ?_); (try (refine gate_guard (by rfl) ?_; dsimp only)); refine Kd.R_lit (Kd.int .i64) _ 3 ?hg (N := 57) ?hd (xs := ([0, 1, 2] : List Int)) (inner := [.int .i64 0, .int .i64 1, .int .i64 2]) (ok := fun _ => True) (okp := fun _ => True) ?hr ?hp (fun _ hk => hk) trivial (Below.refl _ _) (Nat.le_refl _) (by simp) ?_; (case hd => rfl); (case hg => rfl); (case hr => first | (go_simp; done) | (go_simp; rfl)); (case hp => exact (Reps.one (show Kd.M (Kd.int .i64) _ _ _ 0 [.int .i64 0] from rfl) (Reps.one (show Kd.M (Kd.int .i64) _ _ _ 1 [.int .i64 1] from rfl) (Reps.one (show Kd.M (Kd.int .i64) _ _ _ 2 [.int .i64 2] from rfl) (Reps.none _ _))))); intro v166 w69 ho70 hb hg_ hnew_; clear hg_ hnew_; (first | rw [← Ny165.out] at ho70 | (simp only [Int.reduceToNat] at ho70; rw [← Ny165.out] at ho70)); have n0_ := Aside0.mk (Kd.R_elder' (by (with_reducible repeat (first | apply Kd.R_alloc | apply Kd.R_drewN | apply Kd.R_drew)); exact HO134.out) (Kd.R_base ho70) hb); have n1_ := Aside0.mk (Kd.R_elder' (by (with_reducible repeat (first | apply Kd.R_alloc | apply Kd.R_drewN | apply Kd.R_drew)); exact HO139.out) (Kd.R_base ho70) hb); have n2_ := Aside0.mk (Kd.R_elder' (by (with_reducible repeat (first | apply Kd.R_alloc | apply Kd.R_drewN | apply Kd.R_drew)); exact HO142.out) (Kd.R_base ho70) hb); have n3_ := Aside0.mk (Kd.R_elder' (by (with_reducible repeat (first | apply Kd.R_alloc | apply Kd.R_drewN | apply Kd.R_drew)); exact HO147.out) (Kd.R_base ho70) hb); have n4_ := Aside0.mk (Kd.R_elder' (by (with_reducible repeat (first | apply Kd.R_alloc | apply Kd.R_drewN | apply Kd.R_drew)); exact HO150.out) (Kd.R_base ho70) hb); have n5_ := Aside0.mk (Kd.R_elder' (by (with_reducible repeat (first | apply Kd.R_alloc | apply Kd.R_drewN | apply Kd.R_drew)); exact HO155.out) (Kd.R_base ho70) hb); have n6_ := Aside0.mk (Kd.R_elder' (by (with_reducible repeat (first | apply Kd.R_alloc | apply Kd.R_drewN | apply Kd.R_drew)); exact HO160.out) (Kd.R_base ho70) hb); have n7_ := Aside0.mk (Kd.R_elder' (by (with_reducible repeat (first | apply Kd.R_alloc | apply Kd.R_drewN | apply Kd.R_drew)); exact HO164.out) (Kd.R_base ho70) hb); have n8_ := Aside0.mk (Kd.R_lower (Kd.R_new' (Kd.R_new' (Kd.R_new' (Kd.R_new' (Kd.R_new' (Kd.R_new' (Kd.R_new' (Kd.R_new' ho70 (Kd.R_lt (by (with_reducible repeat (first | apply Kd.R_alloc | apply Kd.R_drewN | apply Kd.R_drew)); exact HO134.out))) (Kd.R_lt (by (with_reducible repeat (first | apply Kd.R_alloc | apply Kd.R_drewN | apply Kd.R_drew)); exact HO139.out))) (Kd.R_lt (by (with_reducible repeat (first | apply Kd.R_alloc | apply Kd.R_drewN | apply Kd.R_drew)); exact HO142.out))) (Kd.R_lt (by (with_reducible repeat (first | apply Kd.R_alloc | apply Kd.R_drewN | apply Kd.R_drew)); exact HO147.out))) (Kd.R_lt (by (with_reducible repeat (first | apply Kd.R_alloc | apply Kd.R_drewN | apply Kd.R_drew)); exact HO150.out))) (Kd.R_lt (by (with_reducible repeat (first | apply Kd.R_alloc | apply Kd.R_drewN | apply Kd.R_drew)); exact HO155.out))) (Kd.R_lt (by (with_reducible repeat (first | apply Kd.R_alloc | apply Kd.R_drewN | apply Kd.R_drew)); exact HO160.out))) (Kd.R_lt (by (with_reducible repeat (first | apply Kd.R_alloc | apply Kd.R_drewN | apply Kd.R_drew)); exact HO164.out))) (below_size (by repeat (first | (with_reducible first | exact HB.out | apply below_alloc | apply pw_below_drewN | apply below_drew1) | exact HB.out)))); have n9_ := Aside0.mk (below_step (by repeat (first | (with_reducible first | exact HB.out | apply below_alloc | apply pw_below_drewN | apply below_drew1) | exact HB.out)) hb); clear HO134; clear HO139; clear HO142; clear HO147; clear HO150; clear HO155; clear HO160; clear HO164; clear HB; have HO134 := n0_; have HO139 := n1_; have HO142 := n2_; have HO147 := n3_; have HO150 := n4_; have HO155 := n5_; have HO160 := n6_; have HO164 := n7_; have HO167 := n8_; have HB := n9_; clear n0_ n1_ n2_ n3_ n4_ n5_ n6_ n7_ n8_ n9_; clear hb ho70; obtain ⟨Ao71, co71, eo71⟩ := Kd.R_slice HO147.out; subst eo71; obtain ⟨Ao72, co72, eo72⟩ := Kd.R_slice HO167.out; subst eo72) | (go_at_call 23; (with_reducible refine (tickinglaw02_ints.calls k _ _ t144 _ _ y165 true _ ?side1 ?side2 ?side3 ?side4 A31.out).mono ?_); (case side1 => repeat (first | exact (Kd.R_reads' HO147.out).2.2 | (with_reducible refine Kd.C_alloc ?_ _) | (with_reducible refine Kd.C_drewN ?_ _) | (with_reducible refine Kd.C_drew ?_))); (case side2 => exact (Kd.R_reads' HO147.out).2.1); (case side3 => repeat (first | exact (Kd.R_reads' HO167.out).2.2 | (with_reducible refine Kd.C_alloc ?_ _) | (with_reducible refine Kd.C_drewN ?_ _) | (with_reducible refine Kd.C_drew ?_))); (case side4 => exact (Kd.R_reads' HO167.out).2.1); rintro e w' ⟨rfl, ⟨nd, rfl⟩⟩))
                go_meet
                case rel => exact ⟨_, (true), (by first | rfl | (simp; done) | (simp [*]; done)), H', ⟨by first | omega | exact Nat.le_refl _⟩, ⟨by repeat (first | (with_reducible first | exact HB.out | apply below_alloc | apply pw_below_drewN | apply below_drew1) | exact HB.out)⟩⟩
            · replace c32 := Bool.eq_false_iff.mpr c32
              subst c32
              have H1 : (tickinglaw02_awake.j0 k true) = some r := by rw [if_neg (show ¬ (false = true) by decide)] at H; exact H
              clear H
              have H := H1
              clear H1
              have H' := Aside0.mk H
              clear H
              obtain ⟨Ao73, co73, eo73⟩ := Kd.R_slice HO139.out
              subst eo73
              go_wp2_with (first | ((with_reducible refine gate_dst (N := 57) rfl ?_); (try (refine gate_guard (by rfl) ?_; dsimp only)); refine Kd.R_lit (Kd.int .i64) _ 3 ?hg (N := 57) ?hd (xs := ([0, 1, 2] : List Int)) (inner := [.int .i64 0, .int .i64 1, .int .i64 2]) (ok := fun _ => True) (okp := fun _ => True) ?hr ?hp (fun _ hk => hk) trivial (Below.refl _ _) (Nat.le_refl _) (by simp) ?_; (case hd => rfl); (case hg => rfl); (case hr => first | (go_simp; done) | (go_simp; rfl)); (case hp => exact (Reps.one (show Kd.M (Kd.int .i64) _ _ _ 0 [.int .i64 0] from rfl) (Reps.one (show Kd.M (Kd.int .i64) _ _ _ 1 [.int .i64 1] from rfl) (Reps.one (show Kd.M (Kd.int .i64) _ _ _ 2 [.int .i64 2] from rfl) (Reps.none _ _))))); intro v166 w74 ho75 hb hg_ hnew_; clear hg_ hnew_; (first | rw [← Ny165.out] at ho75 | (simp only [Int.reduceToNat] at ho75; rw [← Ny165.out] at ho75)); have n0_ := Aside0.mk (Kd.R_elder' (by (with_reducible repeat (first | apply Kd.R_alloc | apply Kd.R_drewN | apply Kd.R_drew)); exact HO134.out) (Kd.R_base ho75) hb); have n1_ := Aside0.mk (Kd.R_elder' (by (with_reducible repeat (first | apply Kd.R_alloc | apply Kd.R_drewN | apply Kd.R_drew)); exact HO139.out) (Kd.R_base ho75) hb); have n2_ := Aside0.mk (Kd.R_elder' (by (with_reducible repeat (first | apply Kd.R_alloc | apply Kd.R_drewN | apply Kd.R_drew)); exact HO142.out) (Kd.R_base ho75) hb); have n3_ := Aside0.mk (Kd.R_elder' (by (with_reducible repeat (first | apply Kd.R_alloc | apply Kd.R_drewN | apply Kd.R_drew)); exact HO147.out) (Kd.R_base ho75) hb); have n4_ := Aside0.mk (Kd.R_elder' (by (with_reducible repeat (first | apply Kd.R_alloc | apply Kd.R_drewN | apply Kd.R_drew)); exact HO150.out) (Kd.R_base ho75) hb); have n5_ := Aside0.mk (Kd.R_elder' (by (with_reducible repeat (first | apply Kd.R_alloc | apply Kd.R_drewN | apply Kd.R_drew)); exact HO155.out) (Kd.R_base ho75) hb); have n6_ := Aside0.mk (Kd.R_elder' (by (with_reducible repeat (first | apply Kd.R_alloc | apply Kd.R_drewN | apply Kd.R_drew)); exact HO160.out) (Kd.R_base ho75) hb); have n7_ := Aside0.mk (Kd.R_elder' (by (with_reducible repeat (first | apply Kd.R_alloc | apply Kd.R_drewN | apply Kd.R_drew)); exact HO164.out) (Kd.R_base ho75) hb); have n8_ := Aside0.mk (Kd.R_lower (Kd.R_new' (Kd.R_new' (Kd.R_new' (Kd.R_new' (Kd.R_new' (Kd.R_new' (Kd.R_new' (Kd.R_new' ho75 (Kd.R_lt (by (with_reducible repeat (first | apply Kd.R_alloc | apply Kd.R_drewN | apply Kd.R_drew)); exact HO134.out))) (Kd.R_lt (by (with_reducible repeat (first | apply Kd.R_alloc | apply Kd.R_drewN | apply Kd.R_drew)); exact HO139.out))) (Kd.R_lt (by (with_reducible repeat (first | apply Kd.R_alloc | apply Kd.R_drewN | apply Kd.R_drew)); exact HO142.out))) (Kd.R_lt (by (with_reducible repeat (first | apply Kd.R_alloc | apply Kd.R_drewN | apply Kd.R_drew)); exact HO147.out))) (Kd.R_lt (by (with_reducible repeat (first | apply Kd.R_alloc | apply Kd.R_drewN | apply Kd.R_drew)); exact HO150.out))) (Kd.R_lt (by (with_reducible repeat (first | apply Kd.R_alloc | apply Kd.R_drewN | apply Kd.R_drew)); exact HO155.out))) (Kd.R_lt (by (with_reducible repeat (first | apply Kd.R_alloc | apply Kd.R_drewN | apply Kd.R_drew)); exact HO160.out))) (Kd.R_lt (by (with_reducible repeat (first | apply Kd.R_alloc | apply Kd.R_drewN | apply Kd.R_drew)); exact HO164.out))) (below_size (by repeat (first | (with_reducible first | exact HB.out | apply below_alloc | apply pw_below_drewN | apply below_drew1) | exact HB.out)))); have n9_ := Aside0.mk (below_step (by repeat (first | (with_reducible first | exact HB.out | apply below_alloc | apply pw_below_drewN | apply below_drew1) | exact HB.out)) hb); clear HO134; clear HO139; clear HO142; clear HO147; clear HO150; clear HO155; clear HO160; clear HO164; clear HB; have HO134 := n0_; have HO139 := n1_; have HO142 := n2_; have HO147 := n3_; have HO150 := n4_; have HO155 := n5_; have HO160 := n6_; have HO164 := n7_; have HO167 := n8_; have HB := n9_; clear n0_ n1_ n2_ n3_ n4_ n5_ n6_ n7_ n8_ n9_; clear hb ho75; obtain ⟨Ao76, co76, eo76⟩ := Kd.R_slice HO147.out; subst eo76; obtain ⟨Ao77, co77, eo77⟩ := Kd.R_slice HO167.out; subst eo77) | (go_at_call 23; (with_reducible refine (tickinglaw02_ints.calls k _ _ t144 _ _ y165 false _ ?side1 ?side2 ?side3 ?side4 A31.out).mono ?_); (case side1 => repeat (first | exact (Kd.R_reads' HO147.out).2.2 | (with_reducible refine Kd.C_alloc ?_ _) | (with_reducible refine Kd.C_drewN ?_ _) | (with_reducible refine Kd.C_drew ?_))); (case side2 => exact (Kd.R_reads' HO147.out).2.1); (case side3 => repeat (first | exact (Kd.R_reads' HO167.out).2.2 | (with_reducible refine Kd.C_alloc ?_ _) | (with_reducible refine Kd.C_drewN ?_ _) | (with_reducible refine Kd.C_drew ?_))); (case side4 => exact (Kd.R_reads' HO167.out).2.1); rintro e w' ⟨rfl, ⟨nd, rfl⟩⟩))
              go_meet
              case rel => exact ⟨_, (true), (by first | rfl | (simp; done) | (simp [*]; done)), H', ⟨by first | omega | exact Nat.le_refl _⟩, ⟨by repeat (first | (with_reducible first | exact HB.out | apply below_alloc | apply pw_below_drewN | apply below_drew1) | exact HB.out)⟩⟩
          · rw [if_neg c30] at H
            have c30b0 : (t145 == 0) = false := beq_eq_false_iff_ne.mpr c30
            have c30b1 : (t145 != 0) = true := bne_iff_ne.mpr c30
            have H' := Aside0.mk H
            clear H
            obtain ⟨Ao78, co78, eo78⟩ := Kd.R_slice HO139.out
            subst eo78
            go_wp2
            go_meet
            case rel => exact ⟨_, (true), (by first | rfl | (simp; done) | (simp [*]; done)), H', ⟨by first | omega | exact Nat.le_refl _⟩, ⟨by repeat (first | (with_reducible first | exact HB.out | apply below_alloc | apply pw_below_drewN | apply below_drew1) | exact HB.out)⟩⟩
        · rw [if_neg c29] at H
          have c29b0 : ((t136.length : Int) == 0) = false := beq_eq_false_iff_ne.mpr c29
          have c29b1 : ((t136.length : Int) != 0) = true := bne_iff_ne.mpr c29
          have c29b2 : ¬ (t136 = []) := fun h_ => c29 (by rw [h_]; rfl)
          have H' := Aside0.mk H
          clear H
          obtain ⟨Ao79, co79, eo79⟩ := Kd.R_slice HO139.out
          subst eo79
          go_wp2
          go_meet
          case rel => exact ⟨_, (true), (by first | rfl | (simp; done) | (simp [*]; done)), H', ⟨by first | omega | exact Nat.le_refl _⟩, ⟨by repeat (first | (with_reducible first | exact HB.out | apply below_alloc | apply pw_below_drewN | apply below_drew1) | exact HB.out)⟩⟩
      · rw [if_neg c28] at H
        have c28b0 : (t135.toList == ([105, 105, 111, 111, 105, 111] : List UInt8)) = false := beq_eq_false_iff_ne.mpr c28
        have c28b1 : (t135.toList != ([105, 105, 111, 111, 105, 111] : List UInt8)) = true := bne_iff_ne.mpr c28
        have H' := Aside0.mk H
        clear H
        go_wp2
        go_meet
        case rel => exact ⟨_, (true), (by first | rfl | (simp; done) | (simp [*]; done)), H', ⟨by first | omega | exact Nat.le_refl _⟩, ⟨by repeat (first | (with_reducible first | exact HB.out | apply below_alloc | apply pw_below_drewN | apply below_drew1) | exact HB.out)⟩⟩
    · rw [if_neg c27] at H
      have c27b0 : (t137 == 0) = false := beq_eq_false_iff_ne.mpr c27
      have c27b1 : (t137 != 0) = true := bne_iff_ne.mpr c27
      (first | rw [c27b0] | (simp only [i64_w, i32_w]; rw [c27b0]) | skip)
      have H' := Aside0.mk H
      clear H
      go_wp2
      go_meet
      case rel => exact ⟨_, (true), (by first | rfl | (simp; done) | (simp [*]; done)), H', ⟨by first | omega | exact Nat.le_refl _⟩, ⟨by repeat (first | (with_reducible first | exact HB.out | apply below_alloc | apply pw_below_drewN | apply below_drew1) | exact HB.out)⟩⟩
  case rest =>
    clear HC6
    try clear c1
    try clear c2
    try clear p2
    try clear c3
    try clear c19
    try clear c20
    try clear c22
    try clear c27
    try clear c27b0
    try clear c27b1
    try clear c28
    try clear c28b0
    try clear c28b1
    try clear c29
    try clear c29b0
    try clear c29b1
    try clear c29b2
    try clear c30
    try clear c30b0
    try clear c30b1
    try clear c32
    try clear c33
    try clear c33b0
    try clear c33b1
    try clear c34
    try clear c34b0
    try clear c34b1
    try clear c35
    try clear c35b0
    try clear c35b1
    try clear c36
    try clear c36b0
    try clear c36b1
    try clear c37
    try clear c37b0
    try clear c37b1
    obtain ⟨kq, x86_5, rfl, HA, HJ5, HB⟩ := hcut
    cases kq with
    | zero => exact absurd HA.out (by simp [tickinglaw02_awake.j0])
    | succ kj5 =>
      have H := HA.out
      clear HA
      simp only [tickinglaw02_awake.j0] at H
      by_cases c80 : x86_5 = true
      · subst c80
        have H1 : (some false) = some r := by rw [if_pos rfl] at H; exact H
        clear H
        have H := H1
        clear H1
        obtain rfl := Option.some.inj H
        go_wp2
        go_ret
        exact ⟨by first | rfl | (simp [errW_none, errW_some] <;> rfl) | (simp [*, errW_none, errW_some] <;> rfl), by repeat (first | (with_reducible first | exact HB.out | apply below_alloc | apply pw_below_drewN | apply below_drew1) | exact HB.out)⟩
      · replace c80 := Bool.eq_false_iff.mpr c80
        subst c80
        have H1 : (some true) = some r := by rw [if_neg (show ¬ (false = true) by decide)] at H; exact H
        clear H
        have H := H1
        clear H1
        obtain rfl := Option.some.inj H
        go_wp2
        go_ret
        exact ⟨by first | rfl | (simp [errW_none, errW_some] <;> rfl) | (simp [*, errW_none, errW_some] <;> rfl), by repeat (first | (with_reducible first | exact HB.out | apply below_alloc | apply pw_below_drewN | apply below_drew1) | exact HB.out)⟩

end Go.Proofs.Ytjbjongahnocdaa.S

namespace Go.Proofs.Ytjbjongahnocdaa.S
open Go.Proofs.Ytjbjongahnocdaa.Lib
open Go.Proofs.Ytjbjongahnocdaa.Defs
open Go.Maps (Keyed)
open Go.RowKit Go.Proofs.YtjbjongahnocdaaW.PrintWords Go.Proofs.YtjbjongahnocdaaW.PrintLast Go.Proofs.YtjbjongahnocdaaW.PrintMore
attribute [local go_sem] max2_int min2_int max_two min_two max_three min_three max_four min_four   -- for this text's walks alone
set_option linter.unusedVariables false
set_option linter.unusedSimpArgs false

/-! ### tickingref02_PlanSorts: function 40 -/
mutual
def tickingref02_PlanSorts.l0 : Nat → List Int → ByteArray → List Int → Int → Int → Int → Option (Bool)
  | 0, _, _, _, _, _, _ => none
  | k + 1, x0, x1, x5, x6, x7, x8 => if x8 < (x1.size : Int) then (if 0 ≤ x8 then (if (bt x1 x8) = 105 then (tickingref02_PlanSorts.j1 k x0 x1 x5 x6 x7 x8 (decide (x6 < (x0.length : Int)))) else (tickingref02_PlanSorts.j1 k x0 x1 x5 x6 x7 x8 false)) else (none)) else (some true)
def tickingref02_PlanSorts.j1 : Nat → List Int → ByteArray → List Int → Int → Int → Int → Bool → Option (Bool)
  | 0, _, _, _, _, _, _, _ => none
  | k + 1, x0, x1, x5, x6, x7, x8, x21 => if x21 = true then (if 0 ≤ x6 then (if x6 < (x0.length : Int) then (if x5.length < 17592186044416 then (tickingref02_PlanSorts.l0 k x0 x1 (x5 ++ [rd x0 x6]) (wrap64 (x6 + 1)) x7 (wrap64 (x8 + 1))) else (none)) else (none)) else (none)) else (if 0 ≤ x8 then (if x8 < (x1.size : Int) then (if (bt x1 x8) = 111 then (if (x5.length : Int) > 0 then (if 0 ≤ (wrap64 ((x5.length : Int) - 1)) then (if (wrap64 ((x5.length : Int) - 1)) < (x5.length : Int) then (if (rd x5 (wrap64 ((x5.length : Int) - 1))) = x7 then (if (wrap64 ((x5.length : Int) - 1)) ≤ (x5.length : Int) then (tickingref02_PlanSorts.l0 k x0 x1 (x5.take ((wrap64 ((x5.length : Int) - 1)) : Int).toNat) x6 (wrap64 (x7 + 1)) (wrap64 (x8 + 1))) else (none)) else (some false)) else (none)) else (none)) else (some false)) else (some false)) else (none)) else (none))
end
def tickingref02_PlanSorts.f (k : Nat) (l0 : List Int) (a1 : ByteArray) : Option (Bool) := if (a1.size : Int) = (wrap64 (2 * (l0.length : Int))) then (tickingref02_PlanSorts.l0 k l0 a1 ([] : List Int) 0 1 0) else (some false)
theorem tickingref02_PlanSorts.mono_l : ∀ k, (∀ y0 y1 y2 y3 y4 y5, LeO (tickingref02_PlanSorts.l0 k y0 y1 y2 y3 y4 y5) (tickingref02_PlanSorts.l0 (k + 1) y0 y1 y2 y3 y4 y5)) ∧ (∀ y0 y1 y2 y3 y4 y5 y6, LeO (tickingref02_PlanSorts.j1 k y0 y1 y2 y3 y4 y5 y6) (tickingref02_PlanSorts.j1 (k + 1) y0 y1 y2 y3 y4 y5 y6))
  | 0 => ⟨fun _ _ _ _ _ _ r h => by simp [tickingref02_PlanSorts.l0] at h, fun _ _ _ _ _ _ _ r h => by simp [tickingref02_PlanSorts.j1] at h⟩
  | k + 1 => by
    obtain ⟨ih0, ih1⟩ := tickingref02_PlanSorts.mono_l k
    refine ⟨?_, ?_⟩
    · intro y0 y1 y2 y3 y4 y5
      unfold tickingref02_PlanSorts.l0
      repeat' first
      | (with_reducible exact ih0 _ _ _ _ _ _)
      | (with_reducible exact ih1 _ _ _ _ _ _ _)
      | (with_reducible exact LeO.refl _)
      | (with_reducible exact LeO.none _)
      | (with_reducible refine LeO.ite ?_ ?_)
      | (with_reducible refine LeO.bind ?_ (fun _ => ?_))
      | exact ih0 _ _ _ _ _ _
      | exact ih1 _ _ _ _ _ _ _
      | exact LeO.none _
      | refine LeO.ite ?_ ?_
      | refine LeO.bind ?_ (fun _ => ?_)
    · intro y0 y1 y2 y3 y4 y5 y6
      unfold tickingref02_PlanSorts.j1
      repeat' first
      | (with_reducible exact ih0 _ _ _ _ _ _)
      | (with_reducible exact ih1 _ _ _ _ _ _ _)
      | (with_reducible exact LeO.refl _)
      | (with_reducible exact LeO.none _)
      | (with_reducible refine LeO.ite ?_ ?_)
      | (with_reducible refine LeO.bind ?_ (fun _ => ?_))
      | exact ih0 _ _ _ _ _ _
      | exact ih1 _ _ _ _ _ _ _
      | exact LeO.none _
      | refine LeO.ite ?_ ?_
      | refine LeO.bind ?_ (fun _ => ?_)
theorem tickingref02_PlanSorts.mono : ∀ a0 a1 k, LeO (tickingref02_PlanSorts.f k a0 a1) (tickingref02_PlanSorts.f (k + 1) a0 a1) := by
  intro a0 a1 k
  obtain ⟨ih0, ih1⟩ := tickingref02_PlanSorts.mono_l k
  unfold tickingref02_PlanSorts.f
  repeat' first
      | (with_reducible exact ih0 _ _ _ _ _ _)
      | (with_reducible exact ih1 _ _ _ _ _ _ _)
      | (with_reducible exact LeO.refl _)
      | (with_reducible exact LeO.none _)
      | (with_reducible refine LeO.ite ?_ ?_)
      | (with_reducible refine LeO.bind ?_ (fun _ => ?_))
      | exact ih0 _ _ _ _ _ _
      | exact ih1 _ _ _ _ _ _ _
      | exact LeO.none _
      | refine LeO.ite ?_ ?_
      | refine LeO.bind ?_ (fun _ => ?_)
set_option maxHeartbeats 8000000 in
set_option maxRecDepth 100000 in
theorem tickingref02_PlanSorts.calls (k : Nat) (A0 : Option Addr) (c0 : Nat) (l0 : List Int) (a1 : ByteArray) (r : Bool) (w : World) (hr0 : Kd.C (Kd.int .i64) w A0 l0.length l0) (hc0 : l0.length ≤ c0) (h : tickingref02_PlanSorts.f k l0 a1 = some r) :
    Calls Try.prog 40 #[.slice A0 l0.length c0, .string a1] w fun e w' => e = .returned (.bool r) ∧ Below w.heap.size w w' := by
  have HR0 := Aside0.mk hr0
  have HC0 := Aside0.mk hc0
  clear hr0 hc0
  have HB := Aside0.mk (Below.refl w.heap.size w)
  have H : (if (a1.size : Int) = (wrap64 (2 * (l0.length : Int))) then (tickingref02_PlanSorts.l0 k l0 a1 ([] : List Int) 0 1 0) else (some false)) = some r := h
  clear h
  by_cases c3 : (a1.size : Int) = (wrap64 (2 * (l0.length : Int)))
  · rw [if_pos c3] at H
    have c3b0 : ((a1.size : Int) == (wrap64 (2 * (l0.length : Int)))) = true := beq_iff_eq.mpr c3
    have c3b1 : ((a1.size : Int) != (wrap64 (2 * (l0.length : Int)))) = false := bne_eq_false_iff_eq.mpr c3
    clear c3
    have H' := Aside0.mk H
    clear H
    go_enter Try.func40, Try.ntmps40
    go_wp2
    go_loopg [5, 6, 7, 8] k (fun kq v5 v6 v7 v8 w' => ∃ (x5_1 : List Int) (x6_1 : Int) (x7_1 : Int) (x8_1 : Int), v6 = .int .i64 x6_1 ∧ v7 = .int .i64 x7_1 ∧ v8 = .int .i64 x8_1 ∧ Aside0 (tickingref02_PlanSorts.l0 kq l0 a1 x5_1 x6_1 x7_1 x8_1 = some r) ∧ Aside0 (kq ≤ k) ∧ Aside0 (Kd.R (Kd.int .i64) 3 w' w.heap.size (fun _ => True) v5 x5_1) ∧ Aside0 (Below w.heap.size w w'))
    case atStart => exact ⟨(([] : List Int)), (0), (1), (0), (by first | rfl | (simp; done) | (simp [*]; done)), (by first | rfl | (simp; done) | (simp [*]; done)), (by first | rfl | (simp; done) | (simp [*]; done)), H', ⟨Nat.le_refl _⟩, ⟨by first | exact Kd.R_nil _ _ _ _ _ | exact Kd.N_nil _ _ _ _ _ | exact Kd.V_nil _ _ _ _ _ | exact Kd.Q_nil _ _ _ _ _ | exact Kd.S_nil _ _ _ _ _⟩, ⟨by repeat (first | (with_reducible first | exact HB.out | apply below_alloc | apply pw_below_drewN | apply below_drew1) | exact HB.out)⟩⟩
    case round =>
      clear H'
      try clear p2
      try clear c3
      try clear c3b0
      try clear c3b1
      obtain ⟨x5_1, x6_1, x7_1, x8_1, rfl, rfl, rfl, HA, HK1, HO_5, HB⟩ := hrel
      cases gk with
      | zero => exact absurd HA.out (by simp [tickingref02_PlanSorts.l0])
      | succ k1 =>
        have H := HA.out
        clear HA
        simp only [tickingref02_PlanSorts.l0] at H
        by_cases c4 : x8_1 < (a1.size : Int)
        · rw [if_pos c4] at H
          have c4b0 : decide (x8_1 < (a1.size : Int)) = true := decide_eq_true c4
          clear c4
          have HC5 := Aside0.mk H
          clear H
          go_upto_region 9 with (fail)
          go_cut [21] (fun v21 wc => ∃ (kq : Nat) (x21_4 : Bool), v21 = .bool x21_4 ∧ Aside0 (tickingref02_PlanSorts.j1 kq l0 a1 x5_1 x6_1 x7_1 x8_1 x21_4 = some r) ∧ Aside0 (kq ≤ k1) ∧ Aside0 (Kd.R (Kd.int .i64) 3 wc w.heap.size (fun _ => True) u5 x5_1) ∧ Aside0 (Below w.heap.size w wc))
          case first =>
            have H := HC5.out
            clear HC5
            by_cases c6 : 0 ≤ x8_1
            · rw [if_pos c6] at H
              have c6b0 : decide (0 ≤ x8_1) = true := decide_eq_true c6
              clear c6
              (first | rw [c6b0] | (simp only [i64_w, i32_w]; rw [c6b0]) | skip)
              by_cases c8 : (bt a1 x8_1) = 105
              · rw [if_pos c8] at H
                have c8b0 : ((bt a1 x8_1) == 105) = true := beq_iff_eq.mpr c8
                have c8b1 : ((bt a1 x8_1) != 105) = false := bne_eq_false_iff_eq.mpr c8
                clear c8
                have H' := Aside0.mk H
                clear H
                have p7 : 0 ≤ (x8_1 : Int) := of_decide_eq_true (by first | (with_reducible assumption) | assumption)
                have q7 : x8_1 < (a1.size : Int) := of_decide_eq_true (by first | (with_reducible assumption) | assumption)
                have hx7 := bt_at a1 x8_1
                replace p7 := eq_true p7
                replace q7 := eq_true q7
                go_wp2
                go_meet
                case rel => exact ⟨_, (decide (x6_1 < (l0.length : Int))), (by first | rfl | (simp; done) | (simp [*]; done)), H', ⟨by have := HK1.out; first | omega | exact Nat.le_refl _⟩, ⟨by (with_reducible repeat (first | apply Kd.R_alloc | apply Kd.R_drewN | apply Kd.R_drew)); exact HO_5.out⟩, ⟨by repeat (first | (with_reducible first | exact HB.out | apply below_alloc | apply pw_below_drewN | apply below_drew1) | exact HB.out)⟩⟩
              · rw [if_neg c8] at H
                have c8b0 : ((bt a1 x8_1) == 105) = false := beq_eq_false_iff_ne.mpr c8
                have c8b1 : ((bt a1 x8_1) != 105) = true := bne_iff_ne.mpr c8
                have H' := Aside0.mk H
                clear H
                have p7 : 0 ≤ (x8_1 : Int) := of_decide_eq_true (by first | (with_reducible assumption) | assumption)
                have q7 : x8_1 < (a1.size : Int) := of_decide_eq_true (by first | (with_reducible assumption) | assumption)
                have hx7 := bt_at a1 x8_1
                replace p7 := eq_true p7
                replace q7 := eq_true q7
                go_wp2
                go_meet
                case rel => exact ⟨_, (false), (by first | rfl | (simp; done) | (simp [*]; done)), H', ⟨by have := HK1.out; first | omega | exact Nat.le_refl _⟩, ⟨by (with_reducible repeat (first | apply Kd.R_alloc | apply Kd.R_drewN | apply Kd.R_drew)); exact HO_5.out⟩, ⟨by repeat (first | (with_reducible first | exact HB.out | apply below_alloc | apply pw_below_drewN | apply below_drew1) | exact HB.out)⟩⟩
            · rw [if_neg c6] at H
              exact absurd H (by simp)
          case rest =>
            clear HC5
            try clear p2
            try clear c3
            try clear c3b0
            try clear c3b1
            try clear c4
            try clear c4b0
            try clear c6
            try clear c6b0
            try clear p6
            try clear p7
            try clear q7
            try clear hx7
            try clear c8
            try clear c8b0
            try clear c8b1
            try clear p2
            try clear p7
            try clear q7
            obtain ⟨kq, x21_4, rfl, HA, HJ4, HO_5, HB⟩ := hcut
            cases kq with
            | zero => exact absurd HA.out (by simp [tickingref02_PlanSorts.j1])
            | succ kj4 =>
              have H := HA.out
              clear HA
              simp only [tickingref02_PlanSorts.j1] at H
              by_cases c9 : x21_4 = true
              · subst c9
                have H1 : (if 0 ≤ x6_1 then (if x6_1 < (l0.length : Int) then (if x5_1.length < 17592186044416 then (tickingref02_PlanSorts.l0 kj4 l0 a1 (x5_1 ++ [rd l0 x6_1]) (wrap64 (x6_1 + 1)) x7_1 (wrap64 (x8_1 + 1))) else (none)) else (none)) else (none)) = some r := by rw [if_pos rfl] at H; exact H
                clear H
                have H := H1
                clear H1
                by_cases c10 : 0 ≤ x6_1
                · rw [if_pos c10] at H
                  have c10b0 : decide (0 ≤ x6_1) = true := decide_eq_true c10
                  clear c10
                  by_cases c11 : x6_1 < (l0.length : Int)
                  · rw [if_pos c11] at H
                    have c11b0 : decide (x6_1 < (l0.length : Int)) = true := decide_eq_true c11
                    clear c11
                    by_cases c12 : x5_1.length < 17592186044416
                    · rw [if_pos c12] at H
                      have LMc12 := Aside0.mk c12
                      clear c12
                      obtain ⟨y379, hy379⟩ : ∃ y_ : List Int, y_ = (x5_1 ++ [rd l0 x6_1]) := ⟨_, rfl⟩
                      replace H : (tickingref02_PlanSorts.l0 kj4 l0 a1 y379 (wrap64 (x6_1 + 1)) x7_1 (wrap64 (x8_1 + 1))) = some r := by first | (rw [hy379]; with_reducible exact H) | (have H2_ := (Option.bind_some _ _).symm.trans H; rw [hy379]; with_reducible exact H2_) | (have H2_ := (Option.bind_some _ _).symm.trans H; with_reducible exact H2_) | with_reducible exact H | (rw [hy379]; exact H) | exact H
                      have Ny379 := Aside0.mk hy379
                      clear hy379
                      have H' := Aside0.mk H
                      clear H
                      have p378 : 0 ≤ (x6_1 : Int) := of_decide_eq_true (by first | (with_reducible assumption) | assumption)
                      have q378 : x6_1 < (l0.length : Int) := of_decide_eq_true (by first | (with_reducible assumption) | assumption)
                      obtain ⟨ad378, e378, hx378_0⟩ := Kd.at_int HR0.out x6_1 p378 q378
                      cases e378
                      replace hx378_0 := (HB.out.cell (World.block_lt_of_cell? w _ hx378_0)).trans hx378_0
                      replace p378 := eq_true p378
                      replace q378 := eq_true q378
                      go_wp2_with (first | ((with_reducible refine gate_builtin (b := .append) (xs := #[.tmp 32, .tmp 37]) rfl ?_); (try (refine gate_guard (by rfl) ?_; dsimp only)); at_builtin; refine Kd.R_append (Kd.int .i64) (w0 := w) w.heap.size rfl (.tmp 32) (.tmp 37) 22 3 (.int .i64 0) 8 rfl Try.underlying22 info3 rfl (by decide) (by omega) u5 x5_1 (rd l0 x6_1) [.int .i64 (rd l0 x6_1)] (fun _ => True) (fun _ => False) rfl rfl ?aP (fun _ hk => hk.elim) ?aF ?aO ?aB ?aS ?aL ?_; (case aP => exact rfl); (case aB => exact (by repeat (first | (with_reducible first | exact HB.out | apply below_alloc | apply pw_below_drewN | apply below_drew1) | exact HB.out))); (case aF => exact (fun _ _ => trivial)); (case aO => exact (by (with_reducible repeat (first | apply Kd.R_alloc | apply Kd.R_drewN | apply Kd.R_drew)); exact HO_5.out)); (case aS => exact (below_size (by repeat (first | (with_reducible first | exact HB.out | apply below_alloc | apply pw_below_drewN | apply below_drew1) | exact HB.out)))); (case aL => have := LMc12.out; omega); intro v380 w13 ho hb hg hat; rw [← Ny379.out] at ho; have n0_ := Aside0.mk (hb); have n1_ := Aside0.mk (ho); clear HB; clear HO_5; have HB := n0_; have HO381 := n1_; clear n0_ n1_; clear ho hb hg hat))
                      go_roundg kj4
                      case measure => have := HK1.out; have := HJ4.out; omega
                      case rel => exact ⟨(y379), (wrap64 (x6_1 + 1)), (x7_1), (wrap64 (x8_1 + 1)), (by first | rfl | (simp; done) | (simp [*]; done)), (by first | rfl | (simp; done) | (simp [*]; done)), (by first | rfl | (simp; done) | (simp [*]; done)), H', ⟨by have := HK1.out; have := HJ4.out; omega⟩, ⟨by (with_reducible repeat (first | apply Kd.R_alloc | apply Kd.R_drewN | apply Kd.R_drew)); exact HO381.out⟩, ⟨by repeat (first | (with_reducible first | exact HB.out | apply below_alloc | apply pw_below_drewN | apply below_drew1) | exact HB.out)⟩⟩
                    · rw [if_neg c12] at H
                      exact absurd H (by simp)
                  · rw [if_neg c11] at H
                    exact absurd H (by simp)
                · rw [if_neg c10] at H
                  exact absurd H (by simp)
              · replace c9 := Bool.eq_false_iff.mpr c9
                subst c9
                have H1 : (if 0 ≤ x8_1 then (if x8_1 < (a1.size : Int) then (if (bt a1 x8_1) = 111 then (if (x5_1.length : Int) > 0 then (if 0 ≤ (wrap64 ((x5_1.length : Int) - 1)) then (if (wrap64 ((x5_1.length : Int) - 1)) < (x5_1.length : Int) then (if (rd x5_1 (wrap64 ((x5_1.length : Int) - 1))) = x7_1 then (if (wrap64 ((x5_1.length : Int) - 1)) ≤ (x5_1.length : Int) then (tickingref02_PlanSorts.l0 kj4 l0 a1 (x5_1.take ((wrap64 ((x5_1.length : Int) - 1)) : Int).toNat) x6_1 (wrap64 (x7_1 + 1)) (wrap64 (x8_1 + 1))) else (none)) else (some false)) else (none)) else (none)) else (some false)) else (some false)) else (none)) else (none)) = some r := by rw [if_neg (show ¬ (false = true) by decide)] at H; exact H
                clear H
                have H := H1
                clear H1
                by_cases c14 : 0 ≤ x8_1
                · rw [if_pos c14] at H
                  have c14b0 : decide (0 ≤ x8_1) = true := decide_eq_true c14
                  clear c14
                  by_cases c15 : x8_1 < (a1.size : Int)
                  · rw [if_pos c15] at H
                    have c15b0 : decide (x8_1 < (a1.size : Int)) = true := decide_eq_true c15
                    clear c15
                    by_cases c17 : (bt a1 x8_1) = 111
                    · rw [if_pos c17] at H
                      have c17b0 : ((bt a1 x8_1) == 111) = true := beq_iff_eq.mpr c17
                      have c17b1 : ((bt a1 x8_1) != 111) = false := bne_eq_false_iff_eq.mpr c17
                      clear c17
                      by_cases c18 : (x5_1.length : Int) > 0
                      · rw [if_pos c18] at H
                        have c18b0 : decide (0 < (x5_1.length : Int)) = true := decide_eq_true c18
                        have c18b1 : decide (0 < x5_1.length) = true := decide_eq_true (by omega)
                        clear c18
                        obtain ⟨ji19, hji19⟩ : ∃ j_ : Int, (wrap64 ((x5_1.length : Int) - 1)) = j_ := ⟨_, rfl⟩
                        replace H : (if 0 ≤ (ji19) then (if (ji19) < (x5_1.length : Int) then (if (rd x5_1 (ji19)) = x7_1 then (if (ji19) ≤ (x5_1.length : Int) then (tickingref02_PlanSorts.l0 kj4 l0 a1 (x5_1.take ((ji19) : Int).toNat) x6_1 (wrap64 (x7_1 + 1)) (wrap64 (x8_1 + 1))) else (none)) else (some false)) else (none)) else (none)) = some r := by first | (rw [hji19] at H; exact H) | (simp only [hji19] at H ⊢; exact H)
                        have hji19w : (IntKind.i64.wrap ((x5_1.length : Int) - 1)) = ji19 := (i64_w _).trans hji19
                        by_cases c20 : 0 ≤ (ji19)
                        · rw [if_pos c20] at H
                          have c20b0 : decide (0 ≤ (ji19)) = true := decide_eq_true c20
                          clear c20
                          by_cases c21 : (ji19) < (x5_1.length : Int)
                          · rw [if_pos c21] at H
                            have c21b0 : decide ((ji19) < (x5_1.length : Int)) = true := decide_eq_true c21
                            clear c21
                            by_cases c22 : (rd x5_1 (ji19)) = x7_1
                            · rw [if_pos c22] at H
                              have c22b0 : ((rd x5_1 (ji19)) == x7_1) = true := beq_iff_eq.mpr c22
                              have c22b1 : ((rd x5_1 (ji19)) != x7_1) = false := bne_eq_false_iff_eq.mpr c22
                              clear c22
                              by_cases c23 : (ji19) ≤ (x5_1.length : Int)
                              · rw [if_pos c23] at H
                                have c23b0 := eq_true c23
                                have c23b1 : decide ((ji19) ≤ (x5_1.length : Int)) = true := decide_eq_true c23
                                clear c23
                                obtain ⟨y383, hy383⟩ : ∃ y_ : List Int, y_ = (x5_1.take ((ji19) : Int).toNat) := ⟨_, rfl⟩
                                replace H : (tickingref02_PlanSorts.l0 kj4 l0 a1 y383 x6_1 (wrap64 (x7_1 + 1)) (wrap64 (x8_1 + 1))) = some r := by first | (rw [hy383]; with_reducible exact H) | (have H2_ := (Option.bind_some _ _).symm.trans H; rw [hy383]; with_reducible exact H2_) | (have H2_ := (Option.bind_some _ _).symm.trans H; with_reducible exact H2_) | with_reducible exact H | (rw [hy383]; exact H) | exact H
                                have Ny383 := Aside0.mk hy383
                                clear hy383
                                have H' := Aside0.mk H
                                clear H
                                have p16 : 0 ≤ (x8_1 : Int) := of_decide_eq_true (by first | (with_reducible assumption) | assumption)
                                have q16 : x8_1 < (a1.size : Int) := of_decide_eq_true (by first | (with_reducible assumption) | assumption)
                                have hx16 := bt_at a1 x8_1
                                replace p16 := eq_true p16
                                replace q16 := eq_true q16
                                obtain ⟨Ao24, co24, eo24⟩ := Kd.R_slice HO_5.out
                                subst eo24
                                have p382 : 0 ≤ ((ji19) : Int) := of_decide_eq_true (by first | (with_reducible assumption) | assumption)
                                have q382 : (ji19) < (x5_1.length : Int) := of_decide_eq_true (by first | (with_reducible assumption) | assumption)
                                obtain ⟨ad382, e382, hx382_0⟩ := Kd.at_int (Kd.R_reads' HO_5.out).2.2 (ji19) p382 q382
                                cases e382
                                replace p382 := eq_true p382
                                replace q382 := eq_true q382
                                have q25 : ((ji19) : Int) ≤ ((x5_1.length : Int) : Int) := of_decide_eq_true (by first | (with_reducible assumption) | assumption)
                                obtain ⟨i025, hi025, _, hsz25, _⟩ := info_parts info3
                                have hcut25 := cut_to (P := Try.prog) 22 3 .i64 Try.underlying22 hi025 (some ad382) x5_1.length co24 (ji19) (of_decide_eq_true (by first | (with_reducible assumption) | assumption)) q25 (Kd.R_reads' HO_5.out).2.1
                                have hr25 := Kd.R_take (m := ((ji19) : Int).toNat) HO_5.out (by omega)
                                have hy25 : y383.length = ((ji19) : Int).toNat := (by rw [Ny383.out, List.length_take]; omega)
                                rw [← Ny383.out] at hr25
                                rw [← hy25] at hr25 hcut25
                                clear hy25 hi025 hsz25 HO_5
                                have HO385 := Aside0.mk hr25
                                clear hr25
                                replace q25 := eq_true q25
                                go_wp2
                                go_roundg kj4
                                case measure => have := HK1.out; have := HJ4.out; omega
                                case rel => exact ⟨(y383), (x6_1), (wrap64 (x7_1 + 1)), (wrap64 (x8_1 + 1)), (by first | rfl | (simp; done) | (simp [*]; done)), (by first | rfl | (simp; done) | (simp [*]; done)), (by first | rfl | (simp; done) | (simp [*]; done)), H', ⟨by have := HK1.out; have := HJ4.out; omega⟩, ⟨by (with_reducible repeat (first | apply Kd.R_alloc | apply Kd.R_drewN | apply Kd.R_drew)); exact HO385.out⟩, ⟨by repeat (first | (with_reducible first | exact HB.out | apply below_alloc | apply pw_below_drewN | apply below_drew1) | exact HB.out)⟩⟩
                              · rw [if_neg c23] at H
                                exact absurd H (by simp)
                            · rw [if_neg c22] at H
                              have c22b0 : ((rd x5_1 (ji19)) == x7_1) = false := beq_eq_false_iff_ne.mpr c22
                              have c22b1 : ((rd x5_1 (ji19)) != x7_1) = true := bne_iff_ne.mpr c22
                              obtain rfl := Option.some.inj H
                              have p16 : 0 ≤ (x8_1 : Int) := of_decide_eq_true (by first | (with_reducible assumption) | assumption)
                              have q16 : x8_1 < (a1.size : Int) := of_decide_eq_true (by first | (with_reducible assumption) | assumption)
                              have hx16 := bt_at a1 x8_1
                              replace p16 := eq_true p16
                              replace q16 := eq_true q16
                              obtain ⟨Ao26, co26, eo26⟩ := Kd.R_slice HO_5.out
                              subst eo26
                              have p382 : 0 ≤ ((ji19) : Int) := of_decide_eq_true (by first | (with_reducible assumption) | assumption)
                              have q382 : (ji19) < (x5_1.length : Int) := of_decide_eq_true (by first | (with_reducible assumption) | assumption)
                              obtain ⟨ad382, e382, hx382_0⟩ := Kd.at_int (Kd.R_reads' HO_5.out).2.2 (ji19) p382 q382
                              cases e382
                              replace p382 := eq_true p382
                              replace q382 := eq_true q382
                              go_wp2
                              go_ret
                              exact ⟨by first | rfl | (simp [errW_none, errW_some] <;> rfl) | (simp only [← hji19]; first | rfl | (simp [errW_none, errW_some] <;> rfl)) | (simp [*, errW_none, errW_some] <;> rfl), by repeat (first | (with_reducible first | exact HB.out | apply below_alloc | apply pw_below_drewN | apply below_drew1) | exact HB.out)⟩
                          · rw [if_neg c21] at H
                            exact absurd H (by simp)
                        · rw [if_neg c20] at H
                          exact absurd H (by simp)
                      · rw [if_neg c18] at H
                        have c18b0 : decide (0 < (x5_1.length : Int)) = false := decide_eq_false c18
                        have c18b1 : decide (0 < x5_1.length) = false := decide_eq_false (by omega)
                        clear c18
                        obtain rfl := Option.some.inj H
                        have p16 : 0 ≤ (x8_1 : Int) := of_decide_eq_true (by first | (with_reducible assumption) | assumption)
                        have q16 : x8_1 < (a1.size : Int) := of_decide_eq_true (by first | (with_reducible assumption) | assumption)
                        have hx16 := bt_at a1 x8_1
                        replace p16 := eq_true p16
                        replace q16 := eq_true q16
                        obtain ⟨Ao27, co27, eo27⟩ := Kd.R_slice HO_5.out
                        subst eo27
                        go_wp2
                        go_ret
                        exact ⟨by first | rfl | (simp [errW_none, errW_some] <;> rfl) | (simp [*, errW_none, errW_some] <;> rfl), by repeat (first | (with_reducible first | exact HB.out | apply below_alloc | apply pw_below_drewN | apply below_drew1) | exact HB.out)⟩
                    · rw [if_neg c17] at H
                      have c17b0 : ((bt a1 x8_1) == 111) = false := beq_eq_false_iff_ne.mpr c17
                      have c17b1 : ((bt a1 x8_1) != 111) = true := bne_iff_ne.mpr c17
                      obtain rfl := Option.some.inj H
                      have p16 : 0 ≤ (x8_1 : Int) := of_decide_eq_true (by first | (with_reducible assumption) | assumption)
                      have q16 : x8_1 < (a1.size : Int) := of_decide_eq_true (by first | (with_reducible assumption) | assumption)
                      have hx16 := bt_at a1 x8_1
                      replace p16 := eq_true p16
                      replace q16 := eq_true q16
                      go_wp2
                      go_ret
                      exact ⟨by first | rfl | (simp [errW_none, errW_some] <;> rfl) | (simp [*, errW_none, errW_some] <;> rfl), by repeat (first | (with_reducible first | exact HB.out | apply below_alloc | apply pw_below_drewN | apply below_drew1) | exact HB.out)⟩
                  · rw [if_neg c15] at H
                    exact absurd H (by simp)
                · rw [if_neg c14] at H
                  exact absurd H (by simp)
        · rw [if_neg c4] at H
          have c4b0 : decide (x8_1 < (a1.size : Int)) = false := decide_eq_false c4
          clear c4
          obtain rfl := Option.some.inj H
          go_wp2
          go_ret
          exact ⟨by first | rfl | (simp [errW_none, errW_some] <;> rfl) | (simp [*, errW_none, errW_some] <;> rfl), by repeat (first | (with_reducible first | exact HB.out | apply below_alloc | apply pw_below_drewN | apply below_drew1) | exact HB.out)⟩
  · rw [if_neg c3] at H
    have c3b0 : ((a1.size : Int) == (wrap64 (2 * (l0.length : Int)))) = false := beq_eq_false_iff_ne.mpr c3
    have c3b1 : ((a1.size : Int) != (wrap64 (2 * (l0.length : Int)))) = true := bne_iff_ne.mpr c3
    obtain rfl := Option.some.inj H
    go_enter Try.func40, Try.ntmps40
    go_wp2
    go_ret
    exact ⟨by first | rfl | (simp [errW_none, errW_some] <;> rfl) | (simp [*, errW_none, errW_some] <;> rfl), by repeat (first | (with_reducible first | exact HB.out | apply below_alloc | apply pw_below_drewN | apply below_drew1) | exact HB.out)⟩

end Go.Proofs.Ytjbjongahnocdaa.S

namespace Go.Proofs.Ytjbjongahnocdaa.S
open Go.Proofs.Ytjbjongahnocdaa.Lib
open Go.Proofs.Ytjbjongahnocdaa.Defs
open Go.Maps (Keyed)
open Go.RowKit Go.Proofs.YtjbjongahnocdaaW.PrintWords Go.Proofs.YtjbjongahnocdaaW.PrintLast Go.Proofs.YtjbjongahnocdaaW.PrintMore
attribute [local go_sem] max2_int min2_int max_two min_two max_three min_three max_four min_four   -- for this text's walks alone
set_option linter.unusedVariables false
set_option linter.unusedSimpArgs false

/-! ### shunt_sorts: function 67 -/
def sortsGo (order : List Int) (plan : ByteArray) : Nat → Int → Int → List Int → List Int → Bool
  | 0, _, _, _, lft => decide (lft.length = order.length)
  | d + 1, i, next, s, lft =>
    if bt plan i = 105 ∧ next < order.length then sortsGo order plan d (i + 1) (next + 1) (rd order next :: s) lft
    else if bt plan i = 111 then (match s with | [] => false | a :: t => if a = (lft.length : Int) + 1 then sortsGo order plan d (i + 1) next t (lft ++ [a]) else false)
    else false
def shunt_sorts.f (l0 : List Int) (a1 : ByteArray) : Option Bool :=
  if l0.length ≤ 60 then (if (a1.size : Int) = 2 * (l0.length : Int) then some (sortsGo l0 a1 a1.size 0 0 [] []) else some false) else none

set_option maxHeartbeats 2000000 in
set_option maxRecDepth 100000 in
theorem shunt_sorts.calls (A0 : Option Addr) (c0 : Nat) (l0 : List Int) (a1 : ByteArray) (r : Bool) (w : World) (hr0 : Kd.C (Kd.int .i64) w A0 l0.length l0) (hc0 : l0.length ≤ c0) (h : shunt_sorts.f l0 a1 = some r) :
    Calls Try.prog 67 #[.slice A0 l0.length c0, .string a1] w fun e w' => e = .returned (.bool r) ∧ Below w.heap.size w w' := by
  have HR0 := Aside0.mk hr0
  have HC0 := Aside0.mk hc0
  clear hr0 hc0
  unfold shunt_sorts.f at h
  by_cases hl : l0.length ≤ 60
  · rw [if_pos hl] at h
    obtain ⟨jt, hjt⟩ : ∃ jt : Int, jt = 2 * (l0.length : Int) := ⟨_, rfl⟩
    have hjw : IntKind.i64.wrap (2 * (l0.length : Int)) = jt := by rw [i64_w, hjt]; unfold wrap64; omega
    rw [← hjt] at h
    by_cases c1 : (a1.size : Int) = jt
    · rw [if_pos c1] at h
      have H' := Aside0.mk (Option.some.inj h)
      have HS := Aside0.mk (show a1.size ≤ 120 by omega)
      have HL := Aside0.mk hl
      have c1b0 : ((a1.size : Int) != jt) = false := bne_eq_false_iff_eq.mpr c1
      clear h c1 hl hjt
      go_enter Try.func67, Try.ntmps67
      go_wp2
      go_loopw [6, 18] (fun v6 v18 wr => ∃ (next i : Int) (s lft : List Int), v6 = .int .i64 next ∧ v18 = .int .i64 i ∧ Aside0 (0 ≤ i ∧ i ≤ a1.size ∧ 0 ≤ next ∧ next ≤ l0.length ∧ (s.length : Int) + lft.length = next) ∧ Aside0 (sortsGo l0 a1 (a1.size - i.toNat) i next s lft = r) ∧ Aside0 (LineIs w.heap.size wr w.heap.size s.reverse lft) ∧ Aside0 (Below w.heap.size w wr)) (fun _ v18 _ => a1.size - (intOf v18).toNat)
      case atStart => exact ⟨0, 0, [], [], rfl, rfl, ⟨by simp⟩, H', ⟨⟨_, _, heap_alloc_new w _, Nat.le_refl _, Kd.R_nil _ _ _ _ _, Kd.R_nil _ _ _ _ _⟩⟩, ⟨below_alloc (Below.refl _ _) _⟩⟩
      case round =>
        clear H'
        obtain ⟨next, i, s, lft, rfl, rfl, HX, HA, HLN, HB⟩ := hrel
        obtain ⟨p0, p1, p2, p3, p4⟩ := HX.out
        have hs120 := HS.out
        have hl60 := HL.out
        by_cases c2 : i < (a1.size : Int)
        · have c2b0 : decide (i < (a1.size : Int)) = true := decide_eq_true c2
          have hx7 := bt_at a1 i
          have q0 := eq_true p0
          have q1 := eq_true c2
          have HA1 := HA.out
          rw [show a1.size - i.toNat = (a1.size - (i + 1).toNat) + 1 by omega] at HA1
          unfold sortsGo at HA1
          by_cases c3 : bt a1 i = 105
          · have c3b0 : (bt a1 i == 105) = true := beq_iff_eq.mpr c3
            by_cases c4 : next < (l0.length : Int)
            · have c4b0 : decide (next < (l0.length : Int)) = true := decide_eq_true c4
              rw [if_pos ⟨c3, c4⟩] at HA1
              have HA2 := Aside0.mk HA1
              obtain ⟨ad, ea, hx⟩ := Kd.at_int (Kd.C_below HR0.out HB.out) next p2 c4
              cases ea
              have q2 := eq_true p2
              have q3 := eq_true c4
              have hxd := (World.cell?_drew wr (ad.add next.toNat)).trans hx
              have HPU := Aside0.mk (stack_push.calls w.heap.size w.heap.size s.reverse lft (rd l0 next) wr.drew HLN.out.drew (by simp; omega) HB.out.size)
              rw [← List.reverse_cons] at HPU
              clear HA HA1 c3 c4
              go_wp2
              go_region_with (go_at_call 58; go_must ((with_reducible refine HPU.out.mono ?_); rintro e w2 ⟨rfl, hL2, hT2⟩; have HL2 := Aside0.mk hL2; have HB2 := Aside0.mk (Turn.below (below_drew1 HB.out) HB.out.size hT2); clear hL2 hT2))
              all_goals (
                go_wp2
                go_roundw
                case rel => exact ⟨next + 1, i + 1, rd l0 next :: s, lft, rfl, rfl, ⟨by have := HX.out; have := of_eq_true q1; have := of_eq_true q3; simp; omega⟩, HA2, HL2, HB2⟩
                case measure => have := of_eq_true q1; simp [intOf]; omega)
            · have c4b0 : decide (next < (l0.length : Int)) = false := decide_eq_false c4
              have c5b0 : (bt a1 i != 111) = true := by rw [c3]; rfl
              rw [if_neg (fun h => c4 h.2), if_neg (by omega)] at HA1
              subst HA1
              clear HA c3 c4
              go_wp2
              go_ret
              exact ⟨rfl, HB.out⟩
          · have c3b0 : (bt a1 i == 105) = false := beq_eq_false_iff_ne.mpr c3
            rw [if_neg (fun h => c3 h.1)] at HA1
            by_cases c5 : bt a1 i = 111
            · have c5b0 : (bt a1 i != 111) = false := bne_eq_false_iff_eq.mpr c5
              rw [if_pos c5] at HA1
              have HN := Aside0.mk (line_isNext.calls w.heap.size w.heap.size s.reverse lft (nextIs s lft) wr HLN.out (by cases s <;> simp [nextIs]) (by omega))
              cases s with
              | nil =>
                have HA1 : false = r := HA1
                subst HA1
                have HN' := Aside0.mk (show Calls Try.prog 61 #[.pointer (some ⟨w.heap.size, 0, none⟩)] wr fun e w' => e = .returned (.bool false) ∧ Drawn0 wr w' from HN.out)
                clear HA HN c3 c5
                go_wp2_with (go_at_call 61; go_must ((with_reducible refine HN'.out.mono ?_); rintro e w2 ⟨rfl, ⟨nd, rfl⟩⟩))
                go_ret
                exact ⟨rfl, by repeat (first | (with_reducible first | exact HB.out | apply below_alloc | apply pw_below_drewN | apply below_drew1) | exact HB.out)⟩
              | cons a t =>
                by_cases c6 : a = (lft.length : Int) + 1
                · have c6b : decide (a = (lft.length : Int) + 1) = true := decide_eq_true c6
                  have HA1 : (if a = (lft.length : Int) + 1 then sortsGo l0 a1 (a1.size - (i + 1).toNat) (i + 1) next t (lft ++ [a]) else false) = r := HA1
                  rw [if_pos c6] at HA1
                  have HA2 := Aside0.mk HA1
                  have HN' := Aside0.mk (show Calls Try.prog 61 #[.pointer (some ⟨w.heap.size, 0, none⟩)] wr fun e w' => e = .returned (.bool true) ∧ Drawn0 wr w' by have := HN.out; simpa only [nextIs, c6b] using this)
                  have HLV := Aside0.mk (fun n => line_leave.calls w.heap.size w.heap.size (a :: t).reverse lft (wr.drewN n) (HLN.out.drewN n) (by omega) HB.out.size)
                  have e5 : (a :: t).reverse.dropLast = t.reverse := by simp
                  have e6 : (if (a :: t).reverse.isEmpty then lft else lft ++ [(a :: t).reverse.getLast?.getD 0]) = lft ++ [a] := by simp
                  have e7 : (a :: t).reverse.isEmpty = false := by simp
                  rw [e5, e6, e7] at HLV
                  have HY2 := Aside0.mk (show (t.length : Int) + (lft ++ [a]).length = next by simp at p4 ⊢; omega)
                  clear HA HA1 HN c3 c5 c6 c6b e5 e6 e7 p4
                  go_wp2_with (first | (go_at_call 61; go_must ((with_reducible refine HN'.out.mono ?_); rintro e w2 ⟨rfl, ⟨nd, rfl⟩⟩)) | (go_at_call 57; go_must ((with_reducible refine (HLV.out _).mono ?_); rintro e w3 ⟨rfl, hL2, hT2⟩; have HL2 := Aside0.mk hL2; have HB2 := Aside0.mk (Turn.below (pw_below_drewN HB.out _) HB.out.size hT2); clear hL2 hT2)))
                  go_roundw
                  case rel => exact ⟨next, i + 1, t, lft ++ [a], rfl, rfl, ⟨by have := HX.out; have := of_eq_true q1; have := HY2.out; omega⟩, HA2, HL2, HB2⟩
                  case measure => have := of_eq_true q1; simp [intOf]; omega
                · have c6b : decide (a = (lft.length : Int) + 1) = false := decide_eq_false c6
                  have HA1 : (if a = (lft.length : Int) + 1 then sortsGo l0 a1 (a1.size - (i + 1).toNat) (i + 1) next t (lft ++ [a]) else false) = r := HA1
                  rw [if_neg c6] at HA1
                  subst HA1
                  have HN' := Aside0.mk (show Calls Try.prog 61 #[.pointer (some ⟨w.heap.size, 0, none⟩)] wr fun e w' => e = .returned (.bool false) ∧ Drawn0 wr w' by have := HN.out; simpa only [nextIs, c6b] using this)
                  clear HA HN c3 c5 c6 c6b
                  go_wp2_with (go_at_call 61; go_must ((with_reducible refine HN'.out.mono ?_); rintro e w2 ⟨rfl, ⟨nd, rfl⟩⟩))
                  go_ret
                  exact ⟨rfl, by repeat (first | (with_reducible first | exact HB.out | apply below_alloc | apply pw_below_drewN | apply below_drew1) | exact HB.out)⟩
            · have c5b0 : (bt a1 i != 111) = true := bne_iff_ne.mpr c5
              rw [if_neg c5] at HA1
              subst HA1
              clear HA c3 c5
              go_wp2
              go_ret
              exact ⟨rfl, HB.out⟩
        · have c2b0 : decide (i < (a1.size : Int)) = false := decide_eq_false c2
          obtain ⟨A, c, hlc⟩ : ∃ A c, wr.cell? ⟨w.heap.size, 1, none⟩ = some (.slice A lft.length c) := by
            obtain ⟨vi, vl, hb5, hg5, h15, h25⟩ := HLN.out
            obtain ⟨A, c, rfl⟩ := Kd.R_slice h25
            exact ⟨A, c, (blk_cell hb5 1).trans rfl⟩
          have HA1 := HA.out
          rw [show a1.size - i.toNat = 0 by omega] at HA1
          have HA2 : r = ((lft.length : Int) == (l0.length : Int)) := by
            rw [← HA1]
            show decide (lft.length = l0.length) = _
            rw [Bool.eq_iff_iff]
            simp
            try omega
          subst HA2
          clear HA HA1 c2 p4
          go_wp2
          go_ret
          exact ⟨rfl, HB.out⟩
    · rw [if_neg c1] at h
      injection h with h
      subst h
      have c1b0 : ((a1.size : Int) != jt) = true := bne_iff_ne.mpr c1
      clear c1 hjt
      go_enter Try.func67, Try.ntmps67
      go_wp2
      go_ret
      exact ⟨rfl, Below.refl _ _⟩
  · rw [if_neg hl] at h
    cases h


end Go.Proofs.Ytjbjongahnocdaa.S
