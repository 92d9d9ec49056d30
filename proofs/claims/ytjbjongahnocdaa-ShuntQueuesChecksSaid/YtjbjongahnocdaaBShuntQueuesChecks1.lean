-- Written by wip/bundle.py: texts of this claim, one behind the other.
import Derived.Test.YtjbjongahnocdaaBShuntQueuesChecks0
import Derived.RowKit
import Derived.Test.YtjbjongahnocdaaWWords
set_option linter.unusedVariables false
set_option linter.unusedSimpArgs false

namespace Go.Proofs.Ytjbjongahnocdaa.S
open Go.Proofs.Ytjbjongahnocdaa.Lib
open Go.Proofs.Ytjbjongahnocdaa.Defs
open Go.Maps (Keyed)
open Go.RowKit Go.Proofs.YtjbjongahnocdaaW.PrintWords Go.Proofs.YtjbjongahnocdaaW.PrintLast Go.Proofs.YtjbjongahnocdaaW.PrintMore
attribute [local go_sem] max2_int min2_int max_two min_two max_three min_three max_four min_four   -- for this text's walks alone
set_option linter.unusedVariables false
set_option linter.unusedSimpArgs false

/-! ### tickinglaw02_awake: function 22 -/
def tickinglaw02_awake.j0 : Nat → Bool → Option (Bool)
  | 0, _ => none
  | k + 1, x86 => if x86 = true then (some false) else (some true)
def tickinglaw02_awake.f (k : Nat)  : Option (Bool) := (shunt_Stack.f k (([2, 1, 3] : List Int))).bind fun bt135 => ((shunt_Stack.f k (([2, 3, 1] : List Int))).bind fun bt143 => ((shunt_Least.f k (([3, 2, 1] : List Int))).bind fun bt151 => ((shunt_Rank.f k (([3, 2, 1] : List Int))).bind fun bt156 => ((shunt_Pass.f (([2, 3, 1] : List Int))).bind fun bt161 => (if bt135.2.2 = 0 then (if bt135.1.toList = ([105, 105, 111, 111, 105, 111] : List UInt8) then (if (bt135.2.1.length : Int) = 0 then (if bt143.2.2 = 0 then ((tickinglaw02_ints.f k bt143.2.1 (([0, 1, 2] : List Int))).bind fun t168 => (if t168 = true then (if bt151.2 = 0 then (if bt151.1 = 3 then (if bt156.2 = 0 then (if bt156.1 = 4 then (if bt161.2 = 0 then ((tickinglaw02_ints.f k bt161.1 (([2, 1, 3] : List Int))).bind fun t172 => (tickinglaw02_awake.j0 k (!t172))) else (tickinglaw02_awake.j0 k true)) else (tickinglaw02_awake.j0 k true)) else (tickinglaw02_awake.j0 k true)) else (tickinglaw02_awake.j0 k true)) else (tickinglaw02_awake.j0 k true)) else (tickinglaw02_awake.j0 k true))) else (tickinglaw02_awake.j0 k true)) else (tickinglaw02_awake.j0 k true)) else (tickinglaw02_awake.j0 k true)) else (tickinglaw02_awake.j0 k true))))))
theorem tickinglaw02_awake.mono_l : ∀ k, (∀ y0, LeO (tickinglaw02_awake.j0 k y0) (tickinglaw02_awake.j0 (k + 1) y0))
  | 0 => fun _ r h => by simp [tickinglaw02_awake.j0] at h
  | k + 1 => by
    have ih0 := tickinglaw02_awake.mono_l k
    · intro y0
      unfold tickinglaw02_awake.j0
      repeat' first
      | (with_reducible exact ih0 _)
      | (with_reducible exact shunt_Least.mono _ _)
      | (with_reducible exact shunt_Rank.mono _ _)
      | (with_reducible exact shunt_Stack.mono _ _)
      | (with_reducible exact tickinglaw02_ints.mono _ _ _)
      | (with_reducible exact LeO.refl _)
      | (with_reducible exact LeO.none _)
      | (with_reducible refine LeO.ite ?_ ?_)
      | (with_reducible refine LeO.bind ?_ (fun _ => ?_))
      | exact ih0 _
      | exact shunt_Least.mono _ _
      | exact shunt_Rank.mono _ _
      | exact shunt_Stack.mono _ _
      | exact tickinglaw02_ints.mono _ _ _
      | exact LeO.none _
      | refine LeO.ite ?_ ?_
      | refine LeO.bind ?_ (fun _ => ?_)
theorem tickinglaw02_awake.mono : ∀ k, LeO (tickinglaw02_awake.f k ) (tickinglaw02_awake.f (k + 1) ) := by
  intro  k
  have ih0 := tickinglaw02_awake.mono_l k
  unfold tickinglaw02_awake.f
  repeat' first
      | (with_reducible exact ih0 _)
      | (with_reducible exact shunt_Least.mono _ _)
      | (with_reducible exact shunt_Rank.mono _ _)
      | (with_reducible exact shunt_Stack.mono _ _)
      | (with_reducible exact tickinglaw02_ints.mono _ _ _)
      | (with_reducible exact LeO.refl _)
      | (with_reducible exact LeO.none _)
      | (with_reducible refine LeO.ite ?_ ?_)
      | (with_reducible refine LeO.bind ?_ (fun _ => ?_))
      | exact ih0 _
      | exact shunt_Least.mono _ _
      | exact shunt_Rank.mono _ _
      | exact shunt_Stack.mono _ _
      | exact tickinglaw02_ints.mono _ _ _
      | exact LeO.none _
      | refine LeO.ite ?_ ?_
      | refine LeO.bind ?_ (fun _ => ?_)
set_option maxHeartbeats 8000000 in
set_option maxRecDepth 100000 in
theorem tickinglaw02_awake.calls (k : Nat)  (r : Bool) (w : World) (h : tickinglaw02_awake.f k  = some r) :
    Calls Try.prog 22 #[] w fun e w' => e = .returned (.bool r) ∧ Below w.heap.size w w' := by
  have HB := Aside0.mk (Below.refl w.heap.size w)
  have H : ((shunt_Stack.f k (([2, 1, 3] : List Int))).bind fun bt135 => ((shunt_Stack.f k (([2, 3, 1] : List Int))).bind fun bt143 => ((shunt_Least.f k (([3, 2, 1] : List Int))).bind fun bt151 => ((shunt_Rank.f k (([3, 2, 1] : List Int))).bind fun bt156 => ((shunt_Pass.f (([2, 3, 1] : List Int))).bind fun bt161 => (if bt135.2.2 = 0 then (if bt135.1.toList = ([105, 105, 111, 111, 105, 111] : List UInt8) then (if (bt135.2.1.length : Int) = 0 then (if bt143.2.2 = 0 then ((tickinglaw02_ints.f k bt143.2.1 (([0, 1, 2] : List Int))).bind fun t168 => (if t168 = true then (if bt151.2 = 0 then (if bt151.1 = 3 then (if bt156.2 = 0 then (if bt156.1 = 4 then (if bt161.2 = 0 then ((tickinglaw02_ints.f k bt161.1 (([2, 1, 3] : List Int))).bind fun t172 => (tickinglaw02_awake.j0 k (!t172))) else (tickinglaw02_awake.j0 k true)) else (tickinglaw02_awake.j0 k true)) else (tickinglaw02_awake.j0 k true)) else (tickinglaw02_awake.j0 k true)) else (tickinglaw02_awake.j0 k true)) else (tickinglaw02_awake.j0 k true))) else (tickinglaw02_awake.j0 k true)) else (tickinglaw02_awake.j0 k true)) else (tickinglaw02_awake.j0 k true)) else (tickinglaw02_awake.j0 k true))))))) = some r := h
  clear h
  obtain ⟨y132, hy132⟩ : ∃ y_ : List Int, y_ = (([2, 1, 3] : List Int)) := ⟨_, rfl⟩
  replace H : ((shunt_Stack.f k y132).bind fun bt135 => ((shunt_Stack.f k (([2, 3, 1] : List Int))).bind fun bt143 => ((shunt_Least.f k (([3, 2, 1] : List Int))).bind fun bt151 => ((shunt_Rank.f k (([3, 2, 1] : List Int))).bind fun bt156 => ((shunt_Pass.f (([2, 3, 1] : List Int))).bind fun bt161 => (if bt135.2.2 = 0 then (if bt135.1.toList = ([105, 105, 111, 111, 105, 111] : List UInt8) then (if (bt135.2.1.length : Int) = 0 then (if bt143.2.2 = 0 then ((tickinglaw02_ints.f k bt143.2.1 (([0, 1, 2] : List Int))).bind fun t168 => (if t168 = true then (if bt151.2 = 0 then (if bt151.1 = 3 then (if bt156.2 = 0 then (if bt156.1 = 4 then (if bt161.2 = 0 then ((tickinglaw02_ints.f k bt161.1 (([2, 1, 3] : List Int))).bind fun t172 => (tickinglaw02_awake.j0 k (!t172))) else (tickinglaw02_awake.j0 k true)) else (tickinglaw02_awake.j0 k true)) else (tickinglaw02_awake.j0 k true)) else (tickinglaw02_awake.j0 k true)) else (tickinglaw02_awake.j0 k true)) else (tickinglaw02_awake.j0 k true))) else (tickinglaw02_awake.j0 k true)) else (tickinglaw02_awake.j0 k true)) else (tickinglaw02_awake.j0 k true)) else (tickinglaw02_awake.j0 k true))))))) = some r := by first | (rw [hy132]; with_reducible exact H) | (have H2_ := (Option.bind_some _ _).symm.trans H; rw [hy132]; with_reducible exact H2_) | (have H2_ := (Option.bind_some _ _).symm.trans H; with_reducible exact H2_) | with_reducible exact H | (rw [hy132]; exact H) | exact H
  have Ny132 := Aside0.mk hy132
  clear hy132
  replace H := Option.bind_eq_some_iff.mp H
  obtain ⟨⟨t135, t136, t137⟩, A10, H⟩ := H
  replace H : ((shunt_Stack.f k (([2, 3, 1] : List Int))).bind fun bt143 => ((shunt_Least.f k (([3, 2, 1] : List Int))).bind fun bt151 => ((shunt_Rank.f k (([3, 2, 1] : List Int))).bind fun bt156 => ((shunt_Pass.f (([2, 3, 1] : List Int))).bind fun bt161 => (if t137 = 0 then (if t135.toList = ([105, 105, 111, 111, 105, 111] : List UInt8) then (if (t136.length : Int) = 0 then (if bt143.2.2 = 0 then ((tickinglaw02_ints.f k bt143.2.1 (([0, 1, 2] : List Int))).bind fun t168 => (if t168 = true then (if bt151.2 = 0 then (if bt151.1 = 3 then (if bt156.2 = 0 then (if bt156.1 = 4 then (if bt161.2 = 0 then ((tickinglaw02_ints.f k bt161.1 (([2, 1, 3] : List Int))).bind fun t172 => (tickinglaw02_awake.j0 k (!t172))) else (tickinglaw02_awake.j0 k true)) else (tickinglaw02_awake.j0 k true)) else (tickinglaw02_awake.j0 k true)) else (tickinglaw02_awake.j0 k true)) else (tickinglaw02_awake.j0 k true)) else (tickinglaw02_awake.j0 k true))) else (tickinglaw02_awake.j0 k true)) else (tickinglaw02_awake.j0 k true)) else (tickinglaw02_awake.j0 k true)) else (tickinglaw02_awake.j0 k true)))))) = some r := H
  have A1 := Aside0.mk A10
  clear A10
  obtain ⟨y140, hy140⟩ : ∃ y_ : List Int, y_ = (([2, 3, 1] : List Int)) := ⟨_, rfl⟩
  replace H : ((shunt_Stack.f k y140).bind fun bt143 => ((shunt_Least.f k (([3, 2, 1] : List Int))).bind fun bt151 => ((shunt_Rank.f k (([3, 2, 1] : List Int))).bind fun bt156 => ((shunt_Pass.f (([2, 3, 1] : List Int))).bind fun bt161 => (if t137 = 0 then (if t135.toList = ([105, 105, 111, 111, 105, 111] : List UInt8) then (if (t136.length : Int) = 0 then (if bt143.2.2 = 0 then ((tickinglaw02_ints.f k bt143.2.1 (([0, 1, 2] : List Int))).bind fun t168 => (if t168 = true then (if bt151.2 = 0 then (if bt151.1 = 3 then (if bt156.2 = 0 then (if bt156.1 = 4 then (if bt161.2 = 0 then ((tickinglaw02_ints.f k bt161.1 (([2, 1, 3] : List Int))).bind fun t172 => (tickinglaw02_awake.j0 k (!t172))) else (tickinglaw02_awake.j0 k true)) else (tickinglaw02_awake.j0 k true)) else (tickinglaw02_awake.j0 k true)) else (tickinglaw02_awake.j0 k true)) else (tickinglaw02_awake.j0 k true)) else (tickinglaw02_awake.j0 k true))) else (tickinglaw02_awake.j0 k true)) else (tickinglaw02_awake.j0 k true)) else (tickinglaw02_awake.j0 k true)) else (tickinglaw02_awake.j0 k true)))))) = some r := by first | (rw [hy140]; with_reducible exact H) | (have H2_ := (Option.bind_some _ _).symm.trans H; rw [hy140]; with_reducible exact H2_) | (have H2_ := (Option.bind_some _ _).symm.trans H; with_reducible exact H2_) | with_reducible exact H | (rw [hy140]; exact H) | exact H
  have Ny140 := Aside0.mk hy140
  clear hy140
  replace H := Option.bind_eq_some_iff.mp H
  obtain ⟨⟨t143, t144, t145⟩, A20, H⟩ := H
  replace H : ((shunt_Least.f k (([3, 2, 1] : List Int))).bind fun bt151 => ((shunt_Rank.f k (([3, 2, 1] : List Int))).bind fun bt156 => ((shunt_Pass.f (([2, 3, 1] : List Int))).bind fun bt161 => (if t137 = 0 then (if t135.toList = ([105, 105, 111, 111, 105, 111] : List UInt8) then (if (t136.length : Int) = 0 then (if t145 = 0 then ((tickinglaw02_ints.f k t144 (([0, 1, 2] : List Int))).bind fun t168 => (if t168 = true then (if bt151.2 = 0 then (if bt151.1 = 3 then (if bt156.2 = 0 then (if bt156.1 = 4 then (if bt161.2 = 0 then ((tickinglaw02_ints.f k bt161.1 (([2, 1, 3] : List Int))).bind fun t172 => (tickinglaw02_awake.j0 k (!t172))) else (tickinglaw02_awake.j0 k true)) else (tickinglaw02_awake.j0 k true)) else (tickinglaw02_awake.j0 k true)) else (tickinglaw02_awake.j0 k true)) else (tickinglaw02_awake.j0 k true)) else (tickinglaw02_awake.j0 k true))) else (tickinglaw02_awake.j0 k true)) else (tickinglaw02_awake.j0 k true)) else (tickinglaw02_awake.j0 k true)) else (tickinglaw02_awake.j0 k true))))) = some r := H
  have A2 := Aside0.mk A20
  clear A20
  obtain ⟨y148, hy148⟩ : ∃ y_ : List Int, y_ = (([3, 2, 1] : List Int)) := ⟨_, rfl⟩
  replace H : ((shunt_Least.f k y148).bind fun bt151 => ((shunt_Rank.f k (([3, 2, 1] : List Int))).bind fun bt156 => ((shunt_Pass.f (([2, 3, 1] : List Int))).bind fun bt161 => (if t137 = 0 then (if t135.toList = ([105, 105, 111, 111, 105, 111] : List UInt8) then (if (t136.length : Int) = 0 then (if t145 = 0 then ((tickinglaw02_ints.f k t144 (([0, 1, 2] : List Int))).bind fun t168 => (if t168 = true then (if bt151.2 = 0 then (if bt151.1 = 3 then (if bt156.2 = 0 then (if bt156.1 = 4 then (if bt161.2 = 0 then ((tickinglaw02_ints.f k bt161.1 (([2, 1, 3] : List Int))).bind fun t172 => (tickinglaw02_awake.j0 k (!t172))) else (tickinglaw02_awake.j0 k true)) else (tickinglaw02_awake.j0 k true)) else (tickinglaw02_awake.j0 k true)) else (tickinglaw02_awake.j0 k true)) else (tickinglaw02_awake.j0 k true)) else (tickinglaw02_awake.j0 k true))) else (tickinglaw02_awake.j0 k true)) else (tickinglaw02_awake.j0 k true)) else (tickinglaw02_awake.j0 k true)) else (tickinglaw02_awake.j0 k true))))) = some r := by first | (rw [hy148]; with_reducible exact H) | (have H2_ := (Option.bind_some _ _).symm.trans H; rw [hy148]; with_reducible exact H2_) | (have H2_ := (Option.bind_some _ _).symm.trans H; with_reducible exact H2_) | with_reducible exact H | (rw [hy148]; exact H) | exact H
  have Ny148 := Aside0.mk hy148
  clear hy148
  replace H := Option.bind_eq_some_iff.mp H
  obtain ⟨⟨t151, t152⟩, A30, H⟩ := H
  replace H : ((shunt_Rank.f k (([3, 2, 1] : List Int))).bind fun bt156 => ((shunt_Pass.f (([2, 3, 1] : List Int))).bind fun bt161 => (if t137 = 0 then (if t135.toList = ([105, 105, 111, 111, 105, 111] : List UInt8) then (if (t136.length : Int) = 0 then (if t145 = 0 then ((tickinglaw02_ints.f k t144 (([0, 1, 2] : List Int))).bind fun t168 => (if t168 = true then (if t152 = 0 then (if t151 = 3 then (if bt156.2 = 0 then (if bt156.1 = 4 then (if bt161.2 = 0 then ((tickinglaw02_ints.f k bt161.1 (([2, 1, 3] : List Int))).bind fun t172 => (tickinglaw02_awake.j0 k (!t172))) else (tickinglaw02_awake.j0 k true)) else (tickinglaw02_awake.j0 k true)) else (tickinglaw02_awake.j0 k true)) else (tickinglaw02_awake.j0 k true)) else (tickinglaw02_awake.j0 k true)) else (tickinglaw02_awake.j0 k true))) else (tickinglaw02_awake.j0 k true)) else (tickinglaw02_awake.j0 k true)) else (tickinglaw02_awake.j0 k true)) else (tickinglaw02_awake.j0 k true)))) = some r := H
  have A3 := Aside0.mk A30
  clear A30
  obtain ⟨y153, hy153⟩ : ∃ y_ : List Int, y_ = (([3, 2, 1] : List Int)) := ⟨_, rfl⟩
  replace H : ((shunt_Rank.f k y153).bind fun bt156 => ((shunt_Pass.f (([2, 3, 1] : List Int))).bind fun bt161 => (if t137 = 0 then (if t135.toList = ([105, 105, 111, 111, 105, 111] : List UInt8) then (if (t136.length : Int) = 0 then (if t145 = 0 then ((tickinglaw02_ints.f k t144 (([0, 1, 2] : List Int))).bind fun t168 => (if t168 = true then (if t152 = 0 then (if t151 = 3 then (if bt156.2 = 0 then (if bt156.1 = 4 then (if bt161.2 = 0 then ((tickinglaw02_ints.f k bt161.1 (([2, 1, 3] : List Int))).bind fun t172 => (tickinglaw02_awake.j0 k (!t172))) else (tickinglaw02_awake.j0 k true)) else (tickinglaw02_awake.j0 k true)) else (tickinglaw02_awake.j0 k true)) else (tickinglaw02_awake.j0 k true)) else (tickinglaw02_awake.j0 k true)) else (tickinglaw02_awake.j0 k true))) else (tickinglaw02_awake.j0 k true)) else (tickinglaw02_awake.j0 k true)) else (tickinglaw02_awake.j0 k true)) else (tickinglaw02_awake.j0 k true)))) = some r := by first | (rw [hy153]; with_reducible exact H) | (have H2_ := (Option.bind_some _ _).symm.trans H; rw [hy153]; with_reducible exact H2_) | (have H2_ := (Option.bind_some _ _).symm.trans H; with_reducible exact H2_) | with_reducible exact H | (rw [hy153]; exact H) | exact H
  have Ny153 := Aside0.mk hy153
  clear hy153
  replace H := Option.bind_eq_some_iff.mp H
  obtain ⟨⟨t156, t157⟩, A40, H⟩ := H
  replace H : ((shunt_Pass.f (([2, 3, 1] : List Int))).bind fun bt161 => (if t137 = 0 then (if t135.toList = ([105, 105, 111, 111, 105, 111] : List UInt8) then (if (t136.length : Int) = 0 then (if t145 = 0 then ((tickinglaw02_ints.f k t144 (([0, 1, 2] : List Int))).bind fun t168 => (if t168 = true then (if t152 = 0 then (if t151 = 3 then (if t157 = 0 then (if t156 = 4 then (if bt161.2 = 0 then ((tickinglaw02_ints.f k bt161.1 (([2, 1, 3] : List Int))).bind fun t172 => (tickinglaw02_awake.j0 k (!t172))) else (tickinglaw02_awake.j0 k true)) else (tickinglaw02_awake.j0 k true)) else (tickinglaw02_awake.j0 k true)) else (tickinglaw02_awake.j0 k true)) else (tickinglaw02_awake.j0 k true)) else (tickinglaw02_awake.j0 k true))) else (tickinglaw02_awake.j0 k true)) else (tickinglaw02_awake.j0 k true)) else (tickinglaw02_awake.j0 k true)) else (tickinglaw02_awake.j0 k true))) = some r := H
  have A4 := Aside0.mk A40
  clear A40
  obtain ⟨y158, hy158⟩ : ∃ y_ : List Int, y_ = (([2, 3, 1] : List Int)) := ⟨_, rfl⟩
  replace H : ((shunt_Pass.f y158).bind fun bt161 => (if t137 = 0 then (if t135.toList = ([105, 105, 111, 111, 105, 111] : List UInt8) then (if (t136.length : Int) = 0 then (if t145 = 0 then ((tickinglaw02_ints.f k t144 (([0, 1, 2] : List Int))).bind fun t168 => (if t168 = true then (if t152 = 0 then (if t151 = 3 then (if t157 = 0 then (if t156 = 4 then (if bt161.2 = 0 then ((tickinglaw02_ints.f k bt161.1 (([2, 1, 3] : List Int))).bind fun t172 => (tickinglaw02_awake.j0 k (!t172))) else (tickinglaw02_awake.j0 k true)) else (tickinglaw02_awake.j0 k true)) else (tickinglaw02_awake.j0 k true)) else (tickinglaw02_awake.j0 k true)) else (tickinglaw02_awake.j0 k true)) else (tickinglaw02_awake.j0 k true))) else (tickinglaw02_awake.j0 k true)) else (tickinglaw02_awake.j0 k true)) else (tickinglaw02_awake.j0 k true)) else (tickinglaw02_awake.j0 k true))) = some r := by first | (rw [hy158]; with_reducible exact H) | (have H2_ := (Option.bind_some _ _).symm.trans H; rw [hy158]; with_reducible exact H2_) | (have H2_ := (Option.bind_some _ _).symm.trans H; with_reducible exact H2_) | with_reducible exact H | (rw [hy158]; exact H) | exact H
  have Ny158 := Aside0.mk hy158
  clear hy158
  replace H := Option.bind_eq_some_iff.mp H
  obtain ⟨⟨t161, t162⟩, A50, H⟩ := H
  replace H : (if t137 = 0 then (if t135.toList = ([105, 105, 111, 111, 105, 111] : List UInt8) then (if (t136.length : Int) = 0 then (if t145 = 0 then ((tickinglaw02_ints.f k t144 (([0, 1, 2] : List Int))).bind fun t168 => (if t168 = true then (if t152 = 0 then (if t151 = 3 then (if t157 = 0 then (if t156 = 4 then (if t162 = 0 then ((tickinglaw02_ints.f k t161 (([2, 1, 3] : List Int))).bind fun t172 => (tickinglaw02_awake.j0 k (!t172))) else (tickinglaw02_awake.j0 k true)) else (tickinglaw02_awake.j0 k true)) else (tickinglaw02_awake.j0 k true)) else (tickinglaw02_awake.j0 k true)) else (tickinglaw02_awake.j0 k true)) else (tickinglaw02_awake.j0 k true))) else (tickinglaw02_awake.j0 k true)) else (tickinglaw02_awake.j0 k true)) else (tickinglaw02_awake.j0 k true)) else (tickinglaw02_awake.j0 k true)) = some r := H
  have A5 := Aside0.mk A50
  clear A50
  have HC6 := Aside0.mk H
  clear H
  go_enter Try.func22, Try.ntmps22
  go_upto_region 6 with (first | ((with_reducible refine gate_dst (N := 14) rfl ?_); (try (refine gate_guard (by rfl) ?_; dsimp only)); refine Kd.R_lit (Kd.int .i64) _ 3 ?hg (N := 14) ?hd (xs := ([2, 1, 3] : List Int)) (inner := [.int .i64 2, .int .i64 1, .int .i64 3]) (ok := fun _ => True) (okp := fun _ => True) ?hr ?hp (fun _ hk => hk) trivial (Below.refl _ _) (Nat.le_refl _) (by simp) ?_; (case hd => rfl); (case hg => rfl); (case hr => first | (go_simp; done) | (go_simp; rfl)); (case hp => exact (Reps.one (show Kd.M (Kd.int .i64) _ _ _ 2 [.int .i64 2] from rfl) (Reps.one (show Kd.M (Kd.int .i64) _ _ _ 1 [.int .i64 1] from rfl) (Reps.one (show Kd.M (Kd.int .i64) _ _ _ 3 [.int .i64 3] from rfl) (Reps.none _ _))))); intro v133 w7 ho8 hb hg_ hnew_; clear hg_ hnew_; (first | rw [← Ny132.out] at ho8 | (simp only [Int.reduceToNat] at ho8; rw [← Ny132.out] at ho8)); have n0_ := Aside0.mk (Kd.R_lower ho8 (below_size (by repeat (first | (with_reducible first | exact HB.out | apply below_alloc | apply pw_below_drewN | apply below_drew1) | exact HB.out)))); have n1_ := Aside0.mk (below_step (by repeat (first | (with_reducible first | exact HB.out | apply below_alloc | apply pw_below_drewN | apply below_drew1) | exact HB.out)) hb); clear HB; have HO134 := n0_; have HB := n1_; clear n0_ n1_; clear hb ho8; obtain ⟨Ao9, co9, eo9⟩ := Kd.R_slice HO134.out; subst eo9) | ((with_reducible refine gate_callee (f := 28) rfl ?_); refine goesL_ (some 15) rfl rfl Try.func28 (by kernel_rfl) rfl #[.slice Ao9 y132.length co9] rfl (by (try simp only [List.map_toArray, List.map_cons, List.map_nil]); first | done | rfl | (simp only [List.length_drop, List.length_take]; rfl)) ?_; (with_reducible refine (shunt_Stack.calls k _ _ y132 t135 t136 t137 _ ?side1 ?side2 A1.out).mono ?_); (case side1 => repeat (first | exact (Kd.R_reads' HO134.out).2.2 | (with_reducible refine Kd.C_alloc ?_ _) | (with_reducible refine Kd.C_drewN ?_ _) | (with_reducible refine Kd.C_drew ?_))); (case side2 => exact (Kd.R_reads' HO134.out).2.1); rintro e w10 ⟨v138, rfl, ho0, hb⟩; refine ⟨_, rfl, ?_⟩; have n0_ := Aside0.mk (Kd.R_elder' (by (with_reducible repeat (first | apply Kd.R_alloc | apply Kd.R_drewN | apply Kd.R_drew)); exact HO134.out) (Kd.R_base ho0) hb); have n1_ := Aside0.mk (Kd.R_lower (Kd.R_new' ho0 (Kd.R_lt (by (with_reducible repeat (first | apply Kd.R_alloc | apply Kd.R_drewN | apply Kd.R_drew)); exact HO134.out))) (below_size (by repeat (first | (with_reducible first | exact HB.out | apply below_alloc | apply pw_below_drewN | apply below_drew1) | exact HB.out)))); have n2_ := Aside0.mk (below_step (by repeat (first | (with_reducible first | exact HB.out | apply below_alloc | apply pw_below_drewN | apply below_drew1) | exact HB.out)) hb); clear HO134; clear HB; have HO134 := n0_; have HO139 := n1_; have HB := n2_; clear n0_ n1_ n2_; (try clear hb); (try clear hb2); (try clear hk); (try clear hi); (try clear ho0)) | ((with_reducible refine gate_dst (N := 20) rfl ?_); (try (refine gate_guard (by rfl) ?_; dsimp only)); refine Kd.R_lit (Kd.int .i64) _ 3 ?hg (N := 20) ?hd (xs := ([2, 3, 1] : List Int)) (inner := [.int .i64 2, .int .i64 3, .int .i64 1]) (ok := fun _ => True) (okp := fun _ => True) ?hr ?hp (fun _ hk => hk) trivial (Below.refl _ _) (Nat.le_refl _) (by simp) ?_; (case hd => rfl); (case hg => rfl); (case hr => first | (go_simp; done) | (go_simp; rfl)); (case hp => exact (Reps.one (show Kd.M (Kd.int .i64) _ _ _ 2 [.int .i64 2] from rfl) (Reps.one (show Kd.M (Kd.int .i64) _ _ _ 3 [.int .i64 3] from rfl) (Reps.one (show Kd.M (Kd.int .i64) _ _ _ 1 [.int .i64 1] from rfl) (Reps.none _ _))))); intro v141 w11 ho12 hb hg_ hnew_; clear hg_ hnew_; (first | rw [← Ny140.out] at ho12 | (simp only [Int.reduceToNat] at ho12; rw [← Ny140.out] at ho12)); have n0_ := Aside0.mk (Kd.R_elder' (by (with_reducible repeat (first | apply Kd.R_alloc | apply Kd.R_drewN | apply Kd.R_drew)); exact HO134.out) (Kd.R_base ho12) hb); have n1_ := Aside0.mk (Kd.R_elder' (by (with_reducible repeat (first | apply Kd.R_alloc | apply Kd.R_drewN | apply Kd.R_drew)); exact HO139.out) (Kd.R_base ho12) hb); have n2_ := Aside0.mk (Kd.R_lower (Kd.R_new' (Kd.R_new' ho12 (Kd.R_lt (by (with_reducible repeat (first | apply Kd.R_alloc | apply Kd.R_drewN | apply Kd.R_drew)); exact HO134.out))) (Kd.R_lt (by (with_reducible repeat (first | apply Kd.R_alloc | apply Kd.R_drewN | apply Kd.R_drew)); exact HO139.out))) (below_size (by repeat (first | (with_reducible first | exact HB.out | apply below_alloc | apply pw_below_drewN | apply below_drew1) | exact HB.out)))); have n3_ := Aside0.mk (below_step (by repeat (first | (with_reducible first | exact HB.out | apply below_alloc | apply pw_below_drewN | apply below_drew1) | exact HB.out)) hb); clear HO134; clear HO139; clear HB; have HO134 := n0_; have HO139 := n1_; have HO142 := n2_; have HB := n3_; clear n0_ n1_ n2_ n3_; clear hb ho12; obtain ⟨Ao13, co13, eo13⟩ := Kd.R_slice HO142.out; subst eo13) | ((with_reducible refine gate_callee (f := 28) rfl ?_); refine goesL_ (some 21) rfl rfl Try.func28 (by kernel_rfl) rfl #[.slice Ao13 y140.length co13] rfl (by (try simp only [List.map_toArray, List.map_cons, List.map_nil]); first | done | rfl | (simp only [List.length_drop, List.length_take]; rfl)) ?_; (with_reducible refine (shunt_Stack.calls k _ _ y140 t143 t144 t145 _ ?side1 ?side2 A2.out).mono ?_); (case side1 => repeat (first | exact (Kd.R_reads' HO142.out).2.2 | (with_reducible refine Kd.C_alloc ?_ _) | (with_reducible refine Kd.C_drewN ?_ _) | (with_reducible refine Kd.C_drew ?_))); (case side2 => exact (Kd.R_reads' HO142.out).2.1); rintro e w14 ⟨v146, rfl, ho0, hb⟩; refine ⟨_, rfl, ?_⟩; have n0_ := Aside0.mk (Kd.R_elder' (by (with_reducible repeat (first | apply Kd.R_alloc | apply Kd.R_drewN | apply Kd.R_drew)); exact HO134.out) (Kd.R_base ho0) hb); have n1_ := Aside0.mk (Kd.R_elder' (by (with_reducible repeat (first | apply Kd.R_alloc | apply Kd.R_drewN | apply Kd.R_drew)); exact HO139.out) (Kd.R_base ho0) hb); have n2_ := Aside0.mk (Kd.R_elder' (by (with_reducible repeat (first | apply Kd.R_alloc | apply Kd.R_drewN | apply Kd.R_drew)); exact HO142.out) (Kd.R_base ho0) hb); have n3_ := Aside0.mk (Kd.R_lower (Kd.R_new' (Kd.R_new' (Kd.R_new' ho0 (Kd.R_lt (by (with_reducible repeat (first | apply Kd.R_alloc | apply Kd.R_drewN | apply Kd.R_drew)); exact HO134.out))) (Kd.R_lt (by (with_reducible repeat (first | apply Kd.R_alloc | apply Kd.R_drewN | apply Kd.R_drew)); exact HO139.out))) (Kd.R_lt (by (with_reducible repeat (first | apply Kd.R_alloc | apply Kd.R_drewN | apply Kd.R_drew)); exact HO142.out))) (below_size (by repeat (first | (with_reducible first | exact HB.out | apply below_alloc | apply pw_below_drewN | apply below_drew1) | exact HB.out)))); have n4_ := Aside0.mk (below_step (by repeat (first | (with_reducible first | exact HB.out | apply below_alloc | apply pw_below_drewN | apply below_drew1) | exact HB.out)) hb); clear HO134; clear HO139; clear HO142; clear HB; have HO134 := n0_; have HO139 := n1_; have HO142 := n2_; have HO147 := n3_; have HB := n4_; clear n0_ n1_ n2_ n3_ n4_; (try clear hb); (try clear hb2); (try clear hk); (try clear hi); (try clear ho0)) | ((with_reducible refine gate_dst (N := 26) rfl ?_); (try (refine gate_guard (by rfl) ?_; dsimp only)); refine Kd.R_lit (Kd.int .i64) _ 3 ?hg (N := 26) ?hd (xs := ([3, 2, 1] : List Int)) (inner := [.int .i64 3, .int .i64 2, .int .i64 1]) (ok := fun _ => True) (okp := fun _ => True) ?hr ?hp (fun _ hk => hk) trivial (Below.refl _ _) (Nat.le_refl _) (by simp) ?_; (case hd => rfl); (case hg => rfl); (case hr => first | (go_simp; done) | (go_simp; rfl)); (case hp => exact (Reps.one (show Kd.M (Kd.int .i64) _ _ _ 3 [.int .i64 3] from rfl) (Reps.one (show Kd.M (Kd.int .i64) _ _ _ 2 [.int .i64 2] from rfl) (Reps.one (show Kd.M (Kd.int .i64) _ _ _ 1 [.int .i64 1] from rfl) (Reps.none _ _))))); intro v149 w15 ho16 hb hg_ hnew_; clear hg_ hnew_; (first | rw [← Ny148.out] at ho16 | (simp only [Int.reduceToNat] at ho16; rw [← Ny148.out] at ho16)); have n0_ := Aside0.mk (Kd.R_elder' (by (with_reducible repeat (first | apply Kd.R_alloc | apply Kd.R_drewN | apply Kd.R_drew)); exact HO134.out) (Kd.R_base ho16) hb); have n1_ := Aside0.mk (Kd.R_elder' (by (with_reducible repeat (first | apply Kd.R_alloc | apply Kd.R_drewN | apply Kd.R_drew)); exact HO139.out) (Kd.R_base ho16) hb); have n2_ := Aside0.mk (Kd.R_elder' (by (with_reducible repeat (first | apply Kd.R_alloc | apply Kd.R_drewN | apply Kd.R_drew)); exact HO142.out) (Kd.R_base ho16) hb); have n3_ := Aside0.mk (Kd.R_elder' (by (with_reducible repeat (first | apply Kd.R_alloc | apply Kd.R_drewN | apply Kd.R_drew)); exact HO147.out) (Kd.R_base ho16) hb); have n4_ := Aside0.mk (Kd.R_lower (Kd.R_new' (Kd.R_new' (Kd.R_new' (Kd.R_new' ho16 (Kd.R_lt (by (with_reducible repeat (first | apply Kd.R_alloc | apply Kd.R_drewN | apply Kd.R_drew)); exact HO134.out))) (Kd.R_lt (by (with_reducible repeat (first | apply Kd.R_alloc | apply Kd.R_drewN | apply Kd.R_drew)); exact HO139.out))) (Kd.R_lt (by (with_reducible repeat (first | apply Kd.R_alloc | apply Kd.R_drewN | apply Kd.R_drew)); exact HO142.out))) (Kd.R_lt (by (with_reducible repeat (first | apply Kd.R_alloc | apply Kd.R_drewN | apply Kd.R_drew)); exact HO147.out))) (below_size (by repeat (first | (with_reducible first | exact HB.out | apply below_alloc | apply pw_below_drewN | apply below_drew1) | exact HB.out)))); have n5_ := Aside0.mk (below_step (by repeat (first | (with_reducible first | exact HB.out | apply below_alloc | apply pw_below_drewN | apply below_drew1) | exact HB.out)) hb); clear HO134; clear HO139; clear HO142; clear HO147; clear HB; have HO134 := n0_; have HO139 := n1_; have HO142 := n2_; have HO147 := n3_; have HO150 := n4_; have HB := n5_; clear n0_ n1_ n2_ n3_ n4_ n5_; clear hb ho16; obtain ⟨Ao17, co17, eo17⟩ := Kd.R_slice HO150.out; subst eo17) | ((with_reducible refine gate_callee (f := 29) rfl ?_); refine goesL_ (some 27) rfl rfl Try.func29 (by kernel_rfl) rfl #[.slice Ao17 y148.length co17] rfl (by (try simp only [List.map_toArray, List.map_cons, List.map_nil]); first | done | rfl | (simp only [List.length_drop, List.length_take]; rfl)) ?_; (with_reducible refine (shunt_Least.calls k _ _ y148 t151 t152 _ ?side1 ?side2 A3.out).mono ?_); (case side1 => repeat (first | exact (Kd.R_reads' HO150.out).2.2 | (with_reducible refine Kd.C_alloc ?_ _) | (with_reducible refine Kd.C_drewN ?_ _) | (with_reducible refine Kd.C_drew ?_))); (case side2 => exact (Kd.R_reads' HO150.out).2.1); rintro e w18 ⟨rfl, hb⟩; refine ⟨_, rfl, ?_⟩; have n0_ := Aside0.mk (Kd.R_below (by (with_reducible repeat (first | apply Kd.R_alloc | apply Kd.R_drewN | apply Kd.R_drew)); exact HO134.out) hb); have n1_ := Aside0.mk (Kd.R_below (by (with_reducible repeat (first | apply Kd.R_alloc | apply Kd.R_drewN | apply Kd.R_drew)); exact HO139.out) hb); have n2_ := Aside0.mk (Kd.R_below (by (with_reducible repeat (first | apply Kd.R_alloc | apply Kd.R_drewN | apply Kd.R_drew)); exact HO142.out) hb); have n3_ := Aside0.mk (Kd.R_below (by (with_reducible repeat (first | apply Kd.R_alloc | apply Kd.R_drewN | apply Kd.R_drew)); exact HO147.out) hb); have n4_ := Aside0.mk (Kd.R_below (by (with_reducible repeat (first | apply Kd.R_alloc | apply Kd.R_drewN | apply Kd.R_drew)); exact HO150.out) hb); have n5_ := Aside0.mk (below_step (by repeat (first | (with_reducible first | exact HB.out | apply below_alloc | apply pw_below_drewN | apply below_drew1) | exact HB.out)) hb); clear HO134; clear HO139; clear HO142; clear HO147; clear HO150; clear HB; have HO134 := n0_; have HO139 := n1_; have HO142 := n2_; have HO147 := n3_; have HO150 := n4_; have HB := n5_; clear n0_ n1_ n2_ n3_ n4_ n5_; (try clear hb); (try clear hb2); (try clear hk); (try clear hi)) | ((with_reducible refine gate_dst (N := 31) rfl ?_); (try (refine gate_guard (by rfl) ?_; dsimp only)); refine Kd.R_lit (Kd.int .i64) _ 3 ?hg (N := 31) ?hd (xs := ([3, 2, 1] : List Int)) (inner := [.int .i64 3, .int .i64 2, .int .i64 1]) (ok := fun _ => True) (okp := fun _ => True) ?hr ?hp (fun _ hk => hk) trivial (Below.refl _ _) (Nat.le_refl _) (by simp) ?_; (case hd => rfl); (case hg => rfl); (case hr => first | (go_simp; done) | (go_simp; rfl)); (case hp => exact (Reps.one (show Kd.M (Kd.int .i64) _ _ _ 3 [.int .i64 3] from rfl) (Reps.one (show Kd.M (Kd.int .i64) _ _ _ 2 [.int .i64 2] from rfl) (Reps.one (show Kd.M (Kd.int .i64) _ _ _ 1 [.int .i64 1] from rfl) (Reps.none _ _))))); intro v154 w19 ho20 hb hg_ hnew_; clear hg_ hnew_; (first | rw [← Ny153.out] at ho20 | (simp only [Int.reduceToNat] at ho20; rw [← Ny153.out] at ho20)); have n0_ := Aside0.mk (Kd.R_elder' (by (with_reducible repeat (first | apply Kd.R_alloc | apply Kd.R_drewN | apply Kd.R_drew)); exact HO134.out) (Kd.R_base ho20) hb); have n1_ := Aside0.mk (Kd.R_elder' (by (with_reducible repeat (first | apply Kd.R_alloc | apply Kd.R_drewN | apply Kd.R_drew)); exact HO139.out) (Kd.R_base ho20) hb); have n2_ := Aside0.mk (Kd.R_elder' (by (with_reducible repeat (first | apply Kd.R_alloc | apply Kd.R_drewN | apply Kd.R_drew)); exact HO142.out) (Kd.R_base ho20) hb); have n3_ := Aside0.mk (Kd.R_elder' (by (with_reducible repeat (first | apply Kd.R_alloc | apply Kd.R_drewN | apply Kd.R_drew)); exact HO147.out) (Kd.R_base ho20) hb); have n4_ := Aside0.mk (Kd.R_elder' (by (with_reducible repeat (first | apply Kd.R_alloc | apply Kd.R_drewN | apply Kd.R_drew)); exact HO150.out) (Kd.R_base ho20) hb); have n5_ := Aside0.mk (Kd.R_lower (Kd.R_new' (Kd.R_new' (Kd.R_new' (Kd.R_new' (Kd.R_new' ho20 (Kd.R_lt (by (with_reducible repeat (first | apply Kd.R_alloc | apply Kd.R_drewN | apply Kd.R_drew)); exact HO134.out))) (Kd.R_lt (by (with_reducible repeat (first | apply Kd.R_alloc | apply Kd.R_drewN | apply Kd.R_drew)); exact HO139.out))) (Kd.R_lt (by (with_reducible repeat (first | apply Kd.R_alloc | apply Kd.R_drewN | apply Kd.R_drew)); exact HO142.out))) (Kd.R_lt (by (with_reducible repeat (first | apply Kd.R_alloc | apply Kd.R_drewN | apply Kd.R_drew)); exact HO147.out))) (Kd.R_lt (by (with_reducible repeat (first | apply Kd.R_alloc | apply Kd.R_drewN | apply Kd.R_drew)); exact HO150.out))) (below_size (by repeat (first | (with_reducible first | exact HB.out | apply below_alloc | apply pw_below_drewN | apply below_drew1) | exact HB.out)))); have n6_ := Aside0.mk (below_step (by repeat (first | (with_reducible first | exact HB.out | apply below_alloc | apply pw_below_drewN | apply below_drew1) | exact HB.out)) hb); clear HO134; clear HO139; clear HO142; clear HO147; clear HO150; clear HB; have HO134 := n0_; have HO139 := n1_; have HO142 := n2_; have HO147 := n3_; have HO150 := n4_; have HO155 := n5_; have HB := n6_; clear n0_ n1_ n2_ n3_ n4_ n5_ n6_; clear hb ho20; obtain ⟨Ao21, co21, eo21⟩ := Kd.R_slice HO155.out; subst eo21) | ((with_reducible refine gate_callee (f := 19) rfl ?_); refine goesL_ (some 32) rfl rfl Try.func19 (by kernel_rfl) rfl #[.slice Ao21 y153.length co21] rfl (by (try simp only [List.map_toArray, List.map_cons, List.map_nil]); first | done | rfl | (simp only [List.length_drop, List.length_take]; rfl)) ?_; (with_reducible refine (shunt_Rank.calls k _ _ y153 t156 t157 _ ?side1 ?side2 A4.out).mono ?_); (case side1 => repeat (first | exact (Kd.R_reads' HO155.out).2.2 | (with_reducible refine Kd.C_alloc ?_ _) | (with_reducible refine Kd.C_drewN ?_ _) | (with_reducible refine Kd.C_drew ?_))); (case side2 => exact (Kd.R_reads' HO155.out).2.1); rintro e w22 ⟨rfl, hb⟩; refine ⟨_, rfl, ?_⟩; have n0_ := Aside0.mk (Kd.R_below (by (with_reducible repeat (first | apply Kd.R_alloc | apply Kd.R_drewN | apply Kd.R_drew)); exact HO134.out) hb); have n1_ := Aside0.mk (Kd.R_below (by (with_reducible repeat (first | apply Kd.R_alloc | apply Kd.R_drewN | apply Kd.R_drew)); exact HO139.out) hb); have n2_ := Aside0.mk (Kd.R_below (by (with_reducible repeat (first | apply Kd.R_alloc | apply Kd.R_drewN | apply Kd.R_drew)); exact HO142.out) hb); have n3_ := Aside0.mk (Kd.R_below (by (with_reducible repeat (first | apply Kd.R_alloc | apply Kd.R_drewN | apply Kd.R_drew)); exact HO147.out) hb); have n4_ := Aside0.mk (Kd.R_below (by (with_reducible repeat (first | apply Kd.R_alloc | apply Kd.R_drewN | apply Kd.R_drew)); exact HO150.out) hb); have n5_ := Aside0.mk (Kd.R_below (by (with_reducible repeat (first | apply Kd.R_alloc | apply Kd.R_drewN | apply Kd.R_drew)); exact HO155.out) hb); have n6_ := Aside0.mk (below_step (by repeat (first | (with_reducible first | exact HB.out | apply below_alloc | apply pw_below_drewN | apply below_drew1) | exact HB.out)) hb); clear HO134; clear HO139; clear HO142; clear HO147; clear HO150; clear HO155; clear HB; have HO134 := n0_; have HO139 := n1_; have HO142 := n2_; have HO147 := n3_; have HO150 := n4_; have HO155 := n5_; have HB := n6_; clear n0_ n1_ n2_ n3_ n4_ n5_ n6_; (try clear hb); (try clear hb2); (try clear hk); (try clear hi)) | ((with_reducible refine gate_dst (N := 36) rfl ?_); (try (refine gate_guard (by rfl) ?_; dsimp only)); refine Kd.R_lit (Kd.int .i64) _ 3 ?hg (N := 36) ?hd (xs := ([2, 3, 1] : List Int)) (inner := [.int .i64 2, .int .i64 3, .int .i64 1]) (ok := fun _ => True) (okp := fun _ => True) ?hr ?hp (fun _ hk => hk) trivial (Below.refl _ _) (Nat.le_refl _) (by simp) ?_; (case hd => rfl); (case hg => rfl); (case hr => first | (go_simp; done) | (go_simp; rfl)); (case hp => exact (Reps.one (show Kd.M (Kd.int .i64) _ _ _ 2 [.int .i64 2] from rfl) (Reps.one (show Kd.M (Kd.int .i64) _ _ _ 3 [.int .i64 3] from rfl) (Reps.one (show Kd.M (Kd.int .i64) _ _ _ 1 [.int .i64 1] from rfl) (Reps.none _ _))))); intro v159 w23 ho24 hb hg_ hnew_; clear hg_ hnew_; (first | rw [← Ny158.out] at ho24 | (simp only [Int.reduceToNat] at ho24; rw [← Ny158.out] at ho24)); have n0_ := Aside0.mk (Kd.R_elder' (by (with_reducible repeat (first | apply Kd.R_alloc | apply Kd.R_drewN | apply Kd.R_drew)); exact HO134.out) (Kd.R_base ho24) hb); have n1_ := Aside0.mk (Kd.R_elder' (by (with_reducible repeat (first | apply Kd.R_alloc | apply Kd.R_drewN | apply Kd.R_drew)); exact HO139.out) (Kd.R_base ho24) hb); have n2_ := Aside0.mk (Kd.R_elder' (by (with_reducible repeat (first | apply Kd.R_alloc | apply Kd.R_drewN | apply Kd.R_drew)); exact HO142.out) (Kd.R_base ho24) hb); have n3_ := Aside0.mk (Kd.R_elder' (by (with_reducible repeat (first | apply Kd.R_alloc | apply Kd.R_drewN | apply Kd.R_drew)); exact HO147.out) (Kd.R_base ho24) hb); have n4_ := Aside0.mk (Kd.R_elder' (by (with_reducible repeat (first | apply Kd.R_alloc | apply Kd.R_drewN | apply Kd.R_drew)); exact HO150.out) (Kd.R_base ho24) hb); have n5_ := Aside0.mk (Kd.R_elder' (by (with_reducible repeat (first | apply Kd.R_alloc | apply Kd.R_drewN | apply Kd.R_drew)); exact HO155.out) (Kd.R_base ho24) hb); have n6_ := Aside0.mk (Kd.R_lower (Kd.R_new' (Kd.R_new' (Kd.R_new' (Kd.R_new' (Kd.R_new' (Kd.R_new' ho24 (Kd.R_lt (by (with_reducible repeat (first | apply Kd.R_alloc | apply Kd.R_drewN | apply Kd.R_drew)); exact HO134.out))) (Kd.R_lt (by (with_reducible repeat (first | apply Kd.R_alloc | apply Kd.R_drewN | apply Kd.R_drew)); exact HO139.out))) (Kd.R_lt (by (with_reducible repeat (first | apply Kd.R_alloc | apply Kd.R_drewN | apply Kd.R_drew)); exact HO142.out))) (Kd.R_lt (by (with_reducible repeat (first | apply Kd.R_alloc | apply Kd.R_drewN | apply Kd.R_drew)); exact HO147.out))) (Kd.R_lt (by (with_reducible repeat (first | apply Kd.R_alloc | apply Kd.R_drewN | apply Kd.R_drew)); exact HO150.out))) (Kd.R_lt (by (with_reducible repeat (first | apply Kd.R_alloc | apply Kd.R_drewN | apply Kd.R_drew)); exact HO155.out))) (below_size (by repeat (first | (with_reducible first | exact HB.out | apply below_alloc | apply pw_below_drewN | apply below_drew1) | exact HB.out)))); have n7_ := Aside0.mk (below_step (by repeat (first | (with_reducible first | exact HB.out | apply below_alloc | apply pw_below_drewN | apply below_drew1) | exact HB.out)) hb); clear HO134; clear HO139; clear HO142; clear HO147; clear HO150; clear HO155; clear HB; have HO134 := n0_; have HO139 := n1_; have HO142 := n2_; have HO147 := n3_; have HO150 := n4_; have HO155 := n5_; have HO160 := n6_; have HB := n7_; clear n0_ n1_ n2_ n3_ n4_ n5_ n6_ n7_; clear hb ho24; obtain ⟨Ao25, co25, eo25⟩ := Kd.R_slice HO160.out; subst eo25) | ((with_reducible refine gate_callee (f := 20) rfl ?_); refine goesL_ (some 37) rfl rfl Try.func20 (by kernel_rfl) rfl #[.slice Ao25 y158.length co25] rfl (by (try simp only [List.map_toArray, List.map_cons, List.map_nil]); first | done | rfl | (simp only [List.length_drop, List.length_take]; rfl)) ?_; (with_reducible refine (shunt_Pass.calls _ _ y158 t161 t162 _ ?side1 ?side2 A5.out).mono ?_); (case side1 => repeat (first | exact (Kd.R_reads' HO160.out).2.2 | (with_reducible refine Kd.C_alloc ?_ _) | (with_reducible refine Kd.C_drewN ?_ _) | (with_reducible refine Kd.C_drew ?_))); (case side2 => exact (Kd.R_reads' HO160.out).2.1); rintro e w26 ⟨v163, rfl, ho0, hb⟩; refine ⟨_, rfl, ?_⟩; have n0_ := Aside0.mk (Kd.R_elder' (by (with_reducible repeat (first | apply Kd.R_alloc | apply Kd.R_drewN | apply Kd.R_drew)); exact HO134.out) (Kd.R_base ho0) hb); have n1_ := Aside0.mk (Kd.R_elder' (by (with_reducible repeat (first | apply Kd.R_alloc | apply Kd.R_drewN | apply Kd.R_drew)); exact HO139.out) (Kd.R_base ho0) hb); have n2_ := Aside0.mk (Kd.R_elder' (by (with_reducible repeat (first | apply Kd.R_alloc | apply Kd.R_drewN | apply Kd.R_drew)); exact HO142.out) (Kd.R_base ho0) hb); have n3_ := Aside0.mk (Kd.R_elder' (by (with_reducible repeat (first | apply Kd.R_alloc | apply Kd.R_drewN | apply Kd.R_drew)); exact HO147.out) (Kd.R_base ho0) hb); have n4_ := Aside0.mk (Kd.R_elder' (by (with_reducible repeat (first | apply Kd.R_alloc | apply Kd.R_drewN | apply Kd.R_drew)); exact HO150.out) (Kd.R_base ho0) hb); have n5_ := Aside0.mk (Kd.R_elder' (by (with_reducible repeat (first | apply Kd.R_alloc | apply Kd.R_drewN | apply Kd.R_drew)); exact HO155.out) (Kd.R_base ho0) hb); have n6_ := Aside0.mk (Kd.R_elder' (by (with_reducible repeat (first | apply Kd.R_alloc | apply Kd.R_drewN | apply Kd.R_drew)); exact HO160.out) (Kd.R_base ho0) hb); have n7_ := Aside0.mk (Kd.R_lower (Kd.R_new' (Kd.R_new' (Kd.R_new' (Kd.R_new' (Kd.R_new' (Kd.R_new' (Kd.R_new' ho0 (Kd.R_lt (by (with_reducible repeat (first | apply Kd.R_alloc | apply Kd.R_drewN | apply Kd.R_drew)); exact HO134.out))) (Kd.R_lt (by (with_reducible repeat (first | apply Kd.R_alloc | apply Kd.R_drewN | apply Kd.R_drew)); exact HO139.out))) (Kd.R_lt (by (with_reducible repeat (first | apply Kd.R_alloc | apply Kd.R_drewN | apply Kd.R_drew)); exact HO142.out))) (Kd.R_lt (by (with_reducible repeat (first | apply Kd.R_alloc | apply Kd.R_drewN | apply Kd.R_drew)); exact HO147.out))) (Kd.R_lt (by (with_reducible repeat (first | apply Kd.R_alloc | apply Kd.R_drewN | apply Kd.R_drew)); exact HO150.out))) (Kd.R_lt (by (with_reducible repeat (first | apply Kd.R_alloc | apply Kd.R_drewN | apply Kd.R_drew)); exact HO155.out))) (Kd.R_lt (by (with_reducible repeat (first | apply Kd.R_alloc | apply Kd.R_drewN | apply Kd.R_drew)); exact HO160.out))) (below_size (by repeat (first | (with_reducible first | exact HB.out | apply below_alloc | apply pw_below_drewN | apply below_drew1) | exact HB.out)))); have n8_ := Aside0.mk (below_step (by repeat (first | (with_reducible first | exact HB.out | apply below_alloc | apply pw_below_drewN | apply below_drew1) | exact HB.out)) hb); clear HO134; clear HO139; clear HO142; clear HO147; clear HO150; clear HO155; clear HO160; clear HB; have HO134 := n0_; have HO139 := n1_; have HO142 := n2_; have HO147 := n3_; have HO150 := n4_; have HO155 := n5_; have HO160 := n6_; have HO164 := n7_; have HB := n8_; clear n0_ n1_ n2_ n3_ n4_ n5_ n6_ n7_ n8_; (try clear hb); (try clear hb2); (try clear hk); (try clear hi); (try clear ho0)))
  (try simp only [Act.put, List.setIfInBounds_toArray, List.set_cons_zero, List.set_cons_succ])
  go_cut [86] (fun v86 wc => ∃ (kq : Nat) (x86_5 : Bool), v86 = .bool x86_5 ∧ Aside0 (tickinglaw02_awake.j0 kq x86_5 = some r) ∧ Aside0 (kq ≤ k) ∧ Aside0 (Below w.heap.size w wc))
  case first =>
    have H := HC6.out
    clear HC6
    by_cases c27 : t137 = 0
    · rw [if_pos c27] at H
      have c27b0 : (t137 == 0) = true := beq_iff_eq.mpr c27
      have c27b1 : (t137 != 0) = false := bne_eq_false_iff_eq.mpr c27
      clear c27
      (first | rw [c27b0] | (simp only [i64_w, i32_w]; rw [c27b0]) | skip)
      by_cases c28 : t135.toList = ([105, 105, 111, 111, 105, 111] : List UInt8)
      · rw [if_pos c28] at H
        have c28b0 : (t135.toList == ([105, 105, 111, 111, 105, 111] : List UInt8)) = true := beq_iff_eq.mpr c28
        have c28b1 : (t135.toList != ([105, 105, 111, 111, 105, 111] : List UInt8)) = false := bne_eq_false_iff_eq.mpr c28
        clear c28
        by_cases c29 : (t136.length : Int) = 0
        · rw [if_pos c29] at H
          have c29b0 : ((t136.length : Int) == 0) = true := beq_iff_eq.mpr c29
          have c29b1 : ((t136.length : Int) != 0) = false := bne_eq_false_iff_eq.mpr c29
          clear c29
          by_cases c30 : t145 = 0
          · rw [if_pos c30] at H
            have c30b0 : (t145 == 0) = true := beq_iff_eq.mpr c30
            have c30b1 : (t145 != 0) = false := bne_eq_false_iff_eq.mpr c30
            clear c30
            obtain ⟨y165, hy165⟩ : ∃ y_ : List Int, y_ = (([0, 1, 2] : List Int)) := ⟨_, rfl⟩
            replace H : ((tickinglaw02_ints.f k t144 y165).bind fun t168 => (if t168 = true then (if t152 = 0 then (if t151 = 3 then (if t157 = 0 then (if t156 = 4 then (if t162 = 0 then ((tickinglaw02_ints.f k t161 (([2, 1, 3] : List Int))).bind fun t172 => (tickinglaw02_awake.j0 k (!t172))) else (tickinglaw02_awake.j0 k true)) else (tickinglaw02_awake.j0 k true)) else (tickinglaw02_awake.j0 k true)) else (tickinglaw02_awake.j0 k true)) else (tickinglaw02_awake.j0 k true)) else (tickinglaw02_awake.j0 k true))) = some r := by first | (rw [hy165]; with_reducible exact H) | (have H2_ := (Option.bind_some _ _).symm.trans H; rw [hy165]; with_reducible exact H2_) | (have H2_ := (Option.bind_some _ _).symm.trans H; with_reducible exact H2_) | with_reducible exact H | (rw [hy165]; exact H) | exact H
            have Ny165 := Aside0.mk hy165
            clear hy165
            replace H := Option.bind_eq_some_iff.mp H
            obtain ⟨t168, A310, H⟩ := H
            replace H : (if t168 = true then (if t152 = 0 then (if t151 = 3 then (if t157 = 0 then (if t156 = 4 then (if t162 = 0 then ((tickinglaw02_ints.f k t161 (([2, 1, 3] : List Int))).bind fun t172 => (tickinglaw02_awake.j0 k (!t172))) else (tickinglaw02_awake.j0 k true)) else (tickinglaw02_awake.j0 k true)) else (tickinglaw02_awake.j0 k true)) else (tickinglaw02_awake.j0 k true)) else (tickinglaw02_awake.j0 k true)) else (tickinglaw02_awake.j0 k true)) = some r := H
            have A31 := Aside0.mk A310
            clear A310
            by_cases c32 : t168 = true
            · subst c32
              have H1 : (if t152 = 0 then (if t151 = 3 then (if t157 = 0 then (if t156 = 4 then (if t162 = 0 then ((tickinglaw02_ints.f k t161 (([2, 1, 3] : List Int))).bind fun t172 => (tickinglaw02_awake.j0 k (!t172))) else (tickinglaw02_awake.j0 k true)) else (tickinglaw02_awake.j0 k true)) else (tickinglaw02_awake.j0 k true)) else (tickinglaw02_awake.j0 k true)) else (tickinglaw02_awake.j0 k true)) = some r := by rw [if_pos rfl] at H; exact H
              clear H
              have H := H1
              clear H1
              by_cases c33 : t152 = 0
              · rw [if_pos c33] at H
                have c33b0 : (t152 == 0) = true := beq_iff_eq.mpr c33
                have c33b1 : (t152 != 0) = false := bne_eq_false_iff_eq.mpr c33
                clear c33
                by_cases c34 : t151 = 3
                · rw [if_pos c34] at H
                  have c34b0 : (t151 == 3) = true := beq_iff_eq.mpr c34
                  have c34b1 : (t151 != 3) = false := bne_eq_false_iff_eq.mpr c34
                  clear c34
                  by_cases c35 : t157 = 0
                  · rw [if_pos c35] at H
                    have c35b0 : (t157 == 0) = true := beq_iff_eq.mpr c35
                    have c35b1 : (t157 != 0) = false := bne_eq_false_iff_eq.mpr c35
                    clear c35
                    by_cases c36 : t156 = 4
                    · rw [if_pos c36] at H
                      have c36b0 : (t156 == 4) = true := beq_iff_eq.mpr c36
                      have c36b1 : (t156 != 4) = false := bne_eq_false_iff_eq.mpr c36
                      clear c36
                      by_cases c37 : t162 = 0
                      · rw [if_pos c37] at H
                        have c37b0 : (t162 == 0) = true := beq_iff_eq.mpr c37
                        have c37b1 : (t162 != 0) = false := bne_eq_false_iff_eq.mpr c37
                        clear c37
                        obtain ⟨y169, hy169⟩ : ∃ y_ : List Int, y_ = (([2, 1, 3] : List Int)) := ⟨_, rfl⟩
                        replace H : ((tickinglaw02_ints.f k t161 y169).bind fun t172 => (tickinglaw02_awake.j0 k (!t172))) = some r := by first | (rw [hy169]; with_reducible exact H) | (have H2_ := (Option.bind_some _ _).symm.trans H; rw [hy169]; with_reducible exact H2_) | (have H2_ := (Option.bind_some _ _).symm.trans H; with_reducible exact H2_) | with_reducible exact H | (rw [hy169]; exact H) | exact H
                        have Ny169 := Aside0.mk hy169
                        clear hy169
                        replace H := Option.bind_eq_some_iff.mp H
                        obtain ⟨t172, A380, H⟩ := H
                        replace H : (tickinglaw02_awake.j0 k (!t172)) = some r := H
                        have A38 := Aside0.mk A380
                        clear A380
                        have H' := Aside0.mk H
                        clear H
                        obtain ⟨Ao39, co39, eo39⟩ := Kd.R_slice HO139.out
                        subst eo39
                        go_wp2_with (first | ((with_reducible refine gate_dst (N := 57) rfl ?_); (try (refine gate_guard (by rfl) ?_; dsimp only)); refine Kd.R_lit (Kd.int .i64) _ 3 ?hg (N := 57) ?hd (xs := ([0, 1, 2] : List Int)) (inner := [.int .i64 0, .int .i64 1, .int .i64 2]) (ok := fun _ => True) (okp := fun _ => True) ?hr ?hp (fun _ hk => hk) trivial (Below.refl _ _) (Nat.le_refl _) (by simp) ?_; (case hd => rfl); (case hg => rfl); (case hr => first | (go_simp; done) | (go_simp; rfl)); (case hp => exact (Reps.one (show Kd.M (Kd.int .i64) _ _ _ 0 [.int .i64 0] from rfl) (Reps.one (show Kd.M (Kd.int .i64) _ _ _ 1 [.int .i64 1] from rfl) (Reps.one (show Kd.M (Kd.int .i64) _ _ _ 2 [.int .i64 2] from rfl) (Reps.none _ _))))); intro v166 w40 ho41 hb hg_ hnew_; clear hg_ hnew_; (first | rw [← Ny165.out] at ho41 | (simp only [Int.reduceToNat] at ho41; rw [← Ny165.out] at ho41)); have n0_ := Aside0.mk (Kd.R_elder' (by (with_reducible repeat (first | apply Kd.R_alloc | apply Kd.R_drewN | apply Kd.R_drew)); exact HO134.out) (Kd.R_base ho41) hb); have n1_ := Aside0.mk (Kd.R_elder' (by (with_reducible repeat (first | apply Kd.R_alloc | apply Kd.R_drewN | apply Kd.R_drew)); exact HO139.out) (Kd.R_base ho41) hb); have n2_ := Aside0.mk (Kd.R_elder' (by (with_reducible repeat (first | apply Kd.R_alloc | apply Kd.R_drewN | apply Kd.R_drew)); exact HO142.out) (Kd.R_base ho41) hb); have n3_ := Aside0.mk (Kd.R_elder' (by (with_reducible repeat (first | apply Kd.R_alloc | apply Kd.R_drewN | apply Kd.R_drew)); exact HO147.out) (Kd.R_base ho41) hb); have n4_ := Aside0.mk (Kd.R_elder' (by (with_reducible repeat (first | apply Kd.R_alloc | apply Kd.R_drewN | apply Kd.R_drew)); exact HO150.out) (Kd.R_base ho41) hb); have n5_ := Aside0.mk (Kd.R_elder' (by (with_reducible repeat (first | apply Kd.R_alloc | apply Kd.R_drewN | apply Kd.R_drew)); exact HO155.out) (Kd.R_base ho41) hb); have n6_ := Aside0.mk (Kd.R_elder' (by (with_reducible repeat (first | apply Kd.R_alloc | apply Kd.R_drewN | apply Kd.R_drew)); exact HO160.out) (Kd.R_base ho41) hb); have n7_ := Aside0.mk (Kd.R_elder' (by (with_reducible repeat (first | apply Kd.R_alloc | apply Kd.R_drewN | apply Kd.R_drew)); exact HO164.out) (Kd.R_base ho41) hb); have n8_ := Aside0.mk (Kd.R_lower (Kd.R_new' (Kd.R_new' (Kd.R_new' (Kd.R_new' (Kd.R_new' (Kd.R_new' (Kd.R_new' (Kd.R_new' ho41 (Kd.R_lt (by (with_reducible repeat (first | apply Kd.R_alloc | apply Kd.R_drewN | apply Kd.R_drew)); exact HO134.out))) (Kd.R_lt (by (with_reducible repeat (first | apply Kd.R_alloc | apply Kd.R_drewN | apply Kd.R_drew)); exact HO139.out))) (Kd.R_lt (by (with_reducible repeat (first | apply Kd.R_alloc | apply Kd.R_drewN | apply Kd.R_drew)); exact HO142.out))) (Kd.R_lt (by (with_reducible repeat (first | apply Kd.R_alloc | apply Kd.R_drewN | apply Kd.R_drew)); exact HO147.out))) (Kd.R_lt (by (with_reducible repeat (first | apply Kd.R_alloc | apply Kd.R_drewN | apply Kd.R_drew)); exact HO150.out))) (Kd.R_lt (by (with_reducible repeat (first | apply Kd.R_alloc | apply Kd.R_drewN | apply Kd.R_drew)); exact HO155.out))) (Kd.R_lt (by (with_reducible repeat (first | apply Kd.R_alloc | apply Kd.R_drewN | apply Kd.R_drew)); exact HO160.out))) (Kd.R_lt (by (with_reducible repeat (first | apply Kd.R_alloc | apply Kd.R_drewN | apply Kd.R_drew)); exact HO164.out))) (below_size (by repeat (first | (with_reducible first | exact HB.out | apply below_alloc | apply pw_below_drewN | apply below_drew1) | exact HB.out)))); have n9_ := Aside0.mk (below_step (by repeat (first | (with_reducible first | exact HB.out | apply below_alloc | apply pw_below_drewN | apply below_drew1) | exact HB.out)) hb); clear HO134; clear HO139; clear HO142; clear HO147; clear HO150; clear HO155; clear HO160; clear HO164; clear HB; have HO134 := n0_; have HO139 := n1_; have HO142 := n2_; have HO147 := n3_; have HO150 := n4_; have HO155 := n5_; have HO160 := n6_; have HO164 := n7_; have HO167 := n8_; have HB := n9_; clear n0_ n1_ n2_ n3_ n4_ n5_ n6_ n7_ n8_ n9_; clear hb ho41; obtain ⟨Ao42, co42, eo42⟩ := Kd.R_slice HO147.out; subst eo42; obtain ⟨Ao43, co43, eo43⟩ := Kd.R_slice HO167.out; subst eo43) | (go_at_call 23; (with_reducible refine (tickinglaw02_ints.calls k _ _ t144 _ _ y165 true _ ?side1 ?side2 ?side3 ?side4 A31.out).mono ?_); (case side1 => repeat (first | exact (Kd.R_reads' HO147.out).2.2 | (with_reducible refine Kd.C_alloc ?_ _) | (with_reducible refine Kd.C_drewN ?_ _) | (with_reducible refine Kd.C_drew ?_))); (case side2 => exact (Kd.R_reads' HO147.out).2.1); (case side3 => repeat (first | exact (Kd.R_reads' HO167.out).2.2 | (with_reducible refine Kd.C_alloc ?_ _) | (with_reducible refine Kd.C_drewN ?_ _) | (with_reducible refine Kd.C_drew ?_))); (case side4 => exact (Kd.R_reads' HO167.out).2.1); rintro e w' ⟨rfl, ⟨nd, rfl⟩⟩) | ((with_reducible refine gate_dst (N := 83) rfl ?_); (try (refine gate_guard (by rfl) ?_; dsimp only)); refine Kd.R_lit (Kd.int .i64) _ 3 ?hg (N := 83) ?hd (xs := ([2, 1, 3] : List Int)) (inner := [.int .i64 2, .int .i64 1, .int .i64 3]) (ok := fun _ => True) (okp := fun _ => True) ?hr ?hp (fun _ hk => hk) trivial (Below.refl _ _) (Nat.le_refl _) (by simp) ?_; (case hd => rfl); (case hg => rfl); (case hr => first | (go_simp; done) | (go_simp; rfl)); (case hp => exact (Reps.one (show Kd.M (Kd.int .i64) _ _ _ 2 [.int .i64 2] from rfl) (Reps.one (show Kd.M (Kd.int .i64) _ _ _ 1 [.int .i64 1] from rfl) (Reps.one (show Kd.M (Kd.int .i64) _ _ _ 3 [.int .i64 3] from rfl) (Reps.none _ _))))); intro v170 w44 ho45 hb hg_ hnew_; clear hg_ hnew_; (first | rw [← Ny169.out] at ho45 | (simp only [Int.reduceToNat] at ho45; rw [← Ny169.out] at ho45)); have n0_ := Aside0.mk (Kd.R_elder' (by (with_reducible repeat (first | apply Kd.R_alloc | apply Kd.R_drewN | apply Kd.R_drew)); exact HO134.out) (Kd.R_base ho45) hb); have n1_ := Aside0.mk (Kd.R_elder' (by (with_reducible repeat (first | apply Kd.R_alloc | apply Kd.R_drewN | apply Kd.R_drew)); exact HO139.out) (Kd.R_base ho45) hb); have n2_ := Aside0.mk (Kd.R_elder' (by (with_reducible repeat (first | apply Kd.R_alloc | apply Kd.R_drewN | apply Kd.R_drew)); exact HO142.out) (Kd.R_base ho45) hb); have n3_ := Aside0.mk (Kd.R_elder' (by (with_reducible repeat (first | apply Kd.R_alloc | apply Kd.R_drewN | apply Kd.R_drew)); exact HO147.out) (Kd.R_base ho45) hb); have n4_ := Aside0.mk (Kd.R_elder' (by (with_reducible repeat (first | apply Kd.R_alloc | apply Kd.R_drewN | apply Kd.R_drew)); exact HO150.out) (Kd.R_base ho45) hb); have n5_ := Aside0.mk (Kd.R_elder' (by (with_reducible repeat (first | apply Kd.R_alloc | apply Kd.R_drewN | apply Kd.R_drew)); exact HO155.out) (Kd.R_base ho45) hb); have n6_ := Aside0.mk (Kd.R_elder' (by (with_reducible repeat (first | apply Kd.R_alloc | apply Kd.R_drewN | apply Kd.R_drew)); exact HO160.out) (Kd.R_base ho45) hb); have n7_ := Aside0.mk (Kd.R_elder' (by (with_reducible repeat (first | apply Kd.R_alloc | apply Kd.R_drewN | apply Kd.R_drew)); exact HO164.out) (Kd.R_base ho45) hb); have n8_ := Aside0.mk (Kd.R_elder' (by (with_reducible repeat (first | apply Kd.R_alloc | apply Kd.R_drewN | apply Kd.R_drew)); exact HO167.out) (Kd.R_base ho45) hb); have n9_ := Aside0.mk (Kd.R_lower (Kd.R_new' (Kd.R_new' (Kd.R_new' (Kd.R_new' (Kd.R_new' (Kd.R_new' (Kd.R_new' (Kd.R_new' (Kd.R_new' ho45 (Kd.R_lt (by (with_reducible repeat (first | apply Kd.R_alloc | apply Kd.R_drewN | apply Kd.R_drew)); exact HO134.out))) (Kd.R_lt (by (with_reducible repeat (first | apply Kd.R_alloc | apply Kd.R_drewN | apply Kd.R_drew)); exact HO139.out))) (Kd.R_lt (by (with_reducible repeat (first | apply Kd.R_alloc | apply Kd.R_drewN | apply Kd.R_drew)); exact HO142.out))) (Kd.R_lt (by (with_reducible repeat (first | apply Kd.R_alloc | apply Kd.R_drewN | apply Kd.R_drew)); exact HO147.out))) (Kd.R_lt (by (with_reducible repeat (first | apply Kd.R_alloc | apply Kd.R_drewN | apply Kd.R_drew)); exact HO150.out))) (Kd.R_lt (by (with_reducible repeat (first | apply Kd.R_alloc | apply Kd.R_drewN | apply Kd.R_drew)); exact HO155.out))) (Kd.R_lt (by (with_reducible repeat (first | apply Kd.R_alloc | apply Kd.R_drewN | apply Kd.R_drew)); exact HO160.out))) (Kd.R_lt (by (with_reducible repeat (first | apply Kd.R_alloc | apply Kd.R_drewN | apply Kd.R_drew)); exact HO164.out))) (Kd.R_lt (by (with_reducible repeat (first | apply Kd.R_alloc | apply Kd.R_drewN | apply Kd.R_drew)); exact HO167.out))) (below_size (by repeat (first | (with_reducible first | exact HB.out | apply below_alloc | apply pw_below_drewN | apply below_drew1) | exact HB.out)))); have n10_ := Aside0.mk (below_step (by repeat (first | (with_reducible first | exact HB.out | apply below_alloc | apply pw_below_drewN | apply below_drew1) | exact HB.out)) hb); clear HO134; clear HO139; clear HO142; clear HO147; clear HO150; clear HO155; clear HO160; clear HO164; clear HO167; clear HB; have HO134 := n0_; have HO139 := n1_; have HO142 := n2_; have HO147 := n3_; have HO150 := n4_; have HO155 := n5_; have HO160 := n6_; have HO164 := n7_; have HO167 := n8_; have HO171 := n9_; have HB := n10_; clear n0_ n1_ n2_ n3_ n4_ n5_ n6_ n7_ n8_ n9_ n10_; clear hb ho45; obtain ⟨Ao46, co46, eo46⟩ := Kd.R_slice HO164.out; subst eo46; obtain ⟨Ao47, co47, eo47⟩ := Kd.R_slice HO171.out; subst eo47) | (go_at_call 23; (with_reducible refine (tickinglaw02_ints.calls k _ _ t161 _ _ y169 t172 _ ?side1 ?side2 ?side3 ?side4 A38.out).mono ?_); (case side1 => repeat (first | exact (Kd.R_reads' HO164.out).2.2 | (with_reducible refine Kd.C_alloc ?_ _) | (with_reducible refine Kd.C_drewN ?_ _) | (with_reducible refine Kd.C_drew ?_))); (case side2 => exact (Kd.R_reads' HO164.out).2.1); (case side3 => repeat (first | exact (Kd.R_reads' HO171.out).2.2 | (with_reducible refine Kd.C_alloc ?_ _) | (with_reducible refine Kd.C_drewN ?_ _) | (with_reducible refine Kd.C_drew ?_))); (case side4 => exact (Kd.R_reads' HO171.out).2.1); rintro e w' ⟨rfl, ⟨nd, rfl⟩⟩))
                        go_meet
                        case rel => exact ⟨_, (!t172), (by first | rfl | (simp; done) | (simp [*]; done)), H', ⟨by first | omega | exact Nat.le_refl _⟩, ⟨by repeat (first | (with_reducible first | exact HB.out | apply below_alloc | apply pw_below_drewN | apply below_drew1) | exact HB.out)⟩⟩
                      · rw [if_neg c37] at H
                        have c37b0 : (t162 == 0) = false := beq_eq_false_iff_ne.mpr c37
                        have c37b1 : (t162 != 0) = true := bne_iff_ne.mpr c37
                        have H' := Aside0.mk H
                        clear H
                        obtain ⟨Ao48, co48, eo48⟩ := Kd.R_slice HO139.out
                        subst eo48
                        go_wp2_with (first | ((with_reducible refine gate_dst (N := 57) rfl ?_); (try (refine gate_guard (by rfl) ?_; dsimp only)); refine Kd.R_lit (Kd.int .i64) _ 3 ?hg (N := 57) ?hd (xs := ([0, 1, 2] : List Int)) (inner := [.int .i64 0, .int .i64 1, .int .i64 2]) (ok := fun _ => True) (okp := fun _ => True) ?hr ?hp (fun _ hk => hk) trivial (Below.refl _ _) (Nat.le_refl _) (by simp) ?_; (case hd => rfl); (case hg => rfl); (case hr => first | (go_simp; done) | (go_simp; rfl)); (case hp => exact (Reps.one (show Kd.M (Kd.int .i64) _ _ _ 0 [.int .i64 0] from rfl) (Reps.one (show Kd.M (Kd.int .i64) _ _ _ 1 [.int .i64 1] from rfl) (Reps.one (show Kd.M (Kd.int .i64) _ _ _ 2 [.int .i64 2] from rfl) (Reps.none _ _))))); intro v166 w49 ho50 hb hg_ hnew_; clear hg_ hnew_; (first | rw [← Ny165.out] at ho50 | (simp only [Int.reduceToNat] at ho50; rw [← Ny165.out] at ho50)); have n0_ := Aside0.mk (Kd.R_elder' (by (with_reducible repeat (first | apply Kd.R_alloc | apply Kd.R_drewN | apply Kd.R_drew)); exact HO134.out) (Kd.R_base ho50) hb); have n1_ := Aside0.mk (Kd.R_elder' (by (with_reducible repeat (first | apply Kd.R_alloc | apply Kd.R_drewN | apply Kd.R_drew)); exact HO139.out) (Kd.R_base ho50) hb); have n2_ := Aside0.mk (Kd.R_elder' (by (with_reducible repeat (first | apply Kd.R_alloc | apply Kd.R_drewN | apply Kd.R_drew)); exact HO142.out) (Kd.R_base ho50) hb); have n3_ := Aside0.mk (Kd.R_elder' (by (with_reducible repeat (first | apply Kd.R_alloc | apply Kd.R_drewN | apply Kd.R_drew)); exact HO147.out) (Kd.R_base ho50) hb); have n4_ := Aside0.mk (Kd.R_elder' (by (with_reducible repeat (first | apply Kd.R_alloc | apply Kd.R_drewN | apply Kd.R_drew)); exact HO150.out) (Kd.R_base ho50) hb); have n5_ := Aside0.mk (Kd.R_elder' (by (with_reducible repeat (first | apply Kd.R_alloc | apply Kd.R_drewN | apply Kd.R_drew)); exact HO155.out) (Kd.R_base ho50) hb); have n6_ := Aside0.mk (Kd.R_elder' (by (with_reducible repeat (first | apply Kd.R_alloc | apply Kd.R_drewN | apply Kd.R_drew)); exact HO160.out) (Kd.R_base ho50) hb); have n7_ := Aside0.mk (Kd.R_elder' (by (with_reducible repeat (first | apply Kd.R_alloc | apply Kd.R_drewN | apply Kd.R_drew)); exact HO164.out) (Kd.R_base ho50) hb); have n8_ := Aside0.mk (Kd.R_lower (Kd.R_new' (Kd.R_new' (Kd.R_new' (Kd.R_new' (Kd.R_new' (Kd.R_new' (Kd.R_new' (Kd.R_new' ho50 (Kd.R_lt (by (with_reducible repeat (first | apply Kd.R_alloc | apply Kd.R_drewN | apply Kd.R_drew)); exact HO134.out))) (Kd.R_lt (by (with_reducible repeat (first | apply Kd.R_alloc | apply Kd.R_drewN | apply Kd.R_drew)); exact HO139.out))) (Kd.R_lt (by (with_reducible repeat (first | apply Kd.R_alloc | apply Kd.R_drewN | apply Kd.R_drew)); exact HO142.out))) (Kd.R_lt (by (with_reducible repeat (first | apply Kd.R_alloc | apply Kd.R_drewN | apply Kd.R_drew)); exact HO147.out))) (Kd.R_lt (by (with_reducible repeat (first | apply Kd.R_alloc | apply Kd.R_drewN | apply Kd.R_drew)); exact HO150.out))) (Kd.R_lt (by (with_reducible repeat (first | apply Kd.R_alloc | apply Kd.R_drewN | apply Kd.R_drew)); exact HO155.out))) (Kd.R_lt (by (with_reducible repeat (first | apply Kd.R_alloc | apply Kd.R_drewN | apply Kd.R_drew)); exact HO160.out))) (Kd.R_lt (by (with_reducible repeat (first | apply Kd.R_alloc | apply Kd.R_drewN | apply Kd.R_drew)); exact HO164.out))) (below_size (by repeat (first | (with_reducible first | exact HB.out | apply below_alloc | apply pw_below_drewN | apply below_drew1) | exact HB.out)))); have n9_ := Aside0.mk (below_step (by repeat (first | (with_reducible first | exact HB.out | apply below_alloc | apply pw_below_drewN | apply below_drew1) | exact HB.out)) hb); clear HO134; clear HO139; clear HO142; clear HO147; clear HO150; clear HO155; clear HO160; clear HO164; clear HB; have HO134 := n0_; have HO139 := n1_; have HO142 := n2_; have HO147 := n3_; have HO150 := n4_; have HO155 := n5_; have HO160 := n6_; have HO164 := n7_; have HO167 := n8_; have HB := n9_; clear n0_ n1_ n2_ n3_ n4_ n5_ n6_ n7_ n8_ n9_; clear hb ho50; obtain ⟨Ao51, co51, eo51⟩ := Kd.R_slice HO147.out; subst eo51; obtain ⟨Ao52, co52, eo52⟩ := Kd.R_slice HO167.out; subst eo52) | (go_at_call 23; (with_reducible refine (tickinglaw02_ints.calls k _ _ t144 _ _ y165 true _ ?side1 ?side2 ?side3 ?side4 A31.out).mono ?_); (case side1 => repeat (first | exact (Kd.R_reads' HO147.out).2.2 | (with_reducible refine Kd.C_alloc ?_ _) | (with_reducible refine Kd.C_drewN ?_ _) | (with_reducible refine Kd.C_drew ?_))); (case side2 => exact (Kd.R_reads' HO147.out).2.1); (case side3 => repeat (first | exact (Kd.R_reads' HO167.out).2.2 | (with_reducible refine Kd.C_alloc ?_ _) | (with_reducible refine Kd.C_drewN ?_ _) | (with_reducible refine Kd.C_drew ?_))); (case side4 => exact (Kd.R_reads' HO167.out).2.1); rintro e w' ⟨rfl, ⟨nd, rfl⟩⟩))
                        go_meet
                        case rel => exact ⟨_, (true), (by first | rfl | (simp; done) | (simp [*]; done)), H', ⟨by first | omega | exact Nat.le_refl _⟩, ⟨by repeat (first | (with_reducible first | exact HB.out | apply below_alloc | apply pw_below_drewN | apply below_drew1) | exact HB.out)⟩⟩
                    · rw [if_neg c36] at H
                      have c36b0 : (t156 == 4) = false := beq_eq_false_iff_ne.mpr c36
                      have c36b1 : (t156 != 4) = true := bne_iff_ne.mpr c36
                      have H' := Aside0.mk H
                      clear H
                      obtain ⟨Ao53, co53, eo53⟩ := Kd.R_slice HO139.out
                      subst eo53
                      go_wp2_with (first | ((with_reducible refine gate_dst (N := 57) rfl ?_); (try (refine gate_guard (by rfl) ?_; dsimp only)); refine Kd.R_lit (Kd.int .i64) _ 3 ?hg (N := 57) ?hd (xs := ([0, 1, 2] : List Int)) (inner := [.int .i64 0, .int .i64 1, .int .i64 2]) (ok := fun _ => True) (okp := fun _ => True) ?hr ?hp (fun _ hk => hk) trivial (Below.refl _ _) (Nat.le_refl _) (by simp) ?_; (case hd => rfl); (case hg => rfl); (case hr => first | (go_simp; done) | (go_simp; rfl)); (case hp => exact (Reps.one (show Kd.M (Kd.int .i64) _ _ _ 0 [.int .i64 0] from rfl) (Reps.one (show Kd.M (Kd.int .i64) _ _ _ 1 [.int .i64 1] from rfl) (Reps.one (show Kd.M (Kd.int .i64) _ _ _ 2 [.int .i64 2] from rfl) (Reps.none _ _))))); intro v166 w54 ho55 hb hg_ hnew_; clear hg_ hnew_; (first | rw [← Ny165.out] at ho55 | (simp only [Int.reduceToNat] at ho55; rw [← Ny165.out] at ho55)); have n0_ := Aside0.mk (Kd.R_elder' (by (with_reducible repeat (first | apply Kd.R_alloc | apply Kd.R_drewN | apply Kd.R_drew)); exact HO134.out) (Kd.R_base ho55) hb); have n1_ := Aside0.mk (Kd.R_elder' (by (with_reducible repeat (first | apply Kd.R_alloc | apply Kd.R_drewN | apply Kd.R_drew)); exact HO139.out) (Kd.R_base ho55) hb); have n2_ := Aside0.mk (Kd.R_elder' (by (with_reducible repeat (first | apply Kd.R_alloc | apply Kd.R_drewN | apply Kd.R_drew)); exact HO142.out) (Kd.R_base ho55) hb); have n3_ := Aside0.mk (Kd.R_elder' (by (with_reducible repeat (first | apply Kd.R_alloc | apply Kd.R_drewN | apply Kd.R_drew)); exact HO147.out) (Kd.R_base ho55) hb); have n4_ := Aside0.mk (Kd.R_elder' (by (with_reducible repeat (first | apply Kd.R_alloc | apply Kd.R_drewN | apply Kd.R_drew)); exact HO150.out) (Kd.R_base ho55) hb); have n5_ := Aside0.mk (Kd.R_elder' (by (with_reducible repeat (first | apply Kd.R_alloc | apply Kd.R_drewN | apply Kd.R_drew)); exact HO155.out) (Kd.R_base ho55) hb); have n6_ := Aside0.mk (Kd.R_elder' (by (with_reducible repeat (first | apply Kd.R_alloc | apply Kd.R_drewN | apply Kd.R_drew)); exact HO160.out) (Kd.R_base ho55) hb); have n7_ := Aside0.mk (Kd.R_elder' (by (with_reducible repeat (first | apply Kd.R_alloc | apply Kd.R_drewN | apply Kd.R_drew)); exact HO164.out) (Kd.R_base ho55) hb); have n8_ := Aside0.mk (Kd.R_lower (Kd.R_new' (Kd.R_new' (Kd.R_new' (Kd.R_new' (Kd.R_new' (Kd.R_new' (Kd.R_new' (Kd.R_new' ho55 (Kd.R_lt (by (with_reducible repeat (first | apply Kd.R_alloc | apply Kd.R_drewN | apply Kd.R_drew)); exact HO134.out))) (Kd.R_lt (by (with_reducible repeat (first | apply Kd.R_alloc | apply Kd.R_drewN | apply Kd.R_drew)); exact HO139.out))) (Kd.R_lt (by (with_reducible repeat (first | apply Kd.R_alloc | apply Kd.R_drewN | apply Kd.R_drew)); exact HO142.out))) (Kd.R_lt (by (with_reducible repeat (first | apply Kd.R_alloc | apply Kd.R_drewN | apply Kd.R_drew)); exact HO147.out))) (Kd.R_lt (by (with_reducible repeat (first | apply Kd.R_alloc | apply Kd.R_drewN | apply Kd.R_drew)); exact HO150.out))) (Kd.R_lt (by (with_reducible repeat (first | apply Kd.R_alloc | apply Kd.R_drewN | apply Kd.R_drew)); exact HO155.out))) (Kd.R_lt (by (with_reducible repeat (first | apply Kd.R_alloc | apply Kd.R_drewN | apply Kd.R_drew)); exact HO160.out))) (Kd.R_lt (by (with_reducible repeat (first | apply Kd.R_alloc | apply Kd.R_drewN | apply Kd.R_drew)); exact HO164.out))) (below_size (by repeat (first | (with_reducible first | exact HB.out | apply below_alloc | apply pw_below_drewN | apply below_drew1) | exact HB.out)))); have n9_ := Aside0.mk (below_step (by repeat (first | (with_reducible first | exact HB.out | apply below_alloc | apply pw_below_drewN | apply below_drew1) | exact HB.out)) hb); clear HO134; clear HO139; clear HO142; clear HO147; clear HO150; clear HO155; clear HO160; clear HO164; clear HB; have HO134 := n0_; have HO139 := n1_; have HO142 := n2_; have HO147 := n3_; have HO150 := n4_; have HO155 := n5_; have HO160 := n6_; have HO164 := n7_; have HO167 := n8_; have HB := n9_; clear n0_ n1_ n2_ n3_ n4_ n5_ n6_ n7_ n8_ n9_; clear hb ho55; obtain ⟨Ao56, co56, eo56⟩ := Kd.R_slice HO147.out; subst eo56; obtain ⟨Ao57, co57, eo57⟩ := Kd.R_slice HO167.out; subst eo57) | (go_at_call 23; (with_reducible refine (tickinglaw02_ints.calls k _ _ t144 _ _ y165 true _ ?side1 ?side2 ?side3 ?side4 A31.out).mono ?_); (case side1 => repeat (first | exact (Kd.R_reads' HO147.out).2.2 | (with_reducible refine Kd.C_alloc ?_ _) | (with_reducible refine Kd.C_drewN ?_ _) | (with_reducible refine Kd.C_drew ?_))); (case side2 => exact (Kd.R_reads' HO147.out).2.1); (case side3 => repeat (first | exact (Kd.R_reads' HO167.out).2.2 | (with_reducible refine Kd.C_alloc ?_ _) | (with_reducible refine Kd.C_drewN ?_ _) | (with_reducible refine Kd.C_drew ?_))); (case side4 => exact (Kd.R_reads' HO167.out).2.1); rintro e w' ⟨rfl, ⟨nd, rfl⟩⟩))
                      go_meet
                      case rel => exact ⟨_, (true), (by first | rfl | (simp; done) | (simp [*]; done)), H', ⟨by first | omega | exact Nat.le_refl _⟩, ⟨by repeat (first | (with_reducible first | exact HB.out | apply below_alloc | apply pw_below_drewN | apply below_drew1) | exact HB.out)⟩⟩
                  · rw [if_neg c35] at H
                    have c35b0 : (t157 == 0) = false := beq_eq_false_iff_ne.mpr c35
                    have c35b1 : (t157 != 0) = true := bne_iff_ne.mpr c35
                    have H' := Aside0.mk H
                    clear H
                    obtain ⟨Ao58, co58, eo58⟩ := Kd.R_slice HO139.out
                    subst eo58
                    go_wp2_with (first | ((with_reducible refine gate_dst (N := 57) rfl ?_); (try (refine gate_guard (by rfl) ?_; dsimp only)); refine Kd.R_lit (Kd.int .i64) _ 3 ?hg (N := 57) ?hd (xs := ([0, 1, 2] : List Int)) (inner := [.int .i64 0, .int .i64 1, .int .i64 2]) (ok := fun _ => True) (okp := fun _ => True) ?hr ?hp (fun _ hk => hk) trivial (Below.refl _ _) (Nat.le_refl _) (by simp) ?_; (case hd => rfl); (case hg => rfl); (case hr => first | (go_simp; done) | (go_simp; rfl)); (case hp => exact (Reps.one (show Kd.M (Kd.int .i64) _ _ _ 0 [.int .i64 0] from rfl) (Reps.one (show Kd.M (Kd.int .i64) _ _ _ 1 [.int .i64 1] from rfl) (Reps.one (show Kd.M (Kd.int .i64) _ _ _ 2 [.int .i64 2] from rfl) (Reps.none _ _))))); intro v166 w59 ho60 hb hg_ hnew_; clear hg_ hnew_; (first | rw [← Ny165.out] at ho60 | (simp only [Int.reduceToNat] at ho60; rw [← Ny165.out] at ho60)); have n0_ := Aside0.mk (Kd.R_elder' (by (with_reducible repeat (first | apply Kd.R_alloc | apply Kd.R_drewN | apply Kd.R_drew)); exact HO134.out) (Kd.R_base ho60) hb); have n1_ := Aside0.mk (Kd.R_elder' (by (with_reducible repeat (first | apply Kd.R_alloc | apply Kd.R_drewN | apply Kd.R_drew)); exact HO139.out) (Kd.R_base ho60) hb); have n2_ := Aside0.mk (Kd.R_elder' (by (with_reducible repeat (first | apply Kd.R_alloc | apply Kd.R_drewN | apply Kd.R_drew)); exact HO142.out) (Kd.R_base ho60) hb); have n3_ := Aside0.mk (Kd.R_elder' (by (with_reducible repeat (first | apply Kd.R_alloc | apply Kd.R_drewN | apply Kd.R_drew)); exact HO147.out) (Kd.R_base ho60) hb); have n4_ := Aside0.mk (Kd.R_elder' (by (with_reducible repeat (first | apply Kd.R_alloc | apply Kd.R_drewN | apply Kd.R_drew)); exact HO150.out) (Kd.R_base ho60) hb); have n5_ := Aside0.mk (Kd.R_elder' (by (with_reducible repeat (first | apply Kd.R_alloc | apply Kd.R_drewN | apply Kd.R_drew)); exact HO155.out) (Kd.R_base ho60) hb); have n6_ := Aside0.mk (Kd.R_elder' (by (with_reducible repeat (first | apply Kd.R_alloc | apply Kd.R_drewN | apply Kd.R_drew)); exact HO160.out) (Kd.R_base ho60) hb); have n7_ := Aside0.mk (Kd.R_elder' (by (with_reducible repeat (first | apply Kd.R_alloc | apply Kd.R_drewN | apply Kd.R_drew)); exact HO164.out) (Kd.R_base ho60) hb); have n8_ := Aside0.mk (Kd.R_lower (Kd.R_new' (Kd.R_new' (Kd.R_new' (Kd.R_new' (Kd.R_new' (Kd.R_new' (Kd.R_new' (Kd.R_new' ho60 (Kd.R_lt (by (with_reducible repeat (first | apply Kd.R_alloc | apply Kd.R_drewN | apply Kd.R_drew)); exact HO134.out))) (Kd.R_lt (by (with_reducible repeat (first | apply Kd.R_alloc | apply Kd.R_drewN | apply Kd.R_drew)); exact HO139.out))) (Kd.R_lt (by (with_reducible repeat (first | apply Kd.R_alloc | apply Kd.R_drewN | apply Kd.R_drew)); exact HO142.out))) (Kd.R_lt (by (with_reducible repeat (first | apply Kd.R_alloc | apply Kd.R_drewN | apply Kd.R_drew)); exact HO147.out))) (Kd.R_lt (by (with_reducible repeat (first | apply Kd.R_alloc | apply Kd.R_drewN | apply Kd.R_drew)); exact HO150.out))) (Kd.R_lt (by (with_reducible repeat (first | apply Kd.R_alloc | apply Kd.R_drewN | apply Kd.R_drew)); exact HO155.out))) (Kd.R_lt (by (with_reducible repeat (first | apply Kd.R_alloc | apply Kd.R_drewN | apply Kd.R_drew)); exact HO160.out))) (Kd.R_lt (by (with_reducible repeat (first | apply Kd.R_alloc | apply Kd.R_drewN | apply Kd.R_drew)); exact HO164.out))) (below_size (by repeat (first | (with_reducible first | exact HB.out | apply below_alloc | apply pw_below_drewN | apply below_drew1) | exact HB.out)))); have n9_ := Aside0.mk (below_step (by repeat (first | (with_reducible first | exact HB.out | apply below_alloc | apply pw_below_drewN | apply below_drew1) | exact HB.out)) hb); clear HO134; clear HO139; clear HO142; clear HO147; clear HO150; clear HO155; clear HO160; clear HO164; clear HB; have HO134 := n0_; have HO139 := n1_; have HO142 := n2_; have HO147 := n3_; have HO150 := n4_; have HO155 := n5_; have HO160 := n6_; have HO164 := n7_; have HO167 := n8_; have HB := n9_; clear n0_ n1_ n2_ n3_ n4_ n5_ n6_ n7_ n8_ n9_; clear hb ho60; obtain ⟨Ao61, co61, eo61⟩ := Kd.R_slice HO147.out; subst eo61; obtain ⟨Ao62, co62, eo62⟩ := Kd.R_slice HO167.out; subst eo62) | (go_at_call 23; (with_reducible refine (tickinglaw02_ints.calls k _ _ t144 _ _ y165 true _ ?side1 ?side2 ?side3 ?side4 A31.out).mono ?_); (case side1 => repeat (first | exact (Kd.R_reads' HO147.out).2.2 | (with_reducible refine Kd.C_alloc ?_ _) | (with_reducible refine Kd.C_drewN ?_ _) | (with_reducible refine Kd.C_drew ?_))); (case side2 => exact (Kd.R_reads' HO147.out).2.1); (case side3 => repeat (first | exact (Kd.R_reads' HO167.out).2.2 | (with_reducible refine Kd.C_alloc ?_ _) | (with_reducible refine Kd.C_drewN ?_ _) | (with_reducible refine Kd.C_drew ?_))); (case side4 => exact (Kd.R_reads' HO167.out).2.1); rintro e w' ⟨rfl, ⟨nd, rfl⟩⟩))
                    go_meet
                    case rel => exact ⟨_, (true), (by first | rfl | (simp; done) | (simp [*]; done)), H', ⟨by first | omega | exact Nat.le_refl _⟩, ⟨by repeat (first | (with_reducible first | exact HB.out | apply below_alloc | apply pw_below_drewN | apply below_drew1) | exact HB.out)⟩⟩
                · rw [if_neg c34] at H
                  have c34b0 : (t151 == 3) = false := beq_eq_false_iff_ne.mpr c34
                  have c34b1 : (t151 != 3) = true := bne_iff_ne.mpr c34
                  have H' := Aside0.mk H
                  clear H
                  obtain ⟨Ao63, co63, eo63⟩ := Kd.R_slice HO139.out
                  subst eo63
                  go_wp2_with (first | ((with_reducible refine gate_dst (N := 57) rfl ?_); (try (refine gate_guard (by rfl) ?_; dsimp only)); refine Kd.R_lit (Kd.int .i64) _ 3 ?hg (N := 57) ?hd (xs := ([0, 1, 2] : List Int)) (inner := [.int .i64 0, .int .i64 1, .int .i64 2]) (ok := fun _ => True) (okp := fun _ => True) ?hr ?hp (fun _ hk => hk) trivial (Below.refl _ _) (Nat.le_refl _) (by simp) ?_; (case hd => rfl); (case hg => rfl); (case hr => first | (go_simp; done) | (go_simp; rfl)); (case hp => exact (Reps.one (show Kd.M (Kd.int .i64) _ _ _ 0 [.int .i64 0] from rfl) (Reps.one (show Kd.M (Kd.int .i64) _ _ _ 1 [.int .i64 1] from rfl) (Reps.one (show Kd.M (Kd.int .i64) _ _ _ 2 [.int .i64 2] from rfl) (Reps.none _ _))))); intro v166 w64 ho65 hb hg_ hnew_; clear hg_ hnew_; (first | rw [← Ny165.out] at ho65 | (simp only [Int.reduceToNat] at ho65; rw [← Ny165.out] at ho65)); have n0_ := Aside0.mk (Kd.R_elder' (by (with_reducible repeat (first | apply Kd.R_alloc | apply Kd.R_drewN | apply Kd.R_drew)); exact HO134.out) (Kd.R_base ho65) hb); have n1_ := Aside0.mk (Kd.R_elder' (by (with_reducible repeat (first | apply Kd.R_alloc | apply Kd.R_drewN | apply Kd.R_drew)); exact HO139.out) (Kd.R_base ho65) hb); have n2_ := Aside0.mk (Kd.R_elder' (by (with_reducible repeat (first | apply Kd.R_alloc | apply Kd.R_drewN | apply Kd.R_drew)); exact HO142.out) (Kd.R_base ho65) hb); have n3_ := Aside0.mk (Kd.R_elder' (by (with_reducible repeat (first | apply Kd.R_alloc | apply Kd.R_drewN | apply Kd.R_drew)); exact HO147.out) (Kd.R_base ho65) hb); have n4_ := Aside0.mk (Kd.R_elder' (by (with_reducible repeat (first | apply Kd.R_alloc | apply Kd.R_drewN | apply Kd.R_drew)); exact HO150.out) (Kd.R_base ho65) hb); have n5_ := Aside0.mk (Kd.R_elder' (by (with_reducible repeat (first | apply Kd.R_alloc | apply Kd.R_drewN | apply Kd.R_drew)); exact HO155.out) (Kd.R_base ho65) hb); have n6_ := Aside0.mk (Kd.R_elder' (by (with_reducible repeat (first | apply Kd.R_alloc | apply Kd.R_drewN | apply Kd.R_drew)); exact HO160.out) (Kd.R_base ho65) hb); have n7_ := Aside0.mk (Kd.R_elder' (by (with_reducible repeat (first | apply Kd.R_alloc | apply Kd.R_drewN | apply Kd.R_drew)); exact HO164.out) (Kd.R_base ho65) hb); have n8_ := Aside0.mk (Kd.R_lower (Kd.R_new' (Kd.R_new' (Kd.R_new' (Kd.R_new' (Kd.R_new' (Kd.R_new' (Kd.R_new' (Kd.R_new' ho65 (Kd.R_lt (by (with_reducible repeat (first | apply Kd.R_alloc | apply Kd.R_drewN | apply Kd.R_drew)); exact HO134.out))) (Kd.R_lt (by (with_reducible repeat (first | apply Kd.R_alloc | apply Kd.R_drewN | apply Kd.R_drew)); exact HO139.out))) (Kd.R_lt (by (with_reducible repeat (first | apply Kd.R_alloc | apply Kd.R_drewN | apply Kd.R_drew)); exact HO142.out))) (Kd.R_lt (by (with_reducible repeat (first | apply Kd.R_alloc | apply Kd.R_drewN | apply Kd.R_drew)); exact HO147.out))) (Kd.R_lt (by (with_reducible repeat (first | apply Kd.R_alloc | apply Kd.R_drewN | apply Kd.R_drew)); exact HO150.out))) (Kd.R_lt (by (with_reducible repeat (first | apply Kd.R_alloc | apply Kd.R_drewN | apply Kd.R_drew)); exact HO155.out))) (Kd.R_lt (by (with_reducible repeat (first | apply Kd.R_alloc | apply Kd.R_drewN | apply Kd.R_drew)); exact HO160.out))) (Kd.R_lt (by (with_reducible repeat (first | apply Kd.R_alloc | apply Kd.R_drewN | apply Kd.R_drew)); exact HO164.out))) (below_size (by repeat (first | (with_reducible first | exact HB.out | apply below_alloc | apply pw_below_drewN | apply below_drew1) | exact HB.out)))); have n9_ := Aside0.mk (below_step (by repeat (first | (with_reducible first | exact HB.out | apply below_alloc | apply pw_below_drewN | apply below_drew1) | exact HB.out)) hb); clear HO134; clear HO139; clear HO142; clear HO147; clear HO150; clear HO155; clear HO160; clear HO164; clear HB; have HO134 := n0_; have HO139 := n1_; have HO142 := n2_; have HO147 := n3_; have HO150 := n4_; have HO155 := n5_; have HO160 := n6_; have HO164 := n7_; have HO167 := n8_; have HB := n9_; clear n0_ n1_ n2_ n3_ n4_ n5_ n6_ n7_ n8_ n9_; clear hb ho65; obtain ⟨Ao66, co66, eo66⟩ := Kd.R_slice HO147.out; subst eo66; obtain ⟨Ao67, co67, eo67⟩ := Kd.R_slice HO167.out; subst eo67) | (go_at_call 23; (with_reducible refine (tickinglaw02_ints.calls k _ _ t144 _ _ y165 true _ ?side1 ?side2 ?side3 ?side4 A31.out).mono ?_); (case side1 => repeat (first | exact (Kd.R_reads' HO147.out).2.2 | (with_reducible refine Kd.C_alloc ?_ _) | (with_reducible refine Kd.C_drewN ?_ _) | (with_reducible refine Kd.C_drew ?_))); (case side2 => exact (Kd.R_reads' HO147.out).2.1); (case side3 => repeat (first | exact (Kd.R_reads' HO167.out).2.2 | (with_reducible refine Kd.C_alloc ?_ _) | (with_reducible refine Kd.C_drewN ?_ _) | (with_reducible refine Kd.C_drew ?_))); (case side4 => exact (Kd.R_reads' HO167.out).2.1); rintro e w' ⟨rfl, ⟨nd, rfl⟩⟩))
                  go_meet
                  case rel => exact ⟨_, (true), (by first | rfl | (simp; done) | (simp [*]; done)), H', ⟨by first | omega | exact Nat.le_refl _⟩, ⟨by repeat (first | (with_reducible first | exact HB.out | apply below_alloc | apply pw_below_drewN | apply below_drew1) | exact HB.out)⟩⟩
              · rw [if_neg c33] at H
                have c33b0 : (t152 == 0) = false := beq_eq_false_iff_ne.mpr c33
                have c33b1 : (t152 != 0) = true := bne_iff_ne.mpr c33
                have H' := Aside0.mk H
                clear H
                obtain ⟨Ao68, co68, eo68⟩ := Kd.R_slice HO139.out
                subst eo68
                go_wp2_with (first | ((with_reducible refine gate_dst (N := 57) rfl ?_); (try (refine gate_guard (by rfl) ?_; dsimp only)); refine Kd.R_lit (Kd.int .i64) _ 3 ?hg (N := 57) ?hd (xs := ([0, 1, 2] : List Int)) (inner := [.int .i64 0, .int .i64 1, .int .i64 2]) (ok := fun _ => True) (okp := fun _ => True) ?hr ?hp (fun _ hk => hk) trivial (Below.refl _ _) (Nat.le_refl _) (by simp) ?_; (case hd => rfl); (case hg => rfl); (case hr => first | (go_simp; done) | (go_simp; rfl)); (case hp => exact (Reps.one (show Kd.M (Kd.int .i64) _ _ _ 0 [.int .i64 0] from rfl) (Reps.one (show Kd.M (Kd.int .i64) _ _ _ 1 [.int .i64 1] from rfl) (Reps.one (show Kd.M (Kd.int .i64) _ _ _ 2 [.int .i64 2] from rfl) (Reps.none _ _))))); intro v166 w69 ho70 hb hg_ hnew_; clear hg_ hnew_; (first | rw [← Ny165.out] at ho70 | (simp only [Int.reduceToNat] at ho70; rw [← Ny165.out] at ho70)); have n0_ := Aside0.mk (Kd.R_elder' (by (with_reducible repeat (first | apply Kd.R_alloc | apply Kd.R_drewN | apply Kd.R_drew)); exact HO134.out) (Kd.R_base ho70) hb); have n1_ := Aside0.mk (Kd.R_elder' (by (with_reducible repeat (first | apply Kd.R_alloc | apply Kd.R_drewN | apply Kd.R_drew)); exact HO139.out) (Kd.R_base ho70) hb); have n2_ := Aside0.mk (Kd.R_elder' (by (with_reducible repeat (first | apply Kd.R_alloc | apply Kd.R_drewN | apply Kd.R_drew)); exact HO142.out) (Kd.R_base ho70) hb); have n3_ := Aside0.mk (Kd.R_elder' (by (with_reducible repeat (first | apply Kd.R_alloc | apply Kd.R_drewN | apply Kd.R_drew)); exact HO147.out) (Kd.R_base ho70) hb); have n4_ := Aside0.mk (Kd.R_elder' (by (with_reducible repeat (first | apply Kd.R_alloc | apply Kd.R_drewN | apply Kd.R_drew)); exact HO150.out) (Kd.R_base ho70) hb); have n5_ := Aside0.mk (Kd.R_elder' (by (with_reducible repeat (first | apply Kd.R_alloc | apply Kd.R_drewN | apply Kd.R_drew)); exact HO155.out) (Kd.R_base ho70) hb); have n6_ := Aside0.mk (Kd.R_elder' (by (with_reducible repeat (first | apply Kd.R_alloc | apply Kd.R_drewN | apply Kd.R_drew)); exact HO160.out) (Kd.R_base ho70) hb); have n7_ := Aside0.mk (Kd.R_elder' (by (with_reducible repeat (first | apply Kd.R_alloc | apply Kd.R_drewN | apply Kd.R_drew)); exact HO164.out) (Kd.R_base ho70) hb); have n8_ := Aside0.mk (Kd.R_lower (Kd.R_new' (Kd.R_new' (Kd.R_new' (Kd.R_new' (Kd.R_new' (Kd.R_new' (Kd.R_new' (Kd.R_new' ho70 (Kd.R_lt (by (with_reducible repeat (first | apply Kd.R_alloc | apply Kd.R_drewN | apply Kd.R_drew)); exact HO134.out))) (Kd.R_lt (by (with_reducible repeat (first | apply Kd.R_alloc | apply Kd.R_drewN | apply Kd.R_drew)); exact HO139.out))) (Kd.R_lt (by (with_reducible repeat (first | apply Kd.R_alloc | apply Kd.R_drewN | apply Kd.R_drew)); exact HO142.out))) (Kd.R_lt (by (with_reducible repeat (first | apply Kd.R_alloc | apply Kd.R_drewN | apply Kd.R_drew)); exact HO147.out))) (Kd.R_lt (by (with_reducible repeat (first | apply Kd.R_alloc | apply Kd.R_drewN | apply Kd.R_drew)); exact HO150.out))) (Kd.R_lt (by (with_reducible repeat (first | apply Kd.R_alloc | apply Kd.R_drewN | apply Kd.R_drew)); exact HO155.out))) (Kd.R_lt (by (with_reducible repeat (first | apply Kd.R_alloc | apply Kd.R_drewN | apply Kd.R_drew)); exact HO160.out))) (Kd.R_lt (by (with_reducible repeat (first | apply Kd.R_alloc | apply Kd.R_drewN | apply Kd.R_drew)); exact HO164.out))) (below_size (by repeat (first | (with_reducible first | exact HB.out | apply below_alloc | apply pw_below_drewN | apply below_drew1) | exact HB.out)))); have n9_ := Aside0.mk (below_step (by repeat (first | (with_reducible first | exact HB.out | apply below_alloc | apply pw_below_drewN | apply below_drew1) | exact HB.out)) hb); clear HO134; clear HO139; clear HO142; clear HO147; clear HO150; clear HO155; clear HO160; clear HO164; clear HB; have HO134 := n0_; have HO139 := n1_; have HO142 := n2_; have HO147 := n3_; have HO150 := n4_; have HO155 := n5_; have HO160 := n6_; have HO164 := n7_; have HO167 := n8_; have HB := n9_; clear n0_ n1_ n2_ n3_ n4_ n5_ n6_ n7_ n8_ n9_; clear hb ho70; obtain ⟨Ao71, co71, eo71⟩ := Kd.R_slice HO147.out; subst eo71; obtain ⟨Ao72, co72, eo72⟩ := Kd.R_slice HO167.out; subst eo72) | (go_at_call 23; (with_reducible refine (tickinglaw02_ints.calls k _ _ t144 _ _ y165 true _ ?side1 ?side2 ?side3 ?side4 A31.out).mono ?_); (case side1 => repeat (first | exact (Kd.R_reads' HO147.out).2.2 | (with_reducible refine Kd.C_alloc ?_ _) | (with_reducible refine Kd.C_drewN ?_ _) | (with_reducible refine Kd.C_drew ?_))); (case side2 => exact (Kd.R_reads' HO147.out).2.1); (case side3 => repeat (first | exact (Kd.R_reads' HO167.out).2.2 | (with_reducible refine Kd.C_alloc ?_ _) | (with_reducible refine Kd.C_drewN ?_ _) | (with_reducible refine Kd.C_drew ?_))); (case side4 => exact (Kd.R_reads' HO167.out).2.1); rintro e w' ⟨rfl, ⟨nd, rfl⟩⟩))
                go_meet
                case rel => exact ⟨_, (true), (by first | rfl | (simp; done) | (simp [*]; done)), H', ⟨by first | omega | exact Nat.le_refl _⟩, ⟨by repeat (first | (with_reducible first | exact HB.out | apply below_alloc | apply pw_below_drewN | apply below_drew1) | exact HB.out)⟩⟩
            · replace c32 := Bool.eq_false_iff.mpr c32
              subst c32
              have H1 : (tickinglaw02_awake.j0 k true) = some r := by rw [if_neg (show ¬ (false = true) by decide)] at H; exact H
              clear H
              have H := H1
              clear H1
              have H' := Aside0.mk H
              clear H
              obtain ⟨Ao73, co73, eo73⟩ := Kd.R_slice HO139.out
              subst eo73
              go_wp2_with (first | ((with_reducible refine gate_dst (N := 57) rfl ?_); (try (refine gate_guard (by rfl) ?_; dsimp only)); refine Kd.R_lit (Kd.int .i64) _ 3 ?hg (N := 57) ?hd (xs := ([0, 1, 2] : List Int)) (inner := [.int .i64 0, .int .i64 1, .int .i64 2]) (ok := fun _ => True) (okp := fun _ => True) ?hr ?hp (fun _ hk => hk) trivial (Below.refl _ _) (Nat.le_refl _) (by simp) ?_; (case hd => rfl); (case hg => rfl); (case hr => first | (go_simp; done) | (go_simp; rfl)); (case hp => exact (Reps.one (show Kd.M (Kd.int .i64) _ _ _ 0 [.int .i64 0] from rfl) (Reps.one (show Kd.M (Kd.int .i64) _ _ _ 1 [.int .i64 1] from rfl) (Reps.one (show Kd.M (Kd.int .i64) _ _ _ 2 [.int .i64 2] from rfl) (Reps.none _ _))))); intro v166 w74 ho75 hb hg_ hnew_; clear hg_ hnew_; (first | rw [← Ny165.out] at ho75 | (simp only [Int.reduceToNat] at ho75; rw [← Ny165.out] at ho75)); have n0_ := Aside0.mk (Kd.R_elder' (by (with_reducible repeat (first | apply Kd.R_alloc | apply Kd.R_drewN | apply Kd.R_drew)); exact HO134.out) (Kd.R_base ho75) hb); have n1_ := Aside0.mk (Kd.R_elder' (by (with_reducible repeat (first | apply Kd.R_alloc | apply Kd.R_drewN | apply Kd.R_drew)); exact HO139.out) (Kd.R_base ho75) hb); have n2_ := Aside0.mk (Kd.R_elder' (by (with_reducible repeat (first | apply Kd.R_alloc | apply Kd.R_drewN | apply Kd.R_drew)); exact HO142.out) (Kd.R_base ho75) hb); have n3_ := Aside0.mk (Kd.R_elder' (by (with_reducible repeat (first | apply Kd.R_alloc | apply Kd.R_drewN | apply Kd.R_drew)); exact HO147.out) (Kd.R_base ho75) hb); have n4_ := Aside0.mk (Kd.R_elder' (by (with_reducible repeat (first | apply Kd.R_alloc | apply Kd.R_drewN | apply Kd.R_drew)); exact HO150.out) (Kd.R_base ho75) hb); have n5_ := Aside0.mk (Kd.R_elder' (by (with_reducible repeat (first | apply Kd.R_alloc | apply Kd.R_drewN | apply Kd.R_drew)); exact HO155.out) (Kd.R_base ho75) hb); have n6_ := Aside0.mk (Kd.R_elder' (by (with_reducible repeat (first | apply Kd.R_alloc | apply Kd.R_drewN | apply Kd.R_drew)); exact HO160.out) (Kd.R_base ho75) hb); have n7_ := Aside0.mk (Kd.R_elder' (by (with_reducible repeat (first | apply Kd.R_alloc | apply Kd.R_drewN | apply Kd.R_drew)); exact HO164.out) (Kd.R_base ho75) hb); have n8_ := Aside0.mk (Kd.R_lower (Kd.R_new' (Kd.R_new' (Kd.R_new' (Kd.R_new' (Kd.R_new' (Kd.R_new' (Kd.R_new' (Kd.R_new' ho75 (Kd.R_lt (by (with_reducible repeat (first | apply Kd.R_alloc | apply Kd.R_drewN | apply Kd.R_drew)); exact HO134.out))) (Kd.R_lt (by (with_reducible repeat (first | apply Kd.R_alloc | apply Kd.R_drewN | apply Kd.R_drew)); exact HO139.out))) (Kd.R_lt (by (with_reducible repeat (first | apply Kd.R_alloc | apply Kd.R_drewN | apply Kd.R_drew)); exact HO142.out))) (Kd.R_lt (by (with_reducible repeat (first | apply Kd.R_alloc | apply Kd.R_drewN | apply Kd.R_drew)); exact HO147.out))) (Kd.R_lt (by (with_reducible repeat (first | apply Kd.R_alloc | apply Kd.R_drewN | apply Kd.R_drew)); exact HO150.out))) (Kd.R_lt (by (with_reducible repeat (first | apply Kd.R_alloc | apply Kd.R_drewN | apply Kd.R_drew)); exact HO155.out))) (Kd.R_lt (by (with_reducible repeat (first | apply Kd.R_alloc | apply Kd.R_drewN | apply Kd.R_drew)); exact HO160.out))) (Kd.R_lt (by (with_reducible repeat (first | apply Kd.R_alloc | apply Kd.R_drewN | apply Kd.R_drew)); exact HO164.out))) (below_size (by repeat (first | (with_reducible first | exact HB.out | apply below_alloc | apply pw_below_drewN | apply below_drew1) | exact HB.out)))); have n9_ := Aside0.mk (below_step (by repeat (first | (with_reducible first | exact HB.out | apply below_alloc | apply pw_below_drewN | apply below_drew1) | exact HB.out)) hb); clear HO134; clear HO139; clear HO142; clear HO147; clear HO150; clear HO155; clear HO160; clear HO164; clear HB; have HO134 := n0_; have HO139 := n1_; have HO142 := n2_; have HO147 := n3_; have HO150 := n4_; have HO155 := n5_; have HO160 := n6_; have HO164 := n7_; have HO167 := n8_; have HB := n9_; clear n0_ n1_ n2_ n3_ n4_ n5_ n6_ n7_ n8_ n9_; clear hb ho75; obtain ⟨Ao76, co76, eo76⟩ := Kd.R_slice HO147.out; subst eo76; obtain ⟨Ao77, co77, eo77⟩ := Kd.R_slice HO167.out; subst eo77) | (go_at_call 23; (with_reducible refine (tickinglaw02_ints.calls k _ _ t144 _ _ y165 false _ ?side1 ?side2 ?side3 ?side4 A31.out).mono ?_); (case side1 => repeat (first | exact (Kd.R_reads' HO147.out).2.2 | (with_reducible refine Kd.C_alloc ?_ _) | (with_reducible refine Kd.C_drewN ?_ _) | (with_reducible refine Kd.C_drew ?_))); (case side2 => exact (Kd.R_reads' HO147.out).2.1); (case side3 => repeat (first | exact (Kd.R_reads' HO167.out).2.2 | (with_reducible refine Kd.C_alloc ?_ _) | (with_reducible refine Kd.C_drewN ?_ _) | (with_reducible refine Kd.C_drew ?_))); (case side4 => exact (Kd.R_reads' HO167.out).2.1); rintro e w' ⟨rfl, ⟨nd, rfl⟩⟩))
              go_meet
              case rel => exact ⟨_, (true), (by first | rfl | (simp; done) | (simp [*]; done)), H', ⟨by first | omega | exact Nat.le_refl _⟩, ⟨by repeat (first | (with_reducible first | exact HB.out | apply below_alloc | apply pw_below_drewN | apply below_drew1) | exact HB.out)⟩⟩
          · rw [if_neg c30] at H
            have c30b0 : (t145 == 0) = false := beq_eq_false_iff_ne.mpr c30
            have c30b1 : (t145 != 0) = true := bne_iff_ne.mpr c30
            have H' := Aside0.mk H
            clear H
            obtain ⟨Ao78, co78, eo78⟩ := Kd.R_slice HO139.out
            subst eo78
            go_wp2
            go_meet
            case rel => exact ⟨_, (true), (by first | rfl | (simp; done) | (simp [*]; done)), H', ⟨by first | omega | exact Nat.le_refl _⟩, ⟨by repeat (first | (with_reducible first | exact HB.out | apply below_alloc | apply pw_below_drewN | apply below_drew1) | exact HB.out)⟩⟩
        · rw [if_neg c29] at H
          have c29b0 : ((t136.length : Int) == 0) = false := beq_eq_false_iff_ne.mpr c29
          have c29b1 : ((t136.length : Int) != 0) = true := bne_iff_ne.mpr c29
          have c29b2 : ¬ (t136 = []) := fun h_ => c29 (by rw [h_]; rfl)
          have H' := Aside0.mk H
          clear H
          obtain ⟨Ao79, co79, eo79⟩ := Kd.R_slice HO139.out
          subst eo79
          go_wp2
          go_meet
          case rel => exact ⟨_, (true), (by first | rfl | (simp; done) | (simp [*]; done)), H', ⟨by first | omega | exact Nat.le_refl _⟩, ⟨by repeat (first | (with_reducible first | exact HB.out | apply below_alloc | apply pw_below_drewN | apply below_drew1) | exact HB.out)⟩⟩
      · rw [if_neg c28] at H
        have c28b0 : (t135.toList == ([105, 105, 111, 111, 105, 111] : List UInt8)) = false := beq_eq_false_iff_ne.mpr c28
        have c28b1 : (t135.toList != ([105, 105, 111, 111, 105, 111] : List UInt8)) = true := bne_iff_ne.mpr c28
        have H' := Aside0.mk H
        clear H
        go_wp2
        go_meet
        case rel => exact ⟨_, (true), (by first | rfl | (simp; done) | (simp [*]; done)), H', ⟨by first | omega | exact Nat.le_refl _⟩, ⟨by repeat (first | (with_reducible first | exact HB.out | apply below_alloc | apply pw_below_drewN | apply below_drew1) | exact HB.out)⟩⟩
    · rw [if_neg c27] at H
      have c27b0 : (t137 == 0) = false := beq_eq_false_iff_ne.mpr c27
      have c27b1 : (t137 != 0) = true := bne_iff_ne.mpr c27
      (first | rw [c27b0] | (simp only [i64_w, i32_w]; rw [c27b0]) | skip)
      have H' := Aside0.mk H
      clear H
      go_wp2
      go_meet
      case rel => exact ⟨_, (true), (by first | rfl | (simp; done) | (simp [*]; done)), H', ⟨by first | omega | exact Nat.le_refl _⟩, ⟨by repeat (first | (with_reducible first | exact HB.out | apply below_alloc | apply pw_below_drewN | apply below_drew1) | exact HB.out)⟩⟩
  case rest =>
    clear HC6
    try clear c1
    try clear c2
    try clear p2
    try clear c3
    try clear c19
    try clear c20
    try clear c22
    try clear c27
    try clear c27b0
    try clear c27b1
    try clear c28
    try clear c28b0
    try clear c28b1
    try clear c29
    try clear c29b0
    try clear c29b1
    try clear c29b2
    try clear c30
    try clear c30b0
    try clear c30b1
    try clear c32
    try clear c33
    try clear c33b0
    try clear c33b1
    try clear c34
    try clear c34b0
    try clear c34b1
    try clear c35
    try clear c35b0
    try clear c35b1
    try clear c36
    try clear c36b0
    try clear c36b1
    try clear c37
    try clear c37b0
    try clear c37b1
    obtain ⟨kq, x86_5, rfl, HA, HJ5, HB⟩ := hcut
    cases kq with
    | zero => exact absurd HA.out (by simp [tickinglaw02_awake.j0])
    | succ kj5 =>
      have H := HA.out
      clear HA
      simp only [tickinglaw02_awake.j0] at H
      by_cases c80 : x86_5 = true
      · subst c80
        have H1 : (some false) = some r := by rw [if_pos rfl] at H; exact H
        clear H
        have H := H1
        clear H1
        obtain rfl := Option.some.inj H
        go_wp2
        go_ret
        exact ⟨by first | rfl | (simp [errW_none, errW_some] <;> rfl) | (simp [*, errW_none, errW_some] <;> rfl), by repeat (first | (with_reducible first | exact HB.out | apply below_alloc | apply pw_below_drewN | apply below_drew1) | exact HB.out)⟩
      · replace c80 := Bool.eq_false_iff.mpr c80
        subst c80
        have H1 : (some true) = some r := by rw [if_neg (show ¬ (false = true) by decide)] at H; exact H
        clear H
        have H := H1
        clear H1
        obtain rfl := Option.some.inj H
        go_wp2
        go_ret
        exact ⟨by first | rfl | (simp [errW_none, errW_some] <;> rfl) | (simp [*, errW_none, errW_some] <;> rfl), by repeat (first | (with_reducible first | exact HB.out | apply below_alloc | apply pw_below_drewN | apply below_drew1) | exact HB.out)⟩

end Go.Proofs.Ytjbjongahnocdaa.S

namespace Go.Proofs.Ytjbjongahnocdaa.S
open Go.Proofs.Ytjbjongahnocdaa.Lib
open Go.Proofs.Ytjbjongahnocdaa.Defs
open Go.Maps (Keyed)
open Go.RowKit Go.Proofs.YtjbjongahnocdaaW.PrintWords Go.Proofs.YtjbjongahnocdaaW.PrintLast Go.Proofs.YtjbjongahnocdaaW.PrintMore
attribute [local go_sem] max2_int min2_int max_two min_two max_three min_three max_four min_four   -- for this text's walks alone
set_option linter.unusedVariables false
set_option linter.unusedSimpArgs false

/-! ### shunt_CheckQueues: function 34 -/
def lanesGo (order : List Int) (k : Int) : List Int → Int → (Int → Int) → Bool
  | [], _, _ => true
  | q :: xs, i, last => if 0 ≤ q ∧ q ≤ k - 1 ∧ last q < rd order i then lanesGo order k xs (i + 1) (fun y => if y = q then rd order i else last y) else false
def rightL (order : List Int) (k : Int) (lanes block : List Int) : Bool := (decide (lanes.length = order.length) && decide (block.length = 0)) && lanesGo order k lanes 0 (fun _ => 0)
def stepB (order block : List Int) (i : Int) : Bool :=
  decide (0 ≤ rd block i ∧ rd block i ≤ (order.length : Int) - 1) && (decide (i = 0) || (decide (rd block (i - 1) < rd block i) && decide (rd order (rd block i) < rd order (rd block (i - 1)))))
def blockGo (order block : List Int) : Nat → Int → Bool → Bool
  | 0, _, right => right
  | d + 1, i, right => blockGo order block d (i + 1) (right && stepB order block i)
def shunt_CheckQueues.f (l0 : List Int) (a1 : Int) (l2 l3 : List Int) : Option Int :=
  if isOrderB l0 = true ∧ 1 ≤ a1 ∧ a1 ≤ 60 then
    some (if (if l2.length = 0 ∧ (l3.length : Int) = a1 + 1 then blockGo l0 l3 l3.length 0 true else rightL l0 a1 l2 l3) = true then 0 else 10)
  else some 2
theorem queues_zero (w : World) : (zeroValue 3).run Try.prog w = .ok (.int .i64 0) w := by kernel_rfl

set_option maxHeartbeats 4000000 in
set_option maxRecDepth 100000 in
theorem shunt_CheckQueues.calls (A0 : Option Addr) (c0 : Nat) (l0 : List Int) (a1 : Int) (A2 : Option Addr) (c2 : Nat) (l2 : List Int) (A3 : Option Addr) (c3 : Nat) (l3 : List Int) (r : Int) (w : World) (hr0 : Kd.C (Kd.int .i64) w A0 l0.length l0) (hc0 : l0.length ≤ c0) (hr2 : Kd.C (Kd.int .i64) w A2 l2.length l2) (hc2 : l2.length ≤ c2) (hr3 : Kd.C (Kd.int .i64) w A3 l3.length l3) (hc3 : l3.length ≤ c3) (h : shunt_CheckQueues.f l0 a1 l2 l3 = some r) :
    Calls Try.prog 34 #[.slice A0 l0.length c0, .int .i64 a1, .slice A2 l2.length c2, .slice A3 l3.length c3] w fun e w' => e = .returned (.int .i64 r) ∧ Below w.heap.size w w' := by
  have HR0 := Aside0.mk hr0
  have HC0 := Aside0.mk hc0
  have HR2 := Aside0.mk hr2
  have HR3 := Aside0.mk hr3
  have hm2 : (l2.length : Int) ≤ 9223372036854775807 := by have := hr2.2.1; omega
  have hm3 : (l3.length : Int) ≤ 9223372036854775807 := by have := hr3.2.1; omega
  have HM23 := Aside0.mk (show (l2.length : Int) ≤ 9223372036854775807 ∧ (l3.length : Int) ≤ 9223372036854775807 from ⟨hm2, hm3⟩)
  clear hr0 hc0 hr2 hc2 hr3 hc3 hm2 hm3
  unfold shunt_CheckQueues.f at h
  cases hord : isOrderB l0 with
  | false =>
    rw [hord, if_neg (fun h => by cases h.1)] at h
    injection h with h
    subst h
    have HO := Aside0.mk (shunt_isOrder.calls A0 c0 l0 false w HR0.out HC0.out (by unfold shunt_isOrder.f; rw [hord]))
    clear hord
    go_enter Try.func34, Try.ntmps34
    go_wp2_with (go_at_call 52; go_must ((with_reducible refine HO.out.mono ?_); rintro e w1 ⟨rfl, hb1⟩; have HB1 := Aside0.mk hb1; clear hb1))
    go_ret
    exact ⟨rfl, HB1.out⟩
  | true =>
    have HO := Aside0.mk (shunt_isOrder.calls A0 c0 l0 true w HR0.out HC0.out (by unfold shunt_isOrder.f; rw [hord]))
    have hl60 : l0.length ≤ 60 := by
      unfold isOrderB at hord
      simp at hord
      exact hord.1
    have HL := Aside0.mk hl60
    rw [hord] at h
    clear hord hl60
    by_cases hk : 1 ≤ a1 ∧ a1 ≤ 60
    case neg =>
      rw [if_neg (fun h => hk h.2)] at h
      injection h with h
      subst h
      have hin : shunt_within.f a1 1 60 = some false := by
        unfold shunt_within.f
        split
        · rw [decide_eq_false (by omega)]
        · rfl
      clear hk
      go_enter Try.func34, Try.ntmps34
      go_wp2_with (first | (go_at_call 52; go_must ((with_reducible refine HO.out.mono ?_); rintro e w1 ⟨rfl, hb1⟩; have HB1 := Aside0.mk hb1; clear hb1)) | (go_at_call 64; go_must ((with_reducible refine (shunt_within.calls a1 1 60 false _ hin).mono ?_); rintro e w' ⟨rfl, ⟨nd, rfl⟩⟩)))
      go_ret
      exact ⟨rfl, pw_below_drewN HB1.out _⟩
    case pos =>
      rw [if_pos ⟨rfl, hk⟩] at h
      have H := Aside0.mk (Option.some.inj h)
      have HK := Aside0.mk hk
      have hin : shunt_within.f a1 1 60 = some true := by unfold shunt_within.f; rw [if_pos hk.1, decide_eq_true hk.2]
      have hmm := @run_makeMap Try.prog
      obtain ⟨jk, hjk⟩ : ∃ jk : Int, jk = a1 - 1 := ⟨_, rfl⟩
      have hjw : IntKind.i64.wrap (a1 - 1) = jk := by rw [IntWalk.i64_in _ (by omega), hjk]
      obtain ⟨jp, hjp⟩ : ∃ jp : Int, jp = a1 + 1 := ⟨_, rfl⟩
      have hjw2 : IntKind.i64.wrap (a1 + 1) = jp := by rw [IntWalk.i64_in _ (by omega), hjp]
      have HJ := Aside0.mk (show jk = a1 - 1 ∧ jp = a1 + 1 from ⟨hjk, hjp⟩)
      clear h hk hjk hjp
      obtain ⟨rb0, hrb0⟩ : ∃ rb0 : Bool, rb0 = (decide (l2.length = l0.length) && decide (l3.length = 0)) := ⟨_, rfl⟩
      obtain ⟨RL, hRL⟩ : ∃ RL, RL = rightL l0 a1 l2 l3 := ⟨_, rfl⟩
      rw [← hRL] at H
      have hRL2 : (rb0 && lanesGo l0 a1 l2 0 (fun _ => 0)) = RL := by rw [hRL, hrb0]; rfl
      have H60 : rb0 = true → l2.length = l0.length := by
        intro e
        rw [hrb0] at e
        simp at e
        exact e.1
      have HRL := Aside0.mk hRL2
      have HH60 := Aside0.mk H60
      clear hRL hRL2 H60
      have hb1' : ∃ b1 b2 : Bool, ((l2.length : Int) == (l0.length : Int)) = b1 ∧ (l2.length == l0.length) = b1 ∧ ((l3.length : Int) == 0) = b2 ∧ (l3.length == 0) = b2 ∧ rb0 = (b1 && b2) := by
        refine ⟨decide (l2.length = l0.length), decide (l3.length = 0), ?_, ?_, ?_, ?_, hrb0⟩
        · rw [Bool.eq_iff_iff, beq_iff_eq, decide_eq_true_eq]; omega
        · rw [Bool.eq_iff_iff, beq_iff_eq, decide_eq_true_eq]
        · rw [Bool.eq_iff_iff, beq_iff_eq, decide_eq_true_eq]; omega
        · rw [Bool.eq_iff_iff, beq_iff_eq, decide_eq_true_eq]
      obtain ⟨b1, b2, e1, e2, e3, e4, hrb1⟩ := hb1'
      clear hrb0
      have hs0 : ∃ b3 : Bool, ((l2.length : Int) == 0) = b3 ∧ (l2.length == 0) = b3 ∧ (b3 = true ↔ l2.length = 0) := by
        refine ⟨decide (l2.length = 0), ?_, ?_, by simp⟩
        · rw [Bool.eq_iff_iff, beq_iff_eq, decide_eq_true_eq]; omega
        · rw [Bool.eq_iff_iff, beq_iff_eq, decide_eq_true_eq]
      obtain ⟨b3, e5, e6, hb3⟩ := hs0
      have HB3 := Aside0.mk hb3
      have hs1 : ∃ b4 : Bool, ((l3.length : Int) == jp) = b4 ∧ (b4 = true ↔ (l3.length : Int) = a1 + 1) := by
        refine ⟨decide ((l3.length : Int) = jp), ?_, ?_⟩
        · rw [Bool.eq_iff_iff, beq_iff_eq, decide_eq_true_eq]
        · rw [decide_eq_true_eq, HJ.out.2]
      obtain ⟨b4, e7, hb4⟩ := hs1
      have HB4 := Aside0.mk hb4
      clear hb3 hb4
      go_enter Try.func34, Try.ntmps34
      cases b1 <;> cases b2 <;> (subst hrb1) <;>
        go_wp2_with (first | (go_at_call 52; go_must ((with_reducible refine HO.out.mono ?_); rintro e w1 ⟨rfl, hb1⟩; have HB1 := Aside0.mk hb1; clear hb1)) | (go_at_call 64; go_must ((with_reducible refine (shunt_within.calls a1 1 60 true _ hin).mono ?_); rintro e w' ⟨rfl, ⟨nd, rfl⟩⟩)))
      all_goals (
        go_loopw [9, 36] (fun v9 v36 wr => ∃ (rb : Bool) (i : Int) (m : Nat) (g : Int → Option Value) (last : Int → Int), v9 = .bool rb ∧ v36 = .int .i64 i ∧ Aside0 (0 ≤ i ∧ i ≤ l2.length ∧ (m : Int) ≤ i) ∧ Aside0 (rb = true → l2.length = l0.length) ∧ Aside0 ((rb && lanesGo l0 a1 (l2.drop i.toNat) i last) = RL) ∧ Aside0 (∀ y, (g y).getD (.int .i64 0) = .int .i64 (last y)) ∧ Aside0 (MapAt wr Try.prog 3 w1.heap.size m (encI g)) ∧ Aside0 (Below w.heap.size w wr)) (fun _ v36 _ => l2.length - (intOf v36).toNat)
        case atStart => exact ⟨_, 0, 0, fun _ => none, fun _ => 0, rfl, rfl, ⟨by simp⟩, HH60, HRL, ⟨fun _ => rfl⟩, ⟨(MapAt.made _ _ _).congr (fun kv kl _ => by unfold encI; split <;> rfl)⟩, ⟨below_alloc (pw_below_drewN HB1.out _) _⟩⟩
        case round =>
          clear HRL HH60 e1 e2 e3 e4
          obtain ⟨rb, i, m, g, last, rfl, rfl, HX, H60, HA, HG, HM, HB⟩ := hrel
          obtain ⟨p0, p1, p2⟩ := HX.out
          have hm2 := HM23.out.1
          by_cases c2 : i < (l2.length : Int)
          · have c2b0 : decide (i < (l2.length : Int)) = true := decide_eq_true c2
            have hb3 : b3 = false := by
              rw [Bool.eq_false_iff]
              intro e
              have := HB3.out.1 e
              omega
            subst hb3
            have hr : RL = false → r = 10 := by
              intro e
              rw [← H.out, if_neg (c := l2.length = 0 ∧ (l3.length : Int) = a1 + 1) (fun h => by have := h.1; omega), e]
              rfl
            have HR10 := Aside0.mk hr
            obtain ⟨ad, ea, hx⟩ := Kd.at_int (Kd.C_below HR2.out HB.out) i p0 c2
            cases ea
            have q0 := eq_true p0
            have q1 := eq_true c2
            obtain ⟨q, hq⟩ : ∃ q, q = rd l2 i := ⟨_, rfl⟩
            rw [← hq] at hx
            have HA1 : (rb && (if 0 ≤ q ∧ q ≤ a1 - 1 ∧ last q < rd l0 i then lanesGo l0 a1 (l2.drop (i + 1).toNat) (i + 1) (fun y => if y = q then rd l0 i else last y) else false)) = RL := by
              have := HA.out
              rw [List.drop_eq_getElem_cons (show i.toNat < l2.length by omega)] at this
              have e : l2[i.toNat] = q := by
                rw [hq]
                unfold rd
                rw [List.getD_eq_getElem?_getD, List.getElem?_eq_getElem (show i.toNat < l2.length by omega), Option.getD_some]
              rw [e, show i.toNat + 1 = (i + 1).toNat by omega] at this
              exact this
            clear hr hq HA
            cases rb with
            | false =>
              have hRL : RL = false := HA1.symm
              subst hRL
              have hr := HR10.out rfl
              subst hr
              clear HA1 c2 H HR10
              go_wp2
              repeat (go_quiet (fail); try go_wp2)
              all_goals (
                go_ret
                exact ⟨rfl, by repeat (first | (with_reducible first | exact HB.out | apply below_alloc | apply pw_below_drewN | apply below_drew1) | exact HB.out)⟩)
            | true =>
              have h60 := H60.out rfl
              have hl60 := HL.out
              have hk := HK.out
              have hj := HJ.out.1
              by_cases c3 : 0 ≤ q ∧ q ≤ a1 - 1
              · have hin3 : shunt_within.f q 0 jk = some true := by unfold shunt_within.f; rw [if_pos c3.1, decide_eq_true (by omega)]
                have hkey : keyOf Try.prog 3 (.int .i64 q) = some (.int .i64 q) := Maps.keyOf_int_mk Try.underlying3 (wfI (by omega) (by omega))
                have hgq : (encI g (.int .i64 q)).getD (.int .i64 0) = .int .i64 (last q) := HG.out q
                have hlk : ∀ n, (Instr.lookup 80 (.map (some w1.heap.size)) (.int .i64 q) false).run Try.prog (wr.drewN n) = .ok (.int .i64 (last q)) (wr.drewN n) := fun n => by
                  rw [(HM.out.drewN n).look (Maps.int_keyed Try.underlying3) Try.underlying80 (queues_zero _) hkey, hgq]
                have c5 : i < (l0.length : Int) := by omega
                obtain ⟨ad0, ea0, hx0⟩ := Kd.at_int (Kd.C_below HR0.out HB.out) i p0 c5
                cases ea0
                have q5 := eq_true c5
                by_cases c4 : last q < rd l0 i
                · have c4b : decide (last q < rd l0 i) = true := decide_eq_true c4
                  have HA2 := Aside0.mk (show (true && lanesGo l0 a1 (l2.drop (i + 1).toNat) (i + 1) (fun y => if y = q then rd l0 i else last y)) = RL by rw [if_pos ⟨c3.1, c3.2, c4⟩] at HA1; exact HA1)
                  have HKY := Aside0.mk hkey
                  have HM60 := Aside0.mk (show m < maxLen by unfold maxLen; omega)
                  have HG2 := Aside0.mk (show ∀ y, (upd g q (.int .i64 (rd l0 i)) y).getD (.int .i64 0) = .int .i64 (if y = q then rd l0 i else last y) by
                    intro y
                    unfold upd
                    by_cases e : y = q
                    · rw [if_pos e, if_pos e]; rfl
                    · rw [if_neg e, if_neg e]; exact HG.out y)
                  have hi60 : i ≤ 60 := by omega
                  clear HA1 c2 c3 c4 c5 hkey hgq p1 p2 h60 hl60 hk hj HG
                  go_wp2
                  repeat (go_quiet (first | (go_at_call 64; (with_reducible refine (shunt_within.calls q 0 jk true _ hin3).mono ?_); rintro e w' ⟨rfl, ⟨nd3, rfl⟩⟩; (try first | exact ⟨rfl, _, World.drewN_drewN _ _ _⟩ | exact ⟨rfl, _, Eq.trans (World.drewN_drewN _ _ _) (congrArg (World.drewN _) (Nat.add_assoc _ _ _))⟩))); try (go_wp2_with (at_mapUpdate; go_must (refine wpList_mapStore _ rfl _ _ _ 80 rfl (Maps.int_keyed Try.underlying3) Try.underlying80 rfl (HM.out.drewN _) HM60.out (.int .i64 q) (.int .i64 (rd l0 i)) rfl rfl HKY.out (encI (upd g q (.int .i64 (rd l0 i)))) (encI_same g q _) (encI_other g q _) ?_; intro w2 hma hgr; have HM1 := Aside0.mk (show ∃ m' : Nat, m' ≤ m + 1 ∧ MapAt w2 Try.prog 3 w1.heap.size m' (encI (upd g q (.int .i64 (rd l0 i)))) from ⟨_, by split <;> omega, hma⟩); have HB2 := Aside0.mk (Below.grown (pw_below_drewN HB.out _) hgr HB.out.size (fun k hk => by injection hk with hk; have := HB1.out.size; omega)); clear hma hgr))))
                  all_goals (
                    go_roundw
                    case rel =>
                      obtain ⟨m', hm', hM1⟩ := HM1.out
                      exact ⟨true, i + 1, m', upd g q (.int .i64 (rd l0 i)), _, rfl, by go_num, ⟨by have := HX.out; have := of_eq_true q1; omega⟩, ⟨fun _ => H60.out trivial⟩, HA2, HG2, ⟨hM1⟩, HB2⟩
                    case measure => have := HX.out; have := of_eq_true q1; simp [intOf]; omega)
                · have c4b : decide (last q < rd l0 i) = false := decide_eq_false c4
                  have hRL : RL = false := by rw [if_neg (fun h => c4 h.2.2)] at HA1; exact HA1.symm
                  subst hRL
                  have hr := HR10.out rfl
                  subst hr
                  clear HA1 c2 c3 c4 c5 hkey hgq H HR10 p1 p2 h60 hl60 hk hj HG
                  go_wp2
                  repeat (go_quiet (first | (go_at_call 64; (with_reducible refine (shunt_within.calls q 0 jk true _ hin3).mono ?_); rintro e w' ⟨rfl, ⟨nd3, rfl⟩⟩; (try first | exact ⟨rfl, _, World.drewN_drewN _ _ _⟩ | exact ⟨rfl, _, Eq.trans (World.drewN_drewN _ _ _) (congrArg (World.drewN _) (Nat.add_assoc _ _ _))⟩))); try go_wp2)
                  all_goals (
                    go_ret
                    exact ⟨rfl, by repeat (first | (with_reducible first | exact HB.out | apply below_alloc | apply pw_below_drewN | apply below_drew1) | exact HB.out)⟩)
              · have hin3 : shunt_within.f q 0 jk = some false := by
                  unfold shunt_within.f
                  split
                  · rw [decide_eq_false (by omega)]
                  · rfl
                have hRL : RL = false := by rw [if_neg (fun h => c3 ⟨h.1, h.2.1⟩)] at HA1; exact HA1.symm
                subst hRL
                have hr := HR10.out rfl
                subst hr
                clear HA1 c2 c3 H HR10 p1 p2 h60 hl60 hk hj HG
                go_wp2
                repeat (go_quiet (first | (go_at_call 64; (with_reducible refine (shunt_within.calls q 0 jk false _ hin3).mono ?_); rintro e w' ⟨rfl, ⟨nd3, rfl⟩⟩; (try first | exact ⟨rfl, _, World.drewN_drewN _ _ _⟩ | exact ⟨rfl, _, Eq.trans (World.drewN_drewN _ _ _) (congrArg (World.drewN _) (Nat.add_assoc _ _ _))⟩))); try go_wp2)
                all_goals (
                  go_ret
                  exact ⟨rfl, by repeat (first | (with_reducible first | exact HB.out | apply below_alloc | apply pw_below_drewN | apply below_drew1) | exact HB.out)⟩)
          · have c2b0 : decide (i < (l2.length : Int)) = false := decide_eq_false c2
            have hi : i = (l2.length : Int) := by omega
            have hRL : rb = RL := by
              have := HA.out
              rw [List.drop_eq_nil_of_le (by omega)] at this
              rw [← this]
              cases rb <;> rfl
            subst hRL
            by_cases cz : l2.length = 0 ∧ (l3.length : Int) = a1 + 1
            · have hb3 : b3 = true := HB3.out.2 cz.1
              have hb4 : b4 = true := HB4.out.2 cz.2
              subst hb3
              subst hb4
              obtain ⟨RB, hRB⟩ : ∃ RB, RB = blockGo l0 l3 l3.length 0 true := ⟨_, rfl⟩
              have HR := Aside0.mk (show (if RB = true then (0 : Int) else 10) = r by rw [hRB, ← H.out, if_pos cz])
              have HRB := Aside0.mk (show blockGo l0 l3 l3.length 0 true = RB from hRB.symm)
              have H61 := Aside0.mk (show l3.length ≤ 61 by have := HK.out; omega)
              obtain ⟨jn, hjn⟩ : ∃ jn : Int, jn = (l0.length : Int) - 1 := ⟨_, rfl⟩
              have hl60 := HL.out
              have hjw3 : IntKind.i64.wrap ((l0.length : Int) - 1) = jn := by rw [IntWalk.i64_in _ (by omega), hjn]
              have HJN := Aside0.mk hjn
              clear H HA HX H60 HG HM c2 cz hRB hjn hl60 p0 p1 p2 hi
              go_wp2
              go_loopw [9, 79] (fun v9 v79 wq => ∃ (rc : Bool) (i : Int), v9 = .bool rc ∧ v79 = .int .i64 i ∧ Aside0 (0 ≤ i ∧ i ≤ l3.length) ∧ Aside0 (rc = true → 0 < i → 0 ≤ rd l3 (i - 1) ∧ rd l3 (i - 1) ≤ (l0.length : Int) - 1) ∧ Aside0 (blockGo l0 l3 (l3.length - i.toNat) i rc = RB) ∧ Aside0 (Below w.heap.size w wq)) (fun _ v79 _ => l3.length - (intOf v79).toNat)
              case atStart => exact ⟨true, 0, rfl, rfl, ⟨by omega⟩, ⟨fun _ h => by omega⟩, HRB, HB⟩
              case round =>
                clear HRB HB
                obtain ⟨rc, i, rfl, rfl, HX, HP, HA, HB⟩ := hrel
                obtain ⟨p0, p1⟩ := HX.out
                have h61 := H61.out
                by_cases c2 : i < (l3.length : Int)
                · have c2b0 : decide (i < (l3.length : Int)) = true := decide_eq_true c2
                  have HA1 : blockGo l0 l3 (l3.length - (i + 1).toNat) (i + 1) (rc && stepB l0 l3 i) = RB := by
                    have := HA.out
                    rw [show l3.length - i.toNat = (l3.length - (i + 1).toNat) + 1 by omega] at this
                    exact this
                  obtain ⟨ad, ea, hx⟩ := Kd.at_int (Kd.C_below HR3.out HB.out) i p0 c2
                  cases ea
                  have q0 := eq_true p0
                  have q1 := eq_true c2
                  have hi60 : i ≤ 61 := by omega
                  obtain ⟨at_, hat⟩ : ∃ at_, at_ = rd l3 i := ⟨_, rfl⟩
                  rw [← hat] at hx
                  have e0 : stepB l0 l3 i = (decide (0 ≤ at_ ∧ at_ ≤ (l0.length : Int) - 1) && (decide (i = 0) || (decide (rd l3 (i - 1) < at_) && decide (rd l0 at_ < rd l0 (rd l3 (i - 1)))))) := by rw [hat]; rfl
                  rw [e0] at HA1
                  have hn := HJN.out
                  cases rc with
                  | false =>
                    have HA2 := Aside0.mk (show blockGo l0 l3 (l3.length - (i + 1).toNat) (i + 1) false = RB from HA1)
                    clear HA1 HA e0 hat c2 hn p1
                    go_wp2
                    repeat (go_quiet (fail); try go_wp2)
                    all_goals (
                      go_roundw
                      case rel => exact ⟨false, i + 1, rfl, by go_num, ⟨by have := of_eq_true q0; have := of_eq_true q1; omega⟩, ⟨fun h => by simp at h⟩, HA2, ⟨by repeat (first | (with_reducible first | exact HB.out | apply below_alloc | apply pw_below_drewN | apply below_drew1) | exact HB.out)⟩⟩
                      case measure => have := of_eq_true q0; have := of_eq_true q1; simp [intOf]; omega)
                  | true =>
                    by_cases c3 : 0 ≤ at_ ∧ at_ ≤ jn
                    · have hin3 : shunt_within.f at_ 0 jn = some true := by unfold shunt_within.f; rw [if_pos c3.1, decide_eq_true c3.2]
                      have HAT := Aside0.mk (show at_ = rd l3 i ∧ (0 ≤ at_ ∧ at_ ≤ jn) from ⟨hat, c3⟩)
                      by_cases ci : i = 0
                      · have cib : (i == 0) = true := beq_iff_eq.mpr ci
                        have HA2 := Aside0.mk (show blockGo l0 l3 (l3.length - (i + 1).toNat) (i + 1) true = RB by rw [decide_eq_true (show 0 ≤ at_ ∧ at_ ≤ (l0.length : Int) - 1 by omega), decide_eq_true ci] at HA1; exact HA1)
                        clear HA1 HA e0 hat c2 c3 hn p1 ci
                        go_wp2
                        repeat (go_quiet (first | (go_at_call 64; (with_reducible refine (shunt_within.calls at_ 0 jn true _ hin3).mono ?_); rintro e w' ⟨rfl, ⟨nd3, rfl⟩⟩; (try first | exact ⟨rfl, _, World.drewN_drewN _ _ _⟩ | exact ⟨rfl, _, Eq.trans (World.drewN_drewN _ _ _) (congrArg (World.drewN _) (Nat.add_assoc _ _ _))⟩))); try go_wp2)
                        all_goals (
                          go_roundw
                          case rel => exact ⟨true, i + 1, rfl, by go_num, ⟨by have := of_eq_true q0; have := of_eq_true q1; omega⟩, ⟨fun _ _ => by rw [show i + 1 - 1 = i by omega, ← HAT.out.1]; have := HJN.out; have := HAT.out.2; omega⟩, HA2, ⟨by repeat (first | (with_reducible first | exact HB.out | apply below_alloc | apply pw_below_drewN | apply below_drew1) | exact HB.out)⟩⟩
                          case measure => have := of_eq_true q0; have := of_eq_true q1; simp [intOf]; omega)
                      · have cib : (i == 0) = false := beq_eq_false_iff_ne.mpr ci
                        obtain ⟨ji, hji⟩ : ∃ ji : Int, ji = i - 1 := ⟨_, rfl⟩
                        have hjwi : IntKind.i64.wrap (i - 1) = ji := by rw [IntWalk.i64_in _ (by omega), hji]
                        have pj : 0 ≤ ji := by omega
                        have qj : ji < (l3.length : Int) := by omega
                        obtain ⟨ad1, ea1, hx1⟩ := Kd.at_int (Kd.C_below HR3.out HB.out) ji pj qj
                        obtain rfl : ad = ad1 := by injection ea1
                        have hpv := HP.out rfl (by omega)
                        rw [← hji] at HA1 hpv
                        obtain ⟨pv, hpv1⟩ : ∃ pv, pv = rd l3 ji := ⟨_, rfl⟩
                        rw [← hpv1] at HA1 hpv hx1
                        have pje := eq_true pj
                        have qje := eq_true qj
                        rw [decide_eq_true (show 0 ≤ at_ ∧ at_ ≤ (l0.length : Int) - 1 by omega), decide_eq_false ci] at HA1
                        by_cases c4 : pv < at_
                        · have c4b : decide (pv < at_) = true := decide_eq_true c4
                          rw [c4b] at HA1
                          have pa : 0 ≤ at_ := c3.1
                          have qa : at_ < (l0.length : Int) := by omega
                          have pp : 0 ≤ pv := hpv.1
                          have qp : pv < (l0.length : Int) := by omega
                          obtain ⟨ad2, ea2, hx2⟩ := Kd.at_int (Kd.C_below HR0.out HB.out) at_ pa qa
                          obtain ⟨ad3, ea3, hx3⟩ := Kd.at_int (Kd.C_below HR0.out HB.out) pv pp qp
                          cases ea2
                          obtain rfl : ad2 = ad3 := by injection ea3
                          have pae := eq_true pa
                          have qae := eq_true qa
                          have ppe := eq_true pp
                          have qpe := eq_true qp
                          by_cases c5 : rd l0 at_ < rd l0 pv
                          · have c5b : decide (rd l0 at_ < rd l0 pv) = true := decide_eq_true c5
                            rw [c5b] at HA1
                            have HA2 := Aside0.mk (show blockGo l0 l3 (l3.length - (i + 1).toNat) (i + 1) true = RB from HA1)
                            clear HA1 HA e0 hat c2 c3 hn p1 ci hji pj qj ea1 hpv hpv1 c4 pa qa pp qp ea3 c5 HP
                            go_wp2
                            repeat (go_quiet (first | (go_at_call 64; (with_reducible refine (shunt_within.calls at_ 0 jn true _ hin3).mono ?_); rintro e w' ⟨rfl, ⟨nd3, rfl⟩⟩; (try first | exact ⟨rfl, _, World.drewN_drewN _ _ _⟩ | exact ⟨rfl, _, Eq.trans (World.drewN_drewN _ _ _) (congrArg (World.drewN _) (Nat.add_assoc _ _ _))⟩))); try go_wp2)
                            all_goals (
                              go_roundw
                              case rel => exact ⟨true, i + 1, rfl, by go_num, ⟨by have := of_eq_true q0; have := of_eq_true q1; omega⟩, ⟨fun _ _ => by rw [show i + 1 - 1 = i by omega, ← HAT.out.1]; have := HJN.out; have := HAT.out.2; omega⟩, HA2, ⟨by repeat (first | (with_reducible first | exact HB.out | apply below_alloc | apply pw_below_drewN | apply below_drew1) | exact HB.out)⟩⟩
                              case measure => have := of_eq_true q0; have := of_eq_true q1; simp [intOf]; omega)
                          · have c5b : decide (rd l0 at_ < rd l0 pv) = false := decide_eq_false c5
                            rw [c5b] at HA1
                            have HA2 := Aside0.mk (show blockGo l0 l3 (l3.length - (i + 1).toNat) (i + 1) false = RB from HA1)
                            clear HA1 HA e0 hat c2 c3 hn p1 ci hji pj qj ea1 hpv hpv1 c4 pa qa pp qp ea3 c5 HP
                            go_wp2
                            repeat (go_quiet (first | (go_at_call 64; (with_reducible refine (shunt_within.calls at_ 0 jn true _ hin3).mono ?_); rintro e w' ⟨rfl, ⟨nd3, rfl⟩⟩; (try first | exact ⟨rfl, _, World.drewN_drewN _ _ _⟩ | exact ⟨rfl, _, Eq.trans (World.drewN_drewN _ _ _) (congrArg (World.drewN _) (Nat.add_assoc _ _ _))⟩))); try go_wp2)
                            all_goals (
                              go_roundw
                              case rel => exact ⟨false, i + 1, rfl, by go_num, ⟨by have := of_eq_true q0; have := of_eq_true q1; omega⟩, ⟨fun h => by simp at h⟩, HA2, ⟨by repeat (first | (with_reducible first | exact HB.out | apply below_alloc | apply pw_below_drewN | apply below_drew1) | exact HB.out)⟩⟩
                              case measure => have := of_eq_true q0; have := of_eq_true q1; simp [intOf]; omega)
                        · have c4b : decide (pv < at_) = false := decide_eq_false c4
                          rw [c4b] at HA1
                          have HA2 := Aside0.mk (show blockGo l0 l3 (l3.length - (i + 1).toNat) (i + 1) false = RB from HA1)
                          clear HA1 HA e0 hat c2 c3 hn p1 ci hji pj qj ea1 hpv hpv1 c4 HP
                          go_wp2
                          repeat (go_quiet (first | (go_at_call 64; (with_reducible refine (shunt_within.calls at_ 0 jn true _ hin3).mono ?_); rintro e w' ⟨rfl, ⟨nd3, rfl⟩⟩; (try first | exact ⟨rfl, _, World.drewN_drewN _ _ _⟩ | exact ⟨rfl, _, Eq.trans (World.drewN_drewN _ _ _) (congrArg (World.drewN _) (Nat.add_assoc _ _ _))⟩))); try go_wp2)
                          all_goals (
                            go_roundw
                            case rel => exact ⟨false, i + 1, rfl, by go_num, ⟨by have := of_eq_true q0; have := of_eq_true q1; omega⟩, ⟨fun h => by simp at h⟩, HA2, ⟨by repeat (first | (with_reducible first | exact HB.out | apply below_alloc | apply pw_below_drewN | apply below_drew1) | exact HB.out)⟩⟩
                            case measure => have := of_eq_true q0; have := of_eq_true q1; simp [intOf]; omega)
                    · have hin3 : shunt_within.f at_ 0 jn = some false := by
                        unfold shunt_within.f
                        split
                        · rw [decide_eq_false (by omega)]
                        · rfl
                      have HA2 := Aside0.mk (show blockGo l0 l3 (l3.length - (i + 1).toNat) (i + 1) false = RB by rw [decide_eq_false (show ¬ (0 ≤ at_ ∧ at_ ≤ (l0.length : Int) - 1) by omega)] at HA1; exact HA1)
                      clear HA1 HA e0 hat c2 c3 hn p1 HP
                      go_wp2
                      repeat (go_quiet (first | (go_at_call 64; (with_reducible refine (shunt_within.calls at_ 0 jn false _ hin3).mono ?_); rintro e w' ⟨rfl, ⟨nd3, rfl⟩⟩; (try first | exact ⟨rfl, _, World.drewN_drewN _ _ _⟩ | exact ⟨rfl, _, Eq.trans (World.drewN_drewN _ _ _) (congrArg (World.drewN _) (Nat.add_assoc _ _ _))⟩))); try go_wp2)
                      all_goals (
                        go_roundw
                        case rel => exact ⟨false, i + 1, rfl, by go_num, ⟨by have := of_eq_true q0; have := of_eq_true q1; omega⟩, ⟨fun h => by simp at h⟩, HA2, ⟨by repeat (first | (with_reducible first | exact HB.out | apply below_alloc | apply pw_below_drewN | apply below_drew1) | exact HB.out)⟩⟩
                        case measure => have := of_eq_true q0; have := of_eq_true q1; simp [intOf]; omega)
                · have c2b0 : decide (i < (l3.length : Int)) = false := decide_eq_false c2
                  have hRB : rc = RB := by
                    have := HA.out
                    rw [show l3.length - i.toNat = 0 by omega] at this
                    exact this
                  subst hRB
                  have hr := HR.out
                  clear HA HP c2
                  cases rc
                  · have hr : (10 : Int) = r := hr
                    subst hr
                    clear HR
                    go_wp2
                    go_ret
                    exact ⟨rfl, HB.out⟩
                  · have hr : (0 : Int) = r := hr
                    subst hr
                    clear HR
                    go_wp2
                    go_ret
                    exact ⟨rfl, HB.out⟩
            · have hr := H.out
              rw [if_neg (c := l2.length = 0 ∧ (l3.length : Int) = a1 + 1) cz] at hr
              have hb : (b3 && b4) = false := by
                rw [Bool.eq_false_iff]
                intro e
                rw [Bool.and_eq_true] at e
                exact cz ⟨HB3.out.1 e.1, HB4.out.1 e.2⟩
              clear H HA HX H60 HG HM c2 cz p0 p1 p2 hi HB3 HB4
              cases rb
              · have hr : (10 : Int) = r := hr
                subst hr
                cases b3
                · clear hb
                  go_wp2
                  go_ret
                  exact ⟨rfl, HB.out⟩
                · have hb : b4 = false := hb
                  subst hb
                  go_wp2
                  go_ret
                  exact ⟨rfl, HB.out⟩
              · have hr : (0 : Int) = r := hr
                subst hr
                cases b3
                · clear hb
                  go_wp2
                  go_ret
                  exact ⟨rfl, HB.out⟩
                · have hb : b4 = false := hb
                  subst hb
                  go_wp2
                  go_ret
                  exact ⟨rfl, HB.out⟩)


end Go.Proofs.Ytjbjongahnocdaa.S

namespace Go.Proofs.Ytjbjongahnocdaa.S
open Go.Proofs.Ytjbjongahnocdaa.Lib
open Go.Proofs.Ytjbjongahnocdaa.Defs
open Go.Maps (Keyed)
open Go.RowKit Go.Proofs.YtjbjongahnocdaaW.PrintWords Go.Proofs.YtjbjongahnocdaaW.PrintLast Go.Proofs.YtjbjongahnocdaaW.PrintMore
attribute [local go_sem] max2_int min2_int max_two min_two max_three min_three max_four min_four   -- for this text's walks alone
set_option linter.unusedVariables false
set_option linter.unusedSimpArgs false

/-! ### tickingref02_LanesSort: function 35 -/
mutual
def tickingref02_LanesSort.l0 : Nat → List Int → Int → List Int → Int → Option (Bool)
  | 0, _, _, _, _ => none
  | k + 1, x0, x1, x2, x7 => if x7 < (x2.length : Int) then (if 0 ≤ x7 then (if (rd x2 x7) < 0 then (tickingref02_LanesSort.j1 k x0 x1 x2 x7 true) else (tickingref02_LanesSort.j1 k x0 x1 x2 x7 (decide ((rd x2 x7) ≥ x1)))) else (none)) else (some true)
def tickingref02_LanesSort.j1 : Nat → List Int → Int → List Int → Int → Bool → Option (Bool)
  | 0, _, _, _, _, _ => none
  | k + 1, x0, x1, x2, x7, x32 => if x32 = true then (some false) else (tickingref02_LanesSort.l1 k x0 x1 x2 x7 0)
def tickingref02_LanesSort.l1 : Nat → List Int → Int → List Int → Int → Int → Option (Bool)
  | 0, _, _, _, _, _ => none
  | k + 1, x0, x1, x2, x7, x8 => if x8 < x7 then (if 0 ≤ x8 then (if x8 < (x2.length : Int) then (if 0 ≤ x7 then (if x7 < (x2.length : Int) then (if (rd x2 x8) = (rd x2 x7) then (if x8 < (x0.length : Int) then (if x7 < (x0.length : Int) then (if (rd x0 x8) > (rd x0 x7) then (some false) else (tickingref02_LanesSort.l1 k x0 x1 x2 x7 (wrap64 (x8 + 1)))) else (none)) else (none)) else (tickingref02_LanesSort.l1 k x0 x1 x2 x7 (wrap64 (x8 + 1)))) else (none)) else (none)) else (none)) else (none)) else (tickingref02_LanesSort.l0 k x0 x1 x2 (wrap64 (x7 + 1)))
end
def tickingref02_LanesSort.f (k : Nat) (l0 : List Int) (a1 : Int) (l2 : List Int) : Option (Bool) := if (l2.length : Int) = (l0.length : Int) then (tickingref02_LanesSort.l0 k l0 a1 l2 0) else (some false)
theorem tickingref02_LanesSort.mono_l : ∀ k, (∀ y0 y1 y2 y3, LeO (tickingref02_LanesSort.l0 k y0 y1 y2 y3) (tickingref02_LanesSort.l0 (k + 1) y0 y1 y2 y3)) ∧ (∀ y0 y1 y2 y3 y4, LeO (tickingref02_LanesSort.j1 k y0 y1 y2 y3 y4) (tickingref02_LanesSort.j1 (k + 1) y0 y1 y2 y3 y4)) ∧ (∀ y0 y1 y2 y3 y4, LeO (tickingref02_LanesSort.l1 k y0 y1 y2 y3 y4) (tickingref02_LanesSort.l1 (k + 1) y0 y1 y2 y3 y4))
  | 0 => ⟨fun _ _ _ _ r h => by simp [tickingref02_LanesSort.l0] at h, fun _ _ _ _ _ r h => by simp [tickingref02_LanesSort.j1] at h, fun _ _ _ _ _ r h => by simp [tickingref02_LanesSort.l1] at h⟩
  | k + 1 => by
    obtain ⟨ih0, ih1, ih2⟩ := tickingref02_LanesSort.mono_l k
    refine ⟨?_, ?_, ?_⟩
    · intro y0 y1 y2 y3
      unfold tickingref02_LanesSort.l0
      repeat' first
      | (with_reducible exact ih0 _ _ _ _)
      | (with_reducible exact ih1 _ _ _ _ _)
      | (with_reducible exact ih2 _ _ _ _ _)
      | (with_reducible exact LeO.refl _)
      | (with_reducible exact LeO.none _)
      | (with_reducible refine LeO.ite ?_ ?_)
      | (with_reducible refine LeO.bind ?_ (fun _ => ?_))
      | exact ih0 _ _ _ _
      | exact ih1 _ _ _ _ _
      | exact ih2 _ _ _ _ _
      | exact LeO.none _
      | refine LeO.ite ?_ ?_
      | refine LeO.bind ?_ (fun _ => ?_)
    · intro y0 y1 y2 y3 y4
      unfold tickingref02_LanesSort.j1
      repeat' first
      | (with_reducible exact ih0 _ _ _ _)
      | (with_reducible exact ih1 _ _ _ _ _)
      | (with_reducible exact ih2 _ _ _ _ _)
      | (with_reducible exact LeO.refl _)
      | (with_reducible exact LeO.none _)
      | (with_reducible refine LeO.ite ?_ ?_)
      | (with_reducible refine LeO.bind ?_ (fun _ => ?_))
      | exact ih0 _ _ _ _
      | exact ih1 _ _ _ _ _
      | exact ih2 _ _ _ _ _
      | exact LeO.none _
      | refine LeO.ite ?_ ?_
      | refine LeO.bind ?_ (fun _ => ?_)
    · intro y0 y1 y2 y3 y4
      unfold tickingref02_LanesSort.l1
      repeat' first
      | (with_reducible exact ih0 _ _ _ _)
      | (with_reducible exact ih1 _ _ _ _ _)
      | (with_reducible exact ih2 _ _ _ _ _)
      | (with_reducible exact LeO.refl _)
      | (with_reducible exact LeO.none _)
      | (with_reducible refine LeO.ite ?_ ?_)
      | (with_reducible refine LeO.bind ?_ (fun _ => ?_))
      | exact ih0 _ _ _ _
      | exact ih1 _ _ _ _ _
      | exact ih2 _ _ _ _ _
      | exact LeO.none _
      | refine LeO.ite ?_ ?_
      | refine LeO.bind ?_ (fun _ => ?_)
theorem tickingref02_LanesSort.mono : ∀ a0 a1 a2 k, LeO (tickingref02_LanesSort.f k a0 a1 a2) (tickingref02_LanesSort.f (k + 1) a0 a1 a2) := by
  intro a0 a1 a2 k
  obtain ⟨ih0, ih1, ih2⟩ := tickingref02_LanesSort.mono_l k
  unfold tickingref02_LanesSort.f
  repeat' first
      | (with_reducible exact ih0 _ _ _ _)
      | (with_reducible exact ih1 _ _ _ _ _)
      | (with_reducible exact ih2 _ _ _ _ _)
      | (with_reducible exact LeO.refl _)
      | (with_reducible exact LeO.none _)
      | (with_reducible refine LeO.ite ?_ ?_)
      | (with_reducible refine LeO.bind ?_ (fun _ => ?_))
      | exact ih0 _ _ _ _
      | exact ih1 _ _ _ _ _
      | exact ih2 _ _ _ _ _
      | exact LeO.none _
      | refine LeO.ite ?_ ?_
      | refine LeO.bind ?_ (fun _ => ?_)
set_option maxHeartbeats 8000000 in
set_option maxRecDepth 100000 in
theorem tickingref02_LanesSort.calls (k : Nat) (A0 : Option Addr) (c0 : Nat) (l0 : List Int) (a1 : Int) (A2 : Option Addr) (c2 : Nat) (l2 : List Int) (r : Bool) (w : World) (hr0 : Kd.C (Kd.int .i64) w A0 l0.length l0) (hc0 : l0.length ≤ c0) (hr2 : Kd.C (Kd.int .i64) w A2 l2.length l2) (hc2 : l2.length ≤ c2) (h : tickingref02_LanesSort.f k l0 a1 l2 = some r) :
    Calls Try.prog 35 #[.slice A0 l0.length c0, .int .i64 a1, .slice A2 l2.length c2] w fun e w' => e = .returned (.bool r) ∧ Drawn0 w w' := by
  have HR0 := Aside0.mk hr0
  have HC0 := Aside0.mk hc0
  clear hr0 hc0
  have HR2 := Aside0.mk hr2
  have HC2 := Aside0.mk hc2
  clear hr2 hc2
  have H : (if (l2.length : Int) = (l0.length : Int) then (tickingref02_LanesSort.l0 k l0 a1 l2 0) else (some false)) = some r := h
  clear h
  by_cases c4 : (l2.length : Int) = (l0.length : Int)
  · rw [if_pos c4] at H
    have c4b0 : ((l2.length : Int) == (l0.length : Int)) = true := beq_iff_eq.mpr c4
    have c4b1 : ((l2.length : Int) != (l0.length : Int)) = false := bne_eq_false_iff_eq.mpr c4
    have c4b2 : (l2.length == l0.length) = true := by first | simpa using c4 | (simp at c4 ⊢; omega)
    clear c4
    have H' := Aside0.mk H
    clear H
    go_enter Try.func35, Try.ntmps35
    go_wp2
    repeat (go_quiet (fail); try go_wp2)
    go_loopg [7] k (fun kq v7 w' => ∃ (x7_1 : Int), v7 = .int .i64 x7_1 ∧ Aside0 (tickingref02_LanesSort.l0 kq l0 a1 l2 x7_1 = some r) ∧ Aside0 (kq ≤ k) ∧ Drawn0 w w')
    case atStart => exact ⟨(0), (by first | rfl | (simp; done) | (simp [*]; done)), H', ⟨Nat.le_refl _⟩, by repeat (first | exact Drawn0.refl _ | apply Drawn0.step)⟩
    case round =>
      clear H'
      try clear c2
      try clear p2
      try clear c3
      try clear c4
      try clear c4b0
      try clear c4b1
      try clear c4b2
      obtain ⟨x7_1, rfl, HA, HK1, ⟨m1, rfl⟩⟩ := hrel
      cases gk with
      | zero => exact absurd HA.out (by simp [tickingref02_LanesSort.l0])
      | succ k1 =>
        have H := HA.out
        clear HA
        simp only [tickingref02_LanesSort.l0] at H
        by_cases c5 : x7_1 < (l2.length : Int)
        · rw [if_pos c5] at H
          have c5b0 : decide (x7_1 < (l2.length : Int)) = true := decide_eq_true c5
          clear c5
          have HC6 := Aside0.mk H
          clear H
          go_upto_region 6 with (fail)
          repeat (go_quiet (fail); go_upto_region 6 with (fail))
          go_cut [32] (fun v32 wc => ∃ (kq : Nat) (x32_5 : Bool), v32 = .bool x32_5 ∧ Aside0 (tickingref02_LanesSort.j1 kq l0 a1 l2 x7_1 x32_5 = some r) ∧ Aside0 (kq ≤ k1) ∧ Drawn0 w wc)
          case first =>
            have H := HC6.out
            clear HC6
            by_cases c7 : 0 ≤ x7_1
            · rw [if_pos c7] at H
              have c7b0 : decide (0 ≤ x7_1) = true := decide_eq_true c7
              clear c7
              (first | rw [c7b0] | (simp only [i64_w, i32_w]; rw [c7b0]) | skip)
              by_cases c8 : (rd l2 x7_1) < 0
              · rw [if_pos c8] at H
                have c8b0 : decide ((rd l2 x7_1) < 0) = true := decide_eq_true c8
                clear c8
                have H' := Aside0.mk H
                clear H
                have p312 : 0 ≤ (x7_1 : Int) := of_decide_eq_true (by first | (with_reducible assumption) | assumption)
                have q312 : x7_1 < (l2.length : Int) := of_decide_eq_true (by first | (with_reducible assumption) | assumption)
                obtain ⟨ad312, e312, hx312_0⟩ := Kd.at_int HR2.out x7_1 p312 q312
                cases e312
                replace p312 := eq_true p312
                replace q312 := eq_true q312
                go_wp2
                repeat (go_quiet (fail); try go_wp2)
                go_meet
                case rel => exact ⟨_, (true), (by first | rfl | (simp; done) | (simp [*]; done)), H', ⟨by have := HK1.out; first | omega | exact Nat.le_refl _⟩, by repeat (first | exact Drawn0.refl _ | apply Drawn0.step)⟩
              · rw [if_neg c8] at H
                have c8b0 : decide ((rd l2 x7_1) < 0) = false := decide_eq_false c8
                clear c8
                have H' := Aside0.mk H
                clear H
                have p312 : 0 ≤ (x7_1 : Int) := of_decide_eq_true (by first | (with_reducible assumption) | assumption)
                have q312 : x7_1 < (l2.length : Int) := of_decide_eq_true (by first | (with_reducible assumption) | assumption)
                obtain ⟨ad312, e312, hx312_0⟩ := Kd.at_int HR2.out x7_1 p312 q312
                cases e312
                replace p312 := eq_true p312
                replace q312 := eq_true q312
                have p313 : 0 ≤ (x7_1 : Int) := of_decide_eq_true (by first | (with_reducible assumption) | assumption)
                have q313 : x7_1 < (l2.length : Int) := of_decide_eq_true (by first | (with_reducible assumption) | assumption)
                obtain ⟨ad313, e313, hx313_0⟩ := Kd.at_int HR2.out x7_1 p313 q313
                obtain rfl : ad312 = ad313 := (by injection e313)
                replace p313 := eq_true p313
                replace q313 := eq_true q313
                go_wp2
                repeat (go_quiet (fail); try go_wp2)
                go_meet
                case rel => exact ⟨_, (decide ((rd l2 x7_1) ≥ a1)), (by first | rfl | (simp; done) | (simp [*]; done)), H', ⟨by have := HK1.out; first | omega | exact Nat.le_refl _⟩, by repeat (first | exact Drawn0.refl _ | apply Drawn0.step)⟩
            · rw [if_neg c7] at H
              exact absurd H (by simp)
          case rest =>
            clear HC6
            try clear c2
            try clear p2
            try clear c3
            try clear p3
            try clear q3
            try clear hx3
            try clear c4
            try clear c4b0
            try clear c4b1
            try clear c4b2
            try clear c5
            try clear c5b0
            try clear c7
            try clear c7b0
            try clear c8
            try clear c8b0
            try clear hx312_0
            try clear hx313_0
            try clear p2
            try clear p312
            try clear p313
            try clear q312
            try clear q313
            obtain ⟨kq, x32_5, rfl, HA, HJ5, ⟨mc5, rfl⟩⟩ := hcut
            cases kq with
            | zero => exact absurd HA.out (by simp [tickingref02_LanesSort.j1])
            | succ kj5 =>
              have H := HA.out
              clear HA
              simp only [tickingref02_LanesSort.j1] at H
              by_cases c9 : x32_5 = true
              · subst c9
                have H1 : (some false) = some r := by rw [if_pos rfl] at H; exact H
                clear H
                have H := H1
                clear H1
                obtain rfl := Option.some.inj H
                go_wp2
                repeat (go_quiet (fail); try go_wp2)
                go_ret
                exact ⟨by first | rfl | (simp; done) | (simp [*]; done), by repeat (first | exact Drawn0.refl _ | apply Drawn0.step)⟩
              · replace c9 := Bool.eq_false_iff.mpr c9
                subst c9
                have H1 : (tickingref02_LanesSort.l1 kj5 l0 a1 l2 x7_1 0) = some r := by rw [if_neg (show ¬ (false = true) by decide)] at H; exact H
                clear H
                have H := H1
                clear H1
                have H' := Aside0.mk H
                clear H
                go_wp2
                repeat (go_quiet (fail); try go_wp2)
                go_loopg [8] kj5 (fun kq v8 w' => ∃ (x8_3 : Int), v8 = .int .i64 x8_3 ∧ Aside0 (tickingref02_LanesSort.l1 kq l0 a1 l2 x7_1 x8_3 = some r) ∧ Aside0 (kq ≤ kj5) ∧ Drawn0 w w')
                case atStart => exact ⟨(0), (by first | rfl | (simp; done) | (simp [*]; done)), H', ⟨Nat.le_refl _⟩, by repeat (first | exact Drawn0.refl _ | apply Drawn0.step)⟩
                case round =>
                  clear H'
                  try clear c2
                  try clear p2
                  try clear c3
                  try clear p3
                  try clear q3
                  try clear hx3
                  try clear c4
                  try clear c4b0
                  try clear c4b1
                  try clear c4b2
                  try clear c5
                  try clear c5b0
                  try clear c7
                  try clear c7b0
                  try clear c8
                  try clear c8b0
                  try clear c9
                  try clear hx312_0
                  try clear hx313_0
                  try clear p2
                  try clear p3
                  try clear p312
                  try clear p313
                  try clear q3
                  try clear q312
                  try clear q313
                  obtain ⟨x8_3, rfl, HA, HK3, ⟨m3, rfl⟩⟩ := hrel
                  cases gk with
                  | zero => exact absurd HA.out (by simp [tickingref02_LanesSort.l1])
                  | succ k3 =>
                    have H := HA.out
                    clear HA
                    simp only [tickingref02_LanesSort.l1] at H
                    by_cases c10 : x8_3 < x7_1
                    · rw [if_pos c10] at H
                      have c10b0 : decide (x8_3 < x7_1) = true := decide_eq_true c10
                      clear c10
                      by_cases c11 : 0 ≤ x8_3
                      · rw [if_pos c11] at H
                        have c11b0 : decide (0 ≤ x8_3) = true := decide_eq_true c11
                        clear c11
                        by_cases c12 : x8_3 < (l2.length : Int)
                        · rw [if_pos c12] at H
                          have c12b0 : decide (x8_3 < (l2.length : Int)) = true := decide_eq_true c12
                          clear c12
                          by_cases c13 : 0 ≤ x7_1
                          · rw [if_pos c13] at H
                            have c13b0 : decide (0 ≤ x7_1) = true := decide_eq_true c13
                            clear c13
                            by_cases c14 : x7_1 < (l2.length : Int)
                            · rw [if_pos c14] at H
                              have c14b0 : decide (x7_1 < (l2.length : Int)) = true := decide_eq_true c14
                              clear c14
                              by_cases c15 : (rd l2 x8_3) = (rd l2 x7_1)
                              · rw [if_pos c15] at H
                                have c15b0 : ((rd l2 x8_3) == (rd l2 x7_1)) = true := beq_iff_eq.mpr c15
                                have c15b1 : ((rd l2 x8_3) != (rd l2 x7_1)) = false := bne_eq_false_iff_eq.mpr c15
                                clear c15
                                by_cases c16 : x8_3 < (l0.length : Int)
                                · rw [if_pos c16] at H
                                  have c16b0 : decide (x8_3 < (l0.length : Int)) = true := decide_eq_true c16
                                  clear c16
                                  by_cases c17 : x7_1 < (l0.length : Int)
                                  · rw [if_pos c17] at H
                                    have c17b0 : decide (x7_1 < (l0.length : Int)) = true := decide_eq_true c17
                                    clear c17
                                    by_cases c18 : (rd l0 x8_3) > (rd l0 x7_1)
                                    · rw [if_pos c18] at H
                                      have c18b0 : decide ((rd l0 x7_1) < (rd l0 x8_3)) = true := decide_eq_true c18
                                      clear c18
                                      obtain rfl := Option.some.inj H
                                      have p314 : 0 ≤ (x8_3 : Int) := of_decide_eq_true (by first | (with_reducible assumption) | assumption)
                                      have q314 : x8_3 < (l2.length : Int) := of_decide_eq_true (by first | (with_reducible assumption) | assumption)
                                      obtain ⟨ad314, e314, hx314_0⟩ := Kd.at_int HR2.out x8_3 p314 q314
                                      cases e314
                                      replace p314 := eq_true p314
                                      replace q314 := eq_true q314
                                      have p315 : 0 ≤ (x7_1 : Int) := of_decide_eq_true (by first | (with_reducible assumption) | assumption)
                                      have q315 : x7_1 < (l2.length : Int) := of_decide_eq_true (by first | (with_reducible assumption) | assumption)
                                      obtain ⟨ad315, e315, hx315_0⟩ := Kd.at_int HR2.out x7_1 p315 q315
                                      obtain rfl : ad314 = ad315 := (by injection e315)
                                      replace p315 := eq_true p315
                                      replace q315 := eq_true q315
                                      have p316 : 0 ≤ (x8_3 : Int) := of_decide_eq_true (by first | (with_reducible assumption) | assumption)
                                      have q316 : x8_3 < (l0.length : Int) := of_decide_eq_true (by first | (with_reducible assumption) | assumption)
                                      obtain ⟨ad316, e316, hx316_0⟩ := Kd.at_int HR0.out x8_3 p316 q316
                                      cases e316
                                      replace p316 := eq_true p316
                                      replace q316 := eq_true q316
                                      have p317 : 0 ≤ (x7_1 : Int) := of_decide_eq_true (by first | (with_reducible assumption) | assumption)
                                      have q317 : x7_1 < (l0.length : Int) := of_decide_eq_true (by first | (with_reducible assumption) | assumption)
                                      obtain ⟨ad317, e317, hx317_0⟩ := Kd.at_int HR0.out x7_1 p317 q317
                                      obtain rfl : ad316 = ad317 := (by injection e317)
                                      replace p317 := eq_true p317
                                      replace q317 := eq_true q317
                                      go_wp2
                                      repeat (go_quiet (fail); try go_wp2)
                                      go_ret
                                      exact ⟨by first | rfl | (simp; done) | (simp [*]; done), by repeat (first | exact Drawn0.refl _ | apply Drawn0.step)⟩
                                    · rw [if_neg c18] at H
                                      have c18b0 : decide ((rd l0 x7_1) < (rd l0 x8_3)) = false := decide_eq_false c18
                                      clear c18
                                      have H' := Aside0.mk H
                                      clear H
                                      have p314 : 0 ≤ (x8_3 : Int) := of_decide_eq_true (by first | (with_reducible assumption) | assumption)
                                      have q314 : x8_3 < (l2.length : Int) := of_decide_eq_true (by first | (with_reducible assumption) | assumption)
                                      obtain ⟨ad314, e314, hx314_0⟩ := Kd.at_int HR2.out x8_3 p314 q314
                                      cases e314
                                      replace p314 := eq_true p314
                                      replace q314 := eq_true q314
                                      have p315 : 0 ≤ (x7_1 : Int) := of_decide_eq_true (by first | (with_reducible assumption) | assumption)
                                      have q315 : x7_1 < (l2.length : Int) := of_decide_eq_true (by first | (with_reducible assumption) | assumption)
                                      obtain ⟨ad315, e315, hx315_0⟩ := Kd.at_int HR2.out x7_1 p315 q315
                                      obtain rfl : ad314 = ad315 := (by injection e315)
                                      replace p315 := eq_true p315
                                      replace q315 := eq_true q315
                                      have p316 : 0 ≤ (x8_3 : Int) := of_decide_eq_true (by first | (with_reducible assumption) | assumption)
                                      have q316 : x8_3 < (l0.length : Int) := of_decide_eq_true (by first | (with_reducible assumption) | assumption)
                                      obtain ⟨ad316, e316, hx316_0⟩ := Kd.at_int HR0.out x8_3 p316 q316
                                      cases e316
                                      replace p316 := eq_true p316
                                      replace q316 := eq_true q316
                                      have p317 : 0 ≤ (x7_1 : Int) := of_decide_eq_true (by first | (with_reducible assumption) | assumption)
                                      have q317 : x7_1 < (l0.length : Int) := of_decide_eq_true (by first | (with_reducible assumption) | assumption)
                                      obtain ⟨ad317, e317, hx317_0⟩ := Kd.at_int HR0.out x7_1 p317 q317
                                      obtain rfl : ad316 = ad317 := (by injection e317)
                                      replace p317 := eq_true p317
                                      replace q317 := eq_true q317
                                      go_wp2
                                      repeat (go_quiet (fail); try go_wp2)
                                      go_roundg k3
                                      case measure => have := HK1.out; have := HJ5.out; have := HK3.out; omega
                                      case rel => exact ⟨(wrap64 (x8_3 + 1)), (by first | rfl | (simp; done) | (simp [*]; done)), H', ⟨by have := HK1.out; have := HJ5.out; have := HK3.out; omega⟩, by repeat (first | exact Drawn0.refl _ | apply Drawn0.step)⟩
                                  · rw [if_neg c17] at H
                                    exact absurd H (by simp)
                                · rw [if_neg c16] at H
                                  exact absurd H (by simp)
                              · rw [if_neg c15] at H
                                have c15b0 : ((rd l2 x8_3) == (rd l2 x7_1)) = false := beq_eq_false_iff_ne.mpr c15
                                have c15b1 : ((rd l2 x8_3) != (rd l2 x7_1)) = true := bne_iff_ne.mpr c15
                                have H' := Aside0.mk H
                                clear H
                                have p314 : 0 ≤ (x8_3 : Int) := of_decide_eq_true (by first | (with_reducible assumption) | assumption)
                                have q314 : x8_3 < (l2.length : Int) := of_decide_eq_true (by first | (with_reducible assumption) | assumption)
                                obtain ⟨ad314, e314, hx314_0⟩ := Kd.at_int HR2.out x8_3 p314 q314
                                cases e314
                                replace p314 := eq_true p314
                                replace q314 := eq_true q314
                                have p315 : 0 ≤ (x7_1 : Int) := of_decide_eq_true (by first | (with_reducible assumption) | assumption)
                                have q315 : x7_1 < (l2.length : Int) := of_decide_eq_true (by first | (with_reducible assumption) | assumption)
                                obtain ⟨ad315, e315, hx315_0⟩ := Kd.at_int HR2.out x7_1 p315 q315
                                obtain rfl : ad314 = ad315 := (by injection e315)
                                replace p315 := eq_true p315
                                replace q315 := eq_true q315
                                go_wp2
                                repeat (go_quiet (fail); try go_wp2)
                                go_roundg k3
                                case measure => have := HK1.out; have := HJ5.out; have := HK3.out; omega
                                case rel => exact ⟨(wrap64 (x8_3 + 1)), (by first | rfl | (simp; done) | (simp [*]; done)), H', ⟨by have := HK1.out; have := HJ5.out; have := HK3.out; omega⟩, by repeat (first | exact Drawn0.refl _ | apply Drawn0.step)⟩
                            · rw [if_neg c14] at H
                              exact absurd H (by simp)
                          · rw [if_neg c13] at H
                            exact absurd H (by simp)
                        · rw [if_neg c12] at H
                          exact absurd H (by simp)
                      · rw [if_neg c11] at H
                        exact absurd H (by simp)
                    · rw [if_neg c10] at H
                      have c10b0 : decide (x8_3 < x7_1) = false := decide_eq_false c10
                      clear c10
                      have H' := Aside0.mk H
                      clear H
                      go_wp2
                      repeat (go_quiet (fail); try go_wp2)
                      go_roundg k3
                      case measure => have := HK1.out; have := HJ5.out; have := HK3.out; omega
                      case rel => exact ⟨(wrap64 (x7_1 + 1)), (by first | rfl | (simp; done) | (simp [*]; done)), H', ⟨by have := HK1.out; have := HJ5.out; have := HK3.out; omega⟩, by repeat (first | exact Drawn0.refl _ | apply Drawn0.step)⟩
        · rw [if_neg c5] at H
          have c5b0 : decide (x7_1 < (l2.length : Int)) = false := decide_eq_false c5
          clear c5
          obtain rfl := Option.some.inj H
          go_wp2
          repeat (go_quiet (fail); try go_wp2)
          go_ret
          exact ⟨by first | rfl | (simp; done) | (simp [*]; done), by repeat (first | exact Drawn0.refl _ | apply Drawn0.step)⟩
  · rw [if_neg c4] at H
    have c4b0 : ((l2.length : Int) == (l0.length : Int)) = false := beq_eq_false_iff_ne.mpr c4
    have c4b1 : ((l2.length : Int) != (l0.length : Int)) = true := bne_iff_ne.mpr c4
    have c4b2 : (l2.length == l0.length) = false := by first | simpa using c4 | (simp at c4 ⊢; omega)
    obtain rfl := Option.some.inj H
    go_enter Try.func35, Try.ntmps35
    go_wp2
    repeat (go_quiet (fail); try go_wp2)
    go_ret
    exact ⟨by first | rfl | (simp; done) | (simp [*]; done), by repeat (first | exact Drawn0.refl _ | apply Drawn0.step)⟩

end Go.Proofs.Ytjbjongahnocdaa.S

namespace Go.Proofs.Ytjbjongahnocdaa.S
open Go.Proofs.Ytjbjongahnocdaa.Lib
open Go.Proofs.Ytjbjongahnocdaa.Defs
open Go.Maps (Keyed)
open Go.RowKit Go.Proofs.YtjbjongahnocdaaW.PrintWords Go.Proofs.YtjbjongahnocdaaW.PrintLast Go.Proofs.YtjbjongahnocdaaW.PrintMore
attribute [local go_sem] max2_int min2_int max_two min_two max_three min_three max_four min_four   -- for this text's walks alone
set_option linter.unusedVariables false
set_option linter.unusedSimpArgs false

/-! ### tickingref02_ascending: function 60 -/
def tickingref02_ascending.l0 : Nat → List Int → Int → Option (Bool)
  | 0, _, _ => none
  | k + 1, x0, x3 => if x3 < (x0.length : Int) then (if 0 ≤ (wrap64 (x3 - 1)) then (if (wrap64 (x3 - 1)) < (x0.length : Int) then (if 0 ≤ x3 then (if (rd x0 (wrap64 (x3 - 1))) ≥ (rd x0 x3) then (some false) else (tickingref02_ascending.l0 k x0 (wrap64 (x3 + 1)))) else (none)) else (none)) else (none)) else (some true)
def tickingref02_ascending.f (k : Nat) (l0 : List Int) : Option (Bool) := tickingref02_ascending.l0 k l0 1
theorem tickingref02_ascending.mono_l : ∀ k, (∀ y0 y1, LeO (tickingref02_ascending.l0 k y0 y1) (tickingref02_ascending.l0 (k + 1) y0 y1))
  | 0 => fun _ _ r h => by simp [tickingref02_ascending.l0] at h
  | k + 1 => by
    have ih0 := tickingref02_ascending.mono_l k
    · intro y0 y1
      unfold tickingref02_ascending.l0
      repeat' first
      | (with_reducible exact ih0 _ _)
      | (with_reducible exact LeO.refl _)
      | (with_reducible exact LeO.none _)
      | (with_reducible refine LeO.ite ?_ ?_)
      | (with_reducible refine LeO.bind ?_ (fun _ => ?_))
      | exact ih0 _ _
      | exact LeO.none _
      | refine LeO.ite ?_ ?_
      | refine LeO.bind ?_ (fun _ => ?_)
theorem tickingref02_ascending.mono : ∀ a0 k, LeO (tickingref02_ascending.f k a0) (tickingref02_ascending.f (k + 1) a0) := by
  intro a0 k
  have ih0 := tickingref02_ascending.mono_l k
  unfold tickingref02_ascending.f
  repeat' first
      | (with_reducible exact ih0 _ _)
      | (with_reducible exact LeO.refl _)
      | (with_reducible exact LeO.none _)
      | (with_reducible refine LeO.ite ?_ ?_)
      | (with_reducible refine LeO.bind ?_ (fun _ => ?_))
      | exact ih0 _ _
      | exact LeO.none _
      | refine LeO.ite ?_ ?_
      | refine LeO.bind ?_ (fun _ => ?_)
set_option maxHeartbeats 8000000 in
set_option maxRecDepth 100000 in
theorem tickingref02_ascending.calls (k : Nat) (A0 : Option Addr) (c0 : Nat) (l0 : List Int) (r : Bool) (w : World) (hr0 : Kd.C (Kd.int .i64) w A0 l0.length l0) (hc0 : l0.length ≤ c0) (h : tickingref02_ascending.f k l0 = some r) :
    Calls Try.prog 60 #[.slice A0 l0.length c0] w fun e w' => e = .returned (.bool r) ∧ Drawn0 w w' := by
  have HR0 := Aside0.mk hr0
  have HC0 := Aside0.mk hc0
  clear hr0 hc0
  have H : (tickingref02_ascending.l0 k l0 1) = some r := h
  clear h
  have H' := Aside0.mk H
  clear H
  go_enter Try.func60, Try.ntmps60
  go_wp2
  repeat (go_quiet (fail); try go_wp2)
  go_loopg [3] k (fun kq v3 w' => ∃ (x3_1 : Int), v3 = .int .i64 x3_1 ∧ Aside0 (tickingref02_ascending.l0 kq l0 x3_1 = some r) ∧ Aside0 (kq ≤ k) ∧ Drawn0 w w')
  case atStart => exact ⟨(1), (by first | rfl | (simp; done) | (simp [*]; done)), H', ⟨Nat.le_refl _⟩, by repeat (first | exact Drawn0.refl _ | apply Drawn0.step)⟩
  case round =>
    clear H'
    obtain ⟨x3_1, rfl, HA, HK1, ⟨m1, rfl⟩⟩ := hrel
    cases gk with
    | zero => exact absurd HA.out (by simp [tickingref02_ascending.l0])
    | succ k1 =>
      have H := HA.out
      clear HA
      simp only [tickingref02_ascending.l0] at H
      by_cases c2 : x3_1 < (l0.length : Int)
      · rw [if_pos c2] at H
        have c2b0 : decide (x3_1 < (l0.length : Int)) = true := decide_eq_true c2
        clear c2
        obtain ⟨ji3, hji3⟩ : ∃ j_ : Int, (wrap64 (x3_1 - 1)) = j_ := ⟨_, rfl⟩
        replace H : (if 0 ≤ (ji3) then (if (ji3) < (l0.length : Int) then (if 0 ≤ x3_1 then (if (rd l0 (ji3)) ≥ (rd l0 x3_1) then (some false) else (tickingref02_ascending.l0 k1 l0 (wrap64 (x3_1 + 1)))) else (none)) else (none)) else (none)) = some r := by first | (rw [hji3] at H; exact H) | (simp only [hji3] at H ⊢; exact H)
        have hji3w : (IntKind.i64.wrap (x3_1 - 1)) = ji3 := (i64_w _).trans hji3
        by_cases c4 : 0 ≤ (ji3)
        · rw [if_pos c4] at H
          have c4b0 : decide (0 ≤ (ji3)) = true := decide_eq_true c4
          clear c4
          by_cases c5 : (ji3) < (l0.length : Int)
          · rw [if_pos c5] at H
            have c5b0 : decide ((ji3) < (l0.length : Int)) = true := decide_eq_true c5
            clear c5
            by_cases c6 : 0 ≤ x3_1
            · rw [if_pos c6] at H
              have c6b0 : decide (0 ≤ x3_1) = true := decide_eq_true c6
              clear c6
              by_cases c7 : (rd l0 (ji3)) ≥ (rd l0 x3_1)
              · rw [if_pos c7] at H
                have c7b0 : decide ((rd l0 x3_1) ≤ (rd l0 (ji3))) = true := decide_eq_true c7
                clear c7
                obtain rfl := Option.some.inj H
                have p194 : 0 ≤ ((ji3) : Int) := of_decide_eq_true (by first | (with_reducible assumption) | assumption)
                have q194 : (ji3) < (l0.length : Int) := of_decide_eq_true (by first | (with_reducible assumption) | assumption)
                obtain ⟨ad194, e194, hx194_0⟩ := Kd.at_int HR0.out (ji3) p194 q194
                cases e194
                replace p194 := eq_true p194
                replace q194 := eq_true q194
                have p195 : 0 ≤ (x3_1 : Int) := of_decide_eq_true (by first | (with_reducible assumption) | assumption)
                have q195 : x3_1 < (l0.length : Int) := of_decide_eq_true (by first | (with_reducible assumption) | assumption)
                obtain ⟨ad195, e195, hx195_0⟩ := Kd.at_int HR0.out x3_1 p195 q195
                obtain rfl : ad194 = ad195 := (by injection e195)
                replace p195 := eq_true p195
                replace q195 := eq_true q195
                go_wp2
                repeat (go_quiet (fail); try go_wp2)
                go_ret
                exact ⟨by first | rfl | (simp; done) | (simp only [← hji3] <;> (first | rfl | simp)) | (simp [*]; done), by repeat (first | exact Drawn0.refl _ | apply Drawn0.step)⟩
              · rw [if_neg c7] at H
                have c7b0 : decide ((rd l0 x3_1) ≤ (rd l0 (ji3))) = false := decide_eq_false c7
                clear c7
                have H' := Aside0.mk H
                clear H
                have p194 : 0 ≤ ((ji3) : Int) := of_decide_eq_true (by first | (with_reducible assumption) | assumption)
                have q194 : (ji3) < (l0.length : Int) := of_decide_eq_true (by first | (with_reducible assumption) | assumption)
                obtain ⟨ad194, e194, hx194_0⟩ := Kd.at_int HR0.out (ji3) p194 q194
                cases e194
                replace p194 := eq_true p194
                replace q194 := eq_true q194
                have p195 : 0 ≤ (x3_1 : Int) := of_decide_eq_true (by first | (with_reducible assumption) | assumption)
                have q195 : x3_1 < (l0.length : Int) := of_decide_eq_true (by first | (with_reducible assumption) | assumption)
                obtain ⟨ad195, e195, hx195_0⟩ := Kd.at_int HR0.out x3_1 p195 q195
                obtain rfl : ad194 = ad195 := (by injection e195)
                replace p195 := eq_true p195
                replace q195 := eq_true q195
                go_wp2
                repeat (go_quiet (fail); try go_wp2)
                go_roundg k1
                case measure => have := HK1.out; omega
                case rel => exact ⟨(wrap64 (x3_1 + 1)), (by first | rfl | (simp; done) | (simp [*]; done)), H', ⟨by have := HK1.out; omega⟩, by repeat (first | exact Drawn0.refl _ | apply Drawn0.step)⟩
            · rw [if_neg c6] at H
              exact absurd H (by simp)
          · rw [if_neg c5] at H
            exact absurd H (by simp)
        · rw [if_neg c4] at H
          exact absurd H (by simp)
      · rw [if_neg c2] at H
        have c2b0 : decide (x3_1 < (l0.length : Int)) = false := decide_eq_false c2
        clear c2
        obtain rfl := Option.some.inj H
        go_wp2
        repeat (go_quiet (fail); try go_wp2)
        go_ret
        exact ⟨by first | rfl | (simp; done) | (simp [*]; done), by repeat (first | exact Drawn0.refl _ | apply Drawn0.step)⟩

end Go.Proofs.Ytjbjongahnocdaa.S

namespace Go.Proofs.Ytjbjongahnocdaa.S
open Go.Proofs.Ytjbjongahnocdaa.Lib
open Go.Proofs.Ytjbjongahnocdaa.Defs
open Go.Maps (Keyed)
open Go.RowKit Go.Proofs.YtjbjongahnocdaaW.PrintWords Go.Proofs.YtjbjongahnocdaaW.PrintLast Go.Proofs.YtjbjongahnocdaaW.PrintMore
attribute [local go_sem] max2_int min2_int max_two min_two max_three min_three max_four min_four   -- for this text's walks alone
set_option linter.unusedVariables false
set_option linter.unusedSimpArgs false

/-! ### tickingref02_at: function 65 -/
def tickingref02_at.l0 : Nat → List Int → Int → Int → Option (Bool)
  | 0, _, _, _ => none
  | k + 1, x0, x1, x5 => if x5 < (x0.length : Int) then (if 0 ≤ x5 then (if (rd x0 x5) < 0 then (some false) else (if (rd x0 x5) ≥ x1 then (some false) else (if x5 ≤ (x0.length : Int) then ((tickingref02_has.f k (x0.take (x5 : Int).toNat) (rd x0 x5)).bind fun t322 => (if t322 = true then (some false) else (tickingref02_at.l0 k x0 x1 (wrap64 (x5 + 1))))) else (none)))) else (none)) else (some true)
def tickingref02_at.f (k : Nat) (l0 : List Int) (a1 : Int) : Option (Bool) := tickingref02_at.l0 k l0 a1 0
theorem tickingref02_at.mono_l : ∀ k, (∀ y0 y1 y2, LeO (tickingref02_at.l0 k y0 y1 y2) (tickingref02_at.l0 (k + 1) y0 y1 y2))
  | 0 => fun _ _ _ r h => by simp [tickingref02_at.l0] at h
  | k + 1 => by
    have ih0 := tickingref02_at.mono_l k
    · intro y0 y1 y2
      unfold tickingref02_at.l0
      repeat' first
      | (with_reducible exact ih0 _ _ _)
      | (with_reducible exact tickingref02_has.mono _ _ _)
      | (with_reducible exact LeO.refl _)
      | (with_reducible exact LeO.none _)
      | (with_reducible refine LeO.ite ?_ ?_)
      | (with_reducible refine LeO.bind ?_ (fun _ => ?_))
      | exact ih0 _ _ _
      | exact tickingref02_has.mono _ _ _
      | exact LeO.none _
      | refine LeO.ite ?_ ?_
      | refine LeO.bind ?_ (fun _ => ?_)
theorem tickingref02_at.mono : ∀ a0 a1 k, LeO (tickingref02_at.f k a0 a1) (tickingref02_at.f (k + 1) a0 a1) := by
  intro a0 a1 k
  have ih0 := tickingref02_at.mono_l k
  unfold tickingref02_at.f
  repeat' first
      | (with_reducible exact ih0 _ _ _)
      | (with_reducible exact tickingref02_has.mono _ _ _)
      | (with_reducible exact LeO.refl _)
      | (with_reducible exact LeO.none _)
      | (with_reducible refine LeO.ite ?_ ?_)
      | (with_reducible refine LeO.bind ?_ (fun _ => ?_))
      | exact ih0 _ _ _
      | exact tickingref02_has.mono _ _ _
      | exact LeO.none _
      | refine LeO.ite ?_ ?_
      | refine LeO.bind ?_ (fun _ => ?_)
set_option maxHeartbeats 8000000 in
set_option maxRecDepth 100000 in
theorem tickingref02_at.calls (k : Nat) (A0 : Option Addr) (c0 : Nat) (l0 : List Int) (a1 : Int) (r : Bool) (w : World) (hr0 : Kd.C (Kd.int .i64) w A0 l0.length l0) (hc0 : l0.length ≤ c0) (h : tickingref02_at.f k l0 a1 = some r) :
    Calls Try.prog 65 #[.slice A0 l0.length c0, .int .i64 a1] w fun e w' => e = .returned (.bool r) ∧ Drawn0 w w' := by
  have HR0 := Aside0.mk hr0
  have HC0 := Aside0.mk hc0
  clear hr0 hc0
  have H : (tickingref02_at.l0 k l0 a1 0) = some r := h
  clear h
  have H' := Aside0.mk H
  clear H
  go_enter Try.func65, Try.ntmps65
  go_wp2
  repeat (go_quiet (fail); try go_wp2)
  go_loopg [5] k (fun kq v5 w' => ∃ (x5_1 : Int), v5 = .int .i64 x5_1 ∧ Aside0 (tickingref02_at.l0 kq l0 a1 x5_1 = some r) ∧ Aside0 (kq ≤ k) ∧ Drawn0 w w')
  case atStart => exact ⟨(0), (by first | rfl | (simp; done) | (simp [*]; done)), H', ⟨Nat.le_refl _⟩, by repeat (first | exact Drawn0.refl _ | apply Drawn0.step)⟩
  case round =>
    clear H'
    try clear p2
    obtain ⟨x5_1, rfl, HA, HK1, ⟨m1, rfl⟩⟩ := hrel
    cases gk with
    | zero => exact absurd HA.out (by simp [tickingref02_at.l0])
    | succ k1 =>
      have H := HA.out
      clear HA
      simp only [tickingref02_at.l0] at H
      by_cases c3 : x5_1 < (l0.length : Int)
      · rw [if_pos c3] at H
        have c3b0 : decide (x5_1 < (l0.length : Int)) = true := decide_eq_true c3
        clear c3
        by_cases c4 : 0 ≤ x5_1
        · rw [if_pos c4] at H
          have c4b0 : decide (0 ≤ x5_1) = true := decide_eq_true c4
          clear c4
          by_cases c5 : (rd l0 x5_1) < 0
          · rw [if_pos c5] at H
            have c5b0 : decide ((rd l0 x5_1) < 0) = true := decide_eq_true c5
            clear c5
            obtain rfl := Option.some.inj H
            have p318 : 0 ≤ (x5_1 : Int) := of_decide_eq_true (by first | (with_reducible assumption) | assumption)
            have q318 : x5_1 < (l0.length : Int) := of_decide_eq_true (by first | (with_reducible assumption) | assumption)
            obtain ⟨ad318, e318, hx318_0⟩ := Kd.at_int HR0.out x5_1 p318 q318
            cases e318
            replace p318 := eq_true p318
            replace q318 := eq_true q318
            go_wp2
            repeat (go_quiet (fail); try go_wp2)
            go_ret
            exact ⟨by first | rfl | (simp; done) | (simp [*]; done), by repeat (first | exact Drawn0.refl _ | apply Drawn0.step)⟩
          · rw [if_neg c5] at H
            have c5b0 : decide ((rd l0 x5_1) < 0) = false := decide_eq_false c5
            clear c5
            by_cases c6 : (rd l0 x5_1) ≥ a1
            · rw [if_pos c6] at H
              have c6b0 : decide (a1 ≤ (rd l0 x5_1)) = true := decide_eq_true c6
              clear c6
              obtain rfl := Option.some.inj H
              have p318 : 0 ≤ (x5_1 : Int) := of_decide_eq_true (by first | (with_reducible assumption) | assumption)
              have q318 : x5_1 < (l0.length : Int) := of_decide_eq_true (by first | (with_reducible assumption) | assumption)
              obtain ⟨ad318, e318, hx318_0⟩ := Kd.at_int HR0.out x5_1 p318 q318
              cases e318
              replace p318 := eq_true p318
              replace q318 := eq_true q318
              have p319 : 0 ≤ (x5_1 : Int) := of_decide_eq_true (by first | (with_reducible assumption) | assumption)
              have q319 : x5_1 < (l0.length : Int) := of_decide_eq_true (by first | (with_reducible assumption) | assumption)
              obtain ⟨ad319, e319, hx319_0⟩ := Kd.at_int HR0.out x5_1 p319 q319
              obtain rfl : ad318 = ad319 := (by injection e319)
              replace p319 := eq_true p319
              replace q319 := eq_true q319
              go_wp2
              repeat (go_quiet (fail); try go_wp2)
              go_ret
              exact ⟨by first | rfl | (simp; done) | (simp [*]; done), by repeat (first | exact Drawn0.refl _ | apply Drawn0.step)⟩
            · rw [if_neg c6] at H
              have c6b0 : decide (a1 ≤ (rd l0 x5_1)) = false := decide_eq_false c6
              clear c6
              have c7b0 := eq_true (of_decide_eq_true (by first | (with_reducible assumption) | assumption) : 0 ≤ x5_1)
              by_cases c8 : x5_1 ≤ (l0.length : Int)
              · rw [if_pos c8] at H
                have c8b0 := eq_true c8
                have c8b1 : decide (x5_1 ≤ (l0.length : Int)) = true := decide_eq_true c8
                clear c8
                replace H := Option.bind_eq_some_iff.mp H
                obtain ⟨t322, A90, H⟩ := H
                replace H : (if t322 = true then (some false) else (tickingref02_at.l0 k1 l0 a1 (wrap64 (x5_1 + 1)))) = some r := H
                have A9 := Aside0.mk A90
                clear A90
                by_cases c10 : t322 = true
                · subst c10
                  have H1 : (some false) = some r := by rw [if_pos rfl] at H; exact H
                  clear H
                  have H := H1
                  clear H1
                  obtain rfl := Option.some.inj H
                  have p318 : 0 ≤ (x5_1 : Int) := of_decide_eq_true (by first | (with_reducible assumption) | assumption)
                  have q318 : x5_1 < (l0.length : Int) := of_decide_eq_true (by first | (with_reducible assumption) | assumption)
                  obtain ⟨ad318, e318, hx318_0⟩ := Kd.at_int HR0.out x5_1 p318 q318
                  cases e318
                  replace p318 := eq_true p318
                  replace q318 := eq_true q318
                  have p319 : 0 ≤ (x5_1 : Int) := of_decide_eq_true (by first | (with_reducible assumption) | assumption)
                  have q319 : x5_1 < (l0.length : Int) := of_decide_eq_true (by first | (with_reducible assumption) | assumption)
                  obtain ⟨ad319, e319, hx319_0⟩ := Kd.at_int HR0.out x5_1 p319 q319
                  obtain rfl : ad318 = ad319 := (by injection e319)
                  replace p319 := eq_true p319
                  replace q319 := eq_true q319
                  obtain ⟨i011, hi011, _, hsz11, _⟩ := info_parts info3
                  obtain ⟨hcut11, hA11, hC11⟩ := print_take_of (P := Try.prog) (Value.int .i64) 0 22 3 .i64 Try.underlying22 hi011 hsz11 (some ad318) c0 l0 x5_1 (of_decide_eq_true (by first | (with_reducible assumption) | assumption)) (of_decide_eq_true (by first | (with_reducible assumption) | assumption)) HC0.out
                  have HR320 := Aside0.mk (Kd.C_of_reads (h1 := fun _ => rfl) (hA11 _ (Kd.reads_of_C HR0.out)))
                  have HC320 := Aside0.mk hC11
                  clear hA11 hC11 hi011 hsz11
                  obtain ⟨tk11, htk11⟩ : ∃ tk_ : List Int, (l0.take (x5_1 : Int).toNat) = tk_ := ⟨_, rfl⟩
                  simp only [htk11] at *
                  have Htk11 := Aside0.mk htk11
                  clear htk11
                  have p321 : 0 ≤ (x5_1 : Int) := of_decide_eq_true (by first | (with_reducible assumption) | assumption)
                  have q321 : x5_1 < (l0.length : Int) := of_decide_eq_true (by first | (with_reducible assumption) | assumption)
                  obtain ⟨ad321, e321, hx321_0⟩ := Kd.at_int HR0.out x5_1 p321 q321
                  obtain rfl : ad318 = ad321 := (by injection e321)
                  replace p321 := eq_true p321
                  replace q321 := eq_true q321
                  go_wp2_with (first | (go_at_call 59; (with_reducible refine (tickingref02_has.calls k1 _ _ tk11 (rd l0 x5_1) true _ ?side1 ?side2 A9.out).mono ?_); (case side1 => repeat (first | exact HR320.out | (with_reducible refine Kd.C_alloc ?_ _) | (with_reducible refine Kd.C_drewN ?_ _) | (with_reducible refine Kd.C_drew ?_))); (case side2 => exact HC320.out); rintro e w' ⟨rfl, ⟨nd, rfl⟩⟩; (try first | exact ⟨rfl, _, World.drewN_drewN _ _ _⟩ | exact ⟨rfl, _, Eq.trans (World.drewN_drewN _ _ _) (congrArg (World.drewN _) (Nat.add_assoc _ _ _))⟩)))
                  repeat (go_quiet (first | (go_at_call 59; (with_reducible refine (tickingref02_has.calls k1 _ _ tk11 (rd l0 x5_1) true _ ?side1 ?side2 A9.out).mono ?_); (case side1 => repeat (first | exact HR320.out | (with_reducible refine Kd.C_alloc ?_ _) | (with_reducible refine Kd.C_drewN ?_ _) | (with_reducible refine Kd.C_drew ?_))); (case side2 => exact HC320.out); rintro e w' ⟨rfl, ⟨nd, rfl⟩⟩; (try first | exact ⟨rfl, _, World.drewN_drewN _ _ _⟩ | exact ⟨rfl, _, Eq.trans (World.drewN_drewN _ _ _) (congrArg (World.drewN _) (Nat.add_assoc _ _ _))⟩))); try go_wp2_with (first | (go_at_call 59; (with_reducible refine (tickingref02_has.calls k1 _ _ tk11 (rd l0 x5_1) true _ ?side1 ?side2 A9.out).mono ?_); (case side1 => repeat (first | exact HR320.out | (with_reducible refine Kd.C_alloc ?_ _) | (with_reducible refine Kd.C_drewN ?_ _) | (with_reducible refine Kd.C_drew ?_))); (case side2 => exact HC320.out); rintro e w' ⟨rfl, ⟨nd, rfl⟩⟩; (try first | exact ⟨rfl, _, World.drewN_drewN _ _ _⟩ | exact ⟨rfl, _, Eq.trans (World.drewN_drewN _ _ _) (congrArg (World.drewN _) (Nat.add_assoc _ _ _))⟩))))
                  go_ret
                  exact ⟨by first | rfl | (simp; done) | (simp [*]; done), by repeat (first | exact Drawn0.refl _ | apply Drawn0.step)⟩
                · replace c10 := Bool.eq_false_iff.mpr c10
                  subst c10
                  have H1 : (tickingref02_at.l0 k1 l0 a1 (wrap64 (x5_1 + 1))) = some r := by rw [if_neg (show ¬ (false = true) by decide)] at H; exact H
                  clear H
                  have H := H1
                  clear H1
                  have H' := Aside0.mk H
                  clear H
                  have p318 : 0 ≤ (x5_1 : Int) := of_decide_eq_true (by first | (with_reducible assumption) | assumption)
                  have q318 : x5_1 < (l0.length : Int) := of_decide_eq_true (by first | (with_reducible assumption) | assumption)
                  obtain ⟨ad318, e318, hx318_0⟩ := Kd.at_int HR0.out x5_1 p318 q318
                  cases e318
                  replace p318 := eq_true p318
                  replace q318 := eq_true q318
                  have p319 : 0 ≤ (x5_1 : Int) := of_decide_eq_true (by first | (with_reducible assumption) | assumption)
                  have q319 : x5_1 < (l0.length : Int) := of_decide_eq_true (by first | (with_reducible assumption) | assumption)
                  obtain ⟨ad319, e319, hx319_0⟩ := Kd.at_int HR0.out x5_1 p319 q319
                  obtain rfl : ad318 = ad319 := (by injection e319)
                  replace p319 := eq_true p319
                  replace q319 := eq_true q319
                  obtain ⟨i012, hi012, _, hsz12, _⟩ := info_parts info3
                  obtain ⟨hcut12, hA12, hC12⟩ := print_take_of (P := Try.prog) (Value.int .i64) 0 22 3 .i64 Try.underlying22 hi012 hsz12 (some ad318) c0 l0 x5_1 (of_decide_eq_true (by first | (with_reducible assumption) | assumption)) (of_decide_eq_true (by first | (with_reducible assumption) | assumption)) HC0.out
                  have HR320 := Aside0.mk (Kd.C_of_reads (h1 := fun _ => rfl) (hA12 _ (Kd.reads_of_C HR0.out)))
                  have HC320 := Aside0.mk hC12
                  clear hA12 hC12 hi012 hsz12
                  obtain ⟨tk12, htk12⟩ : ∃ tk_ : List Int, (l0.take (x5_1 : Int).toNat) = tk_ := ⟨_, rfl⟩
                  simp only [htk12] at *
                  have Htk12 := Aside0.mk htk12
                  clear htk12
                  have p321 : 0 ≤ (x5_1 : Int) := of_decide_eq_true (by first | (with_reducible assumption) | assumption)
                  have q321 : x5_1 < (l0.length : Int) := of_decide_eq_true (by first | (with_reducible assumption) | assumption)
                  obtain ⟨ad321, e321, hx321_0⟩ := Kd.at_int HR0.out x5_1 p321 q321
                  obtain rfl : ad318 = ad321 := (by injection e321)
                  replace p321 := eq_true p321
                  replace q321 := eq_true q321
                  go_wp2_with (first | (go_at_call 59; (with_reducible refine (tickingref02_has.calls k1 _ _ tk12 (rd l0 x5_1) false _ ?side1 ?side2 A9.out).mono ?_); (case side1 => repeat (first | exact HR320.out | (with_reducible refine Kd.C_alloc ?_ _) | (with_reducible refine Kd.C_drewN ?_ _) | (with_reducible refine Kd.C_drew ?_))); (case side2 => exact HC320.out); rintro e w' ⟨rfl, ⟨nd, rfl⟩⟩; (try first | exact ⟨rfl, _, World.drewN_drewN _ _ _⟩ | exact ⟨rfl, _, Eq.trans (World.drewN_drewN _ _ _) (congrArg (World.drewN _) (Nat.add_assoc _ _ _))⟩)))
                  repeat (go_quiet (first | (go_at_call 59; (with_reducible refine (tickingref02_has.calls k1 _ _ tk12 (rd l0 x5_1) false _ ?side1 ?side2 A9.out).mono ?_); (case side1 => repeat (first | exact HR320.out | (with_reducible refine Kd.C_alloc ?_ _) | (with_reducible refine Kd.C_drewN ?_ _) | (with_reducible refine Kd.C_drew ?_))); (case side2 => exact HC320.out); rintro e w' ⟨rfl, ⟨nd, rfl⟩⟩; (try first | exact ⟨rfl, _, World.drewN_drewN _ _ _⟩ | exact ⟨rfl, _, Eq.trans (World.drewN_drewN _ _ _) (congrArg (World.drewN _) (Nat.add_assoc _ _ _))⟩))); try go_wp2_with (first | (go_at_call 59; (with_reducible refine (tickingref02_has.calls k1 _ _ tk12 (rd l0 x5_1) false _ ?side1 ?side2 A9.out).mono ?_); (case side1 => repeat (first | exact HR320.out | (with_reducible refine Kd.C_alloc ?_ _) | (with_reducible refine Kd.C_drewN ?_ _) | (with_reducible refine Kd.C_drew ?_))); (case side2 => exact HC320.out); rintro e w' ⟨rfl, ⟨nd, rfl⟩⟩; (try first | exact ⟨rfl, _, World.drewN_drewN _ _ _⟩ | exact ⟨rfl, _, Eq.trans (World.drewN_drewN _ _ _) (congrArg (World.drewN _) (Nat.add_assoc _ _ _))⟩))))
                  go_roundg k1
                  case measure => have := HK1.out; omega
                  case rel => exact ⟨(wrap64 (x5_1 + 1)), (by first | rfl | (simp; done) | (simp [*]; done)), H', ⟨by have := HK1.out; omega⟩, by repeat (first | exact Drawn0.refl _ | apply Drawn0.step)⟩
              · rw [if_neg c8] at H
                exact absurd H (by simp)
        · rw [if_neg c4] at H
          exact absurd H (by simp)
      · rw [if_neg c3] at H
        have c3b0 : decide (x5_1 < (l0.length : Int)) = false := decide_eq_false c3
        clear c3
        obtain rfl := Option.some.inj H
        go_wp2
        repeat (go_quiet (fail); try go_wp2)
        go_ret
        exact ⟨by first | rfl | (simp; done) | (simp [*]; done), by repeat (first | exact Drawn0.refl _ | apply Drawn0.step)⟩

end Go.Proofs.Ytjbjongahnocdaa.S

namespace Go.Proofs.Ytjbjongahnocdaa.S
open Go.Proofs.Ytjbjongahnocdaa.Lib
open Go.Proofs.Ytjbjongahnocdaa.Defs
open Go.Maps (Keyed)
open Go.RowKit Go.Proofs.YtjbjongahnocdaaW.PrintWords Go.Proofs.YtjbjongahnocdaaW.PrintLast Go.Proofs.YtjbjongahnocdaaW.PrintMore
attribute [local go_sem] max2_int min2_int max_two min_two max_three min_three max_four min_four   -- for this text's walks alone
set_option linter.unusedVariables false
set_option linter.unusedSimpArgs false

/-! ### tickingref02_QueuesBlock: function 36 -/
mutual
def tickingref02_QueuesBlock.j0 : Nat → List Int → List Int → Bool → Option (Bool)
  | 0, _, _, _ => none
  | k + 1, x0, x2, x24 => if x24 = true then (some false) else (tickingref02_QueuesBlock.l0 k x0 x2 1)
def tickingref02_QueuesBlock.l0 : Nat → List Int → List Int → Int → Option (Bool)
  | 0, _, _, _ => none
  | k + 1, x0, x2, x7 => if x7 < (x2.length : Int) then (if 0 ≤ (wrap64 (x7 - 1)) then (if (wrap64 (x7 - 1)) < (x2.length : Int) then (if 0 ≤ (rd x2 (wrap64 (x7 - 1))) then (if (rd x2 (wrap64 (x7 - 1))) < (x0.length : Int) then (if 0 ≤ x7 then (if 0 ≤ (rd x2 x7) then (if (rd x2 x7) < (x0.length : Int) then (if (rd x0 (rd x2 (wrap64 (x7 - 1)))) ≤ (rd x0 (rd x2 x7)) then (some false) else (tickingref02_QueuesBlock.l0 k x0 x2 (wrap64 (x7 + 1)))) else (none)) else (none)) else (none)) else (none)) else (none)) else (none)) else (none)) else (some true)
end
def tickingref02_QueuesBlock.f (k : Nat) (l0 : List Int) (a1 : Int) (l2 : List Int) : Option (Bool) := if (l2.length : Int) = (wrap64 (a1 + 1)) then ((tickingref02_at.f k l2 (l0.length : Int)).bind fun t323 => (if t323 = true then ((tickingref02_ascending.f k l2).bind fun t324 => (tickingref02_QueuesBlock.j0 k l0 l2 (!t324))) else (tickingref02_QueuesBlock.j0 k l0 l2 true))) else (tickingref02_QueuesBlock.j0 k l0 l2 true)
theorem tickingref02_QueuesBlock.mono_l : ∀ k, (∀ y0 y1 y2, LeO (tickingref02_QueuesBlock.j0 k y0 y1 y2) (tickingref02_QueuesBlock.j0 (k + 1) y0 y1 y2)) ∧ (∀ y0 y1 y2, LeO (tickingref02_QueuesBlock.l0 k y0 y1 y2) (tickingref02_QueuesBlock.l0 (k + 1) y0 y1 y2))
  | 0 => ⟨fun _ _ _ r h => by simp [tickingref02_QueuesBlock.j0] at h, fun _ _ _ r h => by simp [tickingref02_QueuesBlock.l0] at h⟩
  | k + 1 => by
    obtain ⟨ih0, ih1⟩ := tickingref02_QueuesBlock.mono_l k
    refine ⟨?_, ?_⟩
    · intro y0 y1 y2
      unfold tickingref02_QueuesBlock.j0
      repeat' first
      | (with_reducible exact ih0 _ _ _)
      | (with_reducible exact ih1 _ _ _)
      | (with_reducible exact tickingref02_ascending.mono _ _)
      | (with_reducible exact tickingref02_at.mono _ _ _)
      | (with_reducible exact LeO.refl _)
      | (with_reducible exact LeO.none _)
      | (with_reducible refine LeO.ite ?_ ?_)
      | (with_reducible refine LeO.bind ?_ (fun _ => ?_))
      | exact ih0 _ _ _
      | exact ih1 _ _ _
      | exact tickingref02_ascending.mono _ _
      | exact tickingref02_at.mono _ _ _
      | exact LeO.none _
      | refine LeO.ite ?_ ?_
      | refine LeO.bind ?_ (fun _ => ?_)
    · intro y0 y1 y2
      unfold tickingref02_QueuesBlock.l0
      repeat' first
      | (with_reducible exact ih0 _ _ _)
      | (with_reducible exact ih1 _ _ _)
      | (with_reducible exact tickingref02_ascending.mono _ _)
      | (with_reducible exact tickingref02_at.mono _ _ _)
      | (with_reducible exact LeO.refl _)
      | (with_reducible exact LeO.none _)
      | (with_reducible refine LeO.ite ?_ ?_)
      | (with_reducible refine LeO.bind ?_ (fun _ => ?_))
      | exact ih0 _ _ _
      | exact ih1 _ _ _
      | exact tickingref02_ascending.mono _ _
      | exact tickingref02_at.mono _ _ _
      | exact LeO.none _
      | refine LeO.ite ?_ ?_
      | refine LeO.bind ?_ (fun _ => ?_)
theorem tickingref02_QueuesBlock.mono : ∀ a0 a1 a2 k, LeO (tickingref02_QueuesBlock.f k a0 a1 a2) (tickingref02_QueuesBlock.f (k + 1) a0 a1 a2) := by
  intro a0 a1 a2 k
  obtain ⟨ih0, ih1⟩ := tickingref02_QueuesBlock.mono_l k
  unfold tickingref02_QueuesBlock.f
  repeat' first
      | (with_reducible exact ih0 _ _ _)
      | (with_reducible exact ih1 _ _ _)
      | (with_reducible exact tickingref02_ascending.mono _ _)
      | (with_reducible exact tickingref02_at.mono _ _ _)
      | (with_reducible exact LeO.refl _)
      | (with_reducible exact LeO.none _)
      | (with_reducible refine LeO.ite ?_ ?_)
      | (with_reducible refine LeO.bind ?_ (fun _ => ?_))
      | exact ih0 _ _ _
      | exact ih1 _ _ _
      | exact tickingref02_ascending.mono _ _
      | exact tickingref02_at.mono _ _ _
      | exact LeO.none _
      | refine LeO.ite ?_ ?_
      | refine LeO.bind ?_ (fun _ => ?_)
set_option maxHeartbeats 8000000 in
set_option maxRecDepth 100000 in
theorem tickingref02_QueuesBlock.calls (k : Nat) (A0 : Option Addr) (c0 : Nat) (l0 : List Int) (a1 : Int) (A2 : Option Addr) (c2 : Nat) (l2 : List Int) (r : Bool) (w : World) (hr0 : Kd.C (Kd.int .i64) w A0 l0.length l0) (hc0 : l0.length ≤ c0) (hr2 : Kd.C (Kd.int .i64) w A2 l2.length l2) (hc2 : l2.length ≤ c2) (h : tickingref02_QueuesBlock.f k l0 a1 l2 = some r) :
    Calls Try.prog 36 #[.slice A0 l0.length c0, .int .i64 a1, .slice A2 l2.length c2] w fun e w' => e = .returned (.bool r) ∧ Drawn0 w w' := by
  have HR0 := Aside0.mk hr0
  have HC0 := Aside0.mk hc0
  clear hr0 hc0
  have HR2 := Aside0.mk hr2
  have HC2 := Aside0.mk hc2
  clear hr2 hc2
  have H : (if (l2.length : Int) = (wrap64 (a1 + 1)) then ((tickingref02_at.f k l2 (l0.length : Int)).bind fun t323 => (if t323 = true then ((tickingref02_ascending.f k l2).bind fun t324 => (tickingref02_QueuesBlock.j0 k l0 l2 (!t324))) else (tickingref02_QueuesBlock.j0 k l0 l2 true))) else (tickingref02_QueuesBlock.j0 k l0 l2 true)) = some r := h
  clear h
  have HC4 := Aside0.mk H
  clear H
  go_enter Try.func36, Try.ntmps36
  go_upto_region 1 with (fail)
  repeat (go_quiet (fail); go_upto_region 1 with (fail))
  go_cut [24] (fun v24 wc => ∃ (kq : Nat) (x24_3 : Bool), v24 = .bool x24_3 ∧ Aside0 (tickingref02_QueuesBlock.j0 kq l0 l2 x24_3 = some r) ∧ Aside0 (kq ≤ k) ∧ Drawn0 w wc)
  case first =>
    have H := HC4.out
    clear HC4
    by_cases c5 : (l2.length : Int) = (wrap64 (a1 + 1))
    · rw [if_pos c5] at H
      have c5b0 : ((l2.length : Int) == (wrap64 (a1 + 1))) = true := beq_iff_eq.mpr c5
      have c5b1 : ((l2.length : Int) != (wrap64 (a1 + 1))) = false := bne_eq_false_iff_eq.mpr c5
      clear c5
      (first | rw [c5b0] | (simp only [i64_w, i32_w]; rw [c5b0]) | skip)
      replace H := Option.bind_eq_some_iff.mp H
      obtain ⟨t323, A60, H⟩ := H
      replace H : (if t323 = true then ((tickingref02_ascending.f k l2).bind fun t324 => (tickingref02_QueuesBlock.j0 k l0 l2 (!t324))) else (tickingref02_QueuesBlock.j0 k l0 l2 true)) = some r := H
      have A6 := Aside0.mk A60
      clear A60
      by_cases c7 : t323 = true
      · subst c7
        have H1 : ((tickingref02_ascending.f k l2).bind fun t324 => (tickingref02_QueuesBlock.j0 k l0 l2 (!t324))) = some r := by rw [if_pos rfl] at H; exact H
        clear H
        have H := H1
        clear H1
        replace H := Option.bind_eq_some_iff.mp H
        obtain ⟨t324, A80, H⟩ := H
        replace H : (tickingref02_QueuesBlock.j0 k l0 l2 (!t324)) = some r := H
        have A8 := Aside0.mk A80
        clear A80
        have H' := Aside0.mk H
        clear H
        go_wp2_with (first | (go_at_call 65; (with_reducible refine (tickingref02_at.calls k _ _ l2 (l0.length : Int) true _ ?side1 ?side2 A6.out).mono ?_); (case side1 => repeat (first | exact HR2.out | (with_reducible refine Kd.C_alloc ?_ _) | (with_reducible refine Kd.C_drewN ?_ _) | (with_reducible refine Kd.C_drew ?_))); (case side2 => exact HC2.out); rintro e w' ⟨rfl, ⟨nd, rfl⟩⟩; (try first | exact ⟨rfl, _, World.drewN_drewN _ _ _⟩ | exact ⟨rfl, _, Eq.trans (World.drewN_drewN _ _ _) (congrArg (World.drewN _) (Nat.add_assoc _ _ _))⟩)) | (go_at_call 60; (with_reducible refine (tickingref02_ascending.calls k _ _ l2 t324 _ ?side1 ?side2 A8.out).mono ?_); (case side1 => repeat (first | exact HR2.out | (with_reducible refine Kd.C_alloc ?_ _) | (with_reducible refine Kd.C_drewN ?_ _) | (with_reducible refine Kd.C_drew ?_))); (case side2 => exact HC2.out); rintro e w' ⟨rfl, ⟨nd, rfl⟩⟩; (try first | exact ⟨rfl, _, World.drewN_drewN _ _ _⟩ | exact ⟨rfl, _, Eq.trans (World.drewN_drewN _ _ _) (congrArg (World.drewN _) (Nat.add_assoc _ _ _))⟩)))
        repeat (go_quiet (first | (go_at_call 65; (with_reducible refine (tickingref02_at.calls k _ _ l2 (l0.length : Int) true _ ?side1 ?side2 A6.out).mono ?_); (case side1 => repeat (first | exact HR2.out | (with_reducible refine Kd.C_alloc ?_ _) | (with_reducible refine Kd.C_drewN ?_ _) | (with_reducible refine Kd.C_drew ?_))); (case side2 => exact HC2.out); rintro e w' ⟨rfl, ⟨nd, rfl⟩⟩; (try first | exact ⟨rfl, _, World.drewN_drewN _ _ _⟩ | exact ⟨rfl, _, Eq.trans (World.drewN_drewN _ _ _) (congrArg (World.drewN _) (Nat.add_assoc _ _ _))⟩)) | (go_at_call 60; (with_reducible refine (tickingref02_ascending.calls k _ _ l2 t324 _ ?side1 ?side2 A8.out).mono ?_); (case side1 => repeat (first | exact HR2.out | (with_reducible refine Kd.C_alloc ?_ _) | (with_reducible refine Kd.C_drewN ?_ _) | (with_reducible refine Kd.C_drew ?_))); (case side2 => exact HC2.out); rintro e w' ⟨rfl, ⟨nd, rfl⟩⟩; (try first | exact ⟨rfl, _, World.drewN_drewN _ _ _⟩ | exact ⟨rfl, _, Eq.trans (World.drewN_drewN _ _ _) (congrArg (World.drewN _) (Nat.add_assoc _ _ _))⟩))); try go_wp2_with (first | (go_at_call 65; (with_reducible refine (tickingref02_at.calls k _ _ l2 (l0.length : Int) true _ ?side1 ?side2 A6.out).mono ?_); (case side1 => repeat (first | exact HR2.out | (with_reducible refine Kd.C_alloc ?_ _) | (with_reducible refine Kd.C_drewN ?_ _) | (with_reducible refine Kd.C_drew ?_))); (case side2 => exact HC2.out); rintro e w' ⟨rfl, ⟨nd, rfl⟩⟩; (try first | exact ⟨rfl, _, World.drewN_drewN _ _ _⟩ | exact ⟨rfl, _, Eq.trans (World.drewN_drewN _ _ _) (congrArg (World.drewN _) (Nat.add_assoc _ _ _))⟩)) | (go_at_call 60; (with_reducible refine (tickingref02_ascending.calls k _ _ l2 t324 _ ?side1 ?side2 A8.out).mono ?_); (case side1 => repeat (first | exact HR2.out | (with_reducible refine Kd.C_alloc ?_ _) | (with_reducible refine Kd.C_drewN ?_ _) | (with_reducible refine Kd.C_drew ?_))); (case side2 => exact HC2.out); rintro e w' ⟨rfl, ⟨nd, rfl⟩⟩; (try first | exact ⟨rfl, _, World.drewN_drewN _ _ _⟩ | exact ⟨rfl, _, Eq.trans (World.drewN_drewN _ _ _) (congrArg (World.drewN _) (Nat.add_assoc _ _ _))⟩))))
        go_meet
        case rel => exact ⟨_, (!t324), (by first | rfl | (simp; done) | (simp [*]; done)), H', ⟨by first | omega | exact Nat.le_refl _⟩, by repeat (first | exact Drawn0.refl _ | apply Drawn0.step)⟩
      · replace c7 := Bool.eq_false_iff.mpr c7
        subst c7
        have H1 : (tickingref02_QueuesBlock.j0 k l0 l2 true) = some r := by rw [if_neg (show ¬ (false = true) by decide)] at H; exact H
        clear H
        have H := H1
        clear H1
        have H' := Aside0.mk H
        clear H
        go_wp2_with (first | (go_at_call 65; (with_reducible refine (tickingref02_at.calls k _ _ l2 (l0.length : Int) false _ ?side1 ?side2 A6.out).mono ?_); (case side1 => repeat (first | exact HR2.out | (with_reducible refine Kd.C_alloc ?_ _) | (with_reducible refine Kd.C_drewN ?_ _) | (with_reducible refine Kd.C_drew ?_))); (case side2 => exact HC2.out); rintro e w' ⟨rfl, ⟨nd, rfl⟩⟩; (try first | exact ⟨rfl, _, World.drewN_drewN _ _ _⟩ | exact ⟨rfl, _, Eq.trans (World.drewN_drewN _ _ _) (congrArg (World.drewN _) (Nat.add_assoc _ _ _))⟩)))
        repeat (go_quiet (first | (go_at_call 65; (with_reducible refine (tickingref02_at.calls k _ _ l2 (l0.length : Int) false _ ?side1 ?side2 A6.out).mono ?_); (case side1 => repeat (first | exact HR2.out | (with_reducible refine Kd.C_alloc ?_ _) | (with_reducible refine Kd.C_drewN ?_ _) | (with_reducible refine Kd.C_drew ?_))); (case side2 => exact HC2.out); rintro e w' ⟨rfl, ⟨nd, rfl⟩⟩; (try first | exact ⟨rfl, _, World.drewN_drewN _ _ _⟩ | exact ⟨rfl, _, Eq.trans (World.drewN_drewN _ _ _) (congrArg (World.drewN _) (Nat.add_assoc _ _ _))⟩))); try go_wp2_with (first | (go_at_call 65; (with_reducible refine (tickingref02_at.calls k _ _ l2 (l0.length : Int) false _ ?side1 ?side2 A6.out).mono ?_); (case side1 => repeat (first | exact HR2.out | (with_reducible refine Kd.C_alloc ?_ _) | (with_reducible refine Kd.C_drewN ?_ _) | (with_reducible refine Kd.C_drew ?_))); (case side2 => exact HC2.out); rintro e w' ⟨rfl, ⟨nd, rfl⟩⟩; (try first | exact ⟨rfl, _, World.drewN_drewN _ _ _⟩ | exact ⟨rfl, _, Eq.trans (World.drewN_drewN _ _ _) (congrArg (World.drewN _) (Nat.add_assoc _ _ _))⟩))))
        go_meet
        case rel => exact ⟨_, (true), (by first | rfl | (simp; done) | (simp [*]; done)), H', ⟨by first | omega | exact Nat.le_refl _⟩, by repeat (first | exact Drawn0.refl _ | apply Drawn0.step)⟩
    · rw [if_neg c5] at H
      have c5b0 : ((l2.length : Int) == (wrap64 (a1 + 1))) = false := beq_eq_false_iff_ne.mpr c5
      have c5b1 : ((l2.length : Int) != (wrap64 (a1 + 1))) = true := bne_iff_ne.mpr c5
      (first | rw [c5b0] | (simp only [i64_w, i32_w]; rw [c5b0]) | skip)
      have H' := Aside0.mk H
      clear H
      go_wp2
      repeat (go_quiet (fail); try go_wp2)
      go_meet
      case rel => exact ⟨_, (true), (by first | rfl | (simp; done) | (simp [*]; done)), H', ⟨by first | omega | exact Nat.le_refl _⟩, by repeat (first | exact Drawn0.refl _ | apply Drawn0.step)⟩
  case rest =>
    clear HC4
    try clear c2
    try clear p2
    try clear c3
    try clear c5
    try clear c5b0
    try clear c5b1
    try clear p6
    try clear c7
    obtain ⟨kq, x24_3, rfl, HA, HJ3, ⟨mc3, rfl⟩⟩ := hcut
    cases kq with
    | zero => exact absurd HA.out (by simp [tickingref02_QueuesBlock.j0])
    | succ kj3 =>
      have H := HA.out
      clear HA
      simp only [tickingref02_QueuesBlock.j0] at H
      by_cases c9 : x24_3 = true
      · subst c9
        have H1 : (some false) = some r := by rw [if_pos rfl] at H; exact H
        clear H
        have H := H1
        clear H1
        obtain rfl := Option.some.inj H
        go_wp2
        repeat (go_quiet (fail); try go_wp2)
        go_ret
        exact ⟨by first | rfl | (simp; done) | (simp [*]; done), by repeat (first | exact Drawn0.refl _ | apply Drawn0.step)⟩
      · replace c9 := Bool.eq_false_iff.mpr c9
        subst c9
        have H1 : (tickingref02_QueuesBlock.l0 kj3 l0 l2 1) = some r := by rw [if_neg (show ¬ (false = true) by decide)] at H; exact H
        clear H
        have H := H1
        clear H1
        have H' := Aside0.mk H
        clear H
        go_wp2
        repeat (go_quiet (fail); try go_wp2)
        go_loopg [7] kj3 (fun kq v7 w' => ∃ (x7_2 : Int), v7 = .int .i64 x7_2 ∧ Aside0 (tickingref02_QueuesBlock.l0 kq l0 l2 x7_2 = some r) ∧ Aside0 (kq ≤ kj3) ∧ Drawn0 w w')
        case atStart => exact ⟨(1), (by first | rfl | (simp; done) | (simp [*]; done)), H', ⟨Nat.le_refl _⟩, by repeat (first | exact Drawn0.refl _ | apply Drawn0.step)⟩
        case round =>
          clear H'
          try clear c2
          try clear p2
          try clear c3
          try clear c5
          try clear c5b0
          try clear c5b1
          try clear p6
          try clear c7
          try clear c9
          try clear p2
          try clear p6
          obtain ⟨x7_2, rfl, HA, HK2, ⟨m2, rfl⟩⟩ := hrel
          cases gk with
          | zero => exact absurd HA.out (by simp [tickingref02_QueuesBlock.l0])
          | succ k2 =>
            have H := HA.out
            clear HA
            simp only [tickingref02_QueuesBlock.l0] at H
            by_cases c10 : x7_2 < (l2.length : Int)
            · rw [if_pos c10] at H
              have c10b0 : decide (x7_2 < (l2.length : Int)) = true := decide_eq_true c10
              clear c10
              obtain ⟨ji11, hji11⟩ : ∃ j_ : Int, (wrap64 (x7_2 - 1)) = j_ := ⟨_, rfl⟩
              replace H : (if 0 ≤ (ji11) then (if (ji11) < (l2.length : Int) then (if 0 ≤ (rd l2 (ji11)) then (if (rd l2 (ji11)) < (l0.length : Int) then (if 0 ≤ x7_2 then (if 0 ≤ (rd l2 x7_2) then (if (rd l2 x7_2) < (l0.length : Int) then (if (rd l0 (rd l2 (ji11))) ≤ (rd l0 (rd l2 x7_2)) then (some false) else (tickingref02_QueuesBlock.l0 k2 l0 l2 (wrap64 (x7_2 + 1)))) else (none)) else (none)) else (none)) else (none)) else (none)) else (none)) else (none)) = some r := by first | (rw [hji11] at H; exact H) | (simp only [hji11] at H ⊢; exact H)
              have hji11w : (IntKind.i64.wrap (x7_2 - 1)) = ji11 := (i64_w _).trans hji11
              by_cases c12 : 0 ≤ (ji11)
              · rw [if_pos c12] at H
                have c12b0 : decide (0 ≤ (ji11)) = true := decide_eq_true c12
                clear c12
                by_cases c13 : (ji11) < (l2.length : Int)
                · rw [if_pos c13] at H
                  have c13b0 : decide ((ji11) < (l2.length : Int)) = true := decide_eq_true c13
                  clear c13
                  by_cases c14 : 0 ≤ (rd l2 (ji11))
                  · rw [if_pos c14] at H
                    have c14b0 : decide (0 ≤ (rd l2 (ji11))) = true := decide_eq_true c14
                    clear c14
                    by_cases c15 : (rd l2 (ji11)) < (l0.length : Int)
                    · rw [if_pos c15] at H
                      have c15b0 : decide ((rd l2 (ji11)) < (l0.length : Int)) = true := decide_eq_true c15
                      clear c15
                      by_cases c16 : 0 ≤ x7_2
                      · rw [if_pos c16] at H
                        have c16b0 : decide (0 ≤ x7_2) = true := decide_eq_true c16
                        clear c16
                        by_cases c17 : 0 ≤ (rd l2 x7_2)
                        · rw [if_pos c17] at H
                          have c17b0 : decide (0 ≤ (rd l2 x7_2)) = true := decide_eq_true c17
                          clear c17
                          by_cases c18 : (rd l2 x7_2) < (l0.length : Int)
                          · rw [if_pos c18] at H
                            have c18b0 : decide ((rd l2 x7_2) < (l0.length : Int)) = true := decide_eq_true c18
                            clear c18
                            by_cases c19 : (rd l0 (rd l2 (ji11))) ≤ (rd l0 (rd l2 x7_2))
                            · rw [if_pos c19] at H
                              have c19b0 : decide ((rd l0 (rd l2 (ji11))) ≤ (rd l0 (rd l2 x7_2))) = true := decide_eq_true c19
                              clear c19
                              obtain rfl := Option.some.inj H
                              have p325 : 0 ≤ ((ji11) : Int) := of_decide_eq_true (by first | (with_reducible assumption) | assumption)
                              have q325 : (ji11) < (l2.length : Int) := of_decide_eq_true (by first | (with_reducible assumption) | assumption)
                              obtain ⟨ad325, e325, hx325_0⟩ := Kd.at_int HR2.out (ji11) p325 q325
                              cases e325
                              replace p325 := eq_true p325
                              replace q325 := eq_true q325
                              have p326 : 0 ≤ ((rd l2 (ji11)) : Int) := of_decide_eq_true (by first | (with_reducible assumption) | assumption)
                              have q326 : (rd l2 (ji11)) < (l0.length : Int) := of_decide_eq_true (by first | (with_reducible assumption) | assumption)
                              obtain ⟨ad326, e326, hx326_0⟩ := Kd.at_int HR0.out (rd l2 (ji11)) p326 q326
                              cases e326
                              replace p326 := eq_true p326
                              replace q326 := eq_true q326
                              have p327 : 0 ≤ (x7_2 : Int) := of_decide_eq_true (by first | (with_reducible assumption) | assumption)
                              have q327 : x7_2 < (l2.length : Int) := of_decide_eq_true (by first | (with_reducible assumption) | assumption)
                              obtain ⟨ad327, e327, hx327_0⟩ := Kd.at_int HR2.out x7_2 p327 q327
                              obtain rfl : ad325 = ad327 := (by injection e327)
                              replace p327 := eq_true p327
                              replace q327 := eq_true q327
                              have p328 : 0 ≤ ((rd l2 x7_2) : Int) := of_decide_eq_true (by first | (with_reducible assumption) | assumption)
                              have q328 : (rd l2 x7_2) < (l0.length : Int) := of_decide_eq_true (by first | (with_reducible assumption) | assumption)
                              obtain ⟨ad328, e328, hx328_0⟩ := Kd.at_int HR0.out (rd l2 x7_2) p328 q328
                              obtain rfl : ad326 = ad328 := (by injection e328)
                              replace p328 := eq_true p328
                              replace q328 := eq_true q328
                              go_wp2
                              repeat (go_quiet (fail); try go_wp2)
                              go_ret
                              exact ⟨by first | rfl | (simp; done) | (simp only [← hji11] <;> (first | rfl | simp)) | (simp [*]; done), by repeat (first | exact Drawn0.refl _ | apply Drawn0.step)⟩
                            · rw [if_neg c19] at H
                              have c19b0 : decide ((rd l0 (rd l2 (ji11))) ≤ (rd l0 (rd l2 x7_2))) = false := decide_eq_false c19
                              clear c19
                              have H' := Aside0.mk H
                              clear H
                              have p325 : 0 ≤ ((ji11) : Int) := of_decide_eq_true (by first | (with_reducible assumption) | assumption)
                              have q325 : (ji11) < (l2.length : Int) := of_decide_eq_true (by first | (with_reducible assumption) | assumption)
                              obtain ⟨ad325, e325, hx325_0⟩ := Kd.at_int HR2.out (ji11) p325 q325
                              cases e325
                              replace p325 := eq_true p325
                              replace q325 := eq_true q325
                              have p326 : 0 ≤ ((rd l2 (ji11)) : Int) := of_decide_eq_true (by first | (with_reducible assumption) | assumption)
                              have q326 : (rd l2 (ji11)) < (l0.length : Int) := of_decide_eq_true (by first | (with_reducible assumption) | assumption)
                              obtain ⟨ad326, e326, hx326_0⟩ := Kd.at_int HR0.out (rd l2 (ji11)) p326 q326
                              cases e326
                              replace p326 := eq_true p326
                              replace q326 := eq_true q326
                              have p327 : 0 ≤ (x7_2 : Int) := of_decide_eq_true (by first | (with_reducible assumption) | assumption)
                              have q327 : x7_2 < (l2.length : Int) := of_decide_eq_true (by first | (with_reducible assumption) | assumption)
                              obtain ⟨ad327, e327, hx327_0⟩ := Kd.at_int HR2.out x7_2 p327 q327
                              obtain rfl : ad325 = ad327 := (by injection e327)
                              replace p327 := eq_true p327
                              replace q327 := eq_true q327
                              have p328 : 0 ≤ ((rd l2 x7_2) : Int) := of_decide_eq_true (by first | (with_reducible assumption) | assumption)
                              have q328 : (rd l2 x7_2) < (l0.length : Int) := of_decide_eq_true (by first | (with_reducible assumption) | assumption)
                              obtain ⟨ad328, e328, hx328_0⟩ := Kd.at_int HR0.out (rd l2 x7_2) p328 q328
                              obtain rfl : ad326 = ad328 := (by injection e328)
                              replace p328 := eq_true p328
                              replace q328 := eq_true q328
                              go_wp2
                              repeat (go_quiet (fail); try go_wp2)
                              go_roundg k2
                              case measure => have := HJ3.out; have := HK2.out; omega
                              case rel => exact ⟨(wrap64 (x7_2 + 1)), (by first | rfl | (simp; done) | (simp [*]; done)), H', ⟨by have := HJ3.out; have := HK2.out; omega⟩, by repeat (first | exact Drawn0.refl _ | apply Drawn0.step)⟩
                          · rw [if_neg c18] at H
                            exact absurd H (by simp)
                        · rw [if_neg c17] at H
                          exact absurd H (by simp)
                      · rw [if_neg c16] at H
                        exact absurd H (by simp)
                    · rw [if_neg c15] at H
                      exact absurd H (by simp)
                  · rw [if_neg c14] at H
                    exact absurd H (by simp)
                · rw [if_neg c13] at H
                  exact absurd H (by simp)
              · rw [if_neg c12] at H
                exact absurd H (by simp)
            · rw [if_neg c10] at H
              have c10b0 : decide (x7_2 < (l2.length : Int)) = false := decide_eq_false c10
              clear c10
              obtain rfl := Option.some.inj H
              go_wp2
              repeat (go_quiet (fail); try go_wp2)
              go_ret
              exact ⟨by first | rfl | (simp; done) | (simp [*]; done), by repeat (first | exact Drawn0.refl _ | apply Drawn0.step)⟩

end Go.Proofs.Ytjbjongahnocdaa.S

namespace Go.Proofs.Ytjbjongahnocdaa.S
open Go.Proofs.Ytjbjongahnocdaa.Lib
open Go.Proofs.Ytjbjongahnocdaa.Defs
open Go.Maps (Keyed)
open Go.RowKit Go.Proofs.YtjbjongahnocdaaW.PrintWords Go.Proofs.YtjbjongahnocdaaW.PrintLast Go.Proofs.YtjbjongahnocdaaW.PrintMore
attribute [local go_sem] max2_int min2_int max_two min_two max_three min_three max_four min_four   -- for this text's walks alone
set_option linter.unusedVariables false
set_option linter.unusedSimpArgs false

/-! ### tickinglaw02_ShuntQueuesChecks: function 7 -/
mutual
def tickinglaw02_ShuntQueuesChecks.j0 : Nat → Int → List Int → List Int → List Int → Int → Bool → Option (Bool)
  | 0, _, _, _, _, _, _ => none
  | k + 1, x1, x7, x8, x9, x10, x34 => if x34 = true then (if x10 = 2 then ((tickinglaw02_awake.f k).bind fun t341 => (some t341)) else (some false)) else ((tickingref02_LanesSort.f k x7 x1 x8).bind fun t342 => (if t342 = true then (if (x9.length : Int) = 0 then (tickinglaw02_ShuntQueuesChecks.j1 k x10 true) else (if (x8.length : Int) = 0 then (if (x7.length : Int) > 0 then ((tickingref02_QueuesBlock.f k x7 x1 x9).bind fun t343 => (tickinglaw02_ShuntQueuesChecks.j1 k x10 t343)) else (tickinglaw02_ShuntQueuesChecks.j1 k x10 false)) else (tickinglaw02_ShuntQueuesChecks.j1 k x10 false))) else (if (x8.length : Int) = 0 then (if (x7.length : Int) > 0 then ((tickingref02_QueuesBlock.f k x7 x1 x9).bind fun t344 => (tickinglaw02_ShuntQueuesChecks.j1 k x10 t344)) else (tickinglaw02_ShuntQueuesChecks.j1 k x10 false)) else (tickinglaw02_ShuntQueuesChecks.j1 k x10 false))))
def tickinglaw02_ShuntQueuesChecks.j1 : Nat → Int → Bool → Option (Bool)
  | 0, _, _ => none
  | k + 1, x10, x64 => if x64 = true then (if x10 = 0 then ((tickinglaw02_awake.f k).bind fun t345 => (some t345)) else (some false)) else (if x10 = 10 then ((tickinglaw02_awake.f k).bind fun t346 => (some t346)) else (some false))
end
def tickinglaw02_ShuntQueuesChecks.f (k : Nat) (l0 : List Int) (a1 : Int) (l2_0 : List Int) (l2_1 : List Int) : Option (Bool) := (tickinglaw02_list.f l0).bind fun t330 => ((tickinglaw02_list.f l2_0).bind fun t333 => ((tickinglaw02_list.f l2_1).bind fun t336 => ((shunt_CheckQueues.f t330 a1 t333 t336).bind fun t339 => ((tickingref02_Order.f k t330 60).bind fun t340 => (if t340 = true then (if a1 < 1 then (tickinglaw02_ShuntQueuesChecks.j0 k a1 t330 t333 t336 t339 true) else (tickinglaw02_ShuntQueuesChecks.j0 k a1 t330 t333 t336 t339 (decide (a1 > 60)))) else (tickinglaw02_ShuntQueuesChecks.j0 k a1 t330 t333 t336 t339 true))))))
theorem tickinglaw02_ShuntQueuesChecks.mono_l : ∀ k, (∀ y0 y1 y2 y3 y4 y5, LeO (tickinglaw02_ShuntQueuesChecks.j0 k y0 y1 y2 y3 y4 y5) (tickinglaw02_ShuntQueuesChecks.j0 (k + 1) y0 y1 y2 y3 y4 y5)) ∧ (∀ y0 y1, LeO (tickinglaw02_ShuntQueuesChecks.j1 k y0 y1) (tickinglaw02_ShuntQueuesChecks.j1 (k + 1) y0 y1))
  | 0 => ⟨fun _ _ _ _ _ _ r h => by simp [tickinglaw02_ShuntQueuesChecks.j0] at h, fun _ _ r h => by simp [tickinglaw02_ShuntQueuesChecks.j1] at h⟩
  | k + 1 => by
    obtain ⟨ih0, ih1⟩ := tickinglaw02_ShuntQueuesChecks.mono_l k
    refine ⟨?_, ?_⟩
    · intro y0 y1 y2 y3 y4 y5
      unfold tickinglaw02_ShuntQueuesChecks.j0
      repeat' first
      | (with_reducible exact ih0 _ _ _ _ _ _)
      | (with_reducible exact ih1 _ _)
      | (with_reducible exact tickinglaw02_awake.mono _)
      | (with_reducible exact tickingref02_LanesSort.mono _ _ _ _)
      | (with_reducible exact tickingref02_Order.mono _ _ _)
      | (with_reducible exact tickingref02_QueuesBlock.mono _ _ _ _)
      | (with_reducible exact LeO.refl _)
      | (with_reducible exact LeO.none _)
      | (with_reducible refine LeO.ite ?_ ?_)
      | (with_reducible refine LeO.bind ?_ (fun _ => ?_))
      | exact ih0 _ _ _ _ _ _
      | exact ih1 _ _
      | exact tickinglaw02_awake.mono _
      | exact tickingref02_LanesSort.mono _ _ _ _
      | exact tickingref02_Order.mono _ _ _
      | exact tickingref02_QueuesBlock.mono _ _ _ _
      | exact LeO.none _
      | refine LeO.ite ?_ ?_
      | refine LeO.bind ?_ (fun _ => ?_)
    · intro y0 y1
      unfold tickinglaw02_ShuntQueuesChecks.j1
      repeat' first
      | (with_reducible exact ih0 _ _ _ _ _ _)
      | (with_reducible exact ih1 _ _)
      | (with_reducible exact tickinglaw02_awake.mono _)
      | (with_reducible exact tickingref02_LanesSort.mono _ _ _ _)
      | (with_reducible exact tickingref02_Order.mono _ _ _)
      | (with_reducible exact tickingref02_QueuesBlock.mono _ _ _ _)
      | (with_reducible exact LeO.refl _)
      | (with_reducible exact LeO.none _)
      | (with_reducible refine LeO.ite ?_ ?_)
      | (with_reducible refine LeO.bind ?_ (fun _ => ?_))
      | exact ih0 _ _ _ _ _ _
      | exact ih1 _ _
      | exact tickinglaw02_awake.mono _
      | exact tickingref02_LanesSort.mono _ _ _ _
      | exact tickingref02_Order.mono _ _ _
      | exact tickingref02_QueuesBlock.mono _ _ _ _
      | exact LeO.none _
      | refine LeO.ite ?_ ?_
      | refine LeO.bind ?_ (fun _ => ?_)
theorem tickinglaw02_ShuntQueuesChecks.mono : ∀ a0 a1 a2 a3 k, LeO (tickinglaw02_ShuntQueuesChecks.f k a0 a1 a2 a3) (tickinglaw02_ShuntQueuesChecks.f (k + 1) a0 a1 a2 a3) := by
  intro a0 a1 a2 a3 k
  obtain ⟨ih0, ih1⟩ := tickinglaw02_ShuntQueuesChecks.mono_l k
  unfold tickinglaw02_ShuntQueuesChecks.f
  repeat' first
      | (with_reducible exact ih0 _ _ _ _ _ _)
      | (with_reducible exact ih1 _ _)
      | (with_reducible exact tickinglaw02_awake.mono _)
      | (with_reducible exact tickingref02_LanesSort.mono _ _ _ _)
      | (with_reducible exact tickingref02_Order.mono _ _ _)
      | (with_reducible exact tickingref02_QueuesBlock.mono _ _ _ _)
      | (with_reducible exact LeO.refl _)
      | (with_reducible exact LeO.none _)
      | (with_reducible refine LeO.ite ?_ ?_)
      | (with_reducible refine LeO.bind ?_ (fun _ => ?_))
      | exact ih0 _ _ _ _ _ _
      | exact ih1 _ _
      | exact tickinglaw02_awake.mono _
      | exact tickingref02_LanesSort.mono _ _ _ _
      | exact tickingref02_Order.mono _ _ _
      | exact tickingref02_QueuesBlock.mono _ _ _ _
      | exact LeO.none _
      | refine LeO.ite ?_ ?_
      | refine LeO.bind ?_ (fun _ => ?_)
def tickinglaw02_ShuntQueuesChecks.T1 : Bool × List (List Nat × List Nat) := (true, [([], []), ([0], [0]), ([], []), ([2], [2]), ([3, 1], [3]), ([], []), ([5], [5]), ([6, 4], [6]), ([1, 7, 0, 1], [1]), ([4, 8, 0, 1, 2, 3, 4, 8], [4]), ([7, 9, 0, 1, 2, 3, 4, 5, 6, 7, 8, 9], [7])])
def tickinglaw02_ShuntQueuesChecks.B1 : List Nat := [0, 1, 0, 4, 15, 0, 32, 127, 255, 511, 1023]
theorem tickinglaw02_ShuntQueuesChecks.tab1 : rtab .any (opsOf Try.f7 1) = tickinglaw02_ShuntQueuesChecks.T1 := by kernel_rfl
theorem tickinglaw02_ShuntQueuesChecks.bits1 : waitsOk tickinglaw02_ShuntQueuesChecks.T1.2 tickinglaw02_ShuntQueuesChecks.B1 = true := by kernel_rfl
set_option maxHeartbeats 8000000 in
set_option maxRecDepth 100000 in
theorem tickinglaw02_ShuntQueuesChecks.calls (k : Nat) (A0 : Option Addr) (c0 : Nat) (l0 : List Int) (a1 : Int) (A2_0 : Option Addr) (c2_0 : Nat) (l2_0 : List Int) (A2_1 : Option Addr) (c2_1 : Nat) (l2_1 : List Int) (r : Bool) (w : World) (hr0 : Kd.C (Kd.int .i64) w A0 l0.length l0) (hc0 : l0.length ≤ c0) (hr2_0 : Kd.C (Kd.int .i64) w A2_0 l2_0.length l2_0) (hc2_0 : l2_0.length ≤ c2_0) (hr2_1 : Kd.C (Kd.int .i64) w A2_1 l2_1.length l2_1) (hc2_1 : l2_1.length ≤ c2_1) (h : tickinglaw02_ShuntQueuesChecks.f k l0 a1 l2_0 l2_1 = some r) :
    Calls Try.prog 7 #[.slice A0 l0.length c0, .int .i64 a1, .agg #[.slice A2_0 l2_0.length c2_0, .slice A2_1 l2_1.length c2_1]] w fun e w' => e = .returned (.bool r) ∧ Below w.heap.size w w' := by
  have hu43 := Try.underlying43
  have HR0 := Aside0.mk hr0
  have HC0 := Aside0.mk hc0
  clear hr0 hc0
  have HR2_0 := Aside0.mk hr2_0
  have HC2_0 := Aside0.mk hc2_0
  clear hr2_0 hc2_0
  have HR2_1 := Aside0.mk hr2_1
  have HC2_1 := Aside0.mk hc2_1
  clear hr2_1 hc2_1
  have HB := Aside0.mk (Below.refl w.heap.size w)
  have H : ((tickinglaw02_list.f l0).bind fun t330 => ((tickinglaw02_list.f l2_0).bind fun t333 => ((tickinglaw02_list.f l2_1).bind fun t336 => ((shunt_CheckQueues.f t330 a1 t333 t336).bind fun t339 => ((tickingref02_Order.f k t330 60).bind fun t340 => (if t340 = true then (if a1 < 1 then (tickinglaw02_ShuntQueuesChecks.j0 k a1 t330 t333 t336 t339 true) else (tickinglaw02_ShuntQueuesChecks.j0 k a1 t330 t333 t336 t339 (decide (a1 > 60)))) else (tickinglaw02_ShuntQueuesChecks.j0 k a1 t330 t333 t336 t339 true))))))) = some r := h
  clear h
  replace H := Option.bind_eq_some_iff.mp H
  obtain ⟨t330, A40, H⟩ := H
  replace H : ((tickinglaw02_list.f l2_0).bind fun t333 => ((tickinglaw02_list.f l2_1).bind fun t336 => ((shunt_CheckQueues.f t330 a1 t333 t336).bind fun t339 => ((tickingref02_Order.f k t330 60).bind fun t340 => (if t340 = true then (if a1 < 1 then (tickinglaw02_ShuntQueuesChecks.j0 k a1 t330 t333 t336 t339 true) else (tickinglaw02_ShuntQueuesChecks.j0 k a1 t330 t333 t336 t339 (decide (a1 > 60)))) else (tickinglaw02_ShuntQueuesChecks.j0 k a1 t330 t333 t336 t339 true)))))) = some r := H
  have A4 := Aside0.mk A40
  clear A40
  replace H := Option.bind_eq_some_iff.mp H
  obtain ⟨t333, A50, H⟩ := H
  replace H : ((tickinglaw02_list.f l2_1).bind fun t336 => ((shunt_CheckQueues.f t330 a1 t333 t336).bind fun t339 => ((tickingref02_Order.f k t330 60).bind fun t340 => (if t340 = true then (if a1 < 1 then (tickinglaw02_ShuntQueuesChecks.j0 k a1 t330 t333 t336 t339 true) else (tickinglaw02_ShuntQueuesChecks.j0 k a1 t330 t333 t336 t339 (decide (a1 > 60)))) else (tickinglaw02_ShuntQueuesChecks.j0 k a1 t330 t333 t336 t339 true))))) = some r := H
  have A5 := Aside0.mk A50
  clear A50
  replace H := Option.bind_eq_some_iff.mp H
  obtain ⟨t336, A60, H⟩ := H
  replace H : ((shunt_CheckQueues.f t330 a1 t333 t336).bind fun t339 => ((tickingref02_Order.f k t330 60).bind fun t340 => (if t340 = true then (if a1 < 1 then (tickinglaw02_ShuntQueuesChecks.j0 k a1 t330 t333 t336 t339 true) else (tickinglaw02_ShuntQueuesChecks.j0 k a1 t330 t333 t336 t339 (decide (a1 > 60)))) else (tickinglaw02_ShuntQueuesChecks.j0 k a1 t330 t333 t336 t339 true)))) = some r := H
  have A6 := Aside0.mk A60
  clear A60
  replace H := Option.bind_eq_some_iff.mp H
  obtain ⟨t339, A70, H⟩ := H
  replace H : ((tickingref02_Order.f k t330 60).bind fun t340 => (if t340 = true then (if a1 < 1 then (tickinglaw02_ShuntQueuesChecks.j0 k a1 t330 t333 t336 t339 true) else (tickinglaw02_ShuntQueuesChecks.j0 k a1 t330 t333 t336 t339 (decide (a1 > 60)))) else (tickinglaw02_ShuntQueuesChecks.j0 k a1 t330 t333 t336 t339 true))) = some r := H
  have A7 := Aside0.mk A70
  clear A70
  have HC8 := Aside0.mk H
  clear H
  go_enter Try.func7, Try.ntmps7
  try go_wp2_with (first | ((with_reducible refine gate_dst (N := 5) rfl ?_); (try (refine gate_guard (by rfl) ?_; dsimp only)); refine box_event ?hg (N := 5) ?hd (cs := #[.slice A2_0 l2_0.length c2_0, .slice A2_1 l2_1.length c2_1]) (t := 43) ?hr ?_; (case hd => rfl); (case hg => rfl); (case hr => first | (go_simp; done) | (go_simp; rfl)); intro gb329 hg w9 hbox hb; have n0_ := Aside0.mk (below_step (by repeat (first | (with_reducible first | exact HB.out | apply below_alloc | apply pw_below_drewN | apply below_drew1) | exact HB.out)) hb); have n1_ := Aside0.mk (hbox); have n2_ := Aside0.mk ((by rw [hg]; exact (below_size (by repeat (first | (with_reducible first | exact HB.out | apply below_alloc | apply pw_below_drewN | apply below_drew1) | exact HB.out))) : w.heap.size ≤ gb329)); have n3_ := Aside0.mk ((by rw [hg]; exact (below_size (by repeat (first | (with_reducible first | exact HB.out | apply below_alloc | apply pw_below_drewN | apply below_drew1) | exact HB.out))) : w.heap.size ≤ gb329)); clear HB; have HB := n0_; have BK329 := n1_; have GW329 := n2_; have GE329 := n3_; clear n0_ n1_ n2_ n3_; clear hb hbox hg))
  have n0_ := Aside0.mk (blk_drew BK329.out)
  have n1_ := Aside0.mk (below_drew1 HB.out)
  clear BK329
  clear HB
  have BK329 := n0_
  have HB := n1_
  clear n0_ n1_
  refine start_ (n := 11) (S := fun w' => w'.cell? ⟨gb329, 0, none⟩ = some (.slice A2_0 l2_0.length c2_0) ∧ w'.cell? ⟨gb329, 1, none⟩ = some (.slice A2_1 l2_1.length c2_1)) (ds := []) #[false, false, false, false, false, false, false, false, false, false, false] (by kernel_rfl) rfl rfl ⟨(blk_cell BK329.out 0).trans rfl, (blk_cell BK329.out 1).trans rfl⟩ (fun hHeld => ?_); refine with_tabW tickinglaw02_ShuntQueuesChecks.tab1 tickinglaw02_ShuntQueuesChecks.bits1 (fun HT_ HW_ => ?_)
  generalize w9.drew = w10 at BK329 HB hHeld ⊢
  refine pure_ (i := 0) (N := some 11) (v := ?_) (a' := ?_) #[true, false, false, false, false, false, false, false, false, false, false] rfl rfl (any_of HT_.out (by kernel_rfl)) (fun _ _ _ h => h) (Or.inl ⟨by rfl, ?_⟩) ?_ ?_
  rotate_left
  · intro w'
    go_simp
    with_reducible rfl
  rotate_left
  · simp only [Act.put, List.setIfInBounds_toArray, List.set_cons_zero, List.set_cons_succ, i64_w, i32_w]
    rfl
  refine pure_ (i := 2) (N := some 13) (v := ?_) (a' := ?_) #[true, false, true, false, false, false, false, false, false, false, false] rfl rfl (any_of HT_.out (by kernel_rfl)) (fun _ _ _ h => h) (Or.inl ⟨by rfl, ?_⟩) ?_ ?_
  rotate_left
  · intro w'
    go_simp
    with_reducible rfl
  rotate_left
  · simp only [Act.put, List.setIfInBounds_toArray, List.set_cons_zero, List.set_cons_succ, i64_w, i32_w]
    rfl
  refine pure_ (i := 5) (N := some 16) (v := ?_) (a' := ?_) #[true, false, true, false, false, true, false, false, false, false, false] rfl rfl (any_of HT_.out (by kernel_rfl)) (fun _ _ _ h => h) (Or.inl ⟨by rfl, ?_⟩) ?_ ?_
  rotate_left
  · intro w'
    go_simp
    with_reducible rfl
  rotate_left
  · simp only [Act.put, List.setIfInBounds_toArray, List.set_cons_zero, List.set_cons_succ, i64_w, i32_w]
    rfl
  refine take_ (i := 3) (N := some 14) (v := ?_) (a' := ?_) #[true, false, true, true, false, true, false, false, false, false, false] rfl rfl (take_ofW HT_.out HW_.out (by kernel_rfl)) (fun _ _ _ h => h) (Or.inl ⟨by rfl, ?_⟩) hHeld ?_ ?_
  rotate_left
  · rintro w' ⟨s0, s1⟩
    go_simp
    with_reducible rfl
  rotate_left
  · simp only [Act.put, List.setIfInBounds_toArray, List.set_cons_zero, List.set_cons_succ, i64_w, i32_w]
    rfl
  refine take_ (i := 6) (N := some 17) (v := ?_) (a' := ?_) #[true, false, true, true, false, true, true, false, false, false, false] rfl rfl (take_ofW HT_.out HW_.out (by kernel_rfl)) (fun _ _ _ h => h) (Or.inl ⟨by rfl, ?_⟩) hHeld ?_ ?_
  rotate_left
  · rintro w' ⟨s0, s1⟩
    go_simp
    with_reducible rfl
  rotate_left
  · simp only [Act.put, List.setIfInBounds_toArray, List.set_cons_zero, List.set_cons_succ, i64_w, i32_w]
    rfl
  refine one_ (i := 1) (N := some 12) #[true, true, true, true, false, true, true, false, false, false, false] rfl rfl (one_of HT_.out (by kernel_rfl)) (by decide) (fun K hK => ?_)
  refine goes_ Try.func18 (by kernel_rfl) rfl #[.slice A0 l0.length c0] (by rfl) rfl rfl (by (try simp only [List.map_toArray, List.map_cons, List.map_nil]); first | done | rfl | (simp only [List.length_drop, List.length_take]; rfl)) ?_
  with_reducible refine (tickinglaw02_list.calls _ _ l0 t330 _ ?side1 ?side2 A4.out).mono ?_
  (case side1 => repeat (first | exact (Kd.C_below HR0.out HB.out) | (with_reducible refine Kd.C_alloc ?_ _) | (with_reducible refine Kd.C_drewN ?_ _) | (with_reducible refine Kd.C_drew ?_)))
  (case side2 => exact HC0.out)
  rintro e w11 ⟨v331, rfl, ho0, hb⟩
  refine ⟨_, rfl, ?_⟩
  have n0_ := Aside0.mk (Kd.R_lower ho0 (below_size (by repeat (first | (with_reducible first | exact HB.out | apply below_alloc | apply pw_below_drewN | apply below_drew1 | refine below_set ?_ GE329.out) | exact HB.out))))
  have n1_ := Aside0.mk (blk_below (g := gb329) (o := .cells #[.slice A2_0 l2_0.length c2_0, .slice A2_1 l2_1.length c2_1] 43 (0, 0)) (by (with_reducible repeat (first | refine blk_drewN ?_ _ | refine blk_drew ?_ | refine blk_alloc ?_ _)); exact BK329.out) hb)
  have n2_ := Aside0.mk (below_step (by repeat (first | (with_reducible first | exact HB.out | apply below_alloc | apply pw_below_drewN | apply below_drew1 | refine below_set ?_ GE329.out) | exact HB.out)) hb)
  clear BK329
  clear HB
  have HO332 := n0_
  have BK329 := n1_
  have HB := n2_
  clear n0_ n1_ n2_
  (try clear hb)
  (try clear hb2)
  (try clear hk)
  (try clear hi)
  (try clear ho0)
  refine hK.out _ _ ⟨(blk_cell BK329.out 0).trans rfl, (blk_cell BK329.out 1).trans rfl⟩ (fun hHeld => ?_)
  clear hK K
  refine norm_ (a' := ?_) ?_ ?_
  rotate_left
  · show Act.put _ (some 12) _ = _
    simp only [Act.put, List.setIfInBounds_toArray, List.set_cons_zero, List.set_cons_succ, i64_w, i32_w]
    rfl
  refine one_ (i := 4) (N := some 15) #[true, true, true, true, true, true, true, false, false, false, false] rfl rfl (one_of HT_.out (by kernel_rfl)) (by decide) (fun K hK => ?_)
  refine goes_ Try.func18 (by kernel_rfl) rfl #[.slice A2_0 l2_0.length c2_0] (by rfl) rfl rfl (by (try simp only [List.map_toArray, List.map_cons, List.map_nil]); first | done | rfl | (simp only [List.length_drop, List.length_take]; rfl)) ?_
  with_reducible refine (tickinglaw02_list.calls _ _ l2_0 t333 _ ?side1 ?side2 A5.out).mono ?_
  (case side1 => repeat (first | exact (Kd.C_below HR2_0.out HB.out) | (with_reducible refine Kd.C_alloc ?_ _) | (with_reducible refine Kd.C_drewN ?_ _) | (with_reducible refine Kd.C_drew ?_)))
  (case side2 => exact HC2_0.out)
  rintro e w12 ⟨v334, rfl, ho0, hb⟩
  refine ⟨_, rfl, ?_⟩
  have n0_ := Aside0.mk (Kd.R_elder' (by (with_reducible repeat (first | apply Kd.R_alloc | apply Kd.R_drewN | apply Kd.R_drew)); exact HO332.out) (Kd.R_base ho0) hb)
  have n1_ := Aside0.mk (Kd.R_lower (Kd.R_new' ho0 (Kd.R_lt (by (with_reducible repeat (first | apply Kd.R_alloc | apply Kd.R_drewN | apply Kd.R_drew)); exact HO332.out))) (below_size (by repeat (first | (with_reducible first | exact HB.out | apply below_alloc | apply pw_below_drewN | apply below_drew1 | refine below_set ?_ GE329.out) | exact HB.out))))
  have n2_ := Aside0.mk (blk_below (g := gb329) (o := .cells #[.slice A2_0 l2_0.length c2_0, .slice A2_1 l2_1.length c2_1] 43 (0, 0)) (by (with_reducible repeat (first | refine blk_drewN ?_ _ | refine blk_drew ?_ | refine blk_alloc ?_ _)); exact BK329.out) hb)
  have n3_ := Aside0.mk (below_step (by repeat (first | (with_reducible first | exact HB.out | apply below_alloc | apply pw_below_drewN | apply below_drew1 | refine below_set ?_ GE329.out) | exact HB.out)) hb)
  clear HO332
  clear BK329
  clear HB
  have HO332 := n0_
  have HO335 := n1_
  have BK329 := n2_
  have HB := n3_
  clear n0_ n1_ n2_ n3_
  (try clear hb)
  (try clear hb2)
  (try clear hk)
  (try clear hi)
  (try clear ho0)
  refine hK.out _ _ ⟨(blk_cell BK329.out 0).trans rfl, (blk_cell BK329.out 1).trans rfl⟩ (fun hHeld => ?_)
  clear hK K
  refine norm_ (a' := ?_) ?_ ?_
  rotate_left
  · show Act.put _ (some 15) _ = _
    simp only [Act.put, List.setIfInBounds_toArray, List.set_cons_zero, List.set_cons_succ, i64_w, i32_w]
    rfl
  refine one_ (i := 7) (N := some 18) #[true, true, true, true, true, true, true, true, false, false, false] rfl rfl (one_of HT_.out (by kernel_rfl)) (by decide) (fun K hK => ?_)
  refine goes_ Try.func18 (by kernel_rfl) rfl #[.slice A2_1 l2_1.length c2_1] (by rfl) rfl rfl (by (try simp only [List.map_toArray, List.map_cons, List.map_nil]); first | done | rfl | (simp only [List.length_drop, List.length_take]; rfl)) ?_
  with_reducible refine (tickinglaw02_list.calls _ _ l2_1 t336 _ ?side1 ?side2 A6.out).mono ?_
  (case side1 => repeat (first | exact (Kd.C_below HR2_1.out HB.out) | (with_reducible refine Kd.C_alloc ?_ _) | (with_reducible refine Kd.C_drewN ?_ _) | (with_reducible refine Kd.C_drew ?_)))
  (case side2 => exact HC2_1.out)
  rintro e w13 ⟨v337, rfl, ho0, hb⟩
  refine ⟨_, rfl, ?_⟩
  have n0_ := Aside0.mk (Kd.R_elder' (by (with_reducible repeat (first | apply Kd.R_alloc | apply Kd.R_drewN | apply Kd.R_drew)); exact HO332.out) (Kd.R_base ho0) hb)
  have n1_ := Aside0.mk (Kd.R_elder' (by (with_reducible repeat (first | apply Kd.R_alloc | apply Kd.R_drewN | apply Kd.R_drew)); exact HO335.out) (Kd.R_base ho0) hb)
  have n2_ := Aside0.mk (Kd.R_lower (Kd.R_new' (Kd.R_new' ho0 (Kd.R_lt (by (with_reducible repeat (first | apply Kd.R_alloc | apply Kd.R_drewN | apply Kd.R_drew)); exact HO332.out))) (Kd.R_lt (by (with_reducible repeat (first | apply Kd.R_alloc | apply Kd.R_drewN | apply Kd.R_drew)); exact HO335.out))) (below_size (by repeat (first | (with_reducible first | exact HB.out | apply below_alloc | apply pw_below_drewN | apply below_drew1 | refine below_set ?_ GE329.out) | exact HB.out))))
  have n3_ := Aside0.mk (blk_below (g := gb329) (o := .cells #[.slice A2_0 l2_0.length c2_0, .slice A2_1 l2_1.length c2_1] 43 (0, 0)) (by (with_reducible repeat (first | refine blk_drewN ?_ _ | refine blk_drew ?_ | refine blk_alloc ?_ _)); exact BK329.out) hb)
  have n4_ := Aside0.mk (below_step (by repeat (first | (with_reducible first | exact HB.out | apply below_alloc | apply pw_below_drewN | apply below_drew1 | refine below_set ?_ GE329.out) | exact HB.out)) hb)
  clear HO332
  clear HO335
  clear BK329
  clear HB
  have HO332 := n0_
  have HO335 := n1_
  have HO338 := n2_
  have BK329 := n3_
  have HB := n4_
  clear n0_ n1_ n2_ n3_ n4_
  (try clear hb)
  (try clear hb2)
  (try clear hk)
  (try clear hi)
  (try clear ho0)
  refine hK.out _ _ ⟨(blk_cell BK329.out 0).trans rfl, (blk_cell BK329.out 1).trans rfl⟩ (fun hHeld => ?_)
  clear hK K
  refine norm_ (a' := ?_) ?_ ?_
  rotate_left
  · show Act.put _ (some 18) _ = _
    simp only [Act.put, List.setIfInBounds_toArray, List.set_cons_zero, List.set_cons_succ, i64_w, i32_w]
    rfl
  refine pure_ (i := 8) (N := some 7) (v := ?_) (a' := ?_) #[true, true, true, true, true, true, true, true, true, false, false] rfl rfl (any_of HT_.out (by kernel_rfl)) (fun _ _ _ h => h) (Or.inl ⟨by rfl, ?_⟩) ?_ ?_
  rotate_left
  · intro w'
    go_simp
    with_reducible rfl
  rotate_left
  · simp only [Act.put, List.setIfInBounds_toArray, List.set_cons_zero, List.set_cons_succ, i64_w, i32_w]
    rfl
  refine pure_ (i := 9) (N := some 8) (v := ?_) (a' := ?_) #[true, true, true, true, true, true, true, true, true, true, false] rfl rfl (any_of HT_.out (by kernel_rfl)) (fun _ _ _ h => h) (Or.inl ⟨by rfl, ?_⟩) ?_ ?_
  rotate_left
  · intro w'
    go_simp
    with_reducible rfl
  rotate_left
  · simp only [Act.put, List.setIfInBounds_toArray, List.set_cons_zero, List.set_cons_succ, i64_w, i32_w]
    rfl
  refine pure_ (i := 10) (N := some 9) (v := ?_) (a' := ?_) #[true, true, true, true, true, true, true, true, true, true, true] rfl rfl (any_of HT_.out (by kernel_rfl)) (fun _ _ _ h => h) (Or.inl ⟨by rfl, ?_⟩) ?_ ?_
  rotate_left
  · intro w'
    go_simp
    with_reducible rfl
  rotate_left
  · simp only [Act.put, List.setIfInBounds_toArray, List.set_cons_zero, List.set_cons_succ, i64_w, i32_w]
    rfl
  refine done_ (done_of HT_.out (by kernel_rfl)) ?_
  obtain ⟨Ao14, co14, eo14⟩ := Kd.R_slice HO332.out
  subst eo14
  obtain ⟨Ao15, co15, eo15⟩ := Kd.R_slice HO335.out
  subst eo15
  obtain ⟨Ao16, co16, eo16⟩ := Kd.R_slice HO338.out
  subst eo16
  go_upto_region 3 with (first | ((with_reducible refine gate_callee (f := 34) rfl ?_); refine goesL_ (some 23) rfl rfl Try.func34 (by kernel_rfl) rfl #[.slice Ao14 t330.length co14, .int .i64 a1, .slice Ao15 t333.length co15, .slice Ao16 t336.length co16] rfl (by (try simp only [List.map_toArray, List.map_cons, List.map_nil]); first | done | rfl | (simp only [List.length_drop, List.length_take]; rfl)) ?_; (with_reducible refine (shunt_CheckQueues.calls _ _ t330 a1 _ _ t333 _ _ t336 t339 _ ?side1 ?side2 ?side3 ?side4 ?side5 ?side6 A7.out).mono ?_); (case side1 => repeat (first | exact (Kd.R_reads' HO332.out).2.2 | (with_reducible refine Kd.C_alloc ?_ _) | (with_reducible refine Kd.C_drewN ?_ _) | (with_reducible refine Kd.C_drew ?_))); (case side2 => exact (Kd.R_reads' HO332.out).2.1); (case side3 => repeat (first | exact (Kd.R_reads' HO335.out).2.2 | (with_reducible refine Kd.C_alloc ?_ _) | (with_reducible refine Kd.C_drewN ?_ _) | (with_reducible refine Kd.C_drew ?_))); (case side4 => exact (Kd.R_reads' HO335.out).2.1); (case side5 => repeat (first | exact (Kd.R_reads' HO338.out).2.2 | (with_reducible refine Kd.C_alloc ?_ _) | (with_reducible refine Kd.C_drewN ?_ _) | (with_reducible refine Kd.C_drew ?_))); (case side6 => exact (Kd.R_reads' HO338.out).2.1); rintro e w17 ⟨rfl, hb⟩; refine ⟨_, rfl, ?_⟩; have n0_ := Aside0.mk (Kd.R_below (by (with_reducible repeat (first | apply Kd.R_alloc | apply Kd.R_drewN | apply Kd.R_drew)); exact HO332.out) hb); have n1_ := Aside0.mk (Kd.R_below (by (with_reducible repeat (first | apply Kd.R_alloc | apply Kd.R_drewN | apply Kd.R_drew)); exact HO335.out) hb); have n2_ := Aside0.mk (Kd.R_below (by (with_reducible repeat (first | apply Kd.R_alloc | apply Kd.R_drewN | apply Kd.R_drew)); exact HO338.out) hb); have n3_ := Aside0.mk (blk_below (g := gb329) (o := .cells #[.slice A2_0 l2_0.length c2_0, .slice A2_1 l2_1.length c2_1] 43 (0, 0)) (by (with_reducible repeat (first | refine blk_drewN ?_ _ | refine blk_drew ?_ | refine blk_alloc ?_ _)); exact BK329.out) hb); have n4_ := Aside0.mk (below_step (by repeat (first | (with_reducible first | exact HB.out | apply below_alloc | apply pw_below_drewN | apply below_drew1 | refine below_set ?_ GE329.out) | exact HB.out)) hb); clear HO332; clear HO335; clear HO338; clear BK329; clear HB; have HO332 := n0_; have HO335 := n1_; have HO338 := n2_; have BK329 := n3_; have HB := n4_; clear n0_ n1_ n2_ n3_ n4_; (try clear hb); (try clear hb2); (try clear hk); (try clear hi)))
  (try simp only [Act.put, List.setIfInBounds_toArray, List.set_cons_zero, List.set_cons_succ])
  go_cut [34] (fun v34 wc => ∃ (kq : Nat) (x34_7 : Bool), v34 = .bool x34_7 ∧ Aside0 (tickinglaw02_ShuntQueuesChecks.j0 kq a1 t330 t333 t336 t339 x34_7 = some r) ∧ Aside0 (kq ≤ k) ∧ Aside0 (Kd.R (Kd.int .i64) 3 wc w.heap.size (fun k_ => some k_ ≠ ((.slice Ao15 t333.length co15) : Value).ownBlock ∧ some k_ ≠ ((.slice Ao16 t336.length co16) : Value).ownBlock) (.slice Ao14 t330.length co14) t330) ∧ Aside0 (Kd.R (Kd.int .i64) 3 wc w.heap.size (fun k_ => some k_ ≠ ((.slice Ao14 t330.length co14) : Value).ownBlock ∧ some k_ ≠ ((.slice Ao16 t336.length co16) : Value).ownBlock) (.slice Ao15 t333.length co15) t333) ∧ Aside0 (Kd.R (Kd.int .i64) 3 wc w.heap.size (fun k_ => some k_ ≠ ((.slice Ao14 t330.length co14) : Value).ownBlock ∧ some k_ ≠ ((.slice Ao15 t333.length co15) : Value).ownBlock) (.slice Ao16 t336.length co16) t336) ∧ Aside0 (wc.heap[gb329]? = some (.cells #[(.slice A2_0 l2_0.length c2_0), (.slice A2_1 l2_1.length c2_1)] 43 (0, 0))) ∧ Aside0 (Below w.heap.size w wc))
  case first =>
    have H := HC8.out
    clear HC8
    replace H := Option.bind_eq_some_iff.mp H
    obtain ⟨t340, A180, H⟩ := H
    replace H : (if t340 = true then (if a1 < 1 then (tickinglaw02_ShuntQueuesChecks.j0 k a1 t330 t333 t336 t339 true) else (tickinglaw02_ShuntQueuesChecks.j0 k a1 t330 t333 t336 t339 (decide (a1 > 60)))) else (tickinglaw02_ShuntQueuesChecks.j0 k a1 t330 t333 t336 t339 true)) = some r := H
    have A18 := Aside0.mk A180
    clear A180
    by_cases c19 : t340 = true
    · subst c19
      have H1 : (if a1 < 1 then (tickinglaw02_ShuntQueuesChecks.j0 k a1 t330 t333 t336 t339 true) else (tickinglaw02_ShuntQueuesChecks.j0 k a1 t330 t333 t336 t339 (decide (a1 > 60)))) = some r := by rw [if_pos rfl] at H; exact H
      clear H
      have H := H1
      clear H1
      by_cases c20 : a1 < 1
      · rw [if_pos c20] at H
        have c20b0 : decide (a1 < 1) = true := decide_eq_true c20
        clear c20
        (first | rw [c20b0] | (simp only [i64_w, i32_w]; rw [c20b0]) | skip)
        have H' := Aside0.mk H
        clear H
        go_wp2_with (first | ((with_reducible refine gate_callee (f := 21) rfl ?_); refine goesL_ (some 25) rfl rfl Try.func21 (by kernel_rfl) rfl #[.slice Ao14 t330.length co14, .int .i64 60] rfl (by (try simp only [List.map_toArray, List.map_cons, List.map_nil]); first | done | rfl | (simp only [List.length_drop, List.length_take]; rfl)) ?_; (with_reducible refine (tickingref02_Order.calls k _ _ t330 60 true _ ?side1 ?side2 A18.out).mono ?_); (case side1 => repeat (first | exact (Kd.R_reads' HO332.out).2.2 | (with_reducible refine Kd.C_alloc ?_ _) | (with_reducible refine Kd.C_drewN ?_ _) | (with_reducible refine Kd.C_drew ?_))); (case side2 => exact (Kd.R_reads' HO332.out).2.1); rintro e w' ⟨rfl, ⟨nd, rfl⟩⟩; refine ⟨_, rfl, ?_⟩))
        go_meet
        case rel => exact ⟨_, (true), (by first | rfl | (simp; done) | (simp [*]; done)), H', ⟨by first | omega | exact Nat.le_refl _⟩, ⟨by (with_reducible repeat (first | apply Kd.R_alloc | apply Kd.R_drewN | apply Kd.R_drew)); exact Kd.R_mono HO332.out (fun _ hk => ⟨hk.1.2, hk.2⟩)⟩, ⟨by (with_reducible repeat (first | apply Kd.R_alloc | apply Kd.R_drewN | apply Kd.R_drew)); exact Kd.R_mono HO335.out (fun _ hk => ⟨hk.1.2, hk.2⟩)⟩, ⟨by (with_reducible repeat (first | apply Kd.R_alloc | apply Kd.R_drewN | apply Kd.R_drew)); exact Kd.R_mono HO338.out (fun _ hk => ⟨hk.1.2, hk.2⟩)⟩, ⟨by (with_reducible repeat (first | refine blk_drewN ?_ _ | refine blk_drew ?_ | refine blk_alloc ?_ _)); exact BK329.out⟩, ⟨by repeat (first | (with_reducible first | exact HB.out | apply below_alloc | apply pw_below_drewN | apply below_drew1 | refine below_set ?_ GE329.out) | exact HB.out)⟩⟩
      · rw [if_neg c20] at H
        have c20b0 : decide (a1 < 1) = false := decide_eq_false c20
        clear c20
        (first | rw [c20b0] | (simp only [i64_w, i32_w]; rw [c20b0]) | skip)
        have H' := Aside0.mk H
        clear H
        go_wp2_with (first | ((with_reducible refine gate_callee (f := 21) rfl ?_); refine goesL_ (some 25) rfl rfl Try.func21 (by kernel_rfl) rfl #[.slice Ao14 t330.length co14, .int .i64 60] rfl (by (try simp only [List.map_toArray, List.map_cons, List.map_nil]); first | done | rfl | (simp only [List.length_drop, List.length_take]; rfl)) ?_; (with_reducible refine (tickingref02_Order.calls k _ _ t330 60 true _ ?side1 ?side2 A18.out).mono ?_); (case side1 => repeat (first | exact (Kd.R_reads' HO332.out).2.2 | (with_reducible refine Kd.C_alloc ?_ _) | (with_reducible refine Kd.C_drewN ?_ _) | (with_reducible refine Kd.C_drew ?_))); (case side2 => exact (Kd.R_reads' HO332.out).2.1); rintro e w' ⟨rfl, ⟨nd, rfl⟩⟩; refine ⟨_, rfl, ?_⟩))
        go_meet
        case rel => exact ⟨_, (decide (a1 > 60)), (by first | rfl | (simp; done) | (simp [*]; done)), H', ⟨by first | omega | exact Nat.le_refl _⟩, ⟨by (with_reducible repeat (first | apply Kd.R_alloc | apply Kd.R_drewN | apply Kd.R_drew)); exact Kd.R_mono HO332.out (fun _ hk => ⟨hk.1.2, hk.2⟩)⟩, ⟨by (with_reducible repeat (first | apply Kd.R_alloc | apply Kd.R_drewN | apply Kd.R_drew)); exact Kd.R_mono HO335.out (fun _ hk => ⟨hk.1.2, hk.2⟩)⟩, ⟨by (with_reducible repeat (first | apply Kd.R_alloc | apply Kd.R_drewN | apply Kd.R_drew)); exact Kd.R_mono HO338.out (fun _ hk => ⟨hk.1.2, hk.2⟩)⟩, ⟨by (with_reducible repeat (first | refine blk_drewN ?_ _ | refine blk_drew ?_ | refine blk_alloc ?_ _)); exact BK329.out⟩, ⟨by repeat (first | (with_reducible first | exact HB.out | apply below_alloc | apply pw_below_drewN | apply below_drew1 | refine below_set ?_ GE329.out) | exact HB.out)⟩⟩
    · replace c19 := Bool.eq_false_iff.mpr c19
      subst c19
      have H1 : (tickinglaw02_ShuntQueuesChecks.j0 k a1 t330 t333 t336 t339 true) = some r := by rw [if_neg (show ¬ (false = true) by decide)] at H; exact H
      clear H
      have H := H1
      clear H1
      have H' := Aside0.mk H
      clear H
      go_wp2_with (first | ((with_reducible refine gate_callee (f := 21) rfl ?_); refine goesL_ (some 25) rfl rfl Try.func21 (by kernel_rfl) rfl #[.slice Ao14 t330.length co14, .int .i64 60] rfl (by (try simp only [List.map_toArray, List.map_cons, List.map_nil]); first | done | rfl | (simp only [List.length_drop, List.length_take]; rfl)) ?_; (with_reducible refine (tickingref02_Order.calls k _ _ t330 60 false _ ?side1 ?side2 A18.out).mono ?_); (case side1 => repeat (first | exact (Kd.R_reads' HO332.out).2.2 | (with_reducible refine Kd.C_alloc ?_ _) | (with_reducible refine Kd.C_drewN ?_ _) | (with_reducible refine Kd.C_drew ?_))); (case side2 => exact (Kd.R_reads' HO332.out).2.1); rintro e w' ⟨rfl, ⟨nd, rfl⟩⟩; refine ⟨_, rfl, ?_⟩))
      go_meet
      case rel => exact ⟨_, (true), (by first | rfl | (simp; done) | (simp [*]; done)), H', ⟨by first | omega | exact Nat.le_refl _⟩, ⟨by (with_reducible repeat (first | apply Kd.R_alloc | apply Kd.R_drewN | apply Kd.R_drew)); exact Kd.R_mono HO332.out (fun _ hk => ⟨hk.1.2, hk.2⟩)⟩, ⟨by (with_reducible repeat (first | apply Kd.R_alloc | apply Kd.R_drewN | apply Kd.R_drew)); exact Kd.R_mono HO335.out (fun _ hk => ⟨hk.1.2, hk.2⟩)⟩, ⟨by (with_reducible repeat (first | apply Kd.R_alloc | apply Kd.R_drewN | apply Kd.R_drew)); exact Kd.R_mono HO338.out (fun _ hk => ⟨hk.1.2, hk.2⟩)⟩, ⟨by (with_reducible repeat (first | refine blk_drewN ?_ _ | refine blk_drew ?_ | refine blk_alloc ?_ _)); exact BK329.out⟩, ⟨by repeat (first | (with_reducible first | exact HB.out | apply below_alloc | apply pw_below_drewN | apply below_drew1 | refine below_set ?_ GE329.out) | exact HB.out)⟩⟩
  case rest =>
    clear HC8
    try clear c1
    try clear c2
    try clear p2
    try clear c3
    try clear c7
    try clear c18
    try clear c19
    try clear c20
    try clear c20b0
    obtain ⟨kq, x34_7, rfl, HA, HJ7, HO_7, HO_8, HO_9, BK329, HB⟩ := hcut
    cases kq with
    | zero => exact absurd HA.out (by simp [tickinglaw02_ShuntQueuesChecks.j0])
    | succ kj7 =>
      have H := HA.out
      clear HA
      simp only [tickinglaw02_ShuntQueuesChecks.j0] at H
      by_cases c21 : x34_7 = true
      · subst c21
        have H1 : (if t339 = 2 then ((tickinglaw02_awake.f kj7).bind fun t341 => (some t341)) else (some false)) = some r := by rw [if_pos rfl] at H; exact H
        clear H
        have H := H1
        clear H1
        by_cases c22 : t339 = 2
        · rw [if_pos c22] at H
          have c22b0 : (t339 == 2) = true := beq_iff_eq.mpr c22
          have c22b1 : (t339 != 2) = false := bne_eq_false_iff_eq.mpr c22
          clear c22
          replace H := Option.bind_eq_some_iff.mp H
          obtain ⟨t341, A230, H⟩ := H
          replace H : (some t341) = some r := H
          have A23 := Aside0.mk A230
          clear A230
          obtain rfl := Option.some.inj H
          go_wp2_with (first | (go_at_call 22; (with_reducible refine (tickinglaw02_awake.calls kj7  t341 _ A23.out).mono ?_); rintro e w24 ⟨rfl, hb⟩; have n0_ := Aside0.mk (Kd.R_below (by (with_reducible repeat (first | apply Kd.R_alloc | apply Kd.R_drewN | apply Kd.R_drew)); exact HO_7.out) hb); have n1_ := Aside0.mk (Kd.R_below (by (with_reducible repeat (first | apply Kd.R_alloc | apply Kd.R_drewN | apply Kd.R_drew)); exact HO_8.out) hb); have n2_ := Aside0.mk (Kd.R_below (by (with_reducible repeat (first | apply Kd.R_alloc | apply Kd.R_drewN | apply Kd.R_drew)); exact HO_9.out) hb); have n3_ := Aside0.mk (blk_below (g := gb329) (o := .cells #[.slice A2_0 l2_0.length c2_0, .slice A2_1 l2_1.length c2_1] 43 (0, 0)) (by (with_reducible repeat (first | refine blk_drewN ?_ _ | refine blk_drew ?_ | refine blk_alloc ?_ _)); exact BK329.out) hb); have n4_ := Aside0.mk (below_step (by repeat (first | (with_reducible first | exact HB.out | apply below_alloc | apply pw_below_drewN | apply below_drew1 | refine below_set ?_ GE329.out) | exact HB.out)) hb); clear HO_7; clear HO_8; clear HO_9; clear BK329; clear HB; have HO_7 := n0_; have HO_8 := n1_; have HO_9 := n2_; have BK329 := n3_; have HB := n4_; clear n0_ n1_ n2_ n3_ n4_; (try clear hb); (try clear hb2); (try clear hk); (try clear hi)))
          go_ret
          exact ⟨by first | rfl | (simp [errW_none, errW_some] <;> rfl) | (simp [*, errW_none, errW_some] <;> rfl), by repeat (first | (with_reducible first | exact HB.out | apply below_alloc | apply pw_below_drewN | apply below_drew1 | refine below_set ?_ GE329.out) | exact HB.out)⟩
        · rw [if_neg c22] at H
          have c22b0 : (t339 == 2) = false := beq_eq_false_iff_ne.mpr c22
          have c22b1 : (t339 != 2) = true := bne_iff_ne.mpr c22
          obtain rfl := Option.some.inj H
          go_wp2
          go_ret
          exact ⟨by first | rfl | (simp [errW_none, errW_some] <;> rfl) | (simp [*, errW_none, errW_some] <;> rfl), by repeat (first | (with_reducible first | exact HB.out | apply below_alloc | apply pw_below_drewN | apply below_drew1 | refine below_set ?_ GE329.out) | exact HB.out)⟩
      · replace c21 := Bool.eq_false_iff.mpr c21
        subst c21
        have H1 : ((tickingref02_LanesSort.f kj7 t330 a1 t333).bind fun t342 => (if t342 = true then (if (t336.length : Int) = 0 then (tickinglaw02_ShuntQueuesChecks.j1 kj7 t339 true) else (if (t333.length : Int) = 0 then (if (t330.length : Int) > 0 then ((tickingref02_QueuesBlock.f kj7 t330 a1 t336).bind fun t343 => (tickinglaw02_ShuntQueuesChecks.j1 kj7 t339 t343)) else (tickinglaw02_ShuntQueuesChecks.j1 kj7 t339 false)) else (tickinglaw02_ShuntQueuesChecks.j1 kj7 t339 false))) else (if (t333.length : Int) = 0 then (if (t330.length : Int) > 0 then ((tickingref02_QueuesBlock.f kj7 t330 a1 t336).bind fun t344 => (tickinglaw02_ShuntQueuesChecks.j1 kj7 t339 t344)) else (tickinglaw02_ShuntQueuesChecks.j1 kj7 t339 false)) else (tickinglaw02_ShuntQueuesChecks.j1 kj7 t339 false)))) = some r := by rw [if_neg (show ¬ (false = true) by decide)] at H; exact H
        clear H
        have H := H1
        clear H1
        have HC25 := Aside0.mk H
        clear H
        go_upto_region 5 with (fail)
        go_cut [64] (fun v64 wc => ∃ (kq : Nat) (x64_24 : Bool), v64 = .bool x64_24 ∧ Aside0 (tickinglaw02_ShuntQueuesChecks.j1 kq t339 x64_24 = some r) ∧ Aside0 (kq ≤ kj7) ∧ Aside0 (wc.heap[gb329]? = some (.cells #[(.slice A2_0 l2_0.length c2_0), (.slice A2_1 l2_1.length c2_1)] 43 (0, 0))) ∧ Aside0 (Below w.heap.size w wc))
        case first =>
          have H := HC25.out
          clear HC25
          replace H := Option.bind_eq_some_iff.mp H
          obtain ⟨t342, A260, H⟩ := H
          replace H : (if t342 = true then (if (t336.length : Int) = 0 then (tickinglaw02_ShuntQueuesChecks.j1 kj7 t339 true) else (if (t333.length : Int) = 0 then (if (t330.length : Int) > 0 then ((tickingref02_QueuesBlock.f kj7 t330 a1 t336).bind fun t343 => (tickinglaw02_ShuntQueuesChecks.j1 kj7 t339 t343)) else (tickinglaw02_ShuntQueuesChecks.j1 kj7 t339 false)) else (tickinglaw02_ShuntQueuesChecks.j1 kj7 t339 false))) else (if (t333.length : Int) = 0 then (if (t330.length : Int) > 0 then ((tickingref02_QueuesBlock.f kj7 t330 a1 t336).bind fun t344 => (tickinglaw02_ShuntQueuesChecks.j1 kj7 t339 t344)) else (tickinglaw02_ShuntQueuesChecks.j1 kj7 t339 false)) else (tickinglaw02_ShuntQueuesChecks.j1 kj7 t339 false))) = some r := H
          have A26 := Aside0.mk A260
          clear A260
          by_cases c27 : t342 = true
          · subst c27
            have H1 : (if (t336.length : Int) = 0 then (tickinglaw02_ShuntQueuesChecks.j1 kj7 t339 true) else (if (t333.length : Int) = 0 then (if (t330.length : Int) > 0 then ((tickingref02_QueuesBlock.f kj7 t330 a1 t336).bind fun t343 => (tickinglaw02_ShuntQueuesChecks.j1 kj7 t339 t343)) else (tickinglaw02_ShuntQueuesChecks.j1 kj7 t339 false)) else (tickinglaw02_ShuntQueuesChecks.j1 kj7 t339 false))) = some r := by rw [if_pos rfl] at H; exact H
            clear H
            have H := H1
            clear H1
            by_cases c28 : (t336.length : Int) = 0
            · rw [if_pos c28] at H
              have c28b0 : ((t336.length : Int) == 0) = true := beq_iff_eq.mpr c28
              have c28b1 : ((t336.length : Int) != 0) = false := bne_eq_false_iff_eq.mpr c28
              clear c28
              (first | rw [c28b0] | (simp only [i64_w, i32_w]; rw [c28b0]) | skip)
              have H' := Aside0.mk H
              clear H
              go_wp2_with (first | ((with_reducible refine gate_callee (f := 35) rfl ?_); refine goesL_ (some 43) rfl rfl Try.func35 (by kernel_rfl) rfl #[.slice Ao14 t330.length co14, .int .i64 a1, .slice Ao15 t333.length co15] rfl (by (try simp only [List.map_toArray, List.map_cons, List.map_nil]); first | done | rfl | (simp only [List.length_drop, List.length_take]; rfl)) ?_; (with_reducible refine (tickingref02_LanesSort.calls kj7 _ _ t330 a1 _ _ t333 true _ ?side1 ?side2 ?side3 ?side4 A26.out).mono ?_); (case side1 => repeat (first | exact (Kd.R_reads' HO_7.out).2.2 | (with_reducible refine Kd.C_alloc ?_ _) | (with_reducible refine Kd.C_drewN ?_ _) | (with_reducible refine Kd.C_drew ?_))); (case side2 => exact (Kd.R_reads' HO_7.out).2.1); (case side3 => repeat (first | exact (Kd.R_reads' HO_8.out).2.2 | (with_reducible refine Kd.C_alloc ?_ _) | (with_reducible refine Kd.C_drewN ?_ _) | (with_reducible refine Kd.C_drew ?_))); (case side4 => exact (Kd.R_reads' HO_8.out).2.1); rintro e w' ⟨rfl, ⟨nd, rfl⟩⟩; refine ⟨_, rfl, ?_⟩))
              go_meet
              case rel => exact ⟨_, (true), (by first | rfl | (simp; done) | (simp [*]; done)), H', ⟨by have := HJ7.out; first | omega | exact Nat.le_refl _⟩, ⟨by (with_reducible repeat (first | refine blk_drewN ?_ _ | refine blk_drew ?_ | refine blk_alloc ?_ _)); exact BK329.out⟩, ⟨by repeat (first | (with_reducible first | exact HB.out | apply below_alloc | apply pw_below_drewN | apply below_drew1 | refine below_set ?_ GE329.out) | exact HB.out)⟩⟩
            · rw [if_neg c28] at H
              have c28b0 : ((t336.length : Int) == 0) = false := beq_eq_false_iff_ne.mpr c28
              have c28b1 : ((t336.length : Int) != 0) = true := bne_iff_ne.mpr c28
              have c28b2 : ¬ (t336 = []) := fun h_ => c28 (by rw [h_]; rfl)
              (first | rw [c28b0] | (simp only [i64_w, i32_w]; rw [c28b0]) | skip)
              by_cases c29 : (t333.length : Int) = 0
              · rw [if_pos c29] at H
                have c29b0 : ((t333.length : Int) == 0) = true := beq_iff_eq.mpr c29
                have c29b1 : ((t333.length : Int) != 0) = false := bne_eq_false_iff_eq.mpr c29
                clear c29
                by_cases c30 : (t330.length : Int) > 0
                · rw [if_pos c30] at H
                  have c30b0 : decide (0 < (t330.length : Int)) = true := decide_eq_true c30
                  have c30b1 : decide (0 < t330.length) = true := decide_eq_true (by omega)
                  clear c30
                  replace H := Option.bind_eq_some_iff.mp H
                  obtain ⟨t343, A310, H⟩ := H
                  replace H : (tickinglaw02_ShuntQueuesChecks.j1 kj7 t339 t343) = some r := H
                  have A31 := Aside0.mk A310
                  clear A310
                  have H' := Aside0.mk H
                  clear H
                  go_wp2_with (first | ((with_reducible refine gate_callee (f := 35) rfl ?_); refine goesL_ (some 43) rfl rfl Try.func35 (by kernel_rfl) rfl #[.slice Ao14 t330.length co14, .int .i64 a1, .slice Ao15 t333.length co15] rfl (by (try simp only [List.map_toArray, List.map_cons, List.map_nil]); first | done | rfl | (simp only [List.length_drop, List.length_take]; rfl)) ?_; (with_reducible refine (tickingref02_LanesSort.calls kj7 _ _ t330 a1 _ _ t333 true _ ?side1 ?side2 ?side3 ?side4 A26.out).mono ?_); (case side1 => repeat (first | exact (Kd.R_reads' HO_7.out).2.2 | (with_reducible refine Kd.C_alloc ?_ _) | (with_reducible refine Kd.C_drewN ?_ _) | (with_reducible refine Kd.C_drew ?_))); (case side2 => exact (Kd.R_reads' HO_7.out).2.1); (case side3 => repeat (first | exact (Kd.R_reads' HO_8.out).2.2 | (with_reducible refine Kd.C_alloc ?_ _) | (with_reducible refine Kd.C_drewN ?_ _) | (with_reducible refine Kd.C_drew ?_))); (case side4 => exact (Kd.R_reads' HO_8.out).2.1); rintro e w' ⟨rfl, ⟨nd, rfl⟩⟩; refine ⟨_, rfl, ?_⟩) | (go_at_call 36; (with_reducible refine (tickingref02_QueuesBlock.calls kj7 _ _ t330 a1 _ _ t336 t343 _ ?side1 ?side2 ?side3 ?side4 A31.out).mono ?_); (case side1 => repeat (first | exact (Kd.R_reads' HO_7.out).2.2 | (with_reducible refine Kd.C_alloc ?_ _) | (with_reducible refine Kd.C_drewN ?_ _) | (with_reducible refine Kd.C_drew ?_))); (case side2 => exact (Kd.R_reads' HO_7.out).2.1); (case side3 => repeat (first | exact (Kd.R_reads' HO_9.out).2.2 | (with_reducible refine Kd.C_alloc ?_ _) | (with_reducible refine Kd.C_drewN ?_ _) | (with_reducible refine Kd.C_drew ?_))); (case side4 => exact (Kd.R_reads' HO_9.out).2.1); rintro e w' ⟨rfl, ⟨nd, rfl⟩⟩))
                  go_meet
                  case rel => exact ⟨_, (t343), (by first | rfl | (simp; done) | (simp [*]; done)), H', ⟨by have := HJ7.out; first | omega | exact Nat.le_refl _⟩, ⟨by (with_reducible repeat (first | refine blk_drewN ?_ _ | refine blk_drew ?_ | refine blk_alloc ?_ _)); exact BK329.out⟩, ⟨by repeat (first | (with_reducible first | exact HB.out | apply below_alloc | apply pw_below_drewN | apply below_drew1 | refine below_set ?_ GE329.out) | exact HB.out)⟩⟩
                · rw [if_neg c30] at H
                  have c30b0 : decide (0 < (t330.length : Int)) = false := decide_eq_false c30
                  have c30b1 : decide (0 < t330.length) = false := decide_eq_false (by omega)
                  clear c30
                  have H' := Aside0.mk H
                  clear H
                  go_wp2_with (first | ((with_reducible refine gate_callee (f := 35) rfl ?_); refine goesL_ (some 43) rfl rfl Try.func35 (by kernel_rfl) rfl #[.slice Ao14 t330.length co14, .int .i64 a1, .slice Ao15 t333.length co15] rfl (by (try simp only [List.map_toArray, List.map_cons, List.map_nil]); first | done | rfl | (simp only [List.length_drop, List.length_take]; rfl)) ?_; (with_reducible refine (tickingref02_LanesSort.calls kj7 _ _ t330 a1 _ _ t333 true _ ?side1 ?side2 ?side3 ?side4 A26.out).mono ?_); (case side1 => repeat (first | exact (Kd.R_reads' HO_7.out).2.2 | (with_reducible refine Kd.C_alloc ?_ _) | (with_reducible refine Kd.C_drewN ?_ _) | (with_reducible refine Kd.C_drew ?_))); (case side2 => exact (Kd.R_reads' HO_7.out).2.1); (case side3 => repeat (first | exact (Kd.R_reads' HO_8.out).2.2 | (with_reducible refine Kd.C_alloc ?_ _) | (with_reducible refine Kd.C_drewN ?_ _) | (with_reducible refine Kd.C_drew ?_))); (case side4 => exact (Kd.R_reads' HO_8.out).2.1); rintro e w' ⟨rfl, ⟨nd, rfl⟩⟩; refine ⟨_, rfl, ?_⟩))
                  go_meet
                  case rel => exact ⟨_, (false), (by first | rfl | (simp; done) | (simp [*]; done)), H', ⟨by have := HJ7.out; first | omega | exact Nat.le_refl _⟩, ⟨by (with_reducible repeat (first | refine blk_drewN ?_ _ | refine blk_drew ?_ | refine blk_alloc ?_ _)); exact BK329.out⟩, ⟨by repeat (first | (with_reducible first | exact HB.out | apply below_alloc | apply pw_below_drewN | apply below_drew1 | refine below_set ?_ GE329.out) | exact HB.out)⟩⟩
              · rw [if_neg c29] at H
                have c29b0 : ((t333.length : Int) == 0) = false := beq_eq_false_iff_ne.mpr c29
                have c29b1 : ((t333.length : Int) != 0) = true := bne_iff_ne.mpr c29
                have c29b2 : ¬ (t333 = []) := fun h_ => c29 (by rw [h_]; rfl)
                have H' := Aside0.mk H
                clear H
                go_wp2_with (first | ((with_reducible refine gate_callee (f := 35) rfl ?_); refine goesL_ (some 43) rfl rfl Try.func35 (by kernel_rfl) rfl #[.slice Ao14 t330.length co14, .int .i64 a1, .slice Ao15 t333.length co15] rfl (by (try simp only [List.map_toArray, List.map_cons, List.map_nil]); first | done | rfl | (simp only [List.length_drop, List.length_take]; rfl)) ?_; (with_reducible refine (tickingref02_LanesSort.calls kj7 _ _ t330 a1 _ _ t333 true _ ?side1 ?side2 ?side3 ?side4 A26.out).mono ?_); (case side1 => repeat (first | exact (Kd.R_reads' HO_7.out).2.2 | (with_reducible refine Kd.C_alloc ?_ _) | (with_reducible refine Kd.C_drewN ?_ _) | (with_reducible refine Kd.C_drew ?_))); (case side2 => exact (Kd.R_reads' HO_7.out).2.1); (case side3 => repeat (first | exact (Kd.R_reads' HO_8.out).2.2 | (with_reducible refine Kd.C_alloc ?_ _) | (with_reducible refine Kd.C_drewN ?_ _) | (with_reducible refine Kd.C_drew ?_))); (case side4 => exact (Kd.R_reads' HO_8.out).2.1); rintro e w' ⟨rfl, ⟨nd, rfl⟩⟩; refine ⟨_, rfl, ?_⟩))
                go_meet
                case rel => exact ⟨_, (false), (by first | rfl | (simp; done) | (simp [*]; done)), H', ⟨by have := HJ7.out; first | omega | exact Nat.le_refl _⟩, ⟨by (with_reducible repeat (first | refine blk_drewN ?_ _ | refine blk_drew ?_ | refine blk_alloc ?_ _)); exact BK329.out⟩, ⟨by repeat (first | (with_reducible first | exact HB.out | apply below_alloc | apply pw_below_drewN | apply below_drew1 | refine below_set ?_ GE329.out) | exact HB.out)⟩⟩
          · replace c27 := Bool.eq_false_iff.mpr c27
            subst c27
            have H1 : (if (t333.length : Int) = 0 then (if (t330.length : Int) > 0 then ((tickingref02_QueuesBlock.f kj7 t330 a1 t336).bind fun t344 => (tickinglaw02_ShuntQueuesChecks.j1 kj7 t339 t344)) else (tickinglaw02_ShuntQueuesChecks.j1 kj7 t339 false)) else (tickinglaw02_ShuntQueuesChecks.j1 kj7 t339 false)) = some r := by rw [if_neg (show ¬ (false = true) by decide)] at H; exact H
            clear H
            have H := H1
            clear H1
            by_cases c32 : (t333.length : Int) = 0
            · rw [if_pos c32] at H
              have c32b0 : ((t333.length : Int) == 0) = true := beq_iff_eq.mpr c32
              have c32b1 : ((t333.length : Int) != 0) = false := bne_eq_false_iff_eq.mpr c32
              clear c32
              by_cases c33 : (t330.length : Int) > 0
              · rw [if_pos c33] at H
                have c33b0 : decide (0 < (t330.length : Int)) = true := decide_eq_true c33
                have c33b1 : decide (0 < t330.length) = true := decide_eq_true (by omega)
                clear c33
                replace H := Option.bind_eq_some_iff.mp H
                obtain ⟨t344, A340, H⟩ := H
                replace H : (tickinglaw02_ShuntQueuesChecks.j1 kj7 t339 t344) = some r := H
                have A34 := Aside0.mk A340
                clear A340
                have H' := Aside0.mk H
                clear H
                go_wp2_with (first | ((with_reducible refine gate_callee (f := 35) rfl ?_); refine goesL_ (some 43) rfl rfl Try.func35 (by kernel_rfl) rfl #[.slice Ao14 t330.length co14, .int .i64 a1, .slice Ao15 t333.length co15] rfl (by (try simp only [List.map_toArray, List.map_cons, List.map_nil]); first | done | rfl | (simp only [List.length_drop, List.length_take]; rfl)) ?_; (with_reducible refine (tickingref02_LanesSort.calls kj7 _ _ t330 a1 _ _ t333 false _ ?side1 ?side2 ?side3 ?side4 A26.out).mono ?_); (case side1 => repeat (first | exact (Kd.R_reads' HO_7.out).2.2 | (with_reducible refine Kd.C_alloc ?_ _) | (with_reducible refine Kd.C_drewN ?_ _) | (with_reducible refine Kd.C_drew ?_))); (case side2 => exact (Kd.R_reads' HO_7.out).2.1); (case side3 => repeat (first | exact (Kd.R_reads' HO_8.out).2.2 | (with_reducible refine Kd.C_alloc ?_ _) | (with_reducible refine Kd.C_drewN ?_ _) | (with_reducible refine Kd.C_drew ?_))); (case side4 => exact (Kd.R_reads' HO_8.out).2.1); rintro e w' ⟨rfl, ⟨nd, rfl⟩⟩; refine ⟨_, rfl, ?_⟩) | (go_at_call 36; (with_reducible refine (tickingref02_QueuesBlock.calls kj7 _ _ t330 a1 _ _ t336 t344 _ ?side1 ?side2 ?side3 ?side4 A34.out).mono ?_); (case side1 => repeat (first | exact (Kd.R_reads' HO_7.out).2.2 | (with_reducible refine Kd.C_alloc ?_ _) | (with_reducible refine Kd.C_drewN ?_ _) | (with_reducible refine Kd.C_drew ?_))); (case side2 => exact (Kd.R_reads' HO_7.out).2.1); (case side3 => repeat (first | exact (Kd.R_reads' HO_9.out).2.2 | (with_reducible refine Kd.C_alloc ?_ _) | (with_reducible refine Kd.C_drewN ?_ _) | (with_reducible refine Kd.C_drew ?_))); (case side4 => exact (Kd.R_reads' HO_9.out).2.1); rintro e w' ⟨rfl, ⟨nd, rfl⟩⟩))
                go_meet
                case rel => exact ⟨_, (t344), (by first | rfl | (simp; done) | (simp [*]; done)), H', ⟨by have := HJ7.out; first | omega | exact Nat.le_refl _⟩, ⟨by (with_reducible repeat (first | refine blk_drewN ?_ _ | refine blk_drew ?_ | refine blk_alloc ?_ _)); exact BK329.out⟩, ⟨by repeat (first | (with_reducible first | exact HB.out | apply below_alloc | apply pw_below_drewN | apply below_drew1 | refine below_set ?_ GE329.out) | exact HB.out)⟩⟩
              · rw [if_neg c33] at H
                have c33b0 : decide (0 < (t330.length : Int)) = false := decide_eq_false c33
                have c33b1 : decide (0 < t330.length) = false := decide_eq_false (by omega)
                clear c33
                have H' := Aside0.mk H
                clear H
                go_wp2_with (first | ((with_reducible refine gate_callee (f := 35) rfl ?_); refine goesL_ (some 43) rfl rfl Try.func35 (by kernel_rfl) rfl #[.slice Ao14 t330.length co14, .int .i64 a1, .slice Ao15 t333.length co15] rfl (by (try simp only [List.map_toArray, List.map_cons, List.map_nil]); first | done | rfl | (simp only [List.length_drop, List.length_take]; rfl)) ?_; (with_reducible refine (tickingref02_LanesSort.calls kj7 _ _ t330 a1 _ _ t333 false _ ?side1 ?side2 ?side3 ?side4 A26.out).mono ?_); (case side1 => repeat (first | exact (Kd.R_reads' HO_7.out).2.2 | (with_reducible refine Kd.C_alloc ?_ _) | (with_reducible refine Kd.C_drewN ?_ _) | (with_reducible refine Kd.C_drew ?_))); (case side2 => exact (Kd.R_reads' HO_7.out).2.1); (case side3 => repeat (first | exact (Kd.R_reads' HO_8.out).2.2 | (with_reducible refine Kd.C_alloc ?_ _) | (with_reducible refine Kd.C_drewN ?_ _) | (with_reducible refine Kd.C_drew ?_))); (case side4 => exact (Kd.R_reads' HO_8.out).2.1); rintro e w' ⟨rfl, ⟨nd, rfl⟩⟩; refine ⟨_, rfl, ?_⟩))
                go_meet
                case rel => exact ⟨_, (false), (by first | rfl | (simp; done) | (simp [*]; done)), H', ⟨by have := HJ7.out; first | omega | exact Nat.le_refl _⟩, ⟨by (with_reducible repeat (first | refine blk_drewN ?_ _ | refine blk_drew ?_ | refine blk_alloc ?_ _)); exact BK329.out⟩, ⟨by repeat (first | (with_reducible first | exact HB.out | apply below_alloc | apply pw_below_drewN | apply below_drew1 | refine below_set ?_ GE329.out) | exact HB.out)⟩⟩
            · rw [if_neg c32] at H
              have c32b0 : ((t333.length : Int) == 0) = false := beq_eq_false_iff_ne.mpr c32
              have c32b1 : ((t333.length : Int) != 0) = true := bne_iff_ne.mpr c32
              have c32b2 : ¬ (t333 = []) := fun h_ => c32 (by rw [h_]; rfl)
              have H' := Aside0.mk H
              clear H
              go_wp2_with (first | ((with_reducible refine gate_callee (f := 35) rfl ?_); refine goesL_ (some 43) rfl rfl Try.func35 (by kernel_rfl) rfl #[.slice Ao14 t330.length co14, .int .i64 a1, .slice Ao15 t333.length co15] rfl (by (try simp only [List.map_toArray, List.map_cons, List.map_nil]); first | done | rfl | (simp only [List.length_drop, List.length_take]; rfl)) ?_; (with_reducible refine (tickingref02_LanesSort.calls kj7 _ _ t330 a1 _ _ t333 false _ ?side1 ?side2 ?side3 ?side4 A26.out).mono ?_); (case side1 => repeat (first | exact (Kd.R_reads' HO_7.out).2.2 | (with_reducible refine Kd.C_alloc ?_ _) | (with_reducible refine Kd.C_drewN ?_ _) | (with_reducible refine Kd.C_drew ?_))); (case side2 => exact (Kd.R_reads' HO_7.out).2.1); (case side3 => repeat (first | exact (Kd.R_reads' HO_8.out).2.2 | (with_reducible refine Kd.C_alloc ?_ _) | (with_reducible refine Kd.C_drewN ?_ _) | (with_reducible refine Kd.C_drew ?_))); (case side4 => exact (Kd.R_reads' HO_8.out).2.1); rintro e w' ⟨rfl, ⟨nd, rfl⟩⟩; refine ⟨_, rfl, ?_⟩))
              go_meet
              case rel => exact ⟨_, (false), (by first | rfl | (simp; done) | (simp [*]; done)), H', ⟨by have := HJ7.out; first | omega | exact Nat.le_refl _⟩, ⟨by (with_reducible repeat (first | refine blk_drewN ?_ _ | refine blk_drew ?_ | refine blk_alloc ?_ _)); exact BK329.out⟩, ⟨by repeat (first | (with_reducible first | exact HB.out | apply below_alloc | apply pw_below_drewN | apply below_drew1 | refine below_set ?_ GE329.out) | exact HB.out)⟩⟩
        case rest =>
          clear HC25
          try clear c1
          try clear c2
          try clear p2
          try clear c3
          try clear c7
          try clear c18
          try clear c19
          try clear c20
          try clear c20b0
          try clear c21
          try clear c22
          try clear c22b0
          try clear c22b1
          try clear c27
          try clear c28
          try clear c28b0
          try clear c28b1
          try clear c28b2
          try clear c29
          try clear c29b0
          try clear c29b1
          try clear c29b2
          try clear c30
          try clear c30b0
          try clear c30b1
          try clear c32
          try clear c32b0
          try clear c32b1
          try clear c32b2
          try clear c33
          try clear c33b0
          try clear c33b1
          try clear c34
          try clear p2
          obtain ⟨kq, x64_24, rfl, HA, HJ24, BK329, HB⟩ := hcut
          cases kq with
          | zero => exact absurd HA.out (by simp [tickinglaw02_ShuntQueuesChecks.j1])
          | succ kj24 =>
            have H := HA.out
            clear HA
            simp only [tickinglaw02_ShuntQueuesChecks.j1] at H
            by_cases c35 : x64_24 = true
            · subst c35
              have H1 : (if t339 = 0 then ((tickinglaw02_awake.f kj24).bind fun t345 => (some t345)) else (some false)) = some r := by rw [if_pos rfl] at H; exact H
              clear H
              have H := H1
              clear H1
              by_cases c36 : t339 = 0
              · rw [if_pos c36] at H
                have c36b0 : (t339 == 0) = true := beq_iff_eq.mpr c36
                have c36b1 : (t339 != 0) = false := bne_eq_false_iff_eq.mpr c36
                clear c36
                replace H := Option.bind_eq_some_iff.mp H
                obtain ⟨t345, A370, H⟩ := H
                replace H : (some t345) = some r := H
                have A37 := Aside0.mk A370
                clear A370
                obtain rfl := Option.some.inj H
                go_wp2_with (first | (go_at_call 22; (with_reducible refine (tickinglaw02_awake.calls kj24  t345 _ A37.out).mono ?_); rintro e w38 ⟨rfl, hb⟩; have n0_ := Aside0.mk (blk_below (g := gb329) (o := .cells #[.slice A2_0 l2_0.length c2_0, .slice A2_1 l2_1.length c2_1] 43 (0, 0)) (by (with_reducible repeat (first | refine blk_drewN ?_ _ | refine blk_drew ?_ | refine blk_alloc ?_ _)); exact BK329.out) hb); have n1_ := Aside0.mk (below_step (by repeat (first | (with_reducible first | exact HB.out | apply below_alloc | apply pw_below_drewN | apply below_drew1 | refine below_set ?_ GE329.out) | exact HB.out)) hb); clear BK329; clear HB; have BK329 := n0_; have HB := n1_; clear n0_ n1_; (try clear hb); (try clear hb2); (try clear hk); (try clear hi)))
                go_ret
                exact ⟨by first | rfl | (simp [errW_none, errW_some] <;> rfl) | (simp [*, errW_none, errW_some] <;> rfl), by repeat (first | (with_reducible first | exact HB.out | apply below_alloc | apply pw_below_drewN | apply below_drew1 | refine below_set ?_ GE329.out) | exact HB.out)⟩
              · rw [if_neg c36] at H
                have c36b0 : (t339 == 0) = false := beq_eq_false_iff_ne.mpr c36
                have c36b1 : (t339 != 0) = true := bne_iff_ne.mpr c36
                obtain rfl := Option.some.inj H
                go_wp2
                go_ret
                exact ⟨by first | rfl | (simp [errW_none, errW_some] <;> rfl) | (simp [*, errW_none, errW_some] <;> rfl), by repeat (first | (with_reducible first | exact HB.out | apply below_alloc | apply pw_below_drewN | apply below_drew1 | refine below_set ?_ GE329.out) | exact HB.out)⟩
            · replace c35 := Bool.eq_false_iff.mpr c35
              subst c35
              have H1 : (if t339 = 10 then ((tickinglaw02_awake.f kj24).bind fun t346 => (some t346)) else (some false)) = some r := by rw [if_neg (show ¬ (false = true) by decide)] at H; exact H
              clear H
              have H := H1
              clear H1
              by_cases c39 : t339 = 10
              · rw [if_pos c39] at H
                have c39b0 : (t339 == 10) = true := beq_iff_eq.mpr c39
                have c39b1 : (t339 != 10) = false := bne_eq_false_iff_eq.mpr c39
                clear c39
                replace H := Option.bind_eq_some_iff.mp H
                obtain ⟨t346, A400, H⟩ := H
                replace H : (some t346) = some r := H
                have A40 := Aside0.mk A400
                clear A400
                obtain rfl := Option.some.inj H
                go_wp2_with (first | (go_at_call 22; (with_reducible refine (tickinglaw02_awake.calls kj24  t346 _ A40.out).mono ?_); rintro e w41 ⟨rfl, hb⟩; have n0_ := Aside0.mk (blk_below (g := gb329) (o := .cells #[.slice A2_0 l2_0.length c2_0, .slice A2_1 l2_1.length c2_1] 43 (0, 0)) (by (with_reducible repeat (first | refine blk_drewN ?_ _ | refine blk_drew ?_ | refine blk_alloc ?_ _)); exact BK329.out) hb); have n1_ := Aside0.mk (below_step (by repeat (first | (with_reducible first | exact HB.out | apply below_alloc | apply pw_below_drewN | apply below_drew1 | refine below_set ?_ GE329.out) | exact HB.out)) hb); clear BK329; clear HB; have BK329 := n0_; have HB := n1_; clear n0_ n1_; (try clear hb); (try clear hb2); (try clear hk); (try clear hi)))
                go_ret
                exact ⟨by first | rfl | (simp [errW_none, errW_some] <;> rfl) | (simp [*, errW_none, errW_some] <;> rfl), by repeat (first | (with_reducible first | exact HB.out | apply below_alloc | apply pw_below_drewN | apply below_drew1 | refine below_set ?_ GE329.out) | exact HB.out)⟩
              · rw [if_neg c39] at H
                have c39b0 : (t339 == 10) = false := beq_eq_false_iff_ne.mpr c39
                have c39b1 : (t339 != 10) = true := bne_iff_ne.mpr c39
                obtain rfl := Option.some.inj H
                go_wp2
                go_ret
                exact ⟨by first | rfl | (simp [errW_none, errW_some] <;> rfl) | (simp [*, errW_none, errW_some] <;> rfl), by repeat (first | (with_reducible first | exact HB.out | apply below_alloc | apply pw_below_drewN | apply below_drew1 | refine below_set ?_ GE329.out) | exact HB.out)⟩

end Go.Proofs.Ytjbjongahnocdaa.S

/- Small facts for the plain laws: whole numbers that do not wrap, reads of lists, rounds. -/
namespace Go.Proofs.Ytjbjongahnocdaa.P
open Go.RowKit Go.Proofs.YtjbjongahnocdaaW.PrintWords

theorem w64 {x : Int} (h0 : -9223372036854775808 ≤ x) (h1 : x ≤ 9223372036854775807) : wrap64 x = x := by
  unfold wrap64
  omega

theorem rd_nat (l : List Int) (i : Nat) : rd l (i : Int) = l.getD i 0 := by
  unfold rd
  rw [show ((i : Int)).toNat = i by omega]

theorem rd_lt (l : List Int) (i : Nat) (h : i < l.length) : rd l (i : Int) = l[i] := by
  rw [rd_nat, List.getD_eq_getElem?_getD, List.getElem?_eq_getElem h, Option.getD_some]

theorem rd_mem {l : List Int} {x : Int} (h0 : 0 ≤ x) (h1 : x < l.length) : rd l x ∈ l := by
  obtain ⟨n, rfl⟩ := Int.eq_ofNat_of_zero_le h0
  rw [rd_lt l n (by omega)]
  exact List.getElem_mem _

theorem drop_cons (l : List Int) (i : Nat) (h : i < l.length) : l.drop i = rd l (i : Int) :: l.drop (i + 1) := by
  rw [rd_lt l i h, List.drop_eq_getElem_cons h]

theorem nodup_len : ∀ (n : Nat) (l : List Int) (lo : Int), l.Nodup → (∀ a ∈ l, lo < a ∧ a ≤ lo + n) → l.length ≤ n
  | 0, l, lo, _, h => by
    cases l with
    | nil => simp
    | cons a t => have := h a (by simp); omega
  | n + 1, l, lo, hd, h => by
    have h1 := nodup_len n (l.erase (lo + 1)) (lo + 1) (hd.erase _) (fun a ha => by
      have hm := List.mem_of_mem_erase ha
      have hne : a ≠ lo + 1 := fun e => by
        subst e
        exact (List.Nodup.not_mem_erase hd) ha
      have := h a hm
      omega)
    have h2 : l.length ≤ (l.erase (lo + 1)).length + 1 := by
      rw [List.length_erase]
      split <;> omega
    omega

theorem full_range (n : Nat) (l : List Int) (lo : Int) (hd : l.Nodup) (h : ∀ a ∈ l, lo < a ∧ a ≤ lo + n) (hl : l.length = n) (v : Int) (h0 : lo < v) (h1 : v ≤ lo + n) : v ∈ l := by
  by_cases hv : v ∈ l
  · exact hv
  · have := nodup_len n (v :: l) lo (List.nodup_cons.2 ⟨hv, hd⟩) (fun a ha => by
      rcases List.mem_cons.1 ha with rfl | ha
      · exact ⟨h0, h1⟩
      · exact h a ha)
    rw [List.length_cons] at this
    omega

end Go.Proofs.Ytjbjongahnocdaa.P
