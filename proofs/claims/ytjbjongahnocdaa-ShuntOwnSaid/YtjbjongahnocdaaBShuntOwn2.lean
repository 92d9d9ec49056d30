-- Written by wip/bundle.py: texts of this claim, one behind the other.
import Derived.Test.YtjbjongahnocdaaBShuntOwn1
import Derived.RowKit
import Derived.Test.YtjbjongahnocdaaWWords
set_option linter.unusedVariables false
set_option linter.unusedSimpArgs false

namespace Go.Proofs.Ytjbjongahnocdaa.S
open Go.Proofs.Ytjbjongahnocdaa.Lib
open Go.Proofs.Ytjbjongahnocdaa.Defs
open Go.Maps (Keyed)
open Go.RowKit Go.Proofs.YtjbjongahnocdaaW.PrintWords Go.Proofs.YtjbjongahnocdaaW.PrintLast Go.Proofs.YtjbjongahnocdaaW.PrintMore
attribute [local go_sem] max2_int min2_int max_two min_two max_three min_three max_four min_four   -- for this text's walks alone
set_option linter.unusedVariables false
set_option linter.unusedSimpArgs false

/-! ### tickinglaw02_awake: function 22 -/
def tickinglaw02_awake.j0 : Nat → Bool → Option (Bool)
  | 0, _ => none
  | k + 1, x86 => if x86 = true then (some false) else (some true)
def tickinglaw02_awake.f (k : Nat)  : Option (Bool) := (shunt_Stack.f k (([2, 1, 3] : List Int))).bind fun bt135 => ((shunt_Stack.f k (([2, 3, 1] : List Int))).bind fun bt143 => ((shunt_Least.f k (([3, 2, 1] : List Int))).bind fun bt151 => ((shunt_Rank.f k (([3, 2, 1] : List Int))).bind fun bt156 => ((shunt_Pass.f (([2, 3, 1] : List Int))).bind fun bt161 => (if bt135.2.2 = 0 then (if bt135.1.toList = ([105, 105, 111, 111, 105, 111] : List UInt8) then (if (bt135.2.1.length : Int) = 0 then (if bt143.2.2 = 0 then ((tickinglaw02_ints.f k bt143.2.1 (([0, 1, 2] : List Int))).bind fun t168 => (if t168 = true then (if bt151.2 = 0 then (if bt151.1 = 3 then (if bt156.2 = 0 then (if bt156.1 = 4 then (if bt161.2 = 0 then ((tickinglaw02_ints.f k bt161.1 (([2, 1, 3] : List Int))).bind fun t172 => (tickinglaw02_awake.j0 k (!t172))) else (tickinglaw02_awake.j0 k true)) else (tickinglaw02_awake.j0 k true)) else (tickinglaw02_awake.j0 k true)) else (tickinglaw02_awake.j0 k true)) else (tickinglaw02_awake.j0 k true)) else (tickinglaw02_awake.j0 k true))) else (tickinglaw02_awake.j0 k true)) else (tickinglaw02_awake.j0 k true)) else (tickinglaw02_awake.j0 k true)) else (tickinglaw02_awake.j0 k true))))))
theorem tickinglaw02_awake.mono_l : ∀ k, (∀ y0, LeO (tickinglaw02_awake.j0 k y0) (tickinglaw02_awake.j0 (k + 1) y0))
  | 0 => fun _ r h => by simp [tickinglaw02_awake.j0] at h
  | k + 1 => by
    have ih0 := tickinglaw02_awake.mono_l k
    · intro y0
      unfold tickinglaw02_awake.j0
      repeat' first
      | (with_reducible exact ih0 _)
      | (with_reducible exact shunt_Least.mono _ _)
      | (with_reducible exact shunt_Rank.mono _ _)
      | (with_reducible exact shunt_Stack.mono _ _)
      | (with_reducible exact tickinglaw02_ints.mono _ _ _)
      | (with_reducible exact LeO.refl _)
      | (with_reducible exact LeO.none _)
      | (with_reducible refine LeO.ite ?_ ?_)
      | (with_reducible refine LeO.bind ?_ (fun _ => ?_))
      | exact ih0 _
      | exact shunt_Least.mono _ _
      | exact shunt_Rank.mono _ _
      | exact shunt_Stack.mono _ _
      | exact tickinglaw02_ints.mono _ _ _
      | exact LeO.none _
      | refine LeO.ite ?_ ?_
      | refine LeO.bind ?_ (fun _ => ?_)
theorem tickinglaw02_awake.mono : ∀ k, LeO (tickinglaw02_awake.f k ) (tickinglaw02_awake.f (k + 1) ) := by
  intro  k
  have ih0 := tickinglaw02_awake.mono_l k
  unfold tickinglaw02_awake.f
  repeat' first
      | (with_reducible exact ih0 _)
      | (with_reducible exact shunt_Least.mono _ _)
      | (with_reducible exact shunt_Rank.mono _ _)
      | (with_reducible exact shunt_Stack.mono _ _)
      | (with_reducible exact tickinglaw02_ints.mono _ _ _)
      | (with_reducible exact LeO.refl _)
      | (with_reducible exact LeO.none _)
      | (with_reducible refine LeO.ite ?_ ?_)
      | (with_reducible refine LeO.bind ?_ (fun _ => ?_))
      | exact ih0 _
      | exact shunt_Least.mono _ _
      | exact shunt_Rank.mono _ _
      | exact shunt_Stack.mono _ _
      | exact tickinglaw02_ints.mono _ _ _
      | exact LeO.none _
      | refine LeO.ite ?_ ?_
      | refine LeO.bind ?_ (fun _ => ?_)
set_option maxHeartbeats 8000000 in
set_option maxRecDepth 100000 in
theorem tickinglaw02_awake.calls (k : Nat)  (r : Bool) (w : World) (h : tickinglaw02_awake.f k  = some r) :
    Calls Try.prog 22 #[] w fun e w' => e = .returned (.bool r) ∧ Below w.heap.size w w' := by
  have HB := Aside0.mk (Below.refl w.heap.size w)
  have H : ((shunt_Stack.f k (([2, 1, 3] : List Int))).bind fun bt135 => ((shunt_Stack.f k (([2, 3, 1] : List Int))).bind fun bt143 => ((shunt_Least.f k (([3, 2, 1] : List Int))).bind fun bt151 => ((shunt_Rank.f k (([3, 2, 1] : List Int))).bind fun bt156 => ((shunt_Pass.f (([2, 3, 1] : List Int))).bind fun bt161 => (if bt135.2.2 = 0 then (if bt135.1.toList = ([105, 105, 111, 111, 105, 111] : List UInt8) then (if (bt135.2.1.length : Int) = 0 then (if bt143.2.2 = 0 then ((tickinglaw02_ints.f k bt143.2.1 (([0, 1, 2] : List Int))).bind fun t168 => (if t168 = true then (if bt151.2 = 0 then (if bt151.1 = 3 then (if bt156.2 = 0 then (if bt156.1 = 4 then (if bt161.2 = 0 then ((tickinglaw02_ints.f k bt161.1 (([2, 1, 3] : List Int))).bind fun t172 => (tickinglaw02_awake.j0 k (!t172))) else (tickinglaw02_awake.j0 k true)) else (tickinglaw02_awake.j0 k true)) else (tickinglaw02_awake.j0 k true)) else (tickinglaw02_awake.j0 k true)) else (tickinglaw02_awake.j0 k true)) else (tickinglaw02_awake.j0 k true))) else (tickinglaw02_awake.j0 k true)) else (tickinglaw02_awake.j0 k true)) else (tickinglaw02_awake.j0 k true)) else (tickinglaw02_awake.j0 k true))))))) = some r := h
  clear h
  obtain ⟨y132, hy132⟩ : ∃ y_ : List Int, y_ = (([2, 1, 3] : List Int)) := ⟨_, rfl⟩
  replace H : ((shunt_Stack.f k y132).bind fun bt135 => ((shunt_Stack.f k (([2, 3, 1] : List Int))).bind fun bt143 => ((shunt_Least.f k (([3, 2, 1] : List Int))).bind fun bt151 => ((shunt_Rank.f k (([3, 2, 1] : List Int))).bind fun bt156 => ((shunt_Pass.f (([2, 3, 1] : List Int))).bind fun bt161 => (if bt135.2.2 = 0 then (if bt135.1.toList = ([105, 105, 111, 111, 105, 111] : List UInt8) then (if (bt135.2.1.length : Int) = 0 then (if bt143.2.2 = 0 then ((tickinglaw02_ints.f k bt143.2.1 (([0, 1, 2] : List Int))).bind fun t168 => (if t168 = true then (if bt151.2 = 0 then (if bt151.1 = 3 then (if bt156.2 = 0 then (if bt156.1 = 4 then (if bt161.2 = 0 then ((tickinglaw02_ints.f k bt161.1 (([2, 1, 3] : List Int))).bind fun t172 => (tickinglaw02_awake.j0 k (!t172))) else (tickinglaw02_awake.j0 k true)) else (tickinglaw02_awake.j0 k true)) else (tickinglaw02_awake.j0 k true)) else (tickinglaw02_awake.j0 k true)) else (tickinglaw02_awake.j0 k true)) else (tickinglaw02_awake.j0 k true))) else (tickinglaw02_awake.j0 k true)) else (tickinglaw02_awake.j0 k true)) else (tickinglaw02_awake.j0 k true)) else (tickinglaw02_awake.j0 k true))))))) = some r := by first | (rw [hy132]; with_reducible exact H) | (have H2_ := (Option.bind_some _ _).symm.trans H; rw [hy132]; with_reducible exact H2_) | (have H2_ := (Option.bind_some _ _).symm.trans H; with_reducible exact H2_) | with_reducible exact H | (rw [hy132]; exact H) | exact H
  have Ny132 := Aside0.mk hy132
  clear hy132
  replace H := Option.bind_eq_some_iff.mp H
  obtain ⟨⟨t135, t136, t137⟩, A10, H⟩ := H
  replace H : ((shunt_Stack.f k (([2, 3, 1] : List Int))).bind fun bt143 => ((shunt_Least.f k (([3, 2, 1] : List Int))).bind fun bt151 => ((shunt_Rank.f k (([3, 2, 1] : List Int))).bind fun bt156 => ((shunt_Pass.f (([2, 3, 1] : List Int))).bind fun bt161 => (if t137 = 0 then (if t135.toList = ([105, 105, 111, 111, 105, 111] : List UInt8) then (if (t136.length : Int) = 0 then (if bt143.2.2 = 0 then ((tickinglaw02_ints.f k bt143.2.1 (([0, 1, 2] : List Int))).bind fun t168 => (if t168 = true then (if bt151.2 = 0 then (if bt151.1 = 3 then (if bt156.2 = 0 then (if bt156.1 = 4 then (if bt161.2 = 0 then ((tickinglaw02_ints.f k bt161.1 (([2, 1, 3] : List Int))).bind fun t172 => (tickinglaw02_awake.j0 k (!t172))) else (tickinglaw02_awake.j0 k true)) else (tickinglaw02_awake.j0 k true)) else (tickinglaw02_awake.j0 k true)) else (tickinglaw02_awake.j0 k true)) else (tickinglaw02_awake.j0 k true)) else (tickinglaw02_awake.j0 k true))) else (tickinglaw02_awake.j0 k true)) else (tickinglaw02_awake.j0 k true)) else (tickinglaw02_awake.j0 k true)) else (tickinglaw02_awake.j0 k true)))))) = some r := H
  have A1 := Aside0.mk A10
  clear A10
  obtain ⟨y140, hy140⟩ : ∃ y_ : List Int, y_ = (([2, 3, 1] : List Int)) := ⟨_, rfl⟩
  replace H : ((shunt_Stack.f k y140).bind fun bt143 => ((shunt_Least.f k (([3, 2, 1] : List Int))).bind fun bt151 => ((shunt_Rank.f k (([3, 2, 1] : List Int))).bind fun bt156 => ((shunt_Pass.f (([2, 3, 1] : List Int))).bind fun bt161 => (if t137 = 0 then (if t135.toList = ([105, 105, 111, 111, 105, 111] : List UInt8) then (if (t136.length : Int) = 0 then (if bt143.2.2 = 0 then ((tickinglaw02_ints.f k bt143.2.1 (([0, 1, 2] : List Int))).bind fun t168 => (if t168 = true then (if bt151.2 = 0 then (if bt151.1 = 3 then (if bt156.2 = 0 then (if bt156.1 = 4 then (if bt161.2 = 0 then ((tickinglaw02_ints.f k bt161.1 (([2, 1, 3] : List Int))).bind fun t172 => (tickinglaw02_awake.j0 k (!t172))) else (tickinglaw02_awake.j0 k true)) else (tickinglaw02_awake.j0 k true)) else (tickinglaw02_awake.j0 k true)) else (tickinglaw02_awake.j0 k true)) else (tickinglaw02_awake.j0 k true)) else (tickinglaw02_awake.j0 k true))) else (tickinglaw02_awake.j0 k true)) else (tickinglaw02_awake.j0 k true)) else (tickinglaw02_awake.j0 k true)) else (tickinglaw02_awake.j0 k true)))))) = some r := by first | (rw [hy140]; with_reducible exact H) | (have H2_ := (Option.bind_some _ _).symm.trans H; rw [hy140]; with_reducible exact H2_) | (have H2_ := (Option.bind_some _ _).symm.trans H; with_reducible exact H2_) | with_reducible exact H | (rw [hy140]; exact H) | exact H
  have Ny140 := Aside0.mk hy140
  clear hy140
  replace H := Option.bind_eq_some_iff.mp H
  obtain ⟨⟨t143, t144, t145⟩, A20, H⟩ := H
  replace H : ((shunt_Least.f k (([3, 2, 1] : List Int))).bind fun bt151 => ((shunt_Rank.f k (([3, 2, 1] : List Int))).bind fun bt156 => ((shunt_Pass.f (([2, 3, 1] : List Int))).bind fun bt161 => (if t137 = 0 then (if t135.toList = ([105, 105, 111, 111, 105, 111] : List UInt8) then (if (t136.length : Int) = 0 then (if t145 = 0 then ((tickinglaw02_ints.f k t144 (([0, 1, 2] : List Int))).bind fun t168 => (if t168 = true then (if bt151.2 = 0 then (if bt151.1 = 3 then (if bt156.2 = 0 then (if bt156.1 = 4 then (if bt161.2 = 0 then ((tickinglaw02_ints.f k bt161.1 (([2, 1, 3] : List Int))).bind fun t172 => (tickinglaw02_awake.j0 k (!t172))) else (tickinglaw02_awake.j0 k true)) else (tickinglaw02_awake.j0 k true)) else (tickinglaw02_awake.j0 k true)) else (tickinglaw02_awake.j0 k true)) else (tickinglaw02_awake.j0 k true)) else (tickinglaw02_awake.j0 k true))) else (tickinglaw02_awake.j0 k true)) else (tickinglaw02_awake.j0 k true)) else (tickinglaw02_awake.j0 k true)) else (tickinglaw02_awake.j0 k true))))) = some r := H
  have A2 := Aside0.mk A20
  clear A20
  obtain ⟨y148, hy148⟩ : ∃ y_ : List Int, y_ = (([3, 2, 1] : List Int)) := ⟨_, rfl⟩
  replace H : ((shunt_Least.f k y148).bind fun bt151 => ((shunt_Rank.f k (([3, 2, 1] : List Int))).bind fun bt156 => ((shunt_Pass.f (([2, 3, 1] : List Int))).bind fun bt161 => (if t137 = 0 then (if t135.toList = ([105, 105, 111, 111, 105, 111] : List UInt8) then (if (t136.length : Int) = 0 then (if t145 = 0 then ((tickinglaw02_ints.f k t144 (([0, 1, 2] : List Int))).bind fun t168 => (if t168 = true then (if bt151.2 = 0 then (if bt151.1 = 3 then (if bt156.2 = 0 then (if bt156.1 = 4 then (if bt161.2 = 0 then ((tickinglaw02_ints.f k bt161.1 (([2, 1, 3] : List Int))).bind fun t172 => (tickinglaw02_awake.j0 k (!t172))) else (tickinglaw02_awake.j0 k true)) else (tickinglaw02_awake.j0 k true)) else (tickinglaw02_awake.j0 k true)) else (tickinglaw02_awake.j0 k true)) else (tickinglaw02_awake.j0 k true)) else (tickinglaw02_awake.j0 k true))) else (tickinglaw02_awake.j0 k true)) else (tickinglaw02_awake.j0 k true)) else (tickinglaw02_awake.j0 k true)) else (tickinglaw02_awake.j0 k true))))) = some r := by first | (rw [hy148]; with_reducible exact H) | (have H2_ := (Option.bind_some _ _).symm.trans H; rw [hy148]; with_reducible exact H2_) | (have H2_ := (Option.bind_some _ _).symm.trans H; with_reducible exact H2_) | with_reducible exact H | (rw [hy148]; exact H) | exact H
  have Ny148 := Aside0.mk hy148
  clear hy148
  replace H := Option.bind_eq_some_iff.mp H
  obtain ⟨⟨t151, t152⟩, A30, H⟩ := H
  replace H : ((shunt_Rank.f k (([3, 2, 1] : List Int))).bind fun bt156 => ((shunt_Pass.f (([2, 3, 1] : List Int))).bind fun bt161 => (if t137 = 0 then (if t135.toList = ([105, 105, 111, 111, 105, 111] : List UInt8) then (if (t136.length : Int) = 0 then (if t145 = 0 then ((tickinglaw02_ints.f k t144 (([0, 1, 2] : List Int))).bind fun t168 => (if t168 = true then (if t152 = 0 then (if t151 = 3 then (if bt156.2 = 0 then (if bt156.1 = 4 then (if bt161.2 = 0 then ((tickinglaw02_ints.f k bt161.1 (([2, 1, 3] : List Int))).bind fun t172 => (tickinglaw02_awake.j0 k (!t172))) else (tickinglaw02_awake.j0 k true)) else (tickinglaw02_awake.j0 k true)) else (tickinglaw02_awake.j0 k true)) else (tickinglaw02_awake.j0 k true)) else (tickinglaw02_awake.j0 k true)) else (tickinglaw02_awake.j0 k true))) else (tickinglaw02_awake.j0 k true)) else (tickinglaw02_awake.j0 k true)) else (tickinglaw02_awake.j0 k true)) else (tickinglaw02_awake.j0 k true)))) = some r := H
  have A3 := Aside0.mk A30
  clear A30
  obtain ⟨y153, hy153⟩ : ∃ y_ : List Int, y_ = (([3, 2, 1] : List Int)) := ⟨_, rfl⟩
  replace H : ((shunt_Rank.f k y153).bind fun bt156 => ((shunt_Pass.f (([2, 3, 1] : List Int))).bind fun bt161 => (if t137 = 0 then (if t135.toList = ([105, 105, 111, 111, 105, 111] : List UInt8) then (if (t136.length : Int) = 0 then (if t145 = 0 then ((tickinglaw02_ints.f k t144 (([0, 1, 2] : List Int))).bind fun t168 => (if t168 = true then (if t152 = 0 then (if t151 = 3 then (if bt156.2 = 0 then (if bt156.1 = 4 then (if bt161.2 = 0 then ((tickinglaw02_ints.f k bt161.1 (([2, 1, 3] : List Int))).bind fun t172 => (tickinglaw02_awake.j0 k (!t172))) else (tickinglaw02_awake.j0 k true)) else (tickinglaw02_awake.j0 k true)) else (tickinglaw02_awake.j0 k true)) else (tickinglaw02_awake.j0 k true)) else (tickinglaw02_awake.j0 k true)) else (tickinglaw02_awake.j0 k true))) else (tickinglaw02_awake.j0 k true)) else (tickinglaw02_awake.j0 k true)) else (tickinglaw02_awake.j0 k true)) else (tickinglaw02_awake.j0 k true)))) = some r := by first | (rw [hy153]; with_reducible exact H) | (have H2_ := (Option.bind_some _ _).symm.trans H; rw [hy153]; with_reducible exact H2_) | (have H2_ := (Option.bind_some _ _).symm.trans H; with_reducible exact H2_) | with_reducible exact H | (rw [hy153]; exact H) | exact H
  have Ny153 := Aside0.mk hy153
  clear hy153
  replace H := Option.bind_eq_some_iff.mp H
  obtain ⟨⟨t156, t157⟩, A40, H⟩ := H
  replace H : ((shunt_Pass.f (([2, 3, 1] : List Int))).bind fun bt161 => (if t137 = 0 then (if t135.toList = ([105, 105, 111, 111, 105, 111] : List UInt8) then (if (t136.length : Int) = 0 then (if t145 = 0 then ((tickinglaw02_ints.f k t144 (([0, 1, 2] : List Int))).bind fun t168 => (if t168 = true then (if t152 = 0 then (if t151 = 3 then (if t157 = 0 then (if t156 = 4 then (if bt161.2 = 0 then ((tickinglaw02_ints.f k bt161.1 (([2, 1, 3] : List Int))).bind fun t172 => (tickinglaw02_awake.j0 k (!t172))) else (tickinglaw02_awake.j0 k true)) else (tickinglaw02_awake.j0 k true)) else (tickinglaw02_awake.j0 k true)) else (tickinglaw02_awake.j0 k true)) else (tickinglaw02_awake.j0 k true)) else (tickinglaw02_awake.j0 k true))) else (tickinglaw02_awake.j0 k true)) else (tickinglaw02_awake.j0 k true)) else (tickinglaw02_awake.j0 k true)) else (tickinglaw02_awake.j0 k true))) = some r := H
  have A4 := Aside0.mk A40
  clear A40
  obtain ⟨y158, hy158⟩ : ∃ y_ : List Int, y_ = (([2, 3, 1] : List Int)) := ⟨_, rfl⟩
  replace H : ((shunt_Pass.f y158).bind fun bt161 => (if t137 = 0 then (if t135.toList = ([105, 105, 111, 111, 105, 111] : List UInt8) then (if (t136.length : Int) = 0 then (if t145 = 0 then ((tickinglaw02_ints.f k t144 (([0, 1, 2] : List Int))).bind fun t168 => (if t168 = true then (if t152 = 0 then (if t151 = 3 then (if t157 = 0 then (if t156 = 4 then (if bt161.2 = 0 then ((tickinglaw02_ints.f k bt161.1 (([2, 1, 3] : List Int))).bind fun t172 => (tickinglaw02_awake.j0 k (!t172))) else (tickinglaw02_awake.j0 k true)) else (tickinglaw02_awake.j0 k true)) else (tickinglaw02_awake.j0 k true)) else (tickinglaw02_awake.j0 k true)) else (tickinglaw02_awake.j0 k true)) else (tickinglaw02_awake.j0 k true))) else (tickinglaw02_awake.j0 k true)) else (tickinglaw02_awake.j0 k true)) else (tickinglaw02_awake.j0 k true)) else (tickinglaw02_awake.j0 k true))) = some r := by first | (rw [hy158]; with_reducible exact H) | (have H2_ := (Option.bind_some _ _).symm.trans H; rw [hy158]; with_reducible exact H2_) | (have H2_ := (Option.bind_some _ _).symm.trans H; with_reducible exact H2_) | with_reducible exact H | (rw [hy158]; exact H) | exact H
  have Ny158 := Aside0.mk hy158
  clear hy158
  replace H := Option.bind_eq_some_iff.mp H
  obtain ⟨⟨t161, t162⟩, A50, H⟩ := H
  replace H : (if t137 = 0 then (if t135.toList = ([105, 105, 111, 111, 105, 111] : List UInt8) then (if (t136.length : Int) = 0 then (if t145 = 0 then ((tickinglaw02_ints.f k t144 (([0, 1, 2] : List Int))).bind fun t168 => (if t168 = true then (if t152 = 0 then (if t151 = 3 then (if t157 = 0 then (if t156 = 4 then (if t162 = 0 then ((tickinglaw02_ints.f k t161 (([2, 1, 3] : List Int))).bind fun t172 => (tickinglaw02_awake.j0 k (!t172))) else (tickinglaw02_awake.j0 k true)) else (tickinglaw02_awake.j0 k true)) else (tickinglaw02_awake.j0 k true)) else (tickinglaw02_awake.j0 k true)) else (tickinglaw02_awake.j0 k true)) else (tickinglaw02_awake.j0 k true))) else (tickinglaw02_awake.j0 k true)) else (tickinglaw02_awake.j0 k true)) else (tickinglaw02_awake.j0 k true)) else (tickinglaw02_awake.j0 k true)) = some r := H
  have A5 := Aside0.mk A50
  clear A50
  have HC6 := Aside0.mk H
  clear H
  go_enter Try.func22, Try.ntmps22
  go_upto_region 6 with (first | ((with_reducible refine gate_dst (N := 14) rfl ?_); (try (refine gate_guard (by rfl) ?_; dsimp only)); refine Kd.R_lit (Kd.int .i64) _ 3 ?hg (N := 14) ?hd (xs := ([2, 1, 3] : List Int)) (inner := [.int .i64 2, .int .i64 1, .int .i64 3]) (ok := fun _ => True) (okp := fun _ => True) ?hr ?hp (fun _ hk => hk) trivial (Below.refl _ _) (Nat.le_refl _) (by simp) ?_; (case hd => rfl); (case hg => rfl); (case hr => first | (go_simp; done) | (go_simp; rfl)); (case hp => exact (Reps.one (show Kd.M (Kd.int .i64) _ _ _ 2 [.int .i64 2] from rfl) (Reps.one (show Kd.M (Kd.int .i64) _ _ _ 1 [.int .i64 1] from rfl) (Reps.one (show Kd.M (Kd.int .i64) _ _ _ 3 [.int .i64 3] from rfl) (Reps.none _ _))))); intro v133 w7 ho8 hb hg_ hnew_; clear hg_ hnew_; (first | rw [← Ny132.out] at ho8 | (simp only [Int.reduceToNat] at ho8; rw [← Ny132.out] at ho8)); have n0_ := Aside0.mk (Kd.R_lower ho8 (below_size (by repeat (first | (with_reducible first | exact HB.out | apply below_alloc | apply pw_below_drewN | apply below_drew1) | exact HB.out)))); have n1_ := Aside0.mk (below_step (by repeat (first | (with_reducible first | exact HB.out | apply below_alloc | apply pw_below_drewN | apply below_drew1) | exact HB.out)) hb); clear HB; have HO134 := n0_; have HB := n1_; clear n0_ n1_; clear hb ho8; obtain ⟨Ao9, co9, eo9⟩ := Kd.R_slice HO134.out; subst eo9) | ((with_reducible refine gate_callee (f := 28) rfl ?_); refine goesL_ (some 15) rfl rfl Try.func28 (by kernel_rfl) rfl #[.slice Ao9 y132.length co9] rfl (by (try simp only [List.map_toArray, List.map_cons, List.map_nil]); first | done | rfl | (simp only [List.length_drop, List.length_take]; rfl)) ?_; (with_reducible refine (shunt_Stack.calls k _ _ y132 t135 t136 t137 _ ?side1 ?side2 A1.out).mono ?_); (case side1 => repeat (first | exact (Kd.R_reads' HO134.out).2.2 | (with_reducible refine Kd.C_alloc ?_ _) | (with_reducible refine Kd.C_drewN ?_ _) | (with_reducible refine Kd.C_drew ?_))); (case side2 => exact (Kd.R_reads' HO134.out).2.1); rintro e w10 ⟨v138, rfl, ho0, hb⟩; refine ⟨_, rfl, ?_⟩; have n0_ := Aside0.mk (Kd.R_elder' (by (with_reducible repeat (first | apply Kd.R_alloc | apply Kd.R_drewN | apply Kd.R_drew)); exact HO134.out) (Kd.R_base ho0) hb); have n1_ := Aside0.mk (Kd.R_lower (Kd.R_new' ho0 (Kd.R_lt (by (with_reducible repeat (first | apply Kd.R_alloc | apply Kd.R_drewN | apply Kd.R_drew)); exact HO134.out))) (below_size (by repeat (first | (with_reducible first | exact HB.out | apply below_alloc | apply pw_below_drewN | apply below_drew1) | exact HB.out)))); have n2_ := Aside0.mk (below_step (by repeat (first | (with_reducible first | exact HB.out | apply below_alloc | apply pw_below_drewN | apply below_drew1) | exact HB.out)) hb); clear HO134; clear HB; have HO134 := n0_; have HO139 := n1_; have HB := n2_; clear n0_ n1_ n2_; (try clear hb); (try clear hb2); (try clear hk); (try clear hi); (try clear ho0)) | ((with_reducible refine gate_dst (N := 20) rfl ?_); (try (refine gate_guard (by rfl) ?_; dsimp only)); refine Kd.R_lit (Kd.int .i64) _ 3 ?hg (N := 20) ?hd (xs := ([2, 3, 1] : List Int)) (inner := [.int .i64 2, .int .i64 3, .int .i64 1]) (ok := fun _ => True) (okp := fun _ => True) ?hr ?hp (fun _ hk => hk) trivial (Below.refl _ _) (Nat.le_refl _) (by simp) ?_; (case hd => rfl); (case hg => rfl); (case hr => first | (go_simp; done) | (go_simp; rfl)); (case hp => exact (Reps.one (show Kd.M (Kd.int .i64) _ _ _ 2 [.int .i64 2] from rfl) (Reps.one (show Kd.M (Kd.int .i64) _ _ _ 3 [.int .i64 3] from rfl) (Reps.one (show Kd.M (Kd.int .i64) _ _ _ 1 [.int .i64 1] from rfl) (Reps.none _ _))))); intro v141 w11 ho12 hb hg_ hnew_; clear hg_ hnew_; (first | rw [← Ny140.out] at ho12 | (simp only [Int.reduceToNat] at ho12; rw [← Ny140.out] at ho12)); have n0_ := Aside0.mk (Kd.R_elder' (by (with_reducible repeat (first | apply Kd.R_alloc | apply Kd.R_drewN | apply Kd.R_drew)); exact HO134.out) (Kd.R_base ho12) hb); have n1_ := Aside0.mk (Kd.R_elder' (by (with_reducible repeat (first | apply Kd.R_alloc | apply Kd.R_drewN | apply Kd.R_drew)); exact HO139.out) (Kd.R_base ho12) hb); have n2_ := Aside0.mk (Kd.R_lower (Kd.R_new' (Kd.R_new' ho12 (Kd.R_lt (by (with_reducible repeat (first | apply Kd.R_alloc | apply Kd.R_drewN | apply Kd.R_drew)); exact HO134.out))) (Kd.R_lt (by (with_reducible repeat (first | apply Kd.R_alloc | apply Kd.R_drewN | apply Kd.R_drew)); exact HO139.out))) (below_size (by repeat (first | (with_reducible first | exact HB.out | apply below_alloc | apply pw_below_drewN | apply below_drew1) | exact HB.out)))); have n3_ := Aside0.mk (below_step (by repeat (first | (with_reducible first | exact HB.out | apply below_alloc | apply pw_below_drewN | apply below_drew1) | exact HB.out)) hb); clear HO134; clear HO139; clear HB; have HO134 := n0_; have HO139 := n1_; have HO142 := n2_; have HB := n3_; clear n0_ n1_ n2_ n3_; clear hb ho12; obtain ⟨Ao13, co13, eo13⟩ := Kd.R_slice HO142.out; subst eo13) | ((with_reducible refine gate_callee (f := 28) rfl ?_); refine goesL_ (some 21) rfl rfl Try.func28 (by kernel_rfl) rfl #[.slice Ao13 y140.length co13] rfl (by (try simp only [List.map_toArray, List.map_cons, List.map_nil]); first | done | rfl | (simp only [List.length_drop, List.length_take]; rfl)) ?_; (with_reducible refine (shunt_Stack.calls k _ _ y140 t143 t144 t145 _ ?side1 ?side2 A2.out).mono ?_); (case side1 => repeat (first | exact (Kd.R_reads' HO142.out).2.2 | (with_reducible refine Kd.C_alloc ?_ _) | (with_reducible refine Kd.C_drewN ?_ _) | (with_reducible refine Kd.C_drew ?_))); (case side2 => exact (Kd.R_reads' HO142.out).2.1); rintro e w14 ⟨v146, rfl, ho0, hb⟩; refine ⟨_, rfl, ?_⟩; have n0_ := Aside0.mk (Kd.R_elder' (by (with_reducible repeat (first | apply Kd.R_alloc | apply Kd.R_drewN | apply Kd.R_drew)); exact HO134.out) (Kd.R_base ho0) hb); have n1_ := Aside0.mk (Kd.R_elder' (by (with_reducible repeat (first | apply Kd.R_alloc | apply Kd.R_drewN | apply Kd.R_drew)); exact HO139.out) (Kd.R_base ho0) hb); have n2_ := Aside0.mk (Kd.R_elder' (by (with_reducible repeat (first | apply Kd.R_alloc | apply Kd.R_drewN | apply Kd.R_drew)); exact HO142.out) (Kd.R_base ho0) hb); have n3_ := Aside0.mk (Kd.R_lower (Kd.R_new' (Kd.R_new' (Kd.R_new' ho0 (Kd.R_lt (by (with_reducible repeat (first | apply Kd.R_alloc | apply Kd.R_drewN | apply Kd.R_drew)); exact HO134.out))) (Kd.R_lt (by (with_reducible repeat (first | apply Kd.R_alloc | apply Kd.R_drewN | apply Kd.R_drew)); exact HO139.out))) (Kd.R_lt (by (with_reducible repeat (first | apply Kd.R_alloc | apply Kd.R_drewN | apply Kd.R_drew)); exact HO142.out))) (below_size (by repeat (first | (with_reducible first | exact HB.out | apply below_alloc | apply pw_below_drewN | apply below_drew1) | exact HB.out)))); have n4_ := Aside0.mk (below_step (by repeat (first | (with_reducible first | exact HB.out | apply below_alloc | apply pw_below_drewN | apply below_drew1) | exact HB.out)) hb); clear HO134; clear HO139; clear HO142; clear HB; have HO134 := n0_; have HO139 := n1_; have HO142 := n2_; have HO147 := n3_; have HB := n4_; clear n0_ n1_ n2_ n3_ n4_; (try clear hb); (try clear hb2); (try clear hk); (try clear hi); (try clear ho0)) | ((with_reducible refine gate_dst (N := 26) rfl ?_); (try (refine gate_guard (by rfl) ?_; dsimp only)); refine Kd.R_lit (Kd.int .i64) _ 3 ?hg (N := 26) ?hd (xs := ([3, 2, 1] : List Int)) (inner := [.int .i64 3, .int .i64 2, .int .i64 1]) (ok := fun _ => True) (okp := fun _ => True) ?hr ?hp (fun _ hk => hk) trivial (Below.refl _ _) (Nat.le_refl _) (by simp) ?_; (case hd => rfl); (case hg => rfl); (case hr => first | (go_simp; done) | (go_simp; rfl)); (case hp => exact (Reps.one (show Kd.M (Kd.int .i64) _ _ _ 3 [.int .i64 3] from rfl) (Reps.one (show Kd.M (Kd.int .i64) _ _ _ 2 [.int .i64 2] from rfl) (Reps.one (show Kd.M (Kd.int .i64) _ _ _ 1 [.int .i64 1] from rfl) (Reps.none _ _))))); intro v149 w15 ho16 hb hg_ hnew_; clear hg_ hnew_; (first | rw [← Ny148.out] at ho16 | (simp only [Int.reduceToNat] at ho16; rw [← Ny148.out] at ho16)); have n0_ := Aside0.mk (Kd.R_elder' (by (with_reducible repeat (first | apply Kd.R_alloc | apply Kd.R_drewN | apply Kd.R_drew)); exact HO134.out) (Kd.R_base ho16) hb); have n1_ := Aside0.mk (Kd.R_elder' (by (with_reducible repeat (first | apply Kd.R_alloc | apply Kd.R_drewN | apply Kd.R_drew)); exact HO139.out) (Kd.R_base ho16) hb); have n2_ := Aside0.mk (Kd.R_elder' (by (with_reducible repeat (first | apply Kd.R_alloc | apply Kd.R_drewN | apply Kd.R_drew)); exact HO142.out) (Kd.R_base ho16) hb); have n3_ := Aside0.mk (Kd.R_elder' (by (with_reducible repeat (first | apply Kd.R_alloc | apply Kd.R_drewN | apply Kd.R_drew)); exact HO147.out) (Kd.R_base ho16) hb); have n4_ := Aside0.mk (Kd.R_lower (Kd.R_new' (Kd.R_new' (Kd.R_new' (Kd.R_new' ho16 (Kd.R_lt (by (with_reducible repeat (first | apply Kd.R_alloc | apply Kd.R_drewN | apply Kd.R_drew)); exact HO134.out))) (Kd.R_lt (by (with_reducible repeat (first | apply Kd.R_alloc | apply Kd.R_drewN | apply Kd.R_drew)); exact HO139.out))) (Kd.R_lt (by (with_reducible repeat (first | apply Kd.R_alloc | apply Kd.R_drewN | apply Kd.R_drew)); exact HO142.out))) (Kd.R_lt (by (with_reducible repeat (first | apply Kd.R_alloc | apply Kd.R_drewN | apply Kd.R_drew)); exact HO147.out))) (below_size (by repeat (first | (with_reducible first | exact HB.out | apply below_alloc | apply pw_below_drewN | apply below_drew1) | exact HB.out)))); have n5_ := Aside0.mk (below_step (by repeat (first | (with_reducible first | exact HB.out | apply below_alloc | apply pw_below_drewN | apply below_drew1) | exact HB.out)) hb); clear HO134; clear HO139; clear HO142; clear HO147; clear HB; have HO134 := n0_; have HO139 := n1_; have HO142 := n2_; have HO147 := n3_; have HO150 := n4_; have HB := n5_; clear n0_ n1_ n2_ n3_ n4_ n5_; clear hb ho16; obtain ⟨Ao17, co17, eo17⟩ := Kd.R_slice HO150.out; subst eo17) | ((with_reducible refine gate_callee (f := 29) rfl ?_); refine goesL_ (some 27) rfl rfl Try.func29 (by kernel_rfl) rfl #[.slice Ao17 y148.length co17] rfl (by (try simp only [List.map_toArray, List.map_cons, List.map_nil]); first | done | rfl | (simp only [List.length_drop, List.length_take]; rfl)) ?_; (with_reducible refine (shunt_Least.calls k _ _ y148 t151 t152 _ ?side1 ?side2 A3.out).mono ?_); (case side1 => repeat (first | exact (Kd.R_reads' HO150.out).2.2 | (with_reducible refine Kd.C_alloc ?_ _) | (with_reducible refine Kd.C_drewN ?_ _) | (with_reducible refine Kd.C_drew ?_))); (case side2 => exact (Kd.R_reads' HO150.out).2.1); rintro e w18 ⟨rfl, hb⟩; refine ⟨_, rfl, ?_⟩; have n0_ := Aside0.mk (Kd.R_below (by (with_reducible repeat (first | apply Kd.R_alloc | apply Kd.R_drewN | apply Kd.R_drew)); exact HO134.out) hb); have n1_ := Aside0.mk (Kd.R_below (by (with_reducible repeat (first | apply Kd.R_alloc | apply Kd.R_drewN | apply Kd.R_drew)); exact HO139.out) hb); have n2_ := Aside0.mk (Kd.R_below (by (with_reducible repeat (first | apply Kd.R_alloc | apply Kd.R_drewN | apply Kd.R_drew)); exact HO142.out) hb); have n3_ := Aside0.mk (Kd.R_below (by (with_reducible repeat (first | apply Kd.R_alloc | apply Kd.R_drewN | apply Kd.R_drew)); exact HO147.out) hb); have n4_ := Aside0.mk (Kd.R_below (by (with_reducible repeat (first | apply Kd.R_alloc | apply Kd.R_drewN | apply Kd.R_drew)); exact HO150.out) hb); have n5_ := Aside0.mk (below_step (by repeat (first | (with_reducible first | exact HB.out | apply below_alloc | apply pw_below_drewN | apply below_drew1) | exact HB.out)) hb); clear HO134; clear HO139; clear HO142; clear HO147; clear HO150; clear HB; have HO134 := n0_; have HO139 := n1_; have HO142 := n2_; have HO147 := n3_; have HO150 := n4_; have HB := n5_; clear n0_ n1_ n2_ n3_ n4_ n5_; (try clear hb); (try clear hb2); (try clear hk); (try clear hi)) | ((with_reducible refine gate_dst (N := 31) rfl ?_); (try (refine gate_guard (by rfl) ?_; dsimp only)); refine Kd.R_lit (Kd.int .i64) _ 3 ?hg (N := 31) ?hd (xs := ([3, 2, 1] : List Int)) (inner := [.int .i64 3, .int .i64 2, .int .i64 1]) (ok := fun _ => True) (okp := fun _ => True) ?hr ?hp (fun _ hk => hk) trivial (Below.refl _ _) (Nat.le_refl _) (by simp) ?_; (case hd => rfl); (case hg => rfl); (case hr => first | (go_simp; done) | (go_simp; rfl)); (case hp => exact (Reps.one (show Kd.M (Kd.int .i64) _ _ _ 3 [.int .i64 3] from rfl) (Reps.one (show Kd.M (Kd.int .i64) _ _ _ 2 [.int .i64 2] from rfl) (Reps.one (show Kd.M (Kd.int .i64) _ _ _ 1 [.int .i64 1] from rfl) (Reps.none _ _))))); intro v154 w19 ho20 hb hg_ hnew_; clear hg_ hnew_; (first | rw [← Ny153.out] at ho20 | (simp only [Int.reduceToNat] at ho20; rw [← Ny153.out] at ho20)); have n0_ := Aside0.mk (Kd.R_elder' (by (with_reducible repeat (first | apply Kd.R_alloc | apply Kd.R_drewN | apply Kd.R_drew)); exact HO134.out) (Kd.R_base ho20) hb); have n1_ := Aside0.mk (Kd.R_elder' (by (with_reducible repeat (first | apply Kd.R_alloc | apply Kd.R_drewN | apply Kd.R_drew)); exact HO139.out) (Kd.R_base ho20) hb); have n2_ := Aside0.mk (Kd.R_elder' (by (with_reducible repeat (first | apply Kd.R_alloc | apply Kd.R_drewN | apply Kd.R_drew)); exact HO142.out) (Kd.R_base ho20) hb); have n3_ := Aside0.mk (Kd.R_elder' (by (with_reducible repeat (first | apply Kd.R_alloc | apply Kd.R_drewN | apply Kd.R_drew)); exact HO147.out) (Kd.R_base ho20) hb); have n4_ := Aside0.mk (Kd.R_elder' (by (with_reducible repeat (first | apply Kd.R_alloc | apply Kd.R_drewN | apply Kd.R_drew)); exact HO150.out) (Kd.R_base ho20) hb); have n5_ := Aside0.mk (Kd.R_lower (Kd.R_new' (Kd.R_new' (Kd.R_new' (Kd.R_new' (Kd.R_new' ho20 (Kd.R_lt (by (with_reducible repeat (first | apply Kd.R_alloc | apply Kd.R_drewN | apply Kd.R_drew)); exact HO134.out))) (Kd.R_lt (by (with_reducible repeat (first | apply Kd.R_alloc | apply Kd.R_drewN | apply Kd.R_drew)); exact HO139.out))) (Kd.R_lt (by (with_reducible repeat (first | apply Kd.R_alloc | apply Kd.R_drewN | apply Kd.R_drew)); exact HO142.out))) (Kd.R_lt (by (with_reducible repeat (first | apply Kd.R_alloc | apply Kd.R_drewN | apply Kd.R_drew)); exact HO147.out))) (Kd.R_lt (by (with_reducible repeat (first | apply Kd.R_alloc | apply Kd.R_drewN | apply Kd.R_drew)); exact HO150.out))) (below_size (by repeat (first | (with_reducible first | exact HB.out | apply below_alloc | apply pw_below_drewN | apply below_drew1) | exact HB.out)))); have n6_ := Aside0.mk (below_step (by repeat (first | (with_reducible first | exact HB.out | apply below_alloc | apply pw_below_drewN | apply below_drew1) | exact HB.out)) hb); clear HO134; clear HO139; clear HO142; clear HO147; clear HO150; clear HB; have HO134 := n0_; have HO139 := n1_; have HO142 := n2_; have HO147 := n3_; have HO150 := n4_; have HO155 := n5_; have HB := n6_; clear n0_ n1_ n2_ n3_ n4_ n5_ n6_; clear hb ho20; obtain ⟨Ao21, co21, eo21⟩ := Kd.R_slice HO155.out; subst eo21) | ((with_reducible refine gate_callee (f := 19) rfl ?_); refine goesL_ (some 32) rfl rfl Try.func19 (by kernel_rfl) rfl #[.slice Ao21 y153.length co21] rfl (by (try simp only [List.map_toArray, List.map_cons, List.map_nil]); first | done | rfl | (simp only [List.length_drop, List.length_take]; rfl)) ?_; (with_reducible refine (shunt_Rank.calls k _ _ y153 t156 t157 _ ?side1 ?side2 A4.out).mono ?_); (case side1 => repeat (first | exact (Kd.R_reads' HO155.out).2.2 | (with_reducible refine Kd.C_alloc ?_ _) | (with_reducible refine Kd.C_drewN ?_ _) | (with_reducible refine Kd.C_drew ?_))); (case side2 => exact (Kd.R_reads' HO155.out).2.1); rintro e w22 ⟨rfl, hb⟩; refine ⟨_, rfl, ?_⟩; have n0_ := Aside0.mk (Kd.R_below (by (with_reducible repeat (first | apply Kd.R_alloc | apply Kd.R_drewN | apply Kd.R_drew)); exact HO134.out) hb); have n1_ := Aside0.mk (Kd.R_below (by (with_reducible repeat (first | apply Kd.R_alloc | apply Kd.R_drewN | apply Kd.R_drew)); exact HO139.out) hb); have n2_ := Aside0.mk (Kd.R_below (by (with_reducible repeat (first | apply Kd.R_alloc | apply Kd.R_drewN | apply Kd.R_drew)); exact HO142.out) hb); have n3_ := Aside0.mk (Kd.R_below (by (with_reducible repeat (first | apply Kd.R_alloc | apply Kd.R_drewN | apply Kd.R_drew)); exact HO147.out) hb); have n4_ := Aside0.mk (Kd.R_below (by (with_reducible repeat (first | apply Kd.R_alloc | apply Kd.R_drewN | apply Kd.R_drew)); exact HO150.out) hb); have n5_ := Aside0.mk (Kd.R_below (by (with_reducible repeat (first | apply Kd.R_alloc | apply Kd.R_drewN | apply Kd.R_drew)); exact HO155.out) hb); have n6_ := Aside0.mk (below_step (by repeat (first | (with_reducible first | exact HB.out | apply below_alloc | apply pw_below_drewN | apply below_drew1) | exact HB.out)) hb); clear HO134; clear HO139; clear HO142; clear HO147; clear HO150; clear HO155; clear HB; have HO134 := n0_; have HO139 := n1_; have HO142 := n2_; have HO147 := n3_; have HO150 := n4_; have HO155 := n5_; have HB := n6_; clear n0_ n1_ n2_ n3_ n4_ n5_ n6_; (try clear hb); (try clear hb2); (try clear hk); (try clear hi)) | ((with_reducible refine gate_dst (N := 36) rfl ?_); (try (refine gate_guard (by rfl) ?_; dsimp only)); refine Kd.R_lit (Kd.int .i64) _ 3 ?hg (N := 36) ?hd (xs := ([2, 3, 1] : List Int)) (inner := [.int .i64 2, .int .i64 3, .int .i64 1]) (ok := fun _ => True) (okp := fun _ => True) ?hr ?hp (fun _ hk => hk) trivial (Below.refl _ _) (Nat.le_refl _) (by simp) ?_; (case hd => rfl); (case hg => rfl); (case hr => first | (go_simp; done) | (go_simp; rfl)); (case hp => exact (Reps.one (show Kd.M (Kd.int .i64) _ _ _ 2 [.int .i64 2] from rfl) (Reps.one (show Kd.M (Kd.int .i64) _ _ _ 3 [.int .i64 3] from rfl) (Reps.one (show Kd.M (Kd.int .i64) _ _ _ 1 [.int .i64 1] from rfl) (Reps.none _ _))))); intro v159 w23 ho24 hb hg_ hnew_; clear hg_ hnew_; (first | rw [← Ny158.out] at ho24 | (simp only [Int.reduceToNat] at ho24; rw [← Ny158.out] at ho24)); have n0_ := Aside0.mk (Kd.R_elder' (by (with_reducible repeat (first | apply Kd.R_alloc | apply Kd.R_drewN | apply Kd.R_drew)); exact HO134.out) (Kd.R_base ho24) hb); have n1_ := Aside0.mk (Kd.R_elder' (by (with_reducible repeat (first | apply Kd.R_alloc | apply Kd.R_drewN | apply Kd.R_drew)); exact HO139.out) (Kd.R_base ho24) hb); have n2_ := Aside0.mk (Kd.R_elder' (by (with_reducible repeat (first | apply Kd.R_alloc | apply Kd.R_drewN | apply Kd.R_drew)); exact HO142.out) (Kd.R_base ho24) hb); have n3_ := Aside0.mk (Kd.R_elder' (by (with_reducible repeat (first | apply Kd.R_alloc | apply Kd.R_drewN | apply Kd.R_drew)); exact HO147.out) (Kd.R_base ho24) hb); have n4_ := Aside0.mk (Kd.R_elder' (by (with_reducible repeat (first | apply Kd.R_alloc | apply Kd.R_drewN | apply Kd.R_drew)); exact HO150.out) (Kd.R_base ho24) hb); have n5_ := Aside0.mk (Kd.R_elder' (by (with_reducible repeat (first | apply Kd.R_alloc | apply Kd.R_drewN | apply Kd.R_drew)); exact HO155.out) (Kd.R_base ho24) hb); have n6_ := Aside0.mk (Kd.R_lower (Kd.R_new' (Kd.R_new' (Kd.R_new' (Kd.R_new' (Kd.R_new' (Kd.R_new' ho24 (Kd.R_lt (by (with_reducible repeat (first | apply Kd.R_alloc | apply Kd.R_drewN | apply Kd.R_drew)); exact HO134.out))) (Kd.R_lt (by (with_reducible repeat (first | apply Kd.R_alloc | apply Kd.R_drewN | apply Kd.R_drew)); exact HO139.out))) (Kd.R_lt (by (with_reducible repeat (first | apply Kd.R_alloc | apply Kd.R_drewN | apply Kd.R_drew)); exact HO142.out))) (Kd.R_lt (by (with_reducible repeat (first | apply Kd.R_alloc | apply Kd.R_drewN | apply Kd.R_drew)); exact HO147.out))) (Kd.R_lt (by (with_reducible repeat (first | apply Kd.R_alloc | apply Kd.R_drewN | apply Kd.R_drew)); exact HO150.out))) (Kd.R_lt (by (with_reducible repeat (first | apply Kd.R_alloc | apply Kd.R_drewN | apply Kd.R_drew)); exact HO155.out))) (below_size (by repeat (first | (with_reducible first | exact HB.out | apply below_alloc | apply pw_below_drewN | apply below_drew1) | exact HB.out)))); have n7_ := Aside0.mk (below_step (by repeat (first | (with_reducible first | exact HB.out | apply below_alloc | apply pw_below_drewN | apply below_drew1) | exact HB.out)) hb); clear HO134; clear HO139; clear HO142; clear HO147; clear HO150; clear HO155; clear HB; have HO134 := n0_; have HO139 := n1_; have HO142 := n2_; have HO147 := n3_; have HO150 := n4_; have HO155 := n5_; have HO160 := n6_; have HB := n7_; clear n0_ n1_ n2_ n3_ n4_ n5_ n6_ n7_; clear hb ho24; obtain ⟨Ao25, co25, eo25⟩ := Kd.R_slice HO160.out; subst eo25) | ((with_reducible refine gate_callee (f := 20) rfl ?_); refine goesL_ (some 37) rfl rfl Try.func20 (by kernel_rfl) rfl #[.slice Ao25 y158.length co25] rfl (by (try simp only [List.map_toArray, List.map_cons, List.map_nil]); first | done | rfl | (simp only [List.length_drop, List.length_take]; rfl)) ?_; (with_reducible refine (shunt_Pass.calls _ _ y158 t161 t162 _ ?side1 ?side2 A5.out).mono ?_); (case side1 => repeat (first | exact (Kd.R_reads' HO160.out).2.2 | (with_reducible refine Kd.C_alloc ?_ _) | (with_reducible refine Kd.C_drewN ?_ _) | (with_reducible refine Kd.C_drew ?_))); (case side2 => exact (Kd.R_reads' HO160.out).2.1); rintro e w26 ⟨v163, rfl, ho0, hb⟩; refine ⟨_, rfl, ?_⟩; have n0_ := Aside0.mk (Kd.R_elder' (by (with_reducible repeat (first | apply Kd.R_alloc | apply Kd.R_drewN | apply Kd.R_drew)); exact HO134.out) (Kd.R_base ho0) hb); have n1_ := Aside0.mk (Kd.R_elder' (by (with_reducible repeat (first | apply Kd.R_alloc | apply Kd.R_drewN | apply Kd.R_drew)); exact HO139.out) (Kd.R_base ho0) hb); have n2_ := Aside0.mk (Kd.R_elder' (by (with_reducible repeat (first | apply Kd.R_alloc | apply Kd.R_drewN | apply Kd.R_drew)); exact HO142.out) (Kd.R_base ho0) hb); have n3_ := Aside0.mk (Kd.R_elder' (by (with_reducible repeat (first | apply Kd.R_alloc | apply Kd.R_drewN | apply Kd.R_drew)); exact HO147.out) (Kd.R_base ho0) hb); have n4_ := Aside0.mk (Kd.R_elder' (by (with_reducible repeat (first | apply Kd.R_alloc | apply Kd.R_drewN | apply Kd.R_drew)); exact HO150.out) (Kd.R_base ho0) hb); have n5_ := Aside0.mk (Kd.R_elder' (by (with_reducible repeat (first | apply Kd.R_alloc | apply Kd.R_drewN | apply Kd.R_drew)); exact HO155.out) (Kd.R_base ho0) hb); have n6_ := Aside0.mk (Kd.R_elder' (by (with_reducible repeat (first | apply Kd.R_alloc | apply Kd.R_drewN | apply Kd.R_drew)); exact HO160.out) (Kd.R_base ho0) hb); have n7_ := Aside0.mk (Kd.R_lower (Kd.R_new' (Kd.R_new' (Kd.R_new' (Kd.R_new' (Kd.R_new' (Kd.R_new' (Kd.R_new' ho0 (Kd.R_lt (by (with_reducible repeat (first | apply Kd.R_alloc | apply Kd.R_drewN | apply Kd.R_drew)); exact HO134.out))) (Kd.R_lt (by (with_reducible repeat (first | apply Kd.R_alloc | apply Kd.R_drewN | apply Kd.R_drew)); exact HO139.out))) (Kd.R_lt (by (with_reducible repeat (first | apply Kd.R_alloc | apply Kd.R_drewN | apply Kd.R_drew)); exact HO142.out))) (Kd.R_lt (by (with_reducible repeat (first | apply Kd.R_alloc | apply Kd.R_drewN | apply Kd.R_drew)); exact HO147.out))) (Kd.R_lt (by (with_reducible repeat (first | apply Kd.R_alloc | apply Kd.R_drewN | apply Kd.R_drew)); exact HO150.out))) (Kd.R_lt (by (with_reducible repeat (first | apply Kd.R_alloc | apply Kd.R_drewN | apply Kd.R_drew)); exact HO155.out))) (Kd.R_lt (by (with_reducible repeat (first | apply Kd.R_alloc | apply Kd.R_drewN | apply Kd.R_drew)); exact HO160.out))) (below_size (by repeat (first | (with_reducible first | exact HB.out | apply below_alloc | apply pw_below_drewN | apply below_drew1) | exact HB.out)))); have n8_ := Aside0.mk (below_step (by repeat (first | (with_reducible first | exact HB.out | apply below_alloc | apply pw_below_drewN | apply below_drew1) | exact HB.out)) hb); clear HO134; clear HO139; clear HO142; clear HO147; clear HO150; clear HO155; clear HO160; clear HB; have HO134 := n0_; have HO139 := n1_; have HO142 := n2_; have HO147 := n3_; have HO150 := n4_; have HO155 := n5_; have HO160 := n6_; have HO164 := n7_; have HB := n8_; clear n0_ n1_ n2_ n3_ n4_ n5_ n6_ n7_ n8_; (try clear hb); (try clear hb2); (try clear hk); (try clear hi); (try clear ho0)))
  (try simp only [Act.put, List.setIfInBounds_toArray, List.set_cons_zero, List.set_cons_succ])
  go_cut [86] (fun v86 wc => ∃ (kq : Nat) (x86_5 : Bool), v86 = .bool x86_5 ∧ Aside0 (tickinglaw02_awake.j0 kq x86_5 = some r) ∧ Aside0 (kq ≤ k) ∧ Aside0 (Below w.heap.size w wc))
  case first =>
    have H := HC6.out
    clear HC6
    by_cases c27 : t137 = 0
    · rw [if_pos c27] at H
      have c27b0 : (t137 == 0) = true := beq_iff_eq.mpr c27
      have c27b1 : (t137 != 0) = false := bne_eq_false_iff_eq.mpr c27
      clear c27
      (first | rw [c27b0] | (simp only [i64_w, i32_w]; rw [c27b0]) | skip)
      by_cases c28 : t135.toList = ([105, 105, 111, 111, 105, 111] : List UInt8)
      · rw [if_pos c28] at H
        have c28b0 : (t135.toList == ([105, 105, 111, 111, 105, 111] : List UInt8)) = true := beq_iff_eq.mpr c28
        have c28b1 : (t135.toList != ([105, 105, 111, 111, 105, 111] : List UInt8)) = false := bne_eq_false_iff_eq.mpr c28
        clear c28
        by_cases c29 : (t136.length : Int) = 0
        · rw [if_pos c29] at H
          have c29b0 : ((t136.length : Int) == 0) = true := beq_iff_eq.mpr c29
          have c29b1 : ((t136.length : Int) != 0) = false := bne_eq_false_iff_eq.mpr c29
          clear c29
          by_cases c30 : t145 = 0
          · rw [if_pos c30] at H
            have c30b0 : (t145 == 0) = true := beq_iff_eq.mpr c30
            have c30b1 : (t145 != 0) = false := bne_eq_false_iff_eq.mpr c30
            clear c30
            obtain ⟨y165, hy165⟩ : ∃ y_ : List Int, y_ = (([0, 1, 2] : List Int)) := ⟨_, rfl⟩
            replace H : ((tickinglaw02_ints.f k t144 y165).bind fun t168 => (if t168 = true then (if t152 = 0 then (if t151 = 3 then (if t157 = 0 then (if t156 = 4 then (if t162 = 0 then ((tickinglaw02_ints.f k t161 (([2, 1, 3] : List Int))).bind fun t172 => (tickinglaw02_awake.j0 k (!t172))) else (tickinglaw02_awake.j0 k true)) else (tickinglaw02_awake.j0 k true)) else (tickinglaw02_awake.j0 k true)) else (tickinglaw02_awake.j0 k true)) else (tickinglaw02_awake.j0 k true)) else (tickinglaw02_awake.j0 k true))) = some r := by first | (rw [hy165]; with_reducible exact H) | (have H2_ := (Option.bind_some _ _).symm.trans H; rw [hy165]; with_reducible exact H2_) | (have H2_ := (Option.bind_some _ _).symm.trans H; with_reducible exact H2_) | with_reducible exact H | (rw [hy165]; exact H) | exact H
            have Ny165 := Aside0.mk hy165
            clear hy165
            replace H := Option.bind_eq_some_iff.mp H
            obtain ⟨t168, A310, H⟩ := H
            replace H : (if t168 = true then (if t152 = 0 then (if t151 = 3 then (if t157 = 0 then (if t156 = 4 then (if t162 = 0 then ((tickinglaw02_ints.f k t161 (([2, 1, 3] : List Int))).bind fun t172 => (tickinglaw02_awake.j0 k (!t172))) else (tickinglaw02_awake.j0 k true)) else (tickinglaw02_awake.j0 k true)) else (tickinglaw02_awake.j0 k true)) else (tickinglaw02_awake.j0 k true)) else (tickinglaw02_awake.j0 k true)) else (tickinglaw02_awake.j0 k true)) = some r := H
            have A31 := Aside0.mk A310
            clear A310
            by_cases c32 : t168 = true
            · subst c32
              have H1 : (if t152 = 0 then (if t151 = 3 then (if t157 = 0 then (if t156 = 4 then (if t162 = 0 then ((tickinglaw02_ints.f k t161 (([2, 1, 3] : List Int))).bind fun t172 => (tickinglaw02_awake.j0 k (!t172))) else (tickinglaw02_awake.j0 k true)) else (tickinglaw02_awake.j0 k true)) else (tickinglaw02_awake.j0 k true)) else (tickinglaw02_awake.j0 k true)) else (tickinglaw02_awake.j0 k true)) = some r := by rw [if_pos rfl] at H; exact H
              clear H
              have H := H1
              clear H1
              by_cases c33 : t152 = 0
              · rw [if_pos c33] at H
                have c33b0 : (t152 == 0) = true := beq_iff_eq.mpr c33
                have c33b1 : (t152 != 0) = false := bne_eq_false_iff_eq.mpr c33
                clear c33
                by_cases c34 : t151 = 3
                · rw [if_pos c34] at H
                  have c34b0 : (t151 == 3) = true := beq_iff_eq.mpr c34
                  have c34b1 : (t151 != 3) = false := bne_eq_false_iff_eq.mpr c34
                  clear c34
                  by_cases c35 : t157 = 0
                  · rw [if_pos c35] at H
                    have c35b0 : (t157 == 0) = true := beq_iff_eq.mpr c35
                    have c35b1 : (t157 != 0) = false := bne_eq_false_iff_eq.mpr c35
                    clear c35
                    by_cases c36 : t156 = 4
                    · rw [if_pos c36] at H
                      have c36b0 : (t156 == 4) = true := beq_iff_eq.mpr c36
                      have c36b1 : (t156 != 4) = false := bne_eq_false_iff_eq.mpr c36
                      clear c36
                      by_cases c37 : t162 = 0
                      · rw [if_pos c37] at H
                        have c37b0 : (t162 == 0) = true := beq_iff_eq.mpr c37
                        have c37b1 : (t162 != 0) = false := bne_eq_false_iff_eq.mpr c37
                        clear c37
                        obtain ⟨y169, hy169⟩ : ∃ y_ : List Int, y_ = (([2, 1, 3] : List Int)) := ⟨_, rfl⟩
                        replace H : ((tickinglaw02_ints.f k t161 y169).bind fun t172 => (tickinglaw02_awake.j0 k (!t172))) = some r := by first | (rw [hy169]; with_reducible exact H) | (have H2_ := (Option.bind_some _ _).symm.trans H; rw [hy169]; with_reducible exact H2_) | (have H2_ := (Option.bind_some _ _).symm.trans H; with_reducible exact H2_) | with_reducible exact H | (rw [hy169]; exact H) | exact H
                        have Ny169 := Aside0.mk hy169
                        clear hy169
                        replace H := Option.bind_eq_some_iff.mp H
                        obtain ⟨t172, A380, H⟩ := H
                        replace H : (tickinglaw02_awake.j0 k (!t172)) = some r := H
                        have A38 := Aside0.mk A380
                        clear A380
                        have H' := Aside0.mk H
                        clear H
                        obtain ⟨Ao39, co39, eo39⟩ := Kd.R_slice HO139.out
                        subst eo39
                        go_wp2_with (first | ((with_reducible refine gate_dst (N := 57) rfl ?_); (try (refine gate_guard (by rfl) ?_; dsimp only)); refine Kd.R_lit (Kd.int .i64) _ 3 ?hg (N := 57) ?hd (xs := ([0, 1, 2] : List Int)) (inner := [.int .i64 0, .int .i64 1, .int .i64 2]) (ok := fun _ => True) (okp := fun _ => True) ?hr ?hp (fun _ hk => hk) trivial (Below.refl _ _) (Nat.le_refl _) (by simp) ?_; (case hd => rfl); (case hg => rfl); (case hr => first | (go_simp; done) | (go_simp; rfl)); (case hp => exact (Reps.one (show Kd.M (Kd.int .i64) _ _ _ 0 [.int .i64 0] from rfl) (Reps.one (show Kd.M (Kd.int .i64) _ _ _ 1 [.int .i64 1] from rfl) (Reps.one (show Kd.M (Kd.int .i64) _ _ _ 2 [.int .i64 2] from rfl) (Reps.none _ _))))); intro v166 w40 ho41 hb hg_ hnew_; clear hg_ hnew_; (first | rw [← Ny165.out] at ho41 | (simp only [Int.reduceToNat] at ho41; rw [← Ny165.out] at ho41)); have n0_ := Aside0.mk (Kd.R_elder' (by (with_reducible repeat (first | apply Kd.R_alloc | apply Kd.R_drewN | apply Kd.R_drew)); exact HO134.out) (Kd.R_base ho41) hb); have n1_ := Aside0.mk (Kd.R_elder' (by (with_reducible repeat (first | apply Kd.R_alloc | apply Kd.R_drewN | apply Kd.R_drew)); exact HO139.out) (Kd.R_base ho41) hb); have n2_ := Aside0.mk (Kd.R_elder' (by (with_reducible repeat (first | apply Kd.R_alloc | apply Kd.R_drewN | apply Kd.R_drew)); exact HO142.out) (Kd.R_base ho41) hb); have n3_ := Aside0.mk (Kd.R_elder' (by (with_reducible repeat (first | apply Kd.R_alloc | apply Kd.R_drewN | apply Kd.R_drew)); exact HO147.out) (Kd.R_base ho41) hb); have n4_ := Aside0.mk (Kd.R_elder' (by (with_reducible repeat (first | apply Kd.R_alloc | apply Kd.R_drewN | apply Kd.R_drew)); exact HO150.out) (Kd.R_base ho41) hb); have n5_ := Aside0.mk (Kd.R_elder' (by (with_reducible repeat (first | apply Kd.R_alloc | apply Kd.R_drewN | apply Kd.R_drew)); exact HO155.out) (Kd.R_base ho41) hb); have n6_ := Aside0.mk (Kd.R_elder' (by (with_reducible repeat (first | apply Kd.R_alloc | apply Kd.R_drewN | apply Kd.R_drew)); exact HO160.out) (Kd.R_base ho41) hb); have n7_ := Aside0.mk (Kd.R_elder' (by (with_reducible repeat (first | apply Kd.R_alloc | apply Kd.R_drewN | apply Kd.R_drew)); exact HO164.out) (Kd.R_base ho41) hb); have n8_ := Aside0.mk (Kd.R_lower (Kd.R_new' (Kd.R_new' (Kd.R_new' (Kd.R_new' (Kd.R_new' (Kd.R_new' (Kd.R_new' (Kd.R_new' ho41 (Kd.R_lt (by (with_reducible repeat (first | apply Kd.R_alloc | apply Kd.R_drewN | apply Kd.R_drew)); exact HO134.out))) (Kd.R_lt (by (with_reducible repeat (first | apply Kd.R_alloc | apply Kd.R_drewN | apply Kd.R_drew)); exact HO139.out))) (Kd.R_lt (by (with_reducible repeat (first | apply Kd.R_alloc | apply Kd.R_drewN | apply Kd.R_drew)); exact HO142.out))) (Kd.R_lt (by (with_reducible repeat (first | apply Kd.R_alloc | apply Kd.R_drewN | apply Kd.R_drew)); exact HO147.out))) (Kd.R_lt (by (with_reducible repeat (first | apply Kd.R_alloc | apply Kd.R_drewN | apply Kd.R_drew)); exact HO150.out))) (Kd.R_lt (by (with_reducible repeat (first | apply Kd.R_alloc | apply Kd.R_drewN | apply Kd.R_drew)); exact HO155.out))) (Kd.R_lt (by (with_reducible repeat (first | apply Kd.R_alloc | apply Kd.R_drewN | apply Kd.R_drew)); exact HO160.out))) (Kd.R_lt (by (with_reducible repeat (first | apply Kd.R_alloc | apply Kd.R_drewN | apply Kd.R_drew)); exact HO164.out))) (below_size (by repeat (first | (with_reducible first | exact HB.out | apply below_alloc | apply pw_below_drewN | apply below_drew1) | exact HB.out)))); have n9_ := Aside0.mk (below_step (by repeat (first | (with_reducible first | exact HB.out | apply below_alloc | apply pw_below_drewN | apply below_drew1) | exact HB.out)) hb); clear HO134; clear HO139; clear HO142; clear HO147; clear HO150; clear HO155; clear HO160; clear HO164; clear HB; have HO134 := n0_; have HO139 := n1_; have HO142 := n2_; have HO147 := n3_; have HO150 := n4_; have HO155 := n5_; have HO160 := n6_; have HO164 := n7_; have HO167 := n8_; have HB := n9_; clear n0_ n1_ n2_ n3_ n4_ n5_ n6_ n7_ n8_ n9_; clear hb ho41; obtain ⟨Ao42, co42, eo42⟩ := Kd.R_slice HO147.out; subst eo42; obtain ⟨Ao43, co43, eo43⟩ := Kd.R_slice HO167.out; subst eo43) | (go_at_call 23; (with_reducible refine (tickinglaw02_ints.calls k _ _ t144 _ _ y165 true _ ?side1 ?side2 ?side3 ?side4 A31.out).mono ?_); (case side1 => repeat (first | exact (Kd.R_reads' HO147.out).2.2 | (with_reducible refine Kd.C_alloc ?_ _) | (with_reducible refine Kd.C_drewN ?_ _) | (with_reducible refine Kd.C_drew ?_))); (case side2 => exact (Kd.R_reads' HO147.out).2.1); (case side3 => repeat (first | exact (Kd.R_reads' HO167.out).2.2 | (with_reducible refine Kd.C_alloc ?_ _) | (with_reducible refine Kd.C_drewN ?_ _) | (with_reducible refine Kd.C_drew ?_))); (case side4 => exact (Kd.R_reads' HO167.out).2.1); rintro e w' ⟨rfl, ⟨nd, rfl⟩⟩) | ((with_reducible refine gate_dst (N := 83) rfl ?_); (try (refine gate_guard (by rfl) ?_; dsimp only)); refine Kd.R_lit (Kd.int .i64) _ 3 ?hg (N := 83) ?hd (xs := ([2, 1, 3] : List Int)) (inner := [.int .i64 2, .int .i64 1, .int .i64 3]) (ok := fun _ => True) (okp := fun _ => True) ?hr ?hp (fun _ hk => hk) trivial (Below.refl _ _) (Nat.le_refl _) (by simp) ?_; (case hd => rfl); (case hg => rfl); (case hr => first | (go_simp; done) | (go_simp; rfl)); (case hp => exact (Reps.one (show Kd.M (Kd.int .i64) _ _ _ 2 [.int .i64 2] from rfl) (Reps.one (show Kd.M (Kd.int .i64) _ _ _ 1 [.int .i64 1] from rfl) (Reps.one (show Kd.M (Kd.int .i64) _ _ _ 3 [.int .i64 3] from rfl) (Reps.none _ _))))); intro v170 w44 ho45 hb hg_ hnew_; clear hg_ hnew_; (first | rw [← Ny169.out] at ho45 | (simp only [Int.reduceToNat] at ho45; rw [← Ny169.out] at ho45)); have n0_ := Aside0.mk (Kd.R_elder' (by (with_reducible repeat (first | apply Kd.R_alloc | apply Kd.R_drewN | apply Kd.R_drew)); exact HO134.out) (Kd.R_base ho45) hb); have n1_ := Aside0.mk (Kd.R_elder' (by (with_reducible repeat (first | apply Kd.R_alloc | apply Kd.R_drewN | apply Kd.R_drew)); exact HO139.out) (Kd.R_base ho45) hb); have n2_ := Aside0.mk (Kd.R_elder' (by (with_reducible repeat (first | apply Kd.R_alloc | apply Kd.R_drewN | apply Kd.R_drew)); exact HO142.out) (Kd.R_base ho45) hb); have n3_ := Aside0.mk (Kd.R_elder' (by (with_reducible repeat (first | apply Kd.R_alloc | apply Kd.R_drewN | apply Kd.R_drew)); exact HO147.out) (Kd.R_base ho45) hb); have n4_ := Aside0.mk (Kd.R_elder' (by (with_reducible repeat (first | apply Kd.R_alloc | apply Kd.R_drewN | apply Kd.R_drew)); exact HO150.out) (Kd.R_base ho45) hb); have n5_ := Aside0.mk (Kd.R_elder' (by (with_reducible repeat (first | apply Kd.R_alloc | apply Kd.R_drewN | apply Kd.R_drew)); exact HO155.out) (Kd.R_base ho45) hb); have n6_ := Aside0.mk (Kd.R_elder' (by (with_reducible repeat (first | apply Kd.R_alloc | apply Kd.R_drewN | apply Kd.R_drew)); exact HO160.out) (Kd.R_base ho45) hb); have n7_ := Aside0.mk (Kd.R_elder' (by (with_reducible repeat (first | apply Kd.R_alloc | apply Kd.R_drewN | apply Kd.R_drew)); exact HO164.out) (Kd.R_base ho45) hb); have n8_ := Aside0.mk (Kd.R_elder' (by (with_reducible repeat (first | apply Kd.R_alloc | apply Kd.R_drewN | apply Kd.R_drew)); exact HO167.out) (Kd.R_base ho45) hb); have n9_ := Aside0.mk (Kd.R_lower (Kd.R_new' (Kd.R_new' (Kd.R_new' (Kd.R_new' (Kd.R_new' (Kd.R_new' (Kd.R_new' (Kd.R_new' (Kd.R_new' ho45 (Kd.R_lt (by (with_reducible repeat (first | apply Kd.R_alloc | apply Kd.R_drewN | apply Kd.R_drew)); exact HO134.out))) (Kd.R_lt (by (with_reducible repeat (first | apply Kd.R_alloc | apply Kd.R_drewN | apply Kd.R_drew)); exact HO139.out))) (Kd.R_lt (by (with_reducible repeat (first | apply Kd.R_alloc | apply Kd.R_drewN | apply Kd.R_drew)); exact HO142.out))) (Kd.R_lt (by (with_reducible repeat (first | apply Kd.R_alloc | apply Kd.R_drewN | apply Kd.R_drew)); exact HO147.out))) (Kd.R_lt (by (with_reducible repeat (first | apply Kd.R_alloc | apply Kd.R_drewN | apply Kd.R_drew)); exact HO150.out))) (Kd.R_lt (by (with_reducible repeat (first | apply Kd.R_alloc | apply Kd.R_drewN | apply Kd.R_drew)); exact HO155.out))) (Kd.R_lt (by (with_reducible repeat (first | apply Kd.R_alloc | apply Kd.R_drewN | apply Kd.R_drew)); exact HO160.out))) (Kd.R_lt (by (with_reducible repeat (first | apply Kd.R_alloc | apply Kd.R_drewN | apply Kd.R_drew)); exact HO164.out))) (Kd.R_lt (by (with_reducible repeat (first | apply Kd.R_alloc | apply Kd.R_drewN | apply Kd.R_drew)); exact HO167.out))) (below_size (by repeat (first | (with_reducible first | exact HB.out | apply below_alloc | apply pw_below_drewN | apply below_drew1) | exact HB.out)))); have n10_ := Aside0.mk (below_step (by repeat (first | (with_reducible first | exact HB.out | apply below_alloc | apply pw_below_drewN | apply below_drew1) | exact HB.out)) hb); clear HO134; clear HO139; clear HO142; clear HO147; clear HO150; clear HO155; clear HO160; clear HO164; clear HO167; clear HB; have HO134 := n0_; have HO139 := n1_; have HO142 := n2_; have HO147 := n3_; have HO150 := n4_; have HO155 := n5_; have HO160 := n6_; have HO164 := n7_; have HO167 := n8_; have HO171 := n9_; have HB := n10_; clear n0_ n1_ n2_ n3_ n4_ n5_ n6_ n7_ n8_ n9_ n10_; clear hb ho45; obtain ⟨Ao46, co46, eo46⟩ := Kd.R_slice HO164.out; subst eo46; obtain ⟨Ao47, co47, eo47⟩ := Kd.R_slice HO171.out; subst eo47) | (go_at_call 23; (with_reducible refine (tickinglaw02_ints.calls k _ _ t161 _ _ y169 t172 _ ?side1 ?side2 ?side3 ?side4 A38.out).mono ?_); (case side1 => repeat (first | exact (Kd.R_reads' HO164.out).2.2 | (with_reducible refine Kd.C_alloc ?_ _) | (with_reducible refine Kd.C_drewN ?_ _) | (with_reducible refine Kd.C_drew ?_))); (case side2 => exact (Kd.R_reads' HO164.out).2.1); (case side3 => repeat (first | exact (Kd.R_reads' HO171.out).2.2 | (with_reducible refine Kd.C_alloc ?_ _) | (with_reducible refine Kd.C_drewN ?_ _) | (with_reducible refine Kd.C_drew ?_))); (case side4 => exact (Kd.R_reads' HO171.out).2.1); rintro e w' ⟨rfl, ⟨nd, rfl⟩⟩))
                        go_meet
                        case rel => exact ⟨_, (!t172), (by first | rfl | (simp; done) | (simp [*]; done)), H', ⟨by first | omega | exact Nat.le_refl _⟩, ⟨by repeat (first | (with_reducible first | exact HB.out | apply below_alloc | apply pw_below_drewN | apply below_drew1) | exact HB.out)⟩⟩
                      · rw [if_neg c37] at H
                        have c37b0 : (t162 == 0) = false := beq_eq_false_iff_ne.mpr c37
                        have c37b1 : (t162 != 0) = true := bne_iff_ne.mpr c37
                        have H' := Aside0.mk H
                        clear H
                        obtain ⟨Ao48, co48, eo48⟩ := Kd.R_slice HO139.out
                        subst eo48
                        go_wp2_with (first | ((with_reducible refine gate_dst (N := 57) rfl ?_); (try (refine gate_guard (by rfl) ?_; dsimp only)); refine Kd.R_lit (Kd.int .i64) _ 3 ?hg (N := 57) ?hd (xs := ([0, 1, 2] : List Int)) (inner := [.int .i64 0, .int .i64 1, .int .i64 2]) (ok := fun _ => True) (okp := fun _ => True) ?hr ?hp (fun _ hk => hk) trivial (Below.refl _ _) (Nat.le_refl _) (by simp) ?_; (case hd => rfl); (case hg => rfl); (case hr => first | (go_simp; done) | (go_simp; rfl)); (case hp => exact (Reps.one (show Kd.M (Kd.int .i64) _ _ _ 0 [.int .i64 0] from rfl) (Reps.one (show Kd.M (Kd.int .i64) _ _ _ 1 [.int .i64 1] from rfl) (Reps.one (show Kd.M (Kd.int .i64) _ _ _ 2 [.int .i64 2] from rfl) (Reps.none _ _))))); intro v166 w49 ho50 hb hg_ hnew_; clear hg_ hnew_; (first | rw [← Ny165.out] at ho50 | (simp only [Int.reduceToNat] at ho50; rw [← Ny165.out] at ho50)); have n0_ := Aside0.mk (Kd.R_elder' (by (with_reducible repeat (first | apply Kd.R_alloc | apply Kd.R_drewN | apply Kd.R_drew)); exact HO134.out) (Kd.R_base ho50) hb); have n1_ := Aside0.mk (Kd.R_elder' (by (with_reducible repeat (first | apply Kd.R_alloc | apply Kd.R_drewN | apply Kd.R_drew)); exact HO139.out) (Kd.R_base ho50) hb); have n2_ := Aside0.mk (Kd.R_elder' (by (with_reducible repeat (first | apply Kd.R_alloc | apply Kd.R_drewN | apply Kd.R_drew)); exact HO142.out) (Kd.R_base ho50) hb); have n3_ := Aside0.mk (Kd.R_elder' (by (with_reducible repeat (first | apply Kd.R_alloc | apply Kd.R_drewN | apply Kd.R_drew)); exact HO147.out) (Kd.R_base ho50) hb); have n4_ := Aside0.mk (Kd.R_elder' (by (with_reducible repeat (first | apply Kd.R_alloc | apply Kd.R_drewN | apply Kd.R_drew)); exact HO150.out) (Kd.R_base ho50) hb); have n5_ := Aside0.mk (Kd.R_elder' (by (with_reducible repeat (first | apply Kd.R_alloc | apply Kd.R_drewN | apply Kd.R_drew)); exact HO155.out) (Kd.R_base ho50) hb); have n6_ := Aside0.mk (Kd.R_elder' (by (with_reducible repeat (first | apply Kd.R_alloc | apply Kd.R_drewN | apply Kd.R_drew)); exact HO160.out) (Kd.R_base ho50) hb); have n7_ := Aside0.mk (Kd.R_elder' (by (with_reducible repeat (first | apply Kd.R_alloc | apply Kd.R_drewN | apply Kd.R_drew)); exact HO164.out) (Kd.R_base ho50) hb); have n8_ := Aside0.mk (Kd.R_lower (Kd.R_new' (Kd.R_new' (Kd.R_new' (Kd.R_new' (Kd.R_new' (Kd.R_new' (Kd.R_new' (Kd.R_new' ho50 (Kd.R_lt (by (with_reducible repeat (first | apply Kd.R_alloc | apply Kd.R_drewN | apply Kd.R_drew)); exact HO134.out))) (Kd.R_lt (by (with_reducible repeat (first | apply Kd.R_alloc | apply Kd.R_drewN | apply Kd.R_drew)); exact HO139.out))) (Kd.R_lt (by (with_reducible repeat (first | apply Kd.R_alloc | apply Kd.R_drewN | apply Kd.R_drew)); exact HO142.out))) (Kd.R_lt (by (with_reducible repeat (first | apply Kd.R_alloc | apply Kd.R_drewN | apply Kd.R_drew)); exact HO147.out))) (Kd.R_lt (by (with_reducible repeat (first | apply Kd.R_alloc | apply Kd.R_drewN | apply Kd.R_drew)); exact HO150.out))) (Kd.R_lt (by (with_reducible repeat (first | apply Kd.R_alloc | apply Kd.R_drewN | apply Kd.R_drew)); exact HO155.out))) (Kd.R_lt (by (with_reducible repeat (first | apply Kd.R_alloc | apply Kd.R_drewN | apply Kd.R_drew)); exact HO160.out))) (Kd.R_lt (by (with_reducible repeat (first | apply Kd.R_alloc | apply Kd.R_drewN | apply Kd.R_drew)); exact HO164.out))) (below_size (by repeat (first | (with_reducible first | exact HB.out | apply below_alloc | apply pw_below_drewN | apply below_drew1) | exact HB.out)))); have n9_ := Aside0.mk (below_step (by repeat (first | (with_reducible first | exact HB.out | apply below_alloc | apply pw_below_drewN | apply below_drew1) | exact HB.out)) hb); clear HO134; clear HO139; clear HO142; clear HO147; clear HO150; clear HO155; clear HO160; clear HO164; clear HB; have HO134 := n0_; have HO139 := n1_; have HO142 := n2_; have HO147 := n3_; have HO150 := n4_; have HO155 := n5_; have HO160 := n6_; have HO164 := n7_; have HO167 := n8_; have HB := n9_; clear n0_ n1_ n2_ n3_ n4_ n5_ n6_ n7_ n8_ n9_; clear hb ho50; obtain ⟨Ao51, co51, eo51⟩ := Kd.R_slice HO147.out; subst eo51; obtain ⟨Ao52, co52, eo52⟩ := Kd.R_slice HO167.out; subst eo52) | (go_at_call 23; (with_reducible refine (tickinglaw02_ints.calls k _ _ t144 _ _ y165 true _ ?side1 ?side2 ?side3 ?side4 A31.out).mono ?_); (case side1 => repeat (first | exact (Kd.R_reads' HO147.out).2.2 | (with_reducible refine Kd.C_alloc ?_ _) | (with_reducible refine Kd.C_drewN ?_ _) | (with_reducible refine Kd.C_drew ?_))); (case side2 => exact (Kd.R_reads' HO147.out).2.1); (case side3 => repeat (first | exact (Kd.R_reads' HO167.out).2.2 | (with_reducible refine Kd.C_alloc ?_ _) | (with_reducible refine Kd.C_drewN ?_ _) | (with_reducible refine Kd.C_drew ?_))); (case side4 => exact (Kd.R_reads' HO167.out).2.1); rintro e w' ⟨rfl, ⟨nd, rfl⟩⟩))
                        go_meet
                        case rel => exact ⟨_, (true), (by first | rfl | (simp; done) | (simp [*]; done)), H', ⟨by first | omega | exact Nat.le_refl _⟩, ⟨by repeat (first | (with_reducible first | exact HB.out | apply below_alloc | apply pw_below_drewN | apply below_drew1) | exact HB.out)⟩⟩
                    · rw [if_neg c36] at H
                      have c36b0 : (t156 == 4) = false := beq_eq_false_iff_ne.mpr c36
                      have c36b1 : (t156 != 4) = true := bne_iff_ne.mpr c36
                      have H' := Aside0.mk H
                      clear H
                      obtain ⟨Ao53, co53, eo53⟩ := Kd.R_slice HO139.out
                      subst eo53
                      go_wp2_with (first | ((with_reducible refine gate_dst (N := 57) rfl ?_); (try (refine gate_guard (by rfl) ?_; dsimp only)); refine Kd.R_lit (Kd.int .i64) _ 3 ?hg (N := 57) ?hd (xs := ([0, 1, 2] : List Int)) (inner := [.int .i64 0, .int .i64 1, .int .i64 2]) (ok := fun _ => True) (okp := fun _ => True) ?hr ?hp (fun _ hk => hk) trivial (Below.refl _ _) (Nat.le_refl _) (by simp) ?_; (case hd => rfl); (case hg => rfl); (case hr => first | (go_simp; done) | (go_simp; rfl)); (case hp => exact (Reps.one (show Kd.M (Kd.int .i64) _ _ _ 0 [.int .i64 0] from rfl) (Reps.one (show Kd.M (Kd.int .i64) _ _ _ 1 [.int .i64 1] from rfl) (Reps.one (show Kd.M (Kd.int .i64) _ _ _ 2 [.int .i64 2] from rfl) (Reps.none _ _))))); intro v166 w54 ho55 hb hg_ hnew_; clear hg_ hnew_; (first | rw [← Ny165.out] at ho55 | (simp only [Int.reduceToNat] at ho55; rw [← Ny165.out] at ho55)); have n0_ := Aside0.mk (Kd.R_elder' (by (with_reducible repeat (first | apply Kd.R_alloc | apply Kd.R_drewN | apply Kd.R_drew)); exact HO134.out) (Kd.R_base ho55) hb); have n1_ := Aside0.mk (Kd.R_elder' (by (with_reducible repeat (first | apply Kd.R_alloc | apply Kd.R_drewN | apply Kd.R_drew)); exact HO139.out) (Kd.R_base ho55) hb); have n2_ := Aside0.mk (Kd.R_elder' (by (with_reducible repeat (first | apply Kd.R_alloc | apply Kd.R_drewN | apply Kd.R_drew)); exact HO142.out) (Kd.R_base ho55) hb); have n3_ := Aside0.mk (Kd.R_elder' (by (with_reducible repeat (first | apply Kd.R_alloc | apply Kd.R_drewN | apply Kd.R_drew)); exact HO147.out) (Kd.R_base ho55) hb); have n4_ := Aside0.mk (Kd.R_elder' (by (with_reducible repeat (first | apply Kd.R_alloc | apply Kd.R_drewN | apply Kd.R_drew)); exact HO150.out) (Kd.R_base ho55) hb); have n5_ := Aside0.mk (Kd.R_elder' (by (with_reducible repeat (first | apply Kd.R_alloc | apply Kd.R_drewN | apply Kd.R_drew)); exact HO155.out) (Kd.R_base ho55) hb); have n6_ := Aside0.mk (Kd.R_elder' (by (with_reducible repeat (first | apply Kd.R_alloc | apply Kd.R_drewN | apply Kd.R_drew)); exact HO160.out) (Kd.R_base ho55) hb); have n7_ := Aside0.mk (Kd.R_elder' (by (with_reducible repeat (first | apply Kd.R_alloc | apply Kd.R_drewN | apply Kd.R_drew)); exact HO164.out) (Kd.R_base ho55) hb); have n8_ := Aside0.mk (Kd.R_lower (Kd.R_new' (Kd.R_new' (Kd.R_new' (Kd.R_new' (Kd.R_new' (Kd.R_new' (Kd.R_new' (Kd.R_new' ho55 (Kd.R_lt (by (with_reducible repeat (first | apply Kd.R_alloc | apply Kd.R_drewN | apply Kd.R_drew)); exact HO134.out))) (Kd.R_lt (by (with_reducible repeat (first | apply Kd.R_alloc | apply Kd.R_drewN | apply Kd.R_drew)); exact HO139.out))) (Kd.R_lt (by (with_reducible repeat (first | apply Kd.R_alloc | apply Kd.R_drewN | apply Kd.R_drew)); exact HO142.out))) (Kd.R_lt (by (with_reducible repeat (first | apply Kd.R_alloc | apply Kd.R_drewN | apply Kd.R_drew)); exact HO147.out))) (Kd.R_lt (by (with_reducible repeat (first | apply Kd.R_alloc | apply Kd.R_drewN | apply Kd.R_drew)); exact HO150.out))) (Kd.R_lt (by (with_reducible repeat (first | apply Kd.R_alloc | apply Kd.R_drewN | apply Kd.R_drew)); exact HO155.out))) (Kd.R_lt (by (with_reducible repeat (first | apply Kd.R_alloc | apply Kd.R_drewN | apply Kd.R_drew)); exact HO160.out))) (Kd.R_lt (by (with_reducible repeat (first | apply Kd.R_alloc | apply Kd.R_drewN | apply Kd.R_drew)); exact HO164.out))) (below_size (by repeat (first | (with_reducible first | exact HB.out | apply below_alloc | apply pw_below_drewN | apply below_drew1) | exact HB.out)))); have n9_ := Aside0.mk (below_step (by repeat (first | (with_reducible first | exact HB.out | apply below_alloc | apply pw_below_drewN | apply below_drew1) | exact HB.out)) hb); clear HO134; clear HO139; clear HO142; clear HO147; clear HO150; clear HO155; clear HO160; clear HO164; clear HB; have HO134 := n0_; have HO139 := n1_; have HO142 := n2_; have HO147 := n3_; have HO150 := n4_; have HO155 := n5_; have HO160 := n6_; have HO164 := n7_; have HO167 := n8_; have HB := n9_; clear n0_ n1_ n2_ n3_ n4_ n5_ n6_ n7_ n8_ n9_; clear hb ho55; obtain ⟨Ao56, co56, eo56⟩ := Kd.R_slice HO147.out; subst eo56; obtain ⟨Ao57, co57, eo57⟩ := Kd.R_slice HO167.out; subst eo57) | (go_at_call 23; (with_reducible refine (tickinglaw02_ints.calls k _ _ t144 _ _ y165 true _ ?side1 ?side2 ?side3 ?side4 A31.out).mono ?_); (case side1 => repeat (first | exact (Kd.R_reads' HO147.out).2.2 | (with_reducible refine Kd.C_alloc ?_ _) | (with_reducible refine Kd.C_drewN ?_ _) | (with_reducible refine Kd.C_drew ?_))); (case side2 => exact (Kd.R_reads' HO147.out).2.1); (case side3 => repeat (first | exact (Kd.R_reads' HO167.out).2.2 | (with_reducible refine Kd.C_alloc ?_ _) | (with_reducible refine Kd.C_drewN ?_ _) | (with_reducible refine Kd.C_drew ?_))); (case side4 => exact (Kd.R_reads' HO167.out).2.1); rintro e w' ⟨rfl, ⟨nd, rfl⟩⟩))
                      go_meet
                      case rel => exact ⟨_, (true), (by first | rfl | (simp; done) | (simp [*]; done)), H', ⟨by first | omega | exact Nat.le_refl _⟩, ⟨by repeat (first | (with_reducible first | exact HB.out | apply below_alloc | apply pw_below_drewN | apply below_drew1) | exact HB.out)⟩⟩
                  · rw [if_neg c35] at H
                    have c35b0 : (t157 == 0) = false := beq_eq_false_iff_ne.mpr c35
                    have c35b1 : (t157 != 0) = true := bne_iff_ne.mpr c35
                    have H' := Aside0.mk H
                    clear H
                    obtain ⟨Ao58, co58, eo58⟩ := Kd.R_slice HO139.out
                    subst eo58
                    go_wp2_with (first | ((with_reducible refine gate_dst (N := 57) rfl ?_); (try (refine gate_guard (by rfl) ?_; dsimp only)); refine Kd.R_lit (Kd.int .i64) _ 3 ?hg (N := 57) ?hd (xs := ([0, 1, 2] : List Int)) (inner := [.int .i64 0, .int .i64 1, .int .i64 2]) (ok := fun _ => True) (okp := fun _ => True) ?hr ?hp (fun _ hk => hk) trivial (Below.refl _ _) (Nat.le_refl _) (by simp) ?_; (case hd => rfl); (case hg => rfl); (case hr => first | (go_simp; done) | (go_simp; rfl)); (case hp => exact (Reps.one (show Kd.M (Kd.int .i64) _ _ _ 0 [.int .i64 0] from rfl) (Reps.one (show Kd.M (Kd.int .i64) _ _ _ 1 [.int .i64 1] from rfl) (Reps.one (show Kd.M (Kd.int .i64) _ _ _ 2 [.int .i64 2] from rfl) (Reps.none _ _))))); intro v166 w59 ho60 hb hg_ hnew_; clear hg_ hnew_; (first | rw [← Ny165.out] at ho60 | (simp only [Int.reduceToNat] at ho60; rw [← Ny165.out] at ho60)); have n0_ := Aside0.mk (Kd.R_elder' (by (with_reducible repeat (first | apply Kd.R_alloc | apply Kd.R_drewN | apply Kd.R_drew)); exact HO134.out) (Kd.R_base ho60) hb); have n1_ := Aside0.mk (Kd.R_elder' (by (with_reducible repeat (first | apply Kd.R_alloc | apply Kd.R_drewN | apply Kd.R_drew)); exact HO139.out) (Kd.R_base ho60) hb); have n2_ := Aside0.mk (Kd.R_elder' (by (with_reducible repeat (first | apply Kd.R_alloc | apply Kd.R_drewN | apply Kd.R_drew)); exact HO142.out) (Kd.R_base ho60) hb); have n3_ := Aside0.mk (Kd.R_elder' (by (with_reducible repeat (first | apply Kd.R_alloc | apply Kd.R_drewN | apply Kd.R_drew)); exact HO147.out) (Kd.R_base ho60) hb); have n4_ := Aside0.mk (Kd.R_elder' (by (with_reducible repeat (first | apply Kd.R_alloc | apply Kd.R_drewN | apply Kd.R_drew)); exact HO150.out) (Kd.R_base ho60) hb); have n5_ := Aside0.mk (Kd.R_elder' (by (with_reducible repeat (first | apply Kd.R_alloc | apply Kd.R_drewN | apply Kd.R_drew)); exact HO155.out) (Kd.R_base ho60) hb); have n6_ := Aside0.mk (Kd.R_elder' (by (with_reducible repeat (first | apply Kd.R_alloc | apply Kd.R_drewN | apply Kd.R_drew)); exact HO160.out) (Kd.R_base ho60) hb); have n7_ := Aside0.mk (Kd.R_elder' (by (with_reducible repeat (first | apply Kd.R_alloc | apply Kd.R_drewN | apply Kd.R_drew)); exact HO164.out) (Kd.R_base ho60) hb); have n8_ := Aside0.mk (Kd.R_lower (Kd.R_new' (Kd.R_new' (Kd.R_new' (Kd.R_new' (Kd.R_new' (Kd.R_new' (Kd.R_new' (Kd.R_new' ho60 (Kd.R_lt (by (with_reducible repeat (first | apply Kd.R_alloc | apply Kd.R_drewN | apply Kd.R_drew)); exact HO134.out))) (Kd.R_lt (by (with_reducible repeat (first | apply Kd.R_alloc | apply Kd.R_drewN | apply Kd.R_drew)); exact HO139.out))) (Kd.R_lt (by (with_reducible repeat (first | apply Kd.R_alloc | apply Kd.R_drewN | apply Kd.R_drew)); exact HO142.out))) (Kd.R_lt (by (with_reducible repeat (first | apply Kd.R_alloc | apply Kd.R_drewN | apply Kd.R_drew)); exact HO147.out))) (Kd.R_lt (by (with_reducible repeat (first | apply Kd.R_alloc | apply Kd.R_drewN | apply Kd.R_drew)); exact HO150.out))) (Kd.R_lt (by (with_reducible repeat (first | apply Kd.R_alloc | apply Kd.R_drewN | apply Kd.R_drew)); exact HO155.out))) (Kd.R_lt (by (with_reducible repeat (first | apply Kd.R_alloc | apply Kd.R_drewN | apply Kd.R_drew)); exact HO160.out))) (Kd.R_lt (by (with_reducible repeat (first | apply Kd.R_alloc | apply Kd.R_drewN | apply Kd.R_drew)); exact HO164.out))) (below_size (by repeat (first | (with_reducible first | exact HB.out | apply below_alloc | apply pw_below_drewN | apply below_drew1) | exact HB.out)))); have n9_ := Aside0.mk (below_step (by repeat (first | (with_reducible first | exact HB.out | apply below_alloc | apply pw_below_drewN | apply below_drew1) | exact HB.out)) hb); clear HO134; clear HO139; clear HO142; clear HO147; clear HO150; clear HO155; clear HO160; clear HO164; clear HB; have HO134 := n0_; have HO139 := n1_; have HO142 := n2_; have HO147 := n3_; have HO150 := n4_; have HO155 := n5_; have HO160 := n6_; have HO164 := n7_; have HO167 := n8_; have HB := n9_; clear n0_ n1_ n2_ n3_ n4_ n5_ n6_ n7_ n8_ n9_; clear hb ho60; obtain ⟨Ao61, co61, eo61⟩ := Kd.R_slice HO147.out; subst eo61; obtain ⟨Ao62, co62, eo62⟩ := Kd.R_slice HO167.out; subst eo62) | (go_at_call 23; (with_reducible refine (tickinglaw02_ints.calls k _ _ t144 _ _ y165 true _ ?side1 ?side2 ?side3 ?side4 A31.out).mono ?_); (case side1 => repeat (first | exact (Kd.R_reads' HO147.out).2.2 | (with_reducible refine Kd.C_alloc ?_ _) | (with_reducible refine Kd.C_drewN ?_ _) | (with_reducible refine Kd.C_drew ?_))); (case side2 => exact (Kd.R_reads' HO147.out).2.1); (case side3 => repeat (first | exact (Kd.R_reads' HO167.out).2.2 | (with_reducible refine Kd.C_alloc ?_ _) | (with_reducible refine Kd.C_drewN ?_ _) | (with_reducible refine Kd.C_drew ?_))); (case side4 => exact (Kd.R_reads' HO167.out).2.1); rintro e w' ⟨rfl, ⟨nd, rfl⟩⟩))
                    go_meet
                    case rel => exact ⟨_, (true), (by first | rfl | (simp; done) | (simp [*]; done)), H', ⟨by first | omega | exact Nat.le_refl _⟩, ⟨by repeat (first | (with_reducible first | exact HB.out | apply below_alloc | apply pw_below_drewN | apply below_drew1) | exact HB.out)⟩⟩
                · rw [if_neg c34] at H
                  have c34b0 : (t151 == 3) = false := beq_eq_false_iff_ne.mpr c34
                  have c34b1 : (t151 != 3) = true := bne_iff_ne.mpr c34
                  have H' := Aside0.mk H
                  clear H
                  obtain ⟨Ao63, co63, eo63⟩ := Kd.R_slice HO139.out
                  subst eo63
                  go_wp2_with (first | ((with_reducible refine gate_dst (N := 57) rfl ?_); (try (refine gate_guard (by rfl) ?_; dsimp only)); refine Kd.R_lit (Kd.int .i64) _ 3 ?hg (N := 57) ?hd (xs := ([0, 1, 2] : List Int)) (inner := [.int .i64 0, .int .i64 1, .int .i64 2]) (ok := fun _ => True) (okp := fun _ => True) ?hr ?hp (fun _ hk => hk) trivial (Below.refl _ _) (Nat.le_refl _) (by simp) ?_; (case hd => rfl); (case hg => rfl); (case hr => first | (go_simp; done) | (go_simp; rfl)); (case hp => exact (Reps.one (show Kd.M (Kd.int .i64) _ _ _ 0 [.int .i64 0] from rfl) (Reps.one (show Kd.M (Kd.int .i64) _ _ _ 1 [.int .i64 1] from rfl) (Reps.one (show Kd.M (Kd.int .i64) _ _ _ 2 [.int .i64 2] from rfl) (Reps.none _ _))))); intro v166 w64 ho65 hb hg_ hnew_; clear hg_ hnew_; (first | rw [← Ny165.out] at ho65 | (simp only [Int.reduceToNat] at ho65; rw [← Ny165.out] at ho65)); have n0_ := Aside0.mk (Kd.R_elder' (by (with_reducible repeat (first | apply Kd.R_alloc | apply Kd.R_drewN | apply Kd.R_drew)); exact HO134.out) (Kd.R_base ho65) hb); have n1_ := Aside0.mk (Kd.R_elder' (by (with_reducible repeat (first | apply Kd.R_alloc | apply Kd.R_drewN | apply Kd.R_drew)); exact HO139.out) (Kd.R_base ho65) hb); have n2_ := Aside0.mk (Kd.R_elder' (by (with_reducible repeat (first | apply Kd.R_alloc | apply Kd.R_drewN | apply Kd.R_drew)); exact HO142.out) (Kd.R_base ho65) hb); have n3_ := Aside0.mk (Kd.R_elder' (by (with_reducible repeat (first | apply Kd.R_alloc | apply Kd.R_drewN | apply Kd.R_drew)); exact HO147.out) (Kd.R_base ho65) hb); have n4_ := Aside0.mk (Kd.R_elder' (by (with_reducible repeat (first | apply Kd.R_alloc | apply Kd.R_drewN | apply Kd.R_drew)); exact HO150.out) (Kd.R_base ho65) hb); have n5_ := Aside0.mk (Kd.R_elder' (by (with_reducible repeat (first | apply Kd.R_alloc | apply Kd.R_drewN | apply Kd.R_drew)); exact HO155.out) (Kd.R_base ho65) hb); have n6_ := Aside0.mk (Kd.R_elder' (by (with_reducible repeat (first | apply Kd.R_alloc | apply Kd.R_drewN | apply Kd.R_drew)); exact HO160.out) (Kd.R_base ho65) hb); have n7_ := Aside0.mk (Kd.R_elder' (by (with_reducible repeat (first | apply Kd.R_alloc | apply Kd.R_drewN | apply Kd.R_drew)); exact HO164.out) (Kd.R_base ho65) hb); have n8_ := Aside0.mk (Kd.R_lower (Kd.R_new' (Kd.R_new' (Kd.R_new' (Kd.R_new' (Kd.R_new' (Kd.R_new' (Kd.R_new' (Kd.R_new' ho65 (Kd.R_lt (by (with_reducible repeat (first | apply Kd.R_alloc | apply Kd.R_drewN | apply Kd.R_drew)); exact HO134.out))) (Kd.R_lt (by (with_reducible repeat (first | apply Kd.R_alloc | apply Kd.R_drewN | apply Kd.R_drew)); exact HO139.out))) (Kd.R_lt (by (with_reducible repeat (first | apply Kd.R_alloc | apply Kd.R_drewN | apply Kd.R_drew)); exact HO142.out))) (Kd.R_lt (by (with_reducible repeat (first | apply Kd.R_alloc | apply Kd.R_drewN | apply Kd.R_drew)); exact HO147.out))) (Kd.R_lt (by (with_reducible repeat (first | apply Kd.R_alloc | apply Kd.R_drewN | apply Kd.R_drew)); exact HO150.out))) (Kd.R_lt (by (with_reducible repeat (first | apply Kd.R_alloc | apply Kd.R_drewN | apply Kd.R_drew)); exact HO155.out))) (Kd.R_lt (by (with_reducible repeat (first | apply Kd.R_alloc | apply Kd.R_drewN | apply Kd.R_drew)); exact HO160.out))) (Kd.R_lt (by (with_reducible repeat (first | apply Kd.R_alloc | apply Kd.R_drewN | apply Kd.R_drew)); exact HO164.out))) (below_size (by repeat (first | (with_reducible first | exact HB.out | apply below_alloc | apply pw_below_drewN | apply below_drew1) | exact HB.out)))); have n9_ := Aside0.mk (below_step (by repeat (first | (with_reducible first | exact HB.out | apply below_alloc | apply pw_below_drewN | apply below_drew1) | exact HB.out)) hb); clear HO134; clear HO139; clear HO142; clear HO147; clear HO150; clear HO155; clear HO160; clear HO164; clear HB; have HO134 := n0_; have HO139 := n1_; have HO142 := n2_; have HO147 := n3_; have HO150 := n4_; have HO155 := n5_; have HO160 := n6_; have HO164 := n7_; have HO167 := n8_; have HB := n9_; clear n0_ n1_ n2_ n3_ n4_ n5_ n6_ n7_ n8_ n9_; clear hb ho65; obtain ⟨Ao66, co66, eo66⟩ := Kd.R_slice HO147.out; subst eo66; obtain ⟨Ao67, co67, eo67⟩ := Kd.R_slice HO167.out; subst eo67) | (go_at_call 23; (with_reducible refine (tickinglaw02_ints.calls k _ _ t144 _ _ y165 true _ ?side1 ?side2 ?side3 ?side4 A31.out).mono ?_); (case side1 => repeat (first | exact (Kd.R_reads' HO147.out).2.2 | (with_reducible refine Kd.C_alloc ?_ _) | (with_reducible refine Kd.C_drewN ?_ _) | (with_reducible refine Kd.C_drew ?_))); (case side2 => exact (Kd.R_reads' HO147.out).2.1); (case side3 => repeat (first | exact (Kd.R_reads' HO167.out).2.2 | (with_reducible refine Kd.C_alloc ?_ _) | (with_reducible refine Kd.C_drewN ?_ _) | (with_reducible refine Kd.C_drew ?_))); (case side4 => exact (Kd.R_reads' HO167.out).2.1); rintro e w' ⟨rfl, ⟨nd, rfl⟩⟩))
                  go_meet
                  case rel => exact ⟨_, (true), (by first | rfl | (simp; done) | (simp [*]; done)), H', ⟨by first | omega | exact Nat.le_refl _⟩, ⟨by repeat (first | (with_reducible first | exact HB.out | apply below_alloc | apply pw_below_drewN | apply below_drew1) | exact HB.out)⟩⟩
              · rw [if_neg c33] at H
                have c33b0 : (t152 == 0) = false := beq_eq_false_iff_ne.mpr c33
                have c33b1 : (t152 != 0) = true := bne_iff_ne.mpr c33
                have H' := Aside0.mk H
                clear H
                obtain ⟨Ao68, co68, eo68⟩ := Kd.R_slice HO139.out
                subst eo68
                go_wp2_with (first | ((with_reducible refine gate_dst (N := 57) rfl ?_); (try (refine gate_guard (by rfl) ?_; dsimp only)); refine Kd.R_lit (Kd.int .i64) _ 3 ?hg (N := 57) ?hd (xs := ([0, 1, 2] : List Int)) (inner := [.int .i64 0, .int .i64 1, .int .i64 2]) (ok := fun _ => True) (okp := fun _ => True) ?hr ?hp (fun _ hk => hk) trivial (Below.refl _ _) (Nat.le_refl _) (by simp) ?_; (case hd => rfl); (case hg => rfl); (case hr => first | (go_simp; done) | (go_simp; rfl)); (case hp => exact (Reps.one (show Kd.M (Kd.int .i64) _ _ _ 0 [.int .i64 0] from rfl) (Reps.one (show Kd.M (Kd.int .i64) _ _ _ 1 [.int .i64 1] from rfl) (Reps.one (show Kd.M (Kd.int .i64) _ _ _ 2 [.int .i64 2] from rfl) (Reps.none _ _))))); intro v166 w69 ho70 hb hg_ hnew_; clear hg_ hnew_; (first | rw [← Ny165.out] at ho70 | (simp only [Int.reduceToNat] at ho70; rw [← Ny165.out] at ho70)); have n0_ := Aside0.mk (Kd.R_elder' (by (with_reducible repeat (first | apply Kd.R_alloc | apply Kd.R_drewN | apply Kd.R_drew)); exact HO134.out) (Kd.R_base ho70) hb); have n1_ := Aside0.mk (Kd.R_elder' (by (with_reducible repeat (first | apply Kd.R_alloc | apply Kd.R_drewN | apply Kd.R_drew)); exact HO139.out) (Kd.R_base ho70) hb); have n2_ := Aside0.mk (Kd.R_elder' (by (with_reducible repeat (first | apply Kd.R_alloc | apply Kd.R_drewN | apply Kd.R_drew)); exact HO142.out) (Kd.R_base ho70) hb); have n3_ := Aside0.mk (Kd.R_elder' (by (with_reducible repeat (first | apply Kd.R_alloc | apply Kd.R_drewN | apply Kd.R_drew)); exact HO147.out) (Kd.R_base ho70) hb); have n4_ := Aside0.mk (Kd.R_elder' (by (with_reducible repeat (first | apply Kd.R_alloc | apply Kd.R_drewN | apply Kd.R_drew)); exact HO150.out) (Kd.R_base ho70) hb); have n5_ := Aside0.mk (Kd.R_elder' (by (with_reducible repeat (first | apply Kd.R_alloc | apply Kd.R_drewN | apply Kd.R_drew)); exact HO155.out) (Kd.R_base ho70) hb); have n6_ := Aside0.mk (Kd.R_elder' (by (with_reducible repeat (first | apply Kd.R_alloc | apply Kd.R_drewN | apply Kd.R_drew)); exact HO160.out) (Kd.R_base ho70) hb); have n7_ := Aside0.mk (Kd.R_elder' (by (with_reducible repeat (first | apply Kd.R_alloc | apply Kd.R_drewN | apply Kd.R_drew)); exact HO164.out) (Kd.R_base ho70) hb); have n8_ := Aside0.mk (Kd.R_lower (Kd.R_new' (Kd.R_new' (Kd.R_new' (Kd.R_new' (Kd.R_new' (Kd.R_new' (Kd.R_new' (Kd.R_new' ho70 (Kd.R_lt (by (with_reducible repeat (first | apply Kd.R_alloc | apply Kd.R_drewN | apply Kd.R_drew)); exact HO134.out))) (Kd.R_lt (by (with_reducible repeat (first | apply Kd.R_alloc | apply Kd.R_drewN | apply Kd.R_drew)); exact HO139.out))) (Kd.R_lt (by (with_reducible repeat (first | apply Kd.R_alloc | apply Kd.R_drewN | apply Kd.R_drew)); exact HO142.out))) (Kd.R_lt (by (with_reducible repeat (first | apply Kd.R_alloc | apply Kd.R_drewN | apply Kd.R_drew)); exact HO147.out))) (Kd.R_lt (by (with_reducible repeat (first | apply Kd.R_alloc | apply Kd.R_drewN | apply Kd.R_drew)); exact HO150.out))) (Kd.R_lt (by (with_reducible repeat (first | apply Kd.R_alloc | apply Kd.R_drewN | apply Kd.R_drew)); exact HO155.out))) (Kd.R_lt (by (with_reducible repeat (first | apply Kd.R_alloc | apply Kd.R_drewN | apply Kd.R_drew)); exact HO160.out))) (Kd.R_lt (by (with_reducible repeat (first | apply Kd.R_alloc | apply Kd.R_drewN | apply Kd.R_drew)); exact HO164.out))) (below_size (by repeat (first | (with_reducible first | exact HB.out | apply below_alloc | apply pw_below_drewN | apply below_drew1) | exact HB.out)))); have n9_ := Aside0.mk (below_step (by repeat (first | (with_reducible first | exact HB.out | apply below_alloc | apply pw_below_drewN | apply below_drew1) | exact HB.out)) hb); clear HO134; clear HO139; clear HO142; clear HO147; clear HO150; clear HO155; clear HO160; clear HO164; clear HB; have HO134 := n0_; have HO139 := n1_; have HO142 := n2_; have HO147 := n3_; have HO150 := n4_; have HO155 := n5_; have HO160 := n6_; have HO164 := n7_; have HO167 := n8_; have HB := n9_; clear n0_ n1_ n2_ n3_ n4_ n5_ n6_ n7_ n8_ n9_; clear hb ho70; obtain ⟨Ao71, co71, eo71⟩ := Kd.R_slice HO147.out; subst eo71; obtain ⟨Ao72, co72, eo72⟩ := Kd.R_slice HO167.out; subst eo72) | (go_at_call 23; (with_reducible refine (tickinglaw02_ints.calls k _ _ t144 _ _ y165 true _ ?side1 ?side2 ?side3 ?side4 A31.out).mono ?_); (case side1 => repeat (first | exact (Kd.R_reads' HO147.out).2.2 | (with_reducible refine Kd.C_alloc ?_ _) | (with_reducible refine Kd.C_drewN ?_ _) | (with_reducible refine Kd.C_drew ?_))); (case side2 => exact (Kd.R_reads' HO147.out).2.1); (case side3 => repeat (first | exact (Kd.R_reads' HO167.out).2.2 | (with_reducible refine Kd.C_alloc ?_ _) | (with_reducible refine Kd.C_drewN ?_ _) | (with_reducible refine Kd.C_drew ?_))); (case side4 => exact (Kd.R_reads' HO167.out).2.1); rintro e w' ⟨rfl, ⟨nd, rfl⟩⟩))
                go_meet
                case rel => exact ⟨_, (true), (by first | rfl | (simp; done) | (simp [*]; done)), H', ⟨by first | omega | exact Nat.le_refl _⟩, ⟨by repeat (first | (with_reducible first | exact HB.out | apply below_alloc | apply pw_below_drewN | apply below_drew1) | exact HB.out)⟩⟩
            · replace c32 := Bool.eq_false_iff.mpr c32
              subst c32
              have H1 : (tickinglaw02_awake.j0 k true) = some r := by rw [if_neg (show ¬ (false = true) by decide)] at H; exact H
              clear H
              have H := H1
              clear H1
              have H' := Aside0.mk H
              clear H
              obtain ⟨Ao73, co73, eo73⟩ := Kd.R_slice HO139.out
              subst eo73
              go_wp2_with (first | ((with_reducible refine gate_dst (N := 57) rfl ?_); (try (refine gate_guard (by rfl) ?_; dsimp only)); refine Kd.R_lit (Kd.int .i64) _ 3 ?hg (N := 57) ?hd (xs := ([0, 1, 2] : List Int)) (inner := [.int .i64 0, .int .i64 1, .int .i64 2]) (ok := fun _ => True) (okp := fun _ => True) ?hr ?hp (fun _ hk => hk) trivial (Below.refl _ _) (Nat.le_refl _) (by simp) ?_; (case hd => rfl); (case hg => rfl); (case hr => first | (go_simp; done) | (go_simp; rfl)); (case hp => exact (Reps.one (show Kd.M (Kd.int .i64) _ _ _ 0 [.int .i64 0] from rfl) (Reps.one (show Kd.M (Kd.int .i64) _ _ _ 1 [.int .i64 1] from rfl) (Reps.one (show Kd.M (Kd.int .i64) _ _ _ 2 [.int .i64 2] from rfl) (Reps.none _ _))))); intro v166 w74 ho75 hb hg_ hnew_; clear hg_ hnew_; (first | rw [← Ny165.out] at ho75 | (simp only [Int.reduceToNat] at ho75; rw [← Ny165.out] at ho75)); have n0_ := Aside0.mk (Kd.R_elder' (by (with_reducible repeat (first | apply Kd.R_alloc | apply Kd.R_drewN | apply Kd.R_drew)); exact HO134.out) (Kd.R_base ho75) hb); have n1_ := Aside0.mk (Kd.R_elder' (by (with_reducible repeat (first | apply Kd.R_alloc | apply Kd.R_drewN | apply Kd.R_drew)); exact HO139.out) (Kd.R_base ho75) hb); have n2_ := Aside0.mk (Kd.R_elder' (by (with_reducible repeat (first | apply Kd.R_alloc | apply Kd.R_drewN | apply Kd.R_drew)); exact HO142.out) (Kd.R_base ho75) hb); have n3_ := Aside0.mk (Kd.R_elder' (by (with_reducible repeat (first | apply Kd.R_alloc | apply Kd.R_drewN | apply Kd.R_drew)); exact HO147.out) (Kd.R_base ho75) hb); have n4_ := Aside0.mk (Kd.R_elder' (by (with_reducible repeat (first | apply Kd.R_alloc | apply Kd.R_drewN | apply Kd.R_drew)); exact HO150.out) (Kd.R_base ho75) hb); have n5_ := Aside0.mk (Kd.R_elder' (by (with_reducible repeat (first | apply Kd.R_alloc | apply Kd.R_drewN | apply Kd.R_drew)); exact HO155.out) (Kd.R_base ho75) hb); have n6_ := Aside0.mk (Kd.R_elder' (by (with_reducible repeat (first | apply Kd.R_alloc | apply Kd.R_drewN | apply Kd.R_drew)); exact HO160.out) (Kd.R_base ho75) hb); have n7_ := Aside0.mk (Kd.R_elder' (by (with_reducible repeat (first | apply Kd.R_alloc | apply Kd.R_drewN | apply Kd.R_drew)); exact HO164.out) (Kd.R_base ho75) hb); have n8_ := Aside0.mk (Kd.R_lower (Kd.R_new' (Kd.R_new' (Kd.R_new' (Kd.R_new' (Kd.R_new' (Kd.R_new' (Kd.R_new' (Kd.R_new' ho75 (Kd.R_lt (by (with_reducible repeat (first | apply Kd.R_alloc | apply Kd.R_drewN | apply Kd.R_drew)); exact HO134.out))) (Kd.R_lt (by (with_reducible repeat (first | apply Kd.R_alloc | apply Kd.R_drewN | apply Kd.R_drew)); exact HO139.out))) (Kd.R_lt (by (with_reducible repeat (first | apply Kd.R_alloc | apply Kd.R_drewN | apply Kd.R_drew)); exact HO142.out))) (Kd.R_lt (by (with_reducible repeat (first | apply Kd.R_alloc | apply Kd.R_drewN | apply Kd.R_drew)); exact HO147.out))) (Kd.R_lt (by (with_reducible repeat (first | apply Kd.R_alloc | apply Kd.R_drewN | apply Kd.R_drew)); exact HO150.out))) (Kd.R_lt (by (with_reducible repeat (first | apply Kd.R_alloc | apply Kd.R_drewN | apply Kd.R_drew)); exact HO155.out))) (Kd.R_lt (by (with_reducible repeat (first | apply Kd.R_alloc | apply Kd.R_drewN | apply Kd.R_drew)); exact HO160.out))) (Kd.R_lt (by (with_reducible repeat (first | apply Kd.R_alloc | apply Kd.R_drewN | apply Kd.R_drew)); exact HO164.out))) (below_size (by repeat (first | (with_reducible first | exact HB.out | apply below_alloc | apply pw_below_drewN | apply below_drew1) | exact HB.out)))); have n9_ := Aside0.mk (below_step (by repeat (first | (with_reducible first | exact HB.out | apply below_alloc | apply pw_below_drewN | apply below_drew1) | exact HB.out)) hb); clear HO134; clear HO139; clear HO142; clear HO147; clear HO150; clear HO155; clear HO160; clear HO164; clear HB; have HO134 := n0_; have HO139 := n1_; have HO142 := n2_; have HO147 := n3_; have HO150 := n4_; have HO155 := n5_; have HO160 := n6_; have HO164 := n7_; have HO167 := n8_; have HB := n9_; clear n0_ n1_ n2_ n3_ n4_ n5_ n6_ n7_ n8_ n9_; clear hb ho75; obtain ⟨Ao76, co76, eo76⟩ := Kd.R_slice HO147.out; subst eo76; obtain ⟨Ao77, co77, eo77⟩ := Kd.R_slice HO167.out; subst eo77) | (go_at_call 23; (with_reducible refine (tickinglaw02_ints.calls k _ _ t144 _ _ y165 false _ ?side1 ?side2 ?side3 ?side4 A31.out).mono ?_); (case side1 => repeat (first | exact (Kd.R_reads' HO147.out).2.2 | (with_reducible refine Kd.C_alloc ?_ _) | (with_reducible refine Kd.C_drewN ?_ _) | (with_reducible refine Kd.C_drew ?_))); (case side2 => exact (Kd.R_reads' HO147.out).2.1); (case side3 => repeat (first | exact (Kd.R_reads' HO167.out).2.2 | (with_reducible refine Kd.C_alloc ?_ _) | (with_reducible refine Kd.C_drewN ?_ _) | (with_reducible refine Kd.C_drew ?_))); (case side4 => exact (Kd.R_reads' HO167.out).2.1); rintro e w' ⟨rfl, ⟨nd, rfl⟩⟩))
              go_meet
              case rel => exact ⟨_, (true), (by first | rfl | (simp; done) | (simp [*]; done)), H', ⟨by first | omega | exact Nat.le_refl _⟩, ⟨by repeat (first | (with_reducible first | exact HB.out | apply below_alloc | apply pw_below_drewN | apply below_drew1) | exact HB.out)⟩⟩
          · rw [if_neg c30] at H
            have c30b0 : (t145 == 0) = false := beq_eq_false_iff_ne.mpr c30
            have c30b1 : (t145 != 0) = true := bne_iff_ne.mpr c30
            have H' := Aside0.mk H
            clear H
            obtain ⟨Ao78, co78, eo78⟩ := Kd.R_slice HO139.out
            subst eo78
            go_wp2
            go_meet
            case rel => exact ⟨_, (true), (by first | rfl | (simp; done) | (simp [*]; done)), H', ⟨by first | omega | exact Nat.le_refl _⟩, ⟨by repeat (first | (with_reducible first | exact HB.out | apply below_alloc | apply pw_below_drewN | apply below_drew1) | exact HB.out)⟩⟩
        · rw [if_neg c29] at H
          have c29b0 : ((t136.length : Int) == 0) = false := beq_eq_false_iff_ne.mpr c29
          have c29b1 : ((t136.length : Int) != 0) = true := bne_iff_ne.mpr c29
          have c29b2 : ¬ (t136 = []) := fun h_ => c29 (by rw [h_]; rfl)
          have H' := Aside0.mk H
          clear H
          obtain ⟨Ao79, co79, eo79⟩ := Kd.R_slice HO139.out
          subst eo79
          go_wp2
          go_meet
          case rel => exact ⟨_, (true), (by first | rfl | (simp; done) | (simp [*]; done)), H', ⟨by first | omega | exact Nat.le_refl _⟩, ⟨by repeat (first | (with_reducible first | exact HB.out | apply below_alloc | apply pw_below_drewN | apply below_drew1) | exact HB.out)⟩⟩
      · rw [if_neg c28] at H
        have c28b0 : (t135.toList == ([105, 105, 111, 111, 105, 111] : List UInt8)) = false := beq_eq_false_iff_ne.mpr c28
        have c28b1 : (t135.toList != ([105, 105, 111, 111, 105, 111] : List UInt8)) = true := bne_iff_ne.mpr c28
        have H' := Aside0.mk H
        clear H
        go_wp2
        go_meet
        case rel => exact ⟨_, (true), (by first | rfl | (simp; done) | (simp [*]; done)), H', ⟨by first | omega | exact Nat.le_refl _⟩, ⟨by repeat (first | (with_reducible first | exact HB.out | apply below_alloc | apply pw_below_drewN | apply below_drew1) | exact HB.out)⟩⟩
    · rw [if_neg c27] at H
      have c27b0 : (t137 == 0) = false := beq_eq_false_iff_ne.mpr c27
      have c27b1 : (t137 != 0) = true := bne_iff_ne.mpr c27
      (first | rw [c27b0] | (simp only [i64_w, i32_w]; rw [c27b0]) | skip)
      have H' := Aside0.mk H
      clear H
      go_wp2
      go_meet
      case rel => exact ⟨_, (true), (by first | rfl | (simp; done) | (simp [*]; done)), H', ⟨by first | omega | exact Nat.le_refl _⟩, ⟨by repeat (first | (with_reducible first | exact HB.out | apply below_alloc | apply pw_below_drewN | apply below_drew1) | exact HB.out)⟩⟩
  case rest =>
    clear HC6
    try clear c1
    try clear c2
    try clear p2
    try clear c3
    try clear c19
    try clear c20
    try clear c22
    try clear c27
    try clear c27b0
    try clear c27b1
    try clear c28
    try clear c28b0
    try clear c28b1
    try clear c29
    try clear c29b0
    try clear c29b1
    try clear c29b2
    try clear c30
    try clear c30b0
    try clear c30b1
    try clear c32
    try clear c33
    try clear c33b0
    try clear c33b1
    try clear c34
    try clear c34b0
    try clear c34b1
    try clear c35
    try clear c35b0
    try clear c35b1
    try clear c36
    try clear c36b0
    try clear c36b1
    try clear c37
    try clear c37b0
    try clear c37b1
    obtain ⟨kq, x86_5, rfl, HA, HJ5, HB⟩ := hcut
    cases kq with
    | zero => exact absurd HA.out (by simp [tickinglaw02_awake.j0])
    | succ kj5 =>
      have H := HA.out
      clear HA
      simp only [tickinglaw02_awake.j0] at H
      by_cases c80 : x86_5 = true
      · subst c80
        have H1 : (some false) = some r := by rw [if_pos rfl] at H; exact H
        clear H
        have H := H1
        clear H1
        obtain rfl := Option.some.inj H
        go_wp2
        go_ret
        exact ⟨by first | rfl | (simp [errW_none, errW_some] <;> rfl) | (simp [*, errW_none, errW_some] <;> rfl), by repeat (first | (with_reducible first | exact HB.out | apply below_alloc | apply pw_below_drewN | apply below_drew1) | exact HB.out)⟩
      · replace c80 := Bool.eq_false_iff.mpr c80
        subst c80
        have H1 : (some true) = some r := by rw [if_neg (show ¬ (false = true) by decide)] at H; exact H
        clear H
        have H := H1
        clear H1
        obtain rfl := Option.some.inj H
        go_wp2
        go_ret
        exact ⟨by first | rfl | (simp [errW_none, errW_some] <;> rfl) | (simp [*, errW_none, errW_some] <;> rfl), by repeat (first | (with_reducible first | exact HB.out | apply below_alloc | apply pw_below_drewN | apply below_drew1) | exact HB.out)⟩

end Go.Proofs.Ytjbjongahnocdaa.S

-- By hand, in the form of the print's texts: the print does not take a store into an element's row.
namespace Go.Proofs.Ytjbjongahnocdaa.S
open Go.Proofs.Ytjbjongahnocdaa.Lib
open Go.Proofs.Ytjbjongahnocdaa.Defs
open Go.Maps (Keyed)
open Go.RowKit Go.Proofs.YtjbjongahnocdaaW.PrintWords Go.Proofs.YtjbjongahnocdaaW.PrintLast Go.Proofs.YtjbjongahnocdaaW.PrintMore
attribute [local go_sem] max2_int min2_int max_two min_two max_three min_three max_four min_four   -- for this text's walks alone
set_option linter.unusedVariables false
set_option linter.unusedSimpArgs false

/-! ### tickinglaw02_ShuntOwn: function 15 -/
/-- Each of the n elements of a row may be written: it lies in a block of cells from base on, another one than gA. -/
def WrAt (W : World) (base gA : Nat) (v : Value) (n : Nat) : Prop := ∃ A c, v = .slice A n c ∧ (n : Int) ≤ 9223372036854775807 ∧ (0 < n → ∃ g cells ty, A = some ⟨g, 0, none⟩ ∧ base ≤ g ∧ g ≠ gA ∧ W.heap[g]? = some (.cells cells ty (0, 0)) ∧ n ≤ cells.size)
theorem WrAt.of_row {W : World} {base gA : Nat} {ok : Nat → Prop} {v : Value} {xs : List Int} (h : Kd.R (Kd.int .i64) 3 W base ok v xs) (hA : W.heap.size ≤ gA) : WrAt W base gA v xs.length := by
  obtain ⟨A, c, e⟩ := Kd.R_slice h
  subst e
  refine ⟨A, c, rfl, by have := (Kd.R_reads' h).2.2.2.1; omega, fun hn => ?_⟩
  obtain ⟨g, cap, e, hb, hl, cells, hc⟩ := Kd.R_form h hn
  injection e with e _ _
  subst e
  obtain ⟨ad, ea, hx⟩ := Kd.at_int (Kd.R_reads' h).2.2 ((xs.length - 1 : Nat) : Int) (by omega) (by omega)
  injection ea with ea
  subst ea
  have e0 : (⟨g, 0, none⟩ : Addr).add (((xs.length - 1 : Nat) : Int)).toNat = ⟨g, xs.length - 1, none⟩ := by
    rw [Int.toNat_natCast]
    unfold Addr.add
    split
    · simp_all
    · simp
  rw [e0, blk_cell hc] at hx
  refine ⟨g, cells, 3, rfl, hb, by omega, hc, ?_⟩
  apply Nat.le_of_not_lt
  intro hlt
  rw [Array.getElem?_eq_none (by omega)] at hx
  cases hx
theorem WrAt.at_ {W : World} {base gA : Nat} {A : Option Addr} {n c : Nat} (h : WrAt W base gA (.slice A n c) n) (k : Nat) (hk : k < n) : ∃ g, A = some ⟨g, 0, none⟩ ∧ base ≤ g ∧ g ≠ gA ∧ (∃ u, W.cell? ⟨g, k, none⟩ = some u) ∧ W.frozen? ⟨g, k, none⟩ = false := by
  obtain ⟨A', c', e, _, h⟩ := h
  injection e with e _ _
  subst e
  obtain ⟨g, cells, ty, e1, e2, e3, e4, e5⟩ := h (by omega)
  exact ⟨g, e1, e2, e3, ⟨cells[k], (blk_cell e4 k).trans (Array.getElem?_eq_getElem (by omega))⟩, blk_frozen e4 k⟩
theorem WrAt.alloc {W : World} {base gA : Nat} {v : Value} {n : Nat} (h : WrAt W base gA v n) (o : Obj) : WrAt (W.alloc o) base gA v n := by
  obtain ⟨A, c, e, hm, h⟩ := h
  refine ⟨A, c, e, hm, fun hn => ?_⟩
  obtain ⟨g, cells, ty, e1, e2, e3, e4, e5⟩ := h hn
  exact ⟨g, cells, ty, e1, e2, e3, (Below.heap_alloc W o g (blk_lt e4)).trans e4, e5⟩
structure OwnAt (w2 W : World) (gA : Nat) (vs : Array Value) : Prop where
  below : Below w2.heap.size w2 W
  blk : W.heap[gA]? = some (.cells vs 22 (0, 0))
  rows : ∀ i : Nat, i < vs.size → ∃ v n, vs[i]? = some v ∧ WrAt W w2.heap.size gA v n
theorem OwnAt.set {w2 W : World} {gA : Nat} {vs : Array Value} (h : OwnAt w2 W gA vs) {g k : Nat} (hg : w2.heap.size ≤ g) (hne : g ≠ gA) (u : Value) : OwnAt w2 (W.setCell ⟨g, k, none⟩ u) gA vs := by
  refine ⟨Below.setCell h.below (p := ⟨g, k, none⟩) hg u, (Below.heap_setCell W _ u gA (fun e => hne e.symm)).trans h.blk, fun i hi => ?_⟩
  obtain ⟨v, n, e, A, c, hv, hm, hr⟩ := h.rows i hi
  refine ⟨v, n, e, A, c, hv, hm, fun hn => ?_⟩
  obtain ⟨g', cells, ty, e1, e2, e3, e4, e5⟩ := hr hn
  by_cases c1 : g' = g
  · subst c1
    exact ⟨g', cells.setIfInBounds k u, ty, e1, e2, e3, blk_put e4 k u rfl, by rw [Array.size_setIfInBounds]; exact e5⟩
  · exact ⟨g', cells, ty, e1, e2, e3, (Below.heap_setCell W ⟨g, k, none⟩ u g' c1).trans e4, e5⟩
theorem OwnAt.drewN {w2 W : World} {gA : Nat} {vs : Array Value} (h : OwnAt w2 W gA vs) (n : Nat) : OwnAt w2 (W.drewN n) gA vs := ⟨pw_below_drewN h.below n, h.blk, h.rows⟩
def tickinglaw02_ShuntOwn.f (k : Nat) (l0 : List Int) : Option Bool :=
  (tickinglaw02_tame.f k l0 25).bind fun o => (tickinglaw02_list.f o).bind fun o' => (shunt_Stack.f k o).bind fun x => (shunt_Queues.f k o 2).bind fun y => (shunt_Stacks.f k o).bind fun z => (shunt_Pass.f o).bind fun p =>
    (tickinglaw02_ints.f k o o').bind fun q1 => (tickingref02_Pass.f k o').bind fun rp => (tickinglaw02_ints.f k p.1 rp).bind fun q2 =>
      if x.2.2 = 0 ∧ y.2.2 = 0 ∧ z.2.2 = 0 ∧ p.2 = 0 ∧ q1 = true ∧ q2 = true then tickinglaw02_awake.f k else none

set_option maxHeartbeats 8000000 in
set_option maxRecDepth 100000 in
theorem tickinglaw02_ShuntOwn.calls (k : Nat) (A0 : Option Addr) (c0 : Nat) (l0 : List Int) (r : Bool) (w : World) (hr0 : Kd.C (Kd.int .i64) w A0 l0.length l0) (hc0 : l0.length ≤ c0) (h : tickinglaw02_ShuntOwn.f k l0 = some r) :
    Calls Try.prog 15 #[.slice A0 l0.length c0] w fun e w' => e = .returned (.bool r) ∧ Below w.heap.size w w' := by
  unfold tickinglaw02_ShuntOwn.f at h
  replace h := Option.bind_eq_some_iff.mp h
  obtain ⟨o, ho, h⟩ := h
  replace h := Option.bind_eq_some_iff.mp h
  obtain ⟨o', ho', h⟩ := h
  replace h := Option.bind_eq_some_iff.mp h
  obtain ⟨⟨p1, a, e1⟩, hx1, h⟩ := h
  replace h := Option.bind_eq_some_iff.mp h
  obtain ⟨⟨b, c, e2⟩, hx2, h⟩ := h
  replace h := Option.bind_eq_some_iff.mp h
  obtain ⟨⟨s, d, e3⟩, hx3, h⟩ := h
  replace h := Option.bind_eq_some_iff.mp h
  obtain ⟨⟨l, e4⟩, hx4, h⟩ := h
  replace h := Option.bind_eq_some_iff.mp h
  obtain ⟨q1, hx5, h⟩ := h
  replace h := Option.bind_eq_some_iff.mp h
  obtain ⟨rp, hx6, h⟩ := h
  replace h := Option.bind_eq_some_iff.mp h
  obtain ⟨q2, hx7, h⟩ := h
  by_cases hg : e1 = 0 ∧ e2 = 0 ∧ e3 = 0 ∧ e4 = 0 ∧ q1 = true ∧ q2 = true
  case neg => rw [if_neg hg] at h; cases h
  rw [if_pos hg] at h
  obtain ⟨rfl, rfl, rfl, rfl, rfl, rfl⟩ := hg
  have HT := Aside0.mk (tickinglaw02_tame.calls k A0 c0 l0 25 o w hr0 hc0 ho)
  have HL := Aside0.mk (fun (A : Option Addr) (q : Nat) (W : World) (hr : Kd.C (Kd.int .i64) W A o.length o) (hc : o.length ≤ q) => tickinglaw02_list.calls A q o o' W hr hc ho')
  have HS1 := Aside0.mk (fun (A : Option Addr) (q : Nat) (W : World) (hr : Kd.C (Kd.int .i64) W A o.length o) (hc : o.length ≤ q) => shunt_Stack.calls k A q o p1 a 0 W hr hc hx1)
  have HS2 := Aside0.mk (fun (A : Option Addr) (q : Nat) (W : World) (hr : Kd.C (Kd.int .i64) W A o.length o) (hc : o.length ≤ q) => shunt_Queues.calls k A q o 2 b c 0 W hr hc hx2)
  have HS3 := Aside0.mk (fun (A : Option Addr) (q : Nat) (W : World) (hr : Kd.C (Kd.int .i64) W A o.length o) (hc : o.length ≤ q) => shunt_Stacks.calls k A q o s d 0 W hr hc hx3)
  have HS4 := Aside0.mk (fun (A : Option Addr) (q : Nat) (W : World) (hr : Kd.C (Kd.int .i64) W A o.length o) (hc : o.length ≤ q) => shunt_Pass.calls A q o l 0 W hr hc hx4)
  have HI1 := Aside0.mk (fun (A : Option Addr) (q : Nat) (B : Option Addr) (t : Nat) (W : World) (hr : Kd.C (Kd.int .i64) W A o.length o) (hc : o.length ≤ q) (hr' : Kd.C (Kd.int .i64) W B o'.length o') (hc' : o'.length ≤ t) => tickinglaw02_ints.calls k A q o B t o' true W hr hc hr' hc' hx5)
  have HRP := Aside0.mk (fun (A : Option Addr) (q : Nat) (W : World) (hr : Kd.C (Kd.int .i64) W A o'.length o') (hc : o'.length ≤ q) => tickingref02_Pass.calls k A q o' rp W hr hc hx6)
  have HI2 := Aside0.mk (fun (A : Option Addr) (q : Nat) (B : Option Addr) (t : Nat) (W : World) (hr : Kd.C (Kd.int .i64) W A l.length l) (hc : l.length ≤ q) (hr' : Kd.C (Kd.int .i64) W B rp.length rp) (hc' : rp.length ≤ t) => tickinglaw02_ints.calls k A q l B t rp true W hr hc hr' hc' hx7)
  have HAW := Aside0.mk (fun (W : World) => tickinglaw02_awake.calls k r W h)
  clear hr0 hc0 ho ho' hx1 hx2 hx3 hx4 hx5 hx6 hx7 h
  go_enter Try.func15, Try.ntmps15
  go_wp2_with (first
    | (go_at_call 27; go_must ((with_reducible refine HT.out.mono ?_); rintro e w1 ⟨v1, rfl, hR1, hB1⟩; obtain ⟨A1, c1, e1⟩ := Kd.R_slice hR1; subst e1; have HB1 := Aside0.mk hB1; have HO := Aside0.mk (Kd.R_reads' hR1).2.2; have HOC := Aside0.mk (Kd.R_reads' hR1).2.1; clear hR1 hB1))
    | (go_at_call 18; go_must ((with_reducible refine (HL.out _ _ _ HO.out HOC.out).mono ?_); rintro e w2 ⟨v2, rfl, hR2, hB2⟩; obtain ⟨A2, c2, e2⟩ := Kd.R_slice hR2; subst e2; have HX2 := Aside0.mk hB2; have HO2 := Aside0.mk (Kd.C_below HO.out hB2); have HP := Aside0.mk (Kd.R_reads' hR2).2.2; have HPC := Aside0.mk (Kd.R_reads' hR2).2.1; clear hR2 hB2))
    | (go_at_call 28; go_must ((with_reducible refine (HS1.out _ _ _ HO2.out HOC.out).mono ?_); rintro e w3 ⟨v3, rfl, hR3, hB3⟩; obtain ⟨A3, q3, e3⟩ := Kd.R_slice hR3; subst e3; have HX3 := Aside0.mk hB3; have HR3 := Aside0.mk hR3; clear hR3 hB3))
    | (go_at_call 43; go_must ((with_reducible refine (HS2.out _ _ _ (Kd.C_below HO2.out HX3.out) HOC.out).mono ?_); rintro e w4 ⟨v4, u4, rfl, hR4, hQ4, hB4⟩; obtain ⟨A4, q4, e4⟩ := Kd.R_slice hR4; subst e4; obtain ⟨F4, t4, f4⟩ := Kd.R_slice hQ4; subst f4; have HX4 := Aside0.mk (below_step HX3.out hB4); have HR3 := Aside0.mk (Kd.R_below HR3.out hB4); have HR4 := Aside0.mk (Kd.R_lower hR4 HX3.out.size); have HQ4 := Aside0.mk (Kd.R_lower hQ4 HX3.out.size); clear hR4 hQ4 hB4))
    | (go_at_call 48; go_must ((with_reducible refine (HS3.out _ _ _ (Kd.C_below HO2.out HX4.out) HOC.out).mono ?_); rintro e w5 ⟨v5, u5, rfl, hR5, hQ5, hB5⟩; obtain ⟨A5, q5, e5⟩ := Kd.R_slice hR5; subst e5; obtain ⟨F5, t5, f5⟩ := Kd.R_slice hQ5; subst f5; have HX5 := Aside0.mk (below_step HX4.out hB5); have HR3 := Aside0.mk (Kd.R_below HR3.out hB5); have HR4 := Aside0.mk (Kd.R_below HR4.out hB5); have HQ4 := Aside0.mk (Kd.R_below HQ4.out hB5); have HR5 := Aside0.mk (Kd.R_lower hR5 HX4.out.size); have HQ5 := Aside0.mk (Kd.R_lower hQ5 HX4.out.size); clear hR5 hQ5 hB5))
    | (go_at_call 20; go_must ((with_reducible refine (HS4.out _ _ _ (Kd.C_below HO2.out HX5.out) HOC.out).mono ?_); rintro e w6 ⟨v6, rfl, hR6, hB6⟩; obtain ⟨A6, q6, e6⟩ := Kd.R_slice hR6; subst e6; have HX6 := Aside0.mk (below_step HX5.out hB6); have HR3 := Aside0.mk (Kd.R_below HR3.out hB6); have HR4 := Aside0.mk (Kd.R_below HR4.out hB6); have HQ4 := Aside0.mk (Kd.R_below HQ4.out hB6); have HR5 := Aside0.mk (Kd.R_below HR5.out hB6); have HQ5 := Aside0.mk (Kd.R_below HQ5.out hB6); have HR6 := Aside0.mk (Kd.R_lower hR6 HX5.out.size); clear hR6 hB6)))
  obtain ⟨gA, hgA⟩ : ∃ gA, gA = w6.heap.size := ⟨_, rfl⟩
  obtain ⟨vs, hvs⟩ : ∃ vs : Array Value, vs = #[.slice A3 a.length q3, .slice A4 b.length q4, .slice F4 c.length t4, .slice A5 s.length q5, .slice F5 d.length t5, .slice A6 l.length q6] := ⟨_, rfl⟩
  obtain ⟨w7, hw7⟩ : ∃ w7, w7 = w6.alloc (.cells vs 22) := ⟨_, rfl⟩
  have hown : OwnAt w2 w7 gA vs := by
    rw [hw7]
    refine ⟨below_alloc HX6.out _, by rw [hgA]; exact heap_alloc_new w6 _, fun i hi => ?_⟩
    have hsz : vs.size = 6 := by rw [hvs]; rfl
    have hge : w6.heap.size ≤ gA := by omega
    rw [hsz] at hi
    match i, hi with
    | 0, _ => exact ⟨_, _, by rw [hvs]; rfl, (WrAt.of_row HR3.out hge).alloc _⟩
    | 1, _ => exact ⟨_, _, by rw [hvs]; rfl, (WrAt.of_row HR4.out hge).alloc _⟩
    | 2, _ => exact ⟨_, _, by rw [hvs]; rfl, (WrAt.of_row HQ4.out hge).alloc _⟩
    | 3, _ => exact ⟨_, _, by rw [hvs]; rfl, (WrAt.of_row HR5.out hge).alloc _⟩
    | 4, _ => exact ⟨_, _, by rw [hvs]; rfl, (WrAt.of_row HQ5.out hge).alloc _⟩
    | 5, _ => exact ⟨_, _, by rw [hvs]; rfl, (WrAt.of_row HR6.out hge).alloc _⟩
    | n + 6, h => omega
  have HVS := Aside0.mk (show vs.size = 6 by rw [hvs]; rfl)
  have HOWN := Aside0.mk hown
  rw [← hvs, ← hgA, ← hw7]
  clear hown hw7 hvs hgA HR3 HR4 HQ4 HR5 HQ5 HR6
  go_loopw [17] (fun v17 wr => ∃ i : Int, v17 = .int .i64 i ∧ Aside0 (0 ≤ i ∧ i ≤ 6) ∧ Aside0 (OwnAt w2 wr gA vs)) (fun v17 _ => 6 - (intOf v17).toNat)
  case atStart => exact ⟨0, rfl, ⟨by omega⟩, HOWN⟩
  case round =>
    clear HOWN
    obtain ⟨i, rfl, HI, HW⟩ := hrel
    obtain ⟨i0, i6⟩ := HI.out
    by_cases c1 : i < 6
    · have c1b : decide (i < 6) = true := decide_eq_true c1
      obtain ⟨v, n, hv, hwr⟩ := HW.out.rows i.toNat (by rw [HVS.out]; omega)
      obtain ⟨A, cc, hve, hnm, _⟩ := id hwr
      subst hve
      have HV := Aside0.mk hv
      have HWR := Aside0.mk hwr
      have HNM := Aside0.mk hnm
      have pi := eq_true i0
      have qi := eq_true c1
      have hiw : wrap64 (i + 1) = i + 1 := by unfold wrap64; omega
      clear hv hwr hnm c1
      go_wp2
      go_loopw [18] (fun v18 wr => ∃ j : Int, v18 = .int .i64 j ∧ Aside0 (0 ≤ j ∧ j ≤ n) ∧ Aside0 (OwnAt w2 wr gA vs) ∧ Aside0 (WrAt wr w2.heap.size gA (.slice A n cc) n)) (fun v18 _ => n - (intOf v18).toNat)
      case atStart => exact ⟨0, rfl, ⟨by omega⟩, HW, HWR⟩
      case round =>
        clear HW HWR
        obtain ⟨j, rfl, HJ, HW, HWR⟩ := hrel
        obtain ⟨j0, j1⟩ := HJ.out
        have hxi : wr.cell? ⟨gA, i.toNat, none⟩ = some (.slice A n cc) := (blk_cell HW.out.blk i.toNat).trans HV.out
        by_cases c2 : j < (n : Int)
        · have c2b : decide (j < (n : Int)) = true := decide_eq_true c2
          obtain ⟨g, eA, hg1, hg2, ⟨u, hcu⟩, hfu⟩ := HWR.out.at_ j.toNat (by omega)
          subst eA
          have hW2 := HW.out.set hg1 hg2 (k := j.toNat) (.int .i64 (-1))
          have hWR2 : WrAt (wr.setCell ⟨g, j.toNat, none⟩ (.int .i64 (-1))) w2.heap.size gA (.slice (some ⟨g, 0, none⟩) n cc) n := by
            obtain ⟨v', n', e1, e2⟩ := hW2.rows i.toNat (by rw [HVS.out]; have := of_eq_true pi; have := of_eq_true qi; omega)
            have e3 := HV.out.symm.trans e1
            injection e3 with e3
            subst e3
            obtain ⟨A', c', e4, _⟩ := id e2
            injection e4 with _ e4 _
            rw [e4]
            rw [e4] at e2
            exact e2
          have HW2 := Aside0.mk hW2
          have HWR2 := Aside0.mk hWR2
          have pj := eq_true j0
          have qj := eq_true c2
          have hjw : wrap64 (j + 1) = j + 1 := by have := HNM.out; unfold wrap64; omega
          clear hW2 hWR2 hg1 hg2 j1 c2 HW HWR
          go_wp2
          go_roundw
          case rel => exact ⟨j + 1, by go_num, ⟨by have := of_eq_true pj; have := of_eq_true qj; omega⟩, HW2, HWR2⟩
          case measure => have := of_eq_true pj; have := of_eq_true qj; simp [intOf, hjw]; omega
        · have c2b : decide (j < (n : Int)) = false := decide_eq_false c2
          clear c2 j1
          go_wp2
          go_roundw
          case rel => exact ⟨i + 1, by go_num, ⟨by have := of_eq_true pi; have := of_eq_true qi; omega⟩, HW⟩
          case measure => have := of_eq_true pi; have := of_eq_true qi; simp [intOf, hiw]; omega
    · have c1b : decide (i < 6) = false := decide_eq_false c1
      clear c1 i0 i6
      go_wp2_with (first
        | (go_at_call 20; go_must ((with_reducible refine (HS4.out _ _ _ (Kd.C_below HO2.out HW.out.below) HOC.out).mono ?_); rintro e w8 ⟨v8, rfl, hR8, hB8⟩; obtain ⟨A8, q8, e8⟩ := Kd.R_slice hR8; subst e8; have HX8 := Aside0.mk (below_step HW.out.below hB8); have HM := Aside0.mk (Kd.R_reads' hR8).2.2; have HMC := Aside0.mk (Kd.R_reads' hR8).2.1; clear hR8 hB8))
        | (go_at_call 23; go_must (first
            | ((with_reducible refine (HI1.out _ _ _ _ _ (Kd.C_below HO2.out HX8.out) HOC.out (Kd.C_below HP.out HX8.out) HPC.out).mono ?_); rintro e w9 ⟨rfl, ⟨nd, rfl⟩⟩)
            | ((with_reducible refine (HI2.out _ _ _ _ _ (Kd.C_below (Kd.C_drewN HM.out _) HX9.out) HMC.out HRR.out HRRC.out).mono ?_); rintro e w11 ⟨rfl, ⟨nd2, rfl⟩⟩)))
        | (go_at_call 24; go_must ((with_reducible refine (HRP.out _ _ _ (Kd.C_drewN (Kd.C_below HP.out HX8.out) _) HPC.out).mono ?_); rintro e w10 ⟨v10, rfl, hR10, hB10⟩; obtain ⟨A10, q10, e10⟩ := Kd.R_slice hR10; subst e10; have HX9 := Aside0.mk hB10; have HRR := Aside0.mk (Kd.R_reads' hR10).2.2; have HRRC := Aside0.mk (Kd.R_reads' hR10).2.1; clear hR10 hB10))
        | (go_at_call 22; go_must ((with_reducible refine (HAW.out _).mono ?_); rintro e w12 ⟨rfl, hB12⟩; have HX12 := Aside0.mk hB12; clear hB12)))
      go_ret
      exact ⟨rfl, below_step HB1.out (below_step HX2.out (below_step (below_step (pw_below_drewN HX8.out _) HX9.out) (below_step (pw_below_drewN (Below.refl _ _) _) HX12.out)))⟩

/-- THE ONE PURE STATEMENT of tickinglaw02_ShuntOwn. -/
def tickinglaw02_ShuntOwn.Pure : Prop := ∀ (l0 : List Int), l0.length ≤ maxLen → l0.length * 8 ≤ 140737488351232 → (∀ x ∈ l0, (Lit.int .i64 x).wf = true) → ∃ k, tickinglaw02_ShuntOwn.f k l0 = some true
theorem tickinglaw02_ShuntOwn.walk (P : tickinglaw02_ShuntOwn.Pure) (a0 : Option Addr) (len0 cap0 : Nat) (z0 : List Int) (w : World) (w0 : (a0 = none ∧ len0 = 0 ∧ cap0 = 0 ∧ z0 = []) ∨ ∃ x, a0 = some x ∧ len0 ≤ cap0 ∧ cap0 ≤ maxLen ∧ z0.length = cap0 ∧ (∀ i, i < z0.length → w.cell? (x.add i) = some (.int .i64 (z0.getD i 0))) ∧ ∀ n ∈ z0, (Lit.int .i64 n).wf = true) (y0 : len0 * 8 ≤ 140737488351232) :
    Calls Try.prog 15 #[.slice a0 len0 cap0] w fun e w' => e = .returned (.bool true) ∧ Below w.heap.size w w' := by
  obtain ⟨l0, rfl, hr0, hm0, hw0, hc0⟩ := ReadsInt.ofRowC w0
  obtain ⟨k, h⟩ := P l0 hm0 y0 hw0
  refine (tickinglaw02_ShuntOwn.calls k _ _ l0 true w (Kd.C_of_reads (d := (0 : Int)) (h1 := fun _ => rfl) hr0) hc0 h).mono ?_
  rintro e w' ⟨rfl, hd⟩
  exact ⟨rfl, hd⟩

end Go.Proofs.Ytjbjongahnocdaa.S

/- Small facts for the plain laws: whole numbers that do not wrap, reads of lists, rounds. -/
namespace Go.Proofs.Ytjbjongahnocdaa.P
open Go.RowKit Go.Proofs.YtjbjongahnocdaaW.PrintWords

theorem w64 {x : Int} (h0 : -9223372036854775808 ≤ x) (h1 : x ≤ 9223372036854775807) : wrap64 x = x := by
  unfold wrap64
  omega

theorem rd_nat (l : List Int) (i : Nat) : rd l (i : Int) = l.getD i 0 := by
  unfold rd
  rw [show ((i : Int)).toNat = i by omega]

theorem rd_lt (l : List Int) (i : Nat) (h : i < l.length) : rd l (i : Int) = l[i] := by
  rw [rd_nat, List.getD_eq_getElem?_getD, List.getElem?_eq_getElem h, Option.getD_some]

theorem rd_mem {l : List Int} {x : Int} (h0 : 0 ≤ x) (h1 : x < l.length) : rd l x ∈ l := by
  obtain ⟨n, rfl⟩ := Int.eq_ofNat_of_zero_le h0
  rw [rd_lt l n (by omega)]
  exact List.getElem_mem _

theorem drop_cons (l : List Int) (i : Nat) (h : i < l.length) : l.drop i = rd l (i : Int) :: l.drop (i + 1) := by
  rw [rd_lt l i h, List.drop_eq_getElem_cons h]

theorem nodup_len : ∀ (n : Nat) (l : List Int) (lo : Int), l.Nodup → (∀ a ∈ l, lo < a ∧ a ≤ lo + n) → l.length ≤ n
  | 0, l, lo, _, h => by
    cases l with
    | nil => simp
    | cons a t => have := h a (by simp); omega
  | n + 1, l, lo, hd, h => by
    have h1 := nodup_len n (l.erase (lo + 1)) (lo + 1) (hd.erase _) (fun a ha => by
      have hm := List.mem_of_mem_erase ha
      have hne : a ≠ lo + 1 := fun e => by
        subst e
        exact (List.Nodup.not_mem_erase hd) ha
      have := h a hm
      omega)
    have h2 : l.length ≤ (l.erase (lo + 1)).length + 1 := by
      rw [List.length_erase]
      split <;> omega
    omega

theorem full_range (n : Nat) (l : List Int) (lo : Int) (hd : l.Nodup) (h : ∀ a ∈ l, lo < a ∧ a ≤ lo + n) (hl : l.length = n) (v : Int) (h0 : lo < v) (h1 : v ≤ lo + n) : v ∈ l := by
  by_cases hv : v ∈ l
  · exact hv
  · have := nodup_len n (v :: l) lo (List.nodup_cons.2 ⟨hv, hd⟩) (fun a ha => by
      rcases List.mem_cons.1 ha with rfl | ha
      · exact ⟨h0, h1⟩
      · exact h a ha)
    rw [List.length_cons] at this
    omega

end Go.Proofs.Ytjbjongahnocdaa.P

namespace Go.Proofs.Ytjbjongahnocdaa.S
open Go.Proofs.Ytjbjongahnocdaa.Lib
open Go.Proofs.Ytjbjongahnocdaa.Defs
open Go.Maps (Keyed)
open Go.RowKit Go.Proofs.YtjbjongahnocdaaW.PrintWords Go.Proofs.YtjbjongahnocdaaW.PrintLast Go.Proofs.YtjbjongahnocdaaW.PrintMore
attribute [local go_sem] max2_int min2_int max_two min_two max_three min_three max_four min_four   -- for this text's walks alone
set_option linter.unusedVariables false
set_option linter.unusedSimpArgs false

/-! ### tickingref02_has: function 59 -/
def tickingref02_has.l0 : Nat → List Int → Int → Int → Option (Bool)
  | 0, _, _, _ => none
  | k + 1, x0, x1, x5 => if x5 < (x0.length : Int) then (if 0 ≤ x5 then (if (rd x0 x5) = x1 then (some true) else (tickingref02_has.l0 k x0 x1 (wrap64 (x5 + 1)))) else (none)) else (some false)
def tickingref02_has.f (k : Nat) (l0 : List Int) (a1 : Int) : Option (Bool) := tickingref02_has.l0 k l0 a1 0
theorem tickingref02_has.mono_l : ∀ k, (∀ y0 y1 y2, LeO (tickingref02_has.l0 k y0 y1 y2) (tickingref02_has.l0 (k + 1) y0 y1 y2))
  | 0 => fun _ _ _ r h => by simp [tickingref02_has.l0] at h
  | k + 1 => by
    have ih0 := tickingref02_has.mono_l k
    · intro y0 y1 y2
      unfold tickingref02_has.l0
      repeat' first
      | (with_reducible exact ih0 _ _ _)
      | (with_reducible exact LeO.refl _)
      | (with_reducible exact LeO.none _)
      | (with_reducible refine LeO.ite ?_ ?_)
      | (with_reducible refine LeO.bind ?_ (fun _ => ?_))
      | exact ih0 _ _ _
      | exact LeO.none _
      | refine LeO.ite ?_ ?_
      | refine LeO.bind ?_ (fun _ => ?_)
theorem tickingref02_has.mono : ∀ a0 a1 k, LeO (tickingref02_has.f k a0 a1) (tickingref02_has.f (k + 1) a0 a1) := by
  intro a0 a1 k
  have ih0 := tickingref02_has.mono_l k
  unfold tickingref02_has.f
  repeat' first
      | (with_reducible exact ih0 _ _ _)
      | (with_reducible exact LeO.refl _)
      | (with_reducible exact LeO.none _)
      | (with_reducible refine LeO.ite ?_ ?_)
      | (with_reducible refine LeO.bind ?_ (fun _ => ?_))
      | exact ih0 _ _ _
      | exact LeO.none _
      | refine LeO.ite ?_ ?_
      | refine LeO.bind ?_ (fun _ => ?_)
set_option maxHeartbeats 8000000 in
set_option maxRecDepth 100000 in
theorem tickingref02_has.calls (k : Nat) (A0 : Option Addr) (c0 : Nat) (l0 : List Int) (a1 : Int) (r : Bool) (w : World) (hr0 : Kd.C (Kd.int .i64) w A0 l0.length l0) (hc0 : l0.length ≤ c0) (h : tickingref02_has.f k l0 a1 = some r) :
    Calls Try.prog 59 #[.slice A0 l0.length c0, .int .i64 a1] w fun e w' => e = .returned (.bool r) ∧ Drawn0 w w' := by
  have HR0 := Aside0.mk hr0
  have HC0 := Aside0.mk hc0
  clear hr0 hc0
  have H : (tickingref02_has.l0 k l0 a1 0) = some r := h
  clear h
  have H' := Aside0.mk H
  clear H
  go_enter Try.func59, Try.ntmps59
  go_wp2
  go_loopg [5] k (fun kq v5 w' => ∃ (x5_1 : Int), v5 = .int .i64 x5_1 ∧ Aside0 (tickingref02_has.l0 kq l0 a1 x5_1 = some r) ∧ Aside0 (kq ≤ k) ∧ Drawn0 w w')
  case atStart => exact ⟨(0), (by first | rfl | (simp; done) | (simp [*]; done)), H', ⟨Nat.le_refl _⟩, by repeat (first | exact Drawn0.refl _ | apply Drawn0.step)⟩
  case round =>
    clear H'
    try clear p2
    obtain ⟨x5_1, rfl, HA, HK1, ⟨m1, rfl⟩⟩ := hrel
    cases gk with
    | zero => exact absurd HA.out (by simp [tickingref02_has.l0])
    | succ k1 =>
      have H := HA.out
      clear HA
      simp only [tickingref02_has.l0] at H
      by_cases c3 : x5_1 < (l0.length : Int)
      · rw [if_pos c3] at H
        have c3b0 : decide (x5_1 < (l0.length : Int)) = true := decide_eq_true c3
        clear c3
        by_cases c4 : 0 ≤ x5_1
        · rw [if_pos c4] at H
          have c4b0 : decide (0 ≤ x5_1) = true := decide_eq_true c4
          clear c4
          by_cases c5 : (rd l0 x5_1) = a1
          · rw [if_pos c5] at H
            have c5b0 : ((rd l0 x5_1) == a1) = true := beq_iff_eq.mpr c5
            have c5b1 : ((rd l0 x5_1) != a1) = false := bne_eq_false_iff_eq.mpr c5
            clear c5
            obtain rfl := Option.some.inj H
            have p117 : 0 ≤ (x5_1 : Int) := of_decide_eq_true (by first | (with_reducible assumption) | assumption)
            have q117 : x5_1 < (l0.length : Int) := of_decide_eq_true (by first | (with_reducible assumption) | assumption)
            obtain ⟨ad117, e117, hx117_0⟩ := Kd.at_int HR0.out x5_1 p117 q117
            cases e117
            replace p117 := eq_true p117
            replace q117 := eq_true q117
            go_wp2
            go_ret
            exact ⟨by first | rfl | (simp; done) | (simp [*]; done), by repeat (first | exact Drawn0.refl _ | apply Drawn0.step)⟩
          · rw [if_neg c5] at H
            have c5b0 : ((rd l0 x5_1) == a1) = false := beq_eq_false_iff_ne.mpr c5
            have c5b1 : ((rd l0 x5_1) != a1) = true := bne_iff_ne.mpr c5
            have H' := Aside0.mk H
            clear H
            have p117 : 0 ≤ (x5_1 : Int) := of_decide_eq_true (by first | (with_reducible assumption) | assumption)
            have q117 : x5_1 < (l0.length : Int) := of_decide_eq_true (by first | (with_reducible assumption) | assumption)
            obtain ⟨ad117, e117, hx117_0⟩ := Kd.at_int HR0.out x5_1 p117 q117
            cases e117
            replace p117 := eq_true p117
            replace q117 := eq_true q117
            go_wp2
            go_roundg k1
            case measure => have := HK1.out; omega
            case rel => exact ⟨(wrap64 (x5_1 + 1)), (by first | rfl | (simp; done) | (simp [*]; done)), H', ⟨by have := HK1.out; omega⟩, by repeat (first | exact Drawn0.refl _ | apply Drawn0.step)⟩
        · rw [if_neg c4] at H
          exact absurd H (by simp)
      · rw [if_neg c3] at H
        have c3b0 : decide (x5_1 < (l0.length : Int)) = false := decide_eq_false c3
        clear c3
        obtain rfl := Option.some.inj H
        go_wp2
        go_ret
        exact ⟨by first | rfl | (simp; done) | (simp [*]; done), by repeat (first | exact Drawn0.refl _ | apply Drawn0.step)⟩

end Go.Proofs.Ytjbjongahnocdaa.S

namespace Go.Proofs.Ytjbjongahnocdaa.S
open Go.Proofs.Ytjbjongahnocdaa.Lib
open Go.Proofs.Ytjbjongahnocdaa.Defs
open Go.Maps (Keyed)
open Go.RowKit Go.Proofs.YtjbjongahnocdaaW.PrintWords Go.Proofs.YtjbjongahnocdaaW.PrintLast Go.Proofs.YtjbjongahnocdaaW.PrintMore
attribute [local go_sem] max2_int min2_int max_two min_two max_three min_three max_four min_four   -- for this text's walks alone
set_option linter.unusedVariables false
set_option linter.unusedSimpArgs false

/-! ### tickingref02_Order: function 21 -/
def tickingref02_Order.l0 : Nat → List Int → Int → Int → Option (Bool)
  | 0, _, _, _ => none
  | k + 1, x0, x1, x5 => if x5 < (x0.length : Int) then (if 0 ≤ x5 then (if (rd x0 x5) < 1 then (some false) else (if (rd x0 x5) > (x0.length : Int) then (some false) else (if x5 ≤ (x0.length : Int) then ((tickingref02_has.f k (x0.take (x5 : Int).toNat) (rd x0 x5)).bind fun t122 => (if t122 = true then (some false) else (tickingref02_Order.l0 k x0 x1 (wrap64 (x5 + 1))))) else (none)))) else (none)) else (some (decide ((x0.length : Int) ≤ x1)))
def tickingref02_Order.f (k : Nat) (l0 : List Int) (a1 : Int) : Option (Bool) := tickingref02_Order.l0 k l0 a1 0
theorem tickingref02_Order.mono_l : ∀ k, (∀ y0 y1 y2, LeO (tickingref02_Order.l0 k y0 y1 y2) (tickingref02_Order.l0 (k + 1) y0 y1 y2))
  | 0 => fun _ _ _ r h => by simp [tickingref02_Order.l0] at h
  | k + 1 => by
    have ih0 := tickingref02_Order.mono_l k
    · intro y0 y1 y2
      unfold tickingref02_Order.l0
      repeat' first
      | (with_reducible exact ih0 _ _ _)
      | (with_reducible exact tickingref02_has.mono _ _ _)
      | (with_reducible exact LeO.refl _)
      | (with_reducible exact LeO.none _)
      | (with_reducible refine LeO.ite ?_ ?_)
      | (with_reducible refine LeO.bind ?_ (fun _ => ?_))
      | exact ih0 _ _ _
      | exact tickingref02_has.mono _ _ _
      | exact LeO.none _
      | refine LeO.ite ?_ ?_
      | refine LeO.bind ?_ (fun _ => ?_)
theorem tickingref02_Order.mono : ∀ a0 a1 k, LeO (tickingref02_Order.f k a0 a1) (tickingref02_Order.f (k + 1) a0 a1) := by
  intro a0 a1 k
  have ih0 := tickingref02_Order.mono_l k
  unfold tickingref02_Order.f
  repeat' first
      | (with_reducible exact ih0 _ _ _)
      | (with_reducible exact tickingref02_has.mono _ _ _)
      | (with_reducible exact LeO.refl _)
      | (with_reducible exact LeO.none _)
      | (with_reducible refine LeO.ite ?_ ?_)
      | (with_reducible refine LeO.bind ?_ (fun _ => ?_))
      | exact ih0 _ _ _
      | exact tickingref02_has.mono _ _ _
      | exact LeO.none _
      | refine LeO.ite ?_ ?_
      | refine LeO.bind ?_ (fun _ => ?_)
set_option maxHeartbeats 8000000 in
set_option maxRecDepth 100000 in
theorem tickingref02_Order.calls (k : Nat) (A0 : Option Addr) (c0 : Nat) (l0 : List Int) (a1 : Int) (r : Bool) (w : World) (hr0 : Kd.C (Kd.int .i64) w A0 l0.length l0) (hc0 : l0.length ≤ c0) (h : tickingref02_Order.f k l0 a1 = some r) :
    Calls Try.prog 21 #[.slice A0 l0.length c0, .int .i64 a1] w fun e w' => e = .returned (.bool r) ∧ Drawn0 w w' := by
  have HR0 := Aside0.mk hr0
  have HC0 := Aside0.mk hc0
  clear hr0 hc0
  have H : (tickingref02_Order.l0 k l0 a1 0) = some r := h
  clear h
  have H' := Aside0.mk H
  clear H
  go_enter Try.func21, Try.ntmps21
  go_wp2
  repeat (go_quiet (fail); try go_wp2)
  go_loopg [5] k (fun kq v5 w' => ∃ (x5_1 : Int), v5 = .int .i64 x5_1 ∧ Aside0 (tickingref02_Order.l0 kq l0 a1 x5_1 = some r) ∧ Aside0 (kq ≤ k) ∧ Drawn0 w w')
  case atStart => exact ⟨(0), (by first | rfl | (simp; done) | (simp [*]; done)), H', ⟨Nat.le_refl _⟩, by repeat (first | exact Drawn0.refl _ | apply Drawn0.step)⟩
  case round =>
    clear H'
    try clear c2
    try clear p2
    obtain ⟨x5_1, rfl, HA, HK1, ⟨m1, rfl⟩⟩ := hrel
    cases gk with
    | zero => exact absurd HA.out (by simp [tickingref02_Order.l0])
    | succ k1 =>
      have H := HA.out
      clear HA
      simp only [tickingref02_Order.l0] at H
      by_cases c3 : x5_1 < (l0.length : Int)
      · rw [if_pos c3] at H
        have c3b0 : decide (x5_1 < (l0.length : Int)) = true := decide_eq_true c3
        clear c3
        by_cases c4 : 0 ≤ x5_1
        · rw [if_pos c4] at H
          have c4b0 : decide (0 ≤ x5_1) = true := decide_eq_true c4
          clear c4
          by_cases c5 : (rd l0 x5_1) < 1
          · rw [if_pos c5] at H
            have c5b0 : decide ((rd l0 x5_1) < 1) = true := decide_eq_true c5
            clear c5
            obtain rfl := Option.some.inj H
            have p118 : 0 ≤ (x5_1 : Int) := of_decide_eq_true (by first | (with_reducible assumption) | assumption)
            have q118 : x5_1 < (l0.length : Int) := of_decide_eq_true (by first | (with_reducible assumption) | assumption)
            obtain ⟨ad118, e118, hx118_0⟩ := Kd.at_int HR0.out x5_1 p118 q118
            cases e118
            replace p118 := eq_true p118
            replace q118 := eq_true q118
            go_wp2
            repeat (go_quiet (fail); try go_wp2)
            go_ret
            exact ⟨by first | rfl | (simp; done) | (simp [*]; done), by repeat (first | exact Drawn0.refl _ | apply Drawn0.step)⟩
          · rw [if_neg c5] at H
            have c5b0 : decide ((rd l0 x5_1) < 1) = false := decide_eq_false c5
            clear c5
            by_cases c6 : (rd l0 x5_1) > (l0.length : Int)
            · rw [if_pos c6] at H
              have c6b0 : decide ((l0.length : Int) < (rd l0 x5_1)) = true := decide_eq_true c6
              clear c6
              obtain rfl := Option.some.inj H
              have p118 : 0 ≤ (x5_1 : Int) := of_decide_eq_true (by first | (with_reducible assumption) | assumption)
              have q118 : x5_1 < (l0.length : Int) := of_decide_eq_true (by first | (with_reducible assumption) | assumption)
              obtain ⟨ad118, e118, hx118_0⟩ := Kd.at_int HR0.out x5_1 p118 q118
              cases e118
              replace p118 := eq_true p118
              replace q118 := eq_true q118
              have p119 : 0 ≤ (x5_1 : Int) := of_decide_eq_true (by first | (with_reducible assumption) | assumption)
              have q119 : x5_1 < (l0.length : Int) := of_decide_eq_true (by first | (with_reducible assumption) | assumption)
              obtain ⟨ad119, e119, hx119_0⟩ := Kd.at_int HR0.out x5_1 p119 q119
              obtain rfl : ad118 = ad119 := (by injection e119)
              replace p119 := eq_true p119
              replace q119 := eq_true q119
              go_wp2
              repeat (go_quiet (fail); try go_wp2)
              go_ret
              exact ⟨by first | rfl | (simp; done) | (simp [*]; done), by repeat (first | exact Drawn0.refl _ | apply Drawn0.step)⟩
            · rw [if_neg c6] at H
              have c6b0 : decide ((l0.length : Int) < (rd l0 x5_1)) = false := decide_eq_false c6
              clear c6
              have c7b0 := eq_true (of_decide_eq_true (by first | (with_reducible assumption) | assumption) : 0 ≤ x5_1)
              by_cases c8 : x5_1 ≤ (l0.length : Int)
              · rw [if_pos c8] at H
                have c8b0 := eq_true c8
                have c8b1 : decide (x5_1 ≤ (l0.length : Int)) = true := decide_eq_true c8
                clear c8
                replace H := Option.bind_eq_some_iff.mp H
                obtain ⟨t122, A90, H⟩ := H
                replace H : (if t122 = true then (some false) else (tickingref02_Order.l0 k1 l0 a1 (wrap64 (x5_1 + 1)))) = some r := H
                have A9 := Aside0.mk A90
                clear A90
                by_cases c10 : t122 = true
                · subst c10
                  have H1 : (some false) = some r := by rw [if_pos rfl] at H; exact H
                  clear H
                  have H := H1
                  clear H1
                  obtain rfl := Option.some.inj H
                  have p118 : 0 ≤ (x5_1 : Int) := of_decide_eq_true (by first | (with_reducible assumption) | assumption)
                  have q118 : x5_1 < (l0.length : Int) := of_decide_eq_true (by first | (with_reducible assumption) | assumption)
                  obtain ⟨ad118, e118, hx118_0⟩ := Kd.at_int HR0.out x5_1 p118 q118
                  cases e118
                  replace p118 := eq_true p118
                  replace q118 := eq_true q118
                  have p119 : 0 ≤ (x5_1 : Int) := of_decide_eq_true (by first | (with_reducible assumption) | assumption)
                  have q119 : x5_1 < (l0.length : Int) := of_decide_eq_true (by first | (with_reducible assumption) | assumption)
                  obtain ⟨ad119, e119, hx119_0⟩ := Kd.at_int HR0.out x5_1 p119 q119
                  obtain rfl : ad118 = ad119 := (by injection e119)
                  replace p119 := eq_true p119
                  replace q119 := eq_true q119
                  obtain ⟨i011, hi011, _, hsz11, _⟩ := info_parts info3
                  obtain ⟨hcut11, hA11, hC11⟩ := print_take_of (P := Try.prog) (Value.int .i64) 0 22 3 .i64 Try.underlying22 hi011 hsz11 (some ad118) c0 l0 x5_1 (of_decide_eq_true (by first | (with_reducible assumption) | assumption)) (of_decide_eq_true (by first | (with_reducible assumption) | assumption)) HC0.out
                  have HR120 := Aside0.mk (Kd.C_of_reads (h1 := fun _ => rfl) (hA11 _ (Kd.reads_of_C HR0.out)))
                  have HC120 := Aside0.mk hC11
                  clear hA11 hC11 hi011 hsz11
                  obtain ⟨tk11, htk11⟩ : ∃ tk_ : List Int, (l0.take (x5_1 : Int).toNat) = tk_ := ⟨_, rfl⟩
                  simp only [htk11] at *
                  have Htk11 := Aside0.mk htk11
                  clear htk11
                  have p121 : 0 ≤ (x5_1 : Int) := of_decide_eq_true (by first | (with_reducible assumption) | assumption)
                  have q121 : x5_1 < (l0.length : Int) := of_decide_eq_true (by first | (with_reducible assumption) | assumption)
                  obtain ⟨ad121, e121, hx121_0⟩ := Kd.at_int HR0.out x5_1 p121 q121
                  obtain rfl : ad118 = ad121 := (by injection e121)
                  replace p121 := eq_true p121
                  replace q121 := eq_true q121
                  go_wp2_with (first | (go_at_call 59; (with_reducible refine (tickingref02_has.calls k1 _ _ tk11 (rd l0 x5_1) true _ ?side1 ?side2 A9.out).mono ?_); (case side1 => repeat (first | exact HR120.out | (with_reducible refine Kd.C_alloc ?_ _) | (with_reducible refine Kd.C_drewN ?_ _) | (with_reducible refine Kd.C_drew ?_))); (case side2 => exact HC120.out); rintro e w' ⟨rfl, ⟨nd, rfl⟩⟩; (try first | exact ⟨rfl, _, World.drewN_drewN _ _ _⟩ | exact ⟨rfl, _, Eq.trans (World.drewN_drewN _ _ _) (congrArg (World.drewN _) (Nat.add_assoc _ _ _))⟩)))
                  repeat (go_quiet (first | (go_at_call 59; (with_reducible refine (tickingref02_has.calls k1 _ _ tk11 (rd l0 x5_1) true _ ?side1 ?side2 A9.out).mono ?_); (case side1 => repeat (first | exact HR120.out | (with_reducible refine Kd.C_alloc ?_ _) | (with_reducible refine Kd.C_drewN ?_ _) | (with_reducible refine Kd.C_drew ?_))); (case side2 => exact HC120.out); rintro e w' ⟨rfl, ⟨nd, rfl⟩⟩; (try first | exact ⟨rfl, _, World.drewN_drewN _ _ _⟩ | exact ⟨rfl, _, Eq.trans (World.drewN_drewN _ _ _) (congrArg (World.drewN _) (Nat.add_assoc _ _ _))⟩))); try go_wp2_with (first | (go_at_call 59; (with_reducible refine (tickingref02_has.calls k1 _ _ tk11 (rd l0 x5_1) true _ ?side1 ?side2 A9.out).mono ?_); (case side1 => repeat (first | exact HR120.out | (with_reducible refine Kd.C_alloc ?_ _) | (with_reducible refine Kd.C_drewN ?_ _) | (with_reducible refine Kd.C_drew ?_))); (case side2 => exact HC120.out); rintro e w' ⟨rfl, ⟨nd, rfl⟩⟩; (try first | exact ⟨rfl, _, World.drewN_drewN _ _ _⟩ | exact ⟨rfl, _, Eq.trans (World.drewN_drewN _ _ _) (congrArg (World.drewN _) (Nat.add_assoc _ _ _))⟩))))
                  go_ret
                  exact ⟨by first | rfl | (simp; done) | (simp [*]; done), by repeat (first | exact Drawn0.refl _ | apply Drawn0.step)⟩
                · replace c10 := Bool.eq_false_iff.mpr c10
                  subst c10
                  have H1 : (tickingref02_Order.l0 k1 l0 a1 (wrap64 (x5_1 + 1))) = some r := by rw [if_neg (show ¬ (false = true) by decide)] at H; exact H
                  clear H
                  have H := H1
                  clear H1
                  have H' := Aside0.mk H
                  clear H
                  have p118 : 0 ≤ (x5_1 : Int) := of_decide_eq_true (by first | (with_reducible assumption) | assumption)
                  have q118 : x5_1 < (l0.length : Int) := of_decide_eq_true (by first | (with_reducible assumption) | assumption)
                  obtain ⟨ad118, e118, hx118_0⟩ := Kd.at_int HR0.out x5_1 p118 q118
                  cases e118
                  replace p118 := eq_true p118
                  replace q118 := eq_true q118
                  have p119 : 0 ≤ (x5_1 : Int) := of_decide_eq_true (by first | (with_reducible assumption) | assumption)
                  have q119 : x5_1 < (l0.length : Int) := of_decide_eq_true (by first | (with_reducible assumption) | assumption)
                  obtain ⟨ad119, e119, hx119_0⟩ := Kd.at_int HR0.out x5_1 p119 q119
                  obtain rfl : ad118 = ad119 := (by injection e119)
                  replace p119 := eq_true p119
                  replace q119 := eq_true q119
                  obtain ⟨i012, hi012, _, hsz12, _⟩ := info_parts info3
                  obtain ⟨hcut12, hA12, hC12⟩ := print_take_of (P := Try.prog) (Value.int .i64) 0 22 3 .i64 Try.underlying22 hi012 hsz12 (some ad118) c0 l0 x5_1 (of_decide_eq_true (by first | (with_reducible assumption) | assumption)) (of_decide_eq_true (by first | (with_reducible assumption) | assumption)) HC0.out
                  have HR120 := Aside0.mk (Kd.C_of_reads (h1 := fun _ => rfl) (hA12 _ (Kd.reads_of_C HR0.out)))
                  have HC120 := Aside0.mk hC12
                  clear hA12 hC12 hi012 hsz12
                  obtain ⟨tk12, htk12⟩ : ∃ tk_ : List Int, (l0.take (x5_1 : Int).toNat) = tk_ := ⟨_, rfl⟩
                  simp only [htk12] at *
                  have Htk12 := Aside0.mk htk12
                  clear htk12
                  have p121 : 0 ≤ (x5_1 : Int) := of_decide_eq_true (by first | (with_reducible assumption) | assumption)
                  have q121 : x5_1 < (l0.length : Int) := of_decide_eq_true (by first | (with_reducible assumption) | assumption)
                  obtain ⟨ad121, e121, hx121_0⟩ := Kd.at_int HR0.out x5_1 p121 q121
                  obtain rfl : ad118 = ad121 := (by injection e121)
                  replace p121 := eq_true p121
                  replace q121 := eq_true q121
                  go_wp2_with (first | (go_at_call 59; (with_reducible refine (tickingref02_has.calls k1 _ _ tk12 (rd l0 x5_1) false _ ?side1 ?side2 A9.out).mono ?_); (case side1 => repeat (first | exact HR120.out | (with_reducible refine Kd.C_alloc ?_ _) | (with_reducible refine Kd.C_drewN ?_ _) | (with_reducible refine Kd.C_drew ?_))); (case side2 => exact HC120.out); rintro e w' ⟨rfl, ⟨nd, rfl⟩⟩; (try first | exact ⟨rfl, _, World.drewN_drewN _ _ _⟩ | exact ⟨rfl, _, Eq.trans (World.drewN_drewN _ _ _) (congrArg (World.drewN _) (Nat.add_assoc _ _ _))⟩)))
                  repeat (go_quiet (first | (go_at_call 59; (with_reducible refine (tickingref02_has.calls k1 _ _ tk12 (rd l0 x5_1) false _ ?side1 ?side2 A9.out).mono ?_); (case side1 => repeat (first | exact HR120.out | (with_reducible refine Kd.C_alloc ?_ _) | (with_reducible refine Kd.C_drewN ?_ _) | (with_reducible refine Kd.C_drew ?_))); (case side2 => exact HC120.out); rintro e w' ⟨rfl, ⟨nd, rfl⟩⟩; (try first | exact ⟨rfl, _, World.drewN_drewN _ _ _⟩ | exact ⟨rfl, _, Eq.trans (World.drewN_drewN _ _ _) (congrArg (World.drewN _) (Nat.add_assoc _ _ _))⟩))); try go_wp2_with (first | (go_at_call 59; (with_reducible refine (tickingref02_has.calls k1 _ _ tk12 (rd l0 x5_1) false _ ?side1 ?side2 A9.out).mono ?_); (case side1 => repeat (first | exact HR120.out | (with_reducible refine Kd.C_alloc ?_ _) | (with_reducible refine Kd.C_drewN ?_ _) | (with_reducible refine Kd.C_drew ?_))); (case side2 => exact HC120.out); rintro e w' ⟨rfl, ⟨nd, rfl⟩⟩; (try first | exact ⟨rfl, _, World.drewN_drewN _ _ _⟩ | exact ⟨rfl, _, Eq.trans (World.drewN_drewN _ _ _) (congrArg (World.drewN _) (Nat.add_assoc _ _ _))⟩))))
                  go_roundg k1
                  case measure => have := HK1.out; omega
                  case rel => exact ⟨(wrap64 (x5_1 + 1)), (by first | rfl | (simp; done) | (simp [*]; done)), H', ⟨by have := HK1.out; omega⟩, by repeat (first | exact Drawn0.refl _ | apply Drawn0.step)⟩
              · rw [if_neg c8] at H
                exact absurd H (by simp)
        · rw [if_neg c4] at H
          exact absurd H (by simp)
      · rw [if_neg c3] at H
        have c3b0 : decide (x5_1 < (l0.length : Int)) = false := decide_eq_false c3
        clear c3
        obtain rfl := Option.some.inj H
        go_wp2
        repeat (go_quiet (fail); try go_wp2)
        go_ret
        exact ⟨by first | rfl | (simp; done) | (simp [*]; done), by repeat (first | exact Drawn0.refl _ | apply Drawn0.step)⟩

end Go.Proofs.Ytjbjongahnocdaa.S

namespace Go.Proofs.Ytjbjongahnocdaa.S
open Go.Proofs.Ytjbjongahnocdaa.Lib
open Go.Proofs.Ytjbjongahnocdaa.Defs
open Go.Maps (Keyed)
open Go.RowKit Go.Proofs.YtjbjongahnocdaaW.PrintWords Go.Proofs.YtjbjongahnocdaaW.PrintLast Go.Proofs.YtjbjongahnocdaaW.PrintMore
attribute [local go_sem] max2_int min2_int max_two min_two max_three min_three max_four min_four   -- for this text's walks alone
set_option linter.unusedVariables false
set_option linter.unusedSimpArgs false

/-! ### tickingref02_ascending: function 60 -/
def tickingref02_ascending.l0 : Nat → List Int → Int → Option (Bool)
  | 0, _, _ => none
  | k + 1, x0, x3 => if x3 < (x0.length : Int) then (if 0 ≤ (wrap64 (x3 - 1)) then (if (wrap64 (x3 - 1)) < (x0.length : Int) then (if 0 ≤ x3 then (if (rd x0 (wrap64 (x3 - 1))) ≥ (rd x0 x3) then (some false) else (tickingref02_ascending.l0 k x0 (wrap64 (x3 + 1)))) else (none)) else (none)) else (none)) else (some true)
def tickingref02_ascending.f (k : Nat) (l0 : List Int) : Option (Bool) := tickingref02_ascending.l0 k l0 1
theorem tickingref02_ascending.mono_l : ∀ k, (∀ y0 y1, LeO (tickingref02_ascending.l0 k y0 y1) (tickingref02_ascending.l0 (k + 1) y0 y1))
  | 0 => fun _ _ r h => by simp [tickingref02_ascending.l0] at h
  | k + 1 => by
    have ih0 := tickingref02_ascending.mono_l k
    · intro y0 y1
      unfold tickingref02_ascending.l0
      repeat' first
      | (with_reducible exact ih0 _ _)
      | (with_reducible exact LeO.refl _)
      | (with_reducible exact LeO.none _)
      | (with_reducible refine LeO.ite ?_ ?_)
      | (with_reducible refine LeO.bind ?_ (fun _ => ?_))
      | exact ih0 _ _
      | exact LeO.none _
      | refine LeO.ite ?_ ?_
      | refine LeO.bind ?_ (fun _ => ?_)
theorem tickingref02_ascending.mono : ∀ a0 k, LeO (tickingref02_ascending.f k a0) (tickingref02_ascending.f (k + 1) a0) := by
  intro a0 k
  have ih0 := tickingref02_ascending.mono_l k
  unfold tickingref02_ascending.f
  repeat' first
      | (with_reducible exact ih0 _ _)
      | (with_reducible exact LeO.refl _)
      | (with_reducible exact LeO.none _)
      | (with_reducible refine LeO.ite ?_ ?_)
      | (with_reducible refine LeO.bind ?_ (fun _ => ?_))
      | exact ih0 _ _
      | exact LeO.none _
      | refine LeO.ite ?_ ?_
      | refine LeO.bind ?_ (fun _ => ?_)
set_option maxHeartbeats 8000000 in
set_option maxRecDepth 100000 in
theorem tickingref02_ascending.calls (k : Nat) (A0 : Option Addr) (c0 : Nat) (l0 : List Int) (r : Bool) (w : World) (hr0 : Kd.C (Kd.int .i64) w A0 l0.length l0) (hc0 : l0.length ≤ c0) (h : tickingref02_ascending.f k l0 = some r) :
    Calls Try.prog 60 #[.slice A0 l0.length c0] w fun e w' => e = .returned (.bool r) ∧ Drawn0 w w' := by
  have HR0 := Aside0.mk hr0
  have HC0 := Aside0.mk hc0
  clear hr0 hc0
  have H : (tickingref02_ascending.l0 k l0 1) = some r := h
  clear h
  have H' := Aside0.mk H
  clear H
  go_enter Try.func60, Try.ntmps60
  go_wp2
  repeat (go_quiet (fail); try go_wp2)
  go_loopg [3] k (fun kq v3 w' => ∃ (x3_1 : Int), v3 = .int .i64 x3_1 ∧ Aside0 (tickingref02_ascending.l0 kq l0 x3_1 = some r) ∧ Aside0 (kq ≤ k) ∧ Drawn0 w w')
  case atStart => exact ⟨(1), (by first | rfl | (simp; done) | (simp [*]; done)), H', ⟨Nat.le_refl _⟩, by repeat (first | exact Drawn0.refl _ | apply Drawn0.step)⟩
  case round =>
    clear H'
    obtain ⟨x3_1, rfl, HA, HK1, ⟨m1, rfl⟩⟩ := hrel
    cases gk with
    | zero => exact absurd HA.out (by simp [tickingref02_ascending.l0])
    | succ k1 =>
      have H := HA.out
      clear HA
      simp only [tickingref02_ascending.l0] at H
      by_cases c2 : x3_1 < (l0.length : Int)
      · rw [if_pos c2] at H
        have c2b0 : decide (x3_1 < (l0.length : Int)) = true := decide_eq_true c2
        clear c2
        obtain ⟨ji3, hji3⟩ : ∃ j_ : Int, (wrap64 (x3_1 - 1)) = j_ := ⟨_, rfl⟩
        replace H : (if 0 ≤ (ji3) then (if (ji3) < (l0.length : Int) then (if 0 ≤ x3_1 then (if (rd l0 (ji3)) ≥ (rd l0 x3_1) then (some false) else (tickingref02_ascending.l0 k1 l0 (wrap64 (x3_1 + 1)))) else (none)) else (none)) else (none)) = some r := by first | (rw [hji3] at H; exact H) | (simp only [hji3] at H ⊢; exact H)
        have hji3w : (IntKind.i64.wrap (x3_1 - 1)) = ji3 := (i64_w _).trans hji3
        by_cases c4 : 0 ≤ (ji3)
        · rw [if_pos c4] at H
          have c4b0 : decide (0 ≤ (ji3)) = true := decide_eq_true c4
          clear c4
          by_cases c5 : (ji3) < (l0.length : Int)
          · rw [if_pos c5] at H
            have c5b0 : decide ((ji3) < (l0.length : Int)) = true := decide_eq_true c5
            clear c5
            by_cases c6 : 0 ≤ x3_1
            · rw [if_pos c6] at H
              have c6b0 : decide (0 ≤ x3_1) = true := decide_eq_true c6
              clear c6
              by_cases c7 : (rd l0 (ji3)) ≥ (rd l0 x3_1)
              · rw [if_pos c7] at H
                have c7b0 : decide ((rd l0 x3_1) ≤ (rd l0 (ji3))) = true := decide_eq_true c7
                clear c7
                obtain rfl := Option.some.inj H
                have p194 : 0 ≤ ((ji3) : Int) := of_decide_eq_true (by first | (with_reducible assumption) | assumption)
                have q194 : (ji3) < (l0.length : Int) := of_decide_eq_true (by first | (with_reducible assumption) | assumption)
                obtain ⟨ad194, e194, hx194_0⟩ := Kd.at_int HR0.out (ji3) p194 q194
                cases e194
                replace p194 := eq_true p194
                replace q194 := eq_true q194
                have p195 : 0 ≤ (x3_1 : Int) := of_decide_eq_true (by first | (with_reducible assumption) | assumption)
                have q195 : x3_1 < (l0.length : Int) := of_decide_eq_true (by first | (with_reducible assumption) | assumption)
                obtain ⟨ad195, e195, hx195_0⟩ := Kd.at_int HR0.out x3_1 p195 q195
                obtain rfl : ad194 = ad195 := (by injection e195)
                replace p195 := eq_true p195
                replace q195 := eq_true q195
                go_wp2
                repeat (go_quiet (fail); try go_wp2)
                go_ret
                exact ⟨by first | rfl | (simp; done) | (simp only [← hji3] <;> (first | rfl | simp)) | (simp [*]; done), by repeat (first | exact Drawn0.refl _ | apply Drawn0.step)⟩
              · rw [if_neg c7] at H
                have c7b0 : decide ((rd l0 x3_1) ≤ (rd l0 (ji3))) = false := decide_eq_false c7
                clear c7
                have H' := Aside0.mk H
                clear H
                have p194 : 0 ≤ ((ji3) : Int) := of_decide_eq_true (by first | (with_reducible assumption) | assumption)
                have q194 : (ji3) < (l0.length : Int) := of_decide_eq_true (by first | (with_reducible assumption) | assumption)
                obtain ⟨ad194, e194, hx194_0⟩ := Kd.at_int HR0.out (ji3) p194 q194
                cases e194
                replace p194 := eq_true p194
                replace q194 := eq_true q194
                have p195 : 0 ≤ (x3_1 : Int) := of_decide_eq_true (by first | (with_reducible assumption) | assumption)
                have q195 : x3_1 < (l0.length : Int) := of_decide_eq_true (by first | (with_reducible assumption) | assumption)
                obtain ⟨ad195, e195, hx195_0⟩ := Kd.at_int HR0.out x3_1 p195 q195
                obtain rfl : ad194 = ad195 := (by injection e195)
                replace p195 := eq_true p195
                replace q195 := eq_true q195
                go_wp2
                repeat (go_quiet (fail); try go_wp2)
                go_roundg k1
                case measure => have := HK1.out; omega
                case rel => exact ⟨(wrap64 (x3_1 + 1)), (by first | rfl | (simp; done) | (simp [*]; done)), H', ⟨by have := HK1.out; omega⟩, by repeat (first | exact Drawn0.refl _ | apply Drawn0.step)⟩
            · rw [if_neg c6] at H
              exact absurd H (by simp)
          · rw [if_neg c5] at H
            exact absurd H (by simp)
        · rw [if_neg c4] at H
          exact absurd H (by simp)
      · rw [if_neg c2] at H
        have c2b0 : decide (x3_1 < (l0.length : Int)) = false := decide_eq_false c2
        clear c2
        obtain rfl := Option.some.inj H
        go_wp2
        repeat (go_quiet (fail); try go_wp2)
        go_ret
        exact ⟨by first | rfl | (simp; done) | (simp [*]; done), by repeat (first | exact Drawn0.refl _ | apply Drawn0.step)⟩

end Go.Proofs.Ytjbjongahnocdaa.S

namespace Go.Proofs.Ytjbjongahnocdaa.S
open Go.Proofs.Ytjbjongahnocdaa.Lib
open Go.Proofs.Ytjbjongahnocdaa.Defs
open Go.Maps (Keyed)
open Go.RowKit Go.Proofs.YtjbjongahnocdaaW.PrintWords Go.Proofs.YtjbjongahnocdaaW.PrintLast Go.Proofs.YtjbjongahnocdaaW.PrintMore
attribute [local go_sem] max2_int min2_int max_two min_two max_three min_three max_four min_four   -- for this text's walks alone
set_option linter.unusedVariables false
set_option linter.unusedSimpArgs false

/-! ### tickingref02_OneStack: function 25 -/
def tickingref02_OneStack.f (k : Nat) (l0 : List Int) : Option (Bool) := (tickingref02_Pass.f k l0).bind fun t196 => ((tickingref02_ascending.f k t196).bind fun t199 => (some t199))
theorem tickingref02_OneStack.mono : ∀ a0 k, LeO (tickingref02_OneStack.f k a0) (tickingref02_OneStack.f (k + 1) a0) := by
  intro a0 k
  unfold tickingref02_OneStack.f
  repeat' first
      | (with_reducible exact tickingref02_Pass.mono _ _)
      | (with_reducible exact tickingref02_ascending.mono _ _)
      | (with_reducible exact LeO.refl _)
      | (with_reducible exact LeO.none _)
      | (with_reducible refine LeO.ite ?_ ?_)
      | (with_reducible refine LeO.bind ?_ (fun _ => ?_))
      | exact tickingref02_Pass.mono _ _
      | exact tickingref02_ascending.mono _ _
      | exact LeO.none _
      | refine LeO.ite ?_ ?_
      | refine LeO.bind ?_ (fun _ => ?_)
set_option maxHeartbeats 8000000 in
set_option maxRecDepth 100000 in
theorem tickingref02_OneStack.calls (k : Nat) (A0 : Option Addr) (c0 : Nat) (l0 : List Int) (r : Bool) (w : World) (hr0 : Kd.C (Kd.int .i64) w A0 l0.length l0) (hc0 : l0.length ≤ c0) (h : tickingref02_OneStack.f k l0 = some r) :
    Calls Try.prog 25 #[.slice A0 l0.length c0] w fun e w' => e = .returned (.bool r) ∧ Below w.heap.size w w' := by
  have HR0 := Aside0.mk hr0
  have HC0 := Aside0.mk hc0
  clear hr0 hc0
  have HB := Aside0.mk (Below.refl w.heap.size w)
  have H : ((tickingref02_Pass.f k l0).bind fun t196 => ((tickingref02_ascending.f k t196).bind fun t199 => (some t199))) = some r := h
  clear h
  replace H := Option.bind_eq_some_iff.mp H
  obtain ⟨t196, A20, H⟩ := H
  replace H : ((tickingref02_ascending.f k t196).bind fun t199 => (some t199)) = some r := H
  have A2 := Aside0.mk A20
  clear A20
  replace H := Option.bind_eq_some_iff.mp H
  obtain ⟨t199, A30, H⟩ := H
  replace H : (some t199) = some r := H
  have A3 := Aside0.mk A30
  clear A30
  obtain rfl := Option.some.inj H
  go_enter Try.func25, Try.ntmps25
  go_wp2_with (first | ((with_reducible refine gate_callee (f := 24) rfl ?_); refine goesL_ (some 4) rfl rfl Try.func24 (by kernel_rfl) rfl #[.slice A0 l0.length c0] rfl (by (try simp only [List.map_toArray, List.map_cons, List.map_nil]); first | done | rfl | (simp only [List.length_drop, List.length_take]; rfl)) ?_; (with_reducible refine (tickingref02_Pass.calls k _ _ l0 t196 _ ?side1 ?side2 A2.out).mono ?_); (case side1 => repeat (first | exact HR0.out | (with_reducible refine Kd.C_alloc ?_ _) | (with_reducible refine Kd.C_drewN ?_ _) | (with_reducible refine Kd.C_drew ?_))); (case side2 => exact HC0.out); rintro e w4 ⟨v197, rfl, ho0, hb⟩; refine ⟨_, rfl, ?_⟩; have n0_ := Aside0.mk (Kd.R_lower ho0 (below_size (by repeat (first | (with_reducible first | exact HB.out | apply below_alloc | apply pw_below_drewN | apply below_drew1) | exact HB.out)))); have n1_ := Aside0.mk (below_step (by repeat (first | (with_reducible first | exact HB.out | apply below_alloc | apply pw_below_drewN | apply below_drew1) | exact HB.out)) hb); clear HB; have HO198 := n0_; have HB := n1_; clear n0_ n1_; (try clear hb); (try clear hb2); (try clear hk); (try clear hi); (try clear ho0); obtain ⟨Ao5, co5, eo5⟩ := Kd.R_slice HO198.out; subst eo5) | ((with_reducible refine gate_callee (f := 60) rfl ?_); refine goesL_ (some 5) rfl rfl Try.func60 (by kernel_rfl) rfl #[.slice Ao5 t196.length co5] rfl (by (try simp only [List.map_toArray, List.map_cons, List.map_nil]); first | done | rfl | (simp only [List.length_drop, List.length_take]; rfl)) ?_; (with_reducible refine (tickingref02_ascending.calls k _ _ t196 t199 _ ?side1 ?side2 A3.out).mono ?_); (case side1 => repeat (first | exact (Kd.R_reads' HO198.out).2.2 | (with_reducible refine Kd.C_alloc ?_ _) | (with_reducible refine Kd.C_drewN ?_ _) | (with_reducible refine Kd.C_drew ?_))); (case side2 => exact (Kd.R_reads' HO198.out).2.1); rintro e w' ⟨rfl, ⟨nd, rfl⟩⟩; refine ⟨_, rfl, ?_⟩))
  go_ret
  exact ⟨by first | rfl | (simp [errW_none, errW_some] <;> rfl) | (simp [*, errW_none, errW_some] <;> rfl), by repeat (first | (with_reducible first | exact HB.out | apply below_alloc | apply pw_below_drewN | apply below_drew1) | exact HB.out)⟩

end Go.Proofs.Ytjbjongahnocdaa.S

/- What the references of layer 2 compute: the first ones. -/
namespace Go.Proofs.Ytjbjongahnocdaa.P
open Go.RowKit Go.Proofs.Ytjbjongahnocdaa.S Go.Proofs.Ytjbjongahnocdaa.Defs Go.Proofs.YtjbjongahnocdaaW.PrintWords

theorem has_loop (l : List Int) (x : Int) (hl : l.length ≤ 1000000) : ∀ (d i : Nat), i + d = l.length → Ev (fun k => tickingref02_has.l0 k l x (i : Int)) (decide (x ∈ l.drop i))
  | 0, i, h => by
    refine Ev.step (fun k => ?_) (Ev.now _)
    rw [List.drop_eq_nil_of_le (by omega)]
    simp only [tickingref02_has.l0]
    rw [if_neg (by omega)]
    simp
  | d + 1, i, h => by
    rw [drop_cons l i (by omega)]
    by_cases he : rd l (i : Int) = x
    · refine Ev.step (fun k => ?_) (Ev.now _)
      simp only [tickingref02_has.l0]
      rw [if_pos (by omega), if_pos (by omega), if_pos he]
      simp [he]
    · refine Ev.step (f := fun k => tickingref02_has.l0 k l x ((i + 1 : Nat) : Int)) (fun k => ?_) ?_
      · simp only [tickingref02_has.l0]
        rw [if_pos (by omega), if_pos (by omega), if_neg he, w64 (by omega) (by omega)]
        rfl
      · have := has_loop l x hl d (i + 1) (by omega)
        have e : decide (x ∈ rd l (i : Int) :: l.drop (i + 1)) = decide (x ∈ l.drop (i + 1)) := by
          rw [decide_eq_decide, List.mem_cons]
          exact ⟨fun h => h.elim (fun e => absurd e.symm he) id, .inr⟩
        rw [e]
        exact this
theorem has_ev (l : List Int) (x : Int) (hl : l.length ≤ 1000000) : Ev (fun k => tickingref02_has.f k l x) (decide (x ∈ l)) := by
  have := has_loop l x hl l.length 0 (by omega)
  exact this

/-- An order: different numbers from 1 to its length. -/
def IsOrd (l : List Int) : Prop := l.Nodup ∧ ∀ x ∈ l, 1 ≤ x ∧ x ≤ l.length
instance (l : List Int) : Decidable (IsOrd l) := by unfold IsOrd; infer_instance

theorem isOrderGo_iff (n : Nat) : ∀ (l seen : List Int), isOrderGo n l seen = true ↔ (l.Nodup ∧ (∀ x ∈ l, 1 ≤ x ∧ x ≤ n) ∧ ∀ x ∈ l, x ∉ seen)
  | [], seen => by simp [isOrderGo]
  | x :: xs, seen => by
    unfold isOrderGo
    by_cases h : 1 ≤ x ∧ x ≤ n ∧ x ∉ seen
    · rw [if_pos h, isOrderGo_iff n xs (x :: seen)]
      simp only [List.nodup_cons, List.mem_cons]
      constructor
      · rintro ⟨h1, h2, h3⟩
        refine ⟨⟨fun hm => (h3 x hm) (.inl rfl), h1⟩, fun y hy => ?_, fun y hy hs => ?_⟩
        · rcases hy with rfl | hy
          · exact ⟨h.1, h.2.1⟩
          · exact h2 y hy
        · rcases hy with rfl | hy
          · exact h.2.2 hs
          · exact h3 y hy (.inr hs)
      · rintro ⟨⟨h1, h2⟩, h4, h6⟩
        exact ⟨h2, fun y hy => h4 y (.inr hy), fun y hy hs => hs.elim (fun e => h1 (e ▸ hy)) (h6 y (.inr hy))⟩
    · rw [if_neg h]
      constructor
      · intro h; cases h
      · rintro ⟨_, h3, h5⟩
        exact absurd ⟨(h3 x (by simp)).1, (h3 x (by simp)).2, h5 x (by simp)⟩ h
theorem isOrderB_iff (l : List Int) : isOrderB l = true ↔ l.length ≤ 60 ∧ IsOrd l := by
  unfold isOrderB IsOrd
  rw [Bool.and_eq_true, decide_eq_true_eq, isOrderGo_iff]
  simp

theorem Order_loop (l : List Int) (m : Int) (hl : l.length ≤ 1000000) : ∀ (d i : Nat), i + d = l.length → (l.take i).Nodup → (∀ x ∈ l.take i, 1 ≤ x ∧ x ≤ l.length) → Ev (fun k => tickingref02_Order.l0 k l m (i : Int)) (decide (IsOrd l ∧ (l.length : Int) ≤ m))
  | 0, i, h, h1, h2 => by
    refine Ev.step (fun k => ?_) (Ev.now _)
    simp only [tickingref02_Order.l0]
    rw [if_neg (by omega)]
    rw [List.take_of_length_le (by omega)] at h1 h2
    congr 1
    rw [decide_eq_decide]
    exact ⟨fun h => ⟨⟨h1, h2⟩, h⟩, fun h => h.2⟩
  | d + 1, i, h, h1, h2 => by
    have hi : i < l.length := by omega
    have hm : rd l (i : Int) ∈ l := rd_mem (by omega) (by omega)
    have no : ¬ (1 ≤ rd l (i : Int) ∧ rd l (i : Int) ≤ l.length ∧ rd l (i : Int) ∉ l.take i) → ¬ (IsOrd l ∧ (l.length : Int) ≤ m) := by
      rintro hn ⟨⟨ho1, ho2⟩, _⟩
      refine hn ⟨(ho2 _ hm).1, (ho2 _ hm).2, fun hin => ?_⟩
      rw [← List.take_append_drop i l, drop_cons l i hi] at ho1
      have := (List.nodup_append.1 ho1).2.2 _ hin (rd l (i : Int)) (by simp)
      exact this rfl
    by_cases c1 : rd l (i : Int) < 1
    · refine Ev.step (fun k => ?_) (Ev.now _)
      simp only [tickingref02_Order.l0]
      rw [if_pos (by omega), if_pos (by omega), if_pos c1, decide_eq_false (no (by omega))]
    · by_cases c2 : rd l (i : Int) > (l.length : Int)
      · refine Ev.step (fun k => ?_) (Ev.now _)
        simp only [tickingref02_Order.l0]
        rw [if_pos (by omega), if_pos (by omega), if_neg c1, if_pos c2, decide_eq_false (no (by omega))]
      · have hh := has_ev (l.take i) (rd l (i : Int)) (by rw [List.length_take]; omega)
        refine Ev.step (f := fun k => (tickingref02_has.f k (l.take ((i : Int)).toNat) (rd l (i : Int))).bind fun t => (if t = true then some false else tickingref02_Order.l0 k l m (wrap64 ((i : Int) + 1)))) (fun k => ?_) ?_
        · simp only [tickingref02_Order.l0]
          rw [if_pos (by omega), if_pos (by omega), if_neg c1, if_neg c2, if_pos (by omega)]
        · rw [show ((i : Int)).toNat = i by omega]
          refine Ev.bind hh ?_
          by_cases c3 : rd l (i : Int) ∈ l.take i
          · rw [decide_eq_true c3, decide_eq_false (no (fun h => h.2.2 c3))]
            exact Ev.congr (fun k => by rw [if_pos rfl]) (Ev.now _)
          · rw [decide_eq_false c3]
            refine Ev.congr (f := fun k => tickingref02_Order.l0 k l m ((i + 1 : Nat) : Int)) (fun k => by rw [if_neg (by decide), w64 (by omega) (by omega)]; rfl) ?_
            have e : l.take (i + 1) = l.take i ++ [rd l (i : Int)] := by rw [rd_lt l i hi, List.take_succ_eq_append_getElem hi]
            refine Order_loop l m hl d (i + 1) (by omega) ?_ ?_
            · rw [e, List.nodup_append]
              refine ⟨h1, by simp, fun a ha b hb => ?_⟩
              rw [List.mem_singleton] at hb
              subst hb
              exact fun e => c3 (e ▸ ha)
            · rw [e]
              intro x hx
              rcases List.mem_append.1 hx with hx | hx
              · exact h2 x hx
              · rw [List.mem_singleton] at hx
                subst hx
                omega
theorem Order_ev (l : List Int) (m : Int) (hl : l.length ≤ 1000000) : Ev (fun k => tickingref02_Order.f k l m) (decide (IsOrd l ∧ (l.length : Int) ≤ m)) := by
  have := Order_loop l m hl l.length 0 (by omega) (by simp) (by simp)
  exact this

theorem ints_loop (a b : List Int) (hl : a.length ≤ 1000000) (hab : a.length = b.length) : ∀ (d i : Nat), i + d = a.length → Ev (fun k => tickinglaw02_ints.l0 k a b (i : Int)) (decide (a.drop i = b.drop i))
  | 0, i, h => by
    refine Ev.step (fun k => ?_) (Ev.now _)
    rw [List.drop_eq_nil_of_le (by omega), List.drop_eq_nil_of_le (by omega)]
    simp only [tickinglaw02_ints.l0]
    rw [if_neg (by omega)]
    simp
  | d + 1, i, h => by
    rw [drop_cons a i (by omega), drop_cons b i (by omega)]
    by_cases he : rd a (i : Int) = rd b (i : Int)
    · refine Ev.step (f := fun k => tickinglaw02_ints.l0 k a b ((i + 1 : Nat) : Int)) (fun k => ?_) ?_
      · simp only [tickinglaw02_ints.l0]
        rw [if_pos (by omega), if_pos (by omega), if_pos (by omega), if_pos he, w64 (by omega) (by omega)]
        rfl
      · have := ints_loop a b hl hab d (i + 1) (by omega)
        rw [he, show decide (rd b (i : Int) :: a.drop (i + 1) = rd b (i : Int) :: b.drop (i + 1)) = decide (a.drop (i + 1) = b.drop (i + 1)) by simp]
        exact this
    · refine Ev.step (fun k => ?_) (Ev.now _)
      simp only [tickinglaw02_ints.l0]
      rw [if_pos (by omega), if_pos (by omega), if_pos (by omega), if_neg he]
      simp [he]
theorem ints_ev (a b : List Int) (hl : a.length ≤ 1000000) : Ev (fun k => tickinglaw02_ints.f k a b) (decide (a = b)) := by
  by_cases hab : a.length = b.length
  · have := ints_loop a b hl hab a.length 0 (by omega)
    refine Ev.congr (fun k => ?_) this
    unfold tickinglaw02_ints.f
    rw [if_pos (by omega)]
    rfl
  · refine Ev.congr (fun k => ?_) (Ev.now _)
    unfold tickinglaw02_ints.f
    rw [if_neg (by omega), decide_eq_false (fun e => hab (by rw [e]))]

/-- Ascending: each item is greater than the one before it. -/
def Asc (l : List Int) : Prop := l.Pairwise (· < ·)
instance (l : List Int) : Decidable (Asc l) := by unfold Asc; infer_instance

theorem asc_snoc (l : List Int) (i : Nat) (hi : i + 1 < l.length) (h : Asc (l.take (i + 1))) : Asc (l.take (i + 2)) ↔ rd l (i : Int) < rd l ((i + 1 : Nat) : Int) := by
  unfold Asc at h ⊢
  rw [List.take_succ_eq_append_getElem hi, List.pairwise_append]
  have e : l.take (i + 1) = l.take i ++ [l[i]] := List.take_succ_eq_append_getElem (by omega)
  rw [rd_lt l i (by omega), rd_lt l (i + 1) hi]
  constructor
  · rintro ⟨_, _, h3⟩
    exact h3 _ (by rw [e]; exact List.mem_append_right _ (by simp)) _ (by simp)
  · intro h2
    refine ⟨h, by simp, fun a ha b hb => ?_⟩
    rw [List.mem_singleton] at hb
    subst hb
    rw [e] at ha h
    rcases List.mem_append.1 ha with ha | ha
    · have := (List.pairwise_append.1 h).2.2 a ha l[i] (by simp)
      omega
    · rw [List.mem_singleton] at ha
      subst ha
      exact h2
theorem asc_loop (l : List Int) (hl : l.length ≤ 1000000) : ∀ (d i : Nat), i + 1 + d = l.length → Asc (l.take (i + 1)) → Ev (fun k => tickingref02_ascending.l0 k l ((i + 1 : Nat) : Int)) (decide (Asc l))
  | 0, i, h, h1 => by
    refine Ev.step (fun k => ?_) (Ev.now _)
    simp only [tickingref02_ascending.l0]
    rw [List.take_of_length_le (by omega)] at h1
    rw [if_neg (by omega), decide_eq_true h1]
  | d + 1, i, h, h1 => by
    have hs := asc_snoc l i (by omega) h1
    have e1 : wrap64 (((i + 1 : Nat) : Int) - 1) = (i : Int) := by rw [w64 (by omega) (by omega)]; omega
    by_cases c : rd l (i : Int) ≥ rd l ((i + 1 : Nat) : Int)
    · refine Ev.step (fun k => ?_) (Ev.now _)
      simp only [tickingref02_ascending.l0]
      rw [e1, if_pos (by omega), if_pos (by omega), if_pos (by omega), if_pos (by omega), if_pos c, decide_eq_false]
      intro ha
      have h2 : Asc (l.take (i + 2)) := List.Pairwise.sublist (List.take_sublist _ _) ha
      have := hs.1 h2
      omega
    · refine Ev.step (f := fun k => tickingref02_ascending.l0 k l ((i + 1 + 1 : Nat) : Int)) (fun k => ?_) (asc_loop l hl d (i + 1) (by omega) (hs.2 (by omega)))
      simp only [tickingref02_ascending.l0]
      rw [e1, if_pos (by omega), if_pos (by omega), if_pos (by omega), if_pos (by omega), if_neg c, w64 (by omega) (by omega)]
      rfl
theorem asc_ev (l : List Int) (hl : l.length ≤ 1000000) : Ev (fun k => tickingref02_ascending.f k l) (decide (Asc l)) := by
  cases hn : l with
  | nil => exact Ev.step (fun k => by simp only [tickingref02_ascending.f, tickingref02_ascending.l0]; rw [if_neg (by simp)]; rfl) (Ev.now _)
  | cons a t =>
    rw [← hn]
    have := asc_loop l hl (l.length - 1) 0 (by rw [hn]; simp; omega) (by rw [hn]; simp [Asc])
    exact this

theorem awake_ev : Ev (fun k => tickinglaw02_awake.f k) true := Ev.of (fun k => tickinglaw02_awake.mono k) (k := 40) (by kernel_rfl)

/-! ### a pass -/
theorem rd_top (s : List Int) (t : Int) : rd (t :: s).reverse (((t :: s).reverse.length : Int) - 1) = t := by
  have e : (((t :: s).reverse.length : Int) - 1) = ((s.length : Nat) : Int) := by simp
  rw [e, rd_nat, List.reverse_cons, List.getD_eq_getElem?_getD, List.getElem?_append_right (by simp)]
  simp
theorem take_top (s : List Int) (t : Int) : (t :: s).reverse.take (((t :: s).reverse.length : Int) - 1).toNat = s.reverse := by
  have e : (((t :: s).reverse.length : Int) - 1).toNat = s.reverse.length := by simp
  rw [e, List.reverse_cons, List.take_left']
  rfl

theorem passIn_len (x : Int) : ∀ s lft : List Int, (passIn x s lft).1.length + (passIn x s lft).2.length = s.length + lft.length
  | [], lft => by simp [passIn]
  | t :: s, lft => by
    unfold passIn
    split
    · rw [passIn_len x s]; simp; omega
    · rfl

theorem Pass_l2 : ∀ (s out : List Int), s.length + out.length ≤ 1000000 → ∀ rest : List Int, Ev (fun k => tickingref02_Pass.l2 k out (s.reverse ++ rest) ((s.length : Int) - 1)) (out ++ s)
  | [], out, h, rest => by
    refine Ev.step (fun k => ?_) (Ev.now _)
    simp only [tickingref02_Pass.l2]
    rw [if_neg (by simp)]
    simp
  | t :: s, out, h, rest => by
    have e : (((t :: s).length : Int) - 1) = ((s.length : Nat) : Int) := by simp
    have e2 : rd ((t :: s).reverse ++ rest) ((s.length : Nat) : Int) = t := by
      rw [rd_nat, List.reverse_cons, List.append_assoc, List.getD_eq_getElem?_getD, List.getElem?_append_right (by simp)]
      simp
    refine Ev.step (f := fun k => tickingref02_Pass.l2 k (out ++ [t]) (s.reverse ++ ([t] ++ rest)) ((s.length : Int) - 1)) (fun k => ?_) ?_
    · simp only [tickingref02_Pass.l2]
      simp only [List.length_cons] at h
      rw [e, if_pos (by omega), if_pos (by omega), if_pos (by simp; omega), if_pos (by omega), e2, w64 (by omega) (by omega), List.reverse_cons, List.append_assoc]
    · have := Pass_l2 s (out ++ [t]) (by simp at h ⊢; omega) ([t] ++ rest)
      rw [List.append_assoc] at this
      exact this

theorem Pass_l1 (l : List Int) (i : Nat) (hi : i < l.length) (hl : l.length ≤ 1000000) (R : List Int) : ∀ (s out : List Int), s.length + out.length ≤ 1000000 →
    Ev (fun k => tickingref02_Pass.l0 k l (passIn (rd l i) s out).2 (rd l i :: (passIn (rd l i) s out).1).reverse ((i + 1 : Nat) : Int)) R → Ev (fun k => tickingref02_Pass.l1 k l out s.reverse (i : Int)) R
  | [], out, h, hR => by
    refine Ev.step (fun k => ?_) hR
    simp only [tickingref02_Pass.l1, passIn]
    rw [if_neg (by simp), if_pos (by omega), if_pos (by omega), if_pos (by simp), w64 (by omega) (by omega)]
    rfl
  | t :: s, out, h, hR => by
    have e1 : wrap64 (((t :: s).reverse.length : Int) - 1) = (((t :: s).reverse.length : Int) - 1) := w64 (by omega) (by simp at h ⊢; omega)
    have hlen : (t :: s).reverse.length = s.length + 1 := by simp
    have hh : s.length + 1 + out.length ≤ 1000000 := by simpa using h
    by_cases c : t < rd l i
    · have e2 : passIn (rd l i) (t :: s) out = passIn (rd l i) s (out ++ [t]) := by rw [passIn, if_pos c]
      rw [e2] at hR
      refine Ev.step (f := fun k => tickingref02_Pass.l1 k l (out ++ [t]) s.reverse (i : Int)) (fun k => ?_) (Pass_l1 l i hi hl R s (out ++ [t]) (by simp; omega) hR)
      simp only [tickingref02_Pass.l1]
      rw [e1, rd_top, take_top, if_pos (by omega), if_pos (by omega), if_pos (by omega), if_pos (by omega), if_pos (by omega), if_pos c, if_pos (by omega), if_pos (by omega)]
    · have e2 : passIn (rd l i) (t :: s) out = (t :: s, out) := by rw [passIn, if_neg c]
      rw [e2] at hR
      refine Ev.step (fun k => ?_) hR
      simp only [tickingref02_Pass.l1]
      rw [e1, rd_top, if_pos (by omega), if_pos (by omega), if_pos (by omega), if_pos (by omega), if_pos (by omega), if_neg c, if_pos (by omega), w64 (by omega) (by omega)]
      rw [List.reverse_cons (a := rd l i)]
      rfl

def passOut (l : List Int) : List Int := (passGo l ([], [])).2 ++ (passGo l ([], [])).1

theorem Pass_l0 (l : List Int) (hl : l.length ≤ 1000000) : ∀ (d i : Nat), i + d = l.length → ∀ (s out : List Int), s.length + out.length = i →
    Ev (fun k => tickingref02_Pass.l0 k l out s.reverse (i : Int)) ((passGo (l.drop i) (s, out)).2 ++ (passGo (l.drop i) (s, out)).1)
  | 0, i, h, s, out, hs => by
    rw [List.drop_eq_nil_of_le (by omega)]
    refine Ev.step (f := fun k => tickingref02_Pass.l2 k out (s.reverse ++ []) ((s.length : Int) - 1)) (fun k => ?_) (Pass_l2 s out (by omega) [])
    simp only [tickingref02_Pass.l0]
    rw [if_neg (by omega), w64 (by simp; omega) (by simp; omega), List.append_nil, List.length_reverse]
  | d + 1, i, h, s, out, hs => by
    rw [drop_cons l i (by omega)]
    refine Ev.step (f := fun k => tickingref02_Pass.l1 k l out s.reverse (i : Int)) (fun k => ?_) ?_
    · simp only [tickingref02_Pass.l0]
      rw [if_pos (by omega)]
    · refine Pass_l1 l i (by omega) hl _ s out (by omega) ?_
      have hpl := passIn_len (rd l i) s out
      exact Pass_l0 l hl d (i + 1) (by omega) (rd l i :: (passIn (rd l i) s out).1) (passIn (rd l i) s out).2 (by simp; omega)
theorem Pass_ev (l : List Int) (hl : l.length ≤ 1000000) : Ev (fun k => tickingref02_Pass.f k l) (passOut l) := by
  have := Pass_l0 l hl l.length 0 (by omega) [] [] rfl
  exact this

theorem passGo_len : ∀ (xs s lft : List Int), (passGo xs (s, lft)).1.length + (passGo xs (s, lft)).2.length = xs.length + s.length + lft.length
  | [], s, lft => by simp [passGo]
  | x :: xs, s, lft => by
    have := passIn_len x s lft
    unfold passGo
    rw [passGo_len xs]
    simp; omega
theorem passOut_len (l : List Int) : (passOut l).length = l.length := by
  have := passGo_len l [] []
  unfold passOut
  simp at this ⊢
  omega
theorem OneStack_ev (l : List Int) (hl : l.length ≤ 1000000) : Ev (fun k => tickingref02_OneStack.f k l) (decide (Asc (passOut l))) := by
  refine Ev.congr (fun k => ?_) (Ev.bind (f := fun k t => (tickingref02_ascending.f k t).bind fun u => some u) (Pass_ev l hl) (Ev.bind (f := fun _ u => some u) (asc_ev (passOut l) (by rw [passOut_len]; exact hl)) (Ev.now _)))
  rfl

end Go.Proofs.Ytjbjongahnocdaa.P

/- The least number of queues: what places and least compute is the length of the longest descending choice of positions. -/
namespace Go.Proofs.Ytjbjongahnocdaa.P
open Go.RowKit Go.Proofs.Ytjbjongahnocdaa.S Go.Proofs.Ytjbjongahnocdaa.Defs Go.Proofs.YtjbjongahnocdaaW.PrintWords Go.Proofs.YtjbjongahnocdaaW.PrintLast Go.Proofs.YtjbjongahnocdaaW.PrintMore

def qAt (out : List (Int × Int)) (j : Nat) : Int := (out.getD j (0, 0)).1
def bfAt (out : List (Int × Int)) (j : Nat) : Int := (out.getD j (0, 0)).2
theorem getD_old {α : Type} (out : List α) (p d : α) (j : Nat) (h : j < out.length) : (out ++ [p]).getD j d = out.getD j d := by
  simp [List.getElem?_append, h]
theorem getD_new {α : Type} (out : List α) (p d : α) : (out ++ [p]).getD out.length d = p := by
  simp

/-- What holds of the queues when i items have been placed. -/
structure Inv (l : List Int) (i : Nat) (last : List Int) (out : List (Int × Int)) : Prop where
  len : out.length = i
  le : i ≤ l.length
  qr : ∀ j, j < i → 0 ≤ qAt out j ∧ qAt out j < last.length
  lr : ∀ c : Nat, c < last.length → ∃ p : Nat, last.getD c 0 = (p : Int) ∧ p < i ∧ qAt out p = (c : Int)
  top : ∀ j c p : Nat, j < i → c < last.length → qAt out j = (c : Int) → last.getD c 0 = (p : Int) → rd l j ≤ rd l p
  inc : ∀ j j' : Nat, j < j' → j' < i → qAt out j = qAt out j' → rd l j < rd l j'
  ch : ∀ j : Nat, j < i → 0 < qAt out j → ∃ b : Nat, bfAt out j = (b : Int) ∧ b < j ∧ qAt out b = qAt out j - 1 ∧ rd l j < rd l b
  no : ∀ j, j < i → qAt out j = 0 → bfAt out j = -1

theorem rd_inj {l : List Int} (h : l.Nodup) {i j : Nat} (hi : i < l.length) (hj : j < l.length) (e : rd l i = rd l j) : i = j := by
  rw [rd_lt l i hi, rd_lt l j hj] at e
  have hp := List.pairwise_iff_getElem.1 h
  rcases Nat.lt_trichotomy i j with c | c | c
  · exact absurd e (hp i j hi hj c)
  · exact c
  · exact absurd e.symm (hp j i hj hi c)

theorem inv_step (l : List Int) (hd : l.Nodup) (i : Nat) (hi : i < l.length) (last : List Int) (out : List (Int × Int)) (h : Inv l i last out) :
    Inv l (i + 1) ((lastFor l last (rd l i) i).set (placeQ l last (rd l i)) i) (out ++ [((placeQ l last (rd l i) : Int), beforeOf (lastFor l last (rd l i) i) (placeQ l last (rd l i)))]) := by
  obtain ⟨c0, hc0⟩ : ∃ c0, c0 = placeQ l last (rd l i) := ⟨_, rfl⟩
  have hle : c0 ≤ last.length := by rw [hc0]; exact List.findIdx_le_length
  have hlt : c0 < last.length → rd l (last.getD c0 0) < rd l i := by
    intro c
    have := List.findIdx_getElem (p := fun k : Int => decide (l.getD k.toNat 0 < rd l i)) (xs := last) (w := by rw [hc0] at c; exact c)
    rw [decide_eq_true_eq] at this
    have e : last.getD c0 0 = last[c0] := by simp [c]
    rw [e]
    subst hc0
    exact this
  have hge : ∀ c, c < c0 → ¬ rd l (last.getD c 0) < rd l i := by
    intro c hc
    have hcl : c < last.length := by omega
    have := List.not_of_lt_findIdx (p := fun k : Int => decide (l.getD k.toNat 0 < rd l i)) (xs := last) (i := c) (by rw [hc0] at hc; exact hc)
    rw [Bool.eq_false_iff, ne_eq, decide_eq_true_eq] at this
    have e : last.getD c 0 = last[c] := by simp [hcl]
    rw [e]
    exact this
  obtain ⟨L, hL⟩ : ∃ L, L = (lastFor l last (rd l i) i).set (placeQ l last (rd l i)) i := ⟨_, rfl⟩
  obtain ⟨b, hb⟩ : ∃ b, b = beforeOf (lastFor l last (rd l i) i) (placeQ l last (rd l i)) := ⟨_, rfl⟩
  have hLf : lastFor l last (rd l i) i = if c0 < last.length then last else last ++ [(i : Int)] := by rw [hc0]; rfl
  have hLl : L.length = if c0 < last.length then last.length else last.length + 1 := by
    rw [hL, List.length_set, hLf]
    split <;> simp
  have hLc : L.getD c0 0 = (i : Int) := by
    have : c0 < (lastFor l last (rd l i) i).length := by
      rw [hLf]; split
      · assumption
      · simp; omega
    rw [hL, ← hc0]
    simp [this]
  have hLo : ∀ c, c ≠ c0 → c < L.length → c < last.length ∧ L.getD c 0 = last.getD c 0 := by
    intro c hc hcl
    rw [hLl] at hcl
    have hcl' : c < last.length := by
      split at hcl
      · exact hcl
      · omega
    refine ⟨hcl', ?_⟩
    rw [hL, ← hc0, hLf]
    simp only [List.getD_eq_getElem?_getD, List.getElem?_set]
    rw [if_neg (by omega)]
    split
    · rfl
    · rw [List.getElem?_append_left hcl']
  have hbz : c0 = 0 → b = -1 := by
    intro e
    rw [hb, ← hc0]
    unfold beforeOf
    rw [if_pos e]
  have hbp : 0 < c0 → b = last.getD (c0 - 1) 0 := by
    intro e
    rw [hb, ← hc0]
    unfold beforeOf
    rw [if_neg (by omega), hLf]
    split
    · rfl
    · rw [getD_old _ _ _ _ (by omega)]
  rw [← hL, ← hb, ← hc0]
  clear hL hb hLf hc0
  have hlen := h.len
  have qo : ∀ j, j < i → qAt (out ++ [((c0 : Int), b)]) j = qAt out j := fun j hj => by unfold qAt; rw [getD_old _ _ _ _ (by omega)]
  have bo : ∀ j, j < i → bfAt (out ++ [((c0 : Int), b)]) j = bfAt out j := fun j hj => by unfold bfAt; rw [getD_old _ _ _ _ (by omega)]
  have qn : qAt (out ++ [((c0 : Int), b)]) i = c0 := by unfold qAt; rw [← hlen, getD_new]
  have bn : bfAt (out ++ [((c0 : Int), b)]) i = b := by unfold bfAt; rw [← hlen, getD_new]
  have hcL : c0 < L.length := by rw [hLl]; split <;> omega
  have hLL : last.length ≤ L.length := by rw [hLl]; split <;> omega
  refine ⟨by simp [hlen], hi, ?_, ?_, ?_, ?_, ?_, ?_⟩
  · intro j hj
    by_cases e : j = i
    · subst e; rw [qn]; omega
    · rw [qo j (by omega)]
      have := h.qr j (by omega)
      omega
  · intro c hc
    by_cases e : c = c0
    · subst e; exact ⟨i, hLc, by omega, qn⟩
    · obtain ⟨h1, h2⟩ := hLo c e hc
      obtain ⟨p, p1, p2, p3⟩ := h.lr c h1
      exact ⟨p, by rw [h2, p1], by omega, by rw [qo p p2, p3]⟩
  · intro j c p hj hc hq hp
    by_cases e : c = c0
    · subst e
      rw [hLc] at hp
      obtain rfl : i = p := by omega
      by_cases e : j = i
      · subst e; exact Int.le_refl _
      · rw [qo j (by omega)] at hq
        have r := (h.qr j (by omega)).2
        have hcl : c < last.length := by omega
        obtain ⟨p, p1, p2, p3⟩ := h.lr c hcl
        have t := h.top j c p (by omega) hcl hq p1
        have := hlt hcl
        rw [p1] at this
        omega
    · obtain ⟨h1, h2⟩ := hLo c e hc
      rw [h2] at hp
      have hji : j ≠ i := by
        intro e'
        subst e'
        rw [qn] at hq
        omega
      rw [qo j (by omega)] at hq
      exact h.top j c p (by omega) h1 hq hp
  · intro j j' hj hj' hq
    by_cases e : j' = i
    · subst e
      rw [qn, qo j hj] at hq
      have r := (h.qr j hj).2
      have hcl : c0 < last.length := by omega
      obtain ⟨p, p1, p2, p3⟩ := h.lr c0 hcl
      have t := h.top j c0 p hj hcl hq p1
      have := hlt hcl
      rw [p1] at this
      omega
    · rw [qo j (by omega), qo j' (by omega)] at hq
      exact h.inc j j' hj (by omega) hq
  · intro j hj hq
    by_cases e : j = i
    · subst e
      rw [qn] at hq
      have hcl : c0 - 1 < last.length := by omega
      obtain ⟨p, p1, p2, p3⟩ := h.lr (c0 - 1) hcl
      have n := hge (c0 - 1) (by omega)
      rw [p1] at n
      have ne : rd l p ≠ rd l j := fun e => by
        have := rd_inj hd (by omega) hi e
        omega
      refine ⟨p, by rw [bn, hbp (by omega), p1], p2, ?_, by omega⟩
      rw [qo p p2, qn, p3]
      omega
    · rw [qo j (by omega)] at hq ⊢
      obtain ⟨b', b1, b2, b3, b4⟩ := h.ch j (by omega) hq
      exact ⟨b', by rw [bo j (by omega), b1], b2, by rw [qo b' (by omega), b3], b4⟩
  · intro j hj hq
    by_cases e : j = i
    · subst e
      rw [qn] at hq
      rw [bn, hbz (by omega)]
    · rw [qo j (by omega)] at hq
      rw [bo j (by omega)]
      exact h.no j (by omega) hq

theorem placesGo_inv (l : List Int) (hd : l.Nodup) (d : Nat) : ∀ (i : Nat) (last : List Int) (out : List (Int × Int)), i + d = l.length → Inv l i last out → ∃ last', Inv l l.length last' (placesGo l (l.drop i) (i : Int) last out) := by
  induction d with
  | zero =>
    intro i last out h hv
    obtain rfl : i = l.length := by omega
    rw [List.drop_length]
    exact ⟨last, hv⟩
  | succ d ih =>
    intro i last out h hv
    rw [drop_cons l i (by omega)]
    exact ih (i + 1) _ _ (by omega) (inv_step l hd i (by omega) last out hv)
theorem places_inv (l : List Int) (hd : l.Nodup) : ∃ last, Inv l l.length last (placesB l) :=
  placesGo_inv l hd l.length 0 [] [] (by omega) ⟨rfl, Nat.zero_le _, fun _ h => by omega, fun _ h => absurd h (Nat.not_lt_zero _), fun _ _ _ h => by omega, fun _ _ _ h => by omega, fun _ h => by omega, fun _ h => by omega⟩

/-- Positions of descending items. -/
def Desc (l : List Int) (ps : List Nat) : Prop := ps.Pairwise (fun a b : Nat => a < b ∧ rd l (b : Int) < rd l (a : Int)) ∧ ∀ p ∈ ps, p < l.length
def LeastIs (l : List Int) (r : Int) : Prop := 1 ≤ r ∧ (∀ ps, Desc l ps → (ps.length : Int) ≤ r) ∧ (r = 1 ∨ ∃ ps, Desc l ps ∧ (ps.length : Int) = r)
theorem least_unique {l : List Int} {r s : Int} (h : LeastIs l r) (h' : LeastIs l s) : r = s := by
  obtain ⟨a1, a2, a3⟩ := h
  obtain ⟨b1, b2, b3⟩ := h'
  have x : r ≤ s := by
    rcases a3 with rfl | ⟨ps, p1, p2⟩
    · exact b1
    · have := b2 ps p1; omega
  have y : s ≤ r := by
    rcases b3 with rfl | ⟨ps, p1, p2⟩
    · exact a1
    · have := a2 ps p1; omega
  omega
theorem least_move {l l' : List Int} {r : Int} (h1 : ∀ ps, Desc l ps → ∃ qs, Desc l' qs ∧ qs.length = ps.length) (h2 : ∀ ps, Desc l' ps → ∃ qs, Desc l qs ∧ qs.length = ps.length) (h : LeastIs l r) : LeastIs l' r := by
  obtain ⟨a1, a2, a3⟩ := h
  refine ⟨a1, fun ps hp => ?_, ?_⟩
  · obtain ⟨qs, q1, q2⟩ := h2 ps hp
    have := a2 qs q1
    omega
  · rcases a3 with rfl | ⟨ps, p1, p2⟩
    · exact .inl rfl
    · obtain ⟨qs, q1, q2⟩ := h1 ps p1
      exact .inr ⟨qs, q1, by omega⟩

theorem chain_at {l : List Int} {i : Nat} {last : List Int} {out : List (Int × Int)} (h : Inv l i last out) : ∀ (c j : Nat), j < i → qAt out j = (c : Int) → ∃ ps, Desc l (ps ++ [j]) ∧ ps.length = c := by
  intro c
  induction c with
  | zero =>
    intro j hj _
    have := h.le
    exact ⟨[], ⟨by simp, by simp; omega⟩, rfl⟩
  | succ c ih =>
    intro j hj hq
    obtain ⟨b, _, b2, b3, b4⟩ := h.ch j hj (by omega)
    obtain ⟨ps, ⟨p1, p2⟩, p3⟩ := ih b (by omega) (by omega)
    have := h.le
    refine ⟨ps ++ [b], ⟨?_, ?_⟩, by simp [p3]⟩
    · rw [List.pairwise_append]
      refine ⟨p1, by simp, ?_⟩
      intro a ha x hx
      rw [List.mem_singleton] at hx
      subst hx
      rw [List.pairwise_append] at p1
      rcases List.mem_append.1 ha with ha | ha
      · have := p1.2.2 a ha b (by simp)
        omega
      · rw [List.mem_singleton] at ha
        subst ha
        omega
    · intro p hp
      rcases List.mem_append.1 hp with hp | hp
      · exact p2 p hp
      · rw [List.mem_singleton] at hp
        omega

theorem desc_nodup {l : List Int} {last : List Int} {out : List (Int × Int)} (h : Inv l l.length last out) {ps : List Nat} (hp : Desc l ps) : (ps.map (qAt out)).Nodup := by
  unfold List.Nodup
  rw [List.pairwise_map]
  refine List.Pairwise.imp_of_mem ?_ hp.1
  intro a b ha hb hab e
  have := h.inc a b hab.1 (hp.2 b hb) e
  omega

theorem least_loop (out : List (Int × Int)) (hl : out.length ≤ 60) (hq : ∀ j, j < out.length → 0 ≤ qAt out j ∧ qAt out j < 60) (d : Nat) : ∀ (i : Nat) (m : Int), i + d = out.length → 1 ≤ m → m ≤ 60 → (∀ j, j < i → qAt out j + 1 ≤ m) → (m = 1 ∨ ∃ j, j < i ∧ m = qAt out j + 1) →
    ∃ r, Ev (fun k => shunt_least.l0 k m (out.map plPlace) (out.length : Int) (i : Int)) r ∧ 1 ≤ r ∧ (∀ j, j < out.length → qAt out j + 1 ≤ r) ∧ (r = 1 ∨ ∃ j, j < out.length ∧ r = qAt out j + 1) := by
  induction d with
  | zero =>
    intro i m h h1 _ h2 h3
    obtain rfl : i = out.length := by omega
    refine ⟨m, Ev.step (f := fun _ => some m) (fun k => ?_) (Ev.now _), h1, h2, h3⟩
    simp only [shunt_least.l0]
    rw [if_neg (by omega)]
  | succ d ih =>
    intro i m h h1 hm h2 h3
    have hr := hq i (by omega)
    have w : wrap64 ((i : Int) + 1) = ((i + 1 : Nat) : Int) := by rw [w64 (by omega) (by omega)]; rfl
    have e : (rd_T82 (out.map plPlace) (i : Int)).f0 = qAt out i := by
      have hi : i < out.length := by omega
      unfold rd_T82 qAt
      simp [plPlace, hi]
    have w2 : wrap64 (qAt out i + 1) = qAt out i + 1 := w64 (by omega) (by omega)
    have step : ∀ r, Ev (fun k => shunt_least.l0 k (mx m (qAt out i + 1)) (out.map plPlace) (out.length : Int) ((i + 1 : Nat) : Int)) r → Ev (fun k => shunt_least.l0 k m (out.map plPlace) (out.length : Int) (i : Int)) r := by
      intro r hr
      refine Ev.step (fun k => ?_) hr
      simp only [shunt_least.l0]
      rw [if_pos (by omega), if_pos (by omega), if_pos (by rw [List.length_map]; omega), e, w2, w]
    by_cases c : m < qAt out i + 1
    · have em : mx m (qAt out i + 1) = qAt out i + 1 := by unfold mx; rw [if_pos c]
      rw [em] at step
      obtain ⟨r, r1, r2⟩ := ih (i + 1) (qAt out i + 1) (by omega) (by omega) (by omega) (fun j hj => by
        by_cases e : j = i
        · subst e; omega
        · have := h2 j (by omega); omega) (.inr ⟨i, by omega, rfl⟩)
      exact ⟨r, step r r1, r2⟩
    · have em : mx m (qAt out i + 1) = m := by unfold mx; rw [if_neg c]
      rw [em] at step
      obtain ⟨r, r1, r2⟩ := ih (i + 1) m (by omega) (by omega) (by omega) (fun j hj => by
        by_cases e : j = i
        · subst e; omega
        · exact h2 j (by omega)) (by
          rcases h3 with h3 | ⟨j, j1, j2⟩
          · exact .inl h3
          · exact .inr ⟨j, by omega, j2⟩)
      exact ⟨r, step r r1, r2⟩

theorem last_le {l : List Int} {last : List Int} {out : List (Int × Int)} {i : Nat} (h : Inv l i last out) : last.length ≤ i := by
  have hd : (((List.range last.length).map (fun c => last.getD c 0))).Nodup := by
    unfold List.Nodup
    rw [List.pairwise_map]
    refine List.Pairwise.imp_of_mem ?_ List.pairwise_lt_range
    intro a b ha hb hab e
    rw [List.mem_range] at ha hb
    obtain ⟨p, p1, _, p3⟩ := h.lr a ha
    obtain ⟨q, q1, _, q3⟩ := h.lr b hb
    have : p = q := by omega
    subst this
    omega
  have := nodup_len i _ (-1) hd (fun a ha => by
    obtain ⟨c, c1, c2⟩ := List.mem_map.1 ha
    rw [List.mem_range] at c1
    obtain ⟨p, p1, p2, _⟩ := h.lr c c1
    omega)
  simpa using this

theorem Least_ev (l : List Int) (h : IsOrd l) (hl : l.length ≤ 60) : ∃ r, Ev (fun k => shunt_Least.f k l) (r, 0) ∧ LeastIs l r := by
  obtain ⟨last, hv⟩ := places_inv l h.1
  have hll := last_le hv
  have hlen := hv.len
  obtain ⟨r, r1, r2, r3, r4⟩ := least_loop (placesB l) (by omega) (fun j hj => by have := hv.qr j (by omega); omega) (placesB l).length 0 1 (by omega) (by omega) (by omega) (fun j hj => by omega) (.inl rfl)
  refine ⟨r, ?_, r2, ?_, ?_⟩
  · refine Ev.congr (f := fun k => (shunt_least.f k ((placesB l).map plPlace)).bind fun t131 => some (t131, 0)) (fun k => ?_) ?_
    · unfold shunt_Least.f shunt_isOrder.f
      simp only [Option.bind_some]
      rw [if_pos ((isOrderB_iff l).2 ⟨hl, h⟩)]
      unfold shunt_places.f
      rw [if_pos hl]
      rfl
    · refine Ev.bind (f := fun _ (t131 : Int) => some (t131, (0 : Int))) ?_ (Ev.now _)
      unfold shunt_least.f
      rw [List.length_map]
      exact r1
  · intro ps hp
    have := nodup_len r.toNat (ps.map (qAt (placesB l))) (-1) (desc_nodup hv hp) (fun a ha => by
      obtain ⟨p, p1, p2⟩ := List.mem_map.1 ha
      have := hv.qr p (hp.2 p p1)
      have := r3 p (by have := hp.2 p p1; omega)
      omega)
    rw [List.length_map] at this
    omega
  · rcases r4 with r4 | ⟨j, j1, j2⟩
    · exact .inl r4
    · have hq := hv.qr j (by omega)
      obtain ⟨ps, p1, p2⟩ := chain_at hv (qAt (placesB l) j).toNat j (by omega) (by omega)
      exact .inr ⟨_, p1, by rw [List.length_append, p2]; simp; omega⟩
theorem Least_no (l : List Int) (h : ¬ (l.length ≤ 60 ∧ IsOrd l)) (k : Nat) : shunt_Least.f k l = some (0, 2) := by
  unfold shunt_Least.f shunt_isOrder.f
  simp only [Option.bind_some]
  rw [if_neg (fun h' => h ((isOrderB_iff l).1 h'))]
end Go.Proofs.Ytjbjongahnocdaa.P

/- A list turned round. -/
namespace Go.Proofs.Ytjbjongahnocdaa.P
open Go.RowKit Go.Proofs.Ytjbjongahnocdaa.S Go.Proofs.Ytjbjongahnocdaa.Defs Go.Proofs.YtjbjongahnocdaaW.PrintWords Go.Proofs.YtjbjongahnocdaaW.PrintLast Go.Proofs.YtjbjongahnocdaaW.PrintMore
set_option linter.unusedVariables false

theorem rd_put (R : List Int) (v w x : Int) (hv : 0 ≤ v) (hw : 0 ≤ w) (hl : v < R.length) : rd (R.set v.toNat x) w = if v = w then x else rd R w := by
  unfold rd
  simp only [List.getD_eq_getElem?_getD, List.getElem?_set]
  by_cases c : v = w
  · subst c
    rw [if_pos rfl, if_pos (by omega), if_pos rfl]
    rfl
  · rw [if_neg (by omega), if_neg c]

theorem reverse_loop (xs : List Int) (hl : xs.length ≤ 1000) (d : Nat) : ∀ (i : Nat) (R : List Int), 2 * i + d = xs.length → R.length = xs.length →
    (∀ m : Nat, m < xs.length → rd R (m : Int) = if m < i ∨ xs.length - 1 - m < i then rd xs ((xs.length - 1 - m : Nat) : Int) else rd xs (m : Int)) → Ev (fun k => slices_Reverse_int_int.l0 k R (i : Int) ((xs.length : Int) - 1 - i)) xs.reverse := by
  induction d using Nat.strongRecOn with
  | _ d ih =>
    intro i R h hR hv
    by_cases c : 2 ≤ d
    · obtain ⟨e, rfl⟩ : ∃ e, d = e + 2 := ⟨d - 2, by omega⟩
      have w1 : wrap64 ((i : Int) + 1) = ((i + 1 : Nat) : Int) := by rw [w64 (by omega) (by omega)]; rfl
      have w2 : wrap64 ((xs.length : Int) - 1 - i - 1) = (xs.length : Int) - 1 - ((i + 1 : Nat) : Int) := by rw [w64 (by omega) (by omega)]; omega
      have e3 : (xs.length : Int) - 1 - i = ((xs.length - 1 - i : Nat) : Int) := by omega
      refine Ev.step (fun k => ?_) (ih e (by omega) (i + 1) ((R.set (i : Int).toNat (rd R ((xs.length : Int) - 1 - i))).set ((xs.length : Int) - 1 - i).toNat (rd R (i : Int))) (by omega) (by simp [hR]) (fun m hm => ?_))
      · simp only [slices_Reverse_int_int.l0]
        rw [if_pos (by omega), if_pos (by omega), if_pos (by omega), if_pos (by omega), if_pos (by omega), w1, w2]
      · rw [rd_put _ _ _ _ (by omega) (by omega) (by rw [List.length_set]; omega), rd_put _ _ _ _ (by omega) (by omega) (by omega)]
        have hi := hv i (by omega)
        rw [if_neg (by omega)] at hi
        have hj := hv (xs.length - 1 - i) (by omega)
        rw [if_neg (by omega)] at hj
        by_cases c1 : m = xs.length - 1 - i
        · subst c1
          rw [if_pos e3, if_pos (by omega), hi, show xs.length - 1 - (xs.length - 1 - i) = i by omega]
        · rw [if_neg (by omega)]
          by_cases c2 : m = i
          · subst c2
            rw [if_pos rfl, if_pos (by omega), e3, hj]
          · rw [if_neg (by omega), hv m hm]
            by_cases c3 : m < i ∨ xs.length - 1 - m < i
            · rw [if_pos c3, if_pos (by omega)]
            · rw [if_neg c3, if_neg (by omega)]
    · have hx : R = xs.reverse := by
        apply List.ext_getElem
        · simp [hR]
        · intro m h1 h2
          have hm := hv m (by omega)
          rw [rd_lt R m h1] at hm
          rw [hm, List.getElem_reverse]
          by_cases c3 : m < i ∨ xs.length - 1 - m < i
          · rw [if_pos c3, rd_lt xs _ (by omega)]
          · rw [if_neg c3, rd_lt xs m (by omega)]
            congr 1
            omega
      rw [hx] at *
      refine Ev.step (f := fun _ => some xs.reverse) (fun k => ?_) (Ev.now _)
      simp only [slices_Reverse_int_int.l0]
      rw [if_neg (by omega)]
theorem reverse_ev (xs : List Int) (hl : xs.length ≤ 1000) : Ev (fun k => slices_Reverse_int_int.f k xs) xs.reverse := by
  have w : wrap64 ((xs.length : Int) - 1) = (xs.length : Int) - 1 - ((0 : Nat) : Int) := by rw [w64 (by omega) (by omega)]; omega
  refine Ev.congr (fun k => ?_) (reverse_loop xs hl xs.length 0 xs (by omega) rfl (fun m hm => by rw [if_neg (by omega)]))
  unfold slices_Reverse_int_int.f
  rw [w]
  rfl

end Go.Proofs.Ytjbjongahnocdaa.P

/- What Queues returns: lanes, or a block. -/
namespace Go.Proofs.Ytjbjongahnocdaa.P
open Go.RowKit Go.Proofs.Ytjbjongahnocdaa.S Go.Proofs.Ytjbjongahnocdaa.Defs Go.Proofs.YtjbjongahnocdaaW.PrintWords Go.Proofs.YtjbjongahnocdaaW.PrintLast Go.Proofs.YtjbjongahnocdaaW.PrintMore
set_option linter.unusedVariables false

theorem asc_adj (b : List Int) : Asc b ↔ ∀ i : Nat, 0 < i → i < b.length → rd b ((i - 1 : Nat) : Int) < rd b (i : Int) := by
  constructor
  · intro h i h0 hi
    rw [rd_lt b i hi, rd_lt b (i - 1) (by omega)]
    exact List.pairwise_iff_getElem.1 h (i - 1) i (by omega) hi (by omega)
  · intro h
    have key : ∀ d i : Nat, i + d + 1 < b.length → rd b (i : Int) < rd b ((i + d + 1 : Nat) : Int) := by
      intro d
      induction d with
      | zero =>
        intro i hi
        exact h (i + 1) (by omega) (by omega)
      | succ d ih =>
        intro i hi
        have a1 := ih i (by omega)
        have a2 := h (i + d + 2) (by omega) (by omega)
        have e : (i + d + 2 - 1 : Nat) = i + d + 1 := by omega
        rw [e] at a2
        have e2 : (i + (d + 1) + 1 : Nat) = i + d + 2 := by omega
        rw [e2]
        omega
    unfold Asc
    rw [List.pairwise_iff_getElem]
    intro i j hi hj hij
    have := key (j - i - 1) i (by omega)
    rw [show i + (j - i - 1) + 1 = j by omega, rd_lt b i hi, rd_lt b j hj] at this
    exact this
/-- Lanes that sort. -/
def LanesP (l : List Int) (k : Int) (lanes : List Int) : Prop :=
  lanes.length = l.length ∧ ∀ m : Nat, m < lanes.length → (0 ≤ rd lanes (m : Int) ∧ rd lanes (m : Int) < k) ∧ ∀ j : Nat, j < m → rd lanes (j : Int) = rd lanes (m : Int) → rd l (j : Int) < rd l (m : Int)
/-- A block for k queues. -/
def QB (l : List Int) (k : Int) (b : List Int) : Prop :=
  (b.length : Int) = k + 1 ∧ ∀ i : Nat, i < b.length → (0 ≤ rd b (i : Int) ∧ rd b (i : Int) < l.length) ∧ (0 < i → rd b ((i - 1 : Nat) : Int) < rd b (i : Int) ∧ rd l (rd b (i : Int)) < rd l (rd b ((i - 1 : Nat) : Int)))

theorem pos_rd {l : List Int} (h : IsOrd l) (p : Nat) (hp : p < l.length) : 1 ≤ rd l (p : Int) ∧ rd l (p : Int) ≤ l.length :=
  h.2 _ (rd_mem (by omega) (by omega))

theorem desc_snoc {l : List Int} {ps : List Nat} {p i : Nat} : Desc l (ps ++ [p] ++ [i]) ↔ Desc l (ps ++ [p]) ∧ p < i ∧ i < l.length ∧ rd l (i : Int) < rd l (p : Int) := by
  unfold Desc
  constructor
  · rintro ⟨h1, h2⟩
    rw [List.pairwise_append] at h1
    have := h1.2.2 p (by simp) i (by simp)
    exact ⟨⟨h1.1, fun x hx => h2 x (List.mem_append_left _ hx)⟩, this.1, h2 i (by simp), this.2⟩
  · rintro ⟨⟨h1, h2⟩, h3, h4, h5⟩
    refine ⟨?_, ?_⟩
    · rw [List.pairwise_append]
      refine ⟨h1, by simp, fun a ha x hx => ?_⟩
      rw [List.mem_singleton] at hx
      subst hx
      rw [List.pairwise_append] at h1
      rcases List.mem_append.1 ha with ha | ha
      · have := h1.2.2 a ha p (by simp)
        omega
      · rw [List.mem_singleton] at ha
        subst ha
        exact ⟨h3, h5⟩
    · intro x hx
      rcases List.mem_append.1 hx with hx | hx
      · exact h2 x hx
      · rw [List.mem_singleton] at hx
        omega
theorem last_or {α : Type} (ps : List α) : ps = [] ∨ ∃ qs p, ps = qs ++ [p] := by
  rcases List.eq_nil_or_concat ps with h | ⟨qs, p, h⟩
  · exact .inl h
  · exact .inr ⟨qs, p, by simpa using h⟩
theorem plq (out : List (Int × Int)) (i : Nat) (h : i < out.length) : (rd_T82 (out.map plPlace) (i : Int)).f0 = qAt out i := by
  unfold rd_T82 qAt
  simp [plPlace, h]
theorem plb (out : List (Int × Int)) (i : Nat) (h : i < out.length) : (rd_T82 (out.map plPlace) (i : Int)).f1 = bfAt out i := by
  unfold rd_T82 bfAt
  simp [plPlace, h]
/-- Going back over the queues: the positions of a descending choice, the last one first. -/
theorem back_ev {l last : List Int} {out : List (Int × Int)} (hv : Inv l l.length last out) (hl : l.length ≤ 60) (c : Nat) : ∀ (j : Nat) (acc : List Int), j < l.length → qAt out j = (c : Int) → acc.length + c ≤ 100 →
    ∃ ps : List Nat, Desc l (ps ++ [j]) ∧ ps.length = c ∧ Ev (fun k => shunt_Queues.l1 k (out.map plPlace) (j : Int) acc) (([] : List Int), (acc ++ ((ps ++ [j]).map (fun p : Nat => (p : Int))).reverse).reverse, 0) := by
  have hlen := hv.len
  have hend : ∀ acc : List Int, acc.length ≤ 200 → Ev (fun k => shunt_Queues.l1 k (out.map plPlace) (-1) acc) (([] : List Int), acc.reverse, 0) := by
    intro acc ha
    refine Ev.step (f := fun k => (slices_Reverse_int_int.f k acc).bind fun t => some (([] : List Int), t, (0 : Int))) (fun k => ?_) ?_
    · simp only [shunt_Queues.l1]
      rw [if_neg (by omega)]
    · exact Ev.bind (f := fun k t => some (([] : List Int), t, (0 : Int))) (reverse_ev acc (by omega)) (Ev.now _)
  induction c with
  | zero =>
    intro j acc hj hq ha
    refine ⟨[], ⟨by simp, by simp; omega⟩, rfl, ?_⟩
    have hb := hv.no j hj (by omega)
    refine Ev.step (fun k => ?_) (hend (acc ++ [(j : Int)]) (by simp; omega))
    simp only [shunt_Queues.l1]
    rw [if_pos (by omega), if_pos (by omega), if_pos (by omega), if_pos (by rw [List.length_map]; omega), plb out j (by omega), hb]
  | succ c ih =>
    intro j acc hj hq ha
    obtain ⟨b, b1, b2, b3, b4⟩ := hv.ch j hj (by omega)
    obtain ⟨ps, p1, p2, p3⟩ := ih b (acc ++ [(j : Int)]) (by omega) (by omega) (by simp; omega)
    refine ⟨ps ++ [b], desc_snoc.2 ⟨p1, b2, hj, b4⟩, by simp [p2], ?_⟩
    have e : acc ++ ((ps ++ [b] ++ [j]).map (fun p : Nat => (p : Int))).reverse = acc ++ [(j : Int)] ++ ((ps ++ [b]).map (fun p : Nat => (p : Int))).reverse := by simp
    rw [e]
    refine Ev.step (fun k => ?_) p3
    simp only [shunt_Queues.l1]
    rw [if_pos (by omega), if_pos (by omega), if_pos (by omega), if_pos (by rw [List.length_map]; omega), plb out j (by omega), b1]
theorem desc_qb {l : List Int} {ps : List Nat} (h : Desc l ps) (k : Int) (hk : (ps.length : Int) = k + 1) : QB l k (ps.map (fun p : Nat => (p : Int))) := by
  have hr : ∀ i : Nat, (hi : i < ps.length) → rd (ps.map (fun p : Nat => (p : Int))) (i : Int) = ((ps[i] : Nat) : Int) := by
    intro i hi
    rw [rd_lt _ i (by simpa using hi)]
    simp
  refine ⟨by rw [List.length_map]; exact hk, fun i hi => ?_⟩
  rw [List.length_map] at hi
  rw [hr i hi]
  have := h.2 ps[i] (List.getElem_mem hi)
  refine ⟨by omega, fun h0 => ?_⟩
  rw [hr (i - 1) (by omega)]
  have := List.pairwise_iff_getElem.1 h.1 (i - 1) i (by omega) hi (by omega)
  exact ⟨by omega, this.2⟩
theorem queues_loop {l last : List Int} {out : List (Int × Int)} (hv : Inv l l.length last out) (hl : l.length ≤ 60) (k : Int) (h0 : 1 ≤ k) (h1 : k ≤ 60) (d : Nat) : ∀ i : Nat, i + d = l.length → (∀ j : Nat, j < i → qAt out j < k) →
    ∃ la b, Ev (fun q => shunt_Queues.l0 q k (out.map plPlace) ((List.range i).map (qAt out)) (out.map plPlace) ((out.map plPlace).length : Int) (i : Int)) (la, b, 0) ∧
      (((∀ j : Nat, j < l.length → qAt out j < k) ∧ la = (List.range l.length).map (qAt out) ∧ b = []) ∨ (la = [] ∧ QB l k b)) := by
  have hlen := hv.len
  have hml : (out.map plPlace).length = l.length := by rw [List.length_map, hlen]
  induction d with
  | zero =>
    intro i h hq
    obtain rfl : i = l.length := by omega
    refine ⟨(List.range l.length).map (qAt out), [], Ev.step (f := fun _ => some ((List.range l.length).map (qAt out), ([] : List Int), (0 : Int))) (fun q => ?_) (Ev.now _), .inl ⟨hq, rfl, rfl⟩⟩
    simp only [shunt_Queues.l0]
    rw [if_neg (by omega)]
  | succ d ih =>
    intro i h hq
    have w : wrap64 ((i : Int) + 1) = ((i + 1 : Nat) : Int) := by rw [w64 (by omega) (by omega)]; rfl
    have hqr := hv.qr i (by omega)
    by_cases c : qAt out i = k
    · obtain ⟨ps, p1, p2, p3⟩ := back_ev hv hl k.toNat i [] (by omega) (by omega) (by simp; omega)
      refine ⟨_, _, Ev.step (fun q => ?_) p3, .inr ⟨rfl, ?_⟩⟩
      · simp only [shunt_Queues.l0]
        rw [if_pos (by omega), if_pos (by omega), if_pos (by omega), plq out i (by omega), if_pos c]
      · rw [List.nil_append, List.reverse_reverse]
        exact desc_qb p1 k (by rw [List.length_append, p2, List.length_singleton]; omega)
    · have hlt : qAt out i < k := by
        apply Classical.byContradiction
        intro hn
        have hgt : k < qAt out i := by omega
        obtain ⟨b, b1, b2, b3, b4⟩ := hv.ch i (by omega) (by omega)
        have := hq b b2
        omega
      obtain ⟨la, b, s1, s2⟩ := ih (i + 1) (by omega) (fun j hj => by
        by_cases e : j = i
        · subst e; exact hlt
        · exact hq j (by omega))
      refine ⟨la, b, Ev.step (fun q => ?_) s1, s2⟩
      simp only [shunt_Queues.l0]
      rw [if_pos (by omega), if_pos (by omega), if_pos (by omega), plq out i (by omega), if_neg c, if_pos (by simp; omega), w, List.range_succ, List.map_append]
      rfl
/-- What Queues answers for an order: lanes that sort, or a block; which one, the least number tells. -/
theorem Queues_ev (l : List Int) (k : Int) (h : IsOrd l) (hl : l.length ≤ 60) (h0 : 1 ≤ k) (h1 : k ≤ 60) (n : Int) (hn : LeastIs l n) :
    ∃ la b, Ev (fun q => shunt_Queues.f q l k) (la, b, 0) ∧ ((n ≤ k ∧ LanesP l k la ∧ b = []) ∨ (k < n ∧ la = [] ∧ QB l k b)) := by
  obtain ⟨last, hv⟩ := places_inv l h.1
  obtain ⟨la, b, s1, s2⟩ := queues_loop hv hl k h0 h1 l.length 0 (by omega) (fun j hj => by omega)
  refine ⟨la, b, ?_, ?_⟩
  · refine Ev.congr (f := fun q => shunt_Queues.j0 q l k false) (fun q => ?_) (Ev.step (fun q => ?_) s1)
    · unfold shunt_Queues.f shunt_isOrder.f shunt_within.f
      simp only [Option.bind_some]
      rw [if_pos ((isOrderB_iff l).2 ⟨hl, h⟩), if_pos h0, decide_eq_true h1]
      rfl
    · simp only [shunt_Queues.j0]
      unfold shunt_places.f
      rw [if_neg (by decide), if_pos hl]
      rfl
  · rcases s2 with ⟨t1, rfl, rfl⟩ | ⟨rfl, t2⟩
    · left
      have hle : n ≤ k := by
        obtain ⟨n1, n2, n3⟩ := hn
        rcases n3 with rfl | ⟨ps, p1, p2⟩
        · exact h0
        · have := nodup_len k.toNat (ps.map (qAt (placesB l))) (-1) (desc_nodup hv p1) (fun a ha => by
            obtain ⟨p, q1, q2⟩ := List.mem_map.1 ha
            have := hv.qr p (p1.2 p q1)
            have := t1 p (p1.2 p q1)
            omega)
          rw [List.length_map] at this
          omega
      have hr : ∀ m : Nat, m < l.length → rd ((List.range l.length).map (qAt (placesB l))) (m : Int) = qAt (placesB l) m := by
        intro m hm
        rw [rd_lt _ m (by simpa using hm)]
        simp
      refine ⟨hle, ⟨by simp, fun m hm => ?_⟩, rfl⟩
      rw [List.length_map, List.length_range] at hm
      rw [hr m hm]
      refine ⟨⟨(hv.qr m hm).1, t1 m hm⟩, fun j hj e => ?_⟩
      rw [hr j (by omega)] at e
      exact hv.inc j m hj hm e
    · right
      refine ⟨?_, rfl, t2⟩
      have : Desc l (b.map Int.toNat) := by
        refine ⟨?_, ?_⟩
        · rw [List.pairwise_map]
          have hasc : Asc b := (asc_adj b).2 fun i i0 hi => ((t2.2 i hi).2 i0).1
          have hdes : b.Pairwise (fun x y => rd l y < rd l x) := by
            have := (asc_adj (b.map (fun x => - rd l x))).2 (fun i i0 hi => by
              rw [List.length_map] at hi
              rw [rd_lt _ i (by simpa using hi), rd_lt _ (i - 1) (by simp; omega)]
              simp only [List.getElem_map]
              have := ((t2.2 i hi).2 i0).2
              rw [rd_lt b i hi, rd_lt b (i - 1) (by omega)] at this
              omega)
            unfold Asc at this
            rw [List.pairwise_map] at this
            exact List.Pairwise.imp (fun {x y} (h : - rd l x < - rd l y) => by omega) this
          refine List.Pairwise.imp_of_mem ?_ (List.Pairwise.and hasc hdes)
          intro x y hx hy hxy
          obtain ⟨i, hi, rfl⟩ := List.mem_iff_getElem.1 hx
          obtain ⟨j, hj, rfl⟩ := List.mem_iff_getElem.1 hy
          have ri := (t2.2 i hi).1
          have rj := (t2.2 j hj).1
          rw [rd_lt b i hi] at ri
          rw [rd_lt b j hj] at rj
          rw [show ((b[i].toNat : Nat) : Int) = b[i] by omega, show ((b[j].toNat : Nat) : Int) = b[j] by omega]
          exact ⟨by omega, hxy.2⟩
        · intro p hp
          obtain ⟨x, hx, rfl⟩ := List.mem_map.1 hp
          obtain ⟨i, hi, rfl⟩ := List.mem_iff_getElem.1 hx
          have ri := (t2.2 i hi).1
          rw [rd_lt b i hi] at ri
          omega
      have := hn.2.1 _ this
      rw [List.length_map] at this
      have := t2.1
      omega
theorem Queues_no (l : List Int) (k : Int) (h : ¬ ((l.length ≤ 60 ∧ IsOrd l) ∧ 1 ≤ k ∧ k ≤ 60)) : Ev (fun q => shunt_Queues.f q l k) (([] : List Int), ([] : List Int), 2) := by
  have hj : Ev (fun q => shunt_Queues.j0 q l k true) (([] : List Int), ([] : List Int), 2) := by
    refine Ev.step (f := fun _ => some (([] : List Int), ([] : List Int), (2 : Int))) (fun q => ?_) (Ev.now _)
    simp only [shunt_Queues.j0]
    rw [if_pos trivial]
  refine Ev.congr (fun q => ?_) hj
  unfold shunt_Queues.f shunt_isOrder.f shunt_within.f
  simp only [Option.bind_some]
  by_cases c : isOrderB l = true
  · rw [if_pos c]
    have c' := (isOrderB_iff l).1 c
    by_cases d : k ≥ 1
    · rw [if_pos d, decide_eq_false (fun h' => h ⟨c', d, h'⟩)]
      rfl
    · rw [if_neg d]
      rfl
  · rw [if_neg c]
end Go.Proofs.Ytjbjongahnocdaa.P

/- One stack: what a pass sorts, what the stack sorts, and the pattern that neither does. -/
namespace Go.Proofs.Ytjbjongahnocdaa.P
open Go.RowKit Go.Proofs.Ytjbjongahnocdaa.S Go.Proofs.Ytjbjongahnocdaa.Defs Go.Proofs.YtjbjongahnocdaaW.PrintWords

/-- Nothing greater than t stands ahead of something smaller. -/
def NoPat (t : Int) (xs : List Int) : Prop := xs.Pairwise (fun x y => ¬ (y < t ∧ t < x))
def No231 : List Int → Prop
  | [] => True
  | a :: r => NoPat a r ∧ No231 r
instance (t : Int) (xs : List Int) : Decidable (NoPat t xs) := by unfold NoPat; infer_instance
instance no231dec : (l : List Int) → Decidable (No231 l)
  | [] => .isTrue trivial
  | a :: r => by
    have := no231dec r
    unfold No231
    infer_instance

theorem asc_cons (a : Int) (l : List Int) : Asc (a :: l) ↔ (∀ b ∈ l, a < b) ∧ Asc l := List.pairwise_cons
theorem asc_append (a b : List Int) : Asc (a ++ b) ↔ Asc a ∧ Asc b ∧ ∀ x ∈ a, ∀ y ∈ b, x < y := List.pairwise_append

theorem passIn_cut (x : Int) : ∀ s lft : List Int, Asc s → ∃ p s', s = p ++ s' ∧ (∀ t ∈ p, t < x) ∧ (∀ t ∈ s', x ≤ t) ∧ passIn x s lft = (s', lft ++ p)
  | [], lft, _ => ⟨[], [], rfl, by simp, by simp, by simp [passIn]⟩
  | t :: s, lft, h => by
    obtain ⟨h1, h2⟩ := (asc_cons t s).1 h
    by_cases c : t < x
    · obtain ⟨p, s', e1, e2, e3, e4⟩ := passIn_cut x s (lft ++ [t]) h2
      refine ⟨t :: p, s', by rw [e1]; rfl, ?_, e3, ?_⟩
      · intro y hy
        rcases List.mem_cons.1 hy with rfl | hy
        · exact c
        · exact e2 y hy
      · rw [passIn, if_pos c, e4, List.append_assoc]
        rfl
    · refine ⟨[], t :: s, rfl, by simp, ?_, by rw [passIn, if_neg c, List.append_nil]⟩
      intro y hy
      rcases List.mem_cons.1 hy with rfl | hy
      · omega
      · have := h1 y hy
        omega

theorem no231_cons (x : Int) (xs : List Int) : No231 (x :: xs) ↔ NoPat x xs ∧ No231 xs := Iff.rfl
theorem noPat_cons (t x : Int) (xs : List Int) : NoPat t (x :: xs) ↔ (∀ y ∈ xs, ¬ (y < t ∧ t < x)) ∧ NoPat t xs := List.pairwise_cons

theorem pass_iff : ∀ (xs s lft : List Int), Asc s → (∀ a ∈ s, a ∉ xs) → xs.Nodup →
    (Asc ((passGo xs (s, lft)).2 ++ (passGo xs (s, lft)).1) ↔ Asc lft ∧ (∀ a ∈ lft, ∀ b ∈ s, a < b) ∧ (∀ a ∈ lft, ∀ b ∈ xs, a < b) ∧ (∀ t ∈ s, NoPat t xs) ∧ No231 xs)
  | [], s, lft, hs, _, _ => by
    unfold passGo
    rw [asc_append]
    constructor
    · rintro ⟨h1, _, h3⟩
      exact ⟨h1, h3, by simp, fun t _ => List.Pairwise.nil, trivial⟩
    · rintro ⟨h1, h2, _⟩
      exact ⟨h1, hs, h2⟩
  | x :: xs, s, lft, hs, hd, hn => by
    obtain ⟨p, s', e1, e2, e3, e4⟩ := passIn_cut x s lft hs
    have hxs : x ∉ s := fun hm => hd x hm (by simp)
    obtain ⟨hn1, hn2⟩ := List.nodup_cons.1 hn
    have hs' : Asc s' := by rw [e1] at hs; exact ((asc_append _ _).1 hs).2.1
    have hp : Asc p := by rw [e1] at hs; exact ((asc_append _ _).1 hs).1
    have hps : ∀ a ∈ p, ∀ b ∈ s', a < b := by rw [e1] at hs; exact ((asc_append _ _).1 hs).2.2
    have hxs' : ∀ t ∈ s', x < t := fun t ht => by
      have h1 := e3 t ht
      have h2 : x ≠ t := fun e => hxs (by rw [e1, e]; exact List.mem_append_right _ ht)
      omega
    have hpx : ∀ t ∈ p, ∀ y ∈ xs, t ≠ y := fun t ht y hy e => hd t (by rw [e1]; exact List.mem_append_left _ ht) (by rw [e]; exact List.mem_cons_of_mem _ hy)
    unfold passGo
    rw [e4]
    have ih := pass_iff xs (x :: s') (lft ++ p) ((asc_cons _ _).2 ⟨hxs', hs'⟩) (fun a ha => by
      rcases List.mem_cons.1 ha with rfl | ha
      · exact hn1
      · exact fun hm => hd a (by rw [e1]; exact List.mem_append_right _ ha) (List.mem_cons_of_mem _ hm)) hn2
    rw [ih]
    constructor
    · rintro ⟨k1, k2, k3, k4, k5⟩
      obtain ⟨a1, a2, a3⟩ := (asc_append _ _).1 k1
      refine ⟨a1, ?_, ?_, ?_, k4 x (by simp), k5⟩
      · intro a ha b hb
        rw [e1] at hb
        rcases List.mem_append.1 hb with hb | hb
        · exact a3 a ha b hb
        · exact k2 a (List.mem_append_left _ ha) b (List.mem_cons_of_mem _ hb)
      · intro a ha b hb
        rcases List.mem_cons.1 hb with rfl | hb
        · exact k2 a (List.mem_append_left _ ha) b (by simp)
        · exact k3 a (List.mem_append_left _ ha) b hb
      · intro t ht
        rw [noPat_cons]
        rw [e1] at ht
        rcases List.mem_append.1 ht with ht | ht
        · have hy : ∀ y ∈ xs, t < y := fun y hy => k3 t (List.mem_append_right _ ht) y hy
          refine ⟨fun y hy' => by have := hy y hy'; omega, ?_⟩
          exact List.Pairwise.imp_of_mem (R := fun _ _ => True) (fun {a b} _ hb _ => by have := hy b hb; omega) (List.pairwise_of_forall (fun _ _ => trivial))
        · have := hxs' t ht
          exact ⟨fun y _ => by omega, k4 t (List.mem_cons_of_mem _ ht)⟩
    · rintro ⟨k1, k2, k3, k4, k5, k6⟩
      refine ⟨(asc_append _ _).2 ⟨k1, hp, fun a ha b hb => k2 a ha b (by rw [e1]; exact List.mem_append_left _ hb)⟩, ?_, ?_, ?_, k6⟩
      · intro a ha b hb
        rcases List.mem_append.1 ha with ha | ha
        · rcases List.mem_cons.1 hb with rfl | hb
          · exact k3 a ha b (by simp)
          · exact k2 a ha b (by rw [e1]; exact List.mem_append_right _ hb)
        · rcases List.mem_cons.1 hb with rfl | hb
          · exact e2 a ha
          · exact hps a ha b hb
      · intro a ha b hb
        rcases List.mem_append.1 ha with ha | ha
        · exact k3 a ha b (List.mem_cons_of_mem _ hb)
        · have h1 := ((noPat_cons _ _ _).1 (k4 a (by rw [e1]; exact List.mem_append_left _ ha))).1 b hb
          have h2 := e2 a ha
          have h3 := hpx a ha b hb
          omega
      · intro t ht
        rcases List.mem_cons.1 ht with rfl | ht
        · exact k5
        · exact ((noPat_cons _ _ _).1 (k4 t (by rw [e1]; exact List.mem_append_right _ ht))).2

theorem passOut_asc (l : List Int) (h : l.Nodup) : Asc (passOut l) ↔ No231 l := by
  unfold passOut
  rw [pass_iff l [] [] List.Pairwise.nil (by simp) h]
  exact ⟨fun h => h.2.2.2.2, fun h => ⟨List.Pairwise.nil, by simp, by simp, by simp, h⟩⟩

/-! ### the block -/
theorem rd_succ (x : Int) (l : List Int) (i : Nat) : rd (x :: l) ((i + 1 : Nat) : Int) = rd l (i : Int) := by
  rw [rd_nat, rd_nat, List.getD_cons_succ]
theorem noPat_pos (t : Int) (l : List Int) : NoPat t l ↔ ∀ b c : Nat, b < c → c < l.length → ¬ (rd l c < t ∧ t < rd l b) := by
  unfold NoPat
  rw [List.pairwise_iff_getElem]
  constructor
  · intro h b c hbc hc
    have := h b c (by omega) hc hbc
    rw [rd_lt l b (by omega), rd_lt l c hc]
    exact this
  · intro h b c hb hc hbc
    have := h b c hbc hc
    rw [rd_lt l b (by omega), rd_lt l c hc] at this
    exact this
theorem no231_pos : ∀ l : List Int, No231 l ↔ ∀ a b c : Nat, a < b → b < c → c < l.length → ¬ (rd l c < rd l a ∧ rd l a < rd l b)
  | [] => by simp [No231]
  | x :: l => by
    unfold No231
    rw [noPat_pos, no231_pos l]
    constructor
    · rintro ⟨h1, h2⟩ a b c hab hbc hc
      obtain ⟨b, rfl⟩ : ∃ b', b = b' + 1 := ⟨b - 1, by omega⟩
      obtain ⟨c, rfl⟩ : ∃ c', c = c' + 1 := ⟨c - 1, by omega⟩
      have hc' : c < l.length := by simpa using hc
      cases a with
      | zero =>
        have := h1 b c (by omega) hc'
        rw [rd_succ, rd_succ]
        exact this
      | succ a =>
        have := h2 a b c (by omega) (by omega) hc'
        rw [rd_succ, rd_succ, rd_succ]
        exact this
    · intro h
      refine ⟨fun b c hbc hc => ?_, fun a b c hab hbc hc => ?_⟩
      · have := h 0 (b + 1) (c + 1) (by omega) (by omega) (by simpa using hc)
        rw [rd_succ, rd_succ] at this
        exact this
      · have := h (a + 1) (b + 1) (c + 1) (by omega) (by omega) (by simpa using hc)
        rw [rd_succ, rd_succ, rd_succ] at this
        exact this

/-- What 'blocking' finds. -/
def Found (l : List Int) (a b : Nat) (r : Int) : Prop :=
  (r = 0 ∧ ∀ c : Nat, b < c → c < l.length → ¬ (rd l c < rd l a ∧ rd l a ≤ rd l b)) ∨ ∃ c : Nat, r = c ∧ b < c ∧ c < l.length ∧ rd l c < rd l a ∧ rd l a ≤ rd l b

theorem blocking_loop (l : List Int) (a b : Nat) (ha : a < l.length) (hl : l.length ≤ 1000000) (hab : rd l a ≤ rd l b) : ∀ (d i : Nat), i + d = l.length → b < i → (∀ c : Nat, b < c → c < i → ¬ rd l c < rd l a) →
    ∃ r, Ev (fun k => shunt_blocking.l0 k l (a : Int) (i : Int)) r ∧ Found l a b r
  | 0, i, h, hb, hno => by
    refine ⟨0, Ev.step (fun k => ?_) (Ev.now _), .inl ⟨rfl, fun c h1 h2 h3 => hno c h1 (by omega) h3.1⟩⟩
    simp only [shunt_blocking.l0]
    rw [if_neg (by omega)]
  | d + 1, i, h, hb, hno => by
    by_cases c : rd l (i : Int) < rd l a
    · refine ⟨i, Ev.step (fun k => ?_) (Ev.now _), .inr ⟨i, rfl, hb, by omega, c, hab⟩⟩
      simp only [shunt_blocking.l0]
      rw [if_pos (by omega), if_pos (by omega), if_pos (by omega), if_pos (by omega), if_pos c]
    · obtain ⟨r, h1, h2⟩ := blocking_loop l a b ha hl hab d (i + 1) (by omega) (by omega) (fun c' h3 h4 => by
        by_cases e : c' = i
        · subst e; exact c
        · exact hno c' h3 (by omega))
      refine ⟨r, Ev.step (fun k => ?_) h1, h2⟩
      simp only [shunt_blocking.l0]
      rw [if_pos (by omega), if_pos (by omega), if_pos (by omega), if_pos (by omega), if_neg c, w64 (by omega) (by omega)]
      rfl
theorem blocking_ev (l : List Int) (a b : Nat) (ha : a < l.length) (hb : b < l.length) (hl : l.length ≤ 1000000) : ∃ r, Ev (fun k => shunt_blocking.f k l (a : Int) (b : Int)) r ∧ Found l a b r := by
  by_cases c : rd l a > rd l b
  · refine ⟨0, Ev.congr (fun k => ?_) (Ev.now _), .inl ⟨rfl, fun c' _ _ h => by omega⟩⟩
    unfold shunt_blocking.f
    rw [if_pos (by omega), if_pos (by omega), if_pos (by omega), if_pos (by omega), if_pos c]
  · obtain ⟨r, h1, h2⟩ := blocking_loop l a b ha hl (by omega) (l.length - (b + 1)) (b + 1) (by omega) (by omega) (fun c' h3 h4 => by omega)
    refine ⟨r, Ev.congr (fun k => ?_) h1, h2⟩
    unfold shunt_blocking.f
    rw [if_pos (by omega), if_pos (by omega), if_pos (by omega), if_pos (by omega), if_neg c, w64 (by omega) (by omega)]
    rfl

/-- What 'block' returns. -/
def BlockOf (l r : List Int) : Prop :=
  (r = [] ∧ ∀ a b c : Nat, a < b → b < c → c < l.length → ¬ (rd l c < rd l a ∧ rd l a ≤ rd l b)) ∨
    ∃ a b c : Nat, r = [(a : Int), (b : Int), (c : Int)] ∧ a < b ∧ b < c ∧ c < l.length ∧ rd l c < rd l a ∧ rd l a ≤ rd l b

theorem block_l1 (l : List Int) (b : Nat) (hb : b < l.length) (hl : l.length ≤ 1000000) (hrest : (∀ a c : Nat, a < b → b < c → c < l.length → ¬ (rd l c < rd l a ∧ rd l a ≤ rd l b)) → ∃ r, Ev (fun k => shunt_block.l0 k l (l.length : Int) ((b + 1 : Nat) : Int)) r ∧ BlockOf l r) : ∀ (d a : Nat), a + d = b →
    (∀ a' c : Nat, a' < a → b < c → c < l.length → ¬ (rd l c < rd l a' ∧ rd l a' ≤ rd l b)) → ∃ r, Ev (fun k => shunt_block.l1 k l (b : Int) (l.length : Int) (b : Int) (b : Int) (a : Int)) r ∧ BlockOf l r
  | 0, a, h, hno => by
    obtain ⟨r, h1, h2⟩ := hrest (fun a' c h1 => hno a' c (by omega))
    refine ⟨r, Ev.step (fun k => ?_) h1, h2⟩
    simp only [shunt_block.l1]
    rw [if_neg (by omega), w64 (by omega) (by omega)]
    rfl
  | d + 1, a, h, hno => by
    obtain ⟨q, q1, q2⟩ := blocking_ev l a b (by omega) hb hl
    rcases q2 with ⟨rfl, q2⟩ | ⟨c, rfl, q3, q4, q5, q6⟩
    · obtain ⟨r, h1, h2⟩ := block_l1 l b hb hl hrest d (a + 1) (by omega) (fun a' c h3 h4 h5 => by
        by_cases e : a' = a
        · subst e; exact q2 c h4 h5
        · exact hno a' c (by omega) h4 h5)
      refine ⟨r, ?_, h2⟩
      refine Ev.step (f := fun k => (shunt_blocking.f k l (a : Int) (b : Int)).bind fun t => if t > 0 then some [(a : Int), (b : Int), t] else shunt_block.l1 k l (b : Int) (l.length : Int) (b : Int) (b : Int) (wrap64 ((a : Int) + 1))) (fun k => ?_) (Ev.bind q1 ?_)
      · simp only [shunt_block.l1]
        rw [if_pos (by omega)]
      · refine Ev.congr (fun k => ?_) h1
        rw [if_neg (by omega), w64 (by omega) (by omega)]
        rfl
    · refine ⟨[(a : Int), (b : Int), (c : Int)], ?_, .inr ⟨a, b, c, rfl, by omega, q3, q4, q5, q6⟩⟩
      refine Ev.step (f := fun k => (shunt_blocking.f k l (a : Int) (b : Int)).bind fun t => if t > 0 then some [(a : Int), (b : Int), t] else shunt_block.l1 k l (b : Int) (l.length : Int) (b : Int) (b : Int) (wrap64 ((a : Int) + 1))) (fun k => ?_) (Ev.bind q1 ?_)
      · simp only [shunt_block.l1]
        rw [if_pos (by omega)]
      · refine Ev.congr (fun k => ?_) (Ev.now _)
        rw [if_pos (by omega)]
theorem block_l0 (l : List Int) (hl : l.length ≤ 1000000) : ∀ (d b : Nat), b + d = l.length → (∀ a b' c : Nat, a < b' → b' < b → b' < c → c < l.length → ¬ (rd l c < rd l a ∧ rd l a ≤ rd l b')) →
    ∃ r, Ev (fun k => shunt_block.l0 k l (l.length : Int) (b : Int)) r ∧ BlockOf l r
  | 0, b, h, hno => by
    refine ⟨[], Ev.step (fun k => ?_) (Ev.now _), .inl ⟨rfl, fun a b' c h1 h2 h3 => hno a b' c h1 (by omega) h2 h3⟩⟩
    simp only [shunt_block.l0]
    rw [if_neg (by omega)]
  | d + 1, b, h, hno => by
    obtain ⟨r, h1, h2⟩ := block_l1 l b (by omega) hl (fun hb => block_l0 l hl d (b + 1) (by omega) (fun a b' c h1 h2 h3 h4 => by
      by_cases e : b' = b
      · subst e; exact hb a c h1 h3 h4
      · exact hno a b' c h1 (by omega) h3 h4)) b 0 (by omega) (fun a' c h => by omega)
    refine ⟨r, Ev.step (fun k => ?_) h1, h2⟩
    simp only [shunt_block.l0]
    rw [if_pos (by omega)]
    rfl
theorem block_ev (l : List Int) (hl : l.length ≤ 1000000) : ∃ r, Ev (fun k => shunt_block.f k l) r ∧ BlockOf l r := by
  obtain ⟨r, h1, h2⟩ := block_l0 l hl l.length 0 (by omega) (fun a b c h h' => by omega)
  exact ⟨r, h1, h2⟩
theorem blockOf_nil {l r : List Int} (h : BlockOf l r) (hd : l.Nodup) : r = [] ↔ No231 l := by
  rw [no231_pos]
  rcases h with ⟨rfl, h⟩ | ⟨a, b, c, rfl, h1, h2, h3, h4, h5⟩
  · exact ⟨fun _ a b c k1 k2 k3 k4 => h a b c k1 k2 k3 ⟨k4.1, by omega⟩, fun _ => rfl⟩
  · refine ⟨fun e => (by cases e), fun h => absurd ⟨h4, ?_⟩ (h a b c h1 h2 h3)⟩
    rw [rd_lt l a (by omega), rd_lt l b (by omega)] at h5 ⊢
    have : l[a] ≠ l[b] := List.pairwise_iff_getElem.1 hd a b (by omega) (by omega) h1
    omega

/-! ### what the stack sorts -/
theorem drain_cut : ∀ s lft plan : List Int, ∃ d s', s = d ++ s' ∧ drainS s lft plan = (s', lft ++ d, plan ++ List.replicate d.length 111) ∧ (∀ t ∈ d, (lft.length : Int) < t ∧ t ≤ lft.length + d.length) ∧ Asc d ∧ ∀ h t, s' = h :: t → h ≠ (lft.length : Int) + d.length + 1
  | [], lft, plan => ⟨[], [], rfl, by simp [drainS], by simp, List.Pairwise.nil, fun h t e => by cases e⟩
  | x :: s, lft, plan => by
    by_cases c : x = (lft.length : Int) + 1
    · obtain ⟨d, s', e1, e2, e3, e4, e5⟩ := drain_cut s (lft ++ [x]) (plan ++ [111])
      have hl : (lft ++ [x]).length = lft.length + 1 := by simp
      rw [hl] at e3 e5
      refine ⟨x :: d, s', by rw [e1]; rfl, ?_, ?_, (asc_cons _ _).2 ⟨fun b hb => ?_, e4⟩, fun h t e => ?_⟩
      · rw [drainS, if_pos c, e2, List.append_assoc, List.append_assoc]
        rfl
      · intro t ht
        rw [List.length_cons]
        rcases List.mem_cons.1 ht with rfl | ht
        · omega
        · have := e3 t ht
          omega
      · have := e3 b hb
        omega
      · have := e5 h t e
        rw [List.length_cons]
        omega
    · refine ⟨[], x :: s, rfl, by rw [drainS, if_neg c]; simp, by simp, List.Pairwise.nil, fun h t e => ?_⟩
      injection e with e _
      subst e
      simpa using c

/-- The stack s, what has left, and what is still to come, of an order of n items. -/
structure OnWay (n : Nat) (s lft xs : List Int) : Prop where
  nodup : (s ++ xs).Nodup
  range : ∀ a ∈ s ++ xs, (lft.length : Int) < a ∧ a ≤ n
  count : s.length + xs.length + lft.length = n
  left : lft = (List.range lft.length).map (fun i => ((i : Nat) : Int) + 1)

theorem asc_range (d : List Int) (lo : Int) (hd : Asc d) (h : ∀ t ∈ d, lo < t ∧ t ≤ lo + d.length) : d = (List.range d.length).map (fun i => lo + 1 + ((i : Nat) : Int)) := by
  induction d generalizing lo with
  | nil => rfl
  | cons a t ih =>
    obtain ⟨h1, h2⟩ := (asc_cons a t).1 hd
    have hn : (a :: t).Nodup := List.Pairwise.imp (fun {x y} (h : x < y) => by omega) hd
    have hm := full_range (a :: t).length (a :: t) lo hn h rfl (lo + 1) (by omega) (by simp; omega)
    have ha : a = lo + 1 := by
      rcases List.mem_cons.1 hm with e | hm
      · exact e.symm
      · have := h1 _ hm
        have := h a (by simp)
        omega
    have := ih (lo + 1) h2 (fun b hb => by
      have := h1 b hb
      have := h b (List.mem_cons_of_mem _ hb)
      rw [List.length_cons] at this
      omega)
    rw [List.length_cons, List.range_succ_eq_map, List.map_cons, List.map_map, ha]
    congr 1
    · omega
    · refine this.trans (List.map_congr_left fun i _ => ?_)
      simp only [Function.comp]
      omega

theorem OnWay.step {n : Nat} {s lft xs : List Int} {x : Int} {plan : List Int} (h : OnWay n s lft (x :: xs)) : ∃ d s', x :: s = d ++ s' ∧ drainS (x :: s) lft plan = (s', lft ++ d, plan ++ List.replicate d.length 111) ∧ (∀ t ∈ d, (lft.length : Int) < t ∧ t ≤ lft.length + d.length) ∧ Asc d ∧ (∀ h t, s' = h :: t → h ≠ ((lft ++ d).length : Int) + 1) ∧ OnWay n s' (lft ++ d) xs := by
  obtain ⟨d, s', e1, e2, e3, e4, e5⟩ := drain_cut (x :: s) lft plan
  have hperm : (d ++ (s' ++ xs)).Perm (s ++ x :: xs) := by
    rw [← List.append_assoc, ← e1, List.cons_append]
    exact List.perm_middle.symm
  have hnd : (d ++ (s' ++ xs)).Nodup := hperm.nodup_iff.2 h.nodup
  obtain ⟨n1, n2, n3⟩ := List.nodup_append.1 hnd
  refine ⟨d, s', e1, e2, e3, e4, fun a t e => by have := e5 a t e; rw [List.length_append]; omega, ⟨n2, fun a ha => ?_, ?_, ?_⟩⟩
  · have hr := h.range a (hperm.mem_iff.1 (List.mem_append_right _ ha))
    refine ⟨?_, hr.2⟩
    rw [List.length_append]
    by_cases hle : a ≤ lft.length + d.length
    · have := full_range d.length d lft.length n1 e3 rfl a hr.1 hle
      exact absurd rfl (n3 a this a ha)
    · omega
  · have := h.count
    have hl := congrArg List.length e1
    rw [List.length_append, List.length_cons] at hl
    rw [List.length_append]
    simp only [List.length_cons] at this
    omega
  · have := asc_range d lft.length e4 e3
    rw [List.length_append, List.range_add, List.map_append]
    congr 1
    · exact h.left
    · rw [List.map_map]
      refine this.trans (List.map_congr_left fun i _ => ?_)
      simp only [Function.comp]
      omega

theorem stack_iff (n : Nat) : ∀ (xs s lft plan : List Int), OnWay n s lft xs → (∀ h t, s = h :: t → h ≠ (lft.length : Int) + 1) →
    ((stackGo xs (s, lft, plan)).2.1.length = n ↔ Asc s ∧ (∀ t ∈ s, NoPat t xs) ∧ No231 xs)
  | [], s, lft, plan, h, hd => by
    unfold stackGo
    have hc := h.count
    simp only [List.length_nil] at hc
    constructor
    · intro e
      have : s = [] := List.eq_nil_of_length_eq_zero (by simp only at e; omega)
      subst this
      exact ⟨List.Pairwise.nil, by simp, trivial⟩
    · rintro ⟨ha, _⟩
      cases s with
      | nil => simp only at hc ⊢; simp at hc; exact hc
      | cons a t =>
        exfalso
        have h1 := (asc_cons a t).1 ha
        have hr := h.range
        have hnd := h.nodup
        rw [List.append_nil] at hr hnd
        have hm := full_range (a :: t).length (a :: t) lft.length hnd (fun b hb => by have := hr b hb; omega) rfl ((lft.length : Int) + 1) (by omega) (by simp; omega)
        rcases List.mem_cons.1 hm with e | hm
        · exact hd a t rfl e.symm
        · have := h1.1 _ hm
          have := hr a (by simp)
          omega
  | x :: xs, s, lft, plan, h, hd => by
    obtain ⟨d, s', e1, e2, e3, e4, e5, hw⟩ := h.step (plan := plan ++ [105])
    unfold stackGo
    rw [e2, stack_iff n xs s' (lft ++ d) _ hw e5]
    have hnd := h.nodup
    have hxs : ∀ t ∈ s, t ≠ x := fun t ht e => (List.nodup_append.1 hnd).2.2 t ht x (by simp) e
    have hsx : ∀ t ∈ s, ∀ y ∈ xs, t ≠ y := fun t ht y hy => (List.nodup_append.1 hnd).2.2 t ht y (by simp [hy])
    cases d with
    | nil =>
      rw [List.nil_append] at e1
      rw [← e1, asc_cons, no231_cons]
      constructor
      · rintro ⟨⟨h1, h2⟩, h3, h4⟩
        refine ⟨h2, fun t ht => (noPat_cons _ _ _).2 ⟨fun y hy => by have := h1 t ht; omega, h3 t (by simp [ht])⟩, h3 x (by simp), h4⟩
      · rintro ⟨h2, h3, h4, h5⟩
        refine ⟨⟨fun t ht => ?_, h2⟩, fun t ht => ?_, h5⟩
        · by_cases hlt : x < t
          · exact hlt
          · exfalso
            have hne := hxs t ht
            have hp := ((noPat_cons _ _ _).1 (h3 t ht)).1
            have hm := full_range (s ++ x :: xs).length (s ++ x :: xs) lft.length hnd (fun b hb => by have := h.range b hb; have := h.count; simp at *; omega) rfl ((lft.length : Int) + 1) (by omega) (by simp; omega)
            rcases List.mem_append.1 hm with hm | hm
            · cases s with
              | nil => cases ht
              | cons a r =>
                rcases List.mem_cons.1 hm with e | hm
                · exact hd a r rfl e.symm
                · have h6 := ((asc_cons a r).1 h2).1 _ hm
                  have h7 := h.range a (by simp)
                  omega
            · rcases List.mem_cons.1 hm with e | hm
              · have := e5 x s e1.symm
                simp at this
                omega
              · have h6 := hp _ hm
                have h7 := hsx t ht _ hm
                have h8 := h.range t (by simp [ht])
                omega
        · rcases List.mem_cons.1 ht with rfl | ht
          · exact h4
          · exact ((noPat_cons _ _ _).1 (h3 t ht)).2
    | cons a d' =>
      injection e1 with e0 e1
      subst e0
      have hx : x = (lft.length : Int) + 1 := by
        have hm := full_range (x :: d').length (x :: d') lft.length (List.Pairwise.imp (fun {x y} (h : x < y) => by omega) e4) e3 rfl ((lft.length : Int) + 1) (by omega) (by simp; omega)
        rcases List.mem_cons.1 hm with e | hm
        · exact e.symm
        · have := ((asc_cons x d').1 e4).1 _ hm
          have := h.range x (by simp)
          omega
      have hbig : ∀ b ∈ s' ++ xs, ((lft ++ x :: d').length : Int) < b := fun b hb => (hw.range b hb).1
      have hlen : ((lft ++ x :: d').length : Int) = lft.length + (x :: d').length := by simp
      replace e1 : s = d' ++ s' := e1
      rw [no231_cons, e1, asc_append]
      constructor
      · rintro ⟨h1, h2, h3⟩
        refine ⟨⟨((asc_cons x d').1 e4).2, h1, fun u hu v hv => ?_⟩, fun t ht => (noPat_cons _ _ _).2 ⟨fun y hy => ?_, ?_⟩, ?_, h3⟩
        · have := e3 u (List.mem_cons_of_mem _ hu)
          have := hbig v (List.mem_append_left _ hv)
          omega
        · have := hbig y (List.mem_append_right _ hy)
          have : (lft.length : Int) < t ∧ t ≤ n := h.range t (by rw [e1]; exact List.mem_append_left _ ht)
          omega
        · rcases List.mem_append.1 ht with ht | ht
          · exact List.Pairwise.imp_of_mem (R := fun _ _ => True) (fun {u v} _ hv _ => by
              have := hbig v (List.mem_append_right _ hv)
              have := e3 t (List.mem_cons_of_mem _ ht)
              omega) (List.pairwise_of_forall (fun _ _ => trivial))
          · exact h2 t ht
        · exact List.Pairwise.imp_of_mem (R := fun _ _ => True) (fun {u v} _ hv _ => by
              have := hbig v (List.mem_append_right _ hv)
              have : 0 < (x :: d').length := by simp
              omega) (List.pairwise_of_forall (fun _ _ => trivial))
      · rintro ⟨⟨_, h1, _⟩, h2, _, h3⟩
        exact ⟨h1, fun t ht => ((noPat_cons _ _ _).1 (h2 t (List.mem_append_right _ ht))).2, h3⟩

theorem onWay_start (l : List Int) (h : IsOrd l) : OnWay l.length [] [] l :=
  ⟨by simpa using h.1, fun a ha => by have := h.2 a (by simpa using ha); simp; omega, by simp, rfl⟩
theorem stack_full (l : List Int) (h : IsOrd l) : (stackGo l ([], [], [])).2.1.length = l.length ↔ No231 l := by
  rw [stack_iff l.length l [] [] [] (onWay_start l h) (fun _ _ e => by cases e)]
  exact ⟨fun h => h.2.2, fun h => ⟨List.Pairwise.nil, by simp, h⟩⟩

theorem drainS_le : ∀ s lft plan : List Int, (drainS s lft plan).2.1.length + (drainS s lft plan).1.length = lft.length + s.length
  | [], lft, plan => by simp [drainS]
  | x :: s, lft, plan => by
    rw [drainS]
    split
    · rw [drainS_le s]; simp; omega
    · rfl
theorem stackGo_le : ∀ (l : List Int) (st : List Int × List Int × List Int), (stackGo l st).2.1.length ≤ st.2.1.length + st.1.length + l.length
  | [], (s, lft, plan) => by simp [stackGo]
  | x :: l, (s, lft, plan) => by
    have h1 := stackGo_le l (drainS (x :: s) lft (plan ++ [105]))
    have h2 := drainS_le (x :: s) lft (plan ++ [105])
    rw [stackGo]
    simp only [List.length_cons] at h2 ⊢
    omega

end Go.Proofs.Ytjbjongahnocdaa.P

/- Conflicts. -/
namespace Go.Proofs.Ytjbjongahnocdaa.P
open Go.RowKit Go.Proofs.Ytjbjongahnocdaa.S Go.Proofs.Ytjbjongahnocdaa.Defs Go.Proofs.YtjbjongahnocdaaW.PrintWords
set_option linter.unusedVariables false

/-- The positions a < b are in conflict. -/
def Conf (l : List Int) (a b : Nat) : Prop := ∃ c : Nat, b < c ∧ c < l.length ∧ rd l c < rd l a ∧ rd l a < rd l b
theorem found_conf {l : List Int} {a b : Nat} {r : Int} (hd : l.Nodup) (hab : a < b) (hb : b < l.length) (h : Found l a b r) : r ≠ 0 ↔ Conf l a b := by
  rcases h with ⟨rfl, h⟩ | ⟨c, rfl, h1, h2, h3, h4⟩
  · exact ⟨fun h => absurd rfl h, fun ⟨c, h1, h2, h3, h4⟩ => absurd ⟨h3, by omega⟩ (h c h1 h2)⟩
  · refine ⟨fun _ => ⟨c, h1, h2, h3, ?_⟩, fun _ => by omega⟩
    rw [rd_lt l a (by omega), rd_lt l b (by omega)] at h4 ⊢
    have : l[a] ≠ l[b] := List.pairwise_iff_getElem.1 hd a b (by omega) (by omega) hab
    omega
theorem conf_ev (l : List Int) (a b : Nat) (hd : l.Nodup) (hab : a < b) (hb : b < l.length) (hl : l.length ≤ 1000000) : ∃ r : Int, Ev (fun k => shunt_blocking.f k l (a : Int) (b : Int)) r ∧ (r ≠ 0 ↔ Conf l a b) := by
  obtain ⟨r, h1, h2⟩ := blocking_ev l a b (by omega) hb hl
  exact ⟨r, h1, found_conf hd hab hb h2⟩
/-- No two positions of one side are in conflict. -/
def SidesOk (l s : List Int) : Prop := (∀ x ∈ s, x = 0 ∨ x = 1) ∧ ∀ a b : Nat, a < b → b < l.length → rd s a = rd s b → ¬ Conf l a b
end Go.Proofs.Ytjbjongahnocdaa.P

/- Two colours: what conflicts, visit, close and Stacks compute for an order. -/
namespace Go.Proofs.Ytjbjongahnocdaa.P
open Go.RowKit Go.Proofs.Ytjbjongahnocdaa.S Go.Proofs.Ytjbjongahnocdaa.Defs Go.Proofs.YtjbjongahnocdaaW.PrintWords Go.Proofs.YtjbjongahnocdaaW.PrintLast Go.Proofs.YtjbjongahnocdaaW.PrintMore
set_option linter.unusedVariables false

/-- Two positions are in conflict, whichever comes first. -/
def Adj (l : List Int) (x y : Int) : Prop := 0 ≤ x ∧ x < l.length ∧ 0 ≤ y ∧ y < l.length ∧ ((x < y ∧ Conf l x.toNat y.toNat) ∨ (y < x ∧ Conf l y.toNat x.toNat))
theorem Adj.symm {l : List Int} {x y : Int} (h : Adj l x y) : Adj l y x := ⟨h.2.2.1, h.2.2.2.1, h.1, h.2.1, h.2.2.2.2.symm⟩
theorem Adj.ne {l : List Int} {x y : Int} (h : Adj l x y) : x ≠ y := by
  have := h.2.2.2.2
  omega
/-- A colouring in which no conflict is between two of one colour. -/
def Proper (l : List Int) (χ : Int → Bool) : Prop := ∀ x y, Adj l x y → χ x ≠ χ y
def TwoCol (l : List Int) : Prop := ∃ χ, Proper l χ

theorem sides_two {l s : List Int} (hs : s.length = l.length) (h : SidesOk l s) : TwoCol l := by
  refine ⟨fun x => decide (rd s x = 0), ?_⟩
  have side : ∀ x : Int, 0 ≤ x → x < l.length → rd s x = 0 ∨ rd s x = 1 := fun x h0 h1 => h.1 _ (rd_mem h0 (by omega))
  have key : ∀ x y : Int, 0 ≤ x → x < y → y < l.length → Conf l x.toNat y.toNat → decide (rd s x = 0) ≠ decide (rd s y = 0) := by
    intro x y h0 h1 h2 hc he
    rw [decide_eq_decide] at he
    have e : rd s x = rd s y := by
      have := side x h0 (by omega)
      have := side y (by omega) h2
      omega
    refine h.2 x.toNat y.toNat (by omega) (by omega) ?_ hc
    rw [show ((x.toNat : Nat) : Int) = x by omega, show ((y.toNat : Nat) : Int) = y by omega]
    exact e
  rintro x y ⟨h0, h1, h2, h3, hc⟩
  rcases hc with ⟨hlt, hc⟩ | ⟨hlt, hc⟩
  · exact key x y h0 hlt h3 hc
  · exact (key y x h2 hlt h1 hc).symm

/-! ### the neighbours -/
def NearOk (l : List Int) (near : List (List Int)) : Prop := near.length = l.length ∧ ∀ x : Int, 0 ≤ x → x < l.length → ∀ y, y ∈ near_ near x ↔ Adj l x y
def NearAt (l : List Int) (near : List (List Int)) (b a : Nat) : Prop := near.length = l.length ∧ (∀ x : Nat, x < l.length → (near.getD x []).length ≤ b * 60 + a) ∧
  ∀ x : Nat, x < l.length → ∀ y : Int, y ∈ near.getD x [] ↔ (Adj l (x : Int) y ∧ ((x : Int) < b ∧ y < b ∨ ((x : Int) = b ∧ y < a) ∨ (y = b ∧ (x : Int) < a)))

theorem rd_L1_nat (near : List (List Int)) (x : Nat) : rd_L1 near (x : Int) = near.getD x [] := by
  unfold rd_L1
  rw [Int.toNat_natCast]
theorem getD_set (near : List (List Int)) (i x : Nat) (v : List Int) (h : i < near.length) : (near.set i v).getD x [] = if i = x then v else near.getD x [] := by
  rw [List.getD_eq_getElem?_getD, List.getElem?_set]
  by_cases c : i = x
  · subst c; simp [h]
  · simp [c]
theorem near_step {l : List Int} {near : List (List Int)} {b a : Nat} (hab : a < b) (hb : b < l.length) (h : NearAt l near b a) :
    (¬ Conf l a b → NearAt l near b (a + 1)) ∧ (Conf l a b → NearAt l ((near.set a (near.getD a [] ++ [(b : Int)])).set b ((near.set a (near.getD a [] ++ [(b : Int)])).getD b [] ++ [(a : Int)])) b (a + 1)) := by
  obtain ⟨h1, h2, h3⟩ := h
  have hadj : Adj l (a : Int) (b : Int) ↔ Conf l a b := by
    unfold Adj
    simp only [Int.toNat_natCast]
    exact ⟨fun h => h.2.2.2.2.elim (fun h => h.2) (fun h => by omega), fun h => ⟨by omega, by omega, by omega, by omega, .inl ⟨by omega, h⟩⟩⟩
  constructor
  · intro hc
    refine ⟨h1, fun x hx => by have := h2 x hx; omega, fun x hx y => ?_⟩
    rw [h3 x hx y]
    constructor
    · rintro ⟨q1, q2⟩
      exact ⟨q1, by omega⟩
    · rintro ⟨q1, q2⟩
      refine ⟨q1, ?_⟩
      rcases q2 with q2 | ⟨q2, q3⟩ | ⟨q2, q3⟩
      · exact .inl q2
      · by_cases e : y = a
        · subst e
          rw [q2] at q1
          exact absurd (hadj.1 q1.symm) hc
        · exact .inr (.inl ⟨q2, by omega⟩)
      · by_cases e : (x : Int) = a
        · rw [q2, e] at q1
          exact absurd (hadj.1 q1) hc
        · exact .inr (.inr ⟨q2, by omega⟩)
  · intro hc
    have ha1 : Adj l (a : Int) (b : Int) := hadj.2 hc
    have g : ∀ x : Nat, ((near.set a (near.getD a [] ++ [(b : Int)])).set b ((near.set a (near.getD a [] ++ [(b : Int)])).getD b [] ++ [(a : Int)])).getD x [] =
        if b = x then near.getD b [] ++ [(a : Int)] else if a = x then near.getD a [] ++ [(b : Int)] else near.getD x [] := by
      intro x
      rw [getD_set _ _ _ _ (by rw [List.length_set]; omega), getD_set _ _ _ _ (by omega), getD_set _ _ _ _ (by omega)]
      rw [if_neg (show ¬ a = b by omega)]
    refine ⟨by rw [List.length_set, List.length_set]; exact h1, fun x hx => ?_, fun x hx y => ?_⟩
    · rw [g]
      have q0 := h2 x hx
      split
      · rename_i e; subst e; rw [List.length_append, List.length_singleton]; omega
      · split
        · rename_i e; subst e; rw [List.length_append, List.length_singleton]; omega
        · omega
    · rw [g]
      by_cases e1 : b = x
      · subst e1
        rw [if_pos rfl, List.mem_append, List.mem_singleton, h3 b hx y]
        constructor
        · rintro (⟨q1, q2⟩ | rfl)
          · exact ⟨q1, by omega⟩
          · exact ⟨ha1.symm, .inr (.inl ⟨rfl, by omega⟩)⟩
        · rintro ⟨q1, q2⟩
          by_cases e : y = a
          · exact .inr e
          · have := q1.ne
            exact .inl ⟨q1, by omega⟩
      · rw [if_neg e1]
        by_cases e2 : a = x
        · subst e2
          rw [if_pos rfl, List.mem_append, List.mem_singleton, h3 a hx y]
          constructor
          · rintro (⟨q1, q2⟩ | rfl)
            · exact ⟨q1, by omega⟩
            · exact ⟨ha1, .inr (.inr ⟨rfl, by omega⟩)⟩
          · rintro ⟨q1, q2⟩
            by_cases e : y = b
            · exact .inr e
            · exact .inl ⟨q1, by omega⟩
        · rw [if_neg e2, h3 x hx y]
          constructor
          · rintro ⟨q1, q2⟩
            exact ⟨q1, by omega⟩
          · rintro ⟨q1, q2⟩
            exact ⟨q1, by omega⟩
theorem conflicts_end (l : List Int) (hl : l.length ≤ 60) (b : Nat) (hb : b < l.length) (R : List (List Int)) (near : List (List Int)) (hR : Ev (fun k => shunt_conflicts.l0 k l near (l.length : Int) ((b + 1 : Nat) : Int)) R) :
    Ev (fun k => shunt_conflicts.l1 k l near (b : Int) (l.length : Int) (b : Int) (b : Int) (b : Int)) R := by
  refine Ev.step (fun k => ?_) hR
  simp only [shunt_conflicts.l1]
  rw [if_neg (by omega), w64 (by omega) (by omega)]
  rfl
theorem conflicts_round (l : List Int) (hd : l.Nodup) (hl : l.length ≤ 60) (a b : Nat) (hab : a < b) (hb : b < l.length) (near : List (List Int)) (hn : NearAt l near b a) :
    ∃ near', NearAt l near' b (a + 1) ∧ ∀ R, Ev (fun k => shunt_conflicts.l1 k l near' (b : Int) (l.length : Int) (b : Int) (b : Int) ((a + 1 : Nat) : Int)) R → Ev (fun k => shunt_conflicts.l1 k l near (b : Int) (l.length : Int) (b : Int) (b : Int) (a : Int)) R := by
  obtain ⟨q, q1, q2⟩ := blocking_ev l a b (by omega) hb (by omega)
  have q3 := found_conf hd (by omega) hb q2
  have hq0 : 0 ≤ q := by
    rcases q2 with ⟨rfl, _⟩ | ⟨c, rfl, _⟩ <;> omega
  obtain ⟨s1, s2⟩ := near_step hab hb hn
  have hlen : near.length = l.length := hn.1
  have hcong : ∀ k, shunt_conflicts.l1 (k + 1) l near (b : Int) (l.length : Int) (b : Int) (b : Int) (a : Int) = (shunt_blocking.f k l (a : Int) (b : Int)).bind fun t564 => if t564 > 0 then (if 0 ≤ (a : Int) then (if (a : Int) < (near.length : Int) then (if (rd_L1 near (a : Int)).length < 17592186044416 then ((some (near.set (a : Int).toNat ((rd_L1 near (a : Int)) ++ [(b : Int)]) : List (List Int))).bind fun y569 => (if 0 ≤ (b : Int) then (if (b : Int) < (near.length : Int) then (if (rd_L1 y569 (b : Int)).length < 17592186044416 then (shunt_conflicts.l1 k l (y569.set (b : Int).toNat ((rd_L1 y569 (b : Int)) ++ [(a : Int)])) (b : Int) (l.length : Int) (b : Int) (b : Int) ((a + 1 : Nat) : Int)) else (none)) else (none)) else (none))) else (none)) else (none)) else (none)) else shunt_conflicts.l1 k l near (b : Int) (l.length : Int) (b : Int) (b : Int) ((a + 1 : Nat) : Int) := by
    intro k
    simp only [shunt_conflicts.l1]
    rw [if_pos (by omega), w64 (x := (a : Int) + 1) (by omega) (by omega)]
    rfl
  by_cases c : q > 0
  · have hc : Conf l a b := q3.1 (by omega)
    have la := hn.2.1 a (by omega)
    have lb : ((near.set a (near.getD a [] ++ [(b : Int)])).getD b []).length ≤ 5000 := by
      have := hn.2.1 b hb
      rw [getD_set _ _ _ _ (by omega), if_neg (by omega)]
      omega
    refine ⟨_, s2 hc, fun R hR => Ev.step hcong (Ev.bind (f := fun k t564 => _) q1 (Ev.congr (fun k => ?_) hR))⟩
    rw [if_pos c]
    simp only [Option.bind_some, rd_L1_nat, Int.toNat_natCast]
    rw [if_pos (show (0 : Int) ≤ (a : Int) by omega), if_pos (show (a : Int) < (near.length : Int) by omega), if_pos (show (near.getD a []).length < 17592186044416 by omega), if_pos (show (0 : Int) ≤ (b : Int) by omega), if_pos (show (b : Int) < (near.length : Int) by omega), if_pos (show ((near.set a (near.getD a [] ++ [(b : Int)])).getD b []).length < 17592186044416 by omega)]
  · have hc : ¬ Conf l a b := fun h' => (q3.2 h') (by omega)
    exact ⟨near, s1 hc, fun R hR => Ev.step hcong (Ev.bind (f := fun k t564 => _) q1 (Ev.congr (fun k => if_neg c) hR))⟩
theorem near_next {l : List Int} {near : List (List Int)} {b : Nat} (hb : b ≤ 60) (h : NearAt l near b b) : NearAt l near (b + 1) 0 := by
  refine ⟨h.1, fun x hx => by have := h.2.1 x hx; omega, fun x hx y => ?_⟩
  rw [h.2.2 x hx y]
  constructor
  · rintro ⟨q1, q2⟩
    exact ⟨q1, by omega⟩
  · rintro ⟨q1, q2⟩
    have h0 := q1.2.2.1
    have := q1.ne
    exact ⟨q1, by omega⟩
theorem conflicts_l0 (l : List Int) (hd : l.Nodup) (hl : l.length ≤ 60) : ∀ (d b : Nat) (near : List (List Int)), b + d = l.length → NearAt l near b 0 → ∃ R, Ev (fun k => shunt_conflicts.l0 k l near (l.length : Int) (b : Int)) R ∧ NearAt l R l.length 0 := by
  intro d
  induction d with
  | zero =>
    intro b near h hn
    obtain rfl : b = l.length := by omega
    refine ⟨near, Ev.step (f := fun _ => some near) (fun k => ?_) (Ev.now _), hn⟩
    simp only [shunt_conflicts.l0]
    rw [if_neg (by omega)]
  | succ d ih =>
    intro b near h hn
    have hb : b < l.length := by omega
    -- what the rows are after the round does not depend on the way: the round is run for the one list that it gives
    have key : ∀ (d' a : Nat) (near : List (List Int)), a + d' = b → NearAt l near b a → ∃ near', NearAt l near' b b ∧ ∀ R, Ev (fun k => shunt_conflicts.l0 k l near' (l.length : Int) ((b + 1 : Nat) : Int)) R → Ev (fun k => shunt_conflicts.l1 k l near (b : Int) (l.length : Int) (b : Int) (b : Int) (a : Int)) R := by
      intro d'
      induction d' with
      | zero =>
        intro a near h' hn'
        obtain rfl : a = b := by omega
        exact ⟨near, hn', fun R hR => conflicts_end l hl a hb R near hR⟩
      | succ d' ih' =>
        intro a near h' hn'
        obtain ⟨near1, h1, h2⟩ := conflicts_round l hd hl a b (by omega) hb near hn'
        obtain ⟨near', q1, q2⟩ := ih' (a + 1) near1 (by omega) h1
        exact ⟨near', q1, fun R hR => h2 R (q2 R hR)⟩
    obtain ⟨near', q1, q2⟩ := key b 0 near (by omega) hn
    obtain ⟨R, r1, r2⟩ := ih (b + 1) near' (by omega) (near_next (by omega) q1)
    refine ⟨R, Ev.step (fun k => ?_) (q2 R r1), r2⟩
    simp only [shunt_conflicts.l0]
    rw [if_pos (by omega)]
    rfl
theorem conflicts_ev (l : List Int) (hd : l.Nodup) (hl : l.length ≤ 60) : ∃ near, Ev (fun k => shunt_conflicts.f k l) near ∧ NearOk l near := by
  have h0 : NearAt l (List.replicate l.length []) 0 0 := by
    have e : ∀ x : Nat, x < l.length → (List.replicate l.length ([] : List Int)).getD x [] = [] := fun x hx => by
      rw [List.getD_eq_getElem?_getD, List.getElem?_replicate]
      simp [hx]
    refine ⟨by simp, fun x hx => by rw [e x hx]; simp, fun x hx y => ?_⟩
    rw [e x hx]
    constructor
    · intro h; cases h
    · rintro ⟨_, h⟩
      have := ‹Adj l (x : Int) y›.2.2.1
      omega
  obtain ⟨R, r1, r2⟩ := conflicts_l0 l hd hl l.length 0 _ (by omega) h0
  refine ⟨R, Ev.congr (fun k => ?_) r1, r2.1, fun x hx0 hx1 y => ?_⟩
  · unfold shunt_conflicts.f
    rw [if_pos (by omega), Int.toNat_natCast, if_pos (by omega)]
    rfl
  · have := r2.2.2 x.toNat (by omega) y
    rw [show ((x.toNat : Nat) : Int) = x by omega] at this
    show y ∈ near_ R x ↔ _
    unfold near_
    rw [this]
    exact ⟨fun h => h.1, fun h => ⟨h, by have := h.2.2.2.1; omega⟩⟩

/-! ### a visit -/
theorem wayF_mono (fr : Int → Option Int) : ∀ (f : Nat) (x : Int) (r : List Int), wayF fr f x = some r → ∀ g, f ≤ g → wayF fr g x = some r
  | 0, _, _, h, _, _ => by cases h
  | f + 1, x, r, h, g, hg => by
    obtain ⟨g', rfl⟩ : ∃ g', g = g' + 1 := ⟨g - 1, by omega⟩
    unfold wayF at h ⊢
    by_cases c : 0 ≤ x
    · rw [if_pos c] at h ⊢
      by_cases c2 : x ≤ 1000
      · rw [if_pos c2] at h ⊢
        obtain ⟨r', h1, h2⟩ := Option.map_eq_some_iff.mp h
        rw [wayF_mono fr f _ _ h1 g' (by omega), ← h2]
        rfl
      · rw [if_neg c2] at h; cases h
    · rw [if_neg c] at h ⊢
      exact h
/-- A way is as it was when a new node is told from where it comes. -/
theorem wayF_put (fr : Int → Option Int) (b v : Int) (hb : fr b = none) (hb0 : 0 < b ∨ b < 0 ∨ True) : ∀ (f : Nat) (x : Int) (r : List Int), wayF fr f x = some r → (∀ y ∈ r, fr y ≠ none) → wayF (put_ fr b v) f x = some r
  | 0, _, _, h, _ => by cases h
  | f + 1, x, r, h, hr => by
    unfold wayF at h ⊢
    by_cases c : 0 ≤ x
    · rw [if_pos c] at h ⊢
      by_cases c2 : x ≤ 1000
      · rw [if_pos c2] at h ⊢
        obtain ⟨r', h1, h2⟩ := Option.map_eq_some_iff.mp h
        subst h2
        have hx : x ≠ b := fun e => hr x (by simp) (by rw [e]; exact hb)
        rw [show put_ fr b v x = fr x from if_neg hx, wayF_put fr b v hb hb0 f _ _ h1 (fun y hy => hr y (by simp [hy]))]
        rfl
      · rw [if_neg c2] at h; cases h
    · rw [if_neg c] at h ⊢
      exact h
structure Bfs (l : List Int) (sd0 : Int → Option Int) (s : Int) (c : Col) : Prop where
  old : ∀ y, sd0 y ≠ none → c.1 y = sd0 y
  dom : ∀ y, c.1 y ≠ none ↔ (sd0 y ≠ none ∨ y ∈ c.2.2)
  new : ∀ y ∈ c.2.2, sd0 y = none ∧ 0 ≤ y ∧ y < l.length
  nd : c.2.2.Nodup
  val : ∀ y v, c.1 y = some v → v = 0 ∨ v = 1
  frd : ∀ y, c.2.1 y = none ↔ c.1 y = none
  way : ∀ (t : Nat) (h : t < c.2.2.length), ∃ r, wayF c.2.1 (t + 2) c.2.2[t] = some r ∧ ∀ y ∈ r, c.2.1 y ≠ none
  tree : ∀ χ, Proper l χ → ∀ y ∈ c.2.2, (χ y = χ s ↔ c.1 y = some 0)
theorem Bfs.len {l : List Int} {sd0 : Int → Option Int} {s : Int} {c : Col} (h : Bfs l sd0 s c) : c.2.2.length ≤ l.length :=
  nodup_len l.length c.2.2 (-1) h.nd (fun a ha => by have := h.new a ha; omega)
/-- The neighbours of the first i of the queue have the other colour. -/
def Done (l : List Int) (c : Col) (i : Nat) : Prop := ∀ t : Nat, t < i → ∀ b, Adj l (rd c.2.2 (t : Int)) b → ∃ v, c.1 b = some v ∧ c.1 (rd c.2.2 (t : Int)) ≠ some v
def Closed (l : List Int) (sd : Int → Option Int) : Prop := ∀ x v, sd x = some v → ∀ y, Adj l x y → ∃ u, sd y = some u ∧ u ≠ v

theorem bfs_add {l : List Int} (hl60 : l.length ≤ 60) {sd0 : Int → Option Int} {s a b va : Int} {c : Col} (h : Bfs l sd0 s c) (ha : a ∈ c.2.2) (hva : c.1 a = some va) (hab : Adj l a b) (hb : c.1 b = none) :
    Bfs l sd0 s (put_ c.1 b (wrap64 (1 - (c.1 a).getD 0)), put_ c.2.1 b a, c.2.2 ++ [b]) := by
  have hv := h.val a va hva
  have hw : wrap64 (1 - (c.1 a).getD 0) = 1 - va := by rw [hva, Option.getD_some, w64 (by omega) (by omega)]
  rw [hw]
  have hbq : b ∉ c.2.2 := fun hm => (h.dom b).2 (.inr hm) hb
  have hb0 : sd0 b = none := by
    cases e : sd0 b with
    | none => rfl
    | some u => exact absurd hb ((h.dom b).2 (.inl (by rw [e]; simp)))
  have hne : a ≠ b := hab.ne
  refine ⟨fun y hy => ?_, fun y => ?_, fun y hy => ?_, ?_, fun y v hy => ?_, fun y => ?_, fun t ht => ?_, fun χ hχ y hy => ?_⟩
  · show put_ c.1 b _ y = _
    rw [show put_ c.1 b (1 - va) y = c.1 y from if_neg (fun (e : y = b) => hy (by rw [e]; exact hb0))]
    exact h.old y hy
  · show put_ c.1 b _ y ≠ none ↔ _
    by_cases e : y = b
    · subst e
      rw [show put_ c.1 y (1 - va) y = some (1 - va) from if_pos rfl]
      exact ⟨fun _ => .inr (by simp), fun _ => by simp⟩
    · rw [show put_ c.1 b (1 - va) y = c.1 y from if_neg e, h.dom y, List.mem_append, List.mem_singleton]
      exact ⟨fun h => h.elim .inl (fun h => .inr (.inl h)), fun h => h.elim .inl (fun h => h.elim .inr (fun h => absurd h e))⟩
  · rcases List.mem_append.1 hy with hy | hy
    · exact h.new y hy
    · rw [List.mem_singleton] at hy
      subst hy
      exact ⟨hb0, hab.2.2.1, hab.2.2.2.1⟩
  · rw [List.nodup_append]
    refine ⟨h.nd, by simp, fun x hx z hz e => ?_⟩
    rw [List.mem_singleton] at hz
    subst hz
    exact hbq (e ▸ hx)
  · replace hy : put_ c.1 b (1 - va) y = some v := hy
    by_cases e : y = b
    · rw [show put_ c.1 b (1 - va) y = some (1 - va) from if_pos e] at hy
      injection hy with hy
      omega
    · rw [show put_ c.1 b (1 - va) y = c.1 y from if_neg e] at hy
      exact h.val y v hy
  · show put_ c.2.1 b a y = none ↔ put_ c.1 b (1 - va) y = none
    unfold put_
    by_cases e : y = b
    · rw [if_pos e, if_pos e]; simp
    · rw [if_neg e, if_neg e]; exact h.frd y
  · have hfb : c.2.1 b = none := (h.frd b).2 hb
    show ∃ r, wayF (put_ c.2.1 b a) (t + 2) (c.2.2 ++ [b])[t] = some r ∧ ∀ y ∈ r, put_ c.2.1 b a y ≠ none
    have keep : ∀ r : List Int, (∀ y ∈ r, c.2.1 y ≠ none) → ∀ y ∈ r, put_ c.2.1 b a y ≠ none := fun r hr y hy => by
      unfold put_
      by_cases e : y = b
      · rw [if_pos e]; simp
      · rw [if_neg e]; exact hr y hy
    by_cases ht2 : t < c.2.2.length
    · obtain ⟨r, r1, r2⟩ := h.way t ht2
      rw [List.getElem_append_left ht2]
      exact ⟨r, wayF_put _ _ _ hfb (.inr (.inr trivial)) _ _ _ r1 r2, keep r r2⟩
    · have hl := h.len
      have ht3 : t = c.2.2.length := by
        have := ht
        rw [List.length_append, List.length_singleton] at this
        omega
      subst ht3
      obtain ⟨ta, hta, hea⟩ := List.mem_iff_getElem.1 ha
      obtain ⟨r, r1, r2⟩ := h.way ta hta
      rw [hea] at r1
      have r3 := wayF_mono _ _ _ _ r1 (c.2.2.length + 1) (by omega)
      rw [List.getElem_append_right (Nat.le_refl _)]
      simp only [Nat.sub_self, List.getElem_cons_zero]
      refine ⟨b :: r, ?_, fun y hy => ?_⟩
      · have hb3 := hab.2.2.1
        have hb4 := hab.2.2.2.1
        unfold wayF
        rw [if_pos hb3, if_pos (by omega), show (put_ c.2.1 b a b) = some a from if_pos rfl, Option.getD_some, wayF_put _ _ _ hfb (.inr (.inr trivial)) _ _ _ r3 r2]
        rfl
      · rcases List.mem_cons.1 hy with e | hy
        · rw [e]; unfold put_; rw [if_pos rfl]; simp
        · exact keep r r2 y hy
  · replace hy : y ∈ c.2.2 ++ [b] := hy
    show χ y = χ s ↔ put_ c.1 b (1 - va) y = some 0
    rcases List.mem_append.1 hy with hy | hy
    · rw [show put_ c.1 b (1 - va) y = c.1 y from if_neg (fun (e : y = b) => hbq (by rw [← e]; exact hy))]
      exact h.tree χ hχ y hy
    · rw [List.mem_singleton] at hy
      subst hy
      rw [show put_ c.1 y (1 - va) y = some (1 - va) from if_pos rfl]
      have t1 := h.tree χ hχ a ha
      have t2 := hχ a y hab
      rw [hva] at t1
      rcases hv with rfl | rfl
      · have : χ a = χ s := t1.2 rfl
        rw [this] at t2
        exact ⟨fun e => absurd e.symm t2, fun e => by simp at e⟩
      · have : χ a ≠ χ s := fun e => by have := t1.1 e; simp at this
        exact ⟨fun _ => rfl, fun _ => by cases h1 : χ a <;> cases h2 : χ s <;> cases h3 : χ y <;> simp_all⟩
theorem two_no {l : List Int} {sd0 : Int → Option Int} {s a b va : Int} {c : Col} (h : Bfs l sd0 s c) (hcl : Closed l sd0) (ha : a ∈ c.2.2) (hva : c.1 a = some va) (hab : Adj l a b) (hb : c.1 b = some va) : b ∈ c.2.2 ∧ ¬ TwoCol l := by
  have hbq : b ∈ c.2.2 := by
    rcases (h.dom b).1 (by rw [hb]; simp) with h1 | h1
    · exfalso
      cases e : sd0 b with
      | none => exact h1 e
      | some u =>
        obtain ⟨u', h2, _⟩ := hcl b u e a hab.symm
        rw [(h.new a ha).1] at h2
        cases h2
    · exact h1
  refine ⟨hbq, fun ⟨χ, hχ⟩ => ?_⟩
  have t1 := h.tree χ hχ a ha
  have t2 := h.tree χ hχ b hbq
  have t3 := hχ a b hab
  rw [hva] at t1
  rw [hb] at t2
  have : (χ a = χ s) ↔ (χ b = χ s) := t1.trans t2.symm
  cases h1 : χ a <;> cases h2 : χ b <;> cases h3 : χ s <;> simp_all
theorem colIn_ok {l : List Int} (hl60 : l.length ≤ 60) {sd0 : Int → Option Int} (hcl : Closed l sd0) {s a : Int} : ∀ (bs : List Int) (c : Col), Bfs l sd0 s c → a ∈ c.2.2 → (∀ b ∈ bs, Adj l a b) →
    ∃ c' r, colIn a bs c = some (c', r) ∧ Bfs l sd0 s c' ∧ (∃ ext, c'.2.2 = c.2.2 ++ ext) ∧ (∀ y v, c.1 y = some v → c'.1 y = some v) ∧ (r = none → ∀ b ∈ bs, ∃ v, c'.1 b = some v ∧ c'.1 a ≠ some v) ∧ (∀ b, r = some b → b ∈ c'.2.2 ∧ ¬ TwoCol l)
  | [], c, h, ha, _ => ⟨c, none, rfl, h, ⟨[], by simp⟩, fun _ _ h => h, fun _ b hb => (by cases hb), fun b hb => (by cases hb)⟩
  | b :: bs, c, h, ha, hbs => by
    have hab := hbs b (by simp)
    have hlen := h.len
    have g : 0 ≤ b ∧ b ≤ 1000 ∧ c.2.2.length ≤ 1000 := ⟨hab.2.2.1, by have := hab.2.2.2.1; omega, by omega⟩
    obtain ⟨va, hva⟩ : ∃ va, c.1 a = some va := by
      cases e : c.1 a with
      | none => exact absurd e ((h.dom a).2 (.inr ha))
      | some v => exact ⟨v, rfl⟩
    cases hb : c.1 b with
    | none =>
      obtain ⟨c', r, e1, e2, ⟨ext, e3⟩, e4, e5, e6⟩ := colIn_ok hl60 hcl bs _ (bfs_add hl60 h ha hva hab hb) (List.mem_append_left _ ha) (fun x hx => hbs x (by simp [hx]))
      refine ⟨c', r, ?_, e2, ⟨[b] ++ ext, by rw [e3, List.append_assoc]⟩, fun y v hy => e4 y v ?_, fun hr x hx => ?_, e6⟩
      · unfold colIn
        rw [if_pos g, hb]
        simp only []
        rw [if_pos ⟨(h.frd b).2 hb, hab.ne⟩]
        exact e1
      · show put_ c.1 b _ y = some v
        rw [show put_ c.1 b (wrap64 (1 - (c.1 a).getD 0)) y = c.1 y from if_neg (fun (e : y = b) => by rw [e, hb] at hy; cases hy)]
        exact hy
      · rcases List.mem_cons.1 hx with e | hx
        · rw [e]
          have hv := h.val a va hva
          have q1 : c'.1 b = some (1 - va) := e4 b (1 - va) (by
            show put_ c.1 b _ b = _
            rw [show put_ c.1 b (wrap64 (1 - (c.1 a).getD 0)) b = some (wrap64 (1 - (c.1 a).getD 0)) from if_pos rfl, hva, Option.getD_some, w64 (by omega) (by omega)])
          have q2 : c'.1 a = some va := e4 a va (by
            show put_ c.1 b _ a = _
            rw [show put_ c.1 b (wrap64 (1 - (c.1 a).getD 0)) a = c.1 a from if_neg hab.ne]
            exact hva)
          exact ⟨1 - va, q1, by rw [q2]; intro e; injection e with e; omega⟩
        · exact e5 hr x hx
    | some sb =>
      by_cases ce : sb = va
      · subst ce
        have ht := two_no h hcl ha hva hab hb
        refine ⟨c, some b, ?_, h, ⟨[], by simp⟩, fun _ _ h => h, fun h => (by cases h), fun b' hb' => ?_⟩
        · unfold colIn
          rw [if_pos g, hb]
          simp only []
          rw [hva, Option.getD_some, if_pos rfl]
        · injection hb' with e
          subst e
          exact ht
      · obtain ⟨c', r, e1, e2, e3, e4, e5, e6⟩ := colIn_ok hl60 hcl bs c h ha (fun x hx => hbs x (by simp [hx]))
        refine ⟨c', r, ?_, e2, e3, e4, fun hr x hx => ?_, e6⟩
        · unfold colIn
          rw [if_pos g, hb]
          simp only []
          rw [hva, Option.getD_some, if_neg ce]
          exact e1
        · rcases List.mem_cons.1 hx with e | hx
          · rw [e]
            exact ⟨sb, e4 b sb hb, by rw [e4 a va hva]; intro e; injection e with e; exact ce e.symm⟩
          · exact e5 hr x hx
theorem colOut_ok {l : List Int} (hl60 : l.length ≤ 60) {near : List (List Int)} (hn : NearOk l near) {sd0 : Int → Option Int} (hcl : Closed l sd0) {s : Int} : ∀ (f i : Nat) (c : Col), f + i = 100 → i ≤ c.2.2.length → Bfs l sd0 s c → Done l c i →
    ∃ c' r, colOut near f (i : Int) c = some (c', r) ∧ Bfs l sd0 s c' ∧ (∃ ext, c'.2.2 = c.2.2 ++ ext) ∧ (r = none → Done l c' c'.2.2.length) ∧ (∀ a b, r = some (a, b) → a ∈ c'.2.2 ∧ b ∈ c'.2.2 ∧ ¬ TwoCol l) := by
  intro f
  induction f with
  | zero =>
    intro i c h hi hb _
    have := hb.len
    omega
  | succ f ih =>
    intro i c h hi hb hdn
    have hlen := hb.len
    by_cases c1 : (i : Int) < (c.2.2.length : Int)
    · have ha : rd c.2.2 (i : Int) ∈ c.2.2 := rd_mem (by omega) c1
      obtain ⟨a, hae⟩ : ∃ a, a = rd c.2.2 (i : Int) := ⟨_, rfl⟩
      rw [← hae] at ha
      have har := hb.new a ha
      have hadj : ∀ b ∈ near_ near a, Adj l a b := fun b hb' => (hn.2 a har.2.1 har.2.2 b).1 hb'
      obtain ⟨c', r, e1, e2, ⟨ext, e3⟩, e4, e5, e6⟩ := colIn_ok hl60 hcl (near_ near a) c hb ha hadj
      have hrd : ∀ t : Nat, t < c.2.2.length → rd c'.2.2 (t : Int) = rd c.2.2 (t : Int) := fun t ht => by
        rw [e3, rd_lt _ t (by rw [List.length_append]; omega), rd_lt _ t ht, List.getElem_append_left ht]
      have hguard : 0 ≤ a ∧ a < near.length ∧ a ≤ 1000 := ⟨har.2.1, by rw [hn.1]; exact har.2.2, by omega⟩
      have hst : colOut near (f + 1) (i : Int) c = (colIn a (near_ near a) c).bind fun p => match p.2 with | some b => some (p.1, some (a, b)) | none => colOut near f ((i : Int) + 1) p.1 := by
        rw [colOut, if_pos c1, ← hae, if_pos hguard]
        rfl
      cases r with
      | some b =>
        have := e6 b rfl
        exact ⟨c', some (a, b), by rw [hst, e1]; rfl, e2, ⟨ext, e3⟩, fun h => (by cases h), fun a' b' h' => by
          injection h' with h'
          injection h' with h1 h2
          subst h1; subst h2
          exact ⟨by rw [e3]; exact List.mem_append_left _ ha, this.1, this.2⟩⟩
      | none =>
        have hdn' : Done l c' (i + 1) := by
          intro t ht b hab
          rw [hrd t (by omega)] at hab ⊢
          by_cases et : t = i
          · subst et
            rw [← hae] at hab ⊢
            exact e5 rfl b ((hn.2 a har.2.1 har.2.2 b).2 hab)
          · obtain ⟨v, v1, v2⟩ := hdn t (by omega) b hab
            refine ⟨v, e4 b v v1, ?_⟩
            have htm : rd c.2.2 (t : Int) ∈ c.2.2 := rd_mem (by omega) (by omega)
            cases et2 : c.1 (rd c.2.2 (t : Int)) with
            | none => exact absurd et2 ((hb.dom _).2 (.inr htm))
            | some u => rw [e4 _ u et2]; rw [et2] at v2; exact v2
        obtain ⟨c2, r2, f1, f2, ⟨ext2, f3⟩, f4, f5⟩ := ih (i + 1) c' (by omega) (by rw [e3, List.length_append]; omega) e2 hdn'
        refine ⟨c2, r2, ?_, f2, ⟨ext ++ ext2, by rw [f3, e3, List.append_assoc]⟩, f4, f5⟩
        rw [hst, e1]
        exact f1
    · have hi2 : i = c.2.2.length := by omega
      refine ⟨c, none, ?_, hb, ⟨[], by simp⟩, fun _ => by rw [← hi2]; exact hdn, fun a b h => (by cases h)⟩
      unfold colOut
      rw [if_neg c1]

/-- What holds between two visits. -/
structure Sound (l : List Int) (sd fr : Int → Option Int) : Prop where
  closed : Closed l sd
  val : ∀ y v, sd y = some v → v = 0 ∨ v = 1
  frd : ∀ y, fr y = none ↔ sd y = none
theorem visit_ok {l : List Int} (hl60 : l.length ≤ 60) {near : List (List Int)} (hn : NearOk l near) {sd fr : Int → Option Int} (h : Sound l sd fr) {s : Int} (h0 : 0 ≤ s) (h1 : s < l.length) (hs : sd s = none) :
    ∃ c r, visitF near sd fr s = some (c, r) ∧ (∀ y, sd y ≠ none → c.1 y = sd y) ∧ (r = none → Sound l c.1 c.2.1 ∧ c.1 s ≠ none) ∧
      (∀ a b, r = some (a, b) → ¬ TwoCol l ∧ (∃ p, wayF c.2.1 100 a = some (a :: p) ∧ (a :: p).length ≤ 100) ∧ ∃ q, wayF c.2.1 100 b = some (b :: q) ∧ (b :: q).length ≤ 100) := by
  have hb : Bfs l sd s (put_ sd s 0, put_ fr s (-1), [s]) := by
    refine ⟨fun y hy => ?_, fun y => ?_, fun y hy => ?_, by simp, fun y v hy => ?_, fun y => ?_, fun t ht => ?_, fun χ hχ y hy => ?_⟩
    · exact if_neg (fun (e : y = s) => hy (by rw [e]; exact hs))
    · show put_ sd s 0 y ≠ none ↔ _
      unfold put_
      by_cases e : y = s
      · rw [if_pos e]; simp [e]
      · rw [if_neg e]; simp [e]
    · rw [List.mem_singleton] at hy
      subst hy
      exact ⟨hs, h0, h1⟩
    · replace hy : put_ sd s 0 y = some v := hy
      unfold put_ at hy
      by_cases e : y = s
      · rw [if_pos e] at hy
        injection hy with hy
        omega
      · rw [if_neg e] at hy
        exact h.val y v hy
    · show put_ fr s (-1) y = none ↔ put_ sd s 0 y = none
      unfold put_
      by_cases e : y = s
      · rw [if_pos e, if_pos e]; simp
      · rw [if_neg e, if_neg e]; exact h.frd y
    · have ht0 : t = 0 := by simpa using ht
      subst ht0
      refine ⟨[s], ?_, fun y hy => ?_⟩
      · show wayF (put_ fr s (-1)) 2 s = some [s]
        unfold wayF
        rw [if_pos h0, if_pos (by omega), show put_ fr s (-1) s = some (-1) from if_pos rfl, Option.getD_some]
        rfl
      · rw [List.mem_singleton] at hy
        rw [hy]
        show put_ fr s (-1) s ≠ none
        unfold put_
        rw [if_pos rfl]
        simp
    · rw [List.mem_singleton] at hy
      subst hy
      exact ⟨fun _ => if_pos rfl, fun _ => rfl⟩
  obtain ⟨c, r, e1, e2, ⟨ext, e3⟩, e4, e5⟩ := colOut_ok hl60 hn h.closed 100 0 _ (by omega) (by simp) hb (fun t ht => by omega)
  have hq : s ∈ c.2.2 := by rw [e3]; simp
  refine ⟨c, r, ?_, e2.old, fun hr => ⟨⟨?_, e2.val, e2.frd⟩, ?_⟩, fun a b hr => ?_⟩
  · unfold visitF
    rw [if_pos ⟨h0, by omega, hs, (h.frd s).2 hs⟩]
    exact e1
  · intro x v hx y hxy
    rcases (e2.dom x).1 (by rw [hx]; simp) with h2 | h2
    · rw [e2.old x h2] at hx
      obtain ⟨u, u1, u2⟩ := h.closed x v hx y hxy
      exact ⟨u, by rw [e2.old y (by rw [u1]; simp)]; exact u1, u2⟩
    · obtain ⟨t, ht, et⟩ := List.mem_iff_getElem.1 h2
      have hrd : rd c.2.2 (t : Int) = x := by rw [rd_lt _ t ht]; exact et
      obtain ⟨u, u1, u2⟩ := e4 hr t ht y (by rw [hrd]; exact hxy)
      rw [hrd, hx] at u2
      exact ⟨u, u1, fun e => u2 (by rw [e])⟩
  · exact (e2.dom s).2 (.inr hq)
  · obtain ⟨a1, a2, a3⟩ := e5 a b hr
    have hlen := e2.len
    have way : ∀ x ∈ c.2.2, ∃ p, wayF c.2.1 100 x = some (x :: p) ∧ (x :: p).length ≤ 100 := fun x hx => by
      obtain ⟨t, ht, et⟩ := List.mem_iff_getElem.1 hx
      obtain ⟨r', r1, _⟩ := e2.way t ht
      rw [et] at r1
      have r2 := wayF_mono _ _ _ _ r1 100 (by omega)
      have hx0 := (e2.new x hx).2.1
      have r3 := wayF_len _ _ _ _ r2
      have r4 := r2
      unfold wayF at r2
      rw [if_pos hx0] at r2
      by_cases c2 : x ≤ 1000
      · rw [if_pos c2] at r2
        obtain ⟨p, _, hp⟩ := Option.map_eq_some_iff.mp r2
        subst hp
        exact ⟨p, r4, r3⟩
      · rw [if_neg c2] at r2; cases r2
    exact ⟨a3, way a a1, way b a2⟩

/-! ### the cycle, and Stacks -/
theorem trimR_ne : ∀ (P Q : List Int), (P ≠ [] → (trimR P Q).1 ≠ []) ∧ (Q ≠ [] → (trimR P Q).2 ≠ []) ∧ (trimR P Q).1.length ≤ P.length ∧ (trimR P Q).2.length ≤ Q.length
  | [], Q => by rw [show trimR [] Q = ([], Q) by unfold trimR; rfl]; exact ⟨fun h => h, fun h => h, Nat.le_refl _, Nat.le_refl _⟩
  | [x], Q => by rw [show trimR [x] Q = ([x], Q) by unfold trimR; rfl]; exact ⟨fun h => h, fun h => h, Nat.le_refl _, Nat.le_refl _⟩
  | x :: y :: s, [] => by rw [show trimR (x :: y :: s) [] = (x :: y :: s, []) by unfold trimR; rfl]; exact ⟨fun h => h, fun h => h, Nat.le_refl _, Nat.le_refl _⟩
  | x :: y :: s, [x'] => by rw [show trimR (x :: y :: s) [x'] = (x :: y :: s, [x']) by unfold trimR; rfl]; exact ⟨fun h => h, fun h => h, Nat.le_refl _, Nat.le_refl _⟩
  | x :: y :: s, x' :: y' :: t => by
    by_cases c : y = y'
    · have e : trimR (x :: y :: s) (x' :: y' :: t) = trimR (y :: s) (y' :: t) := by rw [trimR, if_pos c]
      rw [e]
      have := trimR_ne (y :: s) (y' :: t)
      exact ⟨fun _ => this.1 (by simp), fun _ => this.2.1 (by simp), by have := this.2.2.1; simp at this ⊢; omega, by have := this.2.2.2; simp at this ⊢; omega⟩
    · have e : trimR (x :: y :: s) (x' :: y' :: t) = (x :: y :: s, x' :: y' :: t) := by rw [trimR, if_neg c]
      rw [e]
      exact ⟨fun h => h, fun h => h, Nat.le_refl _, Nat.le_refl _⟩
/-- The cycle that close finds. -/
def cycleOf (p q : List Int) : List Int := (trimR p.reverse q.reverse).1.reverse ++ (trimR p.reverse q.reverse).2.drop 1
theorem closeF_ev {fr : Int → Option Int} {a b : Int} {p q : List Int} (hp : wayF fr 100 a = some p) (hq : wayF fr 100 b = some q) (hp0 : p ≠ []) (hq0 : q ≠ []) (hql : q.length ≤ 100) :
    Ev (fun k => closeF (slices_Reverse_int_int.f k) fr a b) (cycleOf p q) ∧ cycleOf p q ≠ [] := by
  obtain ⟨t1, t2, t3, t4⟩ := trimR_ne p.reverse q.reverse
  have n1 := t1 (by simpa using hp0)
  have n2 := t2 (by simpa using hq0)
  have hrev := reverse_ev (trimR p.reverse q.reverse).2.reverse (by have h4 := t4; rw [List.length_reverse] at h4; rw [List.length_reverse]; omega)
  rw [List.reverse_reverse] at hrev
  constructor
  · refine Ev.congr (f := fun k => (slices_Reverse_int_int.f k (trimR p.reverse q.reverse).2.reverse).bind fun q' => if q'.length = 0 then none else some ((trimR p.reverse q.reverse).1.reverse ++ q'.drop 1)) (fun k => ?_) ?_
    · unfold closeF
      rw [hp, hq]
      rfl
    · refine Ev.bind (f := fun k (q' : List Int) => if q'.length = 0 then none else some ((trimR p.reverse q.reverse).1.reverse ++ q'.drop 1)) hrev ?_
      refine Ev.congr (fun k => ?_) (Ev.now _)
      rw [if_neg (fun e => n2 (List.eq_nil_of_length_eq_zero e))]
      rfl
  · intro e
    have := (List.append_eq_nil_iff.1 e).1
    exact n1 (by simpa using this)
theorem stacksGo_ok {l : List Int} (hl60 : l.length ≤ 60) {near : List (List Int)} (hn : NearOk l near) : ∀ (m : Nat) (i : Nat) (sd fr : Int → Option Int) (acc : List Int), i + m = l.length → Sound l sd fr → acc.length = i → (∀ t : Nat, t < i → sd (t : Int) = some (rd acc (t : Int))) →
    ∃ s c, Ev (fun k => stacksGo (slices_Reverse_int_int.f k) near m (i : Int) sd fr acc) (s, c) ∧ ((c = [] ∧ s.length = l.length ∧ SidesOk l s) ∨ (s = [] ∧ c ≠ [] ∧ ¬ TwoCol l)) := by
  intro m
  induction m with
  | zero =>
    intro i sd fr acc h hs hal hacc
    have hi : i = l.length := by omega
    refine ⟨acc, [], Ev.congr (fun k => rfl) (Ev.now _), .inl ⟨rfl, by omega, fun x hx => ?_, fun a b hab hb he hc => ?_⟩⟩
    · obtain ⟨t, ht, et⟩ := List.mem_iff_getElem.1 hx
      have := hs.val _ _ (hacc t (by omega))
      rw [rd_lt _ t ht, et] at this
      exact this
    · have hadj : Adj l (a : Int) (b : Int) := ⟨by omega, by omega, by omega, by omega, .inl ⟨by omega, by simpa using hc⟩⟩
      obtain ⟨u, u1, u2⟩ := hs.closed _ _ (hacc a (by omega)) _ hadj
      rw [hacc b (by omega)] at u1
      injection u1 with u1
      exact u2 (by rw [← u1]; exact he.symm)
  | succ m ih =>
    intro i sd fr acc h hs hal hacc
    have hsnoc : ∀ v : Int, ∀ t : Nat, t < i + 1 → rd (acc ++ [v]) (t : Int) = if t = i then v else rd acc (t : Int) := fun v t ht => by
      rw [rd_lt _ t (by rw [List.length_append, List.length_singleton]; omega)]
      by_cases e : t = i
      · subst e
        rw [if_pos rfl, List.getElem_append_right (by omega)]
        simp [hal]
      · rw [if_neg e, List.getElem_append_left (by omega), rd_lt _ t (by omega)]
    cases hsd : sd (i : Int) with
    | some v =>
      obtain ⟨s, c, e1, e2⟩ := ih (i + 1) sd fr (acc ++ [v]) (by omega) hs (by simp [hal]) (fun t ht => by
        rw [hsnoc v t ht]
        by_cases e : t = i
        · rw [if_pos e, e]; exact hsd
        · rw [if_neg e]; exact hacc t (by omega))
      refine ⟨s, c, Ev.congr (fun k => ?_) e1, e2⟩
      rw [stacksGo, hsd]
      rfl
    | none =>
      obtain ⟨c, r, v1, v2, v3, v4⟩ := visit_ok hl60 hn hs (show (0 : Int) ≤ (i : Int) by omega) (by omega) hsd
      cases r with
      | none =>
        obtain ⟨w1, w2⟩ := v3 rfl
        obtain ⟨s, cc, e1, e2⟩ := ih (i + 1) c.1 c.2.1 (acc ++ [(c.1 (i : Int)).getD 0]) (by omega) w1 (by simp [hal]) (fun t ht => by
          rw [hsnoc _ t ht]
          by_cases e : t = i
          · rw [if_pos e, e]
            cases e3 : c.1 (i : Int) with
            | none => exact absurd e3 w2
            | some v => rfl
          · rw [if_neg e, v2 _ (by rw [hacc t (by omega)]; simp)]
            exact hacc t (by omega))
        refine ⟨s, cc, Ev.congr (fun k => ?_) e1, e2⟩
        rw [stacksGo, hsd]
        simp only [v1, Option.bind_some]
        rfl
      | some ab =>
        obtain ⟨a, b⟩ := ab
        obtain ⟨n1, ⟨p, p1, p2⟩, q, q1, q2⟩ := v4 a b rfl
        obtain ⟨c1, c2⟩ := closeF_ev p1 q1 (by simp) (by simp) q2
        refine ⟨[], cycleOf (a :: p) (b :: q), Ev.congr (f := fun k => (closeF (slices_Reverse_int_int.f k) c.2.1 a b).bind fun cc => some (([] : List Int), cc)) (fun k => ?_) (Ev.bind (f := fun k cc => some (([] : List Int), cc)) c1 (Ev.now _)), .inr ⟨rfl, c2, n1⟩⟩
        rw [stacksGo, hsd]
        simp only [v1, Option.bind_some]
/-- What Stacks answers for an order. -/
theorem Stacks_ev (l : List Int) (h : IsOrd l) (hl : l.length ≤ 60) : ∃ s c, Ev (fun k => shunt_Stacks.f k l) (s, c, 0) ∧ ((c = [] ∧ s.length = l.length ∧ SidesOk l s) ∨ (s = [] ∧ c ≠ [] ∧ ¬ TwoCol l)) := by
  obtain ⟨near, n1, n2⟩ := conflicts_ev l h.1 hl
  obtain ⟨s, c, e1, e2⟩ := stacksGo_ok hl n2 l.length 0 (fun _ => none) (fun _ => none) [] (by omega) ⟨fun x v hx => (by cases hx), fun y v hy => (by cases hy), fun y => Iff.rfl⟩ rfl (fun t ht => by omega)
  refine ⟨s, c, Ev.congr (f := fun k => (shunt_conflicts.f k l).bind fun near => (stacksGo (slices_Reverse_int_int.f k) near l.length 0 (fun _ => none) (fun _ => none) []).bind fun p => some (p.1, p.2, 0)) (fun k => ?_) ?_, e2⟩
  · unfold shunt_Stacks.f
    rw [if_pos ((isOrderB_iff l).2 ⟨hl, h⟩)]
  · refine Ev.bind (f := fun k near => (stacksGo (slices_Reverse_int_int.f k) near l.length 0 (fun _ => none) (fun _ => none) []).bind fun p => some (p.1, p.2, (0 : Int))) n1 ?_
    exact Ev.bind (f := fun k (p : List Int × List Int) => some (p.1, p.2, (0 : Int))) e1 (Ev.now _)
theorem Stacks_no (l : List Int) (h : ¬ (l.length ≤ 60 ∧ IsOrd l)) (k : Nat) : shunt_Stacks.f k l = some ([], [], 2) := by
  unfold shunt_Stacks.f
  rw [if_neg (fun h' => h ((isOrderB_iff l).1 h'))]
end Go.Proofs.Ytjbjongahnocdaa.P
