-- Written by wip/bundle2.py: texts of this claim, one behind the other.
import Derived.Test.YtjbjongahnocdaaBShuntStacks0
import Derived.WideKeyEntry
set_option linter.unusedVariables false
set_option linter.unusedSimpArgs false

namespace Go.Proofs.Ytjbjongahnocdaa.S
open Go.Proofs.Ytjbjongahnocdaa.Lib
open Go.Proofs.Ytjbjongahnocdaa.Defs
open Go.Maps (Keyed)
open Go.RowKit Go.Proofs.YtjbjongahnocdaaW.PrintWords Go.Proofs.YtjbjongahnocdaaW.PrintLast Go.Proofs.YtjbjongahnocdaaW.PrintMore
attribute [local go_sem] max2_int min2_int max_two min_two max_three min_three max_four min_four
set_option linter.unusedVariables false
set_option linter.unusedSimpArgs false

def tickinglaw02_awake.j0 : Nat → Bool → Option (Bool)
 | 0, _ => none
 | k + 1, x86 => if x86 = true then (some false) else (some true)
def tickinglaw02_awake.f (k : Nat)  : Option (Bool) := (shunt_Stack.f k (([2, 1, 3] : List Int))).bind fun bt135 => ((shunt_Stack.f k (([2, 3, 1] : List Int))).bind fun bt143 => ((shunt_Least.f k (([3, 2, 1] : List Int))).bind fun bt151 => ((shunt_Rank.f k (([3, 2, 1] : List Int))).bind fun bt156 => ((shunt_Pass.f (([2, 3, 1] : List Int))).bind fun bt161 => (if bt135.2.2 = 0 then (if bt135.1.toList = ([105, 105, 111, 111, 105, 111] : List UInt8) then (if (bt135.2.1.length : Int) = 0 then (if bt143.2.2 = 0 then ((tickinglaw02_ints.f k bt143.2.1 (([0, 1, 2] : List Int))).bind fun t168 => (if t168 = true then (if bt151.2 = 0 then (if bt151.1 = 3 then (if bt156.2 = 0 then (if bt156.1 = 4 then (if bt161.2 = 0 then ((tickinglaw02_ints.f k bt161.1 (([2, 1, 3] : List Int))).bind fun t172 => (tickinglaw02_awake.j0 k (!t172))) else (tickinglaw02_awake.j0 k true)) else (tickinglaw02_awake.j0 k true)) else (tickinglaw02_awake.j0 k true)) else (tickinglaw02_awake.j0 k true)) else (tickinglaw02_awake.j0 k true)) else (tickinglaw02_awake.j0 k true))) else (tickinglaw02_awake.j0 k true)) else (tickinglaw02_awake.j0 k true)) else (tickinglaw02_awake.j0 k true)) else (tickinglaw02_awake.j0 k true))))))
theorem tickinglaw02_awake.mono_l : ∀ k, (∀ y0, LeO (tickinglaw02_awake.j0 k y0) (tickinglaw02_awake.j0 (k + 1) y0))
 | 0 => fun _ r h => by simp [tickinglaw02_awake.j0] at h
 | k + 1 => by
  have ih0 := tickinglaw02_awake.mono_l k
  ·intro y0
   unfold tickinglaw02_awake.j0
   repeat' first
   | (with_reducible exact ih0 _)
   | (with_reducible exact shunt_Least.mono _ _)
   | (with_reducible exact shunt_Rank.mono _ _)
   | (with_reducible exact shunt_Stack.mono _ _)
   | (with_reducible exact tickinglaw02_ints.mono _ _ _)
   | (with_reducible exact LeO.refl _)
   | (with_reducible exact LeO.none _)
   | (with_reducible refine LeO.ite ?_ ?_)
   | (with_reducible refine LeO.bind ?_ (fun _ => ?_))
   | exact ih0 _
   | exact shunt_Least.mono _ _
   | exact shunt_Rank.mono _ _
   | exact shunt_Stack.mono _ _
   | exact tickinglaw02_ints.mono _ _ _
   | exact LeO.none _
   | refine LeO.ite ?_ ?_
   | refine LeO.bind ?_ (fun _ => ?_)
theorem tickinglaw02_awake.mono : ∀ k, LeO (tickinglaw02_awake.f k ) (tickinglaw02_awake.f (k + 1) ) := by
 intro  k
 have ih0 := tickinglaw02_awake.mono_l k
 unfold tickinglaw02_awake.f
 repeat' first
   | (with_reducible exact ih0 _)
   | (with_reducible exact shunt_Least.mono _ _)
   | (with_reducible exact shunt_Rank.mono _ _)
   | (with_reducible exact shunt_Stack.mono _ _)
   | (with_reducible exact tickinglaw02_ints.mono _ _ _)
   | (with_reducible exact LeO.refl _)
   | (with_reducible exact LeO.none _)
   | (with_reducible refine LeO.ite ?_ ?_)
   | (with_reducible refine LeO.bind ?_ (fun _ => ?_))
   | exact ih0 _
   | exact shunt_Least.mono _ _
   | exact shunt_Rank.mono _ _
   | exact shunt_Stack.mono _ _
   | exact tickinglaw02_ints.mono _ _ _
   | exact LeO.none _
   | refine LeO.ite ?_ ?_
   | refine LeO.bind ?_ (fun _ => ?_)
set_option maxHeartbeats 8000000 in
set_option maxRecDepth 100000 in
theorem tickinglaw02_awake.calls (k : Nat)  (r : Bool) (w : World) (h : tickinglaw02_awake.f k  = some r) :
  Calls Try.prog 22 #[] w fun e w' => e = .returned (.bool r) ∧ Below w.heap.size w w' := by
 have HB := Aside0.mk (Below.refl w.heap.size w)
 have H : ((shunt_Stack.f k (([2, 1, 3] : List Int))).bind fun bt135 => ((shunt_Stack.f k (([2, 3, 1] : List Int))).bind fun bt143 => ((shunt_Least.f k (([3, 2, 1] : List Int))).bind fun bt151 => ((shunt_Rank.f k (([3, 2, 1] : List Int))).bind fun bt156 => ((shunt_Pass.f (([2, 3, 1] : List Int))).bind fun bt161 => (if bt135.2.2 = 0 then (if bt135.1.toList = ([105, 105, 111, 111, 105, 111] : List UInt8) then (if (bt135.2.1.length : Int) = 0 then (if bt143.2.2 = 0 then ((tickinglaw02_ints.f k bt143.2.1 (([0, 1, 2] : List Int))).bind fun t168 => (if t168 = true then (if bt151.2 = 0 then (if bt151.1 = 3 then (if bt156.2 = 0 then (if bt156.1 = 4 then (if bt161.2 = 0 then ((tickinglaw02_ints.f k bt161.1 (([2, 1, 3] : List Int))).bind fun t172 => (tickinglaw02_awake.j0 k (!t172))) else (tickinglaw02_awake.j0 k true)) else (tickinglaw02_awake.j0 k true)) else (tickinglaw02_awake.j0 k true)) else (tickinglaw02_awake.j0 k true)) else (tickinglaw02_awake.j0 k true)) else (tickinglaw02_awake.j0 k true))) else (tickinglaw02_awake.j0 k true)) else (tickinglaw02_awake.j0 k true)) else (tickinglaw02_awake.j0 k true)) else (tickinglaw02_awake.j0 k true))))))) = some r := h
 clear h
 obtain ⟨y132, hy132⟩ : ∃ y_ : List Int, y_ = (([2, 1, 3] : List Int)) := ⟨_, rfl⟩
 replace H : ((shunt_Stack.f k y132).bind fun bt135 => ((shunt_Stack.f k (([2, 3, 1] : List Int))).bind fun bt143 => ((shunt_Least.f k (([3, 2, 1] : List Int))).bind fun bt151 => ((shunt_Rank.f k (([3, 2, 1] : List Int))).bind fun bt156 => ((shunt_Pass.f (([2, 3, 1] : List Int))).bind fun bt161 => (if bt135.2.2 = 0 then (if bt135.1.toList = ([105, 105, 111, 111, 105, 111] : List UInt8) then (if (bt135.2.1.length : Int) = 0 then (if bt143.2.2 = 0 then ((tickinglaw02_ints.f k bt143.2.1 (([0, 1, 2] : List Int))).bind fun t168 => (if t168 = true then (if bt151.2 = 0 then (if bt151.1 = 3 then (if bt156.2 = 0 then (if bt156.1 = 4 then (if bt161.2 = 0 then ((tickinglaw02_ints.f k bt161.1 (([2, 1, 3] : List Int))).bind fun t172 => (tickinglaw02_awake.j0 k (!t172))) else (tickinglaw02_awake.j0 k true)) else (tickinglaw02_awake.j0 k true)) else (tickinglaw02_awake.j0 k true)) else (tickinglaw02_awake.j0 k true)) else (tickinglaw02_awake.j0 k true)) else (tickinglaw02_awake.j0 k true))) else (tickinglaw02_awake.j0 k true)) else (tickinglaw02_awake.j0 k true)) else (tickinglaw02_awake.j0 k true)) else (tickinglaw02_awake.j0 k true))))))) = some r := by first | (rw [hy132]; with_reducible exact H) | (have H2_ := (Option.bind_some _ _).symm.trans H; rw [hy132]; with_reducible exact H2_) | (have H2_ := (Option.bind_some _ _).symm.trans H; with_reducible exact H2_) | with_reducible exact H | (rw [hy132]; exact H) | exact H
 have Ny132 := Aside0.mk hy132
 clear hy132
 replace H := Option.bind_eq_some_iff.mp H
 obtain ⟨⟨t135, t136, t137⟩, A10, H⟩ := H
 replace H : ((shunt_Stack.f k (([2, 3, 1] : List Int))).bind fun bt143 => ((shunt_Least.f k (([3, 2, 1] : List Int))).bind fun bt151 => ((shunt_Rank.f k (([3, 2, 1] : List Int))).bind fun bt156 => ((shunt_Pass.f (([2, 3, 1] : List Int))).bind fun bt161 => (if t137 = 0 then (if t135.toList = ([105, 105, 111, 111, 105, 111] : List UInt8) then (if (t136.length : Int) = 0 then (if bt143.2.2 = 0 then ((tickinglaw02_ints.f k bt143.2.1 (([0, 1, 2] : List Int))).bind fun t168 => (if t168 = true then (if bt151.2 = 0 then (if bt151.1 = 3 then (if bt156.2 = 0 then (if bt156.1 = 4 then (if bt161.2 = 0 then ((tickinglaw02_ints.f k bt161.1 (([2, 1, 3] : List Int))).bind fun t172 => (tickinglaw02_awake.j0 k (!t172))) else (tickinglaw02_awake.j0 k true)) else (tickinglaw02_awake.j0 k true)) else (tickinglaw02_awake.j0 k true)) else (tickinglaw02_awake.j0 k true)) else (tickinglaw02_awake.j0 k true)) else (tickinglaw02_awake.j0 k true))) else (tickinglaw02_awake.j0 k true)) else (tickinglaw02_awake.j0 k true)) else (tickinglaw02_awake.j0 k true)) else (tickinglaw02_awake.j0 k true)))))) = some r := H
 have A1 := Aside0.mk A10
 clear A10
 obtain ⟨y140, hy140⟩ : ∃ y_ : List Int, y_ = (([2, 3, 1] : List Int)) := ⟨_, rfl⟩
 replace H : ((shunt_Stack.f k y140).bind fun bt143 => ((shunt_Least.f k (([3, 2, 1] : List Int))).bind fun bt151 => ((shunt_Rank.f k (([3, 2, 1] : List Int))).bind fun bt156 => ((shunt_Pass.f (([2, 3, 1] : List Int))).bind fun bt161 => (if t137 = 0 then (if t135.toList = ([105, 105, 111, 111, 105, 111] : List UInt8) then (if (t136.length : Int) = 0 then (if bt143.2.2 = 0 then ((tickinglaw02_ints.f k bt143.2.1 (([0, 1, 2] : List Int))).bind fun t168 => (if t168 = true then (if bt151.2 = 0 then (if bt151.1 = 3 then (if bt156.2 = 0 then (if bt156.1 = 4 then (if bt161.2 = 0 then ((tickinglaw02_ints.f k bt161.1 (([2, 1, 3] : List Int))).bind fun t172 => (tickinglaw02_awake.j0 k (!t172))) else (tickinglaw02_awake.j0 k true)) else (tickinglaw02_awake.j0 k true)) else (tickinglaw02_awake.j0 k true)) else (tickinglaw02_awake.j0 k true)) else (tickinglaw02_awake.j0 k true)) else (tickinglaw02_awake.j0 k true))) else (tickinglaw02_awake.j0 k true)) else (tickinglaw02_awake.j0 k true)) else (tickinglaw02_awake.j0 k true)) else (tickinglaw02_awake.j0 k true)))))) = some r := by first | (rw [hy140]; with_reducible exact H) | (have H2_ := (Option.bind_some _ _).symm.trans H; rw [hy140]; with_reducible exact H2_) | (have H2_ := (Option.bind_some _ _).symm.trans H; with_reducible exact H2_) | with_reducible exact H | (rw [hy140]; exact H) | exact H
 have Ny140 := Aside0.mk hy140
 clear hy140
 replace H := Option.bind_eq_some_iff.mp H
 obtain ⟨⟨t143, t144, t145⟩, A20, H⟩ := H
 replace H : ((shunt_Least.f k (([3, 2, 1] : List Int))).bind fun bt151 => ((shunt_Rank.f k (([3, 2, 1] : List Int))).bind fun bt156 => ((shunt_Pass.f (([2, 3, 1] : List Int))).bind fun bt161 => (if t137 = 0 then (if t135.toList = ([105, 105, 111, 111, 105, 111] : List UInt8) then (if (t136.length : Int) = 0 then (if t145 = 0 then ((tickinglaw02_ints.f k t144 (([0, 1, 2] : List Int))).bind fun t168 => (if t168 = true then (if bt151.2 = 0 then (if bt151.1 = 3 then (if bt156.2 = 0 then (if bt156.1 = 4 then (if bt161.2 = 0 then ((tickinglaw02_ints.f k bt161.1 (([2, 1, 3] : List Int))).bind fun t172 => (tickinglaw02_awake.j0 k (!t172))) else (tickinglaw02_awake.j0 k true)) else (tickinglaw02_awake.j0 k true)) else (tickinglaw02_awake.j0 k true)) else (tickinglaw02_awake.j0 k true)) else (tickinglaw02_awake.j0 k true)) else (tickinglaw02_awake.j0 k true))) else (tickinglaw02_awake.j0 k true)) else (tickinglaw02_awake.j0 k true)) else (tickinglaw02_awake.j0 k true)) else (tickinglaw02_awake.j0 k true))))) = some r := H
 have A2 := Aside0.mk A20
 clear A20
 obtain ⟨y148, hy148⟩ : ∃ y_ : List Int, y_ = (([3, 2, 1] : List Int)) := ⟨_, rfl⟩
 replace H : ((shunt_Least.f k y148).bind fun bt151 => ((shunt_Rank.f k (([3, 2, 1] : List Int))).bind fun bt156 => ((shunt_Pass.f (([2, 3, 1] : List Int))).bind fun bt161 => (if t137 = 0 then (if t135.toList = ([105, 105, 111, 111, 105, 111] : List UInt8) then (if (t136.length : Int) = 0 then (if t145 = 0 then ((tickinglaw02_ints.f k t144 (([0, 1, 2] : List Int))).bind fun t168 => (if t168 = true then (if bt151.2 = 0 then (if bt151.1 = 3 then (if bt156.2 = 0 then (if bt156.1 = 4 then (if bt161.2 = 0 then ((tickinglaw02_ints.f k bt161.1 (([2, 1, 3] : List Int))).bind fun t172 => (tickinglaw02_awake.j0 k (!t172))) else (tickinglaw02_awake.j0 k true)) else (tickinglaw02_awake.j0 k true)) else (tickinglaw02_awake.j0 k true)) else (tickinglaw02_awake.j0 k true)) else (tickinglaw02_awake.j0 k true)) else (tickinglaw02_awake.j0 k true))) else (tickinglaw02_awake.j0 k true)) else (tickinglaw02_awake.j0 k true)) else (tickinglaw02_awake.j0 k true)) else (tickinglaw02_awake.j0 k true))))) = some r := by first | (rw [hy148]; with_reducible exact H) | (have H2_ := (Option.bind_some _ _).symm.trans H; rw [hy148]; with_reducible exact H2_) | (have H2_ := (Option.bind_some _ _).symm.trans H; with_reducible exact H2_) | with_reducible exact H | (rw [hy148]; exact H) | exact H
 have Ny148 := Aside0.mk hy148
 clear hy148
 replace H := Option.bind_eq_some_iff.mp H
 obtain ⟨⟨t151, t152⟩, A30, H⟩ := H
 replace H : ((shunt_Rank.f k (([3, 2, 1] : List Int))).bind fun bt156 => ((shunt_Pass.f (([2, 3, 1] : List Int))).bind fun bt161 => (if t137 = 0 then (if t135.toList = ([105, 105, 111, 111, 105, 111] : List UInt8) then (if (t136.length : Int) = 0 then (if t145 = 0 then ((tickinglaw02_ints.f k t144 (([0, 1, 2] : List Int))).bind fun t168 => (if t168 = true then (if t152 = 0 then (if t151 = 3 then (if bt156.2 = 0 then (if bt156.1 = 4 then (if bt161.2 = 0 then ((tickinglaw02_ints.f k bt161.1 (([2, 1, 3] : List Int))).bind fun t172 => (tickinglaw02_awake.j0 k (!t172))) else (tickinglaw02_awake.j0 k true)) else (tickinglaw02_awake.j0 k true)) else (tickinglaw02_awake.j0 k true)) else (tickinglaw02_awake.j0 k true)) else (tickinglaw02_awake.j0 k true)) else (tickinglaw02_awake.j0 k true))) else (tickinglaw02_awake.j0 k true)) else (tickinglaw02_awake.j0 k true)) else (tickinglaw02_awake.j0 k true)) else (tickinglaw02_awake.j0 k true)))) = some r := H
 have A3 := Aside0.mk A30
 clear A30
 obtain ⟨y153, hy153⟩ : ∃ y_ : List Int, y_ = (([3, 2, 1] : List Int)) := ⟨_, rfl⟩
 replace H : ((shunt_Rank.f k y153).bind fun bt156 => ((shunt_Pass.f (([2, 3, 1] : List Int))).bind fun bt161 => (if t137 = 0 then (if t135.toList = ([105, 105, 111, 111, 105, 111] : List UInt8) then (if (t136.length : Int) = 0 then (if t145 = 0 then ((tickinglaw02_ints.f k t144 (([0, 1, 2] : List Int))).bind fun t168 => (if t168 = true then (if t152 = 0 then (if t151 = 3 then (if bt156.2 = 0 then (if bt156.1 = 4 then (if bt161.2 = 0 then ((tickinglaw02_ints.f k bt161.1 (([2, 1, 3] : List Int))).bind fun t172 => (tickinglaw02_awake.j0 k (!t172))) else (tickinglaw02_awake.j0 k true)) else (tickinglaw02_awake.j0 k true)) else (tickinglaw02_awake.j0 k true)) else (tickinglaw02_awake.j0 k true)) else (tickinglaw02_awake.j0 k true)) else (tickinglaw02_awake.j0 k true))) else (tickinglaw02_awake.j0 k true)) else (tickinglaw02_awake.j0 k true)) else (tickinglaw02_awake.j0 k true)) else (tickinglaw02_awake.j0 k true)))) = some r := by first | (rw [hy153]; with_reducible exact H) | (have H2_ := (Option.bind_some _ _).symm.trans H; rw [hy153]; with_reducible exact H2_) | (have H2_ := (Option.bind_some _ _).symm.trans H; with_reducible exact H2_) | with_reducible exact H | (rw [hy153]; exact H) | exact H
 have Ny153 := Aside0.mk hy153
 clear hy153
 replace H := Option.bind_eq_some_iff.mp H
 obtain ⟨⟨t156, t157⟩, A40, H⟩ := H
 replace H : ((shunt_Pass.f (([2, 3, 1] : List Int))).bind fun bt161 => (if t137 = 0 then (if t135.toList = ([105, 105, 111, 111, 105, 111] : List UInt8) then (if (t136.length : Int) = 0 then (if t145 = 0 then ((tickinglaw02_ints.f k t144 (([0, 1, 2] : List Int))).bind fun t168 => (if t168 = true then (if t152 = 0 then (if t151 = 3 then (if t157 = 0 then (if t156 = 4 then (if bt161.2 = 0 then ((tickinglaw02_ints.f k bt161.1 (([2, 1, 3] : List Int))).bind fun t172 => (tickinglaw02_awake.j0 k (!t172))) else (tickinglaw02_awake.j0 k true)) else (tickinglaw02_awake.j0 k true)) else (tickinglaw02_awake.j0 k true)) else (tickinglaw02_awake.j0 k true)) else (tickinglaw02_awake.j0 k true)) else (tickinglaw02_awake.j0 k true))) else (tickinglaw02_awake.j0 k true)) else (tickinglaw02_awake.j0 k true)) else (tickinglaw02_awake.j0 k true)) else (tickinglaw02_awake.j0 k true))) = some r := H
 have A4 := Aside0.mk A40
 clear A40
 obtain ⟨y158, hy158⟩ : ∃ y_ : List Int, y_ = (([2, 3, 1] : List Int)) := ⟨_, rfl⟩
 replace H : ((shunt_Pass.f y158).bind fun bt161 => (if t137 = 0 then (if t135.toList = ([105, 105, 111, 111, 105, 111] : List UInt8) then (if (t136.length : Int) = 0 then (if t145 = 0 then ((tickinglaw02_ints.f k t144 (([0, 1, 2] : List Int))).bind fun t168 => (if t168 = true then (if t152 = 0 then (if t151 = 3 then (if t157 = 0 then (if t156 = 4 then (if bt161.2 = 0 then ((tickinglaw02_ints.f k bt161.1 (([2, 1, 3] : List Int))).bind fun t172 => (tickinglaw02_awake.j0 k (!t172))) else (tickinglaw02_awake.j0 k true)) else (tickinglaw02_awake.j0 k true)) else (tickinglaw02_awake.j0 k true)) else (tickinglaw02_awake.j0 k true)) else (tickinglaw02_awake.j0 k true)) else (tickinglaw02_awake.j0 k true))) else (tickinglaw02_awake.j0 k true)) else (tickinglaw02_awake.j0 k true)) else (tickinglaw02_awake.j0 k true)) else (tickinglaw02_awake.j0 k true))) = some r := by first | (rw [hy158]; with_reducible exact H) | (have H2_ := (Option.bind_some _ _).symm.trans H; rw [hy158]; with_reducible exact H2_) | (have H2_ := (Option.bind_some _ _).symm.trans H; with_reducible exact H2_) | with_reducible exact H | (rw [hy158]; exact H) | exact H
 have Ny158 := Aside0.mk hy158
 clear hy158
 replace H := Option.bind_eq_some_iff.mp H
 obtain ⟨⟨t161, t162⟩, A50, H⟩ := H
 replace H : (if t137 = 0 then (if t135.toList = ([105, 105, 111, 111, 105, 111] : List UInt8) then (if (t136.length : Int) = 0 then (if t145 = 0 then ((tickinglaw02_ints.f k t144 (([0, 1, 2] : List Int))).bind fun t168 => (if t168 = true then (if t152 = 0 then (if t151 = 3 then (if t157 = 0 then (if t156 = 4 then (if t162 = 0 then ((tickinglaw02_ints.f k t161 (([2, 1, 3] : List Int))).bind fun t172 => (tickinglaw02_awake.j0 k (!t172))) else (tickinglaw02_awake.j0 k true)) else (tickinglaw02_awake.j0 k true)) else (tickinglaw02_awake.j0 k true)) else (tickinglaw02_awake.j0 k true)) else (tickinglaw02_awake.j0 k true)) else (tickinglaw02_awake.j0 k true))) else (tickinglaw02_awake.j0 k true)) else (tickinglaw02_awake.j0 k true)) else (tickinglaw02_awake.j0 k true)) else (tickinglaw02_awake.j0 k true)) = some r := H
 have A5 := Aside0.mk A50
 clear A50
 have HC6 := Aside0.mk H
 clear H
 go_enter Try.func22, Try.ntmps22
 go_upto_region 6 with (first | ((with_reducible refine gate_dst (N := 14) rfl ?_); (try (refine gate_guard (by rfl) ?_; dsimp only)); refine Kd.R_lit (Kd.int .i64) _ 3 ?hg (N := 14) ?hd (xs := ([2, 1, 3] : List Int)) (inner := [.int .i64 2, .int .i64 1, .int .i64 3]) (ok := fun _ => True) (okp := fun _ => True) ?hr ?hp (fun _ hk => hk) trivial (Below.refl _ _) (Nat.le_refl _) (by simp) ?_; (case hd => rfl); (case hg => rfl); (case hr => first | (go_simp; done) | (go_simp; rfl)); (case hp => exact (Reps.one (show Kd.M (Kd.int .i64) _ _ _ 2 [.int .i64 2] from rfl) (Reps.one (show Kd.M (Kd.int .i64) _ _ _ 1 [.int .i64 1] from rfl) (Reps.one (show Kd.M (Kd.int .i64) _ _ _ 3 [.int .i64 3] from rfl) (Reps.none _ _))))); intro v133 w7 ho8 hb hg_ hnew_; clear hg_ hnew_; (first | rw [← Ny132.out] at ho8 | (simp only [Int.reduceToNat] at ho8; rw [← Ny132.out] at ho8)); have n0_ := Aside0.mk (Kd.R_lower ho8 (below_size (by repeat (first | (with_reducible first | exact HB.out | apply below_alloc | apply pw_below_drewN | apply below_drew1) | exact HB.out)))); have n1_ := Aside0.mk (below_step (by repeat (first | (with_reducible first | exact HB.out | apply below_alloc | apply pw_below_drewN | apply below_drew1) | exact HB.out)) hb); clear HB; have HO134 := n0_; have HB := n1_; clear n0_ n1_; clear hb ho8; obtain ⟨Ao9, co9, eo9⟩ := Kd.R_slice HO134.out; subst eo9) | ((with_reducible refine gate_callee (f := 28) rfl ?_); refine goesL_ (some 15) rfl rfl Try.func28 (by kernel_rfl) rfl #[.slice Ao9 y132.length co9] rfl (by (try simp only [List.map_toArray, List.map_cons, List.map_nil]); first | done | rfl | (simp only [List.length_drop, List.length_take]; rfl)) ?_; (with_reducible refine (shunt_Stack.calls k _ _ y132 t135 t136 t137 _ ?side1 ?side2 A1.out).mono ?_); (case side1 => repeat (first | exact (Kd.R_reads' HO134.out).2.2 | (with_reducible refine Kd.C_alloc ?_ _) | (with_reducible refine Kd.C_drewN ?_ _) | (with_reducible refine Kd.C_drew ?_))); (case side2 => exact (Kd.R_reads' HO134.out).2.1); rintro e w10 ⟨v138, rfl, ho0, hb⟩; refine ⟨_, rfl, ?_⟩; have n0_ := Aside0.mk (Kd.R_elder' (by (with_reducible repeat (first | apply Kd.R_alloc | apply Kd.R_drewN | apply Kd.R_drew)); exact HO134.out) (Kd.R_base ho0) hb); have n1_ := Aside0.mk (Kd.R_lower (Kd.R_new' ho0 (Kd.R_lt (by (with_reducible repeat (first | apply Kd.R_alloc | apply Kd.R_drewN | apply Kd.R_drew)); exact HO134.out))) (below_size (by repeat (first | (with_reducible first | exact HB.out | apply below_alloc | apply pw_below_drewN | apply below_drew1) | exact HB.out)))); have n2_ := Aside0.mk (below_step (by repeat (first | (with_reducible first | exact HB.out | apply below_alloc | apply pw_below_drewN | apply below_drew1) | exact HB.out)) hb); clear HO134; clear HB; have HO134 := n0_; have HO139 := n1_; have HB := n2_; clear n0_ n1_ n2_; (try clear hb); (try clear hb2); (try clear hk); (try clear hi); (try clear ho0)) | ((with_reducible refine gate_dst (N := 20) rfl ?_); (try (refine gate_guard (by rfl) ?_; dsimp only)); refine Kd.R_lit (Kd.int .i64) _ 3 ?hg (N := 20) ?hd (xs := ([2, 3, 1] : List Int)) (inner := [.int .i64 2, .int .i64 3, .int .i64 1]) (ok := fun _ => True) (okp := fun _ => True) ?hr ?hp (fun _ hk => hk) trivial (Below.refl _ _) (Nat.le_refl _) (by simp) ?_; (case hd => rfl); (case hg => rfl); (case hr => first | (go_simp; done) | (go_simp; rfl)); (case hp => exact (Reps.one (show Kd.M (Kd.int .i64) _ _ _ 2 [.int .i64 2] from rfl) (Reps.one (show Kd.M (Kd.int .i64) _ _ _ 3 [.int .i64 3] from rfl) (Reps.one (show Kd.M (Kd.int .i64) _ _ _ 1 [.int .i64 1] from rfl) (Reps.none _ _))))); intro v141 w11 ho12 hb hg_ hnew_; clear hg_ hnew_; (first | rw [← Ny140.out] at ho12 | (simp only [Int.reduceToNat] at ho12; rw [← Ny140.out] at ho12)); have n0_ := Aside0.mk (Kd.R_elder' (by (with_reducible repeat (first | apply Kd.R_alloc | apply Kd.R_drewN | apply Kd.R_drew)); exact HO134.out) (Kd.R_base ho12) hb); have n1_ := Aside0.mk (Kd.R_elder' (by (with_reducible repeat (first | apply Kd.R_alloc | apply Kd.R_drewN | apply Kd.R_drew)); exact HO139.out) (Kd.R_base ho12) hb); have n2_ := Aside0.mk (Kd.R_lower (Kd.R_new' (Kd.R_new' ho12 (Kd.R_lt (by (with_reducible repeat (first | apply Kd.R_alloc | apply Kd.R_drewN | apply Kd.R_drew)); exact HO134.out))) (Kd.R_lt (by (with_reducible repeat (first | apply Kd.R_alloc | apply Kd.R_drewN | apply Kd.R_drew)); exact HO139.out))) (below_size (by repeat (first | (with_reducible first | exact HB.out | apply below_alloc | apply pw_below_drewN | apply below_drew1) | exact HB.out)))); have n3_ := Aside0.mk (below_step (by repeat (first | (with_reducible first | exact HB.out | apply below_alloc | apply pw_below_drewN | apply below_drew1) | exact HB.out)) hb); clear HO134; clear HO139; clear HB; have HO134 := n0_; have HO139 := n1_; have HO142 := n2_; have HB := n3_; clear n0_ n1_ n2_ n3_; clear hb ho12; obtain ⟨Ao13, co13, eo13⟩ := Kd.R_slice HO142.out; subst eo13) | ((with_reducible refine gate_callee (f := 28) rfl ?_); refine goesL_ (some 21) rfl rfl Try.func28 (by kernel_rfl) rfl #[.slice Ao13 y140.length co13] rfl (by (try simp only [List.map_toArray, List.map_cons, List.map_nil]); first | done | rfl | (simp only [List.length_drop, List.length_take]; rfl)) ?_; (with_reducible refine (shunt_Stack.calls k _ _ y140 t143 t144 t145 _ ?side1 ?side2 A2.out).mono ?_); (case side1 => repeat (first | exact (Kd.R_reads' HO142.out).2.2 | (with_reducible refine Kd.C_alloc ?_ _) | (with_reducible refine Kd.C_drewN ?_ _) | (with_reducible refine Kd.C_drew ?_))); (case side2 => exact (Kd.R_reads' HO142.out).2.1); rintro e w14 ⟨v146, rfl, ho0, hb⟩; refine ⟨_, rfl, ?_⟩; have n0_ := Aside0.mk (Kd.R_elder' (by (with_reducible repeat (first | apply Kd.R_alloc | apply Kd.R_drewN | apply Kd.R_drew)); exact HO134.out) (Kd.R_base ho0) hb); have n1_ := Aside0.mk (Kd.R_elder' (by (with_reducible repeat (first | apply Kd.R_alloc | apply Kd.R_drewN | apply Kd.R_drew)); exact HO139.out) (Kd.R_base ho0) hb); have n2_ := Aside0.mk (Kd.R_elder' (by (with_reducible repeat (first | apply Kd.R_alloc | apply Kd.R_drewN | apply Kd.R_drew)); exact HO142.out) (Kd.R_base ho0) hb); have n3_ := Aside0.mk (Kd.R_lower (Kd.R_new' (Kd.R_new' (Kd.R_new' ho0 (Kd.R_lt (by (with_reducible repeat (first | apply Kd.R_alloc | apply Kd.R_drewN | apply Kd.R_drew)); exact HO134.out))) (Kd.R_lt (by (with_reducible repeat (first | apply Kd.R_alloc | apply Kd.R_drewN | apply Kd.R_drew)); exact HO139.out))) (Kd.R_lt (by (with_reducible repeat (first | apply Kd.R_alloc | apply Kd.R_drewN | apply Kd.R_drew)); exact HO142.out))) (below_size (by repeat (first | (with_reducible first | exact HB.out | apply below_alloc | apply pw_below_drewN | apply below_drew1) | exact HB.out)))); have n4_ := Aside0.mk (below_step (by repeat (first | (with_reducible first | exact HB.out | apply below_alloc | apply pw_below_drewN | apply below_drew1) | exact HB.out)) hb); clear HO134; clear HO139; clear HO142; clear HB; have HO134 := n0_; have HO139 := n1_; have HO142 := n2_; have HO147 := n3_; have HB := n4_; clear n0_ n1_ n2_ n3_ n4_; (try clear hb); (try clear hb2); (try clear hk); (try clear hi); (try clear ho0)) | ((with_reducible refine gate_dst (N := 26) rfl ?_); (try (refine gate_guard (by rfl) ?_; dsimp only)); refine Kd.R_lit (Kd.int .i64) _ 3 ?hg (N := 26) ?hd (xs := ([3, 2, 1] : List Int)) (inner := [.int .i64 3, .int .i64 2, .int .i64 1]) (ok := fun _ => True) (okp := fun _ => True) ?hr ?hp (fun _ hk => hk) trivial (Below.refl _ _) (Nat.le_refl _) (by simp) ?_; (case hd => rfl); (case hg => rfl); (case hr => first | (go_simp; done) | (go_simp; rfl)); (case hp => exact (Reps.one (show Kd.M (Kd.int .i64) _ _ _ 3 [.int .i64 3] from rfl) (Reps.one (show Kd.M (Kd.int .i64) _ _ _ 2 [.int .i64 2] from rfl) (Reps.one (show Kd.M (Kd.int .i64) _ _ _ 1 [.int .i64 1] from rfl) (Reps.none _ _))))); intro v149 w15 ho16 hb hg_ hnew_; clear hg_ hnew_; (first | rw [← Ny148.out] at ho16 | (simp only [Int.reduceToNat] at ho16; rw [← Ny148.out] at ho16)); have n0_ := Aside0.mk (Kd.R_elder' (by (with_reducible repeat (first | apply Kd.R_alloc | apply Kd.R_drewN | apply Kd.R_drew)); exact HO134.out) (Kd.R_base ho16) hb); have n1_ := Aside0.mk (Kd.R_elder' (by (with_reducible repeat (first | apply Kd.R_alloc | apply Kd.R_drewN | apply Kd.R_drew)); exact HO139.out) (Kd.R_base ho16) hb); have n2_ := Aside0.mk (Kd.R_elder' (by (with_reducible repeat (first | apply Kd.R_alloc | apply Kd.R_drewN | apply Kd.R_drew)); exact HO142.out) (Kd.R_base ho16) hb); have n3_ := Aside0.mk (Kd.R_elder' (by (with_reducible repeat (first | apply Kd.R_alloc | apply Kd.R_drewN | apply Kd.R_drew)); exact HO147.out) (Kd.R_base ho16) hb); have n4_ := Aside0.mk (Kd.R_lower (Kd.R_new' (Kd.R_new' (Kd.R_new' (Kd.R_new' ho16 (Kd.R_lt (by (with_reducible repeat (first | apply Kd.R_alloc | apply Kd.R_drewN | apply Kd.R_drew)); exact HO134.out))) (Kd.R_lt (by (with_reducible repeat (first | apply Kd.R_alloc | apply Kd.R_drewN | apply Kd.R_drew)); exact HO139.out))) (Kd.R_lt (by (with_reducible repeat (first | apply Kd.R_alloc | apply Kd.R_drewN | apply Kd.R_drew)); exact HO142.out))) (Kd.R_lt (by (with_reducible repeat (first | apply Kd.R_alloc | apply Kd.R_drewN | apply Kd.R_drew)); exact HO147.out))) (below_size (by repeat (first | (with_reducible first | exact HB.out | apply below_alloc | apply pw_below_drewN | apply below_drew1) | exact HB.out)))); have n5_ := Aside0.mk (below_step (by repeat (first | (with_reducible first | exact HB.out | apply below_alloc | apply pw_below_drewN | apply below_drew1) | exact HB.out)) hb); clear HO134; clear HO139; clear HO142; clear HO147; clear HB; have HO134 := n0_; have HO139 := n1_; have HO142 := n2_; have HO147 := n3_; have HO150 := n4_; have HB := n5_; clear n0_ n1_ n2_ n3_ n4_ n5_; clear hb ho16; obtain ⟨Ao17, co17, eo17⟩ := Kd.R_slice HO150.out; subst eo17) | ((with_reducible refine gate_callee (f := 29) rfl ?_); refine goesL_ (some 27) rfl rfl Try.func29 (by kernel_rfl) rfl #[.slice Ao17 y148.length co17] rfl (by (try simp only [List.map_toArray, List.map_cons, List.map_nil]); first | done | rfl | (simp only [List.length_drop, List.length_take]; rfl)) ?_; (with_reducible refine (shunt_Least.calls k _ _ y148 t151 t152 _ ?side1 ?side2 A3.out).mono ?_); (case side1 => repeat (first | exact (Kd.R_reads' HO150.out).2.2 | (with_reducible refine Kd.C_alloc ?_ _) | (with_reducible refine Kd.C_drewN ?_ _) | (with_reducible refine Kd.C_drew ?_))); (case side2 => exact (Kd.R_reads' HO150.out).2.1); rintro e w18 ⟨rfl, hb⟩; refine ⟨_, rfl, ?_⟩; have n0_ := Aside0.mk (Kd.R_below (by (with_reducible repeat (first | apply Kd.R_alloc | apply Kd.R_drewN | apply Kd.R_drew)); exact HO134.out) hb); have n1_ := Aside0.mk (Kd.R_below (by (with_reducible repeat (first | apply Kd.R_alloc | apply Kd.R_drewN | apply Kd.R_drew)); exact HO139.out) hb); have n2_ := Aside0.mk (Kd.R_below (by (with_reducible repeat (first | apply Kd.R_alloc | apply Kd.R_drewN | apply Kd.R_drew)); exact HO142.out) hb); have n3_ := Aside0.mk (Kd.R_below (by (with_reducible repeat (first | apply Kd.R_alloc | apply Kd.R_drewN | apply Kd.R_drew)); exact HO147.out) hb); have n4_ := Aside0.mk (Kd.R_below (by (with_reducible repeat (first | apply Kd.R_alloc | apply Kd.R_drewN | apply Kd.R_drew)); exact HO150.out) hb); have n5_ := Aside0.mk (below_step (by repeat (first | (with_reducible first | exact HB.out | apply below_alloc | apply pw_below_drewN | apply below_drew1) | exact HB.out)) hb); clear HO134; clear HO139; clear HO142; clear HO147; clear HO150; clear HB; have HO134 := n0_; have HO139 := n1_; have HO142 := n2_; have HO147 := n3_; have HO150 := n4_; have HB := n5_; clear n0_ n1_ n2_ n3_ n4_ n5_; (try clear hb); (try clear hb2); (try clear hk); (try clear hi)) | ((with_reducible refine gate_dst (N := 31) rfl ?_); (try (refine gate_guard (by rfl) ?_; dsimp only)); refine Kd.R_lit (Kd.int .i64) _ 3 ?hg (N := 31) ?hd (xs := ([3, 2, 1] : List Int)) (inner := [.int .i64 3, .int .i64 2, .int .i64 1]) (ok := fun _ => True) (okp := fun _ => True) ?hr ?hp (fun _ hk => hk) trivial (Below.refl _ _) (Nat.le_refl _) (by simp) ?_; (case hd => rfl); (case hg => rfl); (case hr => first | (go_simp; done) | (go_simp; rfl)); (case hp => exact (Reps.one (show Kd.M (Kd.int .i64) _ _ _ 3 [.int .i64 3] from rfl) (Reps.one (show Kd.M (Kd.int .i64) _ _ _ 2 [.int .i64 2] from rfl) (Reps.one (show Kd.M (Kd.int .i64) _ _ _ 1 [.int .i64 1] from rfl) (Reps.none _ _))))); intro v154 w19 ho20 hb hg_ hnew_; clear hg_ hnew_; (first | rw [← Ny153.out] at ho20 | (simp only [Int.reduceToNat] at ho20; rw [← Ny153.out] at ho20)); have n0_ := Aside0.mk (Kd.R_elder' (by (with_reducible repeat (first | apply Kd.R_alloc | apply Kd.R_drewN | apply Kd.R_drew)); exact HO134.out) (Kd.R_base ho20) hb); have n1_ := Aside0.mk (Kd.R_elder' (by (with_reducible repeat (first | apply Kd.R_alloc | apply Kd.R_drewN | apply Kd.R_drew)); exact HO139.out) (Kd.R_base ho20) hb); have n2_ := Aside0.mk (Kd.R_elder' (by (with_reducible repeat (first | apply Kd.R_alloc | apply Kd.R_drewN | apply Kd.R_drew)); exact HO142.out) (Kd.R_base ho20) hb); have n3_ := Aside0.mk (Kd.R_elder' (by (with_reducible repeat (first | apply Kd.R_alloc | apply Kd.R_drewN | apply Kd.R_drew)); exact HO147.out) (Kd.R_base ho20) hb); have n4_ := Aside0.mk (Kd.R_elder' (by (with_reducible repeat (first | apply Kd.R_alloc | apply Kd.R_drewN | apply Kd.R_drew)); exact HO150.out) (Kd.R_base ho20) hb); have n5_ := Aside0.mk (Kd.R_lower (Kd.R_new' (Kd.R_new' (Kd.R_new' (Kd.R_new' (Kd.R_new' ho20 (Kd.R_lt (by (with_reducible repeat (first | apply Kd.R_alloc | apply Kd.R_drewN | apply Kd.R_drew)); exact HO134.out))) (Kd.R_lt (by (with_reducible repeat (first | apply Kd.R_alloc | apply Kd.R_drewN | apply Kd.R_drew)); exact HO139.out))) (Kd.R_lt (by (with_reducible repeat (first | apply Kd.R_alloc | apply Kd.R_drewN | apply Kd.R_drew)); exact HO142.out))) (Kd.R_lt (by (with_reducible repeat (first | apply Kd.R_alloc | apply Kd.R_drewN | apply Kd.R_drew)); exact HO147.out))) (Kd.R_lt (by (with_reducible repeat (first | apply Kd.R_alloc | apply Kd.R_drewN | apply Kd.R_drew)); exact HO150.out))) (below_size (by repeat (first | (with_reducible first | exact HB.out | apply below_alloc | apply pw_below_drewN | apply below_drew1) | exact HB.out)))); have n6_ := Aside0.mk (below_step (by repeat (first | (with_reducible first | exact HB.out | apply below_alloc | apply pw_below_drewN | apply below_drew1) | exact HB.out)) hb); clear HO134; clear HO139; clear HO142; clear HO147; clear HO150; clear HB; have HO134 := n0_; have HO139 := n1_; have HO142 := n2_; have HO147 := n3_; have HO150 := n4_; have HO155 := n5_; have HB := n6_; clear n0_ n1_ n2_ n3_ n4_ n5_ n6_; clear hb ho20; obtain ⟨Ao21, co21, eo21⟩ := Kd.R_slice HO155.out; subst eo21) | ((with_reducible refine gate_callee (f := 19) rfl ?_); refine goesL_ (some 32) rfl rfl Try.func19 (by kernel_rfl) rfl #[.slice Ao21 y153.length co21] rfl (by (try simp only [List.map_toArray, List.map_cons, List.map_nil]); first | done | rfl | (simp only [List.length_drop, List.length_take]; rfl)) ?_; (with_reducible refine (shunt_Rank.calls k _ _ y153 t156 t157 _ ?side1 ?side2 A4.out).mono ?_); (case side1 => repeat (first | exact (Kd.R_reads' HO155.out).2.2 | (with_reducible refine Kd.C_alloc ?_ _) | (with_reducible refine Kd.C_drewN ?_ _) | (with_reducible refine Kd.C_drew ?_))); (case side2 => exact (Kd.R_reads' HO155.out).2.1); rintro e w22 ⟨rfl, hb⟩; refine ⟨_, rfl, ?_⟩; have n0_ := Aside0.mk (Kd.R_below (by (with_reducible repeat (first | apply Kd.R_alloc | apply Kd.R_drewN | apply Kd.R_drew)); exact HO134.out) hb); have n1_ := Aside0.mk (Kd.R_below (by (with_reducible repeat (first | apply Kd.R_alloc | apply Kd.R_drewN | apply Kd.R_drew)); exact HO139.out) hb); have n2_ := Aside0.mk (Kd.R_below (by (with_reducible repeat (first | apply Kd.R_alloc | apply Kd.R_drewN | apply Kd.R_drew)); exact HO142.out) hb); have n3_ := Aside0.mk (Kd.R_below (by (with_reducible repeat (first | apply Kd.R_alloc | apply Kd.R_drewN | apply Kd.R_drew)); exact HO147.out) hb); have n4_ := Aside0.mk (Kd.R_below (by (with_reducible repeat (first | apply Kd.R_alloc | apply Kd.R_drewN | apply Kd.R_drew)); exact HO150.out) hb); have n5_ := Aside0.mk (Kd.R_below (by (with_reducible repeat (first | apply Kd.R_alloc | apply Kd.R_drewN | apply Kd.R_drew)); exact HO155.out) hb); have n6_ := Aside0.mk (below_step (by repeat (first | (with_reducible first | exact HB.out | apply below_alloc | apply pw_below_drewN | apply below_drew1) | exact HB.out)) hb); clear HO134; clear HO139; clear HO142; clear HO147; clear HO150; clear HO155; clear HB; have HO134 := n0_; have HO139 := n1_; have HO142 := n2_; have HO147 := n3_; have HO150 := n4_; have HO155 := n5_; have HB := n6_; clear n0_ n1_ n2_ n3_ n4_ n5_ n6_; (try clear hb); (try clear hb2); (try clear hk); (try clear hi)) | ((with_reducible refine gate_dst (N := 36) rfl ?_); (try (refine gate_guard (by rfl) ?_; dsimp only)); refine Kd.R_lit (Kd.int .i64) _ 3 ?hg (N := 36) ?hd (xs := ([2, 3, 1] : List Int)) (inner := [.int .i64 2, .int .i64 3, .int .i64 1]) (ok := fun _ => True) (okp := fun _ => True) ?hr ?hp (fun _ hk => hk) trivial (Below.refl _ _) (Nat.le_refl _) (by simp) ?_; (case hd => rfl); (case hg => rfl); (case hr => first | (go_simp; done) | (go_simp; rfl)); (case hp => exact (Reps.one (show Kd.M (Kd.int .i64) _ _ _ 2 [.int .i64 2] from rfl) (Reps.one (show Kd.M (Kd.int .i64) _ _ _ 3 [.int .i64 3] from rfl) (Reps.one (show Kd.M (Kd.int .i64) _ _ _ 1 [.int .i64 1] from rfl) (Reps.none _ _))))); intro v159 w23 ho24 hb hg_ hnew_; clear hg_ hnew_; (first | rw [← Ny158.out] at ho24 | (simp only [Int.reduceToNat] at ho24; rw [← Ny158.out] at ho24)); have n0_ := Aside0.mk (Kd.R_elder' (by (with_reducible repeat (first | apply Kd.R_alloc | apply Kd.R_drewN | apply Kd.R_drew)); exact HO134.out) (Kd.R_base ho24) hb); have n1_ := Aside0.mk (Kd.R_elder' (by (with_reducible repeat (first | apply Kd.R_alloc | apply Kd.R_drewN | apply Kd.R_drew)); exact HO139.out) (Kd.R_base ho24) hb); have n2_ := Aside0.mk (Kd.R_elder' (by (with_reducible repeat (first | apply Kd.R_alloc | apply Kd.R_drewN | apply Kd.R_drew)); exact HO142.out) (Kd.R_base ho24) hb); have n3_ := Aside0.mk (Kd.R_elder' (by (with_reducible repeat (first | apply Kd.R_alloc | apply Kd.R_drewN | apply Kd.R_drew)); exact HO147.out) (Kd.R_base ho24) hb); have n4_ := Aside0.mk (Kd.R_elder' (by (with_reducible repeat (first | apply Kd.R_alloc | apply Kd.R_drewN | apply Kd.R_drew)); exact HO150.out) (Kd.R_base ho24) hb); have n5_ := Aside0.mk (Kd.R_elder' (by (with_reducible repeat (first | apply Kd.R_alloc | apply Kd.R_drewN | apply Kd.R_drew)); exact HO155.out) (Kd.R_base ho24) hb); have n6_ := Aside0.mk (Kd.R_lower (Kd.R_new' (Kd.R_new' (Kd.R_new' (Kd.R_new' (Kd.R_new' (Kd.R_new' ho24 (Kd.R_lt (by (with_reducible repeat (first | apply Kd.R_alloc | apply Kd.R_drewN | apply Kd.R_drew)); exact HO134.out))) (Kd.R_lt (by (with_reducible repeat (first | apply Kd.R_alloc | apply Kd.R_drewN | apply Kd.R_drew)); exact HO139.out))) (Kd.R_lt (by (with_reducible repeat (first | apply Kd.R_alloc | apply Kd.R_drewN | apply Kd.R_drew)); exact HO142.out))) (Kd.R_lt (by (with_reducible repeat (first | apply Kd.R_alloc | apply Kd.R_drewN | apply Kd.R_drew)); exact HO147.out))) (Kd.R_lt (by (with_reducible repeat (first | apply Kd.R_alloc | apply Kd.R_drewN | apply Kd.R_drew)); exact HO150.out))) (Kd.R_lt (by (with_reducible repeat (first | apply Kd.R_alloc | apply Kd.R_drewN | apply Kd.R_drew)); exact HO155.out))) (below_size (by repeat (first | (with_reducible first | exact HB.out | apply below_alloc | apply pw_below_drewN | apply below_drew1) | exact HB.out)))); have n7_ := Aside0.mk (below_step (by repeat (first | (with_reducible first | exact HB.out | apply below_alloc | apply pw_below_drewN | apply below_drew1) | exact HB.out)) hb); clear HO134; clear HO139; clear HO142; clear HO147; clear HO150; clear HO155; clear HB; have HO134 := n0_; have HO139 := n1_; have HO142 := n2_; have HO147 := n3_; have HO150 := n4_; have HO155 := n5_; have HO160 := n6_; have HB := n7_; clear n0_ n1_ n2_ n3_ n4_ n5_ n6_ n7_; clear hb ho24; obtain ⟨Ao25, co25, eo25⟩ := Kd.R_slice HO160.out; subst eo25) | ((with_reducible refine gate_callee (f := 20) rfl ?_); refine goesL_ (some 37) rfl rfl Try.func20 (by kernel_rfl) rfl #[.slice Ao25 y158.length co25] rfl (by (try simp only [List.map_toArray, List.map_cons, List.map_nil]); first | done | rfl | (simp only [List.length_drop, List.length_take]; rfl)) ?_; (with_reducible refine (shunt_Pass.calls _ _ y158 t161 t162 _ ?side1 ?side2 A5.out).mono ?_); (case side1 => repeat (first | exact (Kd.R_reads' HO160.out).2.2 | (with_reducible refine Kd.C_alloc ?_ _) | (with_reducible refine Kd.C_drewN ?_ _) | (with_reducible refine Kd.C_drew ?_))); (case side2 => exact (Kd.R_reads' HO160.out).2.1); rintro e w26 ⟨v163, rfl, ho0, hb⟩; refine ⟨_, rfl, ?_⟩; have n0_ := Aside0.mk (Kd.R_elder' (by (with_reducible repeat (first | apply Kd.R_alloc | apply Kd.R_drewN | apply Kd.R_drew)); exact HO134.out) (Kd.R_base ho0) hb); have n1_ := Aside0.mk (Kd.R_elder' (by (with_reducible repeat (first | apply Kd.R_alloc | apply Kd.R_drewN | apply Kd.R_drew)); exact HO139.out) (Kd.R_base ho0) hb); have n2_ := Aside0.mk (Kd.R_elder' (by (with_reducible repeat (first | apply Kd.R_alloc | apply Kd.R_drewN | apply Kd.R_drew)); exact HO142.out) (Kd.R_base ho0) hb); have n3_ := Aside0.mk (Kd.R_elder' (by (with_reducible repeat (first | apply Kd.R_alloc | apply Kd.R_drewN | apply Kd.R_drew)); exact HO147.out) (Kd.R_base ho0) hb); have n4_ := Aside0.mk (Kd.R_elder' (by (with_reducible repeat (first | apply Kd.R_alloc | apply Kd.R_drewN | apply Kd.R_drew)); exact HO150.out) (Kd.R_base ho0) hb); have n5_ := Aside0.mk (Kd.R_elder' (by (with_reducible repeat (first | apply Kd.R_alloc | apply Kd.R_drewN | apply Kd.R_drew)); exact HO155.out) (Kd.R_base ho0) hb); have n6_ := Aside0.mk (Kd.R_elder' (by (with_reducible repeat (first | apply Kd.R_alloc | apply Kd.R_drewN | apply Kd.R_drew)); exact HO160.out) (Kd.R_base ho0) hb); have n7_ := Aside0.mk (Kd.R_lower (Kd.R_new' (Kd.R_new' (Kd.R_new' (Kd.R_new' (Kd.R_new' (Kd.R_new' (Kd.R_new' ho0 (Kd.R_lt (by (with_reducible repeat (first | apply Kd.R_alloc | apply Kd.R_drewN | apply Kd.R_drew)); exact HO134.out))) (Kd.R_lt (by (with_reducible repeat (first | apply Kd.R_alloc | apply Kd.R_drewN | apply Kd.R_drew)); exact HO139.out))) (Kd.R_lt (by (with_reducible repeat (first | apply Kd.R_alloc | apply Kd.R_drewN | apply Kd.R_drew)); exact HO142.out))) (Kd.R_lt (by (with_reducible repeat (first | apply Kd.R_alloc | apply Kd.R_drewN | apply Kd.R_drew)); exact HO147.out))) (Kd.R_lt (by (with_reducible repeat (first | apply Kd.R_alloc | apply Kd.R_drewN | apply Kd.R_drew)); exact HO150.out))) (Kd.R_lt (by (with_reducible repeat (first | apply Kd.R_alloc | apply Kd.R_drewN | apply Kd.R_drew)); exact HO155.out))) (Kd.R_lt (by (with_reducible repeat (first | apply Kd.R_alloc | apply Kd.R_drewN | apply Kd.R_drew)); exact HO160.out))) (below_size (by repeat (first | (with_reducible first | exact HB.out | apply below_alloc | apply pw_below_drewN | apply below_drew1) | exact HB.out)))); have n8_ := Aside0.mk (below_step (by repeat (first | (with_reducible first | exact HB.out | apply below_alloc | apply pw_below_drewN | apply below_drew1) | exact HB.out)) hb); clear HO134; clear HO139; clear HO142; clear HO147; clear HO150; clear HO155; clear HO160; clear HB; have HO134 := n0_; have HO139 := n1_; have HO142 := n2_; have HO147 := n3_; have HO150 := n4_; have HO155 := n5_; have HO160 := n6_; have HO164 := n7_; have HB := n8_; clear n0_ n1_ n2_ n3_ n4_ n5_ n6_ n7_ n8_; (try clear hb); (try clear hb2); (try clear hk); (try clear hi); (try clear ho0)))
 (try simp only [Act.put, List.setIfInBounds_toArray, List.set_cons_zero, List.set_cons_succ])
 go_cut [86] (fun v86 wc => ∃ (kq : Nat) (x86_5 : Bool), v86 = .bool x86_5 ∧ Aside0 (tickinglaw02_awake.j0 kq x86_5 = some r) ∧ Aside0 (kq ≤ k) ∧ Aside0 (Below w.heap.size w wc))
 case first =>
  have H := HC6.out
  clear HC6
  by_cases c27 : t137 = 0
  ·rw [if_pos c27] at H
   have c27b0 : (t137 == 0) = true := beq_iff_eq.mpr c27
   have c27b1 : (t137 != 0) = false := bne_eq_false_iff_eq.mpr c27
   clear c27
   (first | rw [c27b0] | (simp only [i64_w, i32_w]; rw [c27b0]) | skip)
   by_cases c28 : t135.toList = ([105, 105, 111, 111, 105, 111] : List UInt8)
   ·rw [if_pos c28] at H
    have c28b0 : (t135.toList == ([105, 105, 111, 111, 105, 111] : List UInt8)) = true := beq_iff_eq.mpr c28
    have c28b1 : (t135.toList != ([105, 105, 111, 111, 105, 111] : List UInt8)) = false := bne_eq_false_iff_eq.mpr c28
    clear c28
    by_cases c29 : (t136.length : Int) = 0
    ·rw [if_pos c29] at H
     have c29b0 : ((t136.length : Int) == 0) = true := beq_iff_eq.mpr c29
     have c29b1 : ((t136.length : Int) != 0) = false := bne_eq_false_iff_eq.mpr c29
     clear c29
     by_cases c30 : t145 = 0
     ·rw [if_pos c30] at H
      have c30b0 : (t145 == 0) = true := beq_iff_eq.mpr c30
      have c30b1 : (t145 != 0) = false := bne_eq_false_iff_eq.mpr c30
      clear c30
      obtain ⟨y165, hy165⟩ : ∃ y_ : List Int, y_ = (([0, 1, 2] : List Int)) := ⟨_, rfl⟩
      replace H : ((tickinglaw02_ints.f k t144 y165).bind fun t168 => (if t168 = true then (if t152 = 0 then (if t151 = 3 then (if t157 = 0 then (if t156 = 4 then (if t162 = 0 then ((tickinglaw02_ints.f k t161 (([2, 1, 3] : List Int))).bind fun t172 => (tickinglaw02_awake.j0 k (!t172))) else (tickinglaw02_awake.j0 k true)) else (tickinglaw02_awake.j0 k true)) else (tickinglaw02_awake.j0 k true)) else (tickinglaw02_awake.j0 k true)) else (tickinglaw02_awake.j0 k true)) else (tickinglaw02_awake.j0 k true))) = some r := by first | (rw [hy165]; with_reducible exact H) | (have H2_ := (Option.bind_some _ _).symm.trans H; rw [hy165]; with_reducible exact H2_) | (have H2_ := (Option.bind_some _ _).symm.trans H; with_reducible exact H2_) | with_reducible exact H | (rw [hy165]; exact H) | exact H
      have Ny165 := Aside0.mk hy165
      clear hy165
      replace H := Option.bind_eq_some_iff.mp H
      obtain ⟨t168, A310, H⟩ := H
      replace H : (if t168 = true then (if t152 = 0 then (if t151 = 3 then (if t157 = 0 then (if t156 = 4 then (if t162 = 0 then ((tickinglaw02_ints.f k t161 (([2, 1, 3] : List Int))).bind fun t172 => (tickinglaw02_awake.j0 k (!t172))) else (tickinglaw02_awake.j0 k true)) else (tickinglaw02_awake.j0 k true)) else (tickinglaw02_awake.j0 k true)) else (tickinglaw02_awake.j0 k true)) else (tickinglaw02_awake.j0 k true)) else (tickinglaw02_awake.j0 k true)) = some r := H
      have A31 := Aside0.mk A310
      clear A310
      by_cases c32 : t168 = true
      ·subst c32
       have H1 : (if t152 = 0 then (if t151 = 3 then (if t157 = 0 then (if t156 = 4 then (if t162 = 0 then ((tickinglaw02_ints.f k t161 (([2, 1, 3] : List Int))).bind fun t172 => (tickinglaw02_awake.j0 k (!t172))) else (tickinglaw02_awake.j0 k true)) else (tickinglaw02_awake.j0 k true)) else (tickinglaw02_awake.j0 k true)) else (tickinglaw02_awake.j0 k true)) else (tickinglaw02_awake.j0 k true)) = some r := by rw [if_pos rfl] at H; exact H
       clear H
       have H := H1
       clear H1
       by_cases c33 : t152 = 0
       ·rw [if_pos c33] at H
        have c33b0 : (t152 == 0) = true := beq_iff_eq.mpr c33
        have c33b1 : (t152 != 0) = false := bne_eq_false_iff_eq.mpr c33
        clear c33
        by_cases c34 : t151 = 3
        ·rw [if_pos c34] at H
         have c34b0 : (t151 == 3) = true := beq_iff_eq.mpr c34
         have c34b1 : (t151 != 3) = false := bne_eq_false_iff_eq.mpr c34
         clear c34
         by_cases c35 : t157 = 0
         ·rw [if_pos c35] at H
          have c35b0 : (t157 == 0) = true := beq_iff_eq.mpr c35
          have c35b1 : (t157 != 0) = false := bne_eq_false_iff_eq.mpr c35
          clear c35
          by_cases c36 : t156 = 4
          ·rw [if_pos c36] at H
           have c36b0 : (t156 == 4) = true := beq_iff_eq.mpr c36
           have c36b1 : (t156 != 4) = false := bne_eq_false_iff_eq.mpr c36
           clear c36
           by_cases c37 : t162 = 0
           ·rw [if_pos c37] at H
            have c37b0 : (t162 == 0) = true := beq_iff_eq.mpr c37
            have c37b1 : (t162 != 0) = false := bne_eq_false_iff_eq.mpr c37
            clear c37
            obtain ⟨y169, hy169⟩ : ∃ y_ : List Int, y_ = (([2, 1, 3] : List Int)) := ⟨_, rfl⟩
            replace H : ((tickinglaw02_ints.f k t161 y169).bind fun t172 => (tickinglaw02_awake.j0 k (!t172))) = some r := by first | (rw [hy169]; with_reducible exact H) | (have H2_ := (Option.bind_some _ _).symm.trans H; rw [hy169]; with_reducible exact H2_) | (have H2_ := (Option.bind_some _ _).symm.trans H; with_reducible exact H2_) | with_reducible exact H | (rw [hy169]; exact H) | exact H
            have Ny169 := Aside0.mk hy169
            clear hy169
            replace H := Option.bind_eq_some_iff.mp H
            obtain ⟨t172, A380, H⟩ := H
            replace H : (tickinglaw02_awake.j0 k (!t172)) = some r := H
            have A38 := Aside0.mk A380
            clear A380
            have H' := Aside0.mk H
            clear H
            obtain ⟨Ao39, co39, eo39⟩ := Kd.R_slice HO139.out
            subst eo39
            go_wp2_with (first | ((with_reducible refine gate_dst (N := 57) rfl ?_); (try (refine gate_guard (by rfl) ?_; dsimp only)); refine Kd.R_lit (Kd.int .i64) _ 3 ?hg (N := 57) ?hd (xs := ([0, 1, 2] : List Int)) (inner := [.int .i64 0, .int .i64 1, .int .i64 2]) (ok := fun _ => True) (okp := fun _ => True) ?hr ?hp (fun _ hk => hk) trivial (Below.refl _ _) (Nat.le_refl _) (by simp) ?_; (case hd => rfl); (case hg => rfl); (case hr => first | (go_simp; done) | (go_simp; rfl)); (case hp => exact (Reps.one (show Kd.M (Kd.int .i64) _ _ _ 0 [.int .i64 0] from rfl) (Reps.one (show Kd.M (Kd.int .i64) _ _ _ 1 [.int .i64 1] from rfl) (Reps.one (show Kd.M (Kd.int .i64) _ _ _ 2 [.int .i64 2] from rfl) (Reps.none _ _))))); intro v166 w40 ho41 hb hg_ hnew_; clear hg_ hnew_; (first | rw [← Ny165.out] at ho41 | (simp only [Int.reduceToNat] at ho41; rw [← Ny165.out] at ho41)); have n0_ := Aside0.mk (Kd.R_elder' (by (with_reducible repeat (first | apply Kd.R_alloc | apply Kd.R_drewN | apply Kd.R_drew)); exact HO134.out) (Kd.R_base ho41) hb); have n1_ := Aside0.mk (Kd.R_elder' (by (with_reducible repeat (first | apply Kd.R_alloc | apply Kd.R_drewN | apply Kd.R_drew)); exact HO139.out) (Kd.R_base ho41) hb); have n2_ := Aside0.mk (Kd.R_elder' (by (with_reducible repeat (first | apply Kd.R_alloc | apply Kd.R_drewN | apply Kd.R_drew)); exact HO142.out) (Kd.R_base ho41) hb); have n3_ := Aside0.mk (Kd.R_elder' (by (with_reducible repeat (first | apply Kd.R_alloc | apply Kd.R_drewN | apply Kd.R_drew)); exact HO147.out) (Kd.R_base ho41) hb); have n4_ := Aside0.mk (Kd.R_elder' (by (with_reducible repeat (first | apply Kd.R_alloc | apply Kd.R_drewN | apply Kd.R_drew)); exact HO150.out) (Kd.R_base ho41) hb); have n5_ := Aside0.mk (Kd.R_elder' (by (with_reducible repeat (first | apply Kd.R_alloc | apply Kd.R_drewN | apply Kd.R_drew)); exact HO155.out) (Kd.R_base ho41) hb); have n6_ := Aside0.mk (Kd.R_elder' (by (with_reducible repeat (first | apply Kd.R_alloc | apply Kd.R_drewN | apply Kd.R_drew)); exact HO160.out) (Kd.R_base ho41) hb); have n7_ := Aside0.mk (Kd.R_elder' (by (with_reducible repeat (first | apply Kd.R_alloc | apply Kd.R_drewN | apply Kd.R_drew)); exact HO164.out) (Kd.R_base ho41) hb); have n8_ := Aside0.mk (Kd.R_lower (Kd.R_new' (Kd.R_new' (Kd.R_new' (Kd.R_new' (Kd.R_new' (Kd.R_new' (Kd.R_new' (Kd.R_new' ho41 (Kd.R_lt (by (with_reducible repeat (first | apply Kd.R_alloc | apply Kd.R_drewN | apply Kd.R_drew)); exact HO134.out))) (Kd.R_lt (by (with_reducible repeat (first | apply Kd.R_alloc | apply Kd.R_drewN | apply Kd.R_drew)); exact HO139.out))) (Kd.R_lt (by (with_reducible repeat (first | apply Kd.R_alloc | apply Kd.R_drewN | apply Kd.R_drew)); exact HO142.out))) (Kd.R_lt (by (with_reducible repeat (first | apply Kd.R_alloc | apply Kd.R_drewN | apply Kd.R_drew)); exact HO147.out))) (Kd.R_lt (by (with_reducible repeat (first | apply Kd.R_alloc | apply Kd.R_drewN | apply Kd.R_drew)); exact HO150.out))) (Kd.R_lt (by (with_reducible repeat (first | apply Kd.R_alloc | apply Kd.R_drewN | apply Kd.R_drew)); exact HO155.out))) (Kd.R_lt (by (with_reducible repeat (first | apply Kd.R_alloc | apply Kd.R_drewN | apply Kd.R_drew)); exact HO160.out))) (Kd.R_lt (by (with_reducible repeat (first | apply Kd.R_alloc | apply Kd.R_drewN | apply Kd.R_drew)); exact HO164.out))) (below_size (by repeat (first | (with_reducible first | exact HB.out | apply below_alloc | apply pw_below_drewN | apply below_drew1) | exact HB.out)))); have n9_ := Aside0.mk (below_step (by repeat (first | (with_reducible first | exact HB.out | apply below_alloc | apply pw_below_drewN | apply below_drew1) | exact HB.out)) hb); clear HO134; clear HO139; clear HO142; clear HO147; clear HO150; clear HO155; clear HO160; clear HO164; clear HB; have HO134 := n0_; have HO139 := n1_; have HO142 := n2_; have HO147 := n3_; have HO150 := n4_; have HO155 := n5_; have HO160 := n6_; have HO164 := n7_; have HO167 := n8_; have HB := n9_; clear n0_ n1_ n2_ n3_ n4_ n5_ n6_ n7_ n8_ n9_; clear hb ho41; obtain ⟨Ao42, co42, eo42⟩ := Kd.R_slice HO147.out; subst eo42; obtain ⟨Ao43, co43, eo43⟩ := Kd.R_slice HO167.out; subst eo43) | (go_at_call 23; (with_reducible refine (tickinglaw02_ints.calls k _ _ t144 _ _ y165 true _ ?side1 ?side2 ?side3 ?side4 A31.out).mono ?_); (case side1 => repeat (first | exact (Kd.R_reads' HO147.out).2.2 | (with_reducible refine Kd.C_alloc ?_ _) | (with_reducible refine Kd.C_drewN ?_ _) | (with_reducible refine Kd.C_drew ?_))); (case side2 => exact (Kd.R_reads' HO147.out).2.1); (case side3 => repeat (first | exact (Kd.R_reads' HO167.out).2.2 | (with_reducible refine Kd.C_alloc ?_ _) | (with_reducible refine Kd.C_drewN ?_ _) | (with_reducible refine Kd.C_drew ?_))); (case side4 => exact (Kd.R_reads' HO167.out).2.1); rintro e w' ⟨rfl, ⟨nd, rfl⟩⟩) | ((with_reducible refine gate_dst (N := 83) rfl ?_); (try (refine gate_guard (by rfl) ?_; dsimp only)); refine Kd.R_lit (Kd.int .i64) _ 3 ?hg (N := 83) ?hd (xs := ([2, 1, 3] : List Int)) (inner := [.int .i64 2, .int .i64 1, .int .i64 3]) (ok := fun _ => True) (okp := fun _ => True) ?hr ?hp (fun _ hk => hk) trivial (Below.refl _ _) (Nat.le_refl _) (by simp) ?_; (case hd => rfl); (case hg => rfl); (case hr => first | (go_simp; done) | (go_simp; rfl)); (case hp => exact (Reps.one (show Kd.M (Kd.int .i64) _ _ _ 2 [.int .i64 2] from rfl) (Reps.one (show Kd.M (Kd.int .i64) _ _ _ 1 [.int .i64 1] from rfl) (Reps.one (show Kd.M (Kd.int .i64) _ _ _ 3 [.int .i64 3] from rfl) (Reps.none _ _))))); intro v170 w44 ho45 hb hg_ hnew_; clear hg_ hnew_; (first | rw [← Ny169.out] at ho45 | (simp only [Int.reduceToNat] at ho45; rw [← Ny169.out] at ho45)); have n0_ := Aside0.mk (Kd.R_elder' (by (with_reducible repeat (first | apply Kd.R_alloc | apply Kd.R_drewN | apply Kd.R_drew)); exact HO134.out) (Kd.R_base ho45) hb); have n1_ := Aside0.mk (Kd.R_elder' (by (with_reducible repeat (first | apply Kd.R_alloc | apply Kd.R_drewN | apply Kd.R_drew)); exact HO139.out) (Kd.R_base ho45) hb); have n2_ := Aside0.mk (Kd.R_elder' (by (with_reducible repeat (first | apply Kd.R_alloc | apply Kd.R_drewN | apply Kd.R_drew)); exact HO142.out) (Kd.R_base ho45) hb); have n3_ := Aside0.mk (Kd.R_elder' (by (with_reducible repeat (first | apply Kd.R_alloc | apply Kd.R_drewN | apply Kd.R_drew)); exact HO147.out) (Kd.R_base ho45) hb); have n4_ := Aside0.mk (Kd.R_elder' (by (with_reducible repeat (first | apply Kd.R_alloc | apply Kd.R_drewN | apply Kd.R_drew)); exact HO150.out) (Kd.R_base ho45) hb); have n5_ := Aside0.mk (Kd.R_elder' (by (with_reducible repeat (first | apply Kd.R_alloc | apply Kd.R_drewN | apply Kd.R_drew)); exact HO155.out) (Kd.R_base ho45) hb); have n6_ := Aside0.mk (Kd.R_elder' (by (with_reducible repeat (first | apply Kd.R_alloc | apply Kd.R_drewN | apply Kd.R_drew)); exact HO160.out) (Kd.R_base ho45) hb); have n7_ := Aside0.mk (Kd.R_elder' (by (with_reducible repeat (first | apply Kd.R_alloc | apply Kd.R_drewN | apply Kd.R_drew)); exact HO164.out) (Kd.R_base ho45) hb); have n8_ := Aside0.mk (Kd.R_elder' (by (with_reducible repeat (first | apply Kd.R_alloc | apply Kd.R_drewN | apply Kd.R_drew)); exact HO167.out) (Kd.R_base ho45) hb); have n9_ := Aside0.mk (Kd.R_lower (Kd.R_new' (Kd.R_new' (Kd.R_new' (Kd.R_new' (Kd.R_new' (Kd.R_new' (Kd.R_new' (Kd.R_new' (Kd.R_new' ho45 (Kd.R_lt (by (with_reducible repeat (first | apply Kd.R_alloc | apply Kd.R_drewN | apply Kd.R_drew)); exact HO134.out))) (Kd.R_lt (by (with_reducible repeat (first | apply Kd.R_alloc | apply Kd.R_drewN | apply Kd.R_drew)); exact HO139.out))) (Kd.R_lt (by (with_reducible repeat (first | apply Kd.R_alloc | apply Kd.R_drewN | apply Kd.R_drew)); exact HO142.out))) (Kd.R_lt (by (with_reducible repeat (first | apply Kd.R_alloc | apply Kd.R_drewN | apply Kd.R_drew)); exact HO147.out))) (Kd.R_lt (by (with_reducible repeat (first | apply Kd.R_alloc | apply Kd.R_drewN | apply Kd.R_drew)); exact HO150.out))) (Kd.R_lt (by (with_reducible repeat (first | apply Kd.R_alloc | apply Kd.R_drewN | apply Kd.R_drew)); exact HO155.out))) (Kd.R_lt (by (with_reducible repeat (first | apply Kd.R_alloc | apply Kd.R_drewN | apply Kd.R_drew)); exact HO160.out))) (Kd.R_lt (by (with_reducible repeat (first | apply Kd.R_alloc | apply Kd.R_drewN | apply Kd.R_drew)); exact HO164.out))) (Kd.R_lt (by (with_reducible repeat (first | apply Kd.R_alloc | apply Kd.R_drewN | apply Kd.R_drew)); exact HO167.out))) (below_size (by repeat (first | (with_reducible first | exact HB.out | apply below_alloc | apply pw_below_drewN | apply below_drew1) | exact HB.out)))); have n10_ := Aside0.mk (below_step (by repeat (first | (with_reducible first | exact HB.out | apply below_alloc | apply pw_below_drewN | apply below_drew1) | exact HB.out)) hb); clear HO134; clear HO139; clear HO142; clear HO147; clear HO150; clear HO155; clear HO160; clear HO164; clear HO167; clear HB; have HO134 := n0_; have HO139 := n1_; have HO142 := n2_; have HO147 := n3_; have HO150 := n4_; have HO155 := n5_; have HO160 := n6_; have HO164 := n7_; have HO167 := n8_; have HO171 := n9_; have HB := n10_; clear n0_ n1_ n2_ n3_ n4_ n5_ n6_ n7_ n8_ n9_ n10_; clear hb ho45; obtain ⟨Ao46, co46, eo46⟩ := Kd.R_slice HO164.out; subst eo46; obtain ⟨Ao47, co47, eo47⟩ := Kd.R_slice HO171.out; subst eo47) | (go_at_call 23; (with_reducible refine (tickinglaw02_ints.calls k _ _ t161 _ _ y169 t172 _ ?side1 ?side2 ?side3 ?side4 A38.out).mono ?_); (case side1 => repeat (first | exact (Kd.R_reads' HO164.out).2.2 | (with_reducible refine Kd.C_alloc ?_ _) | (with_reducible refine Kd.C_drewN ?_ _) | (with_reducible refine Kd.C_drew ?_))); (case side2 => exact (Kd.R_reads' HO164.out).2.1); (case side3 => repeat (first | exact (Kd.R_reads' HO171.out).2.2 | (with_reducible refine Kd.C_alloc ?_ _) | (with_reducible refine Kd.C_drewN ?_ _) | (with_reducible refine Kd.C_drew ?_))); (case side4 => exact (Kd.R_reads' HO171.out).2.1); rintro e w' ⟨rfl, ⟨nd, rfl⟩⟩))
            go_meet
            case rel => exact ⟨_, (!t172), (by first | rfl | (simp; done) | (simp [*]; done)), H', ⟨by first | omega | exact Nat.le_refl _⟩, ⟨by repeat (first | (with_reducible first | exact HB.out | apply below_alloc | apply pw_below_drewN | apply below_drew1) | exact HB.out)⟩⟩
           ·rw [if_neg c37] at H
            have c37b0 : (t162 == 0) = false := beq_eq_false_iff_ne.mpr c37
            have c37b1 : (t162 != 0) = true := bne_iff_ne.mpr c37
            have H' := Aside0.mk H
            clear H
            obtain ⟨Ao48, co48, eo48⟩ := Kd.R_slice HO139.out
            subst eo48
            go_wp2_with (first | ((with_reducible refine gate_dst (N := 57) rfl ?_); (try (refine gate_guard (by rfl) ?_; dsimp only)); refine Kd.R_lit (Kd.int .i64) _ 3 ?hg (N := 57) ?hd (xs := ([0, 1, 2] : List Int)) (inner := [.int .i64 0, .int .i64 1, .int .i64 2]) (ok := fun _ => True) (okp := fun _ => True) ?hr ?hp (fun _ hk => hk) trivial (Below.refl _ _) (Nat.le_refl _) (by simp) ?_; (case hd => rfl); (case hg => rfl); (case hr => first | (go_simp; done) | (go_simp; rfl)); (case hp => exact (Reps.one (show Kd.M (Kd.int .i64) _ _ _ 0 [.int .i64 0] from rfl) (Reps.one (show Kd.M (Kd.int .i64) _ _ _ 1 [.int .i64 1] from rfl) (Reps.one (show Kd.M (Kd.int .i64) _ _ _ 2 [.int .i64 2] from rfl) (Reps.none _ _))))); intro v166 w49 ho50 hb hg_ hnew_; clear hg_ hnew_; (first | rw [← Ny165.out] at ho50 | (simp only [Int.reduceToNat] at ho50; rw [← Ny165.out] at ho50)); have n0_ := Aside0.mk (Kd.R_elder' (by (with_reducible repeat (first | apply Kd.R_alloc | apply Kd.R_drewN | apply Kd.R_drew)); exact HO134.out) (Kd.R_base ho50) hb); have n1_ := Aside0.mk (Kd.R_elder' (by (with_reducible repeat (first | apply Kd.R_alloc | apply Kd.R_drewN | apply Kd.R_drew)); exact HO139.out) (Kd.R_base ho50) hb); have n2_ := Aside0.mk (Kd.R_elder' (by (with_reducible repeat (first | apply Kd.R_alloc | apply Kd.R_drewN | apply Kd.R_drew)); exact HO142.out) (Kd.R_base ho50) hb); have n3_ := Aside0.mk (Kd.R_elder' (by (with_reducible repeat (first | apply Kd.R_alloc | apply Kd.R_drewN | apply Kd.R_drew)); exact HO147.out) (Kd.R_base ho50) hb); have n4_ := Aside0.mk (Kd.R_elder' (by (with_reducible repeat (first | apply Kd.R_alloc | apply Kd.R_drewN | apply Kd.R_drew)); exact HO150.out) (Kd.R_base ho50) hb); have n5_ := Aside0.mk (Kd.R_elder' (by (with_reducible repeat (first | apply Kd.R_alloc | apply Kd.R_drewN | apply Kd.R_drew)); exact HO155.out) (Kd.R_base ho50) hb); have n6_ := Aside0.mk (Kd.R_elder' (by (with_reducible repeat (first | apply Kd.R_alloc | apply Kd.R_drewN | apply Kd.R_drew)); exact HO160.out) (Kd.R_base ho50) hb); have n7_ := Aside0.mk (Kd.R_elder' (by (with_reducible repeat (first | apply Kd.R_alloc | apply Kd.R_drewN | apply Kd.R_drew)); exact HO164.out) (Kd.R_base ho50) hb); have n8_ := Aside0.mk (Kd.R_lower (Kd.R_new' (Kd.R_new' (Kd.R_new' (Kd.R_new' (Kd.R_new' (Kd.R_new' (Kd.R_new' (Kd.R_new' ho50 (Kd.R_lt (by (with_reducible repeat (first | apply Kd.R_alloc | apply Kd.R_drewN | apply Kd.R_drew)); exact HO134.out))) (Kd.R_lt (by (with_reducible repeat (first | apply Kd.R_alloc | apply Kd.R_drewN | apply Kd.R_drew)); exact HO139.out))) (Kd.R_lt (by (with_reducible repeat (first | apply Kd.R_alloc | apply Kd.R_drewN | apply Kd.R_drew)); exact HO142.out))) (Kd.R_lt (by (with_reducible repeat (first | apply Kd.R_alloc | apply Kd.R_drewN | apply Kd.R_drew)); exact HO147.out))) (Kd.R_lt (by (with_reducible repeat (first | apply Kd.R_alloc | apply Kd.R_drewN | apply Kd.R_drew)); exact HO150.out))) (Kd.R_lt (by (with_reducible repeat (first | apply Kd.R_alloc | apply Kd.R_drewN | apply Kd.R_drew)); exact HO155.out))) (Kd.R_lt (by (with_reducible repeat (first | apply Kd.R_alloc | apply Kd.R_drewN | apply Kd.R_drew)); exact HO160.out))) (Kd.R_lt (by (with_reducible repeat (first | apply Kd.R_alloc | apply Kd.R_drewN | apply Kd.R_drew)); exact HO164.out))) (below_size (by repeat (first | (with_reducible first | exact HB.out | apply below_alloc | apply pw_below_drewN | apply below_drew1) | exact HB.out)))); have n9_ := Aside0.mk (below_step (by repeat (first | (with_reducible first | exact HB.out | apply below_alloc | apply pw_below_drewN | apply below_drew1) | exact HB.out)) hb); clear HO134; clear HO139; clear HO142; clear HO147; clear HO150; clear HO155; clear HO160; clear HO164; clear HB; have HO134 := n0_; have HO139 := n1_; have HO142 := n2_; have HO147 := n3_; have HO150 := n4_; have HO155 := n5_; have HO160 := n6_; have HO164 := n7_; have HO167 := n8_; have HB := n9_; clear n0_ n1_ n2_ n3_ n4_ n5_ n6_ n7_ n8_ n9_; clear hb ho50; obtain ⟨Ao51, co51, eo51⟩ := Kd.R_slice HO147.out; subst eo51; obtain ⟨Ao52, co52, eo52⟩ := Kd.R_slice HO167.out; subst eo52) | (go_at_call 23; (with_reducible refine (tickinglaw02_ints.calls k _ _ t144 _ _ y165 true _ ?side1 ?side2 ?side3 ?side4 A31.out).mono ?_); (case side1 => repeat (first | exact (Kd.R_reads' HO147.out).2.2 | (with_reducible refine Kd.C_alloc ?_ _) | (with_reducible refine Kd.C_drewN ?_ _) | (with_reducible refine Kd.C_drew ?_))); (case side2 => exact (Kd.R_reads' HO147.out).2.1); (case side3 => repeat (first | exact (Kd.R_reads' HO167.out).2.2 | (with_reducible refine Kd.C_alloc ?_ _) | (with_reducible refine Kd.C_drewN ?_ _) | (with_reducible refine Kd.C_drew ?_))); (case side4 => exact (Kd.R_reads' HO167.out).2.1); rintro e w' ⟨rfl, ⟨nd, rfl⟩⟩))
            go_meet
            case rel => exact ⟨_, (true), (by first | rfl | (simp; done) | (simp [*]; done)), H', ⟨by first | omega | exact Nat.le_refl _⟩, ⟨by repeat (first | (with_reducible first | exact HB.out | apply below_alloc | apply pw_below_drewN | apply below_drew1) | exact HB.out)⟩⟩
          ·rw [if_neg c36] at H
           have c36b0 : (t156 == 4) = false := beq_eq_false_iff_ne.mpr c36
           have c36b1 : (t156 != 4) = true := bne_iff_ne.mpr c36
           have H' := Aside0.mk H
           clear H
           obtain ⟨Ao53, co53, eo53⟩ := Kd.R_slice HO139.out
           subst eo53
           go_wp2_with (first | ((with_reducible refine gate_dst (N := 57) rfl ?_); (try (refine gate_guard (by rfl) ?_; dsimp only)); refine Kd.R_lit (Kd.int .i64) _ 3 ?hg (N := 57) ?hd (xs := ([0, 1, 2] : List Int)) (inner := [.int .i64 0, .int .i64 1, .int .i64 2]) (ok := fun _ => True) (okp := fun _ => True) ?hr ?hp (fun _ hk => hk) trivial (Below.refl _ _) (Nat.le_refl _) (by simp) ?_; (case hd => rfl); (case hg => rfl); (case hr => first | (go_simp; done) | (go_simp; rfl)); (case hp => exact (Reps.one (show Kd.M (Kd.int .i64) _ _ _ 0 [.int .i64 0] from rfl) (Reps.one (show Kd.M (Kd.int .i64) _ _ _ 1 [.int .i64 1] from rfl) (Reps.one (show Kd.M (Kd.int .i64) _ _ _ 2 [.int .i64 2] from rfl) (Reps.none _ _))))); intro v166 w54 ho55 hb hg_ hnew_; clear hg_ hnew_; (first | rw [← Ny165.out] at ho55 | (simp only [Int.reduceToNat] at ho55; rw [← Ny165.out] at ho55)); have n0_ := Aside0.mk (Kd.R_elder' (by (with_reducible repeat (first | apply Kd.R_alloc | apply Kd.R_drewN | apply Kd.R_drew)); exact HO134.out) (Kd.R_base ho55) hb); have n1_ := Aside0.mk (Kd.R_elder' (by (with_reducible repeat (first | apply Kd.R_alloc | apply Kd.R_drewN | apply Kd.R_drew)); exact HO139.out) (Kd.R_base ho55) hb); have n2_ := Aside0.mk (Kd.R_elder' (by (with_reducible repeat (first | apply Kd.R_alloc | apply Kd.R_drewN | apply Kd.R_drew)); exact HO142.out) (Kd.R_base ho55) hb); have n3_ := Aside0.mk (Kd.R_elder' (by (with_reducible repeat (first | apply Kd.R_alloc | apply Kd.R_drewN | apply Kd.R_drew)); exact HO147.out) (Kd.R_base ho55) hb); have n4_ := Aside0.mk (Kd.R_elder' (by (with_reducible repeat (first | apply Kd.R_alloc | apply Kd.R_drewN | apply Kd.R_drew)); exact HO150.out) (Kd.R_base ho55) hb); have n5_ := Aside0.mk (Kd.R_elder' (by (with_reducible repeat (first | apply Kd.R_alloc | apply Kd.R_drewN | apply Kd.R_drew)); exact HO155.out) (Kd.R_base ho55) hb); have n6_ := Aside0.mk (Kd.R_elder' (by (with_reducible repeat (first | apply Kd.R_alloc | apply Kd.R_drewN | apply Kd.R_drew)); exact HO160.out) (Kd.R_base ho55) hb); have n7_ := Aside0.mk (Kd.R_elder' (by (with_reducible repeat (first | apply Kd.R_alloc | apply Kd.R_drewN | apply Kd.R_drew)); exact HO164.out) (Kd.R_base ho55) hb); have n8_ := Aside0.mk (Kd.R_lower (Kd.R_new' (Kd.R_new' (Kd.R_new' (Kd.R_new' (Kd.R_new' (Kd.R_new' (Kd.R_new' (Kd.R_new' ho55 (Kd.R_lt (by (with_reducible repeat (first | apply Kd.R_alloc | apply Kd.R_drewN | apply Kd.R_drew)); exact HO134.out))) (Kd.R_lt (by (with_reducible repeat (first | apply Kd.R_alloc | apply Kd.R_drewN | apply Kd.R_drew)); exact HO139.out))) (Kd.R_lt (by (with_reducible repeat (first | apply Kd.R_alloc | apply Kd.R_drewN | apply Kd.R_drew)); exact HO142.out))) (Kd.R_lt (by (with_reducible repeat (first | apply Kd.R_alloc | apply Kd.R_drewN | apply Kd.R_drew)); exact HO147.out))) (Kd.R_lt (by (with_reducible repeat (first | apply Kd.R_alloc | apply Kd.R_drewN | apply Kd.R_drew)); exact HO150.out))) (Kd.R_lt (by (with_reducible repeat (first | apply Kd.R_alloc | apply Kd.R_drewN | apply Kd.R_drew)); exact HO155.out))) (Kd.R_lt (by (with_reducible repeat (first | apply Kd.R_alloc | apply Kd.R_drewN | apply Kd.R_drew)); exact HO160.out))) (Kd.R_lt (by (with_reducible repeat (first | apply Kd.R_alloc | apply Kd.R_drewN | apply Kd.R_drew)); exact HO164.out))) (below_size (by repeat (first | (with_reducible first | exact HB.out | apply below_alloc | apply pw_below_drewN | apply below_drew1) | exact HB.out)))); have n9_ := Aside0.mk (below_step (by repeat (first | (with_reducible first | exact HB.out | apply below_alloc | apply pw_below_drewN | apply below_drew1) | exact HB.out)) hb); clear HO134; clear HO139; clear HO142; clear HO147; clear HO150; clear HO155; clear HO160; clear HO164; clear HB; have HO134 := n0_; have HO139 := n1_; have HO142 := n2_; have HO147 := n3_; have HO150 := n4_; have HO155 := n5_; have HO160 := n6_; have HO164 := n7_; have HO167 := n8_; have HB := n9_; clear n0_ n1_ n2_ n3_ n4_ n5_ n6_ n7_ n8_ n9_; clear hb ho55; obtain ⟨Ao56, co56, eo56⟩ := Kd.R_slice HO147.out; subst eo56; obtain ⟨Ao57, co57, eo57⟩ := Kd.R_slice HO167.out; subst eo57) | (go_at_call 23; (with_reducible refine (tickinglaw02_ints.calls k _ _ t144 _ _ y165 true _ ?side1 ?side2 ?side3 ?side4 A31.out).mono ?_); (case side1 => repeat (first | exact (Kd.R_reads' HO147.out).2.2 | (with_reducible refine Kd.C_alloc ?_ _) | (with_reducible refine Kd.C_drewN ?_ _) | (with_reducible refine Kd.C_drew ?_))); (case side2 => exact (Kd.R_reads' HO147.out).2.1); (case side3 => repeat (first | exact (Kd.R_reads' HO167.out).2.2 | (with_reducible refine Kd.C_alloc ?_ _) | (with_reducible refine Kd.C_drewN ?_ _) | (with_reducible refine Kd.C_drew ?_))); (case side4 => exact (Kd.R_reads' HO167.out).2.1); rintro e w' ⟨rfl, ⟨nd, rfl⟩⟩))
           go_meet
           case rel => exact ⟨_, (true), (by first | rfl | (simp; done) | (simp [*]; done)), H', ⟨by first | omega | exact Nat.le_refl _⟩, ⟨by repeat (first | (with_reducible first | exact HB.out | apply below_alloc | apply pw_below_drewN | apply below_drew1) | exact HB.out)⟩⟩
         ·rw [if_neg c35] at H
          have c35b0 : (t157 == 0) = false := beq_eq_false_iff_ne.mpr c35
          have c35b1 : (t157 != 0) = true := bne_iff_ne.mpr c35
          have H' := Aside0.mk H
          clear H
          obtain ⟨Ao58, co58, eo58⟩ := Kd.R_slice HO139.out
          subst eo58
          go_wp2_with (first | ((with_reducible refine gate_dst (N := 57) rfl ?_); (try (refine gate_guard (by rfl) ?_; dsimp only)); refine Kd.R_lit (Kd.int .i64) _ 3 ?hg (N := 57) ?hd (xs := ([0, 1, 2] : List Int)) (inner := [.int .i64 0, .int .i64 1, .int .i64 2]) (ok := fun _ => True) (okp := fun _ => True) ?hr ?hp (fun _ hk => hk) trivial (Below.refl _ _) (Nat.le_refl _) (by simp) ?_; (case hd => rfl); (case hg => rfl); (case hr => first | (go_simp; done) | (go_simp; rfl)); (case hp => exact (Reps.one (show Kd.M (Kd.int .i64) _ _ _ 0 [.int .i64 0] from rfl) (Reps.one (show Kd.M (Kd.int .i64) _ _ _ 1 [.int .i64 1] from rfl) (Reps.one (show Kd.M (Kd.int .i64) _ _ _ 2 [.int .i64 2] from rfl) (Reps.none _ _))))); intro v166 w59 ho60 hb hg_ hnew_; clear hg_ hnew_; (first | rw [← Ny165.out] at ho60 | (simp only [Int.reduceToNat] at ho60; rw [← Ny165.out] at ho60)); have n0_ := Aside0.mk (Kd.R_elder' (by (with_reducible repeat (first | apply Kd.R_alloc | apply Kd.R_drewN | apply Kd.R_drew)); exact HO134.out) (Kd.R_base ho60) hb); have n1_ := Aside0.mk (Kd.R_elder' (by (with_reducible repeat (first | apply Kd.R_alloc | apply Kd.R_drewN | apply Kd.R_drew)); exact HO139.out) (Kd.R_base ho60) hb); have n2_ := Aside0.mk (Kd.R_elder' (by (with_reducible repeat (first | apply Kd.R_alloc | apply Kd.R_drewN | apply Kd.R_drew)); exact HO142.out) (Kd.R_base ho60) hb); have n3_ := Aside0.mk (Kd.R_elder' (by (with_reducible repeat (first | apply Kd.R_alloc | apply Kd.R_drewN | apply Kd.R_drew)); exact HO147.out) (Kd.R_base ho60) hb); have n4_ := Aside0.mk (Kd.R_elder' (by (with_reducible repeat (first | apply Kd.R_alloc | apply Kd.R_drewN | apply Kd.R_drew)); exact HO150.out) (Kd.R_base ho60) hb); have n5_ := Aside0.mk (Kd.R_elder' (by (with_reducible repeat (first | apply Kd.R_alloc | apply Kd.R_drewN | apply Kd.R_drew)); exact HO155.out) (Kd.R_base ho60) hb); have n6_ := Aside0.mk (Kd.R_elder' (by (with_reducible repeat (first | apply Kd.R_alloc | apply Kd.R_drewN | apply Kd.R_drew)); exact HO160.out) (Kd.R_base ho60) hb); have n7_ := Aside0.mk (Kd.R_elder' (by (with_reducible repeat (first | apply Kd.R_alloc | apply Kd.R_drewN | apply Kd.R_drew)); exact HO164.out) (Kd.R_base ho60) hb); have n8_ := Aside0.mk (Kd.R_lower (Kd.R_new' (Kd.R_new' (Kd.R_new' (Kd.R_new' (Kd.R_new' (Kd.R_new' (Kd.R_new' (Kd.R_new' ho60 (Kd.R_lt (by (with_reducible repeat (first | apply Kd.R_alloc | apply Kd.R_drewN | apply Kd.R_drew)); exact HO134.out))) (Kd.R_lt (by (with_reducible repeat (first | apply Kd.R_alloc | apply Kd.R_drewN | apply Kd.R_drew)); exact HO139.out))) (Kd.R_lt (by (with_reducible repeat (first | apply Kd.R_alloc | apply Kd.R_drewN | apply Kd.R_drew)); exact HO142.out))) (Kd.R_lt (by (with_reducible repeat (first | apply Kd.R_alloc | apply Kd.R_drewN | apply Kd.R_drew)); exact HO147.out))) (Kd.R_lt (by (with_reducible repeat (first | apply Kd.R_alloc | apply Kd.R_drewN | apply Kd.R_drew)); exact HO150.out))) (Kd.R_lt (by (with_reducible repeat (first | apply Kd.R_alloc | apply Kd.R_drewN | apply Kd.R_drew)); exact HO155.out))) (Kd.R_lt (by (with_reducible repeat (first | apply Kd.R_alloc | apply Kd.R_drewN | apply Kd.R_drew)); exact HO160.out))) (Kd.R_lt (by (with_reducible repeat (first | apply Kd.R_alloc | apply Kd.R_drewN | apply Kd.R_drew)); exact HO164.out))) (below_size (by repeat (first | (with_reducible first | exact HB.out | apply below_alloc | apply pw_below_drewN | apply below_drew1) | exact HB.out)))); have n9_ := Aside0.mk (below_step (by repeat (first | (with_reducible first | exact HB.out | apply below_alloc | apply pw_below_drewN | apply below_drew1) | exact HB.out)) hb); clear HO134; clear HO139; clear HO142; clear HO147; clear HO150; clear HO155; clear HO160; clear HO164; clear HB; have HO134 := n0_; have HO139 := n1_; have HO142 := n2_; have HO147 := n3_; have HO150 := n4_; have HO155 := n5_; have HO160 := n6_; have HO164 := n7_; have HO167 := n8_; have HB := n9_; clear n0_ n1_ n2_ n3_ n4_ n5_ n6_ n7_ n8_ n9_; clear hb ho60; obtain ⟨Ao61, co61, eo61⟩ := Kd.R_slice HO147.out; subst eo61; obtain ⟨Ao62, co62, eo62⟩ := Kd.R_slice HO167.out; subst eo62) | (go_at_call 23; (with_reducible refine (tickinglaw02_ints.calls k _ _ t144 _ _ y165 true _ ?side1 ?side2 ?side3 ?side4 A31.out).mono ?_); (case side1 => repeat (first | exact (Kd.R_reads' HO147.out).2.2 | (with_reducible refine Kd.C_alloc ?_ _) | (with_reducible refine Kd.C_drewN ?_ _) | (with_reducible refine Kd.C_drew ?_))); (case side2 => exact (Kd.R_reads' HO147.out).2.1); (case side3 => repeat (first | exact (Kd.R_reads' HO167.out).2.2 | (with_reducible refine Kd.C_alloc ?_ _) | (with_reducible refine Kd.C_drewN ?_ _) | (with_reducible refine Kd.C_drew ?_))); (case side4 => exact (Kd.R_reads' HO167.out).2.1); rintro e w' ⟨rfl, ⟨nd, rfl⟩⟩))
          go_meet
          case rel => exact ⟨_, (true), (by first | rfl | (simp; done) | (simp [*]; done)), H', ⟨by first | omega | exact Nat.le_refl _⟩, ⟨by repeat (first | (with_reducible first | exact HB.out | apply below_alloc | apply pw_below_drewN | apply below_drew1) | exact HB.out)⟩⟩
        ·rw [if_neg c34] at H
         have c34b0 : (t151 == 3) = false := beq_eq_false_iff_ne.mpr c34
         have c34b1 : (t151 != 3) = true := bne_iff_ne.mpr c34
         have H' := Aside0.mk H
         clear H
         obtain ⟨Ao63, co63, eo63⟩ := Kd.R_slice HO139.out
         subst eo63
         go_wp2_with (first | ((with_reducible refine gate_dst (N := 57) rfl ?_); (try (refine gate_guard (by rfl) ?_; dsimp only)); refine Kd.R_lit (Kd.int .i64) _ 3 ?hg (N := 57) ?hd (xs := ([0, 1, 2] : List Int)) (inner := [.int .i64 0, .int .i64 1, .int .i64 2]) (ok := fun _ => True) (okp := fun _ => True) ?hr ?hp (fun _ hk => hk) trivial (Below.refl _ _) (Nat.le_refl _) (by simp) ?_; (case hd => rfl); (case hg => rfl); (case hr => first | (go_simp; done) | (go_simp; rfl)); (case hp => exact (Reps.one (show Kd.M (Kd.int .i64) _ _ _ 0 [.int .i64 0] from rfl) (Reps.one (show Kd.M (Kd.int .i64) _ _ _ 1 [.int .i64 1] from rfl) (Reps.one (show Kd.M (Kd.int .i64) _ _ _ 2 [.int .i64 2] from rfl) (Reps.none _ _))))); intro v166 w64 ho65 hb hg_ hnew_; clear hg_ hnew_; (first | rw [← Ny165.out] at ho65 | (simp only [Int.reduceToNat] at ho65; rw [← Ny165.out] at ho65)); have n0_ := Aside0.mk (Kd.R_elder' (by (with_reducible repeat (first | apply Kd.R_alloc | apply Kd.R_drewN | apply Kd.R_drew)); exact HO134.out) (Kd.R_base ho65) hb); have n1_ := Aside0.mk (Kd.R_elder' (by (with_reducible repeat (first | apply Kd.R_alloc | apply Kd.R_drewN | apply Kd.R_drew)); exact HO139.out) (Kd.R_base ho65) hb); have n2_ := Aside0.mk (Kd.R_elder' (by (with_reducible repeat (first | apply Kd.R_alloc | apply Kd.R_drewN | apply Kd.R_drew)); exact HO142.out) (Kd.R_base ho65) hb); have n3_ := Aside0.mk (Kd.R_elder' (by (with_reducible repeat (first | apply Kd.R_alloc | apply Kd.R_drewN | apply Kd.R_drew)); exact HO147.out) (Kd.R_base ho65) hb); have n4_ := Aside0.mk (Kd.R_elder' (by (with_reducible repeat (first | apply Kd.R_alloc | apply Kd.R_drewN | apply Kd.R_drew)); exact HO150.out) (Kd.R_base ho65) hb); have n5_ := Aside0.mk (Kd.R_elder' (by (with_reducible repeat (first | apply Kd.R_alloc | apply Kd.R_drewN | apply Kd.R_drew)); exact HO155.out) (Kd.R_base ho65) hb); have n6_ := Aside0.mk (Kd.R_elder' (by (with_reducible repeat (first | apply Kd.R_alloc | apply Kd.R_drewN | apply Kd.R_drew)); exact HO160.out) (Kd.R_base ho65) hb); have n7_ := Aside0.mk (Kd.R_elder' (by (with_reducible repeat (first | apply Kd.R_alloc | apply Kd.R_drewN | apply Kd.R_drew)); exact HO164.out) (Kd.R_base ho65) hb); have n8_ := Aside0.mk (Kd.R_lower (Kd.R_new' (Kd.R_new' (Kd.R_new' (Kd.R_new' (Kd.R_new' (Kd.R_new' (Kd.R_new' (Kd.R_new' ho65 (Kd.R_lt (by (with_reducible repeat (first | apply Kd.R_alloc | apply Kd.R_drewN | apply Kd.R_drew)); exact HO134.out))) (Kd.R_lt (by (with_reducible repeat (first | apply Kd.R_alloc | apply Kd.R_drewN | apply Kd.R_drew)); exact HO139.out))) (Kd.R_lt (by (with_reducible repeat (first | apply Kd.R_alloc | apply Kd.R_drewN | apply Kd.R_drew)); exact HO142.out))) (Kd.R_lt (by (with_reducible repeat (first | apply Kd.R_alloc | apply Kd.R_drewN | apply Kd.R_drew)); exact HO147.out))) (Kd.R_lt (by (with_reducible repeat (first | apply Kd.R_alloc | apply Kd.R_drewN | apply Kd.R_drew)); exact HO150.out))) (Kd.R_lt (by (with_reducible repeat (first | apply Kd.R_alloc | apply Kd.R_drewN | apply Kd.R_drew)); exact HO155.out))) (Kd.R_lt (by (with_reducible repeat (first | apply Kd.R_alloc | apply Kd.R_drewN | apply Kd.R_drew)); exact HO160.out))) (Kd.R_lt (by (with_reducible repeat (first | apply Kd.R_alloc | apply Kd.R_drewN | apply Kd.R_drew)); exact HO164.out))) (below_size (by repeat (first | (with_reducible first | exact HB.out | apply below_alloc | apply pw_below_drewN | apply below_drew1) | exact HB.out)))); have n9_ := Aside0.mk (below_step (by repeat (first | (with_reducible first | exact HB.out | apply below_alloc | apply pw_below_drewN | apply below_drew1) | exact HB.out)) hb); clear HO134; clear HO139; clear HO142; clear HO147; clear HO150; clear HO155; clear HO160; clear HO164; clear HB; have HO134 := n0_; have HO139 := n1_; have HO142 := n2_; have HO147 := n3_; have HO150 := n4_; have HO155 := n5_; have HO160 := n6_; have HO164 := n7_; have HO167 := n8_; have HB := n9_; clear n0_ n1_ n2_ n3_ n4_ n5_ n6_ n7_ n8_ n9_; clear hb ho65; obtain ⟨Ao66, co66, eo66⟩ := Kd.R_slice HO147.out; subst eo66; obtain ⟨Ao67, co67, eo67⟩ := Kd.R_slice HO167.out; subst eo67) | (go_at_call 23; (with_reducible refine (tickinglaw02_ints.calls k _ _ t144 _ _ y165 true _ ?side1 ?side2 ?side3 ?side4 A31.out).mono ?_); (case side1 => repeat (first | exact (Kd.R_reads' HO147.out).2.2 | (with_reducible refine Kd.C_alloc ?_ _) | (with_reducible refine Kd.C_drewN ?_ _) | (with_reducible refine Kd.C_drew ?_))); (case side2 => exact (Kd.R_reads' HO147.out).2.1); (case side3 => repeat (first | exact (Kd.R_reads' HO167.out).2.2 | (with_reducible refine Kd.C_alloc ?_ _) | (with_reducible refine Kd.C_drewN ?_ _) | (with_reducible refine Kd.C_drew ?_))); (case side4 => exact (Kd.R_reads' HO167.out).2.1); rintro e w' ⟨rfl, ⟨nd, rfl⟩⟩))
         go_meet
         case rel => exact ⟨_, (true), (by first | rfl | (simp; done) | (simp [*]; done)), H', ⟨by first | omega | exact Nat.le_refl _⟩, ⟨by repeat (first | (with_reducible first | exact HB.out | apply below_alloc | apply pw_below_drewN | apply below_drew1) | exact HB.out)⟩⟩
       ·rw [if_neg c33] at H
        have c33b0 : (t152 == 0) = false := beq_eq_false_iff_ne.mpr c33
        have c33b1 : (t152 != 0) = true := bne_iff_ne.mpr c33
        have H' := Aside0.mk H
        clear H
        obtain ⟨Ao68, co68, eo68⟩ := Kd.R_slice HO139.out
        subst eo68
        go_wp2_with (first | ((with_reducible refine gate_dst (N := 57) rfl ?_); (try (refine gate_guard (by rfl) ?_; dsimp only)); refine Kd.R_lit (Kd.int .i64) _ 3 ?hg (N := 57) ?hd (xs := ([0, 1, 2] : List Int)) (inner := [.int .i64 0, .int .i64 1, .int .i64 2]) (ok := fun _ => True) (okp := fun _ => True) ?hr ?hp (fun _ hk => hk) trivial (Below.refl _ _) (Nat.le_refl _) (by simp) ?_; (case hd => rfl); (case hg => rfl); (case hr => first | (go_simp; done) | (go_simp; rfl)); (case hp => exact (Reps.one (show Kd.M (Kd.int .i64) _ _ _ 0 [.int .i64 0] from rfl) (Reps.one (show Kd.M (Kd.int .i64) _ _ _ 1 [.int .i64 1] from rfl) (Reps.one (show Kd.M (Kd.int .i64) _ _ _ 2 [.int .i64 2] from rfl) (Reps.none _ _))))); intro v166 w69 ho70 hb hg_ hnew_; clear hg_ hnew_; (first | rw [← Ny165.out] at ho70 | (simp only [Int.reduceToNat] at ho70; rw [← Ny165.out] at ho70)); have n0_ := Aside0.mk (Kd.R_elder' (by (with_reducible repeat (first | apply Kd.R_alloc | apply Kd.R_drewN | apply Kd.R_drew)); exact HO134.out) (Kd.R_base ho70) hb); have n1_ := Aside0.mk (Kd.R_elder' (by (with_reducible repeat (first | apply Kd.R_alloc | apply Kd.R_drewN | apply Kd.R_drew)); exact HO139.out) (Kd.R_base ho70) hb); have n2_ := Aside0.mk (Kd.R_elder' (by (with_reducible repeat (first | apply Kd.R_alloc | apply Kd.R_drewN | apply Kd.R_drew)); exact HO142.out) (Kd.R_base ho70) hb); have n3_ := Aside0.mk (Kd.R_elder' (by (with_reducible repeat (first | apply Kd.R_alloc | apply Kd.R_drewN | apply Kd.R_drew)); exact HO147.out) (Kd.R_base ho70) hb); have n4_ := Aside0.mk (Kd.R_elder' (by (with_reducible repeat (first | apply Kd.R_alloc | apply Kd.R_drewN | apply Kd.R_drew)); exact HO150.out) (Kd.R_base ho70) hb); have n5_ := Aside0.mk (Kd.R_elder' (by (with_reducible repeat (first | apply Kd.R_alloc | apply Kd.R_drewN | apply Kd.R_drew)); exact HO155.out) (Kd.R_base ho70) hb); have n6_ := Aside0.mk (Kd.R_elder' (by (with_reducible repeat (first | apply Kd.R_alloc | apply Kd.R_drewN | apply Kd.R_drew)); exact HO160.out) (Kd.R_base ho70) hb); have n7_ := Aside0.mk (Kd.R_elder' (by (with_reducible repeat (first | apply Kd.R_alloc | apply Kd.R_drewN | apply Kd.R_drew)); exact HO164.out) (Kd.R_base ho70) hb); have n8_ := Aside0.mk (Kd.R_lower (Kd.R_new' (Kd.R_new' (Kd.R_new' (Kd.R_new' (Kd.R_new' (Kd.R_new' (Kd.R_new' (Kd.R_new' ho70 (Kd.R_lt (by (with_reducible repeat (first | apply Kd.R_alloc | apply Kd.R_drewN | apply Kd.R_drew)); exact HO134.out))) (Kd.R_lt (by (with_reducible repeat (first | apply Kd.R_alloc | apply Kd.R_drewN | apply Kd.R_drew)); exact HO139.out))) (Kd.R_lt (by (with_reducible repeat (first | apply Kd.R_alloc | apply Kd.R_drewN | apply Kd.R_drew)); exact HO142.out))) (Kd.R_lt (by (with_reducible repeat (first | apply Kd.R_alloc | apply Kd.R_drewN | apply Kd.R_drew)); exact HO147.out))) (Kd.R_lt (by (with_reducible repeat (first | apply Kd.R_alloc | apply Kd.R_drewN | apply Kd.R_drew)); exact HO150.out))) (Kd.R_lt (by (with_reducible repeat (first | apply Kd.R_alloc | apply Kd.R_drewN | apply Kd.R_drew)); exact HO155.out))) (Kd.R_lt (by (with_reducible repeat (first | apply Kd.R_alloc | apply Kd.R_drewN | apply Kd.R_drew)); exact HO160.out))) (Kd.R_lt (by (with_reducible repeat (first | apply Kd.R_alloc | apply Kd.R_drewN | apply Kd.R_drew)); exact HO164.out))) (below_size (by repeat (first | (with_reducible first | exact HB.out | apply below_alloc | apply pw_below_drewN | apply below_drew1) | exact HB.out)))); have n9_ := Aside0.mk (below_step (by repeat (first | (with_reducible first | exact HB.out | apply below_alloc | apply pw_below_drewN | apply below_drew1) | exact HB.out)) hb); clear HO134; clear HO139; clear HO142; clear HO147; clear HO150; clear HO155; clear HO160; clear HO164; clear HB; have HO134 := n0_; have HO139 := n1_; have HO142 := n2_; have HO147 := n3_; have HO150 := n4_; have HO155 := n5_; have HO160 := n6_; have HO164 := n7_; have HO167 := n8_; have HB := n9_; clear n0_ n1_ n2_ n3_ n4_ n5_ n6_ n7_ n8_ n9_; clear hb ho70; obtain ⟨Ao71, co71, eo71⟩ := Kd.R_slice HO147.out; subst eo71; obtain ⟨Ao72, co72, eo72⟩ := Kd.R_slice HO167.out; subst eo72) | (go_at_call 23; (with_reducible refine (tickinglaw02_ints.calls k _ _ t144 _ _ y165 true _ ?side1 ?side2 ?side3 ?side4 A31.out).mono ?_); (case side1 => repeat (first | exact (Kd.R_reads' HO147.out).2.2 | (with_reducible refine Kd.C_alloc ?_ _) | (with_reducible refine Kd.C_drewN ?_ _) | (with_reducible refine Kd.C_drew ?_))); (case side2 => exact (Kd.R_reads' HO147.out).2.1); (case side3 => repeat (first | exact (Kd.R_reads' HO167.out).2.2 | (with_reducible refine Kd.C_alloc ?_ _) | (with_reducible refine Kd.C_drewN ?_ _) | (with_reducible refine Kd.C_drew ?_))); (case side4 => exact (Kd.R_reads' HO167.out).2.1); rintro e w' ⟨rfl, ⟨nd, rfl⟩⟩))
        go_meet
        case rel => exact ⟨_, (true), (by first | rfl | (simp; done) | (simp [*]; done)), H', ⟨by first | omega | exact Nat.le_refl _⟩, ⟨by repeat (first | (with_reducible first | exact HB.out | apply below_alloc | apply pw_below_drewN | apply below_drew1) | exact HB.out)⟩⟩
      ·replace c32 := Bool.eq_false_iff.mpr c32
       subst c32
       have H1 : (tickinglaw02_awake.j0 k true) = some r := by rw [if_neg (show ¬ (false = true) by decide)] at H; exact H
       clear H
       have H := H1
       clear H1
       have H' := Aside0.mk H
       clear H
       obtain ⟨Ao73, co73, eo73⟩ := Kd.R_slice HO139.out
       subst eo73
       go_wp2_with (first | ((with_reducible refine gate_dst (N := 57) rfl ?_); (try (refine gate_guard (by rfl) ?_; dsimp only)); refine Kd.R_lit (Kd.int .i64) _ 3 ?hg (N := 57) ?hd (xs := ([0, 1, 2] : List Int)) (inner := [.int .i64 0, .int .i64 1, .int .i64 2]) (ok := fun _ => True) (okp := fun _ => True) ?hr ?hp (fun _ hk => hk) trivial (Below.refl _ _) (Nat.le_refl _) (by simp) ?_; (case hd => rfl); (case hg => rfl); (case hr => first | (go_simp; done) | (go_simp; rfl)); (case hp => exact (Reps.one (show Kd.M (Kd.int .i64) _ _ _ 0 [.int .i64 0] from rfl) (Reps.one (show Kd.M (Kd.int .i64) _ _ _ 1 [.int .i64 1] from rfl) (Reps.one (show Kd.M (Kd.int .i64) _ _ _ 2 [.int .i64 2] from rfl) (Reps.none _ _))))); intro v166 w74 ho75 hb hg_ hnew_; clear hg_ hnew_; (first | rw [← Ny165.out] at ho75 | (simp only [Int.reduceToNat] at ho75; rw [← Ny165.out] at ho75)); have n0_ := Aside0.mk (Kd.R_elder' (by (with_reducible repeat (first | apply Kd.R_alloc | apply Kd.R_drewN | apply Kd.R_drew)); exact HO134.out) (Kd.R_base ho75) hb); have n1_ := Aside0.mk (Kd.R_elder' (by (with_reducible repeat (first | apply Kd.R_alloc | apply Kd.R_drewN | apply Kd.R_drew)); exact HO139.out) (Kd.R_base ho75) hb); have n2_ := Aside0.mk (Kd.R_elder' (by (with_reducible repeat (first | apply Kd.R_alloc | apply Kd.R_drewN | apply Kd.R_drew)); exact HO142.out) (Kd.R_base ho75) hb); have n3_ := Aside0.mk (Kd.R_elder' (by (with_reducible repeat (first | apply Kd.R_alloc | apply Kd.R_drewN | apply Kd.R_drew)); exact HO147.out) (Kd.R_base ho75) hb); have n4_ := Aside0.mk (Kd.R_elder' (by (with_reducible repeat (first | apply Kd.R_alloc | apply Kd.R_drewN | apply Kd.R_drew)); exact HO150.out) (Kd.R_base ho75) hb); have n5_ := Aside0.mk (Kd.R_elder' (by (with_reducible repeat (first | apply Kd.R_alloc | apply Kd.R_drewN | apply Kd.R_drew)); exact HO155.out) (Kd.R_base ho75) hb); have n6_ := Aside0.mk (Kd.R_elder' (by (with_reducible repeat (first | apply Kd.R_alloc | apply Kd.R_drewN | apply Kd.R_drew)); exact HO160.out) (Kd.R_base ho75) hb); have n7_ := Aside0.mk (Kd.R_elder' (by (with_reducible repeat (first | apply Kd.R_alloc | apply Kd.R_drewN | apply Kd.R_drew)); exact HO164.out) (Kd.R_base ho75) hb); have n8_ := Aside0.mk (Kd.R_lower (Kd.R_new' (Kd.R_new' (Kd.R_new' (Kd.R_new' (Kd.R_new' (Kd.R_new' (Kd.R_new' (Kd.R_new' ho75 (Kd.R_lt (by (with_reducible repeat (first | apply Kd.R_alloc | apply Kd.R_drewN | apply Kd.R_drew)); exact HO134.out))) (Kd.R_lt (by (with_reducible repeat (first | apply Kd.R_alloc | apply Kd.R_drewN | apply Kd.R_drew)); exact HO139.out))) (Kd.R_lt (by (with_reducible repeat (first | apply Kd.R_alloc | apply Kd.R_drewN | apply Kd.R_drew)); exact HO142.out))) (Kd.R_lt (by (with_reducible repeat (first | apply Kd.R_alloc | apply Kd.R_drewN | apply Kd.R_drew)); exact HO147.out))) (Kd.R_lt (by (with_reducible repeat (first | apply Kd.R_alloc | apply Kd.R_drewN | apply Kd.R_drew)); exact HO150.out))) (Kd.R_lt (by (with_reducible repeat (first | apply Kd.R_alloc | apply Kd.R_drewN | apply Kd.R_drew)); exact HO155.out))) (Kd.R_lt (by (with_reducible repeat (first | apply Kd.R_alloc | apply Kd.R_drewN | apply Kd.R_drew)); exact HO160.out))) (Kd.R_lt (by (with_reducible repeat (first | apply Kd.R_alloc | apply Kd.R_drewN | apply Kd.R_drew)); exact HO164.out))) (below_size (by repeat (first | (with_reducible first | exact HB.out | apply below_alloc | apply pw_below_drewN | apply below_drew1) | exact HB.out)))); have n9_ := Aside0.mk (below_step (by repeat (first | (with_reducible first | exact HB.out | apply below_alloc | apply pw_below_drewN | apply below_drew1) | exact HB.out)) hb); clear HO134; clear HO139; clear HO142; clear HO147; clear HO150; clear HO155; clear HO160; clear HO164; clear HB; have HO134 := n0_; have HO139 := n1_; have HO142 := n2_; have HO147 := n3_; have HO150 := n4_; have HO155 := n5_; have HO160 := n6_; have HO164 := n7_; have HO167 := n8_; have HB := n9_; clear n0_ n1_ n2_ n3_ n4_ n5_ n6_ n7_ n8_ n9_; clear hb ho75; obtain ⟨Ao76, co76, eo76⟩ := Kd.R_slice HO147.out; subst eo76; obtain ⟨Ao77, co77, eo77⟩ := Kd.R_slice HO167.out; subst eo77) | (go_at_call 23; (with_reducible refine (tickinglaw02_ints.calls k _ _ t144 _ _ y165 false _ ?side1 ?side2 ?side3 ?side4 A31.out).mono ?_); (case side1 => repeat (first | exact (Kd.R_reads' HO147.out).2.2 | (with_reducible refine Kd.C_alloc ?_ _) | (with_reducible refine Kd.C_drewN ?_ _) | (with_reducible refine Kd.C_drew ?_))); (case side2 => exact (Kd.R_reads' HO147.out).2.1); (case side3 => repeat (first | exact (Kd.R_reads' HO167.out).2.2 | (with_reducible refine Kd.C_alloc ?_ _) | (with_reducible refine Kd.C_drewN ?_ _) | (with_reducible refine Kd.C_drew ?_))); (case side4 => exact (Kd.R_reads' HO167.out).2.1); rintro e w' ⟨rfl, ⟨nd, rfl⟩⟩))
       go_meet
       case rel => exact ⟨_, (true), (by first | rfl | (simp; done) | (simp [*]; done)), H', ⟨by first | omega | exact Nat.le_refl _⟩, ⟨by repeat (first | (with_reducible first | exact HB.out | apply below_alloc | apply pw_below_drewN | apply below_drew1) | exact HB.out)⟩⟩
     ·rw [if_neg c30] at H
      have c30b0 : (t145 == 0) = false := beq_eq_false_iff_ne.mpr c30
      have c30b1 : (t145 != 0) = true := bne_iff_ne.mpr c30
      have H' := Aside0.mk H
      clear H
      obtain ⟨Ao78, co78, eo78⟩ := Kd.R_slice HO139.out
      subst eo78
      go_wp2
      go_meet
      case rel => exact ⟨_, (true), (by first | rfl | (simp; done) | (simp [*]; done)), H', ⟨by first | omega | exact Nat.le_refl _⟩, ⟨by repeat (first | (with_reducible first | exact HB.out | apply below_alloc | apply pw_below_drewN | apply below_drew1) | exact HB.out)⟩⟩
    ·rw [if_neg c29] at H
     have c29b0 : ((t136.length : Int) == 0) = false := beq_eq_false_iff_ne.mpr c29
     have c29b1 : ((t136.length : Int) != 0) = true := bne_iff_ne.mpr c29
     have c29b2 : ¬ (t136 = []) := fun h_ => c29 (by rw [h_]; rfl)
     have H' := Aside0.mk H
     clear H
     obtain ⟨Ao79, co79, eo79⟩ := Kd.R_slice HO139.out
     subst eo79
     go_wp2
     go_meet
     case rel => exact ⟨_, (true), (by first | rfl | (simp; done) | (simp [*]; done)), H', ⟨by first | omega | exact Nat.le_refl _⟩, ⟨by repeat (first | (with_reducible first | exact HB.out | apply below_alloc | apply pw_below_drewN | apply below_drew1) | exact HB.out)⟩⟩
   ·rw [if_neg c28] at H
    have c28b0 : (t135.toList == ([105, 105, 111, 111, 105, 111] : List UInt8)) = false := beq_eq_false_iff_ne.mpr c28
    have c28b1 : (t135.toList != ([105, 105, 111, 111, 105, 111] : List UInt8)) = true := bne_iff_ne.mpr c28
    have H' := Aside0.mk H
    clear H
    go_wp2
    go_meet
    case rel => exact ⟨_, (true), (by first | rfl | (simp; done) | (simp [*]; done)), H', ⟨by first | omega | exact Nat.le_refl _⟩, ⟨by repeat (first | (with_reducible first | exact HB.out | apply below_alloc | apply pw_below_drewN | apply below_drew1) | exact HB.out)⟩⟩
  ·rw [if_neg c27] at H
   have c27b0 : (t137 == 0) = false := beq_eq_false_iff_ne.mpr c27
   have c27b1 : (t137 != 0) = true := bne_iff_ne.mpr c27
   (first | rw [c27b0] | (simp only [i64_w, i32_w]; rw [c27b0]) | skip)
   have H' := Aside0.mk H
   clear H
   go_wp2
   go_meet
   case rel => exact ⟨_, (true), (by first | rfl | (simp; done) | (simp [*]; done)), H', ⟨by first | omega | exact Nat.le_refl _⟩, ⟨by repeat (first | (with_reducible first | exact HB.out | apply below_alloc | apply pw_below_drewN | apply below_drew1) | exact HB.out)⟩⟩
 case rest =>
  clear HC6
  try clear c1
  try clear c2
  try clear p2
  try clear c3
  try clear c19
  try clear c20
  try clear c22
  try clear c27
  try clear c27b0
  try clear c27b1
  try clear c28
  try clear c28b0
  try clear c28b1
  try clear c29
  try clear c29b0
  try clear c29b1
  try clear c29b2
  try clear c30
  try clear c30b0
  try clear c30b1
  try clear c32
  try clear c33
  try clear c33b0
  try clear c33b1
  try clear c34
  try clear c34b0
  try clear c34b1
  try clear c35
  try clear c35b0
  try clear c35b1
  try clear c36
  try clear c36b0
  try clear c36b1
  try clear c37
  try clear c37b0
  try clear c37b1
  obtain ⟨kq, x86_5, rfl, HA, HJ5, HB⟩ := hcut
  cases kq with
  | zero => exact absurd HA.out (by simp [tickinglaw02_awake.j0])
  | succ kj5 =>
   have H := HA.out
   clear HA
   simp only [tickinglaw02_awake.j0] at H
   by_cases c80 : x86_5 = true
   ·subst c80
    have H1 : (some false) = some r := by rw [if_pos rfl] at H; exact H
    clear H
    have H := H1
    clear H1
    obtain rfl := Option.some.inj H
    go_wp2
    go_ret
    exact ⟨by first | rfl | (simp [errW_none, errW_some] <;> rfl) | (simp [*, errW_none, errW_some] <;> rfl), by repeat (first | (with_reducible first | exact HB.out | apply below_alloc | apply pw_below_drewN | apply below_drew1) | exact HB.out)⟩
   ·replace c80 := Bool.eq_false_iff.mpr c80
    subst c80
    have H1 : (some true) = some r := by rw [if_neg (show ¬ (false = true) by decide)] at H; exact H
    clear H
    have H := H1
    clear H1
    obtain rfl := Option.some.inj H
    go_wp2
    go_ret
    exact ⟨by first | rfl | (simp [errW_none, errW_some] <;> rfl) | (simp [*, errW_none, errW_some] <;> rfl), by repeat (first | (with_reducible first | exact HB.out | apply below_alloc | apply pw_below_drewN | apply below_drew1) | exact HB.out)⟩

def slices_Index_int_int.l0 : Nat → List Int → Int → Int → Int → Option (Int)
 | 0, _, _, _, _ => none
 | k + 1, x0, x1, x7, x8 => if x8 < x7 then (if 0 ≤ x8 then (if x8 < (x0.length : Int) then (if x1 = (rd x0 x8) then (some x8) else (slices_Index_int_int.l0 k x0 x1 x7 (wrap64 (x8 + 1)))) else (none)) else (none)) else (some (-1))
def slices_Index_int_int.f (k : Nat) (l0 : List Int) (a1 : Int) : Option (Int) := slices_Index_int_int.l0 k l0 a1 (l0.length : Int) 0
set_option maxHeartbeats 8000000 in
set_option maxRecDepth 100000 in
theorem slices_Index_int_int.calls (k : Nat) (A0 : Option Addr) (c0 : Nat) (l0 : List Int) (a1 : Int) (r : Int) (w : World) (hr0 : Kd.C (Kd.int .i64) w A0 l0.length l0) (hc0 : l0.length ≤ c0) (h : slices_Index_int_int.f k l0 a1 = some r) :
  Calls Try.prog 81 #[.slice A0 l0.length c0, .int .i64 a1] w fun e w' => e = .returned (.int .i64 r) ∧ Drawn0 w w' := by
 have HR0 := Aside0.mk hr0
 have HC0 := Aside0.mk hc0
 clear hr0 hc0
 have H : (slices_Index_int_int.l0 k l0 a1 (l0.length : Int) 0) = some r := h
 clear h
 have H' := Aside0.mk H
 clear H
 go_enter Try.func81, Try.ntmps81
 go_wp2
 go_loopg [8] k (fun kq v8 w' => ∃ (x8_1 : Int), v8 = .int .i64 x8_1 ∧ Aside0 (slices_Index_int_int.l0 kq l0 a1 (l0.length : Int) x8_1 = some r) ∧ Aside0 (kq ≤ k) ∧ Drawn0 w w')
 case atStart => exact ⟨(0), (by first | rfl | (simp; done) | (simp [*]; done)), H', ⟨Nat.le_refl _⟩, by repeat (first | exact Drawn0.refl _ | apply Drawn0.step)⟩
 case round =>
  clear H'
  try clear p2
  obtain ⟨x8_1, rfl, HA, HK1, ⟨m1, rfl⟩⟩ := hrel
  cases gk with
  | zero => exact absurd HA.out (by simp [slices_Index_int_int.l0])
  | succ k1 =>
   have H := HA.out
   clear HA
   simp only [slices_Index_int_int.l0] at H
   by_cases c3 : x8_1 < (l0.length : Int)
   ·rw [if_pos c3] at H
    have c3b0 : decide (x8_1 < (l0.length : Int)) = true := decide_eq_true c3
    clear c3
    by_cases c4 : 0 ≤ x8_1
    ·rw [if_pos c4] at H
     have c4b0 : decide (0 ≤ x8_1) = true := decide_eq_true c4
     clear c4
     by_cases c5 : x8_1 < (l0.length : Int)
     ·rw [if_pos c5] at H
      have c5b0 : decide (x8_1 < (l0.length : Int)) = true := decide_eq_true c5
      clear c5
      by_cases c6 : a1 = (rd l0 x8_1)
      ·rw [if_pos c6] at H
       have c6b0 : (a1 == (rd l0 x8_1)) = true := beq_iff_eq.mpr c6
       have c6b1 : (a1 != (rd l0 x8_1)) = false := bne_eq_false_iff_eq.mpr c6
       clear c6
       obtain rfl := Option.some.inj H
       have p520 : 0 ≤ (x8_1 : Int) := of_decide_eq_true (by first | (with_reducible assumption) | assumption)
       have q520 : x8_1 < (l0.length : Int) := of_decide_eq_true (by first | (with_reducible assumption) | assumption)
       obtain ⟨ad520, e520, hx520_0⟩ := Kd.at_int HR0.out x8_1 p520 q520
       cases e520
       replace p520 := eq_true p520
       replace q520 := eq_true q520
       go_wp2
       go_ret
       exact ⟨by first | rfl | (simp; done) | (simp [*]; done), by repeat (first | exact Drawn0.refl _ | apply Drawn0.step)⟩
      ·rw [if_neg c6] at H
       have c6b0 : (a1 == (rd l0 x8_1)) = false := beq_eq_false_iff_ne.mpr c6
       have c6b1 : (a1 != (rd l0 x8_1)) = true := bne_iff_ne.mpr c6
       have H' := Aside0.mk H
       clear H
       have p520 : 0 ≤ (x8_1 : Int) := of_decide_eq_true (by first | (with_reducible assumption) | assumption)
       have q520 : x8_1 < (l0.length : Int) := of_decide_eq_true (by first | (with_reducible assumption) | assumption)
       obtain ⟨ad520, e520, hx520_0⟩ := Kd.at_int HR0.out x8_1 p520 q520
       cases e520
       replace p520 := eq_true p520
       replace q520 := eq_true q520
       go_wp2
       go_roundg k1
       case measure => have := HK1.out; omega
       case rel => exact ⟨(wrap64 (x8_1 + 1)), (by first | rfl | (simp; done) | (simp [*]; done)), H', ⟨by have := HK1.out; omega⟩, by repeat (first | exact Drawn0.refl _ | apply Drawn0.step)⟩
     ·rw [if_neg c5] at H
      exact absurd H (by simp)
    ·rw [if_neg c4] at H
     exact absurd H (by simp)
   ·rw [if_neg c3] at H
    have c3b0 : decide (x8_1 < (l0.length : Int)) = false := decide_eq_false c3
    clear c3
    obtain rfl := Option.some.inj H
    go_wp2
    go_ret
    exact ⟨by first | rfl | (simp; done) | (simp [*]; done), by repeat (first | exact Drawn0.refl _ | apply Drawn0.step)⟩

def slices_Contains_int_int.f (k : Nat) (l0 : List Int) (a1 : Int) : Option (Bool) := (slices_Index_int_int.f k l0 a1).bind fun t521 => (some (decide (t521 ≥ 0)))
set_option maxHeartbeats 8000000 in
set_option maxRecDepth 100000 in
theorem slices_Contains_int_int.calls (k : Nat) (A0 : Option Addr) (c0 : Nat) (l0 : List Int) (a1 : Int) (r : Bool) (w : World) (hr0 : Kd.C (Kd.int .i64) w A0 l0.length l0) (hc0 : l0.length ≤ c0) (h : slices_Contains_int_int.f k l0 a1 = some r) :
  Calls Try.prog 79 #[.slice A0 l0.length c0, .int .i64 a1] w fun e w' => e = .returned (.bool r) ∧ Drawn0 w w' := by
 have HR0 := Aside0.mk hr0
 have HC0 := Aside0.mk hc0
 clear hr0 hc0
 have H : ((slices_Index_int_int.f k l0 a1).bind fun t521 => (some (decide (t521 ≥ 0)))) = some r := h
 clear h
 replace H := Option.bind_eq_some_iff.mp H
 obtain ⟨t521, A30, H⟩ := H
 replace H : (some (decide (t521 ≥ 0))) = some r := H
 have A3 := Aside0.mk A30
 clear A30
 obtain rfl := Option.some.inj H
 go_enter Try.func79, Try.ntmps79
 go_wp2_with (first | ((with_reducible refine gate_callee (f := 81) rfl ?_); refine goesL_ (some 7) rfl rfl Try.func81 (by kernel_rfl) rfl #[.slice A0 l0.length c0, .int .i64 a1] rfl (by (try simp only [List.map_toArray, List.map_cons, List.map_nil]); first | done | rfl | (simp only [List.length_drop, List.length_take]; rfl)) ?_; (with_reducible refine (slices_Index_int_int.calls k _ _ l0 a1 t521 _ ?side1 ?side2 A3.out).mono ?_); (case side1 => repeat (first | exact HR0.out | (with_reducible refine Kd.C_alloc ?_ _) | (with_reducible refine Kd.C_drewN ?_ _) | (with_reducible refine Kd.C_drew ?_))); (case side2 => exact HC0.out); rintro e w' ⟨rfl, ⟨nd, rfl⟩⟩; refine ⟨_, rfl, ?_⟩))
 go_ret
 exact ⟨by first | rfl | (simp; done) | (simp [*]; done), by repeat (first | exact Drawn0.refl _ | apply Drawn0.step)⟩

mutual
def shunt_isCycle.j0 : Nat → List Int → List Int → Bool → Option (Bool)
 | 0, _, _, _ => none
 | k + 1, x0, x1, x18 => if x18 = true then (some false) else (shunt_isCycle.l0 k x0 x1 x1 (x1.length : Int) 0)
def shunt_isCycle.l0 : Nat → List Int → List Int → List Int → Int → Int → Option (Bool)
 | 0, _, _, _, _, _ => none
 | k + 1, x0, x1, x19, x20, x21 => if x21 < x20 then (if 0 ≤ x21 then (if x21 < (x19.length : Int) then ((shunt_within.f (rd x19 x21) 0 (wrap64 ((x0.length : Int) - 1))).bind fun t523 => (if t523 = true then (if x21 ≤ (x1.length : Int) then ((slices_Contains_int_int.f k (x1.take (x21 : Int).toNat) (rd x19 x21)).bind fun t525 => (if t525 = true then (some false) else (shunt_isCycle.l0 k x0 x1 x19 x20 (wrap64 (x21 + 1))))) else (none)) else (some false))) else (none)) else (none)) else (shunt_isCycle.l1 k x0 x1 x1 (x1.length : Int) 0)
def shunt_isCycle.l1 : Nat → List Int → List Int → List Int → Int → Int → Option (Bool)
 | 0, _, _, _, _, _ => none
 | k + 1, x0, x1, x40, x41, x42 => if x42 < x41 then (if 0 ≤ x42 then (if x42 < (x40.length : Int) then (if (x1.length : Int) = 0 then (none) else (if 0 ≤ (Int.tmod (wrap64 (x42 + 1)) (x1.length : Int)) then (if (Int.tmod (wrap64 (x42 + 1)) (x1.length : Int)) < (x1.length : Int) then ((shunt_blocking.f k x0 (mn (rd x40 x42) (rd x1 (Int.tmod (wrap64 (x42 + 1)) (x1.length : Int)))) (mx (rd x40 x42) (rd x1 (Int.tmod (wrap64 (x42 + 1)) (x1.length : Int))))).bind fun t528 => (if t528 = 0 then (some false) else (shunt_isCycle.l1 k x0 x1 x40 x41 (wrap64 (x42 + 1))))) else (none)) else (none))) else (none)) else (none)) else (some true)
end
def shunt_isCycle.f (k : Nat) (l0 : List Int) (l1 : List Int) : Option (Bool) := if ((l1.length : Int) % 2) = 0 then (shunt_isCycle.j0 k l0 l1 true) else (shunt_isCycle.j0 k l0 l1 (decide ((l1.length : Int) < 3)))
set_option maxHeartbeats 8000000 in
set_option maxRecDepth 100000 in
theorem shunt_isCycle.calls (k : Nat) (A0 : Option Addr) (c0 : Nat) (l0 : List Int) (A1 : Option Addr) (c1 : Nat) (l1 : List Int) (r : Bool) (w : World) (hr0 : Kd.C (Kd.int .i64) w A0 l0.length l0) (hc0 : l0.length ≤ c0) (hr1 : Kd.C (Kd.int .i64) w A1 l1.length l1) (hc1 : l1.length ≤ c1) (h : shunt_isCycle.f k l0 l1 = some r) :
  Calls Try.prog 69 #[.slice A0 l0.length c0, .slice A1 l1.length c1] w fun e w' => e = .returned (.bool r) ∧ Below w.heap.size w w' := by
 have HR0 := Aside0.mk hr0
 have HC0 := Aside0.mk hc0
 clear hr0 hc0
 have HR1 := Aside0.mk hr1
 have HC1 := Aside0.mk hc1
 clear hr1 hc1
 have HB := Aside0.mk (Below.refl w.heap.size w)
 have H : (if ((l1.length : Int) % 2) = 0 then (shunt_isCycle.j0 k l0 l1 true) else (shunt_isCycle.j0 k l0 l1 (decide ((l1.length : Int) < 3)))) = some r := h
 clear h
 have HC3 := Aside0.mk H
 clear H
 go_enter Try.func69, Try.ntmps69
 go_upto_region 1 with (fail)
 go_cut [18] (fun v18 wc => ∃ (kq : Nat) (x18_2 : Bool), v18 = .bool x18_2 ∧ Aside0 (shunt_isCycle.j0 kq l0 l1 x18_2 = some r) ∧ Aside0 (kq ≤ k) ∧ Aside0 (Below w.heap.size w wc))
 case first =>
  have H := HC3.out
  clear HC3
  by_cases c4 : ((l1.length : Int) % 2) = 0
  ·rw [if_pos c4] at H
   have c4b0 : (((l1.length : Int) % 2) == 0) = true := beq_iff_eq.mpr c4
   have c4b1 : (((l1.length : Int) % 2) != 0) = false := bne_eq_false_iff_eq.mpr c4
   clear c4
   (first | rw [c4b0] | (simp only [i64_w, i32_w]; rw [c4b0]) | skip)
   have H' := Aside0.mk H
   clear H
   go_wp2
   go_meet
   case rel => exact ⟨_, (true), (by first | rfl | (simp; done) | (simp [*]; done)), H', ⟨by first | omega | exact Nat.le_refl _⟩, ⟨by repeat (first | (with_reducible first | exact HB.out | apply below_alloc | apply pw_below_drewN | apply below_drew1) | exact HB.out)⟩⟩
  ·rw [if_neg c4] at H
   have c4b0 : (((l1.length : Int) % 2) == 0) = false := beq_eq_false_iff_ne.mpr c4
   have c4b1 : (((l1.length : Int) % 2) != 0) = true := bne_iff_ne.mpr c4
   (first | rw [c4b0] | (simp only [i64_w, i32_w]; rw [c4b0]) | skip)
   have H' := Aside0.mk H
   clear H
   go_wp2
   go_meet
   case rel => exact ⟨_, (decide ((l1.length : Int) < 3)), (by first | rfl | (simp; done) | (simp [*]; done)), H', ⟨by first | omega | exact Nat.le_refl _⟩, ⟨by repeat (first | (with_reducible first | exact HB.out | apply below_alloc | apply pw_below_drewN | apply below_drew1) | exact HB.out)⟩⟩
 case rest =>
  clear HC3
  try clear c1
  try clear p2
  try clear c4
  try clear c4b0
  try clear c4b1
  obtain ⟨kq, x18_2, rfl, HA, HJ2, HB⟩ := hcut
  cases kq with
  | zero => exact absurd HA.out (by simp [shunt_isCycle.j0])
  | succ kj2 =>
   have H := HA.out
   clear HA
   simp only [shunt_isCycle.j0] at H
   by_cases c5 : x18_2 = true
   ·subst c5
    have H1 : (some false) = some r := by rw [if_pos rfl] at H; exact H
    clear H
    have H := H1
    clear H1
    obtain rfl := Option.some.inj H
    go_wp2
    go_ret
    exact ⟨by first | rfl | (simp [errW_none, errW_some] <;> rfl) | (simp [*, errW_none, errW_some] <;> rfl), by repeat (first | (with_reducible first | exact HB.out | apply below_alloc | apply pw_below_drewN | apply below_drew1) | exact HB.out)⟩
   ·replace c5 := Bool.eq_false_iff.mpr c5
    subst c5
    have H1 : (shunt_isCycle.l0 kj2 l0 l1 l1 (l1.length : Int) 0) = some r := by rw [if_neg (show ¬ (false = true) by decide)] at H; exact H
    clear H
    have H := H1
    clear H1
    have H' := Aside0.mk H
    clear H
    go_wp2
    go_loopg [21] kj2 (fun kq v21 w' => ∃ (x21_2 : Int), v21 = .int .i64 x21_2 ∧ Aside0 (shunt_isCycle.l0 kq l0 l1 l1 (l1.length : Int) x21_2 = some r) ∧ Aside0 (kq ≤ kj2) ∧ Aside0 (Below w.heap.size w w'))
    case atStart => exact ⟨(0), (by first | rfl | (simp; done) | (simp [*]; done)), H', ⟨Nat.le_refl _⟩, ⟨by repeat (first | (with_reducible first | exact HB.out | apply below_alloc | apply pw_below_drewN | apply below_drew1) | exact HB.out)⟩⟩
    case round =>
     clear H'
     try clear c1
     try clear p2
     try clear c4
     try clear c4b0
     try clear c4b1
     try clear c5
     try clear p2
     obtain ⟨x21_2, rfl, HA, HK2, HB⟩ := hrel
     cases gk with
     | zero => exact absurd HA.out (by simp [shunt_isCycle.l0])
     | succ k2 =>
      have H := HA.out
      clear HA
      simp only [shunt_isCycle.l0] at H
      by_cases c6 : x21_2 < (l1.length : Int)
      ·rw [if_pos c6] at H
       have c6b0 : decide (x21_2 < (l1.length : Int)) = true := decide_eq_true c6
       clear c6
       by_cases c7 : 0 ≤ x21_2
       ·rw [if_pos c7] at H
        have c7b0 : decide (0 ≤ x21_2) = true := decide_eq_true c7
        clear c7
        by_cases c8 : x21_2 < (l1.length : Int)
        ·rw [if_pos c8] at H
         have c8b0 : decide (x21_2 < (l1.length : Int)) = true := decide_eq_true c8
         clear c8
         replace H := Option.bind_eq_some_iff.mp H
         obtain ⟨t523, A90, H⟩ := H
         replace H : (if t523 = true then (if x21_2 ≤ (l1.length : Int) then ((slices_Contains_int_int.f k2 (l1.take (x21_2 : Int).toNat) (rd l1 x21_2)).bind fun t525 => (if t525 = true then (some false) else (shunt_isCycle.l0 k2 l0 l1 l1 (l1.length : Int) (wrap64 (x21_2 + 1))))) else (none)) else (some false)) = some r := H
         have A9 := Aside0.mk A90
         clear A90
         by_cases c10 : t523 = true
         ·subst c10
          have H1 : (if x21_2 ≤ (l1.length : Int) then ((slices_Contains_int_int.f k2 (l1.take (x21_2 : Int).toNat) (rd l1 x21_2)).bind fun t525 => (if t525 = true then (some false) else (shunt_isCycle.l0 k2 l0 l1 l1 (l1.length : Int) (wrap64 (x21_2 + 1))))) else (none)) = some r := by rw [if_pos rfl] at H; exact H
          clear H
          have H := H1
          clear H1
          have c11b0 := eq_true (of_decide_eq_true (by first | (with_reducible assumption) | assumption) : 0 ≤ x21_2)
          by_cases c12 : x21_2 ≤ (l1.length : Int)
          ·rw [if_pos c12] at H
           have c12b0 := eq_true c12
           have c12b1 : decide (x21_2 ≤ (l1.length : Int)) = true := decide_eq_true c12
           clear c12
           replace H := Option.bind_eq_some_iff.mp H
           obtain ⟨t525, A130, H⟩ := H
           replace H : (if t525 = true then (some false) else (shunt_isCycle.l0 k2 l0 l1 l1 (l1.length : Int) (wrap64 (x21_2 + 1)))) = some r := H
           have A13 := Aside0.mk A130
           clear A130
           by_cases c14 : t525 = true
           ·subst c14
            have H1 : (some false) = some r := by rw [if_pos rfl] at H; exact H
            clear H
            have H := H1
            clear H1
            obtain rfl := Option.some.inj H
            have p522 : 0 ≤ (x21_2 : Int) := of_decide_eq_true (by first | (with_reducible assumption) | assumption)
            have q522 : x21_2 < (l1.length : Int) := of_decide_eq_true (by first | (with_reducible assumption) | assumption)
            obtain ⟨ad522, e522, hx522_0⟩ := Kd.at_int HR1.out x21_2 p522 q522
            cases e522
            replace hx522_0 := (HB.out.cell (World.block_lt_of_cell? w _ hx522_0)).trans hx522_0
            replace p522 := eq_true p522
            replace q522 := eq_true q522
            obtain ⟨i015, hi015, _, hsz15, _⟩ := info_parts info3
            obtain ⟨hcut15, hA15, hC15⟩ := print_take_of (P := Try.prog) (Value.int .i64) 0 22 3 .i64 Try.underlying22 hi015 hsz15 (some ad522) c1 l1 x21_2 (of_decide_eq_true (by first | (with_reducible assumption) | assumption)) (of_decide_eq_true (by first | (with_reducible assumption) | assumption)) HC1.out
            have HR524 := Aside0.mk (Kd.C_of_reads (h1 := fun _ => rfl) (hA15 _ (Kd.reads_of_C HR1.out)))
            have HC524 := Aside0.mk hC15
            clear hA15 hC15 hi015 hsz15
            obtain ⟨tk15, htk15⟩ : ∃ tk_ : List Int, (l1.take (x21_2 : Int).toNat) = tk_ := ⟨_, rfl⟩
            simp only [htk15] at *
            have Htk15 := Aside0.mk htk15
            clear htk15
            go_wp2_with (first | ((with_reducible refine gate_callee (f := 64) rfl ?_); refine goesL_ (some 30) rfl rfl Try.func64 (by kernel_rfl) rfl #[.int .i64 (rd l1 x21_2), .int .i64 0, .int .i64 (wrap64 ((l0.length : Int) - 1))] rfl (by (try simp only [List.map_toArray, List.map_cons, List.map_nil]); first | done | rfl | (simp only [List.length_drop, List.length_take]; rfl)) ?_; (with_reducible refine (shunt_within.calls (rd l1 x21_2) 0 (wrap64 ((l0.length : Int) - 1)) true _ A9.out).mono ?_); rintro e w' ⟨rfl, ⟨nd, rfl⟩⟩; refine ⟨_, rfl, ?_⟩) | (go_at_call 79; (with_reducible refine (slices_Contains_int_int.calls k2 _ _ tk15 (rd l1 x21_2) true _ ?side1 ?side2 A13.out).mono ?_); (case side1 => repeat (first | exact (Kd.C_below HR524.out (by repeat (first | (with_reducible first | exact HB.out | apply below_alloc | apply pw_below_drewN | apply below_drew1) | exact HB.out))) | (with_reducible refine Kd.C_alloc ?_ _) | (with_reducible refine Kd.C_drewN ?_ _) | (with_reducible refine Kd.C_drew ?_))); (case side2 => exact HC524.out); rintro e w' ⟨rfl, ⟨nd, rfl⟩⟩))
            go_ret
            exact ⟨by first | rfl | (simp [errW_none, errW_some] <;> rfl) | (simp [*, errW_none, errW_some] <;> rfl), by repeat (first | (with_reducible first | exact HB.out | apply below_alloc | apply pw_below_drewN | apply below_drew1) | exact HB.out)⟩
           ·replace c14 := Bool.eq_false_iff.mpr c14
            subst c14
            have H1 : (shunt_isCycle.l0 k2 l0 l1 l1 (l1.length : Int) (wrap64 (x21_2 + 1))) = some r := by rw [if_neg (show ¬ (false = true) by decide)] at H; exact H
            clear H
            have H := H1
            clear H1
            have H' := Aside0.mk H
            clear H
            have p522 : 0 ≤ (x21_2 : Int) := of_decide_eq_true (by first | (with_reducible assumption) | assumption)
            have q522 : x21_2 < (l1.length : Int) := of_decide_eq_true (by first | (with_reducible assumption) | assumption)
            obtain ⟨ad522, e522, hx522_0⟩ := Kd.at_int HR1.out x21_2 p522 q522
            cases e522
            replace hx522_0 := (HB.out.cell (World.block_lt_of_cell? w _ hx522_0)).trans hx522_0
            replace p522 := eq_true p522
            replace q522 := eq_true q522
            obtain ⟨i016, hi016, _, hsz16, _⟩ := info_parts info3
            obtain ⟨hcut16, hA16, hC16⟩ := print_take_of (P := Try.prog) (Value.int .i64) 0 22 3 .i64 Try.underlying22 hi016 hsz16 (some ad522) c1 l1 x21_2 (of_decide_eq_true (by first | (with_reducible assumption) | assumption)) (of_decide_eq_true (by first | (with_reducible assumption) | assumption)) HC1.out
            have HR524 := Aside0.mk (Kd.C_of_reads (h1 := fun _ => rfl) (hA16 _ (Kd.reads_of_C HR1.out)))
            have HC524 := Aside0.mk hC16
            clear hA16 hC16 hi016 hsz16
            obtain ⟨tk16, htk16⟩ : ∃ tk_ : List Int, (l1.take (x21_2 : Int).toNat) = tk_ := ⟨_, rfl⟩
            simp only [htk16] at *
            have Htk16 := Aside0.mk htk16
            clear htk16
            go_wp2_with (first | ((with_reducible refine gate_callee (f := 64) rfl ?_); refine goesL_ (some 30) rfl rfl Try.func64 (by kernel_rfl) rfl #[.int .i64 (rd l1 x21_2), .int .i64 0, .int .i64 (wrap64 ((l0.length : Int) - 1))] rfl (by (try simp only [List.map_toArray, List.map_cons, List.map_nil]); first | done | rfl | (simp only [List.length_drop, List.length_take]; rfl)) ?_; (with_reducible refine (shunt_within.calls (rd l1 x21_2) 0 (wrap64 ((l0.length : Int) - 1)) true _ A9.out).mono ?_); rintro e w' ⟨rfl, ⟨nd, rfl⟩⟩; refine ⟨_, rfl, ?_⟩) | (go_at_call 79; (with_reducible refine (slices_Contains_int_int.calls k2 _ _ tk16 (rd l1 x21_2) false _ ?side1 ?side2 A13.out).mono ?_); (case side1 => repeat (first | exact (Kd.C_below HR524.out (by repeat (first | (with_reducible first | exact HB.out | apply below_alloc | apply pw_below_drewN | apply below_drew1) | exact HB.out))) | (with_reducible refine Kd.C_alloc ?_ _) | (with_reducible refine Kd.C_drewN ?_ _) | (with_reducible refine Kd.C_drew ?_))); (case side2 => exact HC524.out); rintro e w' ⟨rfl, ⟨nd, rfl⟩⟩))
            go_roundg k2
            case measure => have := HJ2.out; have := HK2.out; omega
            case rel => exact ⟨(wrap64 (x21_2 + 1)), (by first | rfl | (simp; done) | (simp [*]; done)), H', ⟨by have := HJ2.out; have := HK2.out; omega⟩, ⟨by repeat (first | (with_reducible first | exact HB.out | apply below_alloc | apply pw_below_drewN | apply below_drew1) | exact HB.out)⟩⟩
          ·rw [if_neg c12] at H
           exact absurd H (by simp)
         ·replace c10 := Bool.eq_false_iff.mpr c10
          subst c10
          have H1 : (some false) = some r := by rw [if_neg (show ¬ (false = true) by decide)] at H; exact H
          clear H
          have H := H1
          clear H1
          obtain rfl := Option.some.inj H
          have p522 : 0 ≤ (x21_2 : Int) := of_decide_eq_true (by first | (with_reducible assumption) | assumption)
          have q522 : x21_2 < (l1.length : Int) := of_decide_eq_true (by first | (with_reducible assumption) | assumption)
          obtain ⟨ad522, e522, hx522_0⟩ := Kd.at_int HR1.out x21_2 p522 q522
          cases e522
          replace hx522_0 := (HB.out.cell (World.block_lt_of_cell? w _ hx522_0)).trans hx522_0
          replace p522 := eq_true p522
          replace q522 := eq_true q522
          go_wp2_with (first | ((with_reducible refine gate_callee (f := 64) rfl ?_); refine goesL_ (some 30) rfl rfl Try.func64 (by kernel_rfl) rfl #[.int .i64 (rd l1 x21_2), .int .i64 0, .int .i64 (wrap64 ((l0.length : Int) - 1))] rfl (by (try simp only [List.map_toArray, List.map_cons, List.map_nil]); first | done | rfl | (simp only [List.length_drop, List.length_take]; rfl)) ?_; (with_reducible refine (shunt_within.calls (rd l1 x21_2) 0 (wrap64 ((l0.length : Int) - 1)) false _ A9.out).mono ?_); rintro e w' ⟨rfl, ⟨nd, rfl⟩⟩; refine ⟨_, rfl, ?_⟩))
          go_ret
          exact ⟨by first | rfl | (simp [errW_none, errW_some] <;> rfl) | (simp [*, errW_none, errW_some] <;> rfl), by repeat (first | (with_reducible first | exact HB.out | apply below_alloc | apply pw_below_drewN | apply below_drew1) | exact HB.out)⟩
        ·rw [if_neg c8] at H
         exact absurd H (by simp)
       ·rw [if_neg c7] at H
        exact absurd H (by simp)
      ·rw [if_neg c6] at H
       have c6b0 : decide (x21_2 < (l1.length : Int)) = false := decide_eq_false c6
       clear c6
       have H' := Aside0.mk H
       clear H
       go_wp2
       go_loopg [42] k2 (fun kq v42 w' => ∃ (x42_3 : Int), v42 = .int .i64 x42_3 ∧ Aside0 (shunt_isCycle.l1 kq l0 l1 l1 (l1.length : Int) x42_3 = some r) ∧ Aside0 (kq ≤ k2) ∧ Aside0 (Below w.heap.size w w'))
       case atStart => exact ⟨(0), (by first | rfl | (simp; done) | (simp [*]; done)), H', ⟨Nat.le_refl _⟩, ⟨by repeat (first | (with_reducible first | exact HB.out | apply below_alloc | apply pw_below_drewN | apply below_drew1) | exact HB.out)⟩⟩
       case round =>
        clear H'
        try clear c1
        try clear p2
        try clear c4
        try clear c4b0
        try clear c4b1
        try clear c5
        try clear p5
        try clear q5
        try clear hx5
        try clear c6
        try clear c6b0
        try clear p6
        try clear c7
        try clear c7b0
        try clear c8
        try clear c8b0
        try clear c10
        try clear c11
        try clear c11b0
        try clear c12
        try clear c12b0
        try clear c12b1
        try clear c14
        try clear hx522_0
        try clear p2
        try clear p522
        try clear q522
        obtain ⟨x42_3, rfl, HA, HK3, HB⟩ := hrel
        cases gk with
        | zero => exact absurd HA.out (by simp [shunt_isCycle.l1])
        | succ k3 =>
         have H := HA.out
         clear HA
         simp only [shunt_isCycle.l1] at H
         by_cases c17 : x42_3 < (l1.length : Int)
         ·rw [if_pos c17] at H
          have c17b0 : decide (x42_3 < (l1.length : Int)) = true := decide_eq_true c17
          clear c17
          by_cases c18 : 0 ≤ x42_3
          ·rw [if_pos c18] at H
           have c18b0 : decide (0 ≤ x42_3) = true := decide_eq_true c18
           clear c18
           by_cases c19 : x42_3 < (l1.length : Int)
           ·rw [if_pos c19] at H
            have c19b0 : decide (x42_3 < (l1.length : Int)) = true := decide_eq_true c19
            clear c19
            by_cases c20 : (l1.length : Int) = 0
            ·rw [if_pos c20] at H
             exact absurd H (by simp)
            ·rw [if_neg c20] at H
             have c20b0 : ((l1.length : Int) == 0) = false := beq_eq_false_iff_ne.mpr c20
             have c20b1 : ((l1.length : Int) != 0) = true := bne_iff_ne.mpr c20
             have c20b2 : ¬ (l1 = []) := fun h_ => c20 (by rw [h_]; rfl)
             obtain ⟨ji21, hji21⟩ : ∃ j_ : Int, (Int.tmod (wrap64 (x42_3 + 1)) (l1.length : Int)) = j_ := ⟨_, rfl⟩
             replace H : (if 0 ≤ (ji21) then (if (ji21) < (l1.length : Int) then ((shunt_blocking.f k3 l0 (mn (rd l1 x42_3) (rd l1 (ji21))) (mx (rd l1 x42_3) (rd l1 (ji21)))).bind fun t528 => (if t528 = 0 then (some false) else (shunt_isCycle.l1 k3 l0 l1 l1 (l1.length : Int) (wrap64 (x42_3 + 1))))) else (none)) else (none)) = some r := by first | (rw [hji21] at H; exact H) | (simp only [hji21] at H ⊢; exact H)
             by_cases c22 : 0 ≤ (ji21)
             ·rw [if_pos c22] at H
              have c22b0 : decide (0 ≤ (ji21)) = true := decide_eq_true c22
              clear c22
              by_cases c23 : (ji21) < (l1.length : Int)
              ·rw [if_pos c23] at H
               have c23b0 : decide ((ji21) < (l1.length : Int)) = true := decide_eq_true c23
               clear c23
               obtain ⟨ji24, hji24⟩ : ∃ j_ : Int, (mn (rd l1 x42_3) (rd l1 (ji21))) = j_ := ⟨_, rfl⟩
               replace H : ((shunt_blocking.f k3 l0 (ji24) (mx (rd l1 x42_3) (rd l1 (ji21)))).bind fun t528 => (if t528 = 0 then (some false) else (shunt_isCycle.l1 k3 l0 l1 l1 (l1.length : Int) (wrap64 (x42_3 + 1))))) = some r := by first | (rw [hji24] at H; exact H) | (simp only [hji24] at H ⊢; exact H)
               have hji24_ : (if (rd l1 (ji21)) < (rd l1 x42_3) then (rd l1 (ji21)) else (rd l1 x42_3)) = ji24 := hji24
               obtain ⟨ji25, hji25⟩ : ∃ j_ : Int, (mx (rd l1 x42_3) (rd l1 (ji21))) = j_ := ⟨_, rfl⟩
               replace H : ((shunt_blocking.f k3 l0 (ji24) (ji25)).bind fun t528 => (if t528 = 0 then (some false) else (shunt_isCycle.l1 k3 l0 l1 l1 (l1.length : Int) (wrap64 (x42_3 + 1))))) = some r := by first | (rw [hji25] at H; exact H) | (simp only [hji25] at H ⊢; exact H)
               have hji25_ : (if (rd l1 x42_3) < (rd l1 (ji21)) then (rd l1 (ji21)) else (rd l1 x42_3)) = ji25 := hji25
               replace H := Option.bind_eq_some_iff.mp H
               obtain ⟨t528, A260, H⟩ := H
               replace H : (if t528 = 0 then (some false) else (shunt_isCycle.l1 k3 l0 l1 l1 (l1.length : Int) (wrap64 (x42_3 + 1)))) = some r := H
               have A26 := Aside0.mk A260
               clear A260
               by_cases c27 : t528 = 0
               ·rw [if_pos c27] at H
                have c27b0 : (t528 == 0) = true := beq_iff_eq.mpr c27
                have c27b1 : (t528 != 0) = false := bne_eq_false_iff_eq.mpr c27
                clear c27
                obtain rfl := Option.some.inj H
                have p526 : 0 ≤ (x42_3 : Int) := of_decide_eq_true (by first | (with_reducible assumption) | assumption)
                have q526 : x42_3 < (l1.length : Int) := of_decide_eq_true (by first | (with_reducible assumption) | assumption)
                obtain ⟨ad526, e526, hx526_0⟩ := Kd.at_int HR1.out x42_3 p526 q526
                cases e526
                replace hx526_0 := (HB.out.cell (World.block_lt_of_cell? w _ hx526_0)).trans hx526_0
                replace p526 := eq_true p526
                replace q526 := eq_true q526
                have p527 : 0 ≤ ((ji21) : Int) := of_decide_eq_true (by first | (with_reducible assumption) | assumption)
                have q527 : (ji21) < (l1.length : Int) := of_decide_eq_true (by first | (with_reducible assumption) | assumption)
                obtain ⟨ad527, e527, hx527_0⟩ := Kd.at_int HR1.out (ji21) p527 q527
                obtain rfl : ad526 = ad527 := (by injection e527)
                replace hx527_0 := (HB.out.cell (World.block_lt_of_cell? w _ hx527_0)).trans hx527_0
                replace p527 := eq_true p527
                replace q527 := eq_true q527
                go_wp2_with (first | ((with_reducible refine gate_callee (f := 72) rfl ?_); refine goesL_ (some 62) rfl rfl Try.func72 (by kernel_rfl) rfl #[.slice A0 l0.length c0, .int .i64 ji24, .int .i64 ji25] rfl (by (try simp only [List.map_toArray, List.map_cons, List.map_nil]); first | done | (simp only [hji24, hji25]; rfl) | rfl | (simp only [List.length_drop, List.length_take]; rfl)) ?_; (with_reducible refine (shunt_blocking.calls k3 _ _ l0 ji24 ji25 t528 _ ?side1 ?side2 A26.out).mono ?_); (case side1 => repeat (first | exact (Kd.C_below HR0.out HB.out) | (with_reducible refine Kd.C_alloc ?_ _) | (with_reducible refine Kd.C_drewN ?_ _) | (with_reducible refine Kd.C_drew ?_))); (case side2 => exact HC0.out); rintro e w' ⟨rfl, ⟨nd, rfl⟩⟩; refine ⟨_, rfl, ?_⟩))
                go_ret
                exact ⟨by first | rfl | (simp [errW_none, errW_some] <;> rfl) | (simp only [← hji21, ← hji24, ← hji25]; first | rfl | (simp [errW_none, errW_some] <;> rfl)) | (simp [*, errW_none, errW_some] <;> rfl), by repeat (first | (with_reducible first | exact HB.out | apply below_alloc | apply pw_below_drewN | apply below_drew1) | exact HB.out)⟩
               ·rw [if_neg c27] at H
                have c27b0 : (t528 == 0) = false := beq_eq_false_iff_ne.mpr c27
                have c27b1 : (t528 != 0) = true := bne_iff_ne.mpr c27
                have H' := Aside0.mk H
                clear H
                have p526 : 0 ≤ (x42_3 : Int) := of_decide_eq_true (by first | (with_reducible assumption) | assumption)
                have q526 : x42_3 < (l1.length : Int) := of_decide_eq_true (by first | (with_reducible assumption) | assumption)
                obtain ⟨ad526, e526, hx526_0⟩ := Kd.at_int HR1.out x42_3 p526 q526
                cases e526
                replace hx526_0 := (HB.out.cell (World.block_lt_of_cell? w _ hx526_0)).trans hx526_0
                replace p526 := eq_true p526
                replace q526 := eq_true q526
                have p527 : 0 ≤ ((ji21) : Int) := of_decide_eq_true (by first | (with_reducible assumption) | assumption)
                have q527 : (ji21) < (l1.length : Int) := of_decide_eq_true (by first | (with_reducible assumption) | assumption)
                obtain ⟨ad527, e527, hx527_0⟩ := Kd.at_int HR1.out (ji21) p527 q527
                obtain rfl : ad526 = ad527 := (by injection e527)
                replace hx527_0 := (HB.out.cell (World.block_lt_of_cell? w _ hx527_0)).trans hx527_0
                replace p527 := eq_true p527
                replace q527 := eq_true q527
                go_wp2_with (first | ((with_reducible refine gate_callee (f := 72) rfl ?_); refine goesL_ (some 62) rfl rfl Try.func72 (by kernel_rfl) rfl #[.slice A0 l0.length c0, .int .i64 ji24, .int .i64 ji25] rfl (by (try simp only [List.map_toArray, List.map_cons, List.map_nil]); first | done | (simp only [hji24, hji25]; rfl) | rfl | (simp only [List.length_drop, List.length_take]; rfl)) ?_; (with_reducible refine (shunt_blocking.calls k3 _ _ l0 ji24 ji25 t528 _ ?side1 ?side2 A26.out).mono ?_); (case side1 => repeat (first | exact (Kd.C_below HR0.out HB.out) | (with_reducible refine Kd.C_alloc ?_ _) | (with_reducible refine Kd.C_drewN ?_ _) | (with_reducible refine Kd.C_drew ?_))); (case side2 => exact HC0.out); rintro e w' ⟨rfl, ⟨nd, rfl⟩⟩; refine ⟨_, rfl, ?_⟩))
                go_roundg k3
                case measure => have := HJ2.out; have := HK2.out; have := HK3.out; omega
                case rel => exact ⟨(wrap64 (x42_3 + 1)), (by first | rfl | (simp; done) | (simp [*]; done)), H', ⟨by have := HJ2.out; have := HK2.out; have := HK3.out; omega⟩, ⟨by repeat (first | (with_reducible first | exact HB.out | apply below_alloc | apply pw_below_drewN | apply below_drew1) | exact HB.out)⟩⟩
              ·rw [if_neg c23] at H
               exact absurd H (by simp)
             ·rw [if_neg c22] at H
              exact absurd H (by simp)
           ·rw [if_neg c19] at H
            exact absurd H (by simp)
          ·rw [if_neg c18] at H
           exact absurd H (by simp)
         ·rw [if_neg c17] at H
          have c17b0 : decide (x42_3 < (l1.length : Int)) = false := decide_eq_false c17
          clear c17
          obtain rfl := Option.some.inj H
          go_wp2
          go_ret
          exact ⟨by first | rfl | (simp [errW_none, errW_some] <;> rfl) | (simp [*, errW_none, errW_some] <;> rfl), by repeat (first | (with_reducible first | exact HB.out | apply below_alloc | apply pw_below_drewN | apply below_drew1) | exact HB.out)⟩

def badSide (s : Int) : Bool := !decide (0 ≤ s ∧ s ≤ 1)
def slices_ContainsFunc_int_int.f (l0 : List Int) : Option Bool := some (l0.any badSide)
set_option maxHeartbeats 800000 in
theorem sides_fn.calls (s : Int) (w : World) : Calls Try.prog 71 #[.int .i64 s] w fun e w' => e = .returned (.bool (badSide s)) ∧ Drawn0 w w' := by
 by_cases c : 0 ≤ s ∧ s ≤ 1
 ·have e : badSide s = false := by unfold badSide; rw [decide_eq_true c]; rfl
  have HV := Aside0.mk (fun (W : World) => shunt_within.calls s 0 1 true W (by unfold shunt_within.f; rw [if_pos c.1, decide_eq_true c.2]))
  rw [e]
  clear c e
  go_enter Try.func71, Try.ntmps71
  go_wp2_with (go_at_call 64; go_must ((with_reducible refine (HV.out _).mono ?_); rintro e w1 ⟨rfl, ⟨nd, rfl⟩⟩))
  go_ret
  exact ⟨rfl, by repeat (first | exact Drawn0.refl _ | apply Drawn0.step)⟩
 ·have e : badSide s = true := by unfold badSide; rw [decide_eq_false c]; rfl
  have hf : shunt_within.f s 0 1 = some false := by
   unfold shunt_within.f
   by_cases c1 : s ≥ 0
   ·rw [if_pos c1, decide_eq_false (fun h => c ⟨c1, h⟩)]
   ·rw [if_neg c1]
  have HV := Aside0.mk (fun (W : World) => shunt_within.calls s 0 1 false W hf)
  rw [e]
  clear c e hf
  go_enter Try.func71, Try.ntmps71
  go_wp2_with (go_at_call 64; go_must ((with_reducible refine (HV.out _).mono ?_); rintro e w1 ⟨rfl, ⟨nd, rfl⟩⟩))
  go_ret
  exact ⟨rfl, by repeat (first | exact Drawn0.refl _ | apply Drawn0.step)⟩
set_option maxHeartbeats 800000 in
theorem sides_index.calls (l : List Int) (A : Option Addr) (c1 : Nat) (w : World) (hr1 : Kd.C (Kd.int .i64) w A l.length l) :
  Calls Try.prog 77 #[.slice A l.length c1, .func (.func 71) #[] #[]] w fun e w' => ∃ r : Int, e = .returned (.int .i64 r) ∧ Drawn0 w w' ∧ Aside0 ((0 ≤ r) = (l.any badSide = true)) := by
 have hm : (l.length : Int) ≤ 9223372036854775807 := by have := hr1.2.1; omega
 have HR1 := Aside0.mk hr1
 clear hr1
 go_enter Try.func77, Try.ntmps77
 go_wp2
 go_loopw [8] (fun v8 wr => ∃ i : Int, v8 = .int .i64 i ∧ Aside0 (0 ≤ i ∧ i ≤ l.length) ∧ Aside0 ((l.take i.toNat).any badSide = false) ∧ Drawn0 w wr) (fun v8 _ => l.length - (intOf v8).toNat)
 case atStart => exact ⟨0, rfl, ⟨by simp⟩, ⟨rfl⟩, by repeat (first | exact Drawn0.refl _ | apply Drawn0.step)⟩
 case round =>
  obtain ⟨i, rfl, HI, HN, ⟨nd, rfl⟩⟩ := hrel
  obtain ⟨p0, p1⟩ := HI.out
  by_cases c2 : i < (l.length : Int)
  ·have c2b0 : decide (i < (l.length : Int)) = true := decide_eq_true c2
   obtain ⟨ad, ea, hx⟩ := Kd.at_int HR1.out i p0 c2
   cases ea
   have hlt : i.toNat < l.length := by omega
   have hrd : rd l i = l[i.toNat] := by
    unfold rd
    rw [List.getD_eq_getElem?_getD, List.getElem?_eq_getElem hlt, Option.getD_some]
   have htk : l.take (i + 1).toNat = l.take i.toNat ++ [rd l i] := by
    rw [show (i + 1).toNat = i.toNat + 1 by omega, List.take_succ_eq_append_getElem hlt, hrd]
   have HC := Aside0.mk (fun W => sides_fn.calls (rd l i) W)
   have q0 := eq_true p0
   have q1 := eq_true c2
   cases c3 : badSide (rd l i) with
   | true =>
    rw [c3] at HC
    have HF := Aside0.mk (show (0 ≤ i) = (l.any badSide = true) from propext ⟨fun _ => List.any_eq_true.2 ⟨_, by rw [hrd]; exact List.getElem_mem hlt, c3⟩, fun _ => p0⟩)
    clear hrd htk c2 c3 hlt p1 p0
    go_wp2_with (go_at_call 71; go_must ((with_reducible refine (HC.out _).mono ?_); rintro e w2 ⟨rfl, ⟨nd2, rfl⟩⟩))
    go_ret
    exact ⟨_, rfl, by repeat (first | exact Drawn0.refl _ | apply Drawn0.step), HF⟩
   | false =>
    rw [c3] at HC
    have HN2 := Aside0.mk (show (l.take (i + 1).toNat).any badSide = false by
     rw [htk, List.any_append, HN.out]
     simp [c3])
    clear hrd htk c2 c3 hlt p0
    have hi : wrap64 (i + 1) = i + 1 := by have := of_eq_true q1; have := HI.out; unfold wrap64; omega
    go_wp2_with (go_at_call 71; go_must ((with_reducible refine (HC.out _).mono ?_); rintro e w2 ⟨rfl, ⟨nd2, rfl⟩⟩))
    go_roundw
    case rel => exact ⟨i + 1, by go_num, ⟨by have := of_eq_true q1; have := HI.out; omega⟩, HN2, by repeat (first | exact Drawn0.refl _ | apply Drawn0.step)⟩
    case measure => have := of_eq_true q1; have := HI.out; simp [intOf, hi]; omega
  ·have c2b0 : decide (i < (l.length : Int)) = false := decide_eq_false c2
   have HF := Aside0.mk (show (0 ≤ (-1 : Int)) = (l.any badSide = true) by
    have := HN.out
    rw [List.take_of_length_le (by omega)] at this
    rw [this]
    simp)
   clear c2
   go_wp2
   go_ret
   exact ⟨_, rfl, by repeat (first | exact Drawn0.refl _ | apply Drawn0.step), HF⟩
set_option maxHeartbeats 800000 in
theorem slices_ContainsFunc_int_int.calls (A0 : Option Addr) (c0 : Nat) (l0 : List Int) (r : Bool) (w : World) (hr0 : Kd.C (Kd.int .i64) w A0 l0.length l0) (hc0 : l0.length ≤ c0) (h : slices_ContainsFunc_int_int.f l0 = some r) :
  Calls Try.prog 70 #[.slice A0 l0.length c0, .func (.func 71) #[] #[]] w fun e w' => e = .returned (.bool r) ∧ Drawn0 w w' := by
 have HS := Aside0.mk (fun n => sides_index.calls l0 A0 c0 (w.drewN n) (Kd.C_drewN hr0 n))
 have HI := Aside0.mk (sides_index.calls l0 A0 c0 w hr0)
 have HB := Aside0.mk (show l0.any badSide = r from Option.some.inj h)
 clear h hr0
 go_enter Try.func70, Try.ntmps70
 go_wp2_with (go_at_call 77; go_must ((with_reducible refine HI.out.mono ?_); rintro e w1 ⟨q, rfl, ⟨nd, rfl⟩, hq⟩; have hqr : decide (0 ≤ q) = r := (by rw [← HB.out]; cases hc : l0.any badSide with | true => exact decide_eq_true (by rw [hq.out]; exact hc) | false => exact decide_eq_false (by rw [hq.out, hc]; decide)); clear hq))
 go_ret
 exact ⟨rfl, by repeat (first | exact Drawn0.refl _ | apply Drawn0.step)⟩

mutual
def shunt_CheckStacks.j0 : Nat → List Int → List Int → List Int → Bool → Option (Int)
 | 0, _, _, _, _ => none
 | k + 1, x0, x1, x2, x7 => if (x1.length : Int) = (x0.length : Int) then (shunt_CheckStacks.j1 k x0 x1 x7 ((x2.length : Int) == 0)) else (shunt_CheckStacks.j1 k x0 x1 x7 false)
def shunt_CheckStacks.j1 : Nat → List Int → List Int → Bool → Bool → Option (Int)
 | 0, _, _, _, _ => none
 | k + 1, x0, x1, x7, x30 => if x30 = true then ((slices_ContainsFunc_int_int.f x1).bind fun t531 => (shunt_CheckStacks.l0 k x0 x1 (!t531) (x1.length : Int) 0)) else (if x7 = true then (some 0) else (some 10))
def shunt_CheckStacks.l0 : Nat → List Int → List Int → Bool → Int → Int → Option (Int)
 | 0, _, _, _, _, _ => none
 | k + 1, x0, x1, x7, x35, x36 => if x36 < x35 then (shunt_CheckStacks.l1 k x0 x1 x7 x36 x35 x36 x36 0) else (if x7 = true then (some 0) else (some 10))
def shunt_CheckStacks.l1 : Nat → List Int → List Int → Bool → Int → Int → Int → Int → Int → Option (Int)
 | 0, _, _, _, _, _, _, _, _ => none
 | k + 1, x0, x1, x7, x8, x35, x36, x39, x40 => if x40 < x39 then (if x7 = true then (if 0 ≤ x40 then (if x40 < (x1.length : Int) then (if 0 ≤ x8 then (if x8 < (x1.length : Int) then (if (rd x1 x40) = (rd x1 x8) then ((shunt_blocking.f k x0 x40 x8).bind fun t534 => (shunt_CheckStacks.l1 k x0 x1 (t534 == 0) x8 x35 x36 x39 (wrap64 (x40 + 1)))) else (shunt_CheckStacks.l1 k x0 x1 true x8 x35 x36 x39 (wrap64 (x40 + 1)))) else (none)) else (none)) else (none)) else (none)) else (shunt_CheckStacks.l1 k x0 x1 false x8 x35 x36 x39 (wrap64 (x40 + 1)))) else (shunt_CheckStacks.l0 k x0 x1 x7 x35 (wrap64 (x36 + 1)))
end
def shunt_CheckStacks.f (k : Nat) (l0 : List Int) (l1 : List Int) (l2 : List Int) : Option (Int) := (shunt_isOrder.f l0).bind fun t529 => (if t529 = true then (if (l1.length : Int) = 0 then ((shunt_isCycle.f k l0 l2).bind fun t530 => (shunt_CheckStacks.j0 k l0 l1 l2 t530)) else (shunt_CheckStacks.j0 k l0 l1 l2 false)) else (some 2))
set_option maxHeartbeats 8000000 in
set_option maxRecDepth 100000 in
theorem shunt_CheckStacks.calls (k : Nat) (A0 : Option Addr) (c0 : Nat) (l0 : List Int) (A1 : Option Addr) (c1 : Nat) (l1 : List Int) (A2 : Option Addr) (c2 : Nat) (l2 : List Int) (r : Int) (w : World) (hr0 : Kd.C (Kd.int .i64) w A0 l0.length l0) (hc0 : l0.length ≤ c0) (hr1 : Kd.C (Kd.int .i64) w A1 l1.length l1) (hc1 : l1.length ≤ c1) (hr2 : Kd.C (Kd.int .i64) w A2 l2.length l2) (hc2 : l2.length ≤ c2) (h : shunt_CheckStacks.f k l0 l1 l2 = some r) :
  Calls Try.prog 45 #[.slice A0 l0.length c0, .slice A1 l1.length c1, .slice A2 l2.length c2] w fun e w' => e = .returned (.int .i64 r) ∧ Below w.heap.size w w' := by
 have HR0 := Aside0.mk hr0
 have HC0 := Aside0.mk hc0
 clear hr0 hc0
 have HR1 := Aside0.mk hr1
 have HC1 := Aside0.mk hc1
 clear hr1 hc1
 have HR2 := Aside0.mk hr2
 have HC2 := Aside0.mk hc2
 clear hr2 hc2
 have HB := Aside0.mk (Below.refl w.heap.size w)
 have H : ((shunt_isOrder.f l0).bind fun t529 => (if t529 = true then (if (l1.length : Int) = 0 then ((shunt_isCycle.f k l0 l2).bind fun t530 => (shunt_CheckStacks.j0 k l0 l1 l2 t530)) else (shunt_CheckStacks.j0 k l0 l1 l2 false)) else (some 2))) = some r := h
 clear h
 replace H := Option.bind_eq_some_iff.mp H
 obtain ⟨t529, A40, H⟩ := H
 replace H : (if t529 = true then (if (l1.length : Int) = 0 then ((shunt_isCycle.f k l0 l2).bind fun t530 => (shunt_CheckStacks.j0 k l0 l1 l2 t530)) else (shunt_CheckStacks.j0 k l0 l1 l2 false)) else (some 2)) = some r := H
 have A4 := Aside0.mk A40
 clear A40
 by_cases c5 : t529 = true
 ·subst c5
  have H1 : (if (l1.length : Int) = 0 then ((shunt_isCycle.f k l0 l2).bind fun t530 => (shunt_CheckStacks.j0 k l0 l1 l2 t530)) else (shunt_CheckStacks.j0 k l0 l1 l2 false)) = some r := by rw [if_pos rfl] at H; exact H
  clear H
  have H := H1
  clear H1
  have HC6 := Aside0.mk H
  clear H
  go_enter Try.func45, Try.ntmps45
  go_upto_region 3 with (first | (go_at_call 52; (with_reducible refine (shunt_isOrder.calls _ _ l0 true _ ?side1 ?side2 A4.out).mono ?_); (case side1 => repeat (first | exact HR0.out | (with_reducible refine Kd.C_alloc ?_ _) | (with_reducible refine Kd.C_drewN ?_ _) | (with_reducible refine Kd.C_drew ?_))); (case side2 => exact HC0.out); rintro e w7 ⟨rfl, hb⟩; have n0_ := Aside0.mk (below_step (by repeat (first | (with_reducible first | exact HB.out | apply below_alloc | apply pw_below_drewN | apply below_drew1) | exact HB.out)) hb); clear HB; have HB := n0_; clear n0_; (try clear hb); (try clear hb2); (try clear hk); (try clear hi)))
  repeat (go_quiet (first | (go_at_call 52; (with_reducible refine (shunt_isOrder.calls _ _ l0 true _ ?side1 ?side2 A4.out).mono ?_); (case side1 => repeat (first | exact HR0.out | (with_reducible refine Kd.C_alloc ?_ _) | (with_reducible refine Kd.C_drewN ?_ _) | (with_reducible refine Kd.C_drew ?_))); (case side2 => exact HC0.out); rintro e w7 ⟨rfl, hb⟩; have n0_ := Aside0.mk (below_step (by repeat (first | (with_reducible first | exact HB.out | apply below_alloc | apply pw_below_drewN | apply below_drew1) | exact HB.out)) hb); clear HB; have HB := n0_; clear n0_; (try clear hb); (try clear hb2); (try clear hk); (try clear hi))); go_upto_region 3 with (first | (go_at_call 52; (with_reducible refine (shunt_isOrder.calls _ _ l0 true _ ?side1 ?side2 A4.out).mono ?_); (case side1 => repeat (first | exact HR0.out | (with_reducible refine Kd.C_alloc ?_ _) | (with_reducible refine Kd.C_drewN ?_ _) | (with_reducible refine Kd.C_drew ?_))); (case side2 => exact HC0.out); rintro e w7 ⟨rfl, hb⟩; have n0_ := Aside0.mk (below_step (by repeat (first | (with_reducible first | exact HB.out | apply below_alloc | apply pw_below_drewN | apply below_drew1) | exact HB.out)) hb); clear HB; have HB := n0_; clear n0_; (try clear hb); (try clear hb2); (try clear hk); (try clear hi))))
  (try simp only [Act.put, List.setIfInBounds_toArray, List.set_cons_zero, List.set_cons_succ])
  go_cut [7] (fun v7 wc => ∃ (kq : Nat) (x7_5 : Bool), v7 = .bool x7_5 ∧ Aside0 (shunt_CheckStacks.j0 kq l0 l1 l2 x7_5 = some r) ∧ Aside0 (kq ≤ k) ∧ Aside0 (Below w.heap.size w wc))
  case first =>
   have H := HC6.out
   clear HC6
   by_cases c8 : (l1.length : Int) = 0
   ·rw [if_pos c8] at H
    have c8b0 : ((l1.length : Int) == 0) = true := beq_iff_eq.mpr c8
    have c8b1 : ((l1.length : Int) != 0) = false := bne_eq_false_iff_eq.mpr c8
    clear c8
    (first | rw [c8b0] | (simp only [i64_w, i32_w]; rw [c8b0]) | skip)
    replace H := Option.bind_eq_some_iff.mp H
    obtain ⟨t530, A90, H⟩ := H
    replace H : (shunt_CheckStacks.j0 k l0 l1 l2 t530) = some r := H
    have A9 := Aside0.mk A90
    clear A90
    have H' := Aside0.mk H
    clear H
    go_wp2_with (first | (go_at_call 69; (with_reducible refine (shunt_isCycle.calls k _ _ l0 _ _ l2 t530 _ ?side1 ?side2 ?side3 ?side4 A9.out).mono ?_); (case side1 => repeat (first | exact (Kd.C_below HR0.out HB.out) | (with_reducible refine Kd.C_alloc ?_ _) | (with_reducible refine Kd.C_drewN ?_ _) | (with_reducible refine Kd.C_drew ?_))); (case side2 => exact HC0.out); (case side3 => repeat (first | exact (Kd.C_below HR2.out HB.out) | (with_reducible refine Kd.C_alloc ?_ _) | (with_reducible refine Kd.C_drewN ?_ _) | (with_reducible refine Kd.C_drew ?_))); (case side4 => exact HC2.out); rintro e w10 ⟨rfl, hb⟩; have n0_ := Aside0.mk (below_step (by repeat (first | (with_reducible first | exact HB.out | apply below_alloc | apply pw_below_drewN | apply below_drew1) | exact HB.out)) hb); clear HB; have HB := n0_; clear n0_; (try clear hb); (try clear hb2); (try clear hk); (try clear hi)))
    repeat (go_quiet (first | (go_at_call 69; (with_reducible refine (shunt_isCycle.calls k _ _ l0 _ _ l2 t530 _ ?side1 ?side2 ?side3 ?side4 A9.out).mono ?_); (case side1 => repeat (first | exact (Kd.C_below HR0.out HB.out) | (with_reducible refine Kd.C_alloc ?_ _) | (with_reducible refine Kd.C_drewN ?_ _) | (with_reducible refine Kd.C_drew ?_))); (case side2 => exact HC0.out); (case side3 => repeat (first | exact (Kd.C_below HR2.out HB.out) | (with_reducible refine Kd.C_alloc ?_ _) | (with_reducible refine Kd.C_drewN ?_ _) | (with_reducible refine Kd.C_drew ?_))); (case side4 => exact HC2.out); rintro e w10 ⟨rfl, hb⟩; have n0_ := Aside0.mk (below_step (by repeat (first | (with_reducible first | exact HB.out | apply below_alloc | apply pw_below_drewN | apply below_drew1) | exact HB.out)) hb); clear HB; have HB := n0_; clear n0_; (try clear hb); (try clear hb2); (try clear hk); (try clear hi))); try go_wp2_with (first | (go_at_call 69; (with_reducible refine (shunt_isCycle.calls k _ _ l0 _ _ l2 t530 _ ?side1 ?side2 ?side3 ?side4 A9.out).mono ?_); (case side1 => repeat (first | exact (Kd.C_below HR0.out HB.out) | (with_reducible refine Kd.C_alloc ?_ _) | (with_reducible refine Kd.C_drewN ?_ _) | (with_reducible refine Kd.C_drew ?_))); (case side2 => exact HC0.out); (case side3 => repeat (first | exact (Kd.C_below HR2.out HB.out) | (with_reducible refine Kd.C_alloc ?_ _) | (with_reducible refine Kd.C_drewN ?_ _) | (with_reducible refine Kd.C_drew ?_))); (case side4 => exact HC2.out); rintro e w10 ⟨rfl, hb⟩; have n0_ := Aside0.mk (below_step (by repeat (first | (with_reducible first | exact HB.out | apply below_alloc | apply pw_below_drewN | apply below_drew1) | exact HB.out)) hb); clear HB; have HB := n0_; clear n0_; (try clear hb); (try clear hb2); (try clear hk); (try clear hi))))
    go_meet
    case rel => exact ⟨_, (t530), (by first | rfl | (simp; done) | (simp [*]; done)), H', ⟨by first | omega | exact Nat.le_refl _⟩, ⟨by repeat (first | (with_reducible first | exact HB.out | apply below_alloc | apply pw_below_drewN | apply below_drew1) | exact HB.out)⟩⟩
   ·rw [if_neg c8] at H
    have c8b0 : ((l1.length : Int) == 0) = false := beq_eq_false_iff_ne.mpr c8
    have c8b1 : ((l1.length : Int) != 0) = true := bne_iff_ne.mpr c8
    have c8b2 : ¬ (l1 = []) := fun h_ => c8 (by rw [h_]; rfl)
    (first | rw [c8b0] | (simp only [i64_w, i32_w]; rw [c8b0]) | skip)
    have H' := Aside0.mk H
    clear H
    go_wp2
    repeat (go_quiet (fail); try go_wp2)
    go_meet
    case rel => exact ⟨_, (false), (by first | rfl | (simp; done) | (simp [*]; done)), H', ⟨by first | omega | exact Nat.le_refl _⟩, ⟨by repeat (first | (with_reducible first | exact HB.out | apply below_alloc | apply pw_below_drewN | apply below_drew1) | exact HB.out)⟩⟩
  case rest =>
   clear HC6
   try clear c1
   try clear c2
   try clear p2
   try clear c4
   try clear c5
   try clear c8
   try clear c8b0
   try clear c8b1
   try clear c8b2
   obtain ⟨kq, x7_5, rfl, HA, HJ5, HB⟩ := hcut
   cases kq with
   | zero => exact absurd HA.out (by simp [shunt_CheckStacks.j0])
   | succ kj5 =>
    have H := HA.out
    clear HA
    simp only [shunt_CheckStacks.j0] at H
    have HC11 := Aside0.mk H
    clear H
    go_upto_region 4 with (fail)
    repeat (go_quiet (fail); go_upto_region 4 with (fail))
    go_cut [30] (fun v30 wc => ∃ (kq : Nat) (x30_10 : Bool), v30 = .bool x30_10 ∧ Aside0 (shunt_CheckStacks.j1 kq l0 l1 x7_5 x30_10 = some r) ∧ Aside0 (kq ≤ kj5) ∧ Aside0 (Below w.heap.size w wc))
    case first =>
     have H := HC11.out
     clear HC11
     by_cases c12 : (l1.length : Int) = (l0.length : Int)
     ·rw [if_pos c12] at H
      have c12b0 : ((l1.length : Int) == (l0.length : Int)) = true := beq_iff_eq.mpr c12
      have c12b1 : ((l1.length : Int) != (l0.length : Int)) = false := bne_eq_false_iff_eq.mpr c12
      have c12b2 : (l1.length == l0.length) = true := by first | simpa using c12 | (simp at c12 ⊢; omega)
      clear c12
      (first | rw [c12b0] | (simp only [i64_w, i32_w]; rw [c12b0]) | skip)
      have H' := Aside0.mk H
      clear H
      go_wp2
      repeat (go_quiet (fail); try go_wp2)
      go_meet
      case rel => exact ⟨_, (((l2.length : Int) == 0)), (by first | rfl | (simp; done) | (simp [*]; done)), H', ⟨by have := HJ5.out; first | omega | exact Nat.le_refl _⟩, ⟨by repeat (first | (with_reducible first | exact HB.out | apply below_alloc | apply pw_below_drewN | apply below_drew1) | exact HB.out)⟩⟩
     ·rw [if_neg c12] at H
      have c12b0 : ((l1.length : Int) == (l0.length : Int)) = false := beq_eq_false_iff_ne.mpr c12
      have c12b1 : ((l1.length : Int) != (l0.length : Int)) = true := bne_iff_ne.mpr c12
      have c12b2 : (l1.length == l0.length) = false := by first | simpa using c12 | (simp at c12 ⊢; omega)
      (first | rw [c12b0] | (simp only [i64_w, i32_w]; rw [c12b0]) | skip)
      have H' := Aside0.mk H
      clear H
      go_wp2
      repeat (go_quiet (fail); try go_wp2)
      go_meet
      case rel => exact ⟨_, (false), (by first | rfl | (simp; done) | (simp [*]; done)), H', ⟨by have := HJ5.out; first | omega | exact Nat.le_refl _⟩, ⟨by repeat (first | (with_reducible first | exact HB.out | apply below_alloc | apply pw_below_drewN | apply below_drew1) | exact HB.out)⟩⟩
    case rest =>
     clear HC11
     try clear c1
     try clear c2
     try clear p2
     try clear c4
     try clear c5
     try clear c8
     try clear c8b0
     try clear c8b1
     try clear c8b2
     try clear c12
     try clear c12b0
     try clear c12b1
     try clear c12b2
     try clear p2
     obtain ⟨kq, x30_10, rfl, HA, HJ10, HB⟩ := hcut
     cases kq with
     | zero => exact absurd HA.out (by simp [shunt_CheckStacks.j1])
     | succ kj10 =>
      have H := HA.out
      clear HA
      simp only [shunt_CheckStacks.j1] at H
      by_cases c13 : x30_10 = true
      ·subst c13
       have H1 : ((slices_ContainsFunc_int_int.f l1).bind fun t531 => (shunt_CheckStacks.l0 kj10 l0 l1 (!t531) (l1.length : Int) 0)) = some r := by rw [if_pos rfl] at H; exact H
       clear H
       have H := H1
       clear H1
       replace H := Option.bind_eq_some_iff.mp H
       obtain ⟨t531, A140, H⟩ := H
       replace H : (shunt_CheckStacks.l0 kj10 l0 l1 (!t531) (l1.length : Int) 0) = some r := H
       have A14 := Aside0.mk A140
       clear A140
       have H' := Aside0.mk H
       clear H
       go_wp2_with (first | (go_at_call 70; (with_reducible refine (slices_ContainsFunc_int_int.calls _ _ l1 t531 _ ?side1 ?side2 A14.out).mono ?_); (case side1 => repeat (first | exact (Kd.C_below HR1.out HB.out) | (with_reducible refine Kd.C_alloc ?_ _) | (with_reducible refine Kd.C_drewN ?_ _) | (with_reducible refine Kd.C_drew ?_))); (case side2 => exact HC1.out); rintro e w' ⟨rfl, ⟨nd, rfl⟩⟩; (try first | exact ⟨rfl, _, World.drewN_drewN _ _ _⟩ | exact ⟨rfl, _, Eq.trans (World.drewN_drewN _ _ _) (congrArg (World.drewN _) (Nat.add_assoc _ _ _))⟩)))
       repeat (go_quiet (first | (go_at_call 70; (with_reducible refine (slices_ContainsFunc_int_int.calls _ _ l1 t531 _ ?side1 ?side2 A14.out).mono ?_); (case side1 => repeat (first | exact (Kd.C_below HR1.out HB.out) | (with_reducible refine Kd.C_alloc ?_ _) | (with_reducible refine Kd.C_drewN ?_ _) | (with_reducible refine Kd.C_drew ?_))); (case side2 => exact HC1.out); rintro e w' ⟨rfl, ⟨nd, rfl⟩⟩; (try first | exact ⟨rfl, _, World.drewN_drewN _ _ _⟩ | exact ⟨rfl, _, Eq.trans (World.drewN_drewN _ _ _) (congrArg (World.drewN _) (Nat.add_assoc _ _ _))⟩))); try go_wp2_with (first | (go_at_call 70; (with_reducible refine (slices_ContainsFunc_int_int.calls _ _ l1 t531 _ ?side1 ?side2 A14.out).mono ?_); (case side1 => repeat (first | exact (Kd.C_below HR1.out HB.out) | (with_reducible refine Kd.C_alloc ?_ _) | (with_reducible refine Kd.C_drewN ?_ _) | (with_reducible refine Kd.C_drew ?_))); (case side2 => exact HC1.out); rintro e w' ⟨rfl, ⟨nd, rfl⟩⟩; (try first | exact ⟨rfl, _, World.drewN_drewN _ _ _⟩ | exact ⟨rfl, _, Eq.trans (World.drewN_drewN _ _ _) (congrArg (World.drewN _) (Nat.add_assoc _ _ _))⟩))))
       go_loopg [7, 36] kj10 (fun kq v7 v36 w' => ∃ (x7_3 : Bool) (x36_3 : Int), v7 = .bool x7_3 ∧ v36 = .int .i64 x36_3 ∧ Aside0 (shunt_CheckStacks.l0 kq l0 l1 x7_3 (l1.length : Int) x36_3 = some r) ∧ Aside0 (kq ≤ kj10) ∧ Aside0 (Below w.heap.size w w'))
       case atStart => exact ⟨(!t531), (0), (by first | rfl | (simp; done) | (simp [*]; done)), (by first | rfl | (simp; done) | (simp [*]; done)), H', ⟨Nat.le_refl _⟩, ⟨by repeat (first | (with_reducible first | exact HB.out | apply below_alloc | apply pw_below_drewN | apply below_drew1) | exact HB.out)⟩⟩
       case round =>
        clear H'
        try clear c1
        try clear c2
        try clear p2
        try clear c4
        try clear c5
        try clear c8
        try clear c8b0
        try clear c8b1
        try clear c8b2
        try clear c12
        try clear c12b0
        try clear c12b1
        try clear c12b2
        try clear c13
        try clear p2
        obtain ⟨x7_3, x36_3, rfl, rfl, HA, HK3, HB⟩ := hrel
        cases gk with
        | zero => exact absurd HA.out (by simp [shunt_CheckStacks.l0])
        | succ k3 =>
         have H := HA.out
         clear HA
         simp only [shunt_CheckStacks.l0] at H
         by_cases c15 : x36_3 < (l1.length : Int)
         ·rw [if_pos c15] at H
          have c15b0 : decide (x36_3 < (l1.length : Int)) = true := decide_eq_true c15
          clear c15
          have H' := Aside0.mk H
          clear H
          go_wp2
          repeat (go_quiet (fail); try go_wp2)
          go_loopg [7, 40] k3 (fun kq v7 v40 w' => ∃ (x7_4 : Bool) (x40_4 : Int), v7 = .bool x7_4 ∧ v40 = .int .i64 x40_4 ∧ Aside0 (shunt_CheckStacks.l1 kq l0 l1 x7_4 x36_3 (l1.length : Int) x36_3 x36_3 x40_4 = some r) ∧ Aside0 (kq ≤ k3) ∧ Aside0 (Below w.heap.size w w'))
          case atStart => exact ⟨(x7_3), (0), (by first | rfl | (simp; done) | (simp [*]; done)), (by first | rfl | (simp; done) | (simp [*]; done)), H', ⟨Nat.le_refl _⟩, ⟨by repeat (first | (with_reducible first | exact HB.out | apply below_alloc | apply pw_below_drewN | apply below_drew1) | exact HB.out)⟩⟩
          case round =>
           clear H'
           try clear c1
           try clear c2
           try clear p2
           try clear c4
           try clear c5
           try clear c8
           try clear c8b0
           try clear c8b1
           try clear c8b2
           try clear c12
           try clear c12b0
           try clear c12b1
           try clear c12b2
           try clear c13
           try clear c15
           try clear c15b0
           try clear p2
           obtain ⟨x7_4, x40_4, rfl, rfl, HA, HK4, HB⟩ := hrel
           cases gk with
           | zero => exact absurd HA.out (by simp [shunt_CheckStacks.l1])
           | succ k4 =>
            have H := HA.out
            clear HA
            simp only [shunt_CheckStacks.l1] at H
            by_cases c16 : x40_4 < x36_3
            ·rw [if_pos c16] at H
             have c16b0 : decide (x40_4 < x36_3) = true := decide_eq_true c16
             clear c16
             by_cases c17 : x7_4 = true
             ·subst c17
              have H1 : (if 0 ≤ x40_4 then (if x40_4 < (l1.length : Int) then (if 0 ≤ x36_3 then (if x36_3 < (l1.length : Int) then (if (rd l1 x40_4) = (rd l1 x36_3) then ((shunt_blocking.f k4 l0 x40_4 x36_3).bind fun t534 => (shunt_CheckStacks.l1 k4 l0 l1 (t534 == 0) x36_3 (l1.length : Int) x36_3 x36_3 (wrap64 (x40_4 + 1)))) else (shunt_CheckStacks.l1 k4 l0 l1 true x36_3 (l1.length : Int) x36_3 x36_3 (wrap64 (x40_4 + 1)))) else (none)) else (none)) else (none)) else (none)) = some r := by rw [if_pos rfl] at H; exact H
              clear H
              have H := H1
              clear H1
              by_cases c18 : 0 ≤ x40_4
              ·rw [if_pos c18] at H
               have c18b0 : decide (0 ≤ x40_4) = true := decide_eq_true c18
               clear c18
               by_cases c19 : x40_4 < (l1.length : Int)
               ·rw [if_pos c19] at H
                have c19b0 : decide (x40_4 < (l1.length : Int)) = true := decide_eq_true c19
                clear c19
                by_cases c20 : 0 ≤ x36_3
                ·rw [if_pos c20] at H
                 have c20b0 : decide (0 ≤ x36_3) = true := decide_eq_true c20
                 clear c20
                 by_cases c21 : x36_3 < (l1.length : Int)
                 ·rw [if_pos c21] at H
                  have c21b0 : decide (x36_3 < (l1.length : Int)) = true := decide_eq_true c21
                  clear c21
                  by_cases c22 : (rd l1 x40_4) = (rd l1 x36_3)
                  ·rw [if_pos c22] at H
                   have c22b0 : ((rd l1 x40_4) == (rd l1 x36_3)) = true := beq_iff_eq.mpr c22
                   have c22b1 : ((rd l1 x40_4) != (rd l1 x36_3)) = false := bne_eq_false_iff_eq.mpr c22
                   clear c22
                   replace H := Option.bind_eq_some_iff.mp H
                   obtain ⟨t534, A230, H⟩ := H
                   replace H : (shunt_CheckStacks.l1 k4 l0 l1 (t534 == 0) x36_3 (l1.length : Int) x36_3 x36_3 (wrap64 (x40_4 + 1))) = some r := H
                   have A23 := Aside0.mk A230
                   clear A230
                   have H' := Aside0.mk H
                   clear H
                   have p532 : 0 ≤ (x40_4 : Int) := of_decide_eq_true (by first | (with_reducible assumption) | assumption)
                   have q532 : x40_4 < (l1.length : Int) := of_decide_eq_true (by first | (with_reducible assumption) | assumption)
                   obtain ⟨ad532, e532, hx532_0⟩ := Kd.at_int HR1.out x40_4 p532 q532
                   cases e532
                   replace hx532_0 := (HB.out.cell (World.block_lt_of_cell? w _ hx532_0)).trans hx532_0
                   replace p532 := eq_true p532
                   replace q532 := eq_true q532
                   have p533 : 0 ≤ (x36_3 : Int) := of_decide_eq_true (by first | (with_reducible assumption) | assumption)
                   have q533 : x36_3 < (l1.length : Int) := of_decide_eq_true (by first | (with_reducible assumption) | assumption)
                   obtain ⟨ad533, e533, hx533_0⟩ := Kd.at_int HR1.out x36_3 p533 q533
                   obtain rfl : ad532 = ad533 := (by injection e533)
                   replace hx533_0 := (HB.out.cell (World.block_lt_of_cell? w _ hx533_0)).trans hx533_0
                   replace p533 := eq_true p533
                   replace q533 := eq_true q533
                   go_wp2_with (first | (go_at_call 72; (with_reducible refine (shunt_blocking.calls k4 _ _ l0 x40_4 x36_3 t534 _ ?side1 ?side2 A23.out).mono ?_); (case side1 => repeat (first | exact (Kd.C_below HR0.out HB.out) | (with_reducible refine Kd.C_alloc ?_ _) | (with_reducible refine Kd.C_drewN ?_ _) | (with_reducible refine Kd.C_drew ?_))); (case side2 => exact HC0.out); rintro e w' ⟨rfl, ⟨nd, rfl⟩⟩; (try first | exact ⟨rfl, _, World.drewN_drewN _ _ _⟩ | exact ⟨rfl, _, Eq.trans (World.drewN_drewN _ _ _) (congrArg (World.drewN _) (Nat.add_assoc _ _ _))⟩)))
                   repeat (go_quiet (first | (go_at_call 72; (with_reducible refine (shunt_blocking.calls k4 _ _ l0 x40_4 x36_3 t534 _ ?side1 ?side2 A23.out).mono ?_); (case side1 => repeat (first | exact (Kd.C_below HR0.out HB.out) | (with_reducible refine Kd.C_alloc ?_ _) | (with_reducible refine Kd.C_drewN ?_ _) | (with_reducible refine Kd.C_drew ?_))); (case side2 => exact HC0.out); rintro e w' ⟨rfl, ⟨nd, rfl⟩⟩; (try first | exact ⟨rfl, _, World.drewN_drewN _ _ _⟩ | exact ⟨rfl, _, Eq.trans (World.drewN_drewN _ _ _) (congrArg (World.drewN _) (Nat.add_assoc _ _ _))⟩))); try go_wp2_with (first | (go_at_call 72; (with_reducible refine (shunt_blocking.calls k4 _ _ l0 x40_4 x36_3 t534 _ ?side1 ?side2 A23.out).mono ?_); (case side1 => repeat (first | exact (Kd.C_below HR0.out HB.out) | (with_reducible refine Kd.C_alloc ?_ _) | (with_reducible refine Kd.C_drewN ?_ _) | (with_reducible refine Kd.C_drew ?_))); (case side2 => exact HC0.out); rintro e w' ⟨rfl, ⟨nd, rfl⟩⟩; (try first | exact ⟨rfl, _, World.drewN_drewN _ _ _⟩ | exact ⟨rfl, _, Eq.trans (World.drewN_drewN _ _ _) (congrArg (World.drewN _) (Nat.add_assoc _ _ _))⟩))))
                   go_roundg k4
                   case measure => have := HJ5.out; have := HJ10.out; have := HK3.out; have := HK4.out; omega
                   case rel => exact ⟨((t534 == 0)), (wrap64 (x40_4 + 1)), (by first | rfl | (simp; done) | (simp [*]; done)), (by first | rfl | (simp; done) | (simp [*]; done)), H', ⟨by have := HJ5.out; have := HJ10.out; have := HK3.out; have := HK4.out; omega⟩, ⟨by repeat (first | (with_reducible first | exact HB.out | apply below_alloc | apply pw_below_drewN | apply below_drew1) | exact HB.out)⟩⟩
                  ·rw [if_neg c22] at H
                   have c22b0 : ((rd l1 x40_4) == (rd l1 x36_3)) = false := beq_eq_false_iff_ne.mpr c22
                   have c22b1 : ((rd l1 x40_4) != (rd l1 x36_3)) = true := bne_iff_ne.mpr c22
                   have H' := Aside0.mk H
                   clear H
                   have p532 : 0 ≤ (x40_4 : Int) := of_decide_eq_true (by first | (with_reducible assumption) | assumption)
                   have q532 : x40_4 < (l1.length : Int) := of_decide_eq_true (by first | (with_reducible assumption) | assumption)
                   obtain ⟨ad532, e532, hx532_0⟩ := Kd.at_int HR1.out x40_4 p532 q532
                   cases e532
                   replace hx532_0 := (HB.out.cell (World.block_lt_of_cell? w _ hx532_0)).trans hx532_0
                   replace p532 := eq_true p532
                   replace q532 := eq_true q532
                   have p533 : 0 ≤ (x36_3 : Int) := of_decide_eq_true (by first | (with_reducible assumption) | assumption)
                   have q533 : x36_3 < (l1.length : Int) := of_decide_eq_true (by first | (with_reducible assumption) | assumption)
                   obtain ⟨ad533, e533, hx533_0⟩ := Kd.at_int HR1.out x36_3 p533 q533
                   obtain rfl : ad532 = ad533 := (by injection e533)
                   replace hx533_0 := (HB.out.cell (World.block_lt_of_cell? w _ hx533_0)).trans hx533_0
                   replace p533 := eq_true p533
                   replace q533 := eq_true q533
                   go_wp2
                   repeat (go_quiet (fail); try go_wp2)
                   go_roundg k4
                   case measure => have := HJ5.out; have := HJ10.out; have := HK3.out; have := HK4.out; omega
                   case rel => exact ⟨(true), (wrap64 (x40_4 + 1)), (by first | rfl | (simp; done) | (simp [*]; done)), (by first | rfl | (simp; done) | (simp [*]; done)), H', ⟨by have := HJ5.out; have := HJ10.out; have := HK3.out; have := HK4.out; omega⟩, ⟨by repeat (first | (with_reducible first | exact HB.out | apply below_alloc | apply pw_below_drewN | apply below_drew1) | exact HB.out)⟩⟩
                 ·rw [if_neg c21] at H
                  exact absurd H (by simp)
                ·rw [if_neg c20] at H
                 exact absurd H (by simp)
               ·rw [if_neg c19] at H
                exact absurd H (by simp)
              ·rw [if_neg c18] at H
               exact absurd H (by simp)
             ·replace c17 := Bool.eq_false_iff.mpr c17
              subst c17
              have H1 : (shunt_CheckStacks.l1 k4 l0 l1 false x36_3 (l1.length : Int) x36_3 x36_3 (wrap64 (x40_4 + 1))) = some r := by rw [if_neg (show ¬ (false = true) by decide)] at H; exact H
              clear H
              have H := H1
              clear H1
              have H' := Aside0.mk H
              clear H
              go_wp2
              repeat (go_quiet (fail); try go_wp2)
              go_roundg k4
              case measure => have := HJ5.out; have := HJ10.out; have := HK3.out; have := HK4.out; omega
              case rel => exact ⟨(false), (wrap64 (x40_4 + 1)), (by first | rfl | (simp; done) | (simp [*]; done)), (by first | rfl | (simp; done) | (simp [*]; done)), H', ⟨by have := HJ5.out; have := HJ10.out; have := HK3.out; have := HK4.out; omega⟩, ⟨by repeat (first | (with_reducible first | exact HB.out | apply below_alloc | apply pw_below_drewN | apply below_drew1) | exact HB.out)⟩⟩
            ·rw [if_neg c16] at H
             have c16b0 : decide (x40_4 < x36_3) = false := decide_eq_false c16
             clear c16
             have H' := Aside0.mk H
             clear H
             go_wp2
             repeat (go_quiet (fail); try go_wp2)
             go_roundg k4
             case measure => have := HJ5.out; have := HJ10.out; have := HK3.out; have := HK4.out; omega
             case rel => exact ⟨(x7_4), (wrap64 (x36_3 + 1)), (by first | rfl | (simp; done) | (simp [*]; done)), (by first | rfl | (simp; done) | (simp [*]; done)), H', ⟨by have := HJ5.out; have := HJ10.out; have := HK3.out; have := HK4.out; omega⟩, ⟨by repeat (first | (with_reducible first | exact HB.out | apply below_alloc | apply pw_below_drewN | apply below_drew1) | exact HB.out)⟩⟩
         ·rw [if_neg c15] at H
          have c15b0 : decide (x36_3 < (l1.length : Int)) = false := decide_eq_false c15
          clear c15
          by_cases c24 : x7_3 = true
          ·subst c24
           have H1 : (some 0) = some r := by rw [if_pos rfl] at H; exact H
           clear H
           have H := H1
           clear H1
           obtain rfl := Option.some.inj H
           go_wp2
           repeat (go_quiet (fail); try go_wp2)
           go_ret
           exact ⟨by first | rfl | (simp [errW_none, errW_some] <;> rfl) | (simp [*, errW_none, errW_some] <;> rfl), by repeat (first | (with_reducible first | exact HB.out | apply below_alloc | apply pw_below_drewN | apply below_drew1) | exact HB.out)⟩
          ·replace c24 := Bool.eq_false_iff.mpr c24
           subst c24
           have H1 : (some 10) = some r := by rw [if_neg (show ¬ (false = true) by decide)] at H; exact H
           clear H
           have H := H1
           clear H1
           obtain rfl := Option.some.inj H
           go_wp2
           repeat (go_quiet (fail); try go_wp2)
           go_ret
           exact ⟨by first | rfl | (simp [errW_none, errW_some] <;> rfl) | (simp [*, errW_none, errW_some] <;> rfl), by repeat (first | (with_reducible first | exact HB.out | apply below_alloc | apply pw_below_drewN | apply below_drew1) | exact HB.out)⟩
      ·replace c13 := Bool.eq_false_iff.mpr c13
       subst c13
       have H1 : (if x7_5 = true then (some 0) else (some 10)) = some r := by rw [if_neg (show ¬ (false = true) by decide)] at H; exact H
       clear H
       have H := H1
       clear H1
       by_cases c25 : x7_5 = true
       ·subst c25
        have H1 : (some 0) = some r := by rw [if_pos rfl] at H; exact H
        clear H
        have H := H1
        clear H1
        obtain rfl := Option.some.inj H
        go_wp2
        repeat (go_quiet (fail); try go_wp2)
        go_ret
        exact ⟨by first | rfl | (simp [errW_none, errW_some] <;> rfl) | (simp [*, errW_none, errW_some] <;> rfl), by repeat (first | (with_reducible first | exact HB.out | apply below_alloc | apply pw_below_drewN | apply below_drew1) | exact HB.out)⟩
       ·replace c25 := Bool.eq_false_iff.mpr c25
        subst c25
        have H1 : (some 10) = some r := by rw [if_neg (show ¬ (false = true) by decide)] at H; exact H
        clear H
        have H := H1
        clear H1
        obtain rfl := Option.some.inj H
        go_wp2
        repeat (go_quiet (fail); try go_wp2)
        go_ret
        exact ⟨by first | rfl | (simp [errW_none, errW_some] <;> rfl) | (simp [*, errW_none, errW_some] <;> rfl), by repeat (first | (with_reducible first | exact HB.out | apply below_alloc | apply pw_below_drewN | apply below_drew1) | exact HB.out)⟩
 ·replace c5 := Bool.eq_false_iff.mpr c5
  subst c5
  have H1 : (some 2) = some r := by rw [if_neg (show ¬ (false = true) by decide)] at H; exact H
  clear H
  have H := H1
  clear H1
  obtain rfl := Option.some.inj H
  go_enter Try.func45, Try.ntmps45
  go_wp2_with (first | (go_at_call 52; (with_reducible refine (shunt_isOrder.calls _ _ l0 false _ ?side1 ?side2 A4.out).mono ?_); (case side1 => repeat (first | exact HR0.out | (with_reducible refine Kd.C_alloc ?_ _) | (with_reducible refine Kd.C_drewN ?_ _) | (with_reducible refine Kd.C_drew ?_))); (case side2 => exact HC0.out); rintro e w26 ⟨rfl, hb⟩; have n0_ := Aside0.mk (below_step (by repeat (first | (with_reducible first | exact HB.out | apply below_alloc | apply pw_below_drewN | apply below_drew1) | exact HB.out)) hb); clear HB; have HB := n0_; clear n0_; (try clear hb); (try clear hb2); (try clear hk); (try clear hi)))
  repeat (go_quiet (first | (go_at_call 52; (with_reducible refine (shunt_isOrder.calls _ _ l0 false _ ?side1 ?side2 A4.out).mono ?_); (case side1 => repeat (first | exact HR0.out | (with_reducible refine Kd.C_alloc ?_ _) | (with_reducible refine Kd.C_drewN ?_ _) | (with_reducible refine Kd.C_drew ?_))); (case side2 => exact HC0.out); rintro e w26 ⟨rfl, hb⟩; have n0_ := Aside0.mk (below_step (by repeat (first | (with_reducible first | exact HB.out | apply below_alloc | apply pw_below_drewN | apply below_drew1) | exact HB.out)) hb); clear HB; have HB := n0_; clear n0_; (try clear hb); (try clear hb2); (try clear hk); (try clear hi))); try go_wp2_with (first | (go_at_call 52; (with_reducible refine (shunt_isOrder.calls _ _ l0 false _ ?side1 ?side2 A4.out).mono ?_); (case side1 => repeat (first | exact HR0.out | (with_reducible refine Kd.C_alloc ?_ _) | (with_reducible refine Kd.C_drewN ?_ _) | (with_reducible refine Kd.C_drew ?_))); (case side2 => exact HC0.out); rintro e w26 ⟨rfl, hb⟩; have n0_ := Aside0.mk (below_step (by repeat (first | (with_reducible first | exact HB.out | apply below_alloc | apply pw_below_drewN | apply below_drew1) | exact HB.out)) hb); clear HB; have HB := n0_; clear n0_; (try clear hb); (try clear hb2); (try clear hk); (try clear hi))))
  go_ret
  exact ⟨by first | rfl | (simp [errW_none, errW_some] <;> rfl) | (simp [*, errW_none, errW_some] <;> rfl), by repeat (first | (with_reducible first | exact HB.out | apply below_alloc | apply pw_below_drewN | apply below_drew1) | exact HB.out)⟩

/-- Two stacks (tops first) in one block of two rows, made since w0. -/
def TwoIs (w0 W : World) (g : Nat) (s0 s1 : List Int) : Prop :=
 ∃ v0 v1, W.heap[g]? = some (.cells #[v0, v1] 86 (0, 0)) ∧ w0.heap.size ≤ g ∧ Kd.R (Kd.int .i64) 3 W w0.heap.size (fun k => some k ≠ v1.ownBlock) v0 s0.reverse ∧ Kd.R (Kd.int .i64) 3 W w0.heap.size (fun k => some k ≠ v0.ownBlock) v1 s1.reverse ∧ Below w0.heap.size w0 W
theorem TwoIs.below {w0 W : World} {g : Nat} {s0 s1 : List Int} (h : TwoIs w0 W g s0 s1) : Below w0.heap.size w0 W := by
 obtain ⟨_, _, _, _, _, _, h⟩ := h
 exact h
theorem TwoIs.drewN {w0 W : World} {g : Nat} {s0 s1 : List Int} (h : TwoIs w0 W g s0 s1) (n : Nat) : TwoIs w0 (W.drewN n) g s0 s1 := by
 obtain ⟨v0, v1, hb, hg, h1, h2, h3⟩ := h
 exact ⟨v0, v1, hb, hg, Kd.R_drewN h1 n, Kd.R_drewN h2 n, pw_below_drewN h3 n⟩
theorem TwoIs.new (w0 W : World) (hb : Below w0.heap.size w0 W) : TwoIs w0 (W.alloc (.cells #[.slice none 0 0, .slice none 0 0] 86)) W.heap.size [] [] :=
 ⟨_, _, heap_alloc_new W _, hb.size, Kd.R_mono (Kd.R_nil (Kd.int .i64) 3 _ _ (fun _ => False)) (fun _ h => h.elim), Kd.R_mono (Kd.R_nil (Kd.int .i64) 3 _ _ (fun _ => False)) (fun _ h => h.elim), below_alloc hb _⟩
theorem TwoIs.nil0 {w0 W : World} {g : Nat} {s1 : List Int} (h : TwoIs w0 W g [] s1) : ∃ A c, W.cell? ⟨g, 0, none⟩ = some (.slice A 0 c) := by
 obtain ⟨v0, v1, hb, hg, h0, h1, h3⟩ := h
 obtain ⟨A, c, e⟩ := Kd.R_slice h0
 exact ⟨A, c, ((blk_cell hb 0).trans rfl).trans (congrArg some e)⟩
set_option maxHeartbeats 800000 in
theorem TwoIs.top0 {w0 W : World} {g : Nat} {a : Int} {t s1 : List Int} (h : TwoIs w0 W g (a :: t) s1) :
  ∃ ad c, W.cell? ⟨g, 0, none⟩ = some (.slice (some ad) (t.length + 1) c) ∧ W.cell? (ad.add t.length) = some (.int .i64 a) ∧ t.length + 1 ≤ 9223372036854775807 ∧ W.frozen? ⟨g, 0, none⟩ = false ∧
   (∀ W' : World, (Instr.slice 22 (.slice (some ad) (t.length + 1) c) none (some (.int .i64 (t.length : Int))) none).run Try.prog W' = .ok (.slice (some ad) t.length c) W') ∧ TwoIs w0 (W.setCell ⟨g, 0, none⟩ (.slice (some ad) t.length c)) g t s1 := by
 obtain ⟨v0, v1, hb, hg, h0, h1, h3⟩ := h
 obtain ⟨A, c, e⟩ := Kd.R_slice h0
 subst e
 have hlen : (a :: t).reverse.length = t.length + 1 := by simp
 rw [hlen] at hb h0 h1
 have hrd := Kd.R_reads' h0
 rw [hlen] at hrd
 have hm := hrd.2.2.2.1
 rw [← hlen] at hrd
 obtain ⟨ad, ea, hx⟩ := Kd.at_int hrd.2.2 (t.length : Int) (by omega) (by rw [hlen]; omega)
 subst ea
 have hv : rd (a :: t).reverse (t.length : Int) = a := by
  unfold rd
  rw [List.reverse_cons, List.getD_eq_getElem?_getD, List.getElem?_append_right (by simp)]
  simp
 rw [hv] at hx
 obtain ⟨i0, hi0, _, _, _⟩ := info_parts info3
 have hcap : t.length + 1 ≤ c := by have := hrd.2.1; omega
 have hcut := cut_to (P := Try.prog) 22 3 .i64 Try.underlying22 hi0 (some ad) (t.length + 1) c (t.length : Int) (by omega) (by omega) hcap
 have htk : (a :: t).reverse.take t.length = t.reverse := by rw [List.reverse_cons, List.take_left' (by simp)]
 have h4 := Kd.R_take (m := t.length) h0 (by omega)
 rw [htk] at h4
 have e1 : (Value.slice (some ad) t.length c).ownBlock = (Value.slice (some ad) (t.length + 1) c).ownBlock := rfl
 refine ⟨ad, c, (blk_cell hb 0).trans rfl, hx, by omega, blk_frozen hb 0, hcut, ?_⟩
 exact ⟨_, v1, blk_put hb 0 _ rfl, hg, Kd.R_set h4 hb (by simp [Kd.int, Kd.scalar]) 0 _, by rw [e1]; exact Kd.R_set h1 hb (by simp [Kd.int, Kd.scalar]) 0 _, Below.setCell h3 (p := ⟨g, 0, none⟩) hg _⟩
set_option maxHeartbeats 800000 in
theorem TwoIs.push0 {w0 W : World} {g : Nat} {s0 s1 : List Int} (h : TwoIs w0 W g s0 s1) (x : Int) (hl : s0.length < 100000) :
  ∃ A c w1 A1 c1, W.cell? ⟨g, 0, none⟩ = some (.slice A s0.length c) ∧ (Builtin.append_ #[22, 22] 22 #[.slice A s0.length c, .slice (some ⟨W.heap.size, 0, none⟩) 1 1]).run Try.prog (W.alloc (.cells #[.int .i64 x] 3)) = .ok (.slice A1 (s0.length + 1) c1) w1 ∧
   w1.cell? ⟨g, 0, none⟩ = some (.slice A s0.length c) ∧ w1.frozen? ⟨g, 0, none⟩ = false ∧ TwoIs w0 (w1.setCell ⟨g, 0, none⟩ (.slice A1 (s0.length + 1) c1)) g (x :: s0) s1 := by
 obtain ⟨v0, v1, hb, hg, h0, h1, h3⟩ := h
 have hne1 : some g ≠ v0.ownBlock := Kd.R_ne h0 hb (by decide)
 have hsz : w0.heap.size ≤ W.heap.size := h3.size
 obtain ⟨u, w1, hrun, ho, hB1, hgr, hat⟩ := append_one (Kd.int .i64) (P := Try.prog) (w0 := w0) (W := W) w0.heap.size 22 22 3 (.int .i64 0) 8 Try.underlying22 info3 rfl (by decide) (by omega) (v := v0) (xs := s0.reverse) x [.int .i64 x] (ok := fun k => some k ≠ v1.ownBlock) (fun _ => False) rfl (fun _ h => h.elim) (fun k hk => by
   obtain ⟨inner, hob⟩ := Kd.R_own h1
   intro he
   have := own_lt hob k he.symm
   omega) h0 h3 hsz (by rw [List.length_reverse]; omega)
 obtain ⟨A1, c1, hv1⟩ := Kd.R_slice ho
 obtain ⟨A, c, hvl⟩ := Kd.R_slice h0
 have hb1 : w1.heap[g]? = some (.cells #[v0, v1] 86 (0, 0)) := blk_grown hb hgr hne1
 have h2' := Kd.R_after (Kd.R_mono h1 (fun k hk => ⟨trivial, hk⟩) : Kd.R (Kd.int .i64) 3 W w0.heap.size (fun k => True ∧ some k ≠ v0.ownBlock) v1 s1.reverse) hgr hat
 have e2 : s0.reverse ++ [x] = (x :: s0).reverse := by simp
 rw [e2] at ho
 have HL : TwoIs w0 (w1.setCell ⟨g, 0, none⟩ u) g (x :: s0) s1 :=
  ⟨u, v1, blk_put hb1 0 u rfl, hg, Kd.R_set ho hb1 (by simp [Kd.int, Kd.scalar]) 0 u, Kd.R_set (Kd.R_mono h2' (fun k hk => hk.2)) hb1 (by simp [Kd.int, Kd.scalar]) 0 u, Below.setCell hB1 (p := ⟨g, 0, none⟩) hg _⟩
 have hc1 : w1.cell? ⟨g, 0, none⟩ = some v0 := (blk_cell hb1 0).trans rfl
 have hc0 : W.cell? ⟨g, 0, none⟩ = some v0 := (blk_cell hb 0).trans rfl
 have hf1 : w1.frozen? ⟨g, 0, none⟩ = false := blk_frozen hb1 0
 subst hv1
 subst hvl
 simp only [List.length_append, List.length_cons, List.length_nil, List.length_reverse, Nat.zero_add] at HL hrun hc0 hc1
 exact ⟨A, c, w1, A1, c1, hc0, hrun, hc1, hf1, HL⟩
theorem TwoIs.nil1 {w0 W : World} {g : Nat} {s0 : List Int} (h : TwoIs w0 W g s0 []) : ∃ A c, W.cell? ⟨g, 1, none⟩ = some (.slice A 0 c) := by
 obtain ⟨v0, v1, hb, hg, h0, h1, h3⟩ := h
 obtain ⟨A, c, e⟩ := Kd.R_slice h1
 exact ⟨A, c, ((blk_cell hb 1).trans rfl).trans (congrArg some e)⟩
set_option maxHeartbeats 800000 in
theorem TwoIs.top1 {w0 W : World} {g : Nat} {a : Int} {t s0 : List Int} (h : TwoIs w0 W g s0 (a :: t)) :
  ∃ ad c, W.cell? ⟨g, 1, none⟩ = some (.slice (some ad) (t.length + 1) c) ∧ W.cell? (ad.add t.length) = some (.int .i64 a) ∧ t.length + 1 ≤ 9223372036854775807 ∧ W.frozen? ⟨g, 1, none⟩ = false ∧
   (∀ W' : World, (Instr.slice 22 (.slice (some ad) (t.length + 1) c) none (some (.int .i64 (t.length : Int))) none).run Try.prog W' = .ok (.slice (some ad) t.length c) W') ∧ TwoIs w0 (W.setCell ⟨g, 1, none⟩ (.slice (some ad) t.length c)) g s0 t := by
 obtain ⟨v0, v1, hb, hg, h0, h1, h3⟩ := h
 obtain ⟨A, c, e⟩ := Kd.R_slice h1
 subst e
 have hlen : (a :: t).reverse.length = t.length + 1 := by simp
 rw [hlen] at hb h0 h1
 have hrd := Kd.R_reads' h1
 rw [hlen] at hrd
 have hm := hrd.2.2.2.1
 rw [← hlen] at hrd
 obtain ⟨ad, ea, hx⟩ := Kd.at_int hrd.2.2 (t.length : Int) (by omega) (by rw [hlen]; omega)
 subst ea
 have hv : rd (a :: t).reverse (t.length : Int) = a := by
  unfold rd
  rw [List.reverse_cons, List.getD_eq_getElem?_getD, List.getElem?_append_right (by simp)]
  simp
 rw [hv] at hx
 obtain ⟨i0, hi0, _, _, _⟩ := info_parts info3
 have hcap : t.length + 1 ≤ c := by have := hrd.2.1; omega
 have hcut := cut_to (P := Try.prog) 22 3 .i64 Try.underlying22 hi0 (some ad) (t.length + 1) c (t.length : Int) (by omega) (by omega) hcap
 have htk : (a :: t).reverse.take t.length = t.reverse := by rw [List.reverse_cons, List.take_left' (by simp)]
 have h4 := Kd.R_take (m := t.length) h1 (by omega)
 rw [htk] at h4
 have e1 : (Value.slice (some ad) t.length c).ownBlock = (Value.slice (some ad) (t.length + 1) c).ownBlock := rfl
 refine ⟨ad, c, (blk_cell hb 1).trans rfl, hx, by omega, blk_frozen hb 1, hcut, ?_⟩
 exact ⟨v0, _, blk_put hb 1 _ rfl, hg, by rw [e1]; exact Kd.R_set h0 hb (by simp [Kd.int, Kd.scalar]) 1 _, Kd.R_set h4 hb (by simp [Kd.int, Kd.scalar]) 1 _, Below.setCell h3 (p := ⟨g, 1, none⟩) hg _⟩
set_option maxHeartbeats 800000 in
theorem TwoIs.push1 {w0 W : World} {g : Nat} {s0 s1 : List Int} (h : TwoIs w0 W g s0 s1) (x : Int) (hl : s1.length < 100000) :
  ∃ A c w1 A1 c1, W.cell? ⟨g, 1, none⟩ = some (.slice A s1.length c) ∧ (Builtin.append_ #[22, 22] 22 #[.slice A s1.length c, .slice (some ⟨W.heap.size, 0, none⟩) 1 1]).run Try.prog (W.alloc (.cells #[.int .i64 x] 3)) = .ok (.slice A1 (s1.length + 1) c1) w1 ∧
   w1.cell? ⟨g, 1, none⟩ = some (.slice A s1.length c) ∧ w1.frozen? ⟨g, 1, none⟩ = false ∧ TwoIs w0 (w1.setCell ⟨g, 1, none⟩ (.slice A1 (s1.length + 1) c1)) g s0 (x :: s1) := by
 obtain ⟨v0, v1, hb, hg, h0, h1, h3⟩ := h
 have hne1 : some g ≠ v1.ownBlock := Kd.R_ne h1 hb (by decide)
 have hsz : w0.heap.size ≤ W.heap.size := h3.size
 obtain ⟨u, w1, hrun, ho, hB1, hgr, hat⟩ := append_one (Kd.int .i64) (P := Try.prog) (w0 := w0) (W := W) w0.heap.size 22 22 3 (.int .i64 0) 8 Try.underlying22 info3 rfl (by decide) (by omega) (v := v1) (xs := s1.reverse) x [.int .i64 x] (ok := fun k => some k ≠ v0.ownBlock) (fun _ => False) rfl (fun _ h => h.elim) (fun k hk => by
   obtain ⟨inner, hob⟩ := Kd.R_own h0
   intro he
   have := own_lt hob k he.symm
   omega) h1 h3 hsz (by rw [List.length_reverse]; omega)
 obtain ⟨A1, c1, hv1⟩ := Kd.R_slice ho
 obtain ⟨A, c, hvl⟩ := Kd.R_slice h1
 have hb1 : w1.heap[g]? = some (.cells #[v0, v1] 86 (0, 0)) := blk_grown hb hgr hne1
 have h2' := Kd.R_after (Kd.R_mono h0 (fun k hk => ⟨trivial, hk⟩) : Kd.R (Kd.int .i64) 3 W w0.heap.size (fun k => True ∧ some k ≠ v1.ownBlock) v0 s0.reverse) hgr hat
 have e2 : s1.reverse ++ [x] = (x :: s1).reverse := by simp
 rw [e2] at ho
 have HL : TwoIs w0 (w1.setCell ⟨g, 1, none⟩ u) g s0 (x :: s1) :=
  ⟨v0, u, blk_put hb1 1 u rfl, hg, Kd.R_set (Kd.R_mono h2' (fun k hk => hk.2)) hb1 (by simp [Kd.int, Kd.scalar]) 1 u, Kd.R_set ho hb1 (by simp [Kd.int, Kd.scalar]) 1 u, Below.setCell hB1 (p := ⟨g, 1, none⟩) hg _⟩
 have hc1 : w1.cell? ⟨g, 1, none⟩ = some v1 := (blk_cell hb1 1).trans rfl
 have hc0 : W.cell? ⟨g, 1, none⟩ = some v1 := (blk_cell hb 1).trans rfl
 have hf1 : w1.frozen? ⟨g, 1, none⟩ = false := blk_frozen hb1 1
 subst hv1
 subst hvl
 simp only [List.length_append, List.length_cons, List.length_nil, List.length_reverse, Nat.zero_add] at HL hrun hc0 hc1
 exact ⟨A, c, w1, A1, c1, hc0, hrun, hc1, hf1, HL⟩
theorem pop1_len (s : List Int) (w : Int) : ((pop1 s w).1.length : Int) + (pop1 s w).2.1 = (s.length : Int) + w := by
 cases s with
 | nil => rfl
 | cons a t =>
  by_cases c : a = w
  ·rw [show pop1 (a :: t) w = (t, w + 1, true) from if_pos c]; simp; omega
  ·rw [show pop1 (a :: t) w = (a :: t, w, false) from if_neg c]
theorem drain2_len : ∀ (f : Nat) (s0 s1 : List Int) (w : Int), ((drain2 f s0 s1 w).1.length : Int) + (drain2 f s0 s1 w).2.1.length + (drain2 f s0 s1 w).2.2 = (s0.length : Int) + s1.length + w
 | 0, _, _, _ => rfl
 | f + 1, s0, s1, w => by
  unfold drain2
  by_cases c : ((pop1 s0 w).2.2 || (pop1 s1 (pop1 s0 w).2.1).2.2) = true
  ·rw [if_pos c, drain2_len f]
   have h0 := pop1_len s0 w
   have h1 := pop1_len s1 (pop1 s0 w).2.1
   omega
  ·rw [if_neg c]
def tickingref02_SidesSort.f (l0 l1 : List Int) : Option Bool :=
 if l0.length ≤ 1000 then
  (if l1.length = l0.length then
   (match sidesGo (l0.zip l1) [] [] 1 with
    | none => some false
    | some w => some (decide (w = (l0.length : Int) + 1)))
  else some false)
 else none
theorem pop1_false {s : List Int} {w : Int} (h : (pop1 s w).2.2 = false) : pop1 s w = (s, w, false) := by
 cases s with
 | nil => rfl
 | cons a t =>
  by_cases c : a = w
  ·rw [show pop1 (a :: t) w = (t, w + 1, true) from if_pos c] at h; cases h
  ·exact if_neg c
theorem pop1_true {s : List Int} {w : Int} (h : (pop1 s w).2.2 = true) : (pop1 s w).1.length + 1 = s.length := by
 cases s with
 | nil => cases h
 | cons a t =>
  by_cases c : a = w
  ·rw [show pop1 (a :: t) w = (t, w + 1, true) from if_pos c]; rfl
  ·rw [show pop1 (a :: t) w = (a :: t, w, false) from if_neg c] at h; cases h
theorem pop1_ge (s : List Int) (w : Int) : w ≤ (pop1 s w).2.1 ∧ (pop1 s w).2.1 ≤ w + 1 ∧ (pop1 s w).1.length ≤ s.length := by
 cases h : (pop1 s w).2.2 with
 | false => rw [pop1_false h]; simp; omega
 | true =>
  have h1 := pop1_true h
  have h2 := pop1_len s w
  omega
theorem drain_round {m : Nat} {t0 t1 : List Int} {wt : Int} {D : List Int × List Int × Int} (h : drain2 (m + 1) t0 t1 wt = D) (hl : t0.length + t1.length < m + 1) :
  if ((pop1 t0 wt).2.2 || (pop1 t1 (pop1 t0 wt).2.1).2.2) = true then drain2 m (pop1 t0 wt).1 (pop1 t1 (pop1 t0 wt).2.1).1 (pop1 t1 (pop1 t0 wt).2.1).2.1 = D ∧ (pop1 t0 wt).1.length + (pop1 t1 (pop1 t0 wt).2.1).1.length < m
  else ((pop1 t0 wt).1, (pop1 t1 (pop1 t0 wt).2.1).1, (pop1 t1 (pop1 t0 wt).2.1).2.1) = D := by
 unfold drain2 at h
 by_cases c : ((pop1 t0 wt).2.2 || (pop1 t1 (pop1 t0 wt).2.1).2.2) = true
 ·rw [if_pos c] at h ⊢
  refine ⟨h, ?_⟩
  have g0 := pop1_ge t0 wt
  have g1 := pop1_ge t1 (pop1 t0 wt).2.1
  rw [Bool.or_eq_true] at c
  rcases c with c | c
  ·have := pop1_true c; omega
  ·have := pop1_true c; omega
 ·rw [if_neg c] at h ⊢
  rw [Bool.or_eq_true] at c
  have c0 : (pop1 t0 wt).2.2 = false := by cases e : (pop1 t0 wt).2.2 <;> simp_all
  have c1 : (pop1 t1 (pop1 t0 wt).2.1).2.2 = false := by cases e : (pop1 t1 (pop1 t0 wt).2.1).2.2 <;> simp_all
  rw [pop1_false c1, pop1_false c0]
  exact h
set_option maxHeartbeats 4000000 in
set_option maxRecDepth 100000 in
theorem tickingref02_SidesSort.calls (A0 : Option Addr) (c0 : Nat) (l0 : List Int) (A1 : Option Addr) (c1 : Nat) (l1 : List Int) (r : Bool) (w : World) (hr0 : Kd.C (Kd.int .i64) w A0 l0.length l0) (hc0 : l0.length ≤ c0) (hr1 : Kd.C (Kd.int .i64) w A1 l1.length l1) (hc1 : l1.length ≤ c1) (h : tickingref02_SidesSort.f l0 l1 = some r) :
  Calls Try.prog 46 #[.slice A0 l0.length c0, .slice A1 l1.length c1] w fun e w' => e = .returned (.bool r) ∧ Below w.heap.size w w' := by
 have HR0 := Aside0.mk hr0
 have HR1 := Aside0.mk hr1
 clear hr0 hr1 hc0 hc1
 unfold tickingref02_SidesSort.f at h
 by_cases hl : l0.length ≤ 1000
 case neg => rw [if_neg hl] at h; cases h
 rw [if_pos hl] at h
 have HL := Aside0.mk hl
 by_cases hlen : l1.length = l0.length
 case neg =>
  rw [if_neg hlen] at h
  obtain rfl := Option.some.inj h
  have hb1 : ((l1.length : Int) != (l0.length : Int)) = true := by rw [bne_iff_ne]; omega
  have hb2 : (l1.length != l0.length) = true := by rw [bne_iff_ne]; exact hlen
  have hb3 : ((l1.length : Int) == (l0.length : Int)) = false := by rw [beq_eq_false_iff_ne]; omega
  have hb4 : (l1.length == l0.length) = false := by rw [beq_eq_false_iff_ne]; exact hlen
  clear h hl hlen
  go_enter Try.func46, Try.ntmps46
  go_wp2
  go_ret
  exact ⟨rfl, Below.refl _ _⟩
 rw [if_pos hlen] at h
 obtain ⟨RES, hRES⟩ : ∃ RES, RES = sidesGo (l0.zip l1) [] [] 1 := ⟨_, rfl⟩
 rw [← hRES] at h
 have HH := Aside0.mk h
 have HRES := Aside0.mk hRES.symm
 have HLEN := Aside0.mk hlen
 rw [hlen]
 clear h hl hlen hRES
 go_enter Try.func46, Try.ntmps46
 go_wp2
 go_loopw [6, 7] (fun v6 v7 wr => ∃ (want i : Int) (s0 s1 : List Int), v6 = .int .i64 want ∧ v7 = .int .i64 i ∧ Aside0 (0 ≤ i ∧ i ≤ l0.length) ∧ Aside0 ((s0.length : Int) + s1.length + want = i + 1 ∧ 1 ≤ want) ∧ Aside0 (sidesGo ((l0.zip l1).drop i.toNat) s0 s1 want = RES) ∧ Aside0 (TwoIs w wr w.heap.size s0 s1)) (fun _ v7 _ => l0.length - (intOf v7).toNat)
 case atStart => exact ⟨1, 0, [], [], rfl, rfl, ⟨by omega⟩, ⟨by simp⟩, HRES, ⟨TwoIs.new w w (Below.refl _ _)⟩⟩
 case round =>
  clear HRES
  obtain ⟨want, i, s0, s1, rfl, rfl, HI, HS, HG, HT⟩ := hrel
  obtain ⟨p0, p1⟩ := HI.out
  by_cases c2 : i < (l0.length : Int)
  case neg =>
   have c2b0 : decide (i < (l0.length : Int)) = false := decide_eq_false c2
   have hw : RES = some want := by
    have := HG.out
    rw [List.drop_eq_nil_of_le (by simp; have := HLEN.out; omega)] at this
    exact this.symm
   have hr := HH.out
   rw [hw] at hr
   obtain rfl : decide (want = (l0.length : Int) + 1) = r := Option.some.inj hr
   have hl := HL.out
   have hwl : IntKind.i64.wrap ((l0.length : Int) + 1) = (l0.length : Int) + 1 := IntWalk.i64_in _ (by omega)
   have hd : (want == (l0.length : Int) + 1) = decide (want = (l0.length : Int) + 1) := rfl
   clear hr hw HG c2 p1
   go_wp2
   go_ret
   exact ⟨rfl, HT.out.below⟩
  have c2b0 : decide (i < (l0.length : Int)) = true := decide_eq_true c2
  have hl := HL.out
  have hlen := HLEN.out
  obtain ⟨ad0, ea0, hx0⟩ := Kd.at_int (Kd.C_below HR0.out HT.out.below) i p0 c2
  obtain ⟨ad1, ea1, hx1⟩ := Kd.at_int (Kd.C_below HR1.out HT.out.below) i p0 (by omega)
  cases ea0
  cases ea1
  obtain ⟨s, hs⟩ : ∃ s, s = rd l1 i := ⟨_, rfl⟩
  obtain ⟨x, hx⟩ : ∃ x, x = rd l0 i := ⟨_, rfl⟩
  rw [← hs] at hx1
  rw [← hx] at hx0
  have hdrop : (l0.zip l1).drop i.toNat = (x, s) :: (l0.zip l1).drop (i + 1).toNat := by
   have h1 : i.toNat < (l0.zip l1).length := by simp; omega
   rw [List.drop_eq_getElem_cons h1, show (i + 1).toNat = i.toNat + 1 by omega, List.getElem_zip]
   congr 1
   rw [hs, hx]
   unfold rd
   rw [List.getD_eq_getElem?_getD, List.getD_eq_getElem?_getD, List.getElem?_eq_getElem (by omega), List.getElem?_eq_getElem (by omega)]
   rfl
  have HG1 := HG.out
  rw [hdrop] at HG1
  unfold sidesGo at HG1
  have q0 := eq_true p0
  have q1 := eq_true c2
  have q1' : (i < (l1.length : Int)) = True := eq_true (by omega)
  have hi1000 : i ≤ 1000 := by omega
  by_cases cs : s < 0 ∨ s > 1
  ·rw [if_pos cs] at HG1
   subst HG1
   obtain rfl : false = r := Option.some.inj HH.out
   by_cases cs1 : s < 0
   ·have cb1 : decide (s < 0) = true := decide_eq_true cs1
    clear HG hdrop hs hx cs cs1 p1 c2 hl hlen
    go_wp2
    go_ret
    exact ⟨rfl, HT.out.below⟩
   ·have cb1 : decide (s < 0) = false := decide_eq_false cs1
    have cb2 : decide (1 < s) = true := decide_eq_true (by omega)
    clear HG hdrop hs hx cs cs1 p1 c2 hl hlen
    go_wp2
    go_ret
    exact ⟨rfl, HT.out.below⟩
  rw [if_neg cs] at HG1
  by_cases c0s : s = 0
  ·have cs' : s = 0 := by omega
   subst cs'
   rw [if_pos rfl, if_pos rfl] at HG1
   obtain ⟨D, hD⟩ : ∃ D, D = drain2 ((x :: s0).length + s1.length + 1) (x :: s0) s1 want := ⟨_, rfl⟩
   rw [← hD] at HG1
   have hDl := drain2_len ((x :: s0).length + s1.length + 1) (x :: s0) s1 want
   rw [← hD] at hDl
   have HG2 := Aside0.mk HG1
   have HD := Aside0.mk hD.symm
   have hsl := HS.out
   have HC := Aside0.mk (show ((x :: s0).length : Int) + s1.length + want = i + 2 by simp; omega)
   have HDL := Aside0.mk (show (D.1.length : Int) + D.2.1.length + D.2.2 = i + 1 + 1 by have := HC.out; omega)
   obtain ⟨Aq, cq, w1, An, cn, hcell, hrun, hcell1, hfr1, hT1⟩ := HT.out.push0 x (by omega)
   have hx0' : (wr.alloc (.cells #[.int .i64 x] 3)).cell? (ad0.add i.toNat) = some (.int .i64 x) := (World.cell?_alloc_lt _ _ _ (World.block_lt_of_cell? _ _ hx0)).trans hx0
   have HRUN := Aside0.mk hrun
   have HT1 := Aside0.mk hT1
   have HW1 := Aside0.mk hsl.2
   have HT0 := HT
   clear hrun hT1 HG HG1 hdrop hs hx cs p1 c2 hl hlen hsl hD hDl HS HT
   go_wp2_with (at_builtin; go_must (refine wpList_appendRun _ rfl _ _ _ rfl HRUN.out rfl rfl rfl ?_))

   go_loopg [6, 10] ((x :: s0).length + s1.length + 1) (fun kq v6 v10 wr2 => ∃ (wt : Int) (ag : Bool) (t0 t1 : List Int), v6 = .int .i64 wt ∧ v10 = .bool ag ∧ Aside0 (if ag = true then drain2 kq t0 t1 wt = D ∧ t0.length + t1.length < kq else (t0, t1, wt) = D) ∧ Aside0 ((t0.length : Int) + t1.length + wt = i + 2 ∧ 1 ≤ wt) ∧ Aside0 (TwoIs w wr2 w.heap.size t0 t1))
   case atStart => exact ⟨want, true, (x :: s0), s1, rfl, rfl, ⟨by rw [if_pos rfl]; exact ⟨HD.out, by omega⟩⟩, ⟨⟨HC.out, HW1.out⟩⟩, HT1⟩
   case round =>
    clear HT1 HRUN hcell hcell1 hfr1 hx0' HD HC hx0 hx1 HT0 HW1
    obtain ⟨wt, ag, t0, t1, rfl, rfl, HA, HC, HT⟩ := hrel
    cases ag with
    | false =>
     have hD : (t0, t1, wt) = D := HA.out
     subst hD
     have hc := HC.out
     clear HA
     go_wp2
     go_roundw
     case rel => exact ⟨wt, i + 1, t0, t1, rfl, by go_num, ⟨by have := of_eq_true q0; have := of_eq_true q1; omega⟩, ⟨by omega⟩, HG2, HT⟩
     case measure => have := of_eq_true q0; have := of_eq_true q1; simp [intOf]; omega
    | true =>
     obtain ⟨hd, hlt⟩ : drain2 gk t0 t1 wt = D ∧ t0.length + t1.length < gk := HA.out
     obtain ⟨m, hm⟩ : ∃ m, gk = m + 1 := ⟨gk - 1, by omega⟩
     rw [hm] at hd hlt
     have HDR := Aside0.mk (drain_round hd hlt)
     have HM := Aside0.mk (show m < gk by omega)
     clear HA hd hlt hm
     go_wp2
     go_loopw [6, 10, 11] (fun v6 v10 v11 wr3 => ∃ (k w3 : Int) (a3 : Bool) (u0 u1 : List Int), v6 = .int .i64 w3 ∧ v10 = .bool a3 ∧ v11 = .int .i64 k ∧ Aside0 ((k = 0 ∧ u0 = t0 ∧ u1 = t1 ∧ w3 = wt ∧ a3 = false) ∨ (k = 1 ∧ u0 = (pop1 t0 wt).1 ∧ u1 = t1 ∧ w3 = (pop1 t0 wt).2.1 ∧ a3 = (pop1 t0 wt).2.2) ∨ (k = 2 ∧ u0 = (pop1 t0 wt).1 ∧ u1 = (pop1 t1 (pop1 t0 wt).2.1).1 ∧ w3 = (pop1 t1 (pop1 t0 wt).2.1).2.1 ∧ a3 = ((pop1 t0 wt).2.2 || (pop1 t1 (pop1 t0 wt).2.1).2.2))) ∧ Aside0 (TwoIs w wr3 w.heap.size u0 u1)) (fun _ _ v11 _ => 2 - (intOf v11).toNat)
     case atStart => exact ⟨0, wt, false, t0, t1, rfl, rfl, rfl, ⟨.inl ⟨rfl, rfl, rfl, rfl, rfl⟩⟩, HT⟩
     case round =>
      clear HT
      obtain ⟨k, w3, a3, u0, u1, rfl, rfl, rfl, HK, HT⟩ := hrel
      have hc := HC.out
      have hwt := pop1_ge t0 wt
      have hi1000' := hi1000
      rcases HK.out with ⟨rfl, h0, h1, h2, h3⟩ | ⟨rfl, h0, h1, h2, h3⟩ | ⟨rfl, h0, h1, h2, h3⟩
      ·have b1 : 1 ≤ w3 := by omega
       have b2 : w3 ≤ 2000 := by omega
       cases hu : u0 with
       | nil =>
        subst hu
        obtain ⟨Ac, cc, hcell⟩ := HT.out.nil0
        have HP := Aside0.mk (show pop1 t0 wt = ([], w3, false) by rw [← h0, ← h2]; rfl)
        have HQ := Aside0.mk (show u1 = t1 from h1)
        have H3 := Aside0.mk h3
        clear h0 h1 h2 h3 hc hwt HK
        go_wp2
        go_roundw
        case rel => exact ⟨1, w3, _, _, _, rfl, rfl, by go_num, ⟨.inr (.inl ⟨rfl, by rw [HP.out], HQ.out, by rw [HP.out], by rw [HP.out, H3.out]⟩)⟩, HT⟩
        case measure => simp [intOf]
       | cons a t =>
        subst hu
        obtain ⟨adt, ct, hcell, htop, htl, hfr, hcut, hT2⟩ := HT.out.top0
        obtain ⟨n, hn⟩ : ∃ n : Nat, n = t.length + 1 := ⟨_, rfl⟩
        obtain ⟨jt, hjt⟩ : ∃ jt : Int, jt = (t.length : Int) := ⟨_, rfl⟩
        have hjn : t.length = jt.toNat := by omega
        rw [← hjt] at hcut
        rw [← hn] at hcell hcut
        rw [hjn] at htop hcut hT2
        have hjw : IntKind.i64.wrap ((n : Int) - 1) = jt := by rw [IntWalk.i64_in _ (by omega)]; omega
        have pj := eq_true (show 0 ≤ jt by omega)
        have qj := eq_true (show jt < (n : Int) by omega)
        have g1 : decide (0 < n) = true := decide_eq_true (by omega)
        have g2 : decide ((0 : Int) < (n : Int)) = true := decide_eq_true (by omega)
        by_cases ca : a = w3
        ·have cab : (a == w3) = true := beq_iff_eq.mpr ca
         have HP := Aside0.mk (show pop1 t0 wt = (t, w3 + 1, true) by rw [← h0, ← h2]; exact if_pos ca)
         have HQ := Aside0.mk (show u1 = t1 from h1)
         have H3 := Aside0.mk h3
         have HT2 := Aside0.mk hT2
         clear h0 h1 h2 h3 hc hwt HK ca hjt hn hjn hT2 htl
         go_wp2
         go_roundw
         case rel => exact ⟨1, w3 + 1, true, _, _, by go_num, rfl, by go_num, ⟨.inr (.inl ⟨rfl, by rw [HP.out], HQ.out, by rw [HP.out], by rw [HP.out]⟩)⟩, HT2⟩
         case measure => simp [intOf]
        ·have cab : (a == w3) = false := beq_eq_false_iff_ne.mpr ca
         have HP := Aside0.mk (show pop1 t0 wt = (a :: t, w3, false) by rw [← h0, ← h2]; exact if_neg ca)
         have HQ := Aside0.mk (show u1 = t1 from h1)
         have H3 := Aside0.mk h3
         clear h0 h1 h2 h3 hc hwt HK ca hjt hn hjn hT2 htl
         go_wp2
         go_roundw
         case rel => exact ⟨1, w3, _, _, _, rfl, rfl, by go_num, ⟨.inr (.inl ⟨rfl, by rw [HP.out], HQ.out, by rw [HP.out], by rw [HP.out, H3.out]⟩)⟩, HT⟩
         case measure => simp [intOf]
      ·have b1 : 1 ≤ w3 := by omega
       have b2 : w3 ≤ 2000 := by omega
       cases hu : u1 with
       | nil =>
        subst hu
        obtain ⟨Ac, cc, hcell⟩ := HT.out.nil1
        have HP := Aside0.mk (show pop1 t1 (pop1 t0 wt).2.1 = ([], w3, false) by rw [← h1, ← h2]; rfl)
        have HQ := Aside0.mk (show u0 = (pop1 t0 wt).1 from h0)
        have H3 := Aside0.mk h3
        clear h0 h1 h2 h3 hc hwt HK
        go_wp2
        go_roundw
        case rel => exact ⟨2, w3, _, _, _, rfl, rfl, by go_num, ⟨.inr (.inr ⟨rfl, HQ.out, by rw [HP.out], by rw [HP.out], by rw [HP.out, H3.out, Bool.or_false]⟩)⟩, HT⟩
        case measure => simp [intOf]
       | cons a t =>
        subst hu
        obtain ⟨adt, ct, hcell, htop, htl, hfr, hcut, hT2⟩ := HT.out.top1
        obtain ⟨n, hn⟩ : ∃ n : Nat, n = t.length + 1 := ⟨_, rfl⟩
        obtain ⟨jt, hjt⟩ : ∃ jt : Int, jt = (t.length : Int) := ⟨_, rfl⟩
        have hjn : t.length = jt.toNat := by omega
        rw [← hjt] at hcut
        rw [← hn] at hcell hcut
        rw [hjn] at htop hcut hT2
        have hjw : IntKind.i64.wrap ((n : Int) - 1) = jt := by rw [IntWalk.i64_in _ (by omega)]; omega
        have pj := eq_true (show 0 ≤ jt by omega)
        have qj := eq_true (show jt < (n : Int) by omega)
        have g1 : decide (0 < n) = true := decide_eq_true (by omega)
        have g2 : decide ((0 : Int) < (n : Int)) = true := decide_eq_true (by omega)
        by_cases ca : a = w3
        ·have cab : (a == w3) = true := beq_iff_eq.mpr ca
         have HP := Aside0.mk (show pop1 t1 (pop1 t0 wt).2.1 = (t, w3 + 1, true) by rw [← h1, ← h2]; exact if_pos ca)
         have HQ := Aside0.mk (show u0 = (pop1 t0 wt).1 from h0)
         have H3 := Aside0.mk h3
         have HT2 := Aside0.mk hT2
         clear h0 h1 h2 h3 hc hwt HK ca hjt hn hjn hT2 htl
         go_wp2
         go_roundw
         case rel => exact ⟨2, w3 + 1, true, _, _, by go_num, rfl, by go_num, ⟨.inr (.inr ⟨rfl, HQ.out, by rw [HP.out], by rw [HP.out], by rw [HP.out, Bool.or_true]⟩)⟩, HT2⟩
         case measure => simp [intOf]
        ·have cab : (a == w3) = false := beq_eq_false_iff_ne.mpr ca
         have HP := Aside0.mk (show pop1 t1 (pop1 t0 wt).2.1 = (a :: t, w3, false) by rw [← h1, ← h2]; exact if_neg ca)
         have HQ := Aside0.mk (show u0 = (pop1 t0 wt).1 from h0)
         have H3 := Aside0.mk h3
         clear h0 h1 h2 h3 hc hwt HK ca hjt hn hjn hT2 htl
         go_wp2
         go_roundw
         case rel => exact ⟨2, w3, _, _, _, rfl, rfl, by go_num, ⟨.inr (.inr ⟨rfl, HQ.out, by rw [HP.out], by rw [HP.out], by rw [HP.out, H3.out, Bool.or_false]⟩)⟩, HT⟩
         case measure => simp [intOf]
      ·have HE := Aside0.mk (show (u0 = (pop1 t0 wt).1 ∧ u1 = (pop1 t1 (pop1 t0 wt).2.1).1 ∧ w3 = (pop1 t1 (pop1 t0 wt).2.1).2.1 ∧ a3 = ((pop1 t0 wt).2.2 || (pop1 t1 (pop1 t0 wt).2.1).2.2)) from ⟨h0, h1, h2, h3⟩)
       clear h0 h1 h2 h3 hc hwt HK
       go_wp2
       go_roundg m
       case measure => exact HM.out
       case rel =>
        obtain ⟨h0, h1, h2, h3⟩ := HE.out
        have hd := HDR.out
        have hc := HC.out
        have g0 := pop1_ge t0 wt
        have l0' := pop1_len t0 wt
        have l1' := pop1_len t1 (pop1 t0 wt).2.1
        have g1 := pop1_ge t1 (pop1 t0 wt).2.1
        rw [← h3, ← h0, ← h1, ← h2] at hd
        exact ⟨w3, a3, u0, u1, rfl, rfl, ⟨hd⟩, ⟨by rw [h0, h1, h2]; omega⟩, HT⟩
  ·have cs' : s = 1 := by omega
   subst cs'
   rw [if_neg (by decide), if_neg (by decide)] at HG1
   obtain ⟨D, hD⟩ : ∃ D, D = drain2 (s0.length + (x :: s1).length + 1) s0 (x :: s1) want := ⟨_, rfl⟩
   rw [← hD] at HG1
   have hDl := drain2_len (s0.length + (x :: s1).length + 1) s0 (x :: s1) want
   rw [← hD] at hDl
   have HG2 := Aside0.mk HG1
   have HD := Aside0.mk hD.symm
   have hsl := HS.out
   have HC := Aside0.mk (show (s0.length : Int) + (x :: s1).length + want = i + 2 by simp; omega)
   have HDL := Aside0.mk (show (D.1.length : Int) + D.2.1.length + D.2.2 = i + 1 + 1 by have := HC.out; omega)
   obtain ⟨Aq, cq, w1, An, cn, hcell, hrun, hcell1, hfr1, hT1⟩ := HT.out.push1 x (by omega)
   have hx0' : (wr.alloc (.cells #[.int .i64 x] 3)).cell? (ad0.add i.toNat) = some (.int .i64 x) := (World.cell?_alloc_lt _ _ _ (World.block_lt_of_cell? _ _ hx0)).trans hx0
   have HRUN := Aside0.mk hrun
   have HT1 := Aside0.mk hT1
   have HW1 := Aside0.mk hsl.2
   have HT0 := HT
   clear hrun hT1 HG HG1 hdrop hs hx cs p1 c2 hl hlen hsl hD hDl HS HT
   go_wp2_with (at_builtin; go_must (refine wpList_appendRun _ rfl _ _ _ rfl HRUN.out rfl rfl rfl ?_))

   go_loopg [6, 10] (s0.length + (x :: s1).length + 1) (fun kq v6 v10 wr2 => ∃ (wt : Int) (ag : Bool) (t0 t1 : List Int), v6 = .int .i64 wt ∧ v10 = .bool ag ∧ Aside0 (if ag = true then drain2 kq t0 t1 wt = D ∧ t0.length + t1.length < kq else (t0, t1, wt) = D) ∧ Aside0 ((t0.length : Int) + t1.length + wt = i + 2 ∧ 1 ≤ wt) ∧ Aside0 (TwoIs w wr2 w.heap.size t0 t1))
   case atStart => exact ⟨want, true, s0, (x :: s1), rfl, rfl, ⟨by rw [if_pos rfl]; exact ⟨HD.out, by omega⟩⟩, ⟨⟨HC.out, HW1.out⟩⟩, HT1⟩
   case round =>
    clear HT1 HRUN hcell hcell1 hfr1 hx0' HD HC hx0 hx1 HT0 HW1
    obtain ⟨wt, ag, t0, t1, rfl, rfl, HA, HC, HT⟩ := hrel
    cases ag with
    | false =>
     have hD : (t0, t1, wt) = D := HA.out
     subst hD
     have hc := HC.out
     clear HA
     go_wp2
     go_roundw
     case rel => exact ⟨wt, i + 1, t0, t1, rfl, by go_num, ⟨by have := of_eq_true q0; have := of_eq_true q1; omega⟩, ⟨by omega⟩, HG2, HT⟩
     case measure => have := of_eq_true q0; have := of_eq_true q1; simp [intOf]; omega
    | true =>
     obtain ⟨hd, hlt⟩ : drain2 gk t0 t1 wt = D ∧ t0.length + t1.length < gk := HA.out
     obtain ⟨m, hm⟩ : ∃ m, gk = m + 1 := ⟨gk - 1, by omega⟩
     rw [hm] at hd hlt
     have HDR := Aside0.mk (drain_round hd hlt)
     have HM := Aside0.mk (show m < gk by omega)
     clear HA hd hlt hm
     go_wp2
     go_loopw [6, 10, 11] (fun v6 v10 v11 wr3 => ∃ (k w3 : Int) (a3 : Bool) (u0 u1 : List Int), v6 = .int .i64 w3 ∧ v10 = .bool a3 ∧ v11 = .int .i64 k ∧ Aside0 ((k = 0 ∧ u0 = t0 ∧ u1 = t1 ∧ w3 = wt ∧ a3 = false) ∨ (k = 1 ∧ u0 = (pop1 t0 wt).1 ∧ u1 = t1 ∧ w3 = (pop1 t0 wt).2.1 ∧ a3 = (pop1 t0 wt).2.2) ∨ (k = 2 ∧ u0 = (pop1 t0 wt).1 ∧ u1 = (pop1 t1 (pop1 t0 wt).2.1).1 ∧ w3 = (pop1 t1 (pop1 t0 wt).2.1).2.1 ∧ a3 = ((pop1 t0 wt).2.2 || (pop1 t1 (pop1 t0 wt).2.1).2.2))) ∧ Aside0 (TwoIs w wr3 w.heap.size u0 u1)) (fun _ _ v11 _ => 2 - (intOf v11).toNat)
     case atStart => exact ⟨0, wt, false, t0, t1, rfl, rfl, rfl, ⟨.inl ⟨rfl, rfl, rfl, rfl, rfl⟩⟩, HT⟩
     case round =>
      clear HT
      obtain ⟨k, w3, a3, u0, u1, rfl, rfl, rfl, HK, HT⟩ := hrel
      have hc := HC.out
      have hwt := pop1_ge t0 wt
      have hi1000' := hi1000
      rcases HK.out with ⟨rfl, h0, h1, h2, h3⟩ | ⟨rfl, h0, h1, h2, h3⟩ | ⟨rfl, h0, h1, h2, h3⟩
      ·have b1 : 1 ≤ w3 := by omega
       have b2 : w3 ≤ 2000 := by omega
       cases hu : u0 with
       | nil =>
        subst hu
        obtain ⟨Ac, cc, hcell⟩ := HT.out.nil0
        have HP := Aside0.mk (show pop1 t0 wt = ([], w3, false) by rw [← h0, ← h2]; rfl)
        have HQ := Aside0.mk (show u1 = t1 from h1)
        have H3 := Aside0.mk h3
        clear h0 h1 h2 h3 hc hwt HK
        go_wp2
        go_roundw
        case rel => exact ⟨1, w3, _, _, _, rfl, rfl, by go_num, ⟨.inr (.inl ⟨rfl, by rw [HP.out], HQ.out, by rw [HP.out], by rw [HP.out, H3.out]⟩)⟩, HT⟩
        case measure => simp [intOf]
       | cons a t =>
        subst hu
        obtain ⟨adt, ct, hcell, htop, htl, hfr, hcut, hT2⟩ := HT.out.top0
        obtain ⟨n, hn⟩ : ∃ n : Nat, n = t.length + 1 := ⟨_, rfl⟩
        obtain ⟨jt, hjt⟩ : ∃ jt : Int, jt = (t.length : Int) := ⟨_, rfl⟩
        have hjn : t.length = jt.toNat := by omega
        rw [← hjt] at hcut
        rw [← hn] at hcell hcut
        rw [hjn] at htop hcut hT2
        have hjw : IntKind.i64.wrap ((n : Int) - 1) = jt := by rw [IntWalk.i64_in _ (by omega)]; omega
        have pj := eq_true (show 0 ≤ jt by omega)
        have qj := eq_true (show jt < (n : Int) by omega)
        have g1 : decide (0 < n) = true := decide_eq_true (by omega)
        have g2 : decide ((0 : Int) < (n : Int)) = true := decide_eq_true (by omega)
        by_cases ca : a = w3
        ·have cab : (a == w3) = true := beq_iff_eq.mpr ca
         have HP := Aside0.mk (show pop1 t0 wt = (t, w3 + 1, true) by rw [← h0, ← h2]; exact if_pos ca)
         have HQ := Aside0.mk (show u1 = t1 from h1)
         have H3 := Aside0.mk h3
         have HT2 := Aside0.mk hT2
         clear h0 h1 h2 h3 hc hwt HK ca hjt hn hjn hT2 htl
         go_wp2
         go_roundw
         case rel => exact ⟨1, w3 + 1, true, _, _, by go_num, rfl, by go_num, ⟨.inr (.inl ⟨rfl, by rw [HP.out], HQ.out, by rw [HP.out], by rw [HP.out]⟩)⟩, HT2⟩
         case measure => simp [intOf]
        ·have cab : (a == w3) = false := beq_eq_false_iff_ne.mpr ca
         have HP := Aside0.mk (show pop1 t0 wt = (a :: t, w3, false) by rw [← h0, ← h2]; exact if_neg ca)
         have HQ := Aside0.mk (show u1 = t1 from h1)
         have H3 := Aside0.mk h3
         clear h0 h1 h2 h3 hc hwt HK ca hjt hn hjn hT2 htl
         go_wp2
         go_roundw
         case rel => exact ⟨1, w3, _, _, _, rfl, rfl, by go_num, ⟨.inr (.inl ⟨rfl, by rw [HP.out], HQ.out, by rw [HP.out], by rw [HP.out, H3.out]⟩)⟩, HT⟩
         case measure => simp [intOf]
      ·have b1 : 1 ≤ w3 := by omega
       have b2 : w3 ≤ 2000 := by omega
       cases hu : u1 with
       | nil =>
        subst hu
        obtain ⟨Ac, cc, hcell⟩ := HT.out.nil1
        have HP := Aside0.mk (show pop1 t1 (pop1 t0 wt).2.1 = ([], w3, false) by rw [← h1, ← h2]; rfl)
        have HQ := Aside0.mk (show u0 = (pop1 t0 wt).1 from h0)
        have H3 := Aside0.mk h3
        clear h0 h1 h2 h3 hc hwt HK
        go_wp2
        go_roundw
        case rel => exact ⟨2, w3, _, _, _, rfl, rfl, by go_num, ⟨.inr (.inr ⟨rfl, HQ.out, by rw [HP.out], by rw [HP.out], by rw [HP.out, H3.out, Bool.or_false]⟩)⟩, HT⟩
        case measure => simp [intOf]
       | cons a t =>
        subst hu
        obtain ⟨adt, ct, hcell, htop, htl, hfr, hcut, hT2⟩ := HT.out.top1
        obtain ⟨n, hn⟩ : ∃ n : Nat, n = t.length + 1 := ⟨_, rfl⟩
        obtain ⟨jt, hjt⟩ : ∃ jt : Int, jt = (t.length : Int) := ⟨_, rfl⟩
        have hjn : t.length = jt.toNat := by omega
        rw [← hjt] at hcut
        rw [← hn] at hcell hcut
        rw [hjn] at htop hcut hT2
        have hjw : IntKind.i64.wrap ((n : Int) - 1) = jt := by rw [IntWalk.i64_in _ (by omega)]; omega
        have pj := eq_true (show 0 ≤ jt by omega)
        have qj := eq_true (show jt < (n : Int) by omega)
        have g1 : decide (0 < n) = true := decide_eq_true (by omega)
        have g2 : decide ((0 : Int) < (n : Int)) = true := decide_eq_true (by omega)
        by_cases ca : a = w3
        ·have cab : (a == w3) = true := beq_iff_eq.mpr ca
         have HP := Aside0.mk (show pop1 t1 (pop1 t0 wt).2.1 = (t, w3 + 1, true) by rw [← h1, ← h2]; exact if_pos ca)
         have HQ := Aside0.mk (show u0 = (pop1 t0 wt).1 from h0)
         have H3 := Aside0.mk h3
         have HT2 := Aside0.mk hT2
         clear h0 h1 h2 h3 hc hwt HK ca hjt hn hjn hT2 htl
         go_wp2
         go_roundw
         case rel => exact ⟨2, w3 + 1, true, _, _, by go_num, rfl, by go_num, ⟨.inr (.inr ⟨rfl, HQ.out, by rw [HP.out], by rw [HP.out], by rw [HP.out, Bool.or_true]⟩)⟩, HT2⟩
         case measure => simp [intOf]
        ·have cab : (a == w3) = false := beq_eq_false_iff_ne.mpr ca
         have HP := Aside0.mk (show pop1 t1 (pop1 t0 wt).2.1 = (a :: t, w3, false) by rw [← h1, ← h2]; exact if_neg ca)
         have HQ := Aside0.mk (show u0 = (pop1 t0 wt).1 from h0)
         have H3 := Aside0.mk h3
         clear h0 h1 h2 h3 hc hwt HK ca hjt hn hjn hT2 htl
         go_wp2
         go_roundw
         case rel => exact ⟨2, w3, _, _, _, rfl, rfl, by go_num, ⟨.inr (.inr ⟨rfl, HQ.out, by rw [HP.out], by rw [HP.out], by rw [HP.out, H3.out, Bool.or_false]⟩)⟩, HT⟩
         case measure => simp [intOf]
      ·have HE := Aside0.mk (show (u0 = (pop1 t0 wt).1 ∧ u1 = (pop1 t1 (pop1 t0 wt).2.1).1 ∧ w3 = (pop1 t1 (pop1 t0 wt).2.1).2.1 ∧ a3 = ((pop1 t0 wt).2.2 || (pop1 t1 (pop1 t0 wt).2.1).2.2)) from ⟨h0, h1, h2, h3⟩)
       clear h0 h1 h2 h3 hc hwt HK
       go_wp2
       go_roundg m
       case measure => exact HM.out
       case rel =>
        obtain ⟨h0, h1, h2, h3⟩ := HE.out
        have hd := HDR.out
        have hc := HC.out
        have g0 := pop1_ge t0 wt
        have l0' := pop1_len t0 wt
        have l1' := pop1_len t1 (pop1 t0 wt).2.1
        have g1 := pop1_ge t1 (pop1 t0 wt).2.1
        rw [← h3, ← h0, ← h1, ← h2] at hd
        exact ⟨w3, a3, u0, u1, rfl, rfl, ⟨hd⟩, ⟨by rw [h0, h1, h2]; omega⟩, HT⟩

def tickingref02_at.l0 : Nat → List Int → Int → Int → Option (Bool)
 | 0, _, _, _ => none
 | k + 1, x0, x1, x5 => if x5 < (x0.length : Int) then (if 0 ≤ x5 then (if (rd x0 x5) < 0 then (some false) else (if (rd x0 x5) ≥ x1 then (some false) else (if x5 ≤ (x0.length : Int) then ((tickingref02_has.f k (x0.take (x5 : Int).toNat) (rd x0 x5)).bind fun t322 => (if t322 = true then (some false) else (tickingref02_at.l0 k x0 x1 (wrap64 (x5 + 1))))) else (none)))) else (none)) else (some true)
def tickingref02_at.f (k : Nat) (l0 : List Int) (a1 : Int) : Option (Bool) := tickingref02_at.l0 k l0 a1 0
set_option maxHeartbeats 8000000 in
set_option maxRecDepth 100000 in
theorem tickingref02_at.calls (k : Nat) (A0 : Option Addr) (c0 : Nat) (l0 : List Int) (a1 : Int) (r : Bool) (w : World) (hr0 : Kd.C (Kd.int .i64) w A0 l0.length l0) (hc0 : l0.length ≤ c0) (h : tickingref02_at.f k l0 a1 = some r) :
  Calls Try.prog 65 #[.slice A0 l0.length c0, .int .i64 a1] w fun e w' => e = .returned (.bool r) ∧ Drawn0 w w' := by
 have HR0 := Aside0.mk hr0
 have HC0 := Aside0.mk hc0
 clear hr0 hc0
 have H : (tickingref02_at.l0 k l0 a1 0) = some r := h
 clear h
 have H' := Aside0.mk H
 clear H
 go_enter Try.func65, Try.ntmps65
 go_wp2
 repeat (go_quiet (fail); try go_wp2)
 go_loopg [5] k (fun kq v5 w' => ∃ (x5_1 : Int), v5 = .int .i64 x5_1 ∧ Aside0 (tickingref02_at.l0 kq l0 a1 x5_1 = some r) ∧ Aside0 (kq ≤ k) ∧ Drawn0 w w')
 case atStart => exact ⟨(0), (by first | rfl | (simp; done) | (simp [*]; done)), H', ⟨Nat.le_refl _⟩, by repeat (first | exact Drawn0.refl _ | apply Drawn0.step)⟩
 case round =>
  clear H'
  try clear p2
  obtain ⟨x5_1, rfl, HA, HK1, ⟨m1, rfl⟩⟩ := hrel
  cases gk with
  | zero => exact absurd HA.out (by simp [tickingref02_at.l0])
  | succ k1 =>
   have H := HA.out
   clear HA
   simp only [tickingref02_at.l0] at H
   by_cases c3 : x5_1 < (l0.length : Int)
   ·rw [if_pos c3] at H
    have c3b0 : decide (x5_1 < (l0.length : Int)) = true := decide_eq_true c3
    clear c3
    by_cases c4 : 0 ≤ x5_1
    ·rw [if_pos c4] at H
     have c4b0 : decide (0 ≤ x5_1) = true := decide_eq_true c4
     clear c4
     by_cases c5 : (rd l0 x5_1) < 0
     ·rw [if_pos c5] at H
      have c5b0 : decide ((rd l0 x5_1) < 0) = true := decide_eq_true c5
      clear c5
      obtain rfl := Option.some.inj H
      have p318 : 0 ≤ (x5_1 : Int) := of_decide_eq_true (by first | (with_reducible assumption) | assumption)
      have q318 : x5_1 < (l0.length : Int) := of_decide_eq_true (by first | (with_reducible assumption) | assumption)
      obtain ⟨ad318, e318, hx318_0⟩ := Kd.at_int HR0.out x5_1 p318 q318
      cases e318
      replace p318 := eq_true p318
      replace q318 := eq_true q318
      go_wp2
      repeat (go_quiet (fail); try go_wp2)
      go_ret
      exact ⟨by first | rfl | (simp; done) | (simp [*]; done), by repeat (first | exact Drawn0.refl _ | apply Drawn0.step)⟩
     ·rw [if_neg c5] at H
      have c5b0 : decide ((rd l0 x5_1) < 0) = false := decide_eq_false c5
      clear c5
      by_cases c6 : (rd l0 x5_1) ≥ a1
      ·rw [if_pos c6] at H
       have c6b0 : decide (a1 ≤ (rd l0 x5_1)) = true := decide_eq_true c6
       clear c6
       obtain rfl := Option.some.inj H
       have p318 : 0 ≤ (x5_1 : Int) := of_decide_eq_true (by first | (with_reducible assumption) | assumption)
       have q318 : x5_1 < (l0.length : Int) := of_decide_eq_true (by first | (with_reducible assumption) | assumption)
       obtain ⟨ad318, e318, hx318_0⟩ := Kd.at_int HR0.out x5_1 p318 q318
       cases e318
       replace p318 := eq_true p318
       replace q318 := eq_true q318
       have p319 : 0 ≤ (x5_1 : Int) := of_decide_eq_true (by first | (with_reducible assumption) | assumption)
       have q319 : x5_1 < (l0.length : Int) := of_decide_eq_true (by first | (with_reducible assumption) | assumption)
       obtain ⟨ad319, e319, hx319_0⟩ := Kd.at_int HR0.out x5_1 p319 q319
       obtain rfl : ad318 = ad319 := (by injection e319)
       replace p319 := eq_true p319
       replace q319 := eq_true q319
       go_wp2
       repeat (go_quiet (fail); try go_wp2)
       go_ret
       exact ⟨by first | rfl | (simp; done) | (simp [*]; done), by repeat (first | exact Drawn0.refl _ | apply Drawn0.step)⟩
      ·rw [if_neg c6] at H
       have c6b0 : decide (a1 ≤ (rd l0 x5_1)) = false := decide_eq_false c6
       clear c6
       have c7b0 := eq_true (of_decide_eq_true (by first | (with_reducible assumption) | assumption) : 0 ≤ x5_1)
       by_cases c8 : x5_1 ≤ (l0.length : Int)
       ·rw [if_pos c8] at H
        have c8b0 := eq_true c8
        have c8b1 : decide (x5_1 ≤ (l0.length : Int)) = true := decide_eq_true c8
        clear c8
        replace H := Option.bind_eq_some_iff.mp H
        obtain ⟨t322, A90, H⟩ := H
        replace H : (if t322 = true then (some false) else (tickingref02_at.l0 k1 l0 a1 (wrap64 (x5_1 + 1)))) = some r := H
        have A9 := Aside0.mk A90
        clear A90
        by_cases c10 : t322 = true
        ·subst c10
         have H1 : (some false) = some r := by rw [if_pos rfl] at H; exact H
         clear H
         have H := H1
         clear H1
         obtain rfl := Option.some.inj H
         have p318 : 0 ≤ (x5_1 : Int) := of_decide_eq_true (by first | (with_reducible assumption) | assumption)
         have q318 : x5_1 < (l0.length : Int) := of_decide_eq_true (by first | (with_reducible assumption) | assumption)
         obtain ⟨ad318, e318, hx318_0⟩ := Kd.at_int HR0.out x5_1 p318 q318
         cases e318
         replace p318 := eq_true p318
         replace q318 := eq_true q318
         have p319 : 0 ≤ (x5_1 : Int) := of_decide_eq_true (by first | (with_reducible assumption) | assumption)
         have q319 : x5_1 < (l0.length : Int) := of_decide_eq_true (by first | (with_reducible assumption) | assumption)
         obtain ⟨ad319, e319, hx319_0⟩ := Kd.at_int HR0.out x5_1 p319 q319
         obtain rfl : ad318 = ad319 := (by injection e319)
         replace p319 := eq_true p319
         replace q319 := eq_true q319
         obtain ⟨i011, hi011, _, hsz11, _⟩ := info_parts info3
         obtain ⟨hcut11, hA11, hC11⟩ := print_take_of (P := Try.prog) (Value.int .i64) 0 22 3 .i64 Try.underlying22 hi011 hsz11 (some ad318) c0 l0 x5_1 (of_decide_eq_true (by first | (with_reducible assumption) | assumption)) (of_decide_eq_true (by first | (with_reducible assumption) | assumption)) HC0.out
         have HR320 := Aside0.mk (Kd.C_of_reads (h1 := fun _ => rfl) (hA11 _ (Kd.reads_of_C HR0.out)))
         have HC320 := Aside0.mk hC11
         clear hA11 hC11 hi011 hsz11
         obtain ⟨tk11, htk11⟩ : ∃ tk_ : List Int, (l0.take (x5_1 : Int).toNat) = tk_ := ⟨_, rfl⟩
         simp only [htk11] at *
         have Htk11 := Aside0.mk htk11
         clear htk11
         have p321 : 0 ≤ (x5_1 : Int) := of_decide_eq_true (by first | (with_reducible assumption) | assumption)
         have q321 : x5_1 < (l0.length : Int) := of_decide_eq_true (by first | (with_reducible assumption) | assumption)
         obtain ⟨ad321, e321, hx321_0⟩ := Kd.at_int HR0.out x5_1 p321 q321
         obtain rfl : ad318 = ad321 := (by injection e321)
         replace p321 := eq_true p321
         replace q321 := eq_true q321
         go_wp2_with (first | (go_at_call 59; (with_reducible refine (tickingref02_has.calls k1 _ _ tk11 (rd l0 x5_1) true _ ?side1 ?side2 A9.out).mono ?_); (case side1 => repeat (first | exact HR320.out | (with_reducible refine Kd.C_alloc ?_ _) | (with_reducible refine Kd.C_drewN ?_ _) | (with_reducible refine Kd.C_drew ?_))); (case side2 => exact HC320.out); rintro e w' ⟨rfl, ⟨nd, rfl⟩⟩; (try first | exact ⟨rfl, _, World.drewN_drewN _ _ _⟩ | exact ⟨rfl, _, Eq.trans (World.drewN_drewN _ _ _) (congrArg (World.drewN _) (Nat.add_assoc _ _ _))⟩)))
         repeat (go_quiet (first | (go_at_call 59; (with_reducible refine (tickingref02_has.calls k1 _ _ tk11 (rd l0 x5_1) true _ ?side1 ?side2 A9.out).mono ?_); (case side1 => repeat (first | exact HR320.out | (with_reducible refine Kd.C_alloc ?_ _) | (with_reducible refine Kd.C_drewN ?_ _) | (with_reducible refine Kd.C_drew ?_))); (case side2 => exact HC320.out); rintro e w' ⟨rfl, ⟨nd, rfl⟩⟩; (try first | exact ⟨rfl, _, World.drewN_drewN _ _ _⟩ | exact ⟨rfl, _, Eq.trans (World.drewN_drewN _ _ _) (congrArg (World.drewN _) (Nat.add_assoc _ _ _))⟩))); try go_wp2_with (first | (go_at_call 59; (with_reducible refine (tickingref02_has.calls k1 _ _ tk11 (rd l0 x5_1) true _ ?side1 ?side2 A9.out).mono ?_); (case side1 => repeat (first | exact HR320.out | (with_reducible refine Kd.C_alloc ?_ _) | (with_reducible refine Kd.C_drewN ?_ _) | (with_reducible refine Kd.C_drew ?_))); (case side2 => exact HC320.out); rintro e w' ⟨rfl, ⟨nd, rfl⟩⟩; (try first | exact ⟨rfl, _, World.drewN_drewN _ _ _⟩ | exact ⟨rfl, _, Eq.trans (World.drewN_drewN _ _ _) (congrArg (World.drewN _) (Nat.add_assoc _ _ _))⟩))))
         go_ret
         exact ⟨by first | rfl | (simp; done) | (simp [*]; done), by repeat (first | exact Drawn0.refl _ | apply Drawn0.step)⟩
        ·replace c10 := Bool.eq_false_iff.mpr c10
         subst c10
         have H1 : (tickingref02_at.l0 k1 l0 a1 (wrap64 (x5_1 + 1))) = some r := by rw [if_neg (show ¬ (false = true) by decide)] at H; exact H
         clear H
         have H := H1
         clear H1
         have H' := Aside0.mk H
         clear H
         have p318 : 0 ≤ (x5_1 : Int) := of_decide_eq_true (by first | (with_reducible assumption) | assumption)
         have q318 : x5_1 < (l0.length : Int) := of_decide_eq_true (by first | (with_reducible assumption) | assumption)
         obtain ⟨ad318, e318, hx318_0⟩ := Kd.at_int HR0.out x5_1 p318 q318
         cases e318
         replace p318 := eq_true p318
         replace q318 := eq_true q318
         have p319 : 0 ≤ (x5_1 : Int) := of_decide_eq_true (by first | (with_reducible assumption) | assumption)
         have q319 : x5_1 < (l0.length : Int) := of_decide_eq_true (by first | (with_reducible assumption) | assumption)
         obtain ⟨ad319, e319, hx319_0⟩ := Kd.at_int HR0.out x5_1 p319 q319
         obtain rfl : ad318 = ad319 := (by injection e319)
         replace p319 := eq_true p319
         replace q319 := eq_true q319
         obtain ⟨i012, hi012, _, hsz12, _⟩ := info_parts info3
         obtain ⟨hcut12, hA12, hC12⟩ := print_take_of (P := Try.prog) (Value.int .i64) 0 22 3 .i64 Try.underlying22 hi012 hsz12 (some ad318) c0 l0 x5_1 (of_decide_eq_true (by first | (with_reducible assumption) | assumption)) (of_decide_eq_true (by first | (with_reducible assumption) | assumption)) HC0.out
         have HR320 := Aside0.mk (Kd.C_of_reads (h1 := fun _ => rfl) (hA12 _ (Kd.reads_of_C HR0.out)))
         have HC320 := Aside0.mk hC12
         clear hA12 hC12 hi012 hsz12
         obtain ⟨tk12, htk12⟩ : ∃ tk_ : List Int, (l0.take (x5_1 : Int).toNat) = tk_ := ⟨_, rfl⟩
         simp only [htk12] at *
         have Htk12 := Aside0.mk htk12
         clear htk12
         have p321 : 0 ≤ (x5_1 : Int) := of_decide_eq_true (by first | (with_reducible assumption) | assumption)
         have q321 : x5_1 < (l0.length : Int) := of_decide_eq_true (by first | (with_reducible assumption) | assumption)
         obtain ⟨ad321, e321, hx321_0⟩ := Kd.at_int HR0.out x5_1 p321 q321
         obtain rfl : ad318 = ad321 := (by injection e321)
         replace p321 := eq_true p321
         replace q321 := eq_true q321
         go_wp2_with (first | (go_at_call 59; (with_reducible refine (tickingref02_has.calls k1 _ _ tk12 (rd l0 x5_1) false _ ?side1 ?side2 A9.out).mono ?_); (case side1 => repeat (first | exact HR320.out | (with_reducible refine Kd.C_alloc ?_ _) | (with_reducible refine Kd.C_drewN ?_ _) | (with_reducible refine Kd.C_drew ?_))); (case side2 => exact HC320.out); rintro e w' ⟨rfl, ⟨nd, rfl⟩⟩; (try first | exact ⟨rfl, _, World.drewN_drewN _ _ _⟩ | exact ⟨rfl, _, Eq.trans (World.drewN_drewN _ _ _) (congrArg (World.drewN _) (Nat.add_assoc _ _ _))⟩)))
         repeat (go_quiet (first | (go_at_call 59; (with_reducible refine (tickingref02_has.calls k1 _ _ tk12 (rd l0 x5_1) false _ ?side1 ?side2 A9.out).mono ?_); (case side1 => repeat (first | exact HR320.out | (with_reducible refine Kd.C_alloc ?_ _) | (with_reducible refine Kd.C_drewN ?_ _) | (with_reducible refine Kd.C_drew ?_))); (case side2 => exact HC320.out); rintro e w' ⟨rfl, ⟨nd, rfl⟩⟩; (try first | exact ⟨rfl, _, World.drewN_drewN _ _ _⟩ | exact ⟨rfl, _, Eq.trans (World.drewN_drewN _ _ _) (congrArg (World.drewN _) (Nat.add_assoc _ _ _))⟩))); try go_wp2_with (first | (go_at_call 59; (with_reducible refine (tickingref02_has.calls k1 _ _ tk12 (rd l0 x5_1) false _ ?side1 ?side2 A9.out).mono ?_); (case side1 => repeat (first | exact HR320.out | (with_reducible refine Kd.C_alloc ?_ _) | (with_reducible refine Kd.C_drewN ?_ _) | (with_reducible refine Kd.C_drew ?_))); (case side2 => exact HC320.out); rintro e w' ⟨rfl, ⟨nd, rfl⟩⟩; (try first | exact ⟨rfl, _, World.drewN_drewN _ _ _⟩ | exact ⟨rfl, _, Eq.trans (World.drewN_drewN _ _ _) (congrArg (World.drewN _) (Nat.add_assoc _ _ _))⟩))))
         go_roundg k1
         case measure => have := HK1.out; omega
         case rel => exact ⟨(wrap64 (x5_1 + 1)), (by first | rfl | (simp; done) | (simp [*]; done)), H', ⟨by have := HK1.out; omega⟩, by repeat (first | exact Drawn0.refl _ | apply Drawn0.step)⟩
       ·rw [if_neg c8] at H
        exact absurd H (by simp)
    ·rw [if_neg c4] at H
     exact absurd H (by simp)
   ·rw [if_neg c3] at H
    have c3b0 : decide (x5_1 < (l0.length : Int)) = false := decide_eq_false c3
    clear c3
    obtain rfl := Option.some.inj H
    go_wp2
    repeat (go_quiet (fail); try go_wp2)
    go_ret
    exact ⟨by first | rfl | (simp; done) | (simp [*]; done), by repeat (first | exact Drawn0.refl _ | apply Drawn0.step)⟩

def tickingref02_Conflict.l0 : Nat → List Int → Int → Int → Int → Option (Bool)
 | 0, _, _, _, _ => none
 | k + 1, x0, x1, x2, x7 => if x7 < (x0.length : Int) then (if 0 ≤ x7 then (if 0 ≤ x1 then (if x1 < (x0.length : Int) then (if (rd x0 x7) < (rd x0 x1) then (if 0 ≤ x2 then (if x2 < (x0.length : Int) then (if (rd x0 x1) < (rd x0 x2) then (some true) else (tickingref02_Conflict.l0 k x0 x1 x2 (wrap64 (x7 + 1)))) else (none)) else (none)) else (tickingref02_Conflict.l0 k x0 x1 x2 (wrap64 (x7 + 1)))) else (none)) else (none)) else (none)) else (some false)
def tickingref02_Conflict.f (k : Nat) (l0 : List Int) (a1 : Int) (a2 : Int) : Option (Bool) := tickingref02_Conflict.l0 k l0 a1 a2 (wrap64 (a2 + 1))
set_option maxHeartbeats 8000000 in
set_option maxRecDepth 100000 in
theorem tickingref02_Conflict.calls (k : Nat) (A0 : Option Addr) (c0 : Nat) (l0 : List Int) (a1 : Int) (a2 : Int) (r : Bool) (w : World) (hr0 : Kd.C (Kd.int .i64) w A0 l0.length l0) (hc0 : l0.length ≤ c0) (h : tickingref02_Conflict.f k l0 a1 a2 = some r) :
  Calls Try.prog 73 #[.slice A0 l0.length c0, .int .i64 a1, .int .i64 a2] w fun e w' => e = .returned (.bool r) ∧ Drawn0 w w' := by
 have HR0 := Aside0.mk hr0
 have HC0 := Aside0.mk hc0
 clear hr0 hc0
 have H : (tickingref02_Conflict.l0 k l0 a1 a2 (wrap64 (a2 + 1))) = some r := h
 clear h
 have H' := Aside0.mk H
 clear H
 go_enter Try.func73, Try.ntmps73
 go_wp2
 repeat (go_quiet (fail); try go_wp2)
 go_loopg [7] k (fun kq v7 w' => ∃ (x7_1 : Int), v7 = .int .i64 x7_1 ∧ Aside0 (tickingref02_Conflict.l0 kq l0 a1 a2 x7_1 = some r) ∧ Aside0 (kq ≤ k) ∧ Drawn0 w w')
 case atStart => exact ⟨(wrap64 (a2 + 1)), (by first | rfl | (simp; done) | (simp [*]; done)), H', ⟨Nat.le_refl _⟩, by repeat (first | exact Drawn0.refl _ | apply Drawn0.step)⟩
 case round =>
  clear H'
  try clear p2
  obtain ⟨x7_1, rfl, HA, HK1, ⟨m1, rfl⟩⟩ := hrel
  cases gk with
  | zero => exact absurd HA.out (by simp [tickingref02_Conflict.l0])
  | succ k1 =>
   have H := HA.out
   clear HA
   simp only [tickingref02_Conflict.l0] at H
   by_cases c4 : x7_1 < (l0.length : Int)
   ·rw [if_pos c4] at H
    have c4b0 : decide (x7_1 < (l0.length : Int)) = true := decide_eq_true c4
    clear c4
    by_cases c5 : 0 ≤ x7_1
    ·rw [if_pos c5] at H
     have c5b0 : decide (0 ≤ x7_1) = true := decide_eq_true c5
     clear c5
     by_cases c6 : 0 ≤ a1
     ·rw [if_pos c6] at H
      have c6b0 : decide (0 ≤ a1) = true := decide_eq_true c6
      clear c6
      by_cases c7 : a1 < (l0.length : Int)
      ·rw [if_pos c7] at H
       have c7b0 : decide (a1 < (l0.length : Int)) = true := decide_eq_true c7
       clear c7
       by_cases c8 : (rd l0 x7_1) < (rd l0 a1)
       ·rw [if_pos c8] at H
        have c8b0 : decide ((rd l0 x7_1) < (rd l0 a1)) = true := decide_eq_true c8
        clear c8
        by_cases c9 : 0 ≤ a2
        ·rw [if_pos c9] at H
         have c9b0 : decide (0 ≤ a2) = true := decide_eq_true c9
         clear c9
         by_cases c10 : a2 < (l0.length : Int)
         ·rw [if_pos c10] at H
          have c10b0 : decide (a2 < (l0.length : Int)) = true := decide_eq_true c10
          clear c10
          by_cases c11 : (rd l0 a1) < (rd l0 a2)
          ·rw [if_pos c11] at H
           have c11b0 : decide ((rd l0 a1) < (rd l0 a2)) = true := decide_eq_true c11
           clear c11
           obtain rfl := Option.some.inj H
           have p535 : 0 ≤ (x7_1 : Int) := of_decide_eq_true (by first | (with_reducible assumption) | assumption)
           have q535 : x7_1 < (l0.length : Int) := of_decide_eq_true (by first | (with_reducible assumption) | assumption)
           obtain ⟨ad535, e535, hx535_0⟩ := Kd.at_int HR0.out x7_1 p535 q535
           cases e535
           replace p535 := eq_true p535
           replace q535 := eq_true q535
           have p536 : 0 ≤ (a1 : Int) := of_decide_eq_true (by first | (with_reducible assumption) | assumption)
           have q536 : a1 < (l0.length : Int) := of_decide_eq_true (by first | (with_reducible assumption) | assumption)
           obtain ⟨ad536, e536, hx536_0⟩ := Kd.at_int HR0.out a1 p536 q536
           obtain rfl : ad535 = ad536 := (by injection e536)
           replace p536 := eq_true p536
           replace q536 := eq_true q536
           have p537 : 0 ≤ (a1 : Int) := of_decide_eq_true (by first | (with_reducible assumption) | assumption)
           have q537 : a1 < (l0.length : Int) := of_decide_eq_true (by first | (with_reducible assumption) | assumption)
           obtain ⟨ad537, e537, hx537_0⟩ := Kd.at_int HR0.out a1 p537 q537
           obtain rfl : ad535 = ad537 := (by injection e537)
           replace p537 := eq_true p537
           replace q537 := eq_true q537
           have p538 : 0 ≤ (a2 : Int) := of_decide_eq_true (by first | (with_reducible assumption) | assumption)
           have q538 : a2 < (l0.length : Int) := of_decide_eq_true (by first | (with_reducible assumption) | assumption)
           obtain ⟨ad538, e538, hx538_0⟩ := Kd.at_int HR0.out a2 p538 q538
           obtain rfl : ad535 = ad538 := (by injection e538)
           replace p538 := eq_true p538
           replace q538 := eq_true q538
           go_wp2
           repeat (go_quiet (fail); try go_wp2)
           go_ret
           exact ⟨by first | rfl | (simp; done) | (simp [*]; done), by repeat (first | exact Drawn0.refl _ | apply Drawn0.step)⟩
          ·rw [if_neg c11] at H
           have c11b0 : decide ((rd l0 a1) < (rd l0 a2)) = false := decide_eq_false c11
           clear c11
           have H' := Aside0.mk H
           clear H
           have p535 : 0 ≤ (x7_1 : Int) := of_decide_eq_true (by first | (with_reducible assumption) | assumption)
           have q535 : x7_1 < (l0.length : Int) := of_decide_eq_true (by first | (with_reducible assumption) | assumption)
           obtain ⟨ad535, e535, hx535_0⟩ := Kd.at_int HR0.out x7_1 p535 q535
           cases e535
           replace p535 := eq_true p535
           replace q535 := eq_true q535
           have p536 : 0 ≤ (a1 : Int) := of_decide_eq_true (by first | (with_reducible assumption) | assumption)
           have q536 : a1 < (l0.length : Int) := of_decide_eq_true (by first | (with_reducible assumption) | assumption)
           obtain ⟨ad536, e536, hx536_0⟩ := Kd.at_int HR0.out a1 p536 q536
           obtain rfl : ad535 = ad536 := (by injection e536)
           replace p536 := eq_true p536
           replace q536 := eq_true q536
           have p537 : 0 ≤ (a1 : Int) := of_decide_eq_true (by first | (with_reducible assumption) | assumption)
           have q537 : a1 < (l0.length : Int) := of_decide_eq_true (by first | (with_reducible assumption) | assumption)
           obtain ⟨ad537, e537, hx537_0⟩ := Kd.at_int HR0.out a1 p537 q537
           obtain rfl : ad535 = ad537 := (by injection e537)
           replace p537 := eq_true p537
           replace q537 := eq_true q537
           have p538 : 0 ≤ (a2 : Int) := of_decide_eq_true (by first | (with_reducible assumption) | assumption)
           have q538 : a2 < (l0.length : Int) := of_decide_eq_true (by first | (with_reducible assumption) | assumption)
           obtain ⟨ad538, e538, hx538_0⟩ := Kd.at_int HR0.out a2 p538 q538
           obtain rfl : ad535 = ad538 := (by injection e538)
           replace p538 := eq_true p538
           replace q538 := eq_true q538
           go_wp2
           repeat (go_quiet (fail); try go_wp2)
           go_roundg k1
           case measure => have := HK1.out; omega
           case rel => exact ⟨(wrap64 (x7_1 + 1)), (by first | rfl | (simp; done) | (simp [*]; done)), H', ⟨by have := HK1.out; omega⟩, by repeat (first | exact Drawn0.refl _ | apply Drawn0.step)⟩
         ·rw [if_neg c10] at H
          exact absurd H (by simp)
        ·rw [if_neg c9] at H
         exact absurd H (by simp)
       ·rw [if_neg c8] at H
        have c8b0 : decide ((rd l0 x7_1) < (rd l0 a1)) = false := decide_eq_false c8
        clear c8
        have H' := Aside0.mk H
        clear H
        have p535 : 0 ≤ (x7_1 : Int) := of_decide_eq_true (by first | (with_reducible assumption) | assumption)
        have q535 : x7_1 < (l0.length : Int) := of_decide_eq_true (by first | (with_reducible assumption) | assumption)
        obtain ⟨ad535, e535, hx535_0⟩ := Kd.at_int HR0.out x7_1 p535 q535
        cases e535
        replace p535 := eq_true p535
        replace q535 := eq_true q535
        have p536 : 0 ≤ (a1 : Int) := of_decide_eq_true (by first | (with_reducible assumption) | assumption)
        have q536 : a1 < (l0.length : Int) := of_decide_eq_true (by first | (with_reducible assumption) | assumption)
        obtain ⟨ad536, e536, hx536_0⟩ := Kd.at_int HR0.out a1 p536 q536
        obtain rfl : ad535 = ad536 := (by injection e536)
        replace p536 := eq_true p536
        replace q536 := eq_true q536
        go_wp2
        repeat (go_quiet (fail); try go_wp2)
        go_roundg k1
        case measure => have := HK1.out; omega
        case rel => exact ⟨(wrap64 (x7_1 + 1)), (by first | rfl | (simp; done) | (simp [*]; done)), H', ⟨by have := HK1.out; omega⟩, by repeat (first | exact Drawn0.refl _ | apply Drawn0.step)⟩
      ·rw [if_neg c7] at H
       exact absurd H (by simp)
     ·rw [if_neg c6] at H
      exact absurd H (by simp)
    ·rw [if_neg c5] at H
     exact absurd H (by simp)
   ·rw [if_neg c4] at H
    have c4b0 : decide (x7_1 < (l0.length : Int)) = false := decide_eq_false c4
    clear c4
    obtain rfl := Option.some.inj H
    go_wp2
    repeat (go_quiet (fail); try go_wp2)
    go_ret
    exact ⟨by first | rfl | (simp; done) | (simp [*]; done), by repeat (first | exact Drawn0.refl _ | apply Drawn0.step)⟩

mutual
def tickingref02_StacksBlock.j0 : Nat → List Int → List Int → Bool → Option (Bool)
 | 0, _, _, _ => none
 | k + 1, x0, x1, x23 => if x23 = true then (some false) else (tickingref02_StacksBlock.l0 k x0 x1 0)
def tickingref02_StacksBlock.l0 : Nat → List Int → List Int → Int → Option (Bool)
 | 0, _, _, _ => none
 | k + 1, x0, x1, x5 => if x5 < (x1.length : Int) then (if 0 ≤ x5 then (if (x1.length : Int) = 0 then (none) else (if 0 ≤ (Int.tmod (wrap64 (x5 + 1)) (x1.length : Int)) then (if (Int.tmod (wrap64 (x5 + 1)) (x1.length : Int)) < (x1.length : Int) then ((tickingref02_Conflict.f k x0 (mn (rd x1 x5) (rd x1 (Int.tmod (wrap64 (x5 + 1)) (x1.length : Int)))) (mx (rd x1 x5) (rd x1 (Int.tmod (wrap64 (x5 + 1)) (x1.length : Int))))).bind fun t542 => (if t542 = true then (tickingref02_StacksBlock.l0 k x0 x1 (wrap64 (x5 + 1))) else (some false))) else (none)) else (none))) else (none)) else (some true)
end
def tickingref02_StacksBlock.f (k : Nat) (l0 : List Int) (l1 : List Int) : Option (Bool) := if (l1.length : Int) < 3 then (tickingref02_StacksBlock.j0 k l0 l1 true) else (if ((l1.length : Int) % 2) = 0 then (tickingref02_StacksBlock.j0 k l0 l1 true) else ((tickingref02_at.f k l1 (l0.length : Int)).bind fun t539 => (tickingref02_StacksBlock.j0 k l0 l1 (!t539))))
set_option maxHeartbeats 8000000 in
set_option maxRecDepth 100000 in
theorem tickingref02_StacksBlock.calls (k : Nat) (A0 : Option Addr) (c0 : Nat) (l0 : List Int) (A1 : Option Addr) (c1 : Nat) (l1 : List Int) (r : Bool) (w : World) (hr0 : Kd.C (Kd.int .i64) w A0 l0.length l0) (hc0 : l0.length ≤ c0) (hr1 : Kd.C (Kd.int .i64) w A1 l1.length l1) (hc1 : l1.length ≤ c1) (h : tickingref02_StacksBlock.f k l0 l1 = some r) :
  Calls Try.prog 47 #[.slice A0 l0.length c0, .slice A1 l1.length c1] w fun e w' => e = .returned (.bool r) ∧ Below w.heap.size w w' := by
 have HR0 := Aside0.mk hr0
 have HC0 := Aside0.mk hc0
 clear hr0 hc0
 have HR1 := Aside0.mk hr1
 have HC1 := Aside0.mk hc1
 clear hr1 hc1
 have HB := Aside0.mk (Below.refl w.heap.size w)
 have H : (if (l1.length : Int) < 3 then (tickingref02_StacksBlock.j0 k l0 l1 true) else (if ((l1.length : Int) % 2) = 0 then (tickingref02_StacksBlock.j0 k l0 l1 true) else ((tickingref02_at.f k l1 (l0.length : Int)).bind fun t539 => (tickingref02_StacksBlock.j0 k l0 l1 (!t539))))) = some r := h
 clear h
 have HC3 := Aside0.mk H
 clear H
 go_enter Try.func47, Try.ntmps47
 go_upto_region 1 with (fail)
 repeat (go_quiet (fail); go_upto_region 1 with (fail))
 go_cut [23] (fun v23 wc => ∃ (kq : Nat) (x23_2 : Bool), v23 = .bool x23_2 ∧ Aside0 (tickingref02_StacksBlock.j0 kq l0 l1 x23_2 = some r) ∧ Aside0 (kq ≤ k) ∧ Aside0 (Below w.heap.size w wc))
 case first =>
  have H := HC3.out
  clear HC3
  by_cases c4 : (l1.length : Int) < 3
  ·rw [if_pos c4] at H
   have c4b0 : decide ((l1.length : Int) < 3) = true := decide_eq_true c4
   have c4b1 : decide (l1.length < 3) = true := decide_eq_true (by omega)
   clear c4
   (first | rw [c4b0] | (simp only [i64_w, i32_w]; rw [c4b0]) | skip)
   have H' := Aside0.mk H
   clear H
   go_wp2
   repeat (go_quiet (fail); try go_wp2)
   go_meet
   case rel => exact ⟨_, (true), (by first | rfl | (simp; done) | (simp [*]; done)), H', ⟨by first | omega | exact Nat.le_refl _⟩, ⟨by repeat (first | (with_reducible first | exact HB.out | apply below_alloc | apply pw_below_drewN | apply below_drew1) | exact HB.out)⟩⟩
  ·rw [if_neg c4] at H
   have c4b0 : decide ((l1.length : Int) < 3) = false := decide_eq_false c4
   have c4b1 : decide (l1.length < 3) = false := decide_eq_false (by omega)
   clear c4
   (first | rw [c4b0] | (simp only [i64_w, i32_w]; rw [c4b0]) | skip)
   by_cases c5 : ((l1.length : Int) % 2) = 0
   ·rw [if_pos c5] at H
    have c5b0 : (((l1.length : Int) % 2) == 0) = true := beq_iff_eq.mpr c5
    have c5b1 : (((l1.length : Int) % 2) != 0) = false := bne_eq_false_iff_eq.mpr c5
    clear c5
    have H' := Aside0.mk H
    clear H
    go_wp2
    repeat (go_quiet (fail); try go_wp2)
    go_meet
    case rel => exact ⟨_, (true), (by first | rfl | (simp; done) | (simp [*]; done)), H', ⟨by first | omega | exact Nat.le_refl _⟩, ⟨by repeat (first | (with_reducible first | exact HB.out | apply below_alloc | apply pw_below_drewN | apply below_drew1) | exact HB.out)⟩⟩
   ·rw [if_neg c5] at H
    have c5b0 : (((l1.length : Int) % 2) == 0) = false := beq_eq_false_iff_ne.mpr c5
    have c5b1 : (((l1.length : Int) % 2) != 0) = true := bne_iff_ne.mpr c5
    replace H := Option.bind_eq_some_iff.mp H
    obtain ⟨t539, A60, H⟩ := H
    replace H : (tickingref02_StacksBlock.j0 k l0 l1 (!t539)) = some r := H
    have A6 := Aside0.mk A60
    clear A60
    have H' := Aside0.mk H
    clear H
    go_wp2_with (first | (go_at_call 65; (with_reducible refine (tickingref02_at.calls k _ _ l1 (l0.length : Int) t539 _ ?side1 ?side2 A6.out).mono ?_); (case side1 => repeat (first | exact (Kd.C_below HR1.out HB.out) | (with_reducible refine Kd.C_alloc ?_ _) | (with_reducible refine Kd.C_drewN ?_ _) | (with_reducible refine Kd.C_drew ?_))); (case side2 => exact HC1.out); rintro e w' ⟨rfl, ⟨nd, rfl⟩⟩; (try first | exact ⟨rfl, _, World.drewN_drewN _ _ _⟩ | exact ⟨rfl, _, Eq.trans (World.drewN_drewN _ _ _) (congrArg (World.drewN _) (Nat.add_assoc _ _ _))⟩)))
    repeat (go_quiet (first | (go_at_call 65; (with_reducible refine (tickingref02_at.calls k _ _ l1 (l0.length : Int) t539 _ ?side1 ?side2 A6.out).mono ?_); (case side1 => repeat (first | exact (Kd.C_below HR1.out HB.out) | (with_reducible refine Kd.C_alloc ?_ _) | (with_reducible refine Kd.C_drewN ?_ _) | (with_reducible refine Kd.C_drew ?_))); (case side2 => exact HC1.out); rintro e w' ⟨rfl, ⟨nd, rfl⟩⟩; (try first | exact ⟨rfl, _, World.drewN_drewN _ _ _⟩ | exact ⟨rfl, _, Eq.trans (World.drewN_drewN _ _ _) (congrArg (World.drewN _) (Nat.add_assoc _ _ _))⟩))); try go_wp2_with (first | (go_at_call 65; (with_reducible refine (tickingref02_at.calls k _ _ l1 (l0.length : Int) t539 _ ?side1 ?side2 A6.out).mono ?_); (case side1 => repeat (first | exact (Kd.C_below HR1.out HB.out) | (with_reducible refine Kd.C_alloc ?_ _) | (with_reducible refine Kd.C_drewN ?_ _) | (with_reducible refine Kd.C_drew ?_))); (case side2 => exact HC1.out); rintro e w' ⟨rfl, ⟨nd, rfl⟩⟩; (try first | exact ⟨rfl, _, World.drewN_drewN _ _ _⟩ | exact ⟨rfl, _, Eq.trans (World.drewN_drewN _ _ _) (congrArg (World.drewN _) (Nat.add_assoc _ _ _))⟩))))
    go_meet
    case rel => exact ⟨_, (!t539), (by first | rfl | (simp; done) | (simp [*]; done)), H', ⟨by first | omega | exact Nat.le_refl _⟩, ⟨by repeat (first | (with_reducible first | exact HB.out | apply below_alloc | apply pw_below_drewN | apply below_drew1) | exact HB.out)⟩⟩
 case rest =>
  clear HC3
  try clear c1
  try clear p2
  try clear c4
  try clear c4b0
  try clear c4b1
  try clear c5
  try clear c5b0
  try clear c5b1
  obtain ⟨kq, x23_2, rfl, HA, HJ2, HB⟩ := hcut
  cases kq with
  | zero => exact absurd HA.out (by simp [tickingref02_StacksBlock.j0])
  | succ kj2 =>
   have H := HA.out
   clear HA
   simp only [tickingref02_StacksBlock.j0] at H
   by_cases c7 : x23_2 = true
   ·subst c7
    have H1 : (some false) = some r := by rw [if_pos rfl] at H; exact H
    clear H
    have H := H1
    clear H1
    obtain rfl := Option.some.inj H
    go_wp2
    repeat (go_quiet (fail); try go_wp2)
    go_ret
    exact ⟨by first | rfl | (simp [errW_none, errW_some] <;> rfl) | (simp [*, errW_none, errW_some] <;> rfl), by repeat (first | (with_reducible first | exact HB.out | apply below_alloc | apply pw_below_drewN | apply below_drew1) | exact HB.out)⟩
   ·replace c7 := Bool.eq_false_iff.mpr c7
    subst c7
    have H1 : (tickingref02_StacksBlock.l0 kj2 l0 l1 0) = some r := by rw [if_neg (show ¬ (false = true) by decide)] at H; exact H
    clear H
    have H := H1
    clear H1
    have H' := Aside0.mk H
    clear H
    go_wp2
    repeat (go_quiet (fail); try go_wp2)
    go_loopg [5] kj2 (fun kq v5 w' => ∃ (x5_2 : Int), v5 = .int .i64 x5_2 ∧ Aside0 (tickingref02_StacksBlock.l0 kq l0 l1 x5_2 = some r) ∧ Aside0 (kq ≤ kj2) ∧ Aside0 (Below w.heap.size w w'))
    case atStart => exact ⟨(0), (by first | rfl | (simp; done) | (simp [*]; done)), H', ⟨Nat.le_refl _⟩, ⟨by repeat (first | (with_reducible first | exact HB.out | apply below_alloc | apply pw_below_drewN | apply below_drew1) | exact HB.out)⟩⟩
    case round =>
     clear H'
     try clear c1
     try clear p2
     try clear c4
     try clear c4b0
     try clear c4b1
     try clear c5
     try clear c5b0
     try clear c5b1
     try clear c7
     try clear p2
     obtain ⟨x5_2, rfl, HA, HK2, HB⟩ := hrel
     cases gk with
     | zero => exact absurd HA.out (by simp [tickingref02_StacksBlock.l0])
     | succ k2 =>
      have H := HA.out
      clear HA
      simp only [tickingref02_StacksBlock.l0] at H
      by_cases c8 : x5_2 < (l1.length : Int)
      ·rw [if_pos c8] at H
       have c8b0 : decide (x5_2 < (l1.length : Int)) = true := decide_eq_true c8
       clear c8
       by_cases c9 : 0 ≤ x5_2
       ·rw [if_pos c9] at H
        have c9b0 : decide (0 ≤ x5_2) = true := decide_eq_true c9
        clear c9
        by_cases c10 : (l1.length : Int) = 0
        ·rw [if_pos c10] at H
         exact absurd H (by simp)
        ·rw [if_neg c10] at H
         have c10b0 : ((l1.length : Int) == 0) = false := beq_eq_false_iff_ne.mpr c10
         have c10b1 : ((l1.length : Int) != 0) = true := bne_iff_ne.mpr c10
         have c10b2 : ¬ (l1 = []) := fun h_ => c10 (by rw [h_]; rfl)
         obtain ⟨ji11, hji11⟩ : ∃ j_ : Int, (Int.tmod (wrap64 (x5_2 + 1)) (l1.length : Int)) = j_ := ⟨_, rfl⟩
         replace H : (if 0 ≤ (ji11) then (if (ji11) < (l1.length : Int) then ((tickingref02_Conflict.f k2 l0 (mn (rd l1 x5_2) (rd l1 (ji11))) (mx (rd l1 x5_2) (rd l1 (ji11)))).bind fun t542 => (if t542 = true then (tickingref02_StacksBlock.l0 k2 l0 l1 (wrap64 (x5_2 + 1))) else (some false))) else (none)) else (none)) = some r := by first | (rw [hji11] at H; exact H) | (simp only [hji11] at H ⊢; exact H)
         by_cases c12 : 0 ≤ (ji11)
         ·rw [if_pos c12] at H
          have c12b0 : decide (0 ≤ (ji11)) = true := decide_eq_true c12
          clear c12
          by_cases c13 : (ji11) < (l1.length : Int)
          ·rw [if_pos c13] at H
           have c13b0 : decide ((ji11) < (l1.length : Int)) = true := decide_eq_true c13
           clear c13
           obtain ⟨ji14, hji14⟩ : ∃ j_ : Int, (mn (rd l1 x5_2) (rd l1 (ji11))) = j_ := ⟨_, rfl⟩
           replace H : ((tickingref02_Conflict.f k2 l0 (ji14) (mx (rd l1 x5_2) (rd l1 (ji11)))).bind fun t542 => (if t542 = true then (tickingref02_StacksBlock.l0 k2 l0 l1 (wrap64 (x5_2 + 1))) else (some false))) = some r := by first | (rw [hji14] at H; exact H) | (simp only [hji14] at H ⊢; exact H)
           have hji14_ : (if (rd l1 (ji11)) < (rd l1 x5_2) then (rd l1 (ji11)) else (rd l1 x5_2)) = ji14 := hji14
           obtain ⟨ji15, hji15⟩ : ∃ j_ : Int, (mx (rd l1 x5_2) (rd l1 (ji11))) = j_ := ⟨_, rfl⟩
           replace H : ((tickingref02_Conflict.f k2 l0 (ji14) (ji15)).bind fun t542 => (if t542 = true then (tickingref02_StacksBlock.l0 k2 l0 l1 (wrap64 (x5_2 + 1))) else (some false))) = some r := by first | (rw [hji15] at H; exact H) | (simp only [hji15] at H ⊢; exact H)
           have hji15_ : (if (rd l1 x5_2) < (rd l1 (ji11)) then (rd l1 (ji11)) else (rd l1 x5_2)) = ji15 := hji15
           replace H := Option.bind_eq_some_iff.mp H
           obtain ⟨t542, A160, H⟩ := H
           replace H : (if t542 = true then (tickingref02_StacksBlock.l0 k2 l0 l1 (wrap64 (x5_2 + 1))) else (some false)) = some r := H
           have A16 := Aside0.mk A160
           clear A160
           by_cases c17 : t542 = true
           ·subst c17
            have H1 : (tickingref02_StacksBlock.l0 k2 l0 l1 (wrap64 (x5_2 + 1))) = some r := by rw [if_pos rfl] at H; exact H
            clear H
            have H := H1
            clear H1
            have H' := Aside0.mk H
            clear H
            have p540 : 0 ≤ (x5_2 : Int) := of_decide_eq_true (by first | (with_reducible assumption) | assumption)
            have q540 : x5_2 < (l1.length : Int) := of_decide_eq_true (by first | (with_reducible assumption) | assumption)
            obtain ⟨ad540, e540, hx540_0⟩ := Kd.at_int HR1.out x5_2 p540 q540
            cases e540
            replace hx540_0 := (HB.out.cell (World.block_lt_of_cell? w _ hx540_0)).trans hx540_0
            replace p540 := eq_true p540
            replace q540 := eq_true q540
            have p541 : 0 ≤ ((ji11) : Int) := of_decide_eq_true (by first | (with_reducible assumption) | assumption)
            have q541 : (ji11) < (l1.length : Int) := of_decide_eq_true (by first | (with_reducible assumption) | assumption)
            obtain ⟨ad541, e541, hx541_0⟩ := Kd.at_int HR1.out (ji11) p541 q541
            obtain rfl : ad540 = ad541 := (by injection e541)
            replace hx541_0 := (HB.out.cell (World.block_lt_of_cell? w _ hx541_0)).trans hx541_0
            replace p541 := eq_true p541
            replace q541 := eq_true q541
            go_wp2_with (first | (go_at_call 73; (with_reducible refine (tickingref02_Conflict.calls k2 _ _ l0 ji14 ji15 true _ ?side1 ?side2 A16.out).mono ?_); (case side1 => repeat (first | exact (Kd.C_below HR0.out HB.out) | (with_reducible refine Kd.C_alloc ?_ _) | (with_reducible refine Kd.C_drewN ?_ _) | (with_reducible refine Kd.C_drew ?_))); (case side2 => exact HC0.out); rintro e w' ⟨rfl, ⟨nd, rfl⟩⟩; (try first | exact ⟨rfl, _, World.drewN_drewN _ _ _⟩ | exact ⟨rfl, _, Eq.trans (World.drewN_drewN _ _ _) (congrArg (World.drewN _) (Nat.add_assoc _ _ _))⟩)))
            repeat (go_quiet (first | (go_at_call 73; (with_reducible refine (tickingref02_Conflict.calls k2 _ _ l0 ji14 ji15 true _ ?side1 ?side2 A16.out).mono ?_); (case side1 => repeat (first | exact (Kd.C_below HR0.out HB.out) | (with_reducible refine Kd.C_alloc ?_ _) | (with_reducible refine Kd.C_drewN ?_ _) | (with_reducible refine Kd.C_drew ?_))); (case side2 => exact HC0.out); rintro e w' ⟨rfl, ⟨nd, rfl⟩⟩; (try first | exact ⟨rfl, _, World.drewN_drewN _ _ _⟩ | exact ⟨rfl, _, Eq.trans (World.drewN_drewN _ _ _) (congrArg (World.drewN _) (Nat.add_assoc _ _ _))⟩))); try go_wp2_with (first | (go_at_call 73; (with_reducible refine (tickingref02_Conflict.calls k2 _ _ l0 ji14 ji15 true _ ?side1 ?side2 A16.out).mono ?_); (case side1 => repeat (first | exact (Kd.C_below HR0.out HB.out) | (with_reducible refine Kd.C_alloc ?_ _) | (with_reducible refine Kd.C_drewN ?_ _) | (with_reducible refine Kd.C_drew ?_))); (case side2 => exact HC0.out); rintro e w' ⟨rfl, ⟨nd, rfl⟩⟩; (try first | exact ⟨rfl, _, World.drewN_drewN _ _ _⟩ | exact ⟨rfl, _, Eq.trans (World.drewN_drewN _ _ _) (congrArg (World.drewN _) (Nat.add_assoc _ _ _))⟩))))
            go_roundg k2
            case measure => have := HJ2.out; have := HK2.out; omega
            case rel => exact ⟨(wrap64 (x5_2 + 1)), (by first | rfl | (simp; done) | (simp [*]; done)), H', ⟨by have := HJ2.out; have := HK2.out; omega⟩, ⟨by repeat (first | (with_reducible first | exact HB.out | apply below_alloc | apply pw_below_drewN | apply below_drew1) | exact HB.out)⟩⟩
           ·replace c17 := Bool.eq_false_iff.mpr c17
            subst c17
            have H1 : (some false) = some r := by rw [if_neg (show ¬ (false = true) by decide)] at H; exact H
            clear H
            have H := H1
            clear H1
            obtain rfl := Option.some.inj H
            have p540 : 0 ≤ (x5_2 : Int) := of_decide_eq_true (by first | (with_reducible assumption) | assumption)
            have q540 : x5_2 < (l1.length : Int) := of_decide_eq_true (by first | (with_reducible assumption) | assumption)
            obtain ⟨ad540, e540, hx540_0⟩ := Kd.at_int HR1.out x5_2 p540 q540
            cases e540
            replace hx540_0 := (HB.out.cell (World.block_lt_of_cell? w _ hx540_0)).trans hx540_0
            replace p540 := eq_true p540
            replace q540 := eq_true q540
            have p541 : 0 ≤ ((ji11) : Int) := of_decide_eq_true (by first | (with_reducible assumption) | assumption)
            have q541 : (ji11) < (l1.length : Int) := of_decide_eq_true (by first | (with_reducible assumption) | assumption)
            obtain ⟨ad541, e541, hx541_0⟩ := Kd.at_int HR1.out (ji11) p541 q541
            obtain rfl : ad540 = ad541 := (by injection e541)
            replace hx541_0 := (HB.out.cell (World.block_lt_of_cell? w _ hx541_0)).trans hx541_0
            replace p541 := eq_true p541
            replace q541 := eq_true q541
            go_wp2_with (first | (go_at_call 73; (with_reducible refine (tickingref02_Conflict.calls k2 _ _ l0 ji14 ji15 false _ ?side1 ?side2 A16.out).mono ?_); (case side1 => repeat (first | exact (Kd.C_below HR0.out HB.out) | (with_reducible refine Kd.C_alloc ?_ _) | (with_reducible refine Kd.C_drewN ?_ _) | (with_reducible refine Kd.C_drew ?_))); (case side2 => exact HC0.out); rintro e w' ⟨rfl, ⟨nd, rfl⟩⟩; (try first | exact ⟨rfl, _, World.drewN_drewN _ _ _⟩ | exact ⟨rfl, _, Eq.trans (World.drewN_drewN _ _ _) (congrArg (World.drewN _) (Nat.add_assoc _ _ _))⟩)))
            repeat (go_quiet (first | (go_at_call 73; (with_reducible refine (tickingref02_Conflict.calls k2 _ _ l0 ji14 ji15 false _ ?side1 ?side2 A16.out).mono ?_); (case side1 => repeat (first | exact (Kd.C_below HR0.out HB.out) | (with_reducible refine Kd.C_alloc ?_ _) | (with_reducible refine Kd.C_drewN ?_ _) | (with_reducible refine Kd.C_drew ?_))); (case side2 => exact HC0.out); rintro e w' ⟨rfl, ⟨nd, rfl⟩⟩; (try first | exact ⟨rfl, _, World.drewN_drewN _ _ _⟩ | exact ⟨rfl, _, Eq.trans (World.drewN_drewN _ _ _) (congrArg (World.drewN _) (Nat.add_assoc _ _ _))⟩))); try go_wp2_with (first | (go_at_call 73; (with_reducible refine (tickingref02_Conflict.calls k2 _ _ l0 ji14 ji15 false _ ?side1 ?side2 A16.out).mono ?_); (case side1 => repeat (first | exact (Kd.C_below HR0.out HB.out) | (with_reducible refine Kd.C_alloc ?_ _) | (with_reducible refine Kd.C_drewN ?_ _) | (with_reducible refine Kd.C_drew ?_))); (case side2 => exact HC0.out); rintro e w' ⟨rfl, ⟨nd, rfl⟩⟩; (try first | exact ⟨rfl, _, World.drewN_drewN _ _ _⟩ | exact ⟨rfl, _, Eq.trans (World.drewN_drewN _ _ _) (congrArg (World.drewN _) (Nat.add_assoc _ _ _))⟩))))
            go_ret
            exact ⟨by first | rfl | (simp [errW_none, errW_some] <;> rfl) | (simp only [← hji11, ← hji14, ← hji15]; first | rfl | (simp [errW_none, errW_some] <;> rfl)) | (simp [*, errW_none, errW_some] <;> rfl), by repeat (first | (with_reducible first | exact HB.out | apply below_alloc | apply pw_below_drewN | apply below_drew1) | exact HB.out)⟩
          ·rw [if_neg c13] at H
           exact absurd H (by simp)
         ·rw [if_neg c12] at H
          exact absurd H (by simp)
       ·rw [if_neg c9] at H
        exact absurd H (by simp)
      ·rw [if_neg c8] at H
       have c8b0 : decide (x5_2 < (l1.length : Int)) = false := decide_eq_false c8
       clear c8
       obtain rfl := Option.some.inj H
       go_wp2
       repeat (go_quiet (fail); try go_wp2)
       go_ret
       exact ⟨by first | rfl | (simp [errW_none, errW_some] <;> rfl) | (simp [*, errW_none, errW_some] <;> rfl), by repeat (first | (with_reducible first | exact HB.out | apply below_alloc | apply pw_below_drewN | apply below_drew1) | exact HB.out)⟩
end Go.Proofs.Ytjbjongahnocdaa.S

namespace Go.Proofs.Ytjbjongahnocdaa.Lib
open Go.Maps (Keyed IsMap Tidy)
open Go.WideElems Go.ChangeShapes Go.WideShapes Go.MapKept Go.ChangeMaps
set_option linter.unusedVariables false

section
variable {w : World} {P : Program} {t k e : TypeId} {b m : Nat} {f : Value → Option Value}

/-- A new entry: what comes up is the zero; the entry holds the zero till the store. -/
theorem MapAt.entryNew (h : MapAt w P k b m f) (K : Keyed P k) (ht : P.underlying t = some (.map k e)) {z : Value} (hz : ∀ u : World, (zeroValue e).run P u = .ok z u) (hm : m < maxLen) {key : Value} {kl : Lit} (hkey : keyOf P k key = some kl) (hf : f key = none)
  (val : Value) {f1 f' : Value → Option Value} (e1 : f' key = some val) (e2 : ∀ v, v ≠ key → f' v = f v) (g1 : f1 key = some z) (g2 : ∀ v, v ≠ key → f1 v = f v) :
  ∃ (st : Int) (W1 W2 : World), (Instr.mapEntry t (.map (some b)) key).run P w = .ok (.tuple #[z, .int .i64 st]) W1 ∧ (Instr.entryStore t (.map (some b)) (.int .i64 st) val).run P W1 = .ok () W2 ∧
   MapAt W1 P k b (m + 1) f1 ∧ w.grownBy W1 (some b) ∧ MapAt W2 P k b (m + 1) f' ∧ w.grownBy W2 (some b) := by
 obtain ⟨w1, r1, h1, h2⟩ := h.store K ht hm (val := z) hkey g1 g2
 obtain ⟨w2, r2, h3, h4⟩ := h.store K ht hm (val := val) hkey e1 e2
 rw [hf] at h1 h3
 obtain ⟨D, ⟨es, clock, hb, F, hs, hD⟩, hsz, hat⟩ := h
 obtain ⟨s1, s2, _⟩ := F.stamped
 rcases K.find w hkey es.toList F.keys with ⟨q1, q2⟩ | ⟨j, e0, q1, q2, q3⟩
 ·have hidx : (es.push ⟨key, z, clock⟩).findIdx? (fun e => ((e.born : Nat) : Int) == ((clock : Nat) : Int)) = some es.size := by
   rw [findIdx_arr]
   have := findIdx_born (l := (es.push ⟨key, z, clock⟩).toList) (j := es.size) (e0 := ⟨key, z, clock⟩) (by
    simp only [Array.toList_push, List.map_append, List.map_cons, List.map_nil]
    refine List.nodup_append.2 ⟨s2, by simp, fun a ha c hc e1 => ?_⟩
    simp only [List.mem_singleton] at hc
    obtain ⟨x, hx, rfl⟩ := List.mem_map.1 ha
    have := s1 x hx
    omega) (by simp)
   exact this
  have hmod : (es.push ⟨key, z, clock⟩).modify es.size (fun e => { e with val := val }) = es.push ⟨key, val, clock⟩ := by
   apply Array.ext'
   rw [Array.toList_modify, Array.toList_push, Array.toList_push, ← Array.length_toList, modify_last]
  have u1 : (Instr.mapUpdate t (.map (some b)) key z).run P w = .ok () (setBlock w b (.map (es.push ⟨key, z, clock⟩) (clock + 1))) := by
   simp [Instr.mapUpdate, run_underlying ht, MapKept.run_getObj_map hb, K.check w false hkey, q1, MapKept.run_setObj_map _ hb, Result.andThen, setBlock]
  have u2 : (Instr.mapUpdate t (.map (some b)) key val).run P w = .ok () (setBlock w b (.map (es.push ⟨key, val, clock⟩) (clock + 1))) := by
   simp [Instr.mapUpdate, run_underlying ht, MapKept.run_getObj_map hb, K.check w false hkey, q1, MapKept.run_setObj_map _ hb, Result.andThen, setBlock]
  rw [u1] at r1
  rw [u2] at r2
  injection r1 with _ r1
  injection r2 with _ r2
  have hb1 : w1.heap[b]? = some (.map (es.push ⟨key, z, clock⟩) (clock + 1)) := by
   rw [← r1]
   have hlt : b < w.heap.size := by
    apply Nat.lt_of_not_le
    intro hn
    simp [hn] at hb
   simp [setBlock, hlt]
  have hset : setBlock w1 b (.map (es.push ⟨key, val, clock⟩) (clock + 1)) = w2 := by
   rw [← r1, ← r2]
   simp [setBlock]
  refine ⟨clock, w1, w2, ?_, ?_, h1, h2, h3, h4⟩
  ·rw [← r1]
   simp [Instr.mapEntry, run_underlying ht, MapKept.run_getObj_map hb, K.check w false hkey, q1, hz, MapKept.run_setObj_map _ hb, Result.andThen, setBlock, goInt]
  ·have : (Instr.entryStore t (.map (some b)) (.int .i64 (clock : Int)) val).run P w1 = .ok () (setBlock w1 b (.map (es.push ⟨key, val, clock⟩) (clock + 1))) := by
    simp [Instr.entryStore, MapKept.run_getObj_map hb1, asInt, asIntOf, hidx, hmod, MapKept.run_setObj_map _ hb1, Result.andThen, setBlock]
   rw [this, hset]
 ·exfalso
  have hl := (hat key kl hkey).1
  rw [hf] at hl
  obtain ⟨v, ps, hrun, hv⟩ := (show w.ownsMap P k Rv b m D from ⟨es, clock, hb, F, hs, hD⟩).look_ok K ht (hz w) (R := Rv) rfl hkey
  rw [hl] at hrun
  simp [Instr.lookup, run_underlying ht, MapKept.run_getObj_map hb, K.check w _ hkey, q1, Result.andThen] at hrun
end
end Go.Proofs.Ytjbjongahnocdaa.Lib

namespace Go.Proofs.Ytjbjongahnocdaa.Defs
open Go.RowKit Go.Proofs.YtjbjongahnocdaaW.PrintWords

def near_ (near : List (List Int)) (a : Int) : List Int := near.getD a.toNat []
abbrev Col := (Int → Option Int) × (Int → Option Int) × List Int
def put_ (f : Int → Option Int) (b v : Int) : Int → Option Int := fun y => if y = b then some v else f y
def colIn (a : Int) : List Int → Col → Option (Col × Option Int)
 | [], st => some (st, none)
 | b :: bs, st =>
  if 0 ≤ b ∧ b ≤ 1000 ∧ st.2.2.length ≤ 1000 then
   match st.1 b with
   | none => if st.2.1 b = none ∧ a ≠ b then colIn a bs (put_ st.1 b (wrap64 (1 - (st.1 a).getD 0)), put_ st.2.1 b a, st.2.2 ++ [b]) else none
   | some s => if s = (st.1 a).getD 0 then some (st, some b) else colIn a bs st
  else none
def colOut (near : List (List Int)) : Nat → Int → Col → Option (Col × Option (Int × Int))
 | 0, _, _ => none
 | f + 1, i, st =>
  if i < st.2.2.length then
   (if 0 ≤ rd st.2.2 i ∧ rd st.2.2 i < near.length ∧ rd st.2.2 i ≤ 1000 then
    (colIn (rd st.2.2 i) (near_ near (rd st.2.2 i)) st).bind fun p =>
     match p.2 with
     | some b => some (p.1, some (rd st.2.2 i, b))
     | none => colOut near f (i + 1) p.1
   else none)
  else some (st, none)
def wayF (fr : Int → Option Int) : Nat → Int → Option (List Int)
 | 0, _ => none
 | f + 1, x => if 0 ≤ x then (if x ≤ 1000 then (wayF fr f ((fr x).getD 0)).map (x :: ·) else none) else some []
def trimR : List Int → List Int → List Int × List Int
 | x :: y :: s, x' :: y' :: t => if y = y' then trimR (y :: s) (y' :: t) else (x :: y :: s, x' :: y' :: t)
 | p, q => (p, q)
def closeF (rv : List Int → Option (List Int)) (fr : Int → Option Int) (a b : Int) : Option (List Int) :=
 (wayF fr 100 a).bind fun p => (wayF fr 100 b).bind fun q =>
  (rv (trimR p.reverse q.reverse).2.reverse).bind fun q' => if q'.length = 0 then none else some ((trimR p.reverse q.reverse).1.reverse ++ q'.drop 1)
def visitF (near : List (List Int)) (sd fr : Int → Option Int) (s : Int) : Option (Col × Option (Int × Int)) :=
 if 0 ≤ s ∧ s ≤ 1000 ∧ sd s = none ∧ fr s = none then colOut near 100 0 (put_ sd s 0, put_ fr s (-1), [s]) else none
def stacksGo (rv : List Int → Option (List Int)) (near : List (List Int)) : Nat → Int → (Int → Option Int) → (Int → Option Int) → List Int → Option (List Int × List Int)
 | 0, _, _, _, acc => some (acc, [])
 | m + 1, i, sd, fr, acc =>
  match sd i with
  | some s => stacksGo rv near m (i + 1) sd fr (acc ++ [s])
  | none => (visitF near sd fr i).bind fun p =>
   match p.2 with
   | some (a, b) => (closeF rv p.1.2.1 a b).bind fun c => some ([], c)
   | none => stacksGo rv near m (i + 1) p.1.1 p.1.2.1 (acc ++ [(p.1.1 i).getD 0])
end Go.Proofs.Ytjbjongahnocdaa.Defs

namespace Go.Proofs.Ytjbjongahnocdaa.S
open Go.Proofs.Ytjbjongahnocdaa.Lib
open Go.Proofs.Ytjbjongahnocdaa.Defs
open Go.Maps (Keyed)
open Go.RowKit Go.Proofs.YtjbjongahnocdaaW.PrintWords Go.Proofs.YtjbjongahnocdaaW.PrintLast Go.Proofs.YtjbjongahnocdaaW.PrintMore
attribute [local go_sem] max2_int min2_int max_two min_two max_three min_three max_four min_four
set_option linter.unusedVariables false
set_option linter.unusedSimpArgs false

def slices_Reverse_int_int.l0 : Nat → List Int → Int → Int → Option (List Int)
 | 0, _, _, _ => none
 | k + 1, x0, x2, x3 => if x2 < x3 then (if 0 ≤ x3 then (if x3 < (x0.length : Int) then (if 0 ≤ x2 then (if x2 < (x0.length : Int) then (slices_Reverse_int_int.l0 k ((x0.set (x2 : Int).toNat (rd x0 x3)).set (x3 : Int).toNat (rd x0 x2)) (wrap64 (x2 + 1)) (wrap64 (x3 - 1))) else (none)) else (none)) else (none)) else (none)) else (some x0)
def slices_Reverse_int_int.f (k : Nat) (l0 : List Int) : Option (List Int) := slices_Reverse_int_int.l0 k l0 0 (wrap64 ((l0.length : Int) - 1))
def slices_Reverse_int_int.T3 : Bool × List (List Nat × List Nat) := (true, [([], []), ([], []), ([], []), ([], []), ([], []), ([], []), ([4, 5], [4, 5]), ([6], [6]), ([], []), ([], []), ([8, 9], [8, 9]), ([10], [10]), ([0, 1, 0, 1, 4, 5, 6, 7, 11], [0, 1]), ([12, 7, 0, 1, 4, 5, 6, 7, 11], [7, 12]), ([2, 3, 0, 1, 2, 3, 4, 5, 6, 7, 8, 9, 10, 11, 12, 13], [2, 3]), ([14, 11, 13, 0, 1, 2, 3, 4, 5, 6, 7, 8, 9, 10, 11, 12, 13], [11, 14])])
def slices_Reverse_int_int.B3 : List Nat := [0, 0, 0, 0, 0, 0, 48, 112, 0, 0, 768, 1792, 4083, 8179, 16383, 32767]
theorem slices_Reverse_int_int.tab3 : rtab .any (opsOf Try.f68 3) = slices_Reverse_int_int.T3 := by kernel_rfl
theorem slices_Reverse_int_int.bits3 : waitsOk slices_Reverse_int_int.T3.2 slices_Reverse_int_int.B3 = true := by kernel_rfl
set_option maxHeartbeats 8000000 in
set_option maxRecDepth 100000 in
theorem slices_Reverse_int_int.calls (k : Nat) (P0_ : Nat → Prop) (u9000_ : Value) (l0 : List Int) (r : List Int) (w0 w : World) (hB : Below w0.heap.size w0 w) (ho0 : Kd.R (Kd.int .i64) 3 w w0.heap.size P0_ u9000_ l0) (h : slices_Reverse_int_int.f k l0 = some r) :
  Calls Try.prog 68 #[u9000_] w fun e w' => e = .returned (.tuple #[]) ∧ Kd.R (Kd.int .i64) 3 w' w0.heap.size (fun k_ => (P0_ k_ ∨ w.heap.size ≤ k_)) u9000_ r ∧ Below w0.heap.size w0 w' ∧ Kept w w' (fun k_ => P0_ k_) := by
 have HO0 := Aside0.mk (show Kd.R (Kd.int .i64) 3 w w0.heap.size (fun k_ => (P0_ k_ ∨ w.heap.size ≤ k_)) u9000_ l0 from Kd.R_mono ho0 (fun k_ hk => (.inl hk)))
 have HK := Aside0.mk (Kept.refl w (fun k_ => P0_ k_))
 have HW0 := Aside0.mk hB.size
 have HB := Aside0.mk hB
 clear hB
 have H : (slices_Reverse_int_int.l0 k l0 0 (wrap64 ((l0.length : Int) - 1))) = some r := h
 clear h
 have H' := Aside0.mk H
 clear H
 obtain ⟨Ao2, co2, eo2⟩ := Kd.R_slice HO0.out
 subst eo2
 go_enter Try.func68, Try.ntmps68
 go_wp2
 go_loopg [2, 3] k (fun kq v2 v3 w' => ∃ (x0_1 : List Int) (x2_1 : Int) (x3_1 : Int), v2 = .int .i64 x2_1 ∧ v3 = .int .i64 x3_1 ∧ Aside0 (slices_Reverse_int_int.l0 kq x0_1 x2_1 x3_1 = some r) ∧ Aside0 (kq ≤ k) ∧ Aside0 (Kd.R (Kd.int .i64) 3 w' w0.heap.size (fun k_ => (P0_ k_ ∨ w.heap.size ≤ k_)) (.slice Ao2 l0.length co2) x0_1) ∧ Aside0 (Kept w w' (fun k_ => P0_ k_)) ∧ Aside0 (Below w0.heap.size w0 w'))
 case atStart => exact ⟨(l0), (0), (wrap64 ((l0.length : Int) - 1)), (by first | rfl | (simp; done) | (simp [*]; done)), (by first | rfl | (simp; done) | (simp [*]; done)), H', ⟨Nat.le_refl _⟩, ⟨by (with_reducible repeat (first | apply Kd.R_alloc | apply Kd.R_drewN | apply Kd.R_drew)); exact HO0.out⟩, ⟨by repeat (first | (with_reducible first | exact HK.out | apply Kept.alloc | apply Kept.drewN | apply Kept.drew) | exact HK.out)⟩, ⟨by repeat (first | (with_reducible first | exact HB.out | apply below_alloc | apply pw_below_drewN | apply below_drew1) | exact HB.out)⟩⟩
 case round =>
  clear H'
  try clear p2
  obtain ⟨x0_1, x2_1, x3_1, rfl, rfl, HA, HK1, HO_0, HK, HB⟩ := hrel
  have hl0_1 := (Kd.R_reads' HO_0.out).1
  rw [hl0_1] at HO_0
  (try simp only [hl0_1])
  cases gk with
  | zero => exact absurd HA.out (by simp [slices_Reverse_int_int.l0])
  | succ k1 =>
   have H := HA.out
   clear HA
   simp only [slices_Reverse_int_int.l0] at H
   by_cases c3 : x2_1 < x3_1
   ·rw [if_pos c3] at H
    have c3b0 : decide (x2_1 < x3_1) = true := decide_eq_true c3
    clear c3
    by_cases c4 : 0 ≤ x3_1
    ·rw [if_pos c4] at H
     have c4b0 : decide (0 ≤ x3_1) = true := decide_eq_true c4
     clear c4
     by_cases c5 : x3_1 < (x0_1.length : Int)
     ·rw [if_pos c5] at H
      have c5b0 : decide (x3_1 < (x0_1.length : Int)) = true := decide_eq_true c5
      clear c5
      by_cases c6 : 0 ≤ x2_1
      ·rw [if_pos c6] at H
       have c6b0 : decide (0 ≤ x2_1) = true := decide_eq_true c6
       clear c6
       by_cases c7 : x2_1 < (x0_1.length : Int)
       ·rw [if_pos c7] at H
        have c7b0 : decide (x2_1 < (x0_1.length : Int)) = true := decide_eq_true c7
        clear c7
        obtain ⟨y470, hy470⟩ : ∃ y_ : List Int, y_ = (x0_1.set (x2_1 : Int).toNat (rd x0_1 x3_1)) := ⟨_, rfl⟩
        replace H : (slices_Reverse_int_int.l0 k1 (y470.set (x3_1 : Int).toNat (rd x0_1 x2_1)) (wrap64 (x2_1 + 1)) (wrap64 (x3_1 - 1))) = some r := by first | (rw [hy470]; with_reducible exact H) | (have H2_ := (Option.bind_some _ _).symm.trans H; rw [hy470]; with_reducible exact H2_) | (have H2_ := (Option.bind_some _ _).symm.trans H; with_reducible exact H2_) | with_reducible exact H | (rw [hy470]; exact H) | exact H
        have Ny470 := Aside0.mk hy470
        clear hy470
        obtain ⟨y471, hy471⟩ : ∃ y_ : List Int, y_ = (y470.set (x3_1 : Int).toNat (rd x0_1 x2_1)) := ⟨_, rfl⟩
        replace H : (slices_Reverse_int_int.l0 k1 y471 (wrap64 (x2_1 + 1)) (wrap64 (x3_1 - 1))) = some r := by first | (rw [hy471]; with_reducible exact H) | (have H2_ := (Option.bind_some _ _).symm.trans H; rw [hy471]; with_reducible exact H2_) | (have H2_ := (Option.bind_some _ _).symm.trans H; with_reducible exact H2_) | with_reducible exact H | (rw [hy471]; exact H) | exact H
        have Ny471 := Aside0.mk hy471
        clear hy471
        have H' := Aside0.mk H
        clear H
        try go_wp2
        have n0_ := Aside0.mk (Kd.R_drew HO_0.out)
        have n1_ := Aside0.mk (Kept.drew HK.out)
        have n2_ := Aside0.mk (below_drew1 HB.out)
        clear HO_0
        clear HK
        clear HB
        have HO_0 := n0_
        have HK := n1_
        have HB := n2_
        clear n0_ n1_ n2_
        have p468 : 0 ≤ (x3_1 : Int) := of_decide_eq_true (by first | (with_reducible assumption) | assumption)
        have q468 : x3_1 < (x0_1.length : Int) := of_decide_eq_true (by first | (with_reducible assumption) | assumption)
        obtain ⟨ad468, e468, hx468_0⟩ := Kd.at_int (Kd.R_reads' HO_0.out).2.2 x3_1 p468 q468
        cases e468
        replace p468 := eq_true p468
        replace q468 := eq_true q468
        have p469 : 0 ≤ (x2_1 : Int) := of_decide_eq_true (by first | (with_reducible assumption) | assumption)
        have q469 : x2_1 < (x0_1.length : Int) := of_decide_eq_true (by first | (with_reducible assumption) | assumption)
        obtain ⟨ad469, e469, hx469_0⟩ := Kd.at_int (Kd.R_reads' HO_0.out).2.2 x2_1 p469 q469
        obtain rfl : ad468 = ad469 := (by injection e469)
        replace p469 := eq_true p469
        replace q469 := eq_true q469
        have p8 : 0 ≤ (x2_1 : Int) := of_decide_eq_true (by first | (with_reducible assumption) | assumption)
        have q8 : (x2_1 : Int) < ((x0_1.length : Int) : Int) := of_decide_eq_true (by first | (with_reducible assumption) | assumption)
        obtain ⟨go8, co8, eo8, gb8, gl8, cl8, HG8⟩ := Kd.R_form HO_0.out (by omega)
        (first | cases eo8 | (injection eo8 with ea_ en_ ec_; (first | subst ea_ | (injection ea_ with ea_; subst ea_)); subst ec_; clear en_))
        have GB8 := Aside0.mk gb8
        have GG8 := Aside0.mk HG8
        clear gb8 gl8 HG8
        have HMgo8 := Aside0.mk (show (P0_ go8 ∨ w.heap.size ≤ go8) from (HO_0.out.1 _ rfl))
        (first | simp only [add_plain] at hx468_0 | skip)
        (first | simp only [add_plain] at hx469_0 | skip)
        obtain ⟨hx8_0, hf8_0⟩ := Kd.R_celln 0 HO_0.out (x2_1 : Int) p8 q8
        replace p8 := eq_true p8
        replace q8 := eq_true q8
        have HP11 := Kd.R_putn HO_0.out (x2_1 : Int) (rd x0_1 x3_1)
        rw [← Ny470.out] at HP11
        have HQ11 := Aside0.mk HP11
        clear HP11
        have p9 : 0 ≤ (x3_1 : Int) := of_decide_eq_true (by first | (with_reducible assumption) | assumption)
        have q9 : (x3_1 : Int) < ((x0_1.length : Int) : Int) := of_decide_eq_true (by first | (with_reducible assumption) | assumption)
        obtain ⟨hx9_0, hf9_0⟩ := Kd.R_celln 0 HQ11.out (x3_1 : Int) p9 q9
        replace p9 := eq_true p9
        replace q9 := eq_true q9
        have HP12 := Kd.R_putn HQ11.out (x3_1 : Int) (rd x0_1 x2_1)
        rw [← Ny471.out] at HP12
        have HQ12 := Aside0.mk HP12
        clear HP12
        refine start_ (n := 16) (S := fun w' => w'.cell? ⟨go8, (x3_1).toNat, none⟩ = some (.int .i64 (rd x0_1 x3_1)) ∧ w'.cell? ⟨go8, (x2_1).toNat, none⟩ = some (.int .i64 (rd x0_1 x2_1))) (ds := [13, 15]) #[false, false, false, false, false, false, false, false, false, false, false, false, false, false, false, false] (by kernel_rfl) rfl rfl ⟨hx468_0, hx469_0⟩ (fun hHeld => ?_); refine with_tabW slices_Reverse_int_int.tab3 slices_Reverse_int_int.bits3 (fun HT_ HW_ => ?_)
        generalize wr.drew = w10 at HO_0 HK HB GG8 HQ11 HQ12 hf8_0 hf9_0 hx468_0 hx469_0 hx8_0 hx9_0 hHeld ⊢
        refine pure_ (i := 0) (N := some 14) (v := ?_) (a' := ?_) #[true, false, false, false, false, false, false, false, false, false, false, false, false, false, false, false] rfl rfl (any_of HT_.out (by kernel_rfl)) (fun _ _ _ h => h) (Or.inl ⟨by rfl, ?_⟩) ?_ ?_
        rotate_left
        ·intro w'
         go_simp
         with_reducible rfl
        rotate_left
        ·simp only [Act.put, List.setIfInBounds_toArray, List.set_cons_zero, List.set_cons_succ, i64_w, i32_w]
         rfl
        refine pure_ (i := 1) (N := some 15) (v := ?_) (a' := ?_) #[true, true, false, false, false, false, false, false, false, false, false, false, false, false, false, false] rfl rfl (any_of HT_.out (by kernel_rfl)) (fun _ _ _ h => h) (Or.inl ⟨by rfl, ?_⟩) ?_ ?_
        rotate_left
        ·intro w'
         go_simp
         with_reducible rfl
        rotate_left
        ·simp only [Act.put, List.setIfInBounds_toArray, List.set_cons_zero, List.set_cons_succ, i64_w, i32_w]
         rfl
        refine pure_ (i := 2) (N := some 16) (v := ?_) (a' := ?_) #[true, true, true, false, false, false, false, false, false, false, false, false, false, false, false, false] rfl rfl (any_of HT_.out (by kernel_rfl)) (fun _ _ _ h => h) (Or.inl ⟨by rfl, ?_⟩) ?_ ?_
        rotate_left
        ·intro w'
         go_simp
         with_reducible rfl
        rotate_left
        ·simp only [Act.put, List.setIfInBounds_toArray, List.set_cons_zero, List.set_cons_succ, i64_w, i32_w]
         rfl
        refine pure_ (i := 3) (N := some 17) (v := ?_) (a' := ?_) #[true, true, true, true, false, false, false, false, false, false, false, false, false, false, false, false] rfl rfl (any_of HT_.out (by kernel_rfl)) (fun _ _ _ h => h) (Or.inl ⟨by rfl, ?_⟩) ?_ ?_
        rotate_left
        ·intro w'
         go_simp
         with_reducible rfl
        rotate_left
        ·simp only [Act.put, List.setIfInBounds_toArray, List.set_cons_zero, List.set_cons_succ, i64_w, i32_w]
         rfl
        refine pure_ (i := 4) (N := some 18) (v := ?_) (a' := ?_) #[true, true, true, true, true, false, false, false, false, false, false, false, false, false, false, false] rfl rfl (any_of HT_.out (by kernel_rfl)) (fun _ _ _ h => h) (Or.inl ⟨by rfl, ?_⟩) ?_ ?_
        rotate_left
        ·intro w'
         go_simp
         with_reducible rfl
        rotate_left
        ·simp only [Act.put, List.setIfInBounds_toArray, List.set_cons_zero, List.set_cons_succ, i64_w, i32_w]
         rfl
        refine pure_ (i := 5) (N := some 19) (v := ?_) (a' := ?_) #[true, true, true, true, true, true, false, false, false, false, false, false, false, false, false, false] rfl rfl (any_of HT_.out (by kernel_rfl)) (fun _ _ _ h => h) (Or.inl ⟨by rfl, ?_⟩) ?_ ?_
        rotate_left
        ·intro w'
         go_simp
         with_reducible rfl
        rotate_left
        ·simp only [Act.put, List.setIfInBounds_toArray, List.set_cons_zero, List.set_cons_succ, i64_w, i32_w]
         rfl
        refine pure_ (i := 6) (N := some 20) (v := ?_) (a' := ?_) #[true, true, true, true, true, true, true, false, false, false, false, false, false, false, false, false] rfl rfl (any_of HT_.out (by kernel_rfl)) (fun _ _ _ h => h) (Or.inl ⟨by rfl, ?_⟩) ?_ ?_
        rotate_left
        ·intro w'
         go_simp
         with_reducible rfl
        rotate_left
        ·simp only [Act.put, List.setIfInBounds_toArray, List.set_cons_zero, List.set_cons_succ, i64_w, i32_w]
         rfl
        refine pure_ (i := 8) (N := some 22) (v := ?_) (a' := ?_) #[true, true, true, true, true, true, true, false, true, false, false, false, false, false, false, false] rfl rfl (any_of HT_.out (by kernel_rfl)) (fun _ _ _ h => h) (Or.inl ⟨by rfl, ?_⟩) ?_ ?_
        rotate_left
        ·intro w'
         go_simp
         with_reducible rfl
        rotate_left
        ·simp only [Act.put, List.setIfInBounds_toArray, List.set_cons_zero, List.set_cons_succ, i64_w, i32_w]
         rfl
        refine pure_ (i := 9) (N := some 23) (v := ?_) (a' := ?_) #[true, true, true, true, true, true, true, false, true, true, false, false, false, false, false, false] rfl rfl (any_of HT_.out (by kernel_rfl)) (fun _ _ _ h => h) (Or.inl ⟨by rfl, ?_⟩) ?_ ?_
        rotate_left
        ·intro w'
         go_simp
         with_reducible rfl
        rotate_left
        ·simp only [Act.put, List.setIfInBounds_toArray, List.set_cons_zero, List.set_cons_succ, i64_w, i32_w]
         rfl
        refine pure_ (i := 10) (N := some 24) (v := ?_) (a' := ?_) #[true, true, true, true, true, true, true, false, true, true, true, false, false, false, false, false] rfl rfl (any_of HT_.out (by kernel_rfl)) (fun _ _ _ h => h) (Or.inl ⟨by rfl, ?_⟩) ?_ ?_
        rotate_left
        ·intro w'
         go_simp
         with_reducible rfl
        rotate_left
        ·simp only [Act.put, List.setIfInBounds_toArray, List.set_cons_zero, List.set_cons_succ, i64_w, i32_w]
         rfl
        refine take_ (i := 7) (N := some 21) (v := ?_) (a' := ?_) #[true, true, true, true, true, true, true, true, true, true, true, false, false, false, false, false] rfl rfl (take_ofW HT_.out HW_.out (by kernel_rfl)) (fun _ _ _ h => h) (Or.inl ⟨by rfl, ?_⟩) hHeld ?_ ?_
        rotate_left
        ·rintro w' ⟨s0, s1⟩
         go_simp
         with_reducible rfl
        rotate_left
        ·simp only [Act.put, List.setIfInBounds_toArray, List.set_cons_zero, List.set_cons_succ, i64_w, i32_w]
         rfl
        refine take_ (i := 11) (N := some 25) (v := ?_) (a' := ?_) #[true, true, true, true, true, true, true, true, true, true, true, true, false, false, false, false] rfl rfl (take_ofW HT_.out HW_.out (by kernel_rfl)) (fun _ _ _ h => h) (Or.inl ⟨by rfl, ?_⟩) hHeld ?_ ?_
        rotate_left
        ·rintro w' ⟨s0, s1⟩
         go_simp
         with_reducible rfl
        rotate_left
        ·simp only [Act.put, List.setIfInBounds_toArray, List.set_cons_zero, List.set_cons_succ, i64_w, i32_w]
         rfl
        refine pure_ (i := 12) (N := some 26) (v := ?_) (a' := ?_) #[true, true, true, true, true, true, true, true, true, true, true, true, true, false, false, false] rfl rfl (any_of HT_.out (by kernel_rfl)) (fun _ _ _ h => h) (Or.inl ⟨by rfl, ?_⟩) ?_ ?_
        rotate_left
        ·intro w'
         go_simp
         with_reducible rfl
        rotate_left
        ·simp only [Act.put, List.setIfInBounds_toArray, List.set_cons_zero, List.set_cons_succ, i64_w, i32_w]
         rfl
        refine last_ (i := 13) (N := none) #[true, true, true, true, true, true, true, true, true, true, true, true, true, true, false, false] rfl rfl (one_of HT_.out (by kernel_rfl)) (by decide) (fun K hK => ?_)
        refine skip_ (w1 := ?_) (by rfl) rfl ?_ ?_
        rotate_left
        ·go_simp
         rfl
        refine hK.out _ _ ?_
        clear hK K
        refine pure_ (i := 14) (N := some 27) (v := ?_) (a' := ?_) #[true, true, true, true, true, true, true, true, true, true, true, true, true, true, true, false] rfl rfl (any_of HT_.out (by kernel_rfl)) (fun _ _ _ h => h) (Or.inl ⟨by rfl, ?_⟩) ?_ ?_
        rotate_left
        ·intro w'
         go_simp
         with_reducible rfl
        rotate_left
        ·simp only [Act.put, List.setIfInBounds_toArray, List.set_cons_zero, List.set_cons_succ, i64_w, i32_w]
         rfl
        refine last_ (i := 15) (N := none) #[true, true, true, true, true, true, true, true, true, true, true, true, true, true, true, true] rfl rfl (one_of HT_.out (by kernel_rfl)) (by decide) (fun K hK => ?_)
        refine skip_ (w1 := ?_) (by rfl) rfl ?_ ?_
        rotate_left
        ·go_simp
         rfl
        refine hK.out _ _ ?_
        clear hK K
        refine done_ (done_of HT_.out (by kernel_rfl)) ?_
        try go_wp2
        (try simp only [← hl0_1])
        go_roundg k1
        case measure => have := HK1.out; omega
        case rel => exact ⟨(y471), (wrap64 (x2_1 + 1)), (wrap64 (x3_1 - 1)), (by first | rfl | (simp; done) | (simp [*]; done)), (by first | rfl | (simp; done) | (simp [*]; done)), H', ⟨by have := HK1.out; omega⟩, ⟨by (try simp only [hl0_1]); (with_reducible repeat (first | apply Kd.R_alloc | apply Kd.R_drewN | apply Kd.R_drew)); exact HQ12.out⟩, ⟨by repeat (first | (with_reducible first | exact HK.out | apply Kept.alloc | apply Kept.drewN | apply Kept.drew | refine Kept.setCell ?_ HMgo8.out _ | refine Kept.setCell ?_ HMgo8.out _) | exact HK.out)⟩, ⟨by repeat (first | (with_reducible first | exact HB.out | apply below_alloc | apply pw_below_drewN | apply below_drew1 | refine below_set ?_ GB8.out | refine below_set ?_ GB8.out) | exact HB.out)⟩⟩
       ·rw [if_neg c7] at H
        exact absurd H (by simp)
      ·rw [if_neg c6] at H
       exact absurd H (by simp)
     ·rw [if_neg c5] at H
      exact absurd H (by simp)
    ·rw [if_neg c4] at H
     exact absurd H (by simp)
   ·rw [if_neg c3] at H
    have c3b0 : decide (x2_1 < x3_1) = false := decide_eq_false c3
    clear c3
    obtain rfl := Option.some.inj H
    go_wp2
    first | go_end0 | ((try simp only [Exit.inBlock, Exit.then]); refine bodyPost_ret (results_none rfl _ _ _) rfl ?_)
    exact ⟨by first | rfl | (simp [errW_none, errW_some] <;> rfl) | (simp [*, errW_none, errW_some] <;> rfl), (by first | exact (by (with_reducible repeat (first | apply Kd.R_alloc | apply Kd.R_drewN | apply Kd.R_drew)); exact HO_0.out) | (simp only [hl0_1]; exact (by (with_reducible repeat (first | apply Kd.R_alloc | apply Kd.R_drewN | apply Kd.R_drew)); exact HO_0.out))), by repeat (first | (with_reducible first | exact HB.out | apply below_alloc | apply pw_below_drewN | apply below_drew1) | exact HB.out), by repeat (first | (with_reducible first | exact HK.out | apply Kept.alloc | apply Kept.drewN | apply Kept.drew) | exact HK.out)⟩
end Go.Proofs.Ytjbjongahnocdaa.S
