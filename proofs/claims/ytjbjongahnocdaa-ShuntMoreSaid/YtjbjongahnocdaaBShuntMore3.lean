-- Written by wip/bundle.py: texts of this claim, one behind the other.
import Derived.Test.YtjbjongahnocdaaBShuntMore2
set_option linter.unusedVariables false
set_option linter.unusedSimpArgs false

namespace Go.Proofs.Ytjbjongahnocdaa.S
open Go.Proofs.Ytjbjongahnocdaa.Lib
open Go.Proofs.Ytjbjongahnocdaa.Defs
open Go.Maps (Keyed)
open Go.RowKit Go.Proofs.YtjbjongahnocdaaW.PrintWords Go.Proofs.YtjbjongahnocdaaW.PrintLast Go.Proofs.YtjbjongahnocdaaW.PrintMore
attribute [local go_sem] max2_int min2_int max_two min_two max_three min_three max_four min_four   -- for this text's walks alone
set_option linter.unusedVariables false
set_option linter.unusedSimpArgs false

/-! ### tickingref02_Conflict: function 73 -/
def tickingref02_Conflict.l0 : Nat → List Int → Int → Int → Int → Option (Bool)
  | 0, _, _, _, _ => none
  | k + 1, x0, x1, x2, x7 => if x7 < (x0.length : Int) then (if 0 ≤ x7 then (if 0 ≤ x1 then (if x1 < (x0.length : Int) then (if (rd x0 x7) < (rd x0 x1) then (if 0 ≤ x2 then (if x2 < (x0.length : Int) then (if (rd x0 x1) < (rd x0 x2) then (some true) else (tickingref02_Conflict.l0 k x0 x1 x2 (wrap64 (x7 + 1)))) else (none)) else (none)) else (tickingref02_Conflict.l0 k x0 x1 x2 (wrap64 (x7 + 1)))) else (none)) else (none)) else (none)) else (some false)
def tickingref02_Conflict.f (k : Nat) (l0 : List Int) (a1 : Int) (a2 : Int) : Option (Bool) := tickingref02_Conflict.l0 k l0 a1 a2 (wrap64 (a2 + 1))
theorem tickingref02_Conflict.mono_l : ∀ k, (∀ y0 y1 y2 y3, LeO (tickingref02_Conflict.l0 k y0 y1 y2 y3) (tickingref02_Conflict.l0 (k + 1) y0 y1 y2 y3))
  | 0 => fun _ _ _ _ r h => by simp [tickingref02_Conflict.l0] at h
  | k + 1 => by
    have ih0 := tickingref02_Conflict.mono_l k
    · intro y0 y1 y2 y3
      unfold tickingref02_Conflict.l0
      repeat' first
      | (with_reducible exact ih0 _ _ _ _)
      | (with_reducible exact LeO.refl _)
      | (with_reducible exact LeO.none _)
      | (with_reducible refine LeO.ite ?_ ?_)
      | (with_reducible refine LeO.bind ?_ (fun _ => ?_))
      | exact ih0 _ _ _ _
      | exact LeO.none _
      | refine LeO.ite ?_ ?_
      | refine LeO.bind ?_ (fun _ => ?_)
theorem tickingref02_Conflict.mono : ∀ a0 a1 a2 k, LeO (tickingref02_Conflict.f k a0 a1 a2) (tickingref02_Conflict.f (k + 1) a0 a1 a2) := by
  intro a0 a1 a2 k
  have ih0 := tickingref02_Conflict.mono_l k
  unfold tickingref02_Conflict.f
  repeat' first
      | (with_reducible exact ih0 _ _ _ _)
      | (with_reducible exact LeO.refl _)
      | (with_reducible exact LeO.none _)
      | (with_reducible refine LeO.ite ?_ ?_)
      | (with_reducible refine LeO.bind ?_ (fun _ => ?_))
      | exact ih0 _ _ _ _
      | exact LeO.none _
      | refine LeO.ite ?_ ?_
      | refine LeO.bind ?_ (fun _ => ?_)
set_option maxHeartbeats 8000000 in
set_option maxRecDepth 100000 in
theorem tickingref02_Conflict.calls (k : Nat) (A0 : Option Addr) (c0 : Nat) (l0 : List Int) (a1 : Int) (a2 : Int) (r : Bool) (w : World) (hr0 : Kd.C (Kd.int .i64) w A0 l0.length l0) (hc0 : l0.length ≤ c0) (h : tickingref02_Conflict.f k l0 a1 a2 = some r) :
    Calls Try.prog 73 #[.slice A0 l0.length c0, .int .i64 a1, .int .i64 a2] w fun e w' => e = .returned (.bool r) ∧ Drawn0 w w' := by
  have HR0 := Aside0.mk hr0
  have HC0 := Aside0.mk hc0
  clear hr0 hc0
  have H : (tickingref02_Conflict.l0 k l0 a1 a2 (wrap64 (a2 + 1))) = some r := h
  clear h
  have H' := Aside0.mk H
  clear H
  go_enter Try.func73, Try.ntmps73
  go_wp2
  repeat (go_quiet (fail); try go_wp2)
  go_loopg [7] k (fun kq v7 w' => ∃ (x7_1 : Int), v7 = .int .i64 x7_1 ∧ Aside0 (tickingref02_Conflict.l0 kq l0 a1 a2 x7_1 = some r) ∧ Aside0 (kq ≤ k) ∧ Drawn0 w w')
  case atStart => exact ⟨(wrap64 (a2 + 1)), (by first | rfl | (simp; done) | (simp [*]; done)), H', ⟨Nat.le_refl _⟩, by repeat (first | exact Drawn0.refl _ | apply Drawn0.step)⟩
  case round =>
    clear H'
    try clear p2
    obtain ⟨x7_1, rfl, HA, HK1, ⟨m1, rfl⟩⟩ := hrel
    cases gk with
    | zero => exact absurd HA.out (by simp [tickingref02_Conflict.l0])
    | succ k1 =>
      have H := HA.out
      clear HA
      simp only [tickingref02_Conflict.l0] at H
      by_cases c4 : x7_1 < (l0.length : Int)
      · rw [if_pos c4] at H
        have c4b0 : decide (x7_1 < (l0.length : Int)) = true := decide_eq_true c4
        clear c4
        by_cases c5 : 0 ≤ x7_1
        · rw [if_pos c5] at H
          have c5b0 : decide (0 ≤ x7_1) = true := decide_eq_true c5
          clear c5
          by_cases c6 : 0 ≤ a1
          · rw [if_pos c6] at H
            have c6b0 : decide (0 ≤ a1) = true := decide_eq_true c6
            clear c6
            by_cases c7 : a1 < (l0.length : Int)
            · rw [if_pos c7] at H
              have c7b0 : decide (a1 < (l0.length : Int)) = true := decide_eq_true c7
              clear c7
              by_cases c8 : (rd l0 x7_1) < (rd l0 a1)
              · rw [if_pos c8] at H
                have c8b0 : decide ((rd l0 x7_1) < (rd l0 a1)) = true := decide_eq_true c8
                clear c8
                by_cases c9 : 0 ≤ a2
                · rw [if_pos c9] at H
                  have c9b0 : decide (0 ≤ a2) = true := decide_eq_true c9
                  clear c9
                  by_cases c10 : a2 < (l0.length : Int)
                  · rw [if_pos c10] at H
                    have c10b0 : decide (a2 < (l0.length : Int)) = true := decide_eq_true c10
                    clear c10
                    by_cases c11 : (rd l0 a1) < (rd l0 a2)
                    · rw [if_pos c11] at H
                      have c11b0 : decide ((rd l0 a1) < (rd l0 a2)) = true := decide_eq_true c11
                      clear c11
                      obtain rfl := Option.some.inj H
                      have p535 : 0 ≤ (x7_1 : Int) := of_decide_eq_true (by first | (with_reducible assumption) | assumption)
                      have q535 : x7_1 < (l0.length : Int) := of_decide_eq_true (by first | (with_reducible assumption) | assumption)
                      obtain ⟨ad535, e535, hx535_0⟩ := Kd.at_int HR0.out x7_1 p535 q535
                      cases e535
                      replace p535 := eq_true p535
                      replace q535 := eq_true q535
                      have p536 : 0 ≤ (a1 : Int) := of_decide_eq_true (by first | (with_reducible assumption) | assumption)
                      have q536 : a1 < (l0.length : Int) := of_decide_eq_true (by first | (with_reducible assumption) | assumption)
                      obtain ⟨ad536, e536, hx536_0⟩ := Kd.at_int HR0.out a1 p536 q536
                      obtain rfl : ad535 = ad536 := (by injection e536)
                      replace p536 := eq_true p536
                      replace q536 := eq_true q536
                      have p537 : 0 ≤ (a1 : Int) := of_decide_eq_true (by first | (with_reducible assumption) | assumption)
                      have q537 : a1 < (l0.length : Int) := of_decide_eq_true (by first | (with_reducible assumption) | assumption)
                      obtain ⟨ad537, e537, hx537_0⟩ := Kd.at_int HR0.out a1 p537 q537
                      obtain rfl : ad535 = ad537 := (by injection e537)
                      replace p537 := eq_true p537
                      replace q537 := eq_true q537
                      have p538 : 0 ≤ (a2 : Int) := of_decide_eq_true (by first | (with_reducible assumption) | assumption)
                      have q538 : a2 < (l0.length : Int) := of_decide_eq_true (by first | (with_reducible assumption) | assumption)
                      obtain ⟨ad538, e538, hx538_0⟩ := Kd.at_int HR0.out a2 p538 q538
                      obtain rfl : ad535 = ad538 := (by injection e538)
                      replace p538 := eq_true p538
                      replace q538 := eq_true q538
                      go_wp2
                      repeat (go_quiet (fail); try go_wp2)
                      go_ret
                      exact ⟨by first | rfl | (simp; done) | (simp [*]; done), by repeat (first | exact Drawn0.refl _ | apply Drawn0.step)⟩
                    · rw [if_neg c11] at H
                      have c11b0 : decide ((rd l0 a1) < (rd l0 a2)) = false := decide_eq_false c11
                      clear c11
                      have H' := Aside0.mk H
                      clear H
                      have p535 : 0 ≤ (x7_1 : Int) := of_decide_eq_true (by first | (with_reducible assumption) | assumption)
                      have q535 : x7_1 < (l0.length : Int) := of_decide_eq_true (by first | (with_reducible assumption) | assumption)
                      obtain ⟨ad535, e535, hx535_0⟩ := Kd.at_int HR0.out x7_1 p535 q535
                      cases e535
                      replace p535 := eq_true p535
                      replace q535 := eq_true q535
                      have p536 : 0 ≤ (a1 : Int) := of_decide_eq_true (by first | (with_reducible assumption) | assumption)
                      have q536 : a1 < (l0.length : Int) := of_decide_eq_true (by first | (with_reducible assumption) | assumption)
                      obtain ⟨ad536, e536, hx536_0⟩ := Kd.at_int HR0.out a1 p536 q536
                      obtain rfl : ad535 = ad536 := (by injection e536)
                      replace p536 := eq_true p536
                      replace q536 := eq_true q536
                      have p537 : 0 ≤ (a1 : Int) := of_decide_eq_true (by first | (with_reducible assumption) | assumption)
                      have q537 : a1 < (l0.length : Int) := of_decide_eq_true (by first | (with_reducible assumption) | assumption)
                      obtain ⟨ad537, e537, hx537_0⟩ := Kd.at_int HR0.out a1 p537 q537
                      obtain rfl : ad535 = ad537 := (by injection e537)
                      replace p537 := eq_true p537
                      replace q537 := eq_true q537
                      have p538 : 0 ≤ (a2 : Int) := of_decide_eq_true (by first | (with_reducible assumption) | assumption)
                      have q538 : a2 < (l0.length : Int) := of_decide_eq_true (by first | (with_reducible assumption) | assumption)
                      obtain ⟨ad538, e538, hx538_0⟩ := Kd.at_int HR0.out a2 p538 q538
                      obtain rfl : ad535 = ad538 := (by injection e538)
                      replace p538 := eq_true p538
                      replace q538 := eq_true q538
                      go_wp2
                      repeat (go_quiet (fail); try go_wp2)
                      go_roundg k1
                      case measure => have := HK1.out; omega
                      case rel => exact ⟨(wrap64 (x7_1 + 1)), (by first | rfl | (simp; done) | (simp [*]; done)), H', ⟨by have := HK1.out; omega⟩, by repeat (first | exact Drawn0.refl _ | apply Drawn0.step)⟩
                  · rw [if_neg c10] at H
                    exact absurd H (by simp)
                · rw [if_neg c9] at H
                  exact absurd H (by simp)
              · rw [if_neg c8] at H
                have c8b0 : decide ((rd l0 x7_1) < (rd l0 a1)) = false := decide_eq_false c8
                clear c8
                have H' := Aside0.mk H
                clear H
                have p535 : 0 ≤ (x7_1 : Int) := of_decide_eq_true (by first | (with_reducible assumption) | assumption)
                have q535 : x7_1 < (l0.length : Int) := of_decide_eq_true (by first | (with_reducible assumption) | assumption)
                obtain ⟨ad535, e535, hx535_0⟩ := Kd.at_int HR0.out x7_1 p535 q535
                cases e535
                replace p535 := eq_true p535
                replace q535 := eq_true q535
                have p536 : 0 ≤ (a1 : Int) := of_decide_eq_true (by first | (with_reducible assumption) | assumption)
                have q536 : a1 < (l0.length : Int) := of_decide_eq_true (by first | (with_reducible assumption) | assumption)
                obtain ⟨ad536, e536, hx536_0⟩ := Kd.at_int HR0.out a1 p536 q536
                obtain rfl : ad535 = ad536 := (by injection e536)
                replace p536 := eq_true p536
                replace q536 := eq_true q536
                go_wp2
                repeat (go_quiet (fail); try go_wp2)
                go_roundg k1
                case measure => have := HK1.out; omega
                case rel => exact ⟨(wrap64 (x7_1 + 1)), (by first | rfl | (simp; done) | (simp [*]; done)), H', ⟨by have := HK1.out; omega⟩, by repeat (first | exact Drawn0.refl _ | apply Drawn0.step)⟩
            · rw [if_neg c7] at H
              exact absurd H (by simp)
          · rw [if_neg c6] at H
            exact absurd H (by simp)
        · rw [if_neg c5] at H
          exact absurd H (by simp)
      · rw [if_neg c4] at H
        have c4b0 : decide (x7_1 < (l0.length : Int)) = false := decide_eq_false c4
        clear c4
        obtain rfl := Option.some.inj H
        go_wp2
        repeat (go_quiet (fail); try go_wp2)
        go_ret
        exact ⟨by first | rfl | (simp; done) | (simp [*]; done), by repeat (first | exact Drawn0.refl _ | apply Drawn0.step)⟩

end Go.Proofs.Ytjbjongahnocdaa.S

namespace Go.Proofs.Ytjbjongahnocdaa.S
open Go.Proofs.Ytjbjongahnocdaa.Lib
open Go.Proofs.Ytjbjongahnocdaa.Defs
open Go.Maps (Keyed)
open Go.RowKit Go.Proofs.YtjbjongahnocdaaW.PrintWords Go.Proofs.YtjbjongahnocdaaW.PrintLast Go.Proofs.YtjbjongahnocdaaW.PrintMore
attribute [local go_sem] max2_int min2_int max_two min_two max_three min_three max_four min_four   -- for this text's walks alone
set_option linter.unusedVariables false
set_option linter.unusedSimpArgs false

/-! ### tickingref02_StacksBlock: function 47 -/
mutual
def tickingref02_StacksBlock.j0 : Nat → List Int → List Int → Bool → Option (Bool)
  | 0, _, _, _ => none
  | k + 1, x0, x1, x23 => if x23 = true then (some false) else (tickingref02_StacksBlock.l0 k x0 x1 0)
def tickingref02_StacksBlock.l0 : Nat → List Int → List Int → Int → Option (Bool)
  | 0, _, _, _ => none
  | k + 1, x0, x1, x5 => if x5 < (x1.length : Int) then (if 0 ≤ x5 then (if (x1.length : Int) = 0 then (none) else (if 0 ≤ (Int.tmod (wrap64 (x5 + 1)) (x1.length : Int)) then (if (Int.tmod (wrap64 (x5 + 1)) (x1.length : Int)) < (x1.length : Int) then ((tickingref02_Conflict.f k x0 (mn (rd x1 x5) (rd x1 (Int.tmod (wrap64 (x5 + 1)) (x1.length : Int)))) (mx (rd x1 x5) (rd x1 (Int.tmod (wrap64 (x5 + 1)) (x1.length : Int))))).bind fun t542 => (if t542 = true then (tickingref02_StacksBlock.l0 k x0 x1 (wrap64 (x5 + 1))) else (some false))) else (none)) else (none))) else (none)) else (some true)
end
def tickingref02_StacksBlock.f (k : Nat) (l0 : List Int) (l1 : List Int) : Option (Bool) := if (l1.length : Int) < 3 then (tickingref02_StacksBlock.j0 k l0 l1 true) else (if ((l1.length : Int) % 2) = 0 then (tickingref02_StacksBlock.j0 k l0 l1 true) else ((tickingref02_at.f k l1 (l0.length : Int)).bind fun t539 => (tickingref02_StacksBlock.j0 k l0 l1 (!t539))))
theorem tickingref02_StacksBlock.mono_l : ∀ k, (∀ y0 y1 y2, LeO (tickingref02_StacksBlock.j0 k y0 y1 y2) (tickingref02_StacksBlock.j0 (k + 1) y0 y1 y2)) ∧ (∀ y0 y1 y2, LeO (tickingref02_StacksBlock.l0 k y0 y1 y2) (tickingref02_StacksBlock.l0 (k + 1) y0 y1 y2))
  | 0 => ⟨fun _ _ _ r h => by simp [tickingref02_StacksBlock.j0] at h, fun _ _ _ r h => by simp [tickingref02_StacksBlock.l0] at h⟩
  | k + 1 => by
    obtain ⟨ih0, ih1⟩ := tickingref02_StacksBlock.mono_l k
    refine ⟨?_, ?_⟩
    · intro y0 y1 y2
      unfold tickingref02_StacksBlock.j0
      repeat' first
      | (with_reducible exact ih0 _ _ _)
      | (with_reducible exact ih1 _ _ _)
      | (with_reducible exact tickingref02_Conflict.mono _ _ _ _)
      | (with_reducible exact tickingref02_at.mono _ _ _)
      | (with_reducible exact LeO.refl _)
      | (with_reducible exact LeO.none _)
      | (with_reducible refine LeO.ite ?_ ?_)
      | (with_reducible refine LeO.bind ?_ (fun _ => ?_))
      | exact ih0 _ _ _
      | exact ih1 _ _ _
      | exact tickingref02_Conflict.mono _ _ _ _
      | exact tickingref02_at.mono _ _ _
      | exact LeO.none _
      | refine LeO.ite ?_ ?_
      | refine LeO.bind ?_ (fun _ => ?_)
    · intro y0 y1 y2
      unfold tickingref02_StacksBlock.l0
      repeat' first
      | (with_reducible exact ih0 _ _ _)
      | (with_reducible exact ih1 _ _ _)
      | (with_reducible exact tickingref02_Conflict.mono _ _ _ _)
      | (with_reducible exact tickingref02_at.mono _ _ _)
      | (with_reducible exact LeO.refl _)
      | (with_reducible exact LeO.none _)
      | (with_reducible refine LeO.ite ?_ ?_)
      | (with_reducible refine LeO.bind ?_ (fun _ => ?_))
      | exact ih0 _ _ _
      | exact ih1 _ _ _
      | exact tickingref02_Conflict.mono _ _ _ _
      | exact tickingref02_at.mono _ _ _
      | exact LeO.none _
      | refine LeO.ite ?_ ?_
      | refine LeO.bind ?_ (fun _ => ?_)
theorem tickingref02_StacksBlock.mono : ∀ a0 a1 k, LeO (tickingref02_StacksBlock.f k a0 a1) (tickingref02_StacksBlock.f (k + 1) a0 a1) := by
  intro a0 a1 k
  obtain ⟨ih0, ih1⟩ := tickingref02_StacksBlock.mono_l k
  unfold tickingref02_StacksBlock.f
  repeat' first
      | (with_reducible exact ih0 _ _ _)
      | (with_reducible exact ih1 _ _ _)
      | (with_reducible exact tickingref02_Conflict.mono _ _ _ _)
      | (with_reducible exact tickingref02_at.mono _ _ _)
      | (with_reducible exact LeO.refl _)
      | (with_reducible exact LeO.none _)
      | (with_reducible refine LeO.ite ?_ ?_)
      | (with_reducible refine LeO.bind ?_ (fun _ => ?_))
      | exact ih0 _ _ _
      | exact ih1 _ _ _
      | exact tickingref02_Conflict.mono _ _ _ _
      | exact tickingref02_at.mono _ _ _
      | exact LeO.none _
      | refine LeO.ite ?_ ?_
      | refine LeO.bind ?_ (fun _ => ?_)
set_option maxHeartbeats 8000000 in
set_option maxRecDepth 100000 in
theorem tickingref02_StacksBlock.calls (k : Nat) (A0 : Option Addr) (c0 : Nat) (l0 : List Int) (A1 : Option Addr) (c1 : Nat) (l1 : List Int) (r : Bool) (w : World) (hr0 : Kd.C (Kd.int .i64) w A0 l0.length l0) (hc0 : l0.length ≤ c0) (hr1 : Kd.C (Kd.int .i64) w A1 l1.length l1) (hc1 : l1.length ≤ c1) (h : tickingref02_StacksBlock.f k l0 l1 = some r) :
    Calls Try.prog 47 #[.slice A0 l0.length c0, .slice A1 l1.length c1] w fun e w' => e = .returned (.bool r) ∧ Below w.heap.size w w' := by
  have HR0 := Aside0.mk hr0
  have HC0 := Aside0.mk hc0
  clear hr0 hc0
  have HR1 := Aside0.mk hr1
  have HC1 := Aside0.mk hc1
  clear hr1 hc1
  have HB := Aside0.mk (Below.refl w.heap.size w)
  have H : (if (l1.length : Int) < 3 then (tickingref02_StacksBlock.j0 k l0 l1 true) else (if ((l1.length : Int) % 2) = 0 then (tickingref02_StacksBlock.j0 k l0 l1 true) else ((tickingref02_at.f k l1 (l0.length : Int)).bind fun t539 => (tickingref02_StacksBlock.j0 k l0 l1 (!t539))))) = some r := h
  clear h
  have HC3 := Aside0.mk H
  clear H
  go_enter Try.func47, Try.ntmps47
  go_upto_region 1 with (fail)
  repeat (go_quiet (fail); go_upto_region 1 with (fail))
  go_cut [23] (fun v23 wc => ∃ (kq : Nat) (x23_2 : Bool), v23 = .bool x23_2 ∧ Aside0 (tickingref02_StacksBlock.j0 kq l0 l1 x23_2 = some r) ∧ Aside0 (kq ≤ k) ∧ Aside0 (Below w.heap.size w wc))
  case first =>
    have H := HC3.out
    clear HC3
    by_cases c4 : (l1.length : Int) < 3
    · rw [if_pos c4] at H
      have c4b0 : decide ((l1.length : Int) < 3) = true := decide_eq_true c4
      have c4b1 : decide (l1.length < 3) = true := decide_eq_true (by omega)
      clear c4
      (first | rw [c4b0] | (simp only [i64_w, i32_w]; rw [c4b0]) | skip)
      have H' := Aside0.mk H
      clear H
      go_wp2
      repeat (go_quiet (fail); try go_wp2)
      go_meet
      case rel => exact ⟨_, (true), (by first | rfl | (simp; done) | (simp [*]; done)), H', ⟨by first | omega | exact Nat.le_refl _⟩, ⟨by repeat (first | (with_reducible first | exact HB.out | apply below_alloc | apply pw_below_drewN | apply below_drew1) | exact HB.out)⟩⟩
    · rw [if_neg c4] at H
      have c4b0 : decide ((l1.length : Int) < 3) = false := decide_eq_false c4
      have c4b1 : decide (l1.length < 3) = false := decide_eq_false (by omega)
      clear c4
      (first | rw [c4b0] | (simp only [i64_w, i32_w]; rw [c4b0]) | skip)
      by_cases c5 : ((l1.length : Int) % 2) = 0
      · rw [if_pos c5] at H
        have c5b0 : (((l1.length : Int) % 2) == 0) = true := beq_iff_eq.mpr c5
        have c5b1 : (((l1.length : Int) % 2) != 0) = false := bne_eq_false_iff_eq.mpr c5
        clear c5
        have H' := Aside0.mk H
        clear H
        go_wp2
        repeat (go_quiet (fail); try go_wp2)
        go_meet
        case rel => exact ⟨_, (true), (by first | rfl | (simp; done) | (simp [*]; done)), H', ⟨by first | omega | exact Nat.le_refl _⟩, ⟨by repeat (first | (with_reducible first | exact HB.out | apply below_alloc | apply pw_below_drewN | apply below_drew1) | exact HB.out)⟩⟩
      · rw [if_neg c5] at H
        have c5b0 : (((l1.length : Int) % 2) == 0) = false := beq_eq_false_iff_ne.mpr c5
        have c5b1 : (((l1.length : Int) % 2) != 0) = true := bne_iff_ne.mpr c5
        replace H := Option.bind_eq_some_iff.mp H
        obtain ⟨t539, A60, H⟩ := H
        replace H : (tickingref02_StacksBlock.j0 k l0 l1 (!t539)) = some r := H
        have A6 := Aside0.mk A60
        clear A60
        have H' := Aside0.mk H
        clear H
        go_wp2_with (first | (go_at_call 65; (with_reducible refine (tickingref02_at.calls k _ _ l1 (l0.length : Int) t539 _ ?side1 ?side2 A6.out).mono ?_); (case side1 => repeat (first | exact (Kd.C_below HR1.out HB.out) | (with_reducible refine Kd.C_alloc ?_ _) | (with_reducible refine Kd.C_drewN ?_ _) | (with_reducible refine Kd.C_drew ?_))); (case side2 => exact HC1.out); rintro e w' ⟨rfl, ⟨nd, rfl⟩⟩; (try first | exact ⟨rfl, _, World.drewN_drewN _ _ _⟩ | exact ⟨rfl, _, Eq.trans (World.drewN_drewN _ _ _) (congrArg (World.drewN _) (Nat.add_assoc _ _ _))⟩)))
        repeat (go_quiet (first | (go_at_call 65; (with_reducible refine (tickingref02_at.calls k _ _ l1 (l0.length : Int) t539 _ ?side1 ?side2 A6.out).mono ?_); (case side1 => repeat (first | exact (Kd.C_below HR1.out HB.out) | (with_reducible refine Kd.C_alloc ?_ _) | (with_reducible refine Kd.C_drewN ?_ _) | (with_reducible refine Kd.C_drew ?_))); (case side2 => exact HC1.out); rintro e w' ⟨rfl, ⟨nd, rfl⟩⟩; (try first | exact ⟨rfl, _, World.drewN_drewN _ _ _⟩ | exact ⟨rfl, _, Eq.trans (World.drewN_drewN _ _ _) (congrArg (World.drewN _) (Nat.add_assoc _ _ _))⟩))); try go_wp2_with (first | (go_at_call 65; (with_reducible refine (tickingref02_at.calls k _ _ l1 (l0.length : Int) t539 _ ?side1 ?side2 A6.out).mono ?_); (case side1 => repeat (first | exact (Kd.C_below HR1.out HB.out) | (with_reducible refine Kd.C_alloc ?_ _) | (with_reducible refine Kd.C_drewN ?_ _) | (with_reducible refine Kd.C_drew ?_))); (case side2 => exact HC1.out); rintro e w' ⟨rfl, ⟨nd, rfl⟩⟩; (try first | exact ⟨rfl, _, World.drewN_drewN _ _ _⟩ | exact ⟨rfl, _, Eq.trans (World.drewN_drewN _ _ _) (congrArg (World.drewN _) (Nat.add_assoc _ _ _))⟩))))
        go_meet
        case rel => exact ⟨_, (!t539), (by first | rfl | (simp; done) | (simp [*]; done)), H', ⟨by first | omega | exact Nat.le_refl _⟩, ⟨by repeat (first | (with_reducible first | exact HB.out | apply below_alloc | apply pw_below_drewN | apply below_drew1) | exact HB.out)⟩⟩
  case rest =>
    clear HC3
    try clear c1
    try clear p2
    try clear c4
    try clear c4b0
    try clear c4b1
    try clear c5
    try clear c5b0
    try clear c5b1
    obtain ⟨kq, x23_2, rfl, HA, HJ2, HB⟩ := hcut
    cases kq with
    | zero => exact absurd HA.out (by simp [tickingref02_StacksBlock.j0])
    | succ kj2 =>
      have H := HA.out
      clear HA
      simp only [tickingref02_StacksBlock.j0] at H
      by_cases c7 : x23_2 = true
      · subst c7
        have H1 : (some false) = some r := by rw [if_pos rfl] at H; exact H
        clear H
        have H := H1
        clear H1
        obtain rfl := Option.some.inj H
        go_wp2
        repeat (go_quiet (fail); try go_wp2)
        go_ret
        exact ⟨by first | rfl | (simp [errW_none, errW_some] <;> rfl) | (simp [*, errW_none, errW_some] <;> rfl), by repeat (first | (with_reducible first | exact HB.out | apply below_alloc | apply pw_below_drewN | apply below_drew1) | exact HB.out)⟩
      · replace c7 := Bool.eq_false_iff.mpr c7
        subst c7
        have H1 : (tickingref02_StacksBlock.l0 kj2 l0 l1 0) = some r := by rw [if_neg (show ¬ (false = true) by decide)] at H; exact H
        clear H
        have H := H1
        clear H1
        have H' := Aside0.mk H
        clear H
        go_wp2
        repeat (go_quiet (fail); try go_wp2)
        go_loopg [5] kj2 (fun kq v5 w' => ∃ (x5_2 : Int), v5 = .int .i64 x5_2 ∧ Aside0 (tickingref02_StacksBlock.l0 kq l0 l1 x5_2 = some r) ∧ Aside0 (kq ≤ kj2) ∧ Aside0 (Below w.heap.size w w'))
        case atStart => exact ⟨(0), (by first | rfl | (simp; done) | (simp [*]; done)), H', ⟨Nat.le_refl _⟩, ⟨by repeat (first | (with_reducible first | exact HB.out | apply below_alloc | apply pw_below_drewN | apply below_drew1) | exact HB.out)⟩⟩
        case round =>
          clear H'
          try clear c1
          try clear p2
          try clear c4
          try clear c4b0
          try clear c4b1
          try clear c5
          try clear c5b0
          try clear c5b1
          try clear c7
          try clear p2
          obtain ⟨x5_2, rfl, HA, HK2, HB⟩ := hrel
          cases gk with
          | zero => exact absurd HA.out (by simp [tickingref02_StacksBlock.l0])
          | succ k2 =>
            have H := HA.out
            clear HA
            simp only [tickingref02_StacksBlock.l0] at H
            by_cases c8 : x5_2 < (l1.length : Int)
            · rw [if_pos c8] at H
              have c8b0 : decide (x5_2 < (l1.length : Int)) = true := decide_eq_true c8
              clear c8
              by_cases c9 : 0 ≤ x5_2
              · rw [if_pos c9] at H
                have c9b0 : decide (0 ≤ x5_2) = true := decide_eq_true c9
                clear c9
                by_cases c10 : (l1.length : Int) = 0
                · rw [if_pos c10] at H
                  exact absurd H (by simp)
                · rw [if_neg c10] at H
                  have c10b0 : ((l1.length : Int) == 0) = false := beq_eq_false_iff_ne.mpr c10
                  have c10b1 : ((l1.length : Int) != 0) = true := bne_iff_ne.mpr c10
                  have c10b2 : ¬ (l1 = []) := fun h_ => c10 (by rw [h_]; rfl)
                  obtain ⟨ji11, hji11⟩ : ∃ j_ : Int, (Int.tmod (wrap64 (x5_2 + 1)) (l1.length : Int)) = j_ := ⟨_, rfl⟩
                  replace H : (if 0 ≤ (ji11) then (if (ji11) < (l1.length : Int) then ((tickingref02_Conflict.f k2 l0 (mn (rd l1 x5_2) (rd l1 (ji11))) (mx (rd l1 x5_2) (rd l1 (ji11)))).bind fun t542 => (if t542 = true then (tickingref02_StacksBlock.l0 k2 l0 l1 (wrap64 (x5_2 + 1))) else (some false))) else (none)) else (none)) = some r := by first | (rw [hji11] at H; exact H) | (simp only [hji11] at H ⊢; exact H)
                  by_cases c12 : 0 ≤ (ji11)
                  · rw [if_pos c12] at H
                    have c12b0 : decide (0 ≤ (ji11)) = true := decide_eq_true c12
                    clear c12
                    by_cases c13 : (ji11) < (l1.length : Int)
                    · rw [if_pos c13] at H
                      have c13b0 : decide ((ji11) < (l1.length : Int)) = true := decide_eq_true c13
                      clear c13
                      obtain ⟨ji14, hji14⟩ : ∃ j_ : Int, (mn (rd l1 x5_2) (rd l1 (ji11))) = j_ := ⟨_, rfl⟩
                      replace H : ((tickingref02_Conflict.f k2 l0 (ji14) (mx (rd l1 x5_2) (rd l1 (ji11)))).bind fun t542 => (if t542 = true then (tickingref02_StacksBlock.l0 k2 l0 l1 (wrap64 (x5_2 + 1))) else (some false))) = some r := by first | (rw [hji14] at H; exact H) | (simp only [hji14] at H ⊢; exact H)
                      have hji14_ : (if (rd l1 (ji11)) < (rd l1 x5_2) then (rd l1 (ji11)) else (rd l1 x5_2)) = ji14 := hji14
                      obtain ⟨ji15, hji15⟩ : ∃ j_ : Int, (mx (rd l1 x5_2) (rd l1 (ji11))) = j_ := ⟨_, rfl⟩
                      replace H : ((tickingref02_Conflict.f k2 l0 (ji14) (ji15)).bind fun t542 => (if t542 = true then (tickingref02_StacksBlock.l0 k2 l0 l1 (wrap64 (x5_2 + 1))) else (some false))) = some r := by first | (rw [hji15] at H; exact H) | (simp only [hji15] at H ⊢; exact H)
                      have hji15_ : (if (rd l1 x5_2) < (rd l1 (ji11)) then (rd l1 (ji11)) else (rd l1 x5_2)) = ji15 := hji15
                      replace H := Option.bind_eq_some_iff.mp H
                      obtain ⟨t542, A160, H⟩ := H
                      replace H : (if t542 = true then (tickingref02_StacksBlock.l0 k2 l0 l1 (wrap64 (x5_2 + 1))) else (some false)) = some r := H
                      have A16 := Aside0.mk A160
                      clear A160
                      by_cases c17 : t542 = true
                      · subst c17
                        have H1 : (tickingref02_StacksBlock.l0 k2 l0 l1 (wrap64 (x5_2 + 1))) = some r := by rw [if_pos rfl] at H; exact H
                        clear H
                        have H := H1
                        clear H1
                        have H' := Aside0.mk H
                        clear H
                        have p540 : 0 ≤ (x5_2 : Int) := of_decide_eq_true (by first | (with_reducible assumption) | assumption)
                        have q540 : x5_2 < (l1.length : Int) := of_decide_eq_true (by first | (with_reducible assumption) | assumption)
                        obtain ⟨ad540, e540, hx540_0⟩ := Kd.at_int HR1.out x5_2 p540 q540
                        cases e540
                        replace hx540_0 := (HB.out.cell (World.block_lt_of_cell? w _ hx540_0)).trans hx540_0
                        replace p540 := eq_true p540
                        replace q540 := eq_true q540
                        have p541 : 0 ≤ ((ji11) : Int) := of_decide_eq_true (by first | (with_reducible assumption) | assumption)
                        have q541 : (ji11) < (l1.length : Int) := of_decide_eq_true (by first | (with_reducible assumption) | assumption)
                        obtain ⟨ad541, e541, hx541_0⟩ := Kd.at_int HR1.out (ji11) p541 q541
                        obtain rfl : ad540 = ad541 := (by injection e541)
                        replace hx541_0 := (HB.out.cell (World.block_lt_of_cell? w _ hx541_0)).trans hx541_0
                        replace p541 := eq_true p541
                        replace q541 := eq_true q541
                        go_wp2_with (first | (go_at_call 73; (with_reducible refine (tickingref02_Conflict.calls k2 _ _ l0 ji14 ji15 true _ ?side1 ?side2 A16.out).mono ?_); (case side1 => repeat (first | exact (Kd.C_below HR0.out HB.out) | (with_reducible refine Kd.C_alloc ?_ _) | (with_reducible refine Kd.C_drewN ?_ _) | (with_reducible refine Kd.C_drew ?_))); (case side2 => exact HC0.out); rintro e w' ⟨rfl, ⟨nd, rfl⟩⟩; (try first | exact ⟨rfl, _, World.drewN_drewN _ _ _⟩ | exact ⟨rfl, _, Eq.trans (World.drewN_drewN _ _ _) (congrArg (World.drewN _) (Nat.add_assoc _ _ _))⟩)))
                        repeat (go_quiet (first | (go_at_call 73; (with_reducible refine (tickingref02_Conflict.calls k2 _ _ l0 ji14 ji15 true _ ?side1 ?side2 A16.out).mono ?_); (case side1 => repeat (first | exact (Kd.C_below HR0.out HB.out) | (with_reducible refine Kd.C_alloc ?_ _) | (with_reducible refine Kd.C_drewN ?_ _) | (with_reducible refine Kd.C_drew ?_))); (case side2 => exact HC0.out); rintro e w' ⟨rfl, ⟨nd, rfl⟩⟩; (try first | exact ⟨rfl, _, World.drewN_drewN _ _ _⟩ | exact ⟨rfl, _, Eq.trans (World.drewN_drewN _ _ _) (congrArg (World.drewN _) (Nat.add_assoc _ _ _))⟩))); try go_wp2_with (first | (go_at_call 73; (with_reducible refine (tickingref02_Conflict.calls k2 _ _ l0 ji14 ji15 true _ ?side1 ?side2 A16.out).mono ?_); (case side1 => repeat (first | exact (Kd.C_below HR0.out HB.out) | (with_reducible refine Kd.C_alloc ?_ _) | (with_reducible refine Kd.C_drewN ?_ _) | (with_reducible refine Kd.C_drew ?_))); (case side2 => exact HC0.out); rintro e w' ⟨rfl, ⟨nd, rfl⟩⟩; (try first | exact ⟨rfl, _, World.drewN_drewN _ _ _⟩ | exact ⟨rfl, _, Eq.trans (World.drewN_drewN _ _ _) (congrArg (World.drewN _) (Nat.add_assoc _ _ _))⟩))))
                        go_roundg k2
                        case measure => have := HJ2.out; have := HK2.out; omega
                        case rel => exact ⟨(wrap64 (x5_2 + 1)), (by first | rfl | (simp; done) | (simp [*]; done)), H', ⟨by have := HJ2.out; have := HK2.out; omega⟩, ⟨by repeat (first | (with_reducible first | exact HB.out | apply below_alloc | apply pw_below_drewN | apply below_drew1) | exact HB.out)⟩⟩
                      · replace c17 := Bool.eq_false_iff.mpr c17
                        subst c17
                        have H1 : (some false) = some r := by rw [if_neg (show ¬ (false = true) by decide)] at H; exact H
                        clear H
                        have H := H1
                        clear H1
                        obtain rfl := Option.some.inj H
                        have p540 : 0 ≤ (x5_2 : Int) := of_decide_eq_true (by first | (with_reducible assumption) | assumption)
                        have q540 : x5_2 < (l1.length : Int) := of_decide_eq_true (by first | (with_reducible assumption) | assumption)
                        obtain ⟨ad540, e540, hx540_0⟩ := Kd.at_int HR1.out x5_2 p540 q540
                        cases e540
                        replace hx540_0 := (HB.out.cell (World.block_lt_of_cell? w _ hx540_0)).trans hx540_0
                        replace p540 := eq_true p540
                        replace q540 := eq_true q540
                        have p541 : 0 ≤ ((ji11) : Int) := of_decide_eq_true (by first | (with_reducible assumption) | assumption)
                        have q541 : (ji11) < (l1.length : Int) := of_decide_eq_true (by first | (with_reducible assumption) | assumption)
                        obtain ⟨ad541, e541, hx541_0⟩ := Kd.at_int HR1.out (ji11) p541 q541
                        obtain rfl : ad540 = ad541 := (by injection e541)
                        replace hx541_0 := (HB.out.cell (World.block_lt_of_cell? w _ hx541_0)).trans hx541_0
                        replace p541 := eq_true p541
                        replace q541 := eq_true q541
                        go_wp2_with (first | (go_at_call 73; (with_reducible refine (tickingref02_Conflict.calls k2 _ _ l0 ji14 ji15 false _ ?side1 ?side2 A16.out).mono ?_); (case side1 => repeat (first | exact (Kd.C_below HR0.out HB.out) | (with_reducible refine Kd.C_alloc ?_ _) | (with_reducible refine Kd.C_drewN ?_ _) | (with_reducible refine Kd.C_drew ?_))); (case side2 => exact HC0.out); rintro e w' ⟨rfl, ⟨nd, rfl⟩⟩; (try first | exact ⟨rfl, _, World.drewN_drewN _ _ _⟩ | exact ⟨rfl, _, Eq.trans (World.drewN_drewN _ _ _) (congrArg (World.drewN _) (Nat.add_assoc _ _ _))⟩)))
                        repeat (go_quiet (first | (go_at_call 73; (with_reducible refine (tickingref02_Conflict.calls k2 _ _ l0 ji14 ji15 false _ ?side1 ?side2 A16.out).mono ?_); (case side1 => repeat (first | exact (Kd.C_below HR0.out HB.out) | (with_reducible refine Kd.C_alloc ?_ _) | (with_reducible refine Kd.C_drewN ?_ _) | (with_reducible refine Kd.C_drew ?_))); (case side2 => exact HC0.out); rintro e w' ⟨rfl, ⟨nd, rfl⟩⟩; (try first | exact ⟨rfl, _, World.drewN_drewN _ _ _⟩ | exact ⟨rfl, _, Eq.trans (World.drewN_drewN _ _ _) (congrArg (World.drewN _) (Nat.add_assoc _ _ _))⟩))); try go_wp2_with (first | (go_at_call 73; (with_reducible refine (tickingref02_Conflict.calls k2 _ _ l0 ji14 ji15 false _ ?side1 ?side2 A16.out).mono ?_); (case side1 => repeat (first | exact (Kd.C_below HR0.out HB.out) | (with_reducible refine Kd.C_alloc ?_ _) | (with_reducible refine Kd.C_drewN ?_ _) | (with_reducible refine Kd.C_drew ?_))); (case side2 => exact HC0.out); rintro e w' ⟨rfl, ⟨nd, rfl⟩⟩; (try first | exact ⟨rfl, _, World.drewN_drewN _ _ _⟩ | exact ⟨rfl, _, Eq.trans (World.drewN_drewN _ _ _) (congrArg (World.drewN _) (Nat.add_assoc _ _ _))⟩))))
                        go_ret
                        exact ⟨by first | rfl | (simp [errW_none, errW_some] <;> rfl) | (simp only [← hji11, ← hji14, ← hji15]; first | rfl | (simp [errW_none, errW_some] <;> rfl)) | (simp [*, errW_none, errW_some] <;> rfl), by repeat (first | (with_reducible first | exact HB.out | apply below_alloc | apply pw_below_drewN | apply below_drew1) | exact HB.out)⟩
                    · rw [if_neg c13] at H
                      exact absurd H (by simp)
                  · rw [if_neg c12] at H
                    exact absurd H (by simp)
              · rw [if_neg c9] at H
                exact absurd H (by simp)
            · rw [if_neg c8] at H
              have c8b0 : decide (x5_2 < (l1.length : Int)) = false := decide_eq_false c8
              clear c8
              obtain rfl := Option.some.inj H
              go_wp2
              repeat (go_quiet (fail); try go_wp2)
              go_ret
              exact ⟨by first | rfl | (simp [errW_none, errW_some] <;> rfl) | (simp [*, errW_none, errW_some] <;> rfl), by repeat (first | (with_reducible first | exact HB.out | apply below_alloc | apply pw_below_drewN | apply below_drew1) | exact HB.out)⟩

end Go.Proofs.Ytjbjongahnocdaa.S

/- Conflicts, cycles, and what CheckStacks answers. -/
namespace Go.Proofs.Ytjbjongahnocdaa.P
open Go.RowKit Go.Proofs.Ytjbjongahnocdaa.S Go.Proofs.Ytjbjongahnocdaa.Defs Go.Proofs.YtjbjongahnocdaaW.PrintWords Go.Proofs.YtjbjongahnocdaaW.PrintLast Go.Proofs.YtjbjongahnocdaaW.PrintMore
set_option linter.unusedVariables false

/-- The positions a < b are in conflict. -/
def Conf (l : List Int) (a b : Nat) : Prop := ∃ c : Nat, b < c ∧ c < l.length ∧ rd l c < rd l a ∧ rd l a < rd l b
theorem found_conf {l : List Int} {a b : Nat} {r : Int} (hd : l.Nodup) (hab : a < b) (hb : b < l.length) (h : Found l a b r) : r ≠ 0 ↔ Conf l a b := by
  rcases h with ⟨rfl, h⟩ | ⟨c, rfl, h1, h2, h3, h4⟩
  · exact ⟨fun h => absurd rfl h, fun ⟨c, h1, h2, h3, h4⟩ => absurd ⟨h3, by omega⟩ (h c h1 h2)⟩
  · refine ⟨fun _ => ⟨c, h1, h2, h3, ?_⟩, fun _ => by omega⟩
    rw [rd_lt l a (by omega), rd_lt l b (by omega)] at h4 ⊢
    have : l[a] ≠ l[b] := List.pairwise_iff_getElem.1 hd a b (by omega) (by omega) hab
    omega
theorem conf_ev (l : List Int) (a b : Nat) (hd : l.Nodup) (hab : a < b) (hb : b < l.length) (hl : l.length ≤ 1000000) : ∃ r : Int, Ev (fun k => shunt_blocking.f k l (a : Int) (b : Int)) r ∧ (r ≠ 0 ↔ Conf l a b) := by
  obtain ⟨r, h1, h2⟩ := blocking_ev l a b (by omega) hb hl
  exact ⟨r, h1, found_conf hd hab hb h2⟩
theorem Conflict_loop (l : List Int) (a b : Nat) (ha : a < l.length) (hb : b < l.length) (hl : l.length ≤ 1000000) : ∀ (d i : Nat), i + d = l.length →
    ∃ r, Ev (fun k => tickingref02_Conflict.l0 k l (a : Int) (b : Int) (i : Int)) r ∧ (r = true ↔ ∃ c : Nat, i ≤ c ∧ c < l.length ∧ rd l c < rd l a ∧ rd l a < rd l b)
  | 0, i, h => by
    refine ⟨false, Ev.step (fun k => ?_) (Ev.now _), ⟨fun h => (by cases h), fun ⟨c, h1, h2, _⟩ => by omega⟩⟩
    simp only [tickingref02_Conflict.l0]
    rw [if_neg (by omega)]
  | d + 1, i, h => by
    have go : ¬ (rd l i < rd l a ∧ rd l a < rd l b) → ∀ f : Nat → Option Bool, (∀ k, f k = tickingref02_Conflict.l0 k l (a : Int) (b : Int) ((i + 1 : Nat) : Int)) → ∃ r, Ev f r ∧ (r = true ↔ ∃ c : Nat, i ≤ c ∧ c < l.length ∧ rd l c < rd l a ∧ rd l a < rd l b) := by
      intro hn f hf
      obtain ⟨r, h1, h2⟩ := Conflict_loop l a b ha hb hl d (i + 1) (by omega)
      refine ⟨r, Ev.congr hf h1, h2.trans ⟨fun ⟨c, q1, q⟩ => ⟨c, by omega, q⟩, fun ⟨c, q1, q2, q3, q4⟩ => ⟨c, ?_, q2, q3, q4⟩⟩⟩
      by_cases e : c = i
      · subst e; exact absurd ⟨q3, q4⟩ hn
      · omega
    by_cases c1 : rd l (i : Int) < rd l a
    · by_cases c2 : rd l a < rd l b
      · refine ⟨true, Ev.step (fun k => ?_) (Ev.now _), ⟨fun _ => ⟨i, Nat.le_refl _, by omega, c1, c2⟩, fun _ => rfl⟩⟩
        simp only [tickingref02_Conflict.l0]
        rw [if_pos (by omega), if_pos (by omega), if_pos (by omega), if_pos (by omega), if_pos c1, if_pos (by omega), if_pos (by omega), if_pos c2]
      · obtain ⟨r, h1, h2⟩ := go (fun h => c2 h.2) _ (fun k => rfl)
        refine ⟨r, Ev.step (fun k => ?_) h1, h2⟩
        simp only [tickingref02_Conflict.l0]
        rw [if_pos (by omega), if_pos (by omega), if_pos (by omega), if_pos (by omega), if_pos c1, if_pos (by omega), if_pos (by omega), if_neg c2, w64 (by omega) (by omega)]
        rfl
    · obtain ⟨r, h1, h2⟩ := go (fun h => c1 h.1) _ (fun k => rfl)
      refine ⟨r, Ev.step (fun k => ?_) h1, h2⟩
      simp only [tickingref02_Conflict.l0]
      rw [if_pos (by omega), if_pos (by omega), if_pos (by omega), if_pos (by omega), if_neg c1, w64 (by omega) (by omega)]
      rfl
theorem Conflict_ev (l : List Int) (a b : Nat) (ha : a < l.length) (hb : b < l.length) (hl : l.length ≤ 1000000) : ∃ r, Ev (fun k => tickingref02_Conflict.f k l (a : Int) (b : Int)) r ∧ (r = true ↔ Conf l a b) := by
  obtain ⟨r, h1, h2⟩ := Conflict_loop l a b ha hb hl (l.length - (b + 1)) (b + 1) (by omega)
  refine ⟨r, Ev.congr (fun k => ?_) h1, h2⟩
  unfold tickingref02_Conflict.f
  rw [w64 (by omega) (by omega)]
  rfl

/-! ### cycles -/
theorem index_loop (l : List Int) (x : Int) (hl : l.length ≤ 1000000) : ∀ (d i : Nat), i + d = l.length → ∃ r : Int, Ev (fun k => slices_Index_int_int.l0 k l x (l.length : Int) (i : Int)) r ∧ (0 ≤ r ↔ x ∈ l.drop i)
  | 0, i, h => by
    refine ⟨-1, Ev.step (fun k => ?_) (Ev.now _), ?_⟩
    · simp only [slices_Index_int_int.l0]
      rw [if_neg (by omega)]
    · rw [List.drop_eq_nil_of_le (by omega)]
      simp
  | d + 1, i, h => by
    rw [drop_cons l i (by omega)]
    by_cases he : x = rd l (i : Int)
    · refine ⟨i, Ev.step (fun k => ?_) (Ev.now _), ⟨fun _ => by rw [he]; exact List.mem_cons_self, fun _ => by omega⟩⟩
      simp only [slices_Index_int_int.l0]
      rw [if_pos (by omega), if_pos (by omega), if_pos (by omega), if_pos he]
    · obtain ⟨r, h1, h2⟩ := index_loop l x hl d (i + 1) (by omega)
      refine ⟨r, Ev.step (fun k => ?_) h1, h2.trans ?_⟩
      · simp only [slices_Index_int_int.l0]
        rw [if_pos (by omega), if_pos (by omega), if_pos (by omega), if_neg he, w64 (by omega) (by omega)]
        rfl
      · rw [List.mem_cons]
        exact ⟨fun h => .inr h, fun h => h.elim (fun h => absurd h he) id⟩
theorem contains_ev (l : List Int) (x : Int) (hl : l.length ≤ 1000000) : Ev (fun k => slices_Contains_int_int.f k l x) (decide (x ∈ l)) := by
  obtain ⟨r, h1, h2⟩ := index_loop l x hl l.length 0 (by omega)
  have e : decide (r ≥ 0) = decide (x ∈ l) := by
    rw [decide_eq_decide]
    exact h2
  rw [← e]
  exact Ev.bind (f := fun _ t => some (decide (t ≥ 0))) h1 (Ev.now _)

/-- The position after the i-th one of a cycle. -/
def nextOf (b : List Int) (i : Nat) : Int := rd b (((i + 1) % b.length : Nat) : Int)
def Edges (l b : List Int) (i : Nat) : Prop := ∀ j : Nat, i ≤ j → j < b.length → Conf l (mn (rd b j) (nextOf b j)).toNat (mx (rd b j) (nextOf b j)).toNat
/-- A block for two stacks: a cycle of odd length. -/
def Cyc (l b : List Int) : Prop := 3 ≤ b.length ∧ b.length % 2 = 1 ∧ ((∀ x ∈ b, 0 ≤ x ∧ x < l.length) ∧ b.Nodup) ∧ Edges l b 0
theorem step_mod (b : List Int) (i : Nat) (hi : i < b.length) (hl : b.length ≤ 1000000) : Int.tmod (wrap64 ((i : Int) + 1)) (b.length : Int) = (((i + 1) % b.length : Nat) : Int) ∧ (i + 1) % b.length < b.length := by
  refine ⟨?_, Nat.mod_lt _ (by omega)⟩
  rw [w64 (by omega) (by omega), Int.tmod_eq_emod_of_nonneg (by omega)]
  exact (Int.natCast_emod (i + 1) b.length).symm
theorem step_ne (b : List Int) (i : Nat) (hi : i < b.length) (h3 : 3 ≤ b.length) (hd : b.Nodup) : rd b i ≠ nextOf b i := by
  have hm : (i + 1) % b.length < b.length := Nat.mod_lt _ (by omega)
  have hne : i ≠ (i + 1) % b.length := by
    by_cases c : i + 1 < b.length
    · rw [Nat.mod_eq_of_lt c]; omega
    · have : i + 1 = b.length := by omega
      rw [this, Nat.mod_self]
      omega
  unfold nextOf
  rw [rd_lt b i hi, rd_lt b _ hm]
  rcases Nat.lt_or_gt_of_ne hne with h | h
  · exact List.pairwise_iff_getElem.1 hd _ _ hi hm h
  · exact fun e => List.pairwise_iff_getElem.1 hd _ _ hm hi h e.symm
theorem mm_range {l : List Int} {x y : Int} (hx : 0 ≤ x ∧ x < l.length) (hy : 0 ≤ y ∧ y < l.length) (hne : x ≠ y) : mn x y = ((mn x y).toNat : Int) ∧ mx x y = ((mx x y).toNat : Int) ∧ (mn x y).toNat < (mx x y).toNat ∧ (mx x y).toNat < l.length := by
  unfold mn mx
  refine ⟨?_, ?_, ?_, ?_⟩ <;> (repeat' split) <;> omega
theorem edges_step {l b : List Int} {i : Nat} (hi : i < b.length) : Edges l b i ↔ Conf l (mn (rd b i) (nextOf b i)).toNat (mx (rd b i) (nextOf b i)).toNat ∧ Edges l b (i + 1) := by
  constructor
  · exact fun h => ⟨h i (Nat.le_refl _) hi, fun j h1 h2 => h j (by omega) h2⟩
  · rintro ⟨h1, h2⟩ j h3 h4
    by_cases e : j = i
    · subst e; exact h1
    · exact h2 j (by omega) h4

theorem cycle_l1 (l b : List Int) (hd : l.Nodup) (hl : l.length ≤ 60) (hb : b.length ≤ 1000) (h3 : 3 ≤ b.length) (hr : ∀ x ∈ b, 0 ≤ x ∧ x < l.length) (hbd : b.Nodup) : ∀ (d i : Nat), i + d = b.length →
    ∃ r, Ev (fun k => shunt_isCycle.l1 k l b b (b.length : Int) (i : Int)) r ∧ (r = true ↔ Edges l b i)
  | 0, i, h => by
    refine ⟨true, Ev.step (fun k => ?_) (Ev.now _), ⟨fun _ j h1 h2 => by omega, fun _ => rfl⟩⟩
    simp only [shunt_isCycle.l1]
    rw [if_neg (by omega)]
  | d + 1, i, h => by
    obtain ⟨s1, s2⟩ := step_mod b i (by omega) (by omega)
    have hx := hr _ (rd_mem (l := b) (x := (i : Int)) (by omega) (by omega))
    have hy := hr _ (rd_mem (l := b) (x := (((i + 1) % b.length : Nat) : Int)) (by omega) (by omega))
    obtain ⟨m1, m2, m3, m4⟩ := mm_range hx hy (step_ne b i (by omega) h3 hbd)
    obtain ⟨q, q1, q2⟩ := conf_ev l _ _ hd m3 m4 (by omega)
    rw [← m1, ← m2] at q1
    have hst : ∀ k, shunt_isCycle.l1 (k + 1) l b b (b.length : Int) (i : Int) = (shunt_blocking.f k l (mn (rd b i) (nextOf b i)) (mx (rd b i) (nextOf b i))).bind fun t528 => (if t528 = 0 then (some false) else (shunt_isCycle.l1 k l b b (b.length : Int) ((i + 1 : Nat) : Int))) := by
      intro k
      simp only [shunt_isCycle.l1]
      rw [if_pos (by omega), if_pos (by omega), if_pos (by omega), if_neg (by omega), s1, if_pos (by omega), if_pos (by omega), w64 (by omega) (by omega)]
      rfl
    by_cases c : q = 0
    · refine ⟨false, Ev.step hst (Ev.bind (f := fun k t528 => (if t528 = 0 then (some false) else (shunt_isCycle.l1 k l b b (b.length : Int) ((i + 1 : Nat) : Int)))) q1 (Ev.congr (fun k => if_pos c) (Ev.now _))), ⟨fun h => (by cases h), fun h => absurd c (q2.2 ((edges_step (by omega)).1 h).1)⟩⟩
    · obtain ⟨r, h1, h2⟩ := cycle_l1 l b hd hl hb h3 hr hbd d (i + 1) (by omega)
      refine ⟨r, Ev.step hst (Ev.bind (f := fun k t528 => (if t528 = 0 then (some false) else (shunt_isCycle.l1 k l b b (b.length : Int) ((i + 1 : Nat) : Int)))) q1 (Ev.congr (fun k => if_neg c) h1)), ?_⟩
      rw [h2, edges_step (i := i) (by omega)]
      exact ⟨fun h => ⟨q2.1 c, h⟩, fun h => h.2⟩
theorem cycle_l0 (l b : List Int) (hd : l.Nodup) (hl : l.length ≤ 60) (hb : b.length ≤ 1000) (h3 : 3 ≤ b.length) : ∀ (d i : Nat), i + d = b.length → (b.take i).Nodup → (∀ x ∈ b.take i, 0 ≤ x ∧ x < (l.length : Int)) →
    ∃ r, Ev (fun k => shunt_isCycle.l0 k l b b (b.length : Int) (i : Int)) r ∧ (r = true ↔ ((∀ x ∈ b, 0 ≤ x ∧ x < (l.length : Int)) ∧ b.Nodup) ∧ Edges l b 0)
  | 0, i, h, n1, n2 => by
    rw [List.take_of_length_le (by omega)] at n1 n2
    obtain ⟨r, h1, h2⟩ := cycle_l1 l b hd hl hb h3 n2 n1 b.length 0 (by omega)
    refine ⟨r, Ev.step (fun k => ?_) h1, h2.trans ⟨fun h => ⟨⟨n2, n1⟩, h⟩, fun h => h.2⟩⟩
    simp only [shunt_isCycle.l0]
    rw [if_neg (by omega)]
    rfl
  | d + 1, i, h, n1, n2 => by
    have hi : i < b.length := by omega
    have hm : rd b (i : Int) ∈ b := rd_mem (by omega) (by omega)
    have e : b.take (i + 1) = b.take i ++ [rd b (i : Int)] := by rw [rd_lt b i hi, List.take_succ_eq_append_getElem hi]
    have hw : shunt_within.f (rd b i) 0 (wrap64 ((l.length : Int) - 1)) = some (decide (0 ≤ rd b i ∧ rd b i < (l.length : Int))) := by
      rw [w64 (by omega) (by omega)]
      unfold shunt_within.f
      by_cases c : rd b i ≥ 0
      · rw [if_pos c]
        congr 1
        rw [decide_eq_decide]
        omega
      · rw [if_neg c, decide_eq_false (by omega)]
    have hst : ∀ k, shunt_isCycle.l0 (k + 1) l b b (b.length : Int) (i : Int) = if decide (0 ≤ rd b i ∧ rd b i < (l.length : Int)) = true then (slices_Contains_int_int.f k (b.take i) (rd b i)).bind fun t525 => (if t525 = true then (some false) else (shunt_isCycle.l0 k l b b (b.length : Int) ((i + 1 : Nat) : Int))) else some false := by
      intro k
      simp only [shunt_isCycle.l0]
      rw [if_pos (by omega), if_pos (by omega), if_pos (by omega), hw, w64 (x := (i : Int) + 1) (by omega) (by omega), if_pos (show (i : Int) ≤ (b.length : Int) by omega)]
      rfl
    by_cases c : 0 ≤ rd b i ∧ rd b i < (l.length : Int)
    · have hc := contains_ev (b.take i) (rd b i) (by rw [List.length_take]; omega)
      have hst2 : ∀ k, shunt_isCycle.l0 (k + 1) l b b (b.length : Int) (i : Int) = (slices_Contains_int_int.f k (b.take i) (rd b i)).bind fun t525 => (if t525 = true then (some false) else (shunt_isCycle.l0 k l b b (b.length : Int) ((i + 1 : Nat) : Int))) := by
        intro k
        rw [hst, if_pos (decide_eq_true c)]
      by_cases c2 : rd b i ∈ b.take i
      · refine ⟨false, Ev.step hst2 (Ev.bind (f := fun k (t525 : Bool) => (if t525 = true then (some false) else (shunt_isCycle.l0 k l b b (b.length : Int) ((i + 1 : Nat) : Int)))) hc (Ev.congr (fun k => if_pos (decide_eq_true c2)) (Ev.now _))), ⟨fun h => (by cases h), fun h => ?_⟩⟩
        exfalso
        have hn := h.1.2
        rw [← List.take_append_drop i b, drop_cons b i hi] at hn
        exact (List.nodup_append.1 hn).2.2 _ c2 (rd b (i : Int)) (by simp) rfl
      · obtain ⟨r, h1, h2⟩ := cycle_l0 l b hd hl hb h3 d (i + 1) (by omega) (by
          rw [e, List.nodup_append]
          refine ⟨n1, by simp, fun a ha x hx => ?_⟩
          rw [List.mem_singleton] at hx
          subst hx
          exact fun e => c2 (e ▸ ha)) (by
          rw [e]
          intro x hx
          rcases List.mem_append.1 hx with hx | hx
          · exact n2 x hx
          · rw [List.mem_singleton] at hx
            subst hx
            exact c)
        exact ⟨r, Ev.step hst2 (Ev.bind (f := fun k (t525 : Bool) => (if t525 = true then (some false) else (shunt_isCycle.l0 k l b b (b.length : Int) ((i + 1 : Nat) : Int)))) hc (Ev.congr (fun k => if_neg (by rw [decide_eq_true_eq]; exact c2)) h1)), h2⟩
    · refine ⟨false, Ev.step (fun k => (hst k).trans (if_neg (by rw [decide_eq_true_eq]; exact c))) (Ev.now _), ⟨fun h => (by cases h), fun h => absurd (h.1.1 _ hm) c⟩⟩
theorem isCycle_ev (l b : List Int) (hd : l.Nodup) (hl : l.length ≤ 60) (hb : b.length ≤ 1000) : ∃ r, Ev (fun k => shunt_isCycle.f k l b) r ∧ (r = true ↔ Cyc l b) := by
  have hno : Ev (fun k => shunt_isCycle.j0 k l b true) false := Ev.step (f := fun _ => some false) (fun k => by simp only [shunt_isCycle.j0, if_true]) (Ev.now _)
  by_cases c1 : ((b.length : Int) % 2) = 0
  · exact ⟨false, Ev.congr (fun k => if_pos c1) hno, ⟨fun h => (by cases h), fun h => by have := h.2.1; omega⟩⟩
  · by_cases c2 : (b.length : Int) < 3
    · exact ⟨false, Ev.congr (fun k => (if_neg c1).trans (by rw [decide_eq_true c2])) hno, ⟨fun h => (by cases h), fun h => by have := h.1; omega⟩⟩
    · obtain ⟨r, h1, h2⟩ := cycle_l0 l b hd hl hb (by omega) b.length 0 (by omega) (by simp) (by simp)
      refine ⟨r, Ev.congr (fun k => (if_neg c1).trans (by rw [decide_eq_false c2])) (Ev.step (fun k => ?_) h1), h2.trans ⟨fun h => ⟨by omega, by omega, h⟩, fun h => h.2.2⟩⟩
      simp only [shunt_isCycle.j0]
      rw [if_neg (by decide)]
      rfl
theorem refCycle_l0 (l b : List Int) (hl : l.length ≤ 60) (hb : b.length ≤ 1000) (h3 : 3 ≤ b.length) (hr : ∀ x ∈ b, 0 ≤ x ∧ x < l.length) (hbd : b.Nodup) : ∀ (d i : Nat), i + d = b.length →
    ∃ r, Ev (fun k => tickingref02_StacksBlock.l0 k l b (i : Int)) r ∧ (r = true ↔ Edges l b i)
  | 0, i, h => by
    refine ⟨true, Ev.step (fun k => ?_) (Ev.now _), ⟨fun _ j h1 h2 => by omega, fun _ => rfl⟩⟩
    simp only [tickingref02_StacksBlock.l0]
    rw [if_neg (by omega)]
  | d + 1, i, h => by
    obtain ⟨s1, s2⟩ := step_mod b i (by omega) (by omega)
    have hx := hr _ (rd_mem (l := b) (x := (i : Int)) (by omega) (by omega))
    have hy := hr _ (rd_mem (l := b) (x := (((i + 1) % b.length : Nat) : Int)) (by omega) (by omega))
    obtain ⟨m1, m2, m3, m4⟩ := mm_range hx hy (step_ne b i (by omega) h3 hbd)
    obtain ⟨q, q1, q2⟩ := Conflict_ev l _ _ (Nat.lt_trans m3 m4) m4 (by omega)
    rw [← m1, ← m2] at q1
    have hst : ∀ k, tickingref02_StacksBlock.l0 (k + 1) l b (i : Int) = (tickingref02_Conflict.f k l (mn (rd b i) (nextOf b i)) (mx (rd b i) (nextOf b i))).bind fun t542 => (if t542 = true then (tickingref02_StacksBlock.l0 k l b ((i + 1 : Nat) : Int)) else (some false)) := by
      intro k
      simp only [tickingref02_StacksBlock.l0]
      rw [if_pos (by omega), if_pos (by omega), if_neg (by omega), s1, if_pos (by omega), if_pos (by omega), w64 (by omega) (by omega)]
      rfl
    cases q with
    | false =>
      refine ⟨false, Ev.step hst (Ev.bind (f := fun k (t542 : Bool) => (if t542 = true then (tickingref02_StacksBlock.l0 k l b ((i + 1 : Nat) : Int)) else (some false))) q1 (Ev.congr (fun k => if_neg (by decide)) (Ev.now _))), ⟨fun h => (by cases h), fun h => ?_⟩⟩
      have := q2.2 ((edges_step (by omega)).1 h).1
      cases this
    | true =>
      obtain ⟨r, h1, h2⟩ := refCycle_l0 l b hl hb h3 hr hbd d (i + 1) (by omega)
      refine ⟨r, Ev.step hst (Ev.bind (f := fun k (t542 : Bool) => (if t542 = true then (tickingref02_StacksBlock.l0 k l b ((i + 1 : Nat) : Int)) else (some false))) q1 (Ev.congr (fun k => if_pos rfl) h1)), ?_⟩
      rw [h2, edges_step (i := i) (by omega)]
      exact ⟨fun h => ⟨q2.1 rfl, h⟩, fun h => h.2⟩
theorem stacksBlock_ev (l b : List Int) (hl : l.length ≤ 60) (hb : b.length ≤ 1000) : ∃ r, Ev (fun k => tickingref02_StacksBlock.f k l b) r ∧ (r = true ↔ Cyc l b) := by
  have hno : Ev (fun k => tickingref02_StacksBlock.j0 k l b true) false := Ev.step (f := fun _ => some false) (fun k => by simp only [tickingref02_StacksBlock.j0, if_true]) (Ev.now _)
  by_cases c2 : (b.length : Int) < 3
  · exact ⟨false, Ev.congr (fun k => if_pos c2) hno, ⟨fun h => (by cases h), fun h => by have := h.1; omega⟩⟩
  · by_cases c1 : ((b.length : Int) % 2) = 0
    · exact ⟨false, Ev.congr (fun k => (if_neg c2).trans (if_pos c1)) hno, ⟨fun h => (by cases h), fun h => by have := h.2.1; omega⟩⟩
    · have ha := at_ev b (l.length : Int) (by omega)
      have hf : ∀ k, tickingref02_StacksBlock.f k l b = (tickingref02_at.f k b (l.length : Int)).bind fun t539 => (tickingref02_StacksBlock.j0 k l b (!t539)) := fun k => (if_neg c2).trans (if_neg c1)
      by_cases c3 : (∀ x ∈ b, 0 ≤ x ∧ x < (l.length : Int)) ∧ b.Nodup
      · obtain ⟨r, h1, h2⟩ := refCycle_l0 l b hl hb (by omega) c3.1 c3.2 b.length 0 (by omega)
        refine ⟨r, Ev.congr hf (Ev.bind (f := fun k (t539 : Bool) => (tickingref02_StacksBlock.j0 k l b (!t539))) ha ?_), h2.trans ⟨fun h => ⟨by omega, by omega, c3, h⟩, fun h => h.2.2.2⟩⟩
        rw [decide_eq_true c3]
        refine Ev.step (fun k => ?_) h1
        simp only [tickingref02_StacksBlock.j0]
        rw [if_neg (by decide)]
        rfl
      · refine ⟨false, Ev.congr hf (Ev.bind (f := fun k (t539 : Bool) => (tickingref02_StacksBlock.j0 k l b (!t539))) ha ?_), ⟨fun h => (by cases h), fun h => absurd h.2.2.1 c3⟩⟩
        rw [decide_eq_false c3]
        exact hno

/-! ### sides -/
/-- No two positions of one side are in conflict. -/
def SidesOk (l s : List Int) : Prop := (∀ x ∈ s, x = 0 ∨ x = 1) ∧ ∀ a b : Nat, a < b → b < l.length → rd s a = rd s b → ¬ Conf l a b
theorem sides_l1 (l s : List Int) (hd : l.Nodup) (hl : l.length ≤ 60) (hs : s.length = l.length) (b : Nat) (hb : b < l.length) : ∀ (d a : Nat) (right : Bool), a + d = b →
    ∃ r : Bool, (r = true ↔ right = true ∧ ∀ a' : Nat, a ≤ a' → a' < b → rd s a' = rd s b → ¬ Conf l a' b) ∧ ∀ R, Ev (fun k => shunt_CheckStacks.l0 k l s r (s.length : Int) ((b + 1 : Nat) : Int)) R → Ev (fun k => shunt_CheckStacks.l1 k l s right (b : Int) (s.length : Int) (b : Int) (b : Int) (a : Int)) R
  | 0, a, right, h => by
    refine ⟨right, ⟨fun h => ⟨h, fun a' h1 h2 => by omega⟩, fun h => h.1⟩, fun R hR => Ev.step (fun k => ?_) hR⟩
    simp only [shunt_CheckStacks.l1]
    rw [if_neg (by omega), w64 (by omega) (by omega)]
    rfl
  | d + 1, a, right, h => by
    have ih := sides_l1 l s hd hl hs b hb d (a + 1)
    have split : ∀ P : Prop, ((∀ a' : Nat, a ≤ a' → a' < b → rd s a' = rd s b → ¬ Conf l a' b) ↔ ((rd s a = rd s b → ¬ Conf l a b) ∧ ∀ a' : Nat, a + 1 ≤ a' → a' < b → rd s a' = rd s b → ¬ Conf l a' b)) := by
      intro _
      constructor
      · exact fun h' => ⟨h' a (Nat.le_refl _) (by omega), fun a' q1 => h' a' (by omega)⟩
      · rintro ⟨q1, q2⟩ a' q3 q4
        by_cases e : a' = a
        · subst e; exact q1
        · exact q2 a' (by omega) q4
    cases right with
    | false =>
      obtain ⟨r, h1, h2⟩ := ih false (by omega)
      have hr : r = false := by
        cases r with
        | false => rfl
        | true => exact absurd (h1.1 rfl).1 (by decide)
      subst hr
      refine ⟨false, ⟨fun h => (by cases h), fun h => absurd h.1 (by decide)⟩, fun R hR => Ev.step (fun k => ?_) (h2 R hR)⟩
      simp only [shunt_CheckStacks.l1]
      rw [if_pos (by omega), if_neg (by decide), w64 (by omega) (by omega)]
      rfl
    | true =>
      by_cases c : rd s a = rd s b
      · obtain ⟨q, q1, q2⟩ := conf_ev l a b hd (by omega) hb (by omega)
        obtain ⟨r, h1, h2⟩ := ih (q == 0) (by omega)
        refine ⟨r, ?_, fun R hR => Ev.step (f := fun k => (shunt_blocking.f k l (a : Int) (b : Int)).bind fun t534 => shunt_CheckStacks.l1 k l s (t534 == 0) (b : Int) (s.length : Int) (b : Int) (b : Int) ((a + 1 : Nat) : Int)) (fun k => ?_) (Ev.bind (f := fun k t534 => shunt_CheckStacks.l1 k l s (t534 == 0) (b : Int) (s.length : Int) (b : Int) (b : Int) ((a + 1 : Nat) : Int)) q1 (h2 R hR))⟩
        · rw [h1, split True]
          constructor
          · rintro ⟨g1, g2⟩
            exact ⟨rfl, fun _ hc => (q2.2 hc) (by simpa using g1), g2⟩
          · rintro ⟨_, g1, g2⟩
            refine ⟨?_, g2⟩
            rw [beq_iff_eq]
            apply Classical.byContradiction
            exact fun hq => g1 c (q2.1 hq)
        · simp only [shunt_CheckStacks.l1]
          rw [if_pos (by omega), if_pos trivial, if_pos (by omega), if_pos (by omega), if_pos (by omega), if_pos (by omega), if_pos c, w64 (by omega) (by omega)]
          rfl
      · obtain ⟨r, h1, h2⟩ := ih true (by omega)
        refine ⟨r, ?_, fun R hR => Ev.step (fun k => ?_) (h2 R hR)⟩
        · rw [h1, split True]
          exact ⟨fun h => ⟨h.1, fun e => absurd e c, h.2⟩, fun h => ⟨h.1, h.2.2⟩⟩
        · simp only [shunt_CheckStacks.l1]
          rw [if_pos (by omega), if_pos trivial, if_pos (by omega), if_pos (by omega), if_pos (by omega), if_pos (by omega), if_neg c, w64 (by omega) (by omega)]
          rfl
theorem sides_l0 (l s : List Int) (hd : l.Nodup) (hl : l.length ≤ 60) (hs : s.length = l.length) : ∀ (d b : Nat) (right : Bool), b + d = l.length →
    ∃ e : Int, Ev (fun k => shunt_CheckStacks.l0 k l s right (s.length : Int) (b : Int)) e ∧ (e = 0 ∨ e = 10) ∧ (e = 0 ↔ right = true ∧ ∀ b' : Nat, b ≤ b' → b' < l.length → ∀ a' : Nat, a' < b' → rd s a' = rd s b' → ¬ Conf l a' b')
  | 0, b, right, h => by
    refine ⟨if right = true then 0 else 10, Ev.step (f := fun _ => if right = true then some 0 else some 10) (fun k => ?_) (Ev.congr (fun k => ?_) (Ev.now _)), ?_, ?_⟩
    · simp only [shunt_CheckStacks.l0]
      rw [if_neg (by omega)]
    · split <;> rfl
    · split <;> simp
    · cases right
      · exact ⟨fun h => absurd h (by decide), fun h => absurd h.1 (by decide)⟩
      · exact ⟨fun _ => ⟨rfl, fun b' h1 h2 => by omega⟩, fun _ => rfl⟩
  | d + 1, b, right, h => by
    obtain ⟨r, h1, h2⟩ := sides_l1 l s hd hl hs b (by omega) b 0 right (by omega)
    obtain ⟨e, e1, e2, e3⟩ := sides_l0 l s hd hl hs d (b + 1) r (by omega)
    refine ⟨e, Ev.step (fun k => ?_) (h2 e e1), e2, e3.trans ?_⟩
    · simp only [shunt_CheckStacks.l0]
      rw [if_pos (by omega)]
      rfl
    · rw [h1]
      constructor
      · rintro ⟨⟨g1, g2⟩, g3⟩
        refine ⟨g1, fun b' q1 q2 a' q3 => ?_⟩
        by_cases c : b' = b
        · subst c; exact g2 a' (by omega) q3
        · exact g3 b' (by omega) q2 a' q3
      · rintro ⟨g1, g2⟩
        exact ⟨⟨g1, fun a' _ q3 => g2 b (Nat.le_refl _) (by omega) a' q3⟩, fun b' q1 q2 => g2 b' (by omega) q2⟩
theorem any_bad (s : List Int) : s.any badSide = false ↔ ∀ x ∈ s, x = 0 ∨ x = 1 := by
  rw [List.any_eq_false]
  constructor
  · intro h x hx
    have := h x hx
    unfold badSide at this
    rw [Bool.not_eq_true, Bool.not_eq_false', decide_eq_true_eq] at this
    omega
  · intro h x hx
    have := h x hx
    unfold badSide
    rw [Bool.not_eq_true, Bool.not_eq_false', decide_eq_true_eq]
    omega
/-- What CheckStacks answers for an order. -/
theorem checkStacks_ev (l s b : List Int) (h : IsOrd l) (hl : l.length ≤ 60) (hb : b.length ≤ 1000) : ∃ e : Int, Ev (fun k => shunt_CheckStacks.f k l s b) e ∧ (e = 0 ∨ e = 10) ∧
    (e = 0 ↔ if s.length = l.length ∧ b.length = 0 then SidesOk l s else s.length = 0 ∧ Cyc l b) := by
  have hor : shunt_isOrder.f l = some true := by
    unfold shunt_isOrder.f
    rw [(isOrderB_iff l).2 ⟨hl, h⟩]
  obtain ⟨q, q1, q2⟩ := isCycle_ev l b h.1 hl hb
  obtain ⟨right, r1, r2⟩ : ∃ right : Bool, (right = true ↔ s.length = 0 ∧ Cyc l b) ∧ ∀ e, Ev (fun k => shunt_CheckStacks.j0 k l s b right) e → Ev (fun k => shunt_CheckStacks.f k l s b) e := by
    by_cases c : (s.length : Int) = 0
    · refine ⟨q, q2.trans ⟨fun h => ⟨by omega, h⟩, fun h => h.2⟩, fun e he => Ev.congr (f := fun k => (shunt_isCycle.f k l b).bind fun t530 => (shunt_CheckStacks.j0 k l s b t530)) (fun k => ?_) (Ev.bind (f := fun k t530 => (shunt_CheckStacks.j0 k l s b t530)) q1 he)⟩
      unfold shunt_CheckStacks.f
      rw [hor]
      simp only [Option.bind_some, if_true]
      rw [if_pos c]
    · refine ⟨false, ⟨fun h => (by cases h), fun h => by have := h.1; omega⟩, fun e he => Ev.congr (fun k => ?_) he⟩
      unfold shunt_CheckStacks.f
      rw [hor]
      simp only [Option.bind_some, if_true]
      rw [if_neg c]
  by_cases c : s.length = l.length ∧ b.length = 0
  · obtain ⟨e, e1, e2, e3⟩ := sides_l0 l s h.1 hl c.1 l.length 0 (!(s.any badSide)) (by omega)
    refine ⟨e, r2 e (Ev.step (f := fun k => shunt_CheckStacks.j1 k l s right true) (fun k => ?_) (Ev.step (fun k => ?_) e1)), e2, ?_⟩
    · simp only [shunt_CheckStacks.j0]
      rw [if_pos (by omega), beq_iff_eq.mpr (show (b.length : Int) = 0 by omega)]
    · simp only [shunt_CheckStacks.j1, if_true]
      rfl
    · rw [if_pos c, e3]
      unfold SidesOk
      rw [← any_bad, Bool.not_eq_true']
      exact ⟨fun h => ⟨h.1, fun a b' q1 q2 => h.2 b' (by omega) q2 a q1⟩, fun h => ⟨h.1, fun b' _ q2 a q3 => h.2 a b' q3 q2⟩⟩
  · have hj : Ev (fun k => shunt_CheckStacks.j1 k l s right false) (if right = true then 0 else 10) := by
      refine Ev.step (f := fun _ => if right = true then some 0 else some 10) (fun k => ?_) (Ev.congr (fun k => ?_) (Ev.now _))
      · simp only [shunt_CheckStacks.j1]
        rw [if_neg (by decide)]
      · split <;> rfl
    refine ⟨if right = true then 0 else 10, r2 _ (Ev.step (f := fun k => shunt_CheckStacks.j1 k l s right false) (fun k => ?_) hj), ?_, ?_⟩
    · simp only [shunt_CheckStacks.j0]
      by_cases c1 : (s.length : Int) = (l.length : Int)
      · rw [if_pos c1, beq_eq_false_iff_ne.mpr (show (b.length : Int) ≠ 0 from fun e => c ⟨by omega, by omega⟩)]
      · rw [if_neg c1]
    · split <;> simp
    · rw [if_neg c, ← r1]
      cases right <;> simp
theorem checkStacks_no (l s b : List Int) (h : ¬ (l.length ≤ 60 ∧ IsOrd l)) (k : Nat) : shunt_CheckStacks.f k l s b = some 2 := by
  have hor : shunt_isOrder.f l = some false := by
    unfold shunt_isOrder.f
    cases c : isOrderB l with
    | false => rfl
    | true => exact absurd ((isOrderB_iff l).1 c) h
  unfold shunt_CheckStacks.f
  rw [hor]
  rfl
end Go.Proofs.Ytjbjongahnocdaa.P

/- A list turned round. -/
namespace Go.Proofs.Ytjbjongahnocdaa.P
open Go.RowKit Go.Proofs.Ytjbjongahnocdaa.S Go.Proofs.Ytjbjongahnocdaa.Defs Go.Proofs.YtjbjongahnocdaaW.PrintWords Go.Proofs.YtjbjongahnocdaaW.PrintLast Go.Proofs.YtjbjongahnocdaaW.PrintMore
set_option linter.unusedVariables false

theorem rd_put (R : List Int) (v w x : Int) (hv : 0 ≤ v) (hw : 0 ≤ w) (hl : v < R.length) : rd (R.set v.toNat x) w = if v = w then x else rd R w := by
  unfold rd
  simp only [List.getD_eq_getElem?_getD, List.getElem?_set]
  by_cases c : v = w
  · subst c
    rw [if_pos rfl, if_pos (by omega), if_pos rfl]
    rfl
  · rw [if_neg (by omega), if_neg c]

theorem reverse_loop (xs : List Int) (hl : xs.length ≤ 1000) (d : Nat) : ∀ (i : Nat) (R : List Int), 2 * i + d = xs.length → R.length = xs.length →
    (∀ m : Nat, m < xs.length → rd R (m : Int) = if m < i ∨ xs.length - 1 - m < i then rd xs ((xs.length - 1 - m : Nat) : Int) else rd xs (m : Int)) → Ev (fun k => slices_Reverse_int_int.l0 k R (i : Int) ((xs.length : Int) - 1 - i)) xs.reverse := by
  induction d using Nat.strongRecOn with
  | _ d ih =>
    intro i R h hR hv
    by_cases c : 2 ≤ d
    · obtain ⟨e, rfl⟩ : ∃ e, d = e + 2 := ⟨d - 2, by omega⟩
      have w1 : wrap64 ((i : Int) + 1) = ((i + 1 : Nat) : Int) := by rw [w64 (by omega) (by omega)]; rfl
      have w2 : wrap64 ((xs.length : Int) - 1 - i - 1) = (xs.length : Int) - 1 - ((i + 1 : Nat) : Int) := by rw [w64 (by omega) (by omega)]; omega
      have e3 : (xs.length : Int) - 1 - i = ((xs.length - 1 - i : Nat) : Int) := by omega
      refine Ev.step (fun k => ?_) (ih e (by omega) (i + 1) ((R.set (i : Int).toNat (rd R ((xs.length : Int) - 1 - i))).set ((xs.length : Int) - 1 - i).toNat (rd R (i : Int))) (by omega) (by simp [hR]) (fun m hm => ?_))
      · simp only [slices_Reverse_int_int.l0]
        rw [if_pos (by omega), if_pos (by omega), if_pos (by omega), if_pos (by omega), if_pos (by omega), w1, w2]
      · rw [rd_put _ _ _ _ (by omega) (by omega) (by rw [List.length_set]; omega), rd_put _ _ _ _ (by omega) (by omega) (by omega)]
        have hi := hv i (by omega)
        rw [if_neg (by omega)] at hi
        have hj := hv (xs.length - 1 - i) (by omega)
        rw [if_neg (by omega)] at hj
        by_cases c1 : m = xs.length - 1 - i
        · subst c1
          rw [if_pos e3, if_pos (by omega), hi, show xs.length - 1 - (xs.length - 1 - i) = i by omega]
        · rw [if_neg (by omega)]
          by_cases c2 : m = i
          · subst c2
            rw [if_pos rfl, if_pos (by omega), e3, hj]
          · rw [if_neg (by omega), hv m hm]
            by_cases c3 : m < i ∨ xs.length - 1 - m < i
            · rw [if_pos c3, if_pos (by omega)]
            · rw [if_neg c3, if_neg (by omega)]
    · have hx : R = xs.reverse := by
        apply List.ext_getElem
        · simp [hR]
        · intro m h1 h2
          have hm := hv m (by omega)
          rw [rd_lt R m h1] at hm
          rw [hm, List.getElem_reverse]
          by_cases c3 : m < i ∨ xs.length - 1 - m < i
          · rw [if_pos c3, rd_lt xs _ (by omega)]
          · rw [if_neg c3, rd_lt xs m (by omega)]
            congr 1
            omega
      rw [hx] at *
      refine Ev.step (f := fun _ => some xs.reverse) (fun k => ?_) (Ev.now _)
      simp only [slices_Reverse_int_int.l0]
      rw [if_neg (by omega)]
theorem reverse_ev (xs : List Int) (hl : xs.length ≤ 1000) : Ev (fun k => slices_Reverse_int_int.f k xs) xs.reverse := by
  have w : wrap64 ((xs.length : Int) - 1) = (xs.length : Int) - 1 - ((0 : Nat) : Int) := by rw [w64 (by omega) (by omega)]; omega
  refine Ev.congr (fun k => ?_) (reverse_loop xs hl xs.length 0 xs (by omega) rfl (fun m hm => by rw [if_neg (by omega)]))
  unfold slices_Reverse_int_int.f
  rw [w]
  rfl

end Go.Proofs.Ytjbjongahnocdaa.P

/- Two colours: what conflicts, visit, close and Stacks compute for an order. -/
namespace Go.Proofs.Ytjbjongahnocdaa.P
open Go.RowKit Go.Proofs.Ytjbjongahnocdaa.S Go.Proofs.Ytjbjongahnocdaa.Defs Go.Proofs.YtjbjongahnocdaaW.PrintWords Go.Proofs.YtjbjongahnocdaaW.PrintLast Go.Proofs.YtjbjongahnocdaaW.PrintMore
set_option linter.unusedVariables false

/-- Two positions are in conflict, whichever comes first. -/
def Adj (l : List Int) (x y : Int) : Prop := 0 ≤ x ∧ x < l.length ∧ 0 ≤ y ∧ y < l.length ∧ ((x < y ∧ Conf l x.toNat y.toNat) ∨ (y < x ∧ Conf l y.toNat x.toNat))
theorem Adj.symm {l : List Int} {x y : Int} (h : Adj l x y) : Adj l y x := ⟨h.2.2.1, h.2.2.2.1, h.1, h.2.1, h.2.2.2.2.symm⟩
theorem Adj.ne {l : List Int} {x y : Int} (h : Adj l x y) : x ≠ y := by
  have := h.2.2.2.2
  omega
/-- A colouring in which no conflict is between two of one colour. -/
def Proper (l : List Int) (χ : Int → Bool) : Prop := ∀ x y, Adj l x y → χ x ≠ χ y
def TwoCol (l : List Int) : Prop := ∃ χ, Proper l χ

theorem sides_two {l s : List Int} (hs : s.length = l.length) (h : SidesOk l s) : TwoCol l := by
  refine ⟨fun x => decide (rd s x = 0), ?_⟩
  have side : ∀ x : Int, 0 ≤ x → x < l.length → rd s x = 0 ∨ rd s x = 1 := fun x h0 h1 => h.1 _ (rd_mem h0 (by omega))
  have key : ∀ x y : Int, 0 ≤ x → x < y → y < l.length → Conf l x.toNat y.toNat → decide (rd s x = 0) ≠ decide (rd s y = 0) := by
    intro x y h0 h1 h2 hc he
    rw [decide_eq_decide] at he
    have e : rd s x = rd s y := by
      have := side x h0 (by omega)
      have := side y (by omega) h2
      omega
    refine h.2 x.toNat y.toNat (by omega) (by omega) ?_ hc
    rw [show ((x.toNat : Nat) : Int) = x by omega, show ((y.toNat : Nat) : Int) = y by omega]
    exact e
  rintro x y ⟨h0, h1, h2, h3, hc⟩
  rcases hc with ⟨hlt, hc⟩ | ⟨hlt, hc⟩
  · exact key x y h0 hlt h3 hc
  · exact (key y x h2 hlt h1 hc).symm

/-! ### the neighbours -/
def NearOk (l : List Int) (near : List (List Int)) : Prop := near.length = l.length ∧ ∀ x : Int, 0 ≤ x → x < l.length → ∀ y, y ∈ near_ near x ↔ Adj l x y
def NearAt (l : List Int) (near : List (List Int)) (b a : Nat) : Prop := near.length = l.length ∧ (∀ x : Nat, x < l.length → (near.getD x []).length ≤ b * 60 + a) ∧
  ∀ x : Nat, x < l.length → ∀ y : Int, y ∈ near.getD x [] ↔ (Adj l (x : Int) y ∧ ((x : Int) < b ∧ y < b ∨ ((x : Int) = b ∧ y < a) ∨ (y = b ∧ (x : Int) < a)))

theorem rd_L1_nat (near : List (List Int)) (x : Nat) : rd_L1 near (x : Int) = near.getD x [] := by
  unfold rd_L1
  rw [Int.toNat_natCast]
theorem getD_set (near : List (List Int)) (i x : Nat) (v : List Int) (h : i < near.length) : (near.set i v).getD x [] = if i = x then v else near.getD x [] := by
  rw [List.getD_eq_getElem?_getD, List.getElem?_set]
  by_cases c : i = x
  · subst c; simp [h]
  · simp [c]
theorem near_step {l : List Int} {near : List (List Int)} {b a : Nat} (hab : a < b) (hb : b < l.length) (h : NearAt l near b a) :
    (¬ Conf l a b → NearAt l near b (a + 1)) ∧ (Conf l a b → NearAt l ((near.set a (near.getD a [] ++ [(b : Int)])).set b ((near.set a (near.getD a [] ++ [(b : Int)])).getD b [] ++ [(a : Int)])) b (a + 1)) := by
  obtain ⟨h1, h2, h3⟩ := h
  have hadj : Adj l (a : Int) (b : Int) ↔ Conf l a b := by
    unfold Adj
    simp only [Int.toNat_natCast]
    exact ⟨fun h => h.2.2.2.2.elim (fun h => h.2) (fun h => by omega), fun h => ⟨by omega, by omega, by omega, by omega, .inl ⟨by omega, h⟩⟩⟩
  constructor
  · intro hc
    refine ⟨h1, fun x hx => by have := h2 x hx; omega, fun x hx y => ?_⟩
    rw [h3 x hx y]
    constructor
    · rintro ⟨q1, q2⟩
      exact ⟨q1, by omega⟩
    · rintro ⟨q1, q2⟩
      refine ⟨q1, ?_⟩
      rcases q2 with q2 | ⟨q2, q3⟩ | ⟨q2, q3⟩
      · exact .inl q2
      · by_cases e : y = a
        · subst e
          rw [q2] at q1
          exact absurd (hadj.1 q1.symm) hc
        · exact .inr (.inl ⟨q2, by omega⟩)
      · by_cases e : (x : Int) = a
        · rw [q2, e] at q1
          exact absurd (hadj.1 q1) hc
        · exact .inr (.inr ⟨q2, by omega⟩)
  · intro hc
    have ha1 : Adj l (a : Int) (b : Int) := hadj.2 hc
    have g : ∀ x : Nat, ((near.set a (near.getD a [] ++ [(b : Int)])).set b ((near.set a (near.getD a [] ++ [(b : Int)])).getD b [] ++ [(a : Int)])).getD x [] =
        if b = x then near.getD b [] ++ [(a : Int)] else if a = x then near.getD a [] ++ [(b : Int)] else near.getD x [] := by
      intro x
      rw [getD_set _ _ _ _ (by rw [List.length_set]; omega), getD_set _ _ _ _ (by omega), getD_set _ _ _ _ (by omega)]
      rw [if_neg (show ¬ a = b by omega)]
    refine ⟨by rw [List.length_set, List.length_set]; exact h1, fun x hx => ?_, fun x hx y => ?_⟩
    · rw [g]
      have q0 := h2 x hx
      split
      · rename_i e; subst e; rw [List.length_append, List.length_singleton]; omega
      · split
        · rename_i e; subst e; rw [List.length_append, List.length_singleton]; omega
        · omega
    · rw [g]
      by_cases e1 : b = x
      · subst e1
        rw [if_pos rfl, List.mem_append, List.mem_singleton, h3 b hx y]
        constructor
        · rintro (⟨q1, q2⟩ | rfl)
          · exact ⟨q1, by omega⟩
          · exact ⟨ha1.symm, .inr (.inl ⟨rfl, by omega⟩)⟩
        · rintro ⟨q1, q2⟩
          by_cases e : y = a
          · exact .inr e
          · have := q1.ne
            exact .inl ⟨q1, by omega⟩
      · rw [if_neg e1]
        by_cases e2 : a = x
        · subst e2
          rw [if_pos rfl, List.mem_append, List.mem_singleton, h3 a hx y]
          constructor
          · rintro (⟨q1, q2⟩ | rfl)
            · exact ⟨q1, by omega⟩
            · exact ⟨ha1, .inr (.inr ⟨rfl, by omega⟩)⟩
          · rintro ⟨q1, q2⟩
            by_cases e : y = b
            · exact .inr e
            · exact .inl ⟨q1, by omega⟩
        · rw [if_neg e2, h3 x hx y]
          constructor
          · rintro ⟨q1, q2⟩
            exact ⟨q1, by omega⟩
          · rintro ⟨q1, q2⟩
            exact ⟨q1, by omega⟩
theorem conflicts_end (l : List Int) (hl : l.length ≤ 60) (b : Nat) (hb : b < l.length) (R : List (List Int)) (near : List (List Int)) (hR : Ev (fun k => shunt_conflicts.l0 k l near (l.length : Int) ((b + 1 : Nat) : Int)) R) :
    Ev (fun k => shunt_conflicts.l1 k l near (b : Int) (l.length : Int) (b : Int) (b : Int) (b : Int)) R := by
  refine Ev.step (fun k => ?_) hR
  simp only [shunt_conflicts.l1]
  rw [if_neg (by omega), w64 (by omega) (by omega)]
  rfl
theorem conflicts_round (l : List Int) (hd : l.Nodup) (hl : l.length ≤ 60) (a b : Nat) (hab : a < b) (hb : b < l.length) (near : List (List Int)) (hn : NearAt l near b a) :
    ∃ near', NearAt l near' b (a + 1) ∧ ∀ R, Ev (fun k => shunt_conflicts.l1 k l near' (b : Int) (l.length : Int) (b : Int) (b : Int) ((a + 1 : Nat) : Int)) R → Ev (fun k => shunt_conflicts.l1 k l near (b : Int) (l.length : Int) (b : Int) (b : Int) (a : Int)) R := by
  obtain ⟨q, q1, q2⟩ := blocking_ev l a b (by omega) hb (by omega)
  have q3 := found_conf hd (by omega) hb q2
  have hq0 : 0 ≤ q := by
    rcases q2 with ⟨rfl, _⟩ | ⟨c, rfl, _⟩ <;> omega
  obtain ⟨s1, s2⟩ := near_step hab hb hn
  have hlen : near.length = l.length := hn.1
  have hcong : ∀ k, shunt_conflicts.l1 (k + 1) l near (b : Int) (l.length : Int) (b : Int) (b : Int) (a : Int) = (shunt_blocking.f k l (a : Int) (b : Int)).bind fun t564 => if t564 > 0 then (if 0 ≤ (a : Int) then (if (a : Int) < (near.length : Int) then (if (rd_L1 near (a : Int)).length < 17592186044416 then ((some (near.set (a : Int).toNat ((rd_L1 near (a : Int)) ++ [(b : Int)]) : List (List Int))).bind fun y569 => (if 0 ≤ (b : Int) then (if (b : Int) < (near.length : Int) then (if (rd_L1 y569 (b : Int)).length < 17592186044416 then (shunt_conflicts.l1 k l (y569.set (b : Int).toNat ((rd_L1 y569 (b : Int)) ++ [(a : Int)])) (b : Int) (l.length : Int) (b : Int) (b : Int) ((a + 1 : Nat) : Int)) else (none)) else (none)) else (none))) else (none)) else (none)) else (none)) else shunt_conflicts.l1 k l near (b : Int) (l.length : Int) (b : Int) (b : Int) ((a + 1 : Nat) : Int) := by
    intro k
    simp only [shunt_conflicts.l1]
    rw [if_pos (by omega), w64 (x := (a : Int) + 1) (by omega) (by omega)]
    rfl
  by_cases c : q > 0
  · have hc : Conf l a b := q3.1 (by omega)
    have la := hn.2.1 a (by omega)
    have lb : ((near.set a (near.getD a [] ++ [(b : Int)])).getD b []).length ≤ 5000 := by
      have := hn.2.1 b hb
      rw [getD_set _ _ _ _ (by omega), if_neg (by omega)]
      omega
    refine ⟨_, s2 hc, fun R hR => Ev.step hcong (Ev.bind (f := fun k t564 => _) q1 (Ev.congr (fun k => ?_) hR))⟩
    rw [if_pos c]
    simp only [Option.bind_some, rd_L1_nat, Int.toNat_natCast]
    rw [if_pos (show (0 : Int) ≤ (a : Int) by omega), if_pos (show (a : Int) < (near.length : Int) by omega), if_pos (show (near.getD a []).length < 17592186044416 by omega), if_pos (show (0 : Int) ≤ (b : Int) by omega), if_pos (show (b : Int) < (near.length : Int) by omega), if_pos (show ((near.set a (near.getD a [] ++ [(b : Int)])).getD b []).length < 17592186044416 by omega)]
  · have hc : ¬ Conf l a b := fun h' => (q3.2 h') (by omega)
    exact ⟨near, s1 hc, fun R hR => Ev.step hcong (Ev.bind (f := fun k t564 => _) q1 (Ev.congr (fun k => if_neg c) hR))⟩
theorem near_next {l : List Int} {near : List (List Int)} {b : Nat} (hb : b ≤ 60) (h : NearAt l near b b) : NearAt l near (b + 1) 0 := by
  refine ⟨h.1, fun x hx => by have := h.2.1 x hx; omega, fun x hx y => ?_⟩
  rw [h.2.2 x hx y]
  constructor
  · rintro ⟨q1, q2⟩
    exact ⟨q1, by omega⟩
  · rintro ⟨q1, q2⟩
    have h0 := q1.2.2.1
    have := q1.ne
    exact ⟨q1, by omega⟩
theorem conflicts_l0 (l : List Int) (hd : l.Nodup) (hl : l.length ≤ 60) : ∀ (d b : Nat) (near : List (List Int)), b + d = l.length → NearAt l near b 0 → ∃ R, Ev (fun k => shunt_conflicts.l0 k l near (l.length : Int) (b : Int)) R ∧ NearAt l R l.length 0 := by
  intro d
  induction d with
  | zero =>
    intro b near h hn
    obtain rfl : b = l.length := by omega
    refine ⟨near, Ev.step (f := fun _ => some near) (fun k => ?_) (Ev.now _), hn⟩
    simp only [shunt_conflicts.l0]
    rw [if_neg (by omega)]
  | succ d ih =>
    intro b near h hn
    have hb : b < l.length := by omega
    -- what the rows are after the round does not depend on the way: the round is run for the one list that it gives
    have key : ∀ (d' a : Nat) (near : List (List Int)), a + d' = b → NearAt l near b a → ∃ near', NearAt l near' b b ∧ ∀ R, Ev (fun k => shunt_conflicts.l0 k l near' (l.length : Int) ((b + 1 : Nat) : Int)) R → Ev (fun k => shunt_conflicts.l1 k l near (b : Int) (l.length : Int) (b : Int) (b : Int) (a : Int)) R := by
      intro d'
      induction d' with
      | zero =>
        intro a near h' hn'
        obtain rfl : a = b := by omega
        exact ⟨near, hn', fun R hR => conflicts_end l hl a hb R near hR⟩
      | succ d' ih' =>
        intro a near h' hn'
        obtain ⟨near1, h1, h2⟩ := conflicts_round l hd hl a b (by omega) hb near hn'
        obtain ⟨near', q1, q2⟩ := ih' (a + 1) near1 (by omega) h1
        exact ⟨near', q1, fun R hR => h2 R (q2 R hR)⟩
    obtain ⟨near', q1, q2⟩ := key b 0 near (by omega) hn
    obtain ⟨R, r1, r2⟩ := ih (b + 1) near' (by omega) (near_next (by omega) q1)
    refine ⟨R, Ev.step (fun k => ?_) (q2 R r1), r2⟩
    simp only [shunt_conflicts.l0]
    rw [if_pos (by omega)]
    rfl
theorem conflicts_ev (l : List Int) (hd : l.Nodup) (hl : l.length ≤ 60) : ∃ near, Ev (fun k => shunt_conflicts.f k l) near ∧ NearOk l near := by
  have h0 : NearAt l (List.replicate l.length []) 0 0 := by
    have e : ∀ x : Nat, x < l.length → (List.replicate l.length ([] : List Int)).getD x [] = [] := fun x hx => by
      rw [List.getD_eq_getElem?_getD, List.getElem?_replicate]
      simp [hx]
    refine ⟨by simp, fun x hx => by rw [e x hx]; simp, fun x hx y => ?_⟩
    rw [e x hx]
    constructor
    · intro h; cases h
    · rintro ⟨_, h⟩
      have := ‹Adj l (x : Int) y›.2.2.1
      omega
  obtain ⟨R, r1, r2⟩ := conflicts_l0 l hd hl l.length 0 _ (by omega) h0
  refine ⟨R, Ev.congr (fun k => ?_) r1, r2.1, fun x hx0 hx1 y => ?_⟩
  · unfold shunt_conflicts.f
    rw [if_pos (by omega), Int.toNat_natCast, if_pos (by omega)]
    rfl
  · have := r2.2.2 x.toNat (by omega) y
    rw [show ((x.toNat : Nat) : Int) = x by omega] at this
    show y ∈ near_ R x ↔ _
    unfold near_
    rw [this]
    exact ⟨fun h => h.1, fun h => ⟨h, by have := h.2.2.2.1; omega⟩⟩

/-! ### a visit -/
theorem wayF_mono (fr : Int → Option Int) : ∀ (f : Nat) (x : Int) (r : List Int), wayF fr f x = some r → ∀ g, f ≤ g → wayF fr g x = some r
  | 0, _, _, h, _, _ => by cases h
  | f + 1, x, r, h, g, hg => by
    obtain ⟨g', rfl⟩ : ∃ g', g = g' + 1 := ⟨g - 1, by omega⟩
    unfold wayF at h ⊢
    by_cases c : 0 ≤ x
    · rw [if_pos c] at h ⊢
      by_cases c2 : x ≤ 1000
      · rw [if_pos c2] at h ⊢
        obtain ⟨r', h1, h2⟩ := Option.map_eq_some_iff.mp h
        rw [wayF_mono fr f _ _ h1 g' (by omega), ← h2]
        rfl
      · rw [if_neg c2] at h; cases h
    · rw [if_neg c] at h ⊢
      exact h
/-- A way is as it was when a new node is told from where it comes. -/
theorem wayF_put (fr : Int → Option Int) (b v : Int) (hb : fr b = none) (hb0 : 0 < b ∨ b < 0 ∨ True) : ∀ (f : Nat) (x : Int) (r : List Int), wayF fr f x = some r → (∀ y ∈ r, fr y ≠ none) → wayF (put_ fr b v) f x = some r
  | 0, _, _, h, _ => by cases h
  | f + 1, x, r, h, hr => by
    unfold wayF at h ⊢
    by_cases c : 0 ≤ x
    · rw [if_pos c] at h ⊢
      by_cases c2 : x ≤ 1000
      · rw [if_pos c2] at h ⊢
        obtain ⟨r', h1, h2⟩ := Option.map_eq_some_iff.mp h
        subst h2
        have hx : x ≠ b := fun e => hr x (by simp) (by rw [e]; exact hb)
        rw [show put_ fr b v x = fr x from if_neg hx, wayF_put fr b v hb hb0 f _ _ h1 (fun y hy => hr y (by simp [hy]))]
        rfl
      · rw [if_neg c2] at h; cases h
    · rw [if_neg c] at h ⊢
      exact h
structure Bfs (l : List Int) (sd0 : Int → Option Int) (s : Int) (c : Col) : Prop where
  old : ∀ y, sd0 y ≠ none → c.1 y = sd0 y
  dom : ∀ y, c.1 y ≠ none ↔ (sd0 y ≠ none ∨ y ∈ c.2.2)
  new : ∀ y ∈ c.2.2, sd0 y = none ∧ 0 ≤ y ∧ y < l.length
  nd : c.2.2.Nodup
  val : ∀ y v, c.1 y = some v → v = 0 ∨ v = 1
  frd : ∀ y, c.2.1 y = none ↔ c.1 y = none
  way : ∀ (t : Nat) (h : t < c.2.2.length), ∃ r, wayF c.2.1 (t + 2) c.2.2[t] = some r ∧ ∀ y ∈ r, c.2.1 y ≠ none
  tree : ∀ χ, Proper l χ → ∀ y ∈ c.2.2, (χ y = χ s ↔ c.1 y = some 0)
theorem Bfs.len {l : List Int} {sd0 : Int → Option Int} {s : Int} {c : Col} (h : Bfs l sd0 s c) : c.2.2.length ≤ l.length :=
  nodup_len l.length c.2.2 (-1) h.nd (fun a ha => by have := h.new a ha; omega)
/-- The neighbours of the first i of the queue have the other colour. -/
def Done (l : List Int) (c : Col) (i : Nat) : Prop := ∀ t : Nat, t < i → ∀ b, Adj l (rd c.2.2 (t : Int)) b → ∃ v, c.1 b = some v ∧ c.1 (rd c.2.2 (t : Int)) ≠ some v
def Closed (l : List Int) (sd : Int → Option Int) : Prop := ∀ x v, sd x = some v → ∀ y, Adj l x y → ∃ u, sd y = some u ∧ u ≠ v

theorem bfs_add {l : List Int} (hl60 : l.length ≤ 60) {sd0 : Int → Option Int} {s a b va : Int} {c : Col} (h : Bfs l sd0 s c) (ha : a ∈ c.2.2) (hva : c.1 a = some va) (hab : Adj l a b) (hb : c.1 b = none) :
    Bfs l sd0 s (put_ c.1 b (wrap64 (1 - (c.1 a).getD 0)), put_ c.2.1 b a, c.2.2 ++ [b]) := by
  have hv := h.val a va hva
  have hw : wrap64 (1 - (c.1 a).getD 0) = 1 - va := by rw [hva, Option.getD_some, w64 (by omega) (by omega)]
  rw [hw]
  have hbq : b ∉ c.2.2 := fun hm => (h.dom b).2 (.inr hm) hb
  have hb0 : sd0 b = none := by
    cases e : sd0 b with
    | none => rfl
    | some u => exact absurd hb ((h.dom b).2 (.inl (by rw [e]; simp)))
  have hne : a ≠ b := hab.ne
  refine ⟨fun y hy => ?_, fun y => ?_, fun y hy => ?_, ?_, fun y v hy => ?_, fun y => ?_, fun t ht => ?_, fun χ hχ y hy => ?_⟩
  · show put_ c.1 b _ y = _
    rw [show put_ c.1 b (1 - va) y = c.1 y from if_neg (fun (e : y = b) => hy (by rw [e]; exact hb0))]
    exact h.old y hy
  · show put_ c.1 b _ y ≠ none ↔ _
    by_cases e : y = b
    · subst e
      rw [show put_ c.1 y (1 - va) y = some (1 - va) from if_pos rfl]
      exact ⟨fun _ => .inr (by simp), fun _ => by simp⟩
    · rw [show put_ c.1 b (1 - va) y = c.1 y from if_neg e, h.dom y, List.mem_append, List.mem_singleton]
      exact ⟨fun h => h.elim .inl (fun h => .inr (.inl h)), fun h => h.elim .inl (fun h => h.elim .inr (fun h => absurd h e))⟩
  · rcases List.mem_append.1 hy with hy | hy
    · exact h.new y hy
    · rw [List.mem_singleton] at hy
      subst hy
      exact ⟨hb0, hab.2.2.1, hab.2.2.2.1⟩
  · rw [List.nodup_append]
    refine ⟨h.nd, by simp, fun x hx z hz e => ?_⟩
    rw [List.mem_singleton] at hz
    subst hz
    exact hbq (e ▸ hx)
  · replace hy : put_ c.1 b (1 - va) y = some v := hy
    by_cases e : y = b
    · rw [show put_ c.1 b (1 - va) y = some (1 - va) from if_pos e] at hy
      injection hy with hy
      omega
    · rw [show put_ c.1 b (1 - va) y = c.1 y from if_neg e] at hy
      exact h.val y v hy
  · show put_ c.2.1 b a y = none ↔ put_ c.1 b (1 - va) y = none
    unfold put_
    by_cases e : y = b
    · rw [if_pos e, if_pos e]; simp
    · rw [if_neg e, if_neg e]; exact h.frd y
  · have hfb : c.2.1 b = none := (h.frd b).2 hb
    show ∃ r, wayF (put_ c.2.1 b a) (t + 2) (c.2.2 ++ [b])[t] = some r ∧ ∀ y ∈ r, put_ c.2.1 b a y ≠ none
    have keep : ∀ r : List Int, (∀ y ∈ r, c.2.1 y ≠ none) → ∀ y ∈ r, put_ c.2.1 b a y ≠ none := fun r hr y hy => by
      unfold put_
      by_cases e : y = b
      · rw [if_pos e]; simp
      · rw [if_neg e]; exact hr y hy
    by_cases ht2 : t < c.2.2.length
    · obtain ⟨r, r1, r2⟩ := h.way t ht2
      rw [List.getElem_append_left ht2]
      exact ⟨r, wayF_put _ _ _ hfb (.inr (.inr trivial)) _ _ _ r1 r2, keep r r2⟩
    · have hl := h.len
      have ht3 : t = c.2.2.length := by
        have := ht
        rw [List.length_append, List.length_singleton] at this
        omega
      subst ht3
      obtain ⟨ta, hta, hea⟩ := List.mem_iff_getElem.1 ha
      obtain ⟨r, r1, r2⟩ := h.way ta hta
      rw [hea] at r1
      have r3 := wayF_mono _ _ _ _ r1 (c.2.2.length + 1) (by omega)
      rw [List.getElem_append_right (Nat.le_refl _)]
      simp only [Nat.sub_self, List.getElem_cons_zero]
      refine ⟨b :: r, ?_, fun y hy => ?_⟩
      · have hb3 := hab.2.2.1
        have hb4 := hab.2.2.2.1
        unfold wayF
        rw [if_pos hb3, if_pos (by omega), show (put_ c.2.1 b a b) = some a from if_pos rfl, Option.getD_some, wayF_put _ _ _ hfb (.inr (.inr trivial)) _ _ _ r3 r2]
        rfl
      · rcases List.mem_cons.1 hy with e | hy
        · rw [e]; unfold put_; rw [if_pos rfl]; simp
        · exact keep r r2 y hy
  · replace hy : y ∈ c.2.2 ++ [b] := hy
    show χ y = χ s ↔ put_ c.1 b (1 - va) y = some 0
    rcases List.mem_append.1 hy with hy | hy
    · rw [show put_ c.1 b (1 - va) y = c.1 y from if_neg (fun (e : y = b) => hbq (by rw [← e]; exact hy))]
      exact h.tree χ hχ y hy
    · rw [List.mem_singleton] at hy
      subst hy
      rw [show put_ c.1 y (1 - va) y = some (1 - va) from if_pos rfl]
      have t1 := h.tree χ hχ a ha
      have t2 := hχ a y hab
      rw [hva] at t1
      rcases hv with rfl | rfl
      · have : χ a = χ s := t1.2 rfl
        rw [this] at t2
        exact ⟨fun e => absurd e.symm t2, fun e => by simp at e⟩
      · have : χ a ≠ χ s := fun e => by have := t1.1 e; simp at this
        exact ⟨fun _ => rfl, fun _ => by cases h1 : χ a <;> cases h2 : χ s <;> cases h3 : χ y <;> simp_all⟩
theorem two_no {l : List Int} {sd0 : Int → Option Int} {s a b va : Int} {c : Col} (h : Bfs l sd0 s c) (hcl : Closed l sd0) (ha : a ∈ c.2.2) (hva : c.1 a = some va) (hab : Adj l a b) (hb : c.1 b = some va) : b ∈ c.2.2 ∧ ¬ TwoCol l := by
  have hbq : b ∈ c.2.2 := by
    rcases (h.dom b).1 (by rw [hb]; simp) with h1 | h1
    · exfalso
      cases e : sd0 b with
      | none => exact h1 e
      | some u =>
        obtain ⟨u', h2, _⟩ := hcl b u e a hab.symm
        rw [(h.new a ha).1] at h2
        cases h2
    · exact h1
  refine ⟨hbq, fun ⟨χ, hχ⟩ => ?_⟩
  have t1 := h.tree χ hχ a ha
  have t2 := h.tree χ hχ b hbq
  have t3 := hχ a b hab
  rw [hva] at t1
  rw [hb] at t2
  have : (χ a = χ s) ↔ (χ b = χ s) := t1.trans t2.symm
  cases h1 : χ a <;> cases h2 : χ b <;> cases h3 : χ s <;> simp_all
theorem colIn_ok {l : List Int} (hl60 : l.length ≤ 60) {sd0 : Int → Option Int} (hcl : Closed l sd0) {s a : Int} : ∀ (bs : List Int) (c : Col), Bfs l sd0 s c → a ∈ c.2.2 → (∀ b ∈ bs, Adj l a b) →
    ∃ c' r, colIn a bs c = some (c', r) ∧ Bfs l sd0 s c' ∧ (∃ ext, c'.2.2 = c.2.2 ++ ext) ∧ (∀ y v, c.1 y = some v → c'.1 y = some v) ∧ (r = none → ∀ b ∈ bs, ∃ v, c'.1 b = some v ∧ c'.1 a ≠ some v) ∧ (∀ b, r = some b → b ∈ c'.2.2 ∧ ¬ TwoCol l)
  | [], c, h, ha, _ => ⟨c, none, rfl, h, ⟨[], by simp⟩, fun _ _ h => h, fun _ b hb => (by cases hb), fun b hb => (by cases hb)⟩
  | b :: bs, c, h, ha, hbs => by
    have hab := hbs b (by simp)
    have hlen := h.len
    have g : 0 ≤ b ∧ b ≤ 1000 ∧ c.2.2.length ≤ 1000 := ⟨hab.2.2.1, by have := hab.2.2.2.1; omega, by omega⟩
    obtain ⟨va, hva⟩ : ∃ va, c.1 a = some va := by
      cases e : c.1 a with
      | none => exact absurd e ((h.dom a).2 (.inr ha))
      | some v => exact ⟨v, rfl⟩
    cases hb : c.1 b with
    | none =>
      obtain ⟨c', r, e1, e2, ⟨ext, e3⟩, e4, e5, e6⟩ := colIn_ok hl60 hcl bs _ (bfs_add hl60 h ha hva hab hb) (List.mem_append_left _ ha) (fun x hx => hbs x (by simp [hx]))
      refine ⟨c', r, ?_, e2, ⟨[b] ++ ext, by rw [e3, List.append_assoc]⟩, fun y v hy => e4 y v ?_, fun hr x hx => ?_, e6⟩
      · unfold colIn
        rw [if_pos g, hb]
        simp only []
        rw [if_pos ⟨(h.frd b).2 hb, hab.ne⟩]
        exact e1
      · show put_ c.1 b _ y = some v
        rw [show put_ c.1 b (wrap64 (1 - (c.1 a).getD 0)) y = c.1 y from if_neg (fun (e : y = b) => by rw [e, hb] at hy; cases hy)]
        exact hy
      · rcases List.mem_cons.1 hx with e | hx
        · rw [e]
          have hv := h.val a va hva
          have q1 : c'.1 b = some (1 - va) := e4 b (1 - va) (by
            show put_ c.1 b _ b = _
            rw [show put_ c.1 b (wrap64 (1 - (c.1 a).getD 0)) b = some (wrap64 (1 - (c.1 a).getD 0)) from if_pos rfl, hva, Option.getD_some, w64 (by omega) (by omega)])
          have q2 : c'.1 a = some va := e4 a va (by
            show put_ c.1 b _ a = _
            rw [show put_ c.1 b (wrap64 (1 - (c.1 a).getD 0)) a = c.1 a from if_neg hab.ne]
            exact hva)
          exact ⟨1 - va, q1, by rw [q2]; intro e; injection e with e; omega⟩
        · exact e5 hr x hx
    | some sb =>
      by_cases ce : sb = va
      · subst ce
        have ht := two_no h hcl ha hva hab hb
        refine ⟨c, some b, ?_, h, ⟨[], by simp⟩, fun _ _ h => h, fun h => (by cases h), fun b' hb' => ?_⟩
        · unfold colIn
          rw [if_pos g, hb]
          simp only []
          rw [hva, Option.getD_some, if_pos rfl]
        · injection hb' with e
          subst e
          exact ht
      · obtain ⟨c', r, e1, e2, e3, e4, e5, e6⟩ := colIn_ok hl60 hcl bs c h ha (fun x hx => hbs x (by simp [hx]))
        refine ⟨c', r, ?_, e2, e3, e4, fun hr x hx => ?_, e6⟩
        · unfold colIn
          rw [if_pos g, hb]
          simp only []
          rw [hva, Option.getD_some, if_neg ce]
          exact e1
        · rcases List.mem_cons.1 hx with e | hx
          · rw [e]
            exact ⟨sb, e4 b sb hb, by rw [e4 a va hva]; intro e; injection e with e; exact ce e.symm⟩
          · exact e5 hr x hx
theorem colOut_ok {l : List Int} (hl60 : l.length ≤ 60) {near : List (List Int)} (hn : NearOk l near) {sd0 : Int → Option Int} (hcl : Closed l sd0) {s : Int} : ∀ (f i : Nat) (c : Col), f + i = 100 → i ≤ c.2.2.length → Bfs l sd0 s c → Done l c i →
    ∃ c' r, colOut near f (i : Int) c = some (c', r) ∧ Bfs l sd0 s c' ∧ (∃ ext, c'.2.2 = c.2.2 ++ ext) ∧ (r = none → Done l c' c'.2.2.length) ∧ (∀ a b, r = some (a, b) → a ∈ c'.2.2 ∧ b ∈ c'.2.2 ∧ ¬ TwoCol l) := by
  intro f
  induction f with
  | zero =>
    intro i c h hi hb _
    have := hb.len
    omega
  | succ f ih =>
    intro i c h hi hb hdn
    have hlen := hb.len
    by_cases c1 : (i : Int) < (c.2.2.length : Int)
    · have ha : rd c.2.2 (i : Int) ∈ c.2.2 := rd_mem (by omega) c1
      obtain ⟨a, hae⟩ : ∃ a, a = rd c.2.2 (i : Int) := ⟨_, rfl⟩
      rw [← hae] at ha
      have har := hb.new a ha
      have hadj : ∀ b ∈ near_ near a, Adj l a b := fun b hb' => (hn.2 a har.2.1 har.2.2 b).1 hb'
      obtain ⟨c', r, e1, e2, ⟨ext, e3⟩, e4, e5, e6⟩ := colIn_ok hl60 hcl (near_ near a) c hb ha hadj
      have hrd : ∀ t : Nat, t < c.2.2.length → rd c'.2.2 (t : Int) = rd c.2.2 (t : Int) := fun t ht => by
        rw [e3, rd_lt _ t (by rw [List.length_append]; omega), rd_lt _ t ht, List.getElem_append_left ht]
      have hguard : 0 ≤ a ∧ a < near.length ∧ a ≤ 1000 := ⟨har.2.1, by rw [hn.1]; exact har.2.2, by omega⟩
      have hst : colOut near (f + 1) (i : Int) c = (colIn a (near_ near a) c).bind fun p => match p.2 with | some b => some (p.1, some (a, b)) | none => colOut near f ((i : Int) + 1) p.1 := by
        rw [colOut, if_pos c1, ← hae, if_pos hguard]
        rfl
      cases r with
      | some b =>
        have := e6 b rfl
        exact ⟨c', some (a, b), by rw [hst, e1]; rfl, e2, ⟨ext, e3⟩, fun h => (by cases h), fun a' b' h' => by
          injection h' with h'
          injection h' with h1 h2
          subst h1; subst h2
          exact ⟨by rw [e3]; exact List.mem_append_left _ ha, this.1, this.2⟩⟩
      | none =>
        have hdn' : Done l c' (i + 1) := by
          intro t ht b hab
          rw [hrd t (by omega)] at hab ⊢
          by_cases et : t = i
          · subst et
            rw [← hae] at hab ⊢
            exact e5 rfl b ((hn.2 a har.2.1 har.2.2 b).2 hab)
          · obtain ⟨v, v1, v2⟩ := hdn t (by omega) b hab
            refine ⟨v, e4 b v v1, ?_⟩
            have htm : rd c.2.2 (t : Int) ∈ c.2.2 := rd_mem (by omega) (by omega)
            cases et2 : c.1 (rd c.2.2 (t : Int)) with
            | none => exact absurd et2 ((hb.dom _).2 (.inr htm))
            | some u => rw [e4 _ u et2]; rw [et2] at v2; exact v2
        obtain ⟨c2, r2, f1, f2, ⟨ext2, f3⟩, f4, f5⟩ := ih (i + 1) c' (by omega) (by rw [e3, List.length_append]; omega) e2 hdn'
        refine ⟨c2, r2, ?_, f2, ⟨ext ++ ext2, by rw [f3, e3, List.append_assoc]⟩, f4, f5⟩
        rw [hst, e1]
        exact f1
    · have hi2 : i = c.2.2.length := by omega
      refine ⟨c, none, ?_, hb, ⟨[], by simp⟩, fun _ => by rw [← hi2]; exact hdn, fun a b h => (by cases h)⟩
      unfold colOut
      rw [if_neg c1]

/-- What holds between two visits. -/
structure Sound (l : List Int) (sd fr : Int → Option Int) : Prop where
  closed : Closed l sd
  val : ∀ y v, sd y = some v → v = 0 ∨ v = 1
  frd : ∀ y, fr y = none ↔ sd y = none
theorem visit_ok {l : List Int} (hl60 : l.length ≤ 60) {near : List (List Int)} (hn : NearOk l near) {sd fr : Int → Option Int} (h : Sound l sd fr) {s : Int} (h0 : 0 ≤ s) (h1 : s < l.length) (hs : sd s = none) :
    ∃ c r, visitF near sd fr s = some (c, r) ∧ (∀ y, sd y ≠ none → c.1 y = sd y) ∧ (r = none → Sound l c.1 c.2.1 ∧ c.1 s ≠ none) ∧
      (∀ a b, r = some (a, b) → ¬ TwoCol l ∧ (∃ p, wayF c.2.1 100 a = some (a :: p) ∧ (a :: p).length ≤ 100) ∧ ∃ q, wayF c.2.1 100 b = some (b :: q) ∧ (b :: q).length ≤ 100) := by
  have hb : Bfs l sd s (put_ sd s 0, put_ fr s (-1), [s]) := by
    refine ⟨fun y hy => ?_, fun y => ?_, fun y hy => ?_, by simp, fun y v hy => ?_, fun y => ?_, fun t ht => ?_, fun χ hχ y hy => ?_⟩
    · exact if_neg (fun (e : y = s) => hy (by rw [e]; exact hs))
    · show put_ sd s 0 y ≠ none ↔ _
      unfold put_
      by_cases e : y = s
      · rw [if_pos e]; simp [e]
      · rw [if_neg e]; simp [e]
    · rw [List.mem_singleton] at hy
      subst hy
      exact ⟨hs, h0, h1⟩
    · replace hy : put_ sd s 0 y = some v := hy
      unfold put_ at hy
      by_cases e : y = s
      · rw [if_pos e] at hy
        injection hy with hy
        omega
      · rw [if_neg e] at hy
        exact h.val y v hy
    · show put_ fr s (-1) y = none ↔ put_ sd s 0 y = none
      unfold put_
      by_cases e : y = s
      · rw [if_pos e, if_pos e]; simp
      · rw [if_neg e, if_neg e]; exact h.frd y
    · have ht0 : t = 0 := by simpa using ht
      subst ht0
      refine ⟨[s], ?_, fun y hy => ?_⟩
      · show wayF (put_ fr s (-1)) 2 s = some [s]
        unfold wayF
        rw [if_pos h0, if_pos (by omega), show put_ fr s (-1) s = some (-1) from if_pos rfl, Option.getD_some]
        rfl
      · rw [List.mem_singleton] at hy
        rw [hy]
        show put_ fr s (-1) s ≠ none
        unfold put_
        rw [if_pos rfl]
        simp
    · rw [List.mem_singleton] at hy
      subst hy
      exact ⟨fun _ => if_pos rfl, fun _ => rfl⟩
  obtain ⟨c, r, e1, e2, ⟨ext, e3⟩, e4, e5⟩ := colOut_ok hl60 hn h.closed 100 0 _ (by omega) (by simp) hb (fun t ht => by omega)
  have hq : s ∈ c.2.2 := by rw [e3]; simp
  refine ⟨c, r, ?_, e2.old, fun hr => ⟨⟨?_, e2.val, e2.frd⟩, ?_⟩, fun a b hr => ?_⟩
  · unfold visitF
    rw [if_pos ⟨h0, by omega, hs, (h.frd s).2 hs⟩]
    exact e1
  · intro x v hx y hxy
    rcases (e2.dom x).1 (by rw [hx]; simp) with h2 | h2
    · rw [e2.old x h2] at hx
      obtain ⟨u, u1, u2⟩ := h.closed x v hx y hxy
      exact ⟨u, by rw [e2.old y (by rw [u1]; simp)]; exact u1, u2⟩
    · obtain ⟨t, ht, et⟩ := List.mem_iff_getElem.1 h2
      have hrd : rd c.2.2 (t : Int) = x := by rw [rd_lt _ t ht]; exact et
      obtain ⟨u, u1, u2⟩ := e4 hr t ht y (by rw [hrd]; exact hxy)
      rw [hrd, hx] at u2
      exact ⟨u, u1, fun e => u2 (by rw [e])⟩
  · exact (e2.dom s).2 (.inr hq)
  · obtain ⟨a1, a2, a3⟩ := e5 a b hr
    have hlen := e2.len
    have way : ∀ x ∈ c.2.2, ∃ p, wayF c.2.1 100 x = some (x :: p) ∧ (x :: p).length ≤ 100 := fun x hx => by
      obtain ⟨t, ht, et⟩ := List.mem_iff_getElem.1 hx
      obtain ⟨r', r1, _⟩ := e2.way t ht
      rw [et] at r1
      have r2 := wayF_mono _ _ _ _ r1 100 (by omega)
      have hx0 := (e2.new x hx).2.1
      have r3 := wayF_len _ _ _ _ r2
      have r4 := r2
      unfold wayF at r2
      rw [if_pos hx0] at r2
      by_cases c2 : x ≤ 1000
      · rw [if_pos c2] at r2
        obtain ⟨p, _, hp⟩ := Option.map_eq_some_iff.mp r2
        subst hp
        exact ⟨p, r4, r3⟩
      · rw [if_neg c2] at r2; cases r2
    exact ⟨a3, way a a1, way b a2⟩

/-! ### the cycle, and Stacks -/
theorem trimR_ne : ∀ (P Q : List Int), (P ≠ [] → (trimR P Q).1 ≠ []) ∧ (Q ≠ [] → (trimR P Q).2 ≠ []) ∧ (trimR P Q).1.length ≤ P.length ∧ (trimR P Q).2.length ≤ Q.length
  | [], Q => by rw [show trimR [] Q = ([], Q) by unfold trimR; rfl]; exact ⟨fun h => h, fun h => h, Nat.le_refl _, Nat.le_refl _⟩
  | [x], Q => by rw [show trimR [x] Q = ([x], Q) by unfold trimR; rfl]; exact ⟨fun h => h, fun h => h, Nat.le_refl _, Nat.le_refl _⟩
  | x :: y :: s, [] => by rw [show trimR (x :: y :: s) [] = (x :: y :: s, []) by unfold trimR; rfl]; exact ⟨fun h => h, fun h => h, Nat.le_refl _, Nat.le_refl _⟩
  | x :: y :: s, [x'] => by rw [show trimR (x :: y :: s) [x'] = (x :: y :: s, [x']) by unfold trimR; rfl]; exact ⟨fun h => h, fun h => h, Nat.le_refl _, Nat.le_refl _⟩
  | x :: y :: s, x' :: y' :: t => by
    by_cases c : y = y'
    · have e : trimR (x :: y :: s) (x' :: y' :: t) = trimR (y :: s) (y' :: t) := by rw [trimR, if_pos c]
      rw [e]
      have := trimR_ne (y :: s) (y' :: t)
      exact ⟨fun _ => this.1 (by simp), fun _ => this.2.1 (by simp), by have := this.2.2.1; simp at this ⊢; omega, by have := this.2.2.2; simp at this ⊢; omega⟩
    · have e : trimR (x :: y :: s) (x' :: y' :: t) = (x :: y :: s, x' :: y' :: t) := by rw [trimR, if_neg c]
      rw [e]
      exact ⟨fun h => h, fun h => h, Nat.le_refl _, Nat.le_refl _⟩
/-- The cycle that close finds. -/
def cycleOf (p q : List Int) : List Int := (trimR p.reverse q.reverse).1.reverse ++ (trimR p.reverse q.reverse).2.drop 1
theorem closeF_ev {fr : Int → Option Int} {a b : Int} {p q : List Int} (hp : wayF fr 100 a = some p) (hq : wayF fr 100 b = some q) (hp0 : p ≠ []) (hq0 : q ≠ []) (hql : q.length ≤ 100) :
    Ev (fun k => closeF (slices_Reverse_int_int.f k) fr a b) (cycleOf p q) ∧ cycleOf p q ≠ [] := by
  obtain ⟨t1, t2, t3, t4⟩ := trimR_ne p.reverse q.reverse
  have n1 := t1 (by simpa using hp0)
  have n2 := t2 (by simpa using hq0)
  have hrev := reverse_ev (trimR p.reverse q.reverse).2.reverse (by have h4 := t4; rw [List.length_reverse] at h4; rw [List.length_reverse]; omega)
  rw [List.reverse_reverse] at hrev
  constructor
  · refine Ev.congr (f := fun k => (slices_Reverse_int_int.f k (trimR p.reverse q.reverse).2.reverse).bind fun q' => if q'.length = 0 then none else some ((trimR p.reverse q.reverse).1.reverse ++ q'.drop 1)) (fun k => ?_) ?_
    · unfold closeF
      rw [hp, hq]
      rfl
    · refine Ev.bind (f := fun k (q' : List Int) => if q'.length = 0 then none else some ((trimR p.reverse q.reverse).1.reverse ++ q'.drop 1)) hrev ?_
      refine Ev.congr (fun k => ?_) (Ev.now _)
      rw [if_neg (fun e => n2 (List.eq_nil_of_length_eq_zero e))]
      rfl
  · intro e
    have := (List.append_eq_nil_iff.1 e).1
    exact n1 (by simpa using this)
theorem stacksGo_ok {l : List Int} (hl60 : l.length ≤ 60) {near : List (List Int)} (hn : NearOk l near) : ∀ (m : Nat) (i : Nat) (sd fr : Int → Option Int) (acc : List Int), i + m = l.length → Sound l sd fr → acc.length = i → (∀ t : Nat, t < i → sd (t : Int) = some (rd acc (t : Int))) →
    ∃ s c, Ev (fun k => stacksGo (slices_Reverse_int_int.f k) near m (i : Int) sd fr acc) (s, c) ∧ ((c = [] ∧ s.length = l.length ∧ SidesOk l s) ∨ (s = [] ∧ c ≠ [] ∧ ¬ TwoCol l)) := by
  intro m
  induction m with
  | zero =>
    intro i sd fr acc h hs hal hacc
    have hi : i = l.length := by omega
    refine ⟨acc, [], Ev.congr (fun k => rfl) (Ev.now _), .inl ⟨rfl, by omega, fun x hx => ?_, fun a b hab hb he hc => ?_⟩⟩
    · obtain ⟨t, ht, et⟩ := List.mem_iff_getElem.1 hx
      have := hs.val _ _ (hacc t (by omega))
      rw [rd_lt _ t ht, et] at this
      exact this
    · have hadj : Adj l (a : Int) (b : Int) := ⟨by omega, by omega, by omega, by omega, .inl ⟨by omega, by simpa using hc⟩⟩
      obtain ⟨u, u1, u2⟩ := hs.closed _ _ (hacc a (by omega)) _ hadj
      rw [hacc b (by omega)] at u1
      injection u1 with u1
      exact u2 (by rw [← u1]; exact he.symm)
  | succ m ih =>
    intro i sd fr acc h hs hal hacc
    have hsnoc : ∀ v : Int, ∀ t : Nat, t < i + 1 → rd (acc ++ [v]) (t : Int) = if t = i then v else rd acc (t : Int) := fun v t ht => by
      rw [rd_lt _ t (by rw [List.length_append, List.length_singleton]; omega)]
      by_cases e : t = i
      · subst e
        rw [if_pos rfl, List.getElem_append_right (by omega)]
        simp [hal]
      · rw [if_neg e, List.getElem_append_left (by omega), rd_lt _ t (by omega)]
    cases hsd : sd (i : Int) with
    | some v =>
      obtain ⟨s, c, e1, e2⟩ := ih (i + 1) sd fr (acc ++ [v]) (by omega) hs (by simp [hal]) (fun t ht => by
        rw [hsnoc v t ht]
        by_cases e : t = i
        · rw [if_pos e, e]; exact hsd
        · rw [if_neg e]; exact hacc t (by omega))
      refine ⟨s, c, Ev.congr (fun k => ?_) e1, e2⟩
      rw [stacksGo, hsd]
      rfl
    | none =>
      obtain ⟨c, r, v1, v2, v3, v4⟩ := visit_ok hl60 hn hs (show (0 : Int) ≤ (i : Int) by omega) (by omega) hsd
      cases r with
      | none =>
        obtain ⟨w1, w2⟩ := v3 rfl
        obtain ⟨s, cc, e1, e2⟩ := ih (i + 1) c.1 c.2.1 (acc ++ [(c.1 (i : Int)).getD 0]) (by omega) w1 (by simp [hal]) (fun t ht => by
          rw [hsnoc _ t ht]
          by_cases e : t = i
          · rw [if_pos e, e]
            cases e3 : c.1 (i : Int) with
            | none => exact absurd e3 w2
            | some v => rfl
          · rw [if_neg e, v2 _ (by rw [hacc t (by omega)]; simp)]
            exact hacc t (by omega))
        refine ⟨s, cc, Ev.congr (fun k => ?_) e1, e2⟩
        rw [stacksGo, hsd]
        simp only [v1, Option.bind_some]
        rfl
      | some ab =>
        obtain ⟨a, b⟩ := ab
        obtain ⟨n1, ⟨p, p1, p2⟩, q, q1, q2⟩ := v4 a b rfl
        obtain ⟨c1, c2⟩ := closeF_ev p1 q1 (by simp) (by simp) q2
        refine ⟨[], cycleOf (a :: p) (b :: q), Ev.congr (f := fun k => (closeF (slices_Reverse_int_int.f k) c.2.1 a b).bind fun cc => some (([] : List Int), cc)) (fun k => ?_) (Ev.bind (f := fun k cc => some (([] : List Int), cc)) c1 (Ev.now _)), .inr ⟨rfl, c2, n1⟩⟩
        rw [stacksGo, hsd]
        simp only [v1, Option.bind_some]
/-- What Stacks answers for an order. -/
theorem Stacks_ev (l : List Int) (h : IsOrd l) (hl : l.length ≤ 60) : ∃ s c, Ev (fun k => shunt_Stacks.f k l) (s, c, 0) ∧ ((c = [] ∧ s.length = l.length ∧ SidesOk l s) ∨ (s = [] ∧ c ≠ [] ∧ ¬ TwoCol l)) := by
  obtain ⟨near, n1, n2⟩ := conflicts_ev l h.1 hl
  obtain ⟨s, c, e1, e2⟩ := stacksGo_ok hl n2 l.length 0 (fun _ => none) (fun _ => none) [] (by omega) ⟨fun x v hx => (by cases hx), fun y v hy => (by cases hy), fun y => Iff.rfl⟩ rfl (fun t ht => by omega)
  refine ⟨s, c, Ev.congr (f := fun k => (shunt_conflicts.f k l).bind fun near => (stacksGo (slices_Reverse_int_int.f k) near l.length 0 (fun _ => none) (fun _ => none) []).bind fun p => some (p.1, p.2, 0)) (fun k => ?_) ?_, e2⟩
  · unfold shunt_Stacks.f
    rw [if_pos ((isOrderB_iff l).2 ⟨hl, h⟩)]
  · refine Ev.bind (f := fun k near => (stacksGo (slices_Reverse_int_int.f k) near l.length 0 (fun _ => none) (fun _ => none) []).bind fun p => some (p.1, p.2, (0 : Int))) n1 ?_
    exact Ev.bind (f := fun k (p : List Int × List Int) => some (p.1, p.2, (0 : Int))) e1 (Ev.now _)
theorem Stacks_no (l : List Int) (h : ¬ (l.length ≤ 60 ∧ IsOrd l)) (k : Nat) : shunt_Stacks.f k l = some ([], [], 2) := by
  unfold shunt_Stacks.f
  rw [if_neg (fun h' => h ((isOrderB_iff l).1 h'))]
end Go.Proofs.Ytjbjongahnocdaa.P

/- Passes: a pass moves the greatest item to the end, and enough passes sort. -/
namespace Go.Proofs.Ytjbjongahnocdaa.P
open Go.RowKit Go.Proofs.Ytjbjongahnocdaa.S Go.Proofs.Ytjbjongahnocdaa.Defs Go.Proofs.YtjbjongahnocdaaW.PrintWords

theorem passIn_perm (x : Int) : ∀ s lft : List Int, ((passIn x s lft).2 ++ (passIn x s lft).1).Perm (lft ++ s)
  | [], lft => by simp [passIn]
  | t :: s, lft => by
    unfold passIn
    split
    · refine (passIn_perm x s (lft ++ [t])).trans ?_
      rw [List.append_assoc]
      exact List.Perm.refl _
    · exact List.Perm.refl _
theorem passGo_perm : ∀ xs s lft : List Int, ((passGo xs (s, lft)).2 ++ (passGo xs (s, lft)).1).Perm (lft ++ s ++ xs)
  | [], s, lft => by simp [passGo]
  | x :: xs, s, lft => by
    unfold passGo
    refine (passGo_perm xs _ _).trans ?_
    have := passIn_perm x s lft
    rw [show lft ++ s ++ x :: xs = (lft ++ s ++ [x]) ++ xs by simp]
    refine List.Perm.append_right xs ?_
    refine List.perm_middle.trans ?_
    exact (List.Perm.cons x this).trans (List.perm_append_singleton x _).symm
theorem passOut_perm (l : List Int) : (passOut l).Perm l := by
  have := passGo_perm l [] []
  simpa [passOut] using this
theorem passOut_ord {l : List Int} (h : IsOrd l) : IsOrd (passOut l) := by
  have hp := passOut_perm l
  exact ⟨hp.nodup_iff.2 h.1, fun x hx => by rw [passOut_len]; exact h.2 x (hp.mem_iff.1 hx)⟩

theorem passGo_append : ∀ (a b : List Int) (st : List Int × List Int), passGo (a ++ b) st = passGo b (passGo a st)
  | [], b, st => rfl
  | x :: a, b, (s, lft) => by
    rw [List.cons_append, passGo, passGo_append a b]
    rfl
theorem passIn_all (x : Int) : ∀ s lft : List Int, (∀ t ∈ s, t < x) → passIn x s lft = ([], lft ++ s)
  | [], lft, _ => by simp [passIn]
  | t :: s, lft, h => by
    rw [passIn, if_pos (h t (by simp)), passIn_all x s _ (fun u hu => h u (List.mem_cons_of_mem _ hu)), List.append_assoc]
    rfl
theorem pass_tail : ∀ (b s lft : List Int), Asc b → (∀ t ∈ s, ∀ y ∈ b, t < y) → (passGo b (s, lft)).2 ++ (passGo b (s, lft)).1 = lft ++ s ++ b
  | [], s, lft, _, _ => by simp [passGo]
  | y :: b, s, lft, hb, h => by
    obtain ⟨h1, h2⟩ := (asc_cons y b).1 hb
    rw [passGo, passIn_all y s lft (fun t ht => h t ht y (by simp))]
    rw [pass_tail b [y] (lft ++ s) h2 (fun t ht u hu => by
      rw [List.mem_singleton] at ht
      subst ht
      exact h1 u hu)]
    simp
theorem passIn_bottom (q m : Int) (hq : q < m) : ∀ s lft : List Int, passIn q (s ++ [m]) lft = ((passIn q s lft).1 ++ [m], (passIn q s lft).2)
  | [], lft => by
    show passIn q [m] lft = ([] ++ [m], lft)
    simp only [passIn]
    rw [if_neg (by omega)]
    rfl
  | t :: s, lft => by
    rw [List.cons_append, passIn, passIn]
    split
    · exact passIn_bottom q m hq s _
    · rfl
theorem passGo_bottom (m : Int) : ∀ (q s lft : List Int), (∀ x ∈ q, x < m) → passGo q (s ++ [m], lft) = ((passGo q (s, lft)).1 ++ [m], (passGo q (s, lft)).2)
  | [], s, lft, _ => rfl
  | x :: q, s, lft, h => by
    rw [passGo, passGo, passIn_bottom x m (h x (by simp))]
    exact passGo_bottom m q (x :: (passIn x s lft).1) _ (fun y hy => h y (List.mem_cons_of_mem _ hy))
theorem passIn_left (x : Int) (a : List Int) : ∀ s lft : List Int, passIn x s (a ++ lft) = ((passIn x s lft).1, a ++ (passIn x s lft).2)
  | [], lft => by simp [passIn]
  | t :: s, lft => by
    rw [passIn, passIn]
    split
    · rw [List.append_assoc]
      exact passIn_left x a s _
    · rfl
theorem passGo_left (a : List Int) : ∀ (q s lft : List Int), passGo q (s, a ++ lft) = ((passGo q (s, lft)).1, a ++ (passGo q (s, lft)).2)
  | [], s, lft => rfl
  | x :: q, s, lft => by
    rw [passGo, passGo, passIn_left]
    exact passGo_left a q _ _

theorem passOut_max (p q : List Int) (m : Int) (hp : ∀ x ∈ p, x < m) (hq : ∀ x ∈ q, x < m) : passOut (p ++ m :: q) = passOut p ++ passOut q ++ [m] := by
  unfold passOut
  rw [passGo_append]
  obtain ⟨s1, l1, e⟩ : ∃ s1 l1, passGo p ([], []) = (s1, l1) := ⟨_, _, rfl⟩
  have hm : ∀ t ∈ s1, t < m := fun t ht => by
    have := (passGo_perm p [] []).mem_iff (a := t)
    rw [e] at this
    exact hp t (by simpa using this.1 (List.mem_append_right _ ht))
  rw [e, passGo, passIn_all m s1 l1 hm]
  have h1 := passGo_bottom m q [] (l1 ++ s1) hq
  have h2 := passGo_left (l1 ++ s1) q [] []
  rw [List.append_nil] at h2
  rw [List.nil_append, h2] at h1
  show (passGo q ([m], l1 ++ s1)).2 ++ (passGo q ([m], l1 ++ s1)).1 = _
  rw [h1]
  simp
theorem passOut_tail (a b : List Int) (hb : Asc b) (h : ∀ x ∈ a, ∀ y ∈ b, x < y) : passOut (a ++ b) = passOut a ++ b := by
  unfold passOut
  rw [passGo_append]
  obtain ⟨s1, l1, e⟩ : ∃ s1 l1, passGo a ([], []) = (s1, l1) := ⟨_, _, rfl⟩
  rw [e, pass_tail b s1 l1 hb]
  intro t ht
  have := (passGo_perm a [] []).mem_iff (a := t)
  rw [e] at this
  exact h t (by simpa using this.1 (List.mem_append_right _ ht))

theorem exists_max : ∀ (a : List Int), a ≠ [] → a.Nodup → ∃ p m q, a = p ++ m :: q ∧ (∀ x ∈ p, x < m) ∧ ∀ x ∈ q, x < m
  | [], h, _ => absurd rfl h
  | x :: a, _, hn => by
    obtain ⟨n1, n2⟩ := List.nodup_cons.1 hn
    by_cases ha : a = []
    · subst ha
      exact ⟨[], x, [], rfl, by simp, by simp⟩
    · obtain ⟨p, m, q, e, h1, h2⟩ := exists_max a ha n2
      have hxm : x ≠ m := fun e' => n1 (by rw [e, e']; simp)
      by_cases c : x < m
      · refine ⟨x :: p, m, q, by rw [e]; rfl, fun y hy => ?_, h2⟩
        rcases List.mem_cons.1 hy with rfl | hy
        · exact c
        · exact h1 y hy
      · refine ⟨[], x, a, rfl, by simp, fun y hy => ?_⟩
        rw [e] at hy
        rcases List.mem_append.1 hy with hy | hy
        · have := h1 y hy
          omega
        · rcases List.mem_cons.1 hy with rfl | hy
          · omega
          · have := h2 y hy
            omega

/-- The greatest i items (or all) stand in place at the end. -/
def Placed (i : Nat) (l : List Int) : Prop := ∃ a b, l = a ++ b ∧ Asc b ∧ (∀ x ∈ a, ∀ y ∈ b, x < y) ∧ (a = [] ∨ i ≤ b.length)
theorem placed_step {i : Nat} {l : List Int} (hn : l.Nodup) (h : Placed i l) : Placed (i + 1) (passOut l) := by
  obtain ⟨a, b, e, h1, h2, h3⟩ := h
  subst e
  rw [passOut_tail a b h1 h2]
  by_cases ha : a = []
  · subst ha
    exact ⟨[], b, rfl, h1, by simp, .inl rfl⟩
  · obtain ⟨p, m, q, e, k1, k2⟩ := exists_max a ha (List.nodup_append.1 hn).1
    subst e
    rw [passOut_max p q m k1 k2, List.append_assoc]
    refine ⟨passOut p ++ passOut q, m :: b, rfl, (asc_cons m b).2 ⟨fun y hy => h2 m (by simp) y hy, h1⟩, fun x hx y hy => ?_, .inr ?_⟩
    · have hx' : x < m ∧ x ∈ p ++ m :: q := by
        rcases List.mem_append.1 hx with hx | hx
        · have := (passOut_perm p).mem_iff.1 hx
          exact ⟨k1 x this, by simp [this]⟩
        · have := (passOut_perm q).mem_iff.1 hx
          exact ⟨k2 x this, by simp [this]⟩
      rcases List.mem_cons.1 hy with rfl | hy
      · exact hx'.1
      · exact h2 x hx'.2 y hy
    · rcases h3 with h3 | h3
      · simp at h3
      · simp; omega
theorem placed_asc {l : List Int} (h : Placed l.length l) : Asc l := by
  obtain ⟨a, b, e, h1, h2, h3⟩ := h
  have : a = [] := by
    rcases h3 with h3 | h3
    · exact h3
    · have := congrArg List.length e
      rw [List.length_append] at this
      exact List.eq_nil_of_length_eq_zero (by omega)
  subst this
  rw [e]
  exact h1
theorem placed_last {l : List Int} (hn : IsOrd l) (h : Placed 1 l) (hl : 0 < l.length) : rd l ((l.length : Int) - 1) = l.length := by
  obtain ⟨a, b, e, h1, h2, h3⟩ := h
  have hb : b ≠ [] := by
    rintro rfl
    rcases h3 with h3 | h3
    · subst h3; subst e; simp at hl
    · simp at h3
  have hm := full_range l.length l 0 hn.1 (fun x hx => by have := hn.2 x hx; omega) rfl (l.length : Int) (by omega) (by omega)
  obtain ⟨b', m, rfl⟩ : ∃ b' m, b = b' ++ [m] := ⟨b.dropLast, b.getLast hb, (List.dropLast_concat_getLast hb).symm⟩
  subst e
  have hr : rd (a ++ (b' ++ [m])) (((a ++ (b' ++ [m])).length : Int) - 1) = m := by
    rw [show (((a ++ (b' ++ [m])).length : Int) - 1) = ((a.length + b'.length : Nat) : Int) by simp; omega, rd_nat, List.getD_eq_getElem?_getD, List.getElem?_append_right (by omega), List.getElem?_append_right (by omega)]
    have : a.length + b'.length - a.length - b'.length = 0 := by omega
    rw [this]
    rfl
  rw [hr]
  have hle := (hn.2 m (by simp)).2
  rcases List.mem_append.1 hm with hm' | hm'
  · have := h2 _ hm' m (by simp)
    omega
  · rcases List.mem_append.1 hm' with hm' | hm'
    · have := ((asc_append b' [m]).1 h1).2.2 _ hm' m (by simp)
      omega
    · rw [List.mem_singleton] at hm'
      omega
theorem asc_ord {l : List Int} (h : IsOrd l) (ha : Asc l) : l = (List.range l.length).map (fun i => ((i : Nat) : Int) + 1) := by
  have := asc_range l 0 ha (fun t ht => by have := h.2 t ht; omega)
  refine this.trans (List.map_congr_left fun i _ => by omega)
theorem asc_rd {l : List Int} (h : IsOrd l) (ha : Asc l) (i : Nat) (hi : i < l.length) : rd l (i : Int) = (i : Int) + 1 := by
  have := asc_ord h ha
  rw [rd_nat, this, List.getD_eq_getElem?_getD, List.getElem?_map]
  simp [hi]

end Go.Proofs.Ytjbjongahnocdaa.P

/- What Stack and Pass answer for an order. -/
namespace Go.Proofs.Ytjbjongahnocdaa.P
open Go.RowKit Go.Proofs.Ytjbjongahnocdaa.S Go.Proofs.Ytjbjongahnocdaa.Defs Go.Proofs.YtjbjongahnocdaaW.PrintWords

theorem Pass_f (l : List Int) (h : IsOrd l) (hl : l.length ≤ 60) : shunt_Pass.f l = some (passOut l, 0) := by
  unfold shunt_Pass.f
  rw [if_pos ((isOrderB_iff l).2 ⟨hl, h⟩)]
  rfl
theorem Pass_no (l : List Int) (h : ¬ (l.length ≤ 60 ∧ IsOrd l)) : shunt_Pass.f l = some ([], 2) := by
  unfold shunt_Pass.f
  rw [if_neg (fun h' => h ((isOrderB_iff l).1 h'))]

/-- Stack's answer for an order: the plan of what it did, or a block. -/
theorem Stack_ev (l : List Int) (h : IsOrd l) (hl : l.length ≤ 60) : ∃ p b, Ev (fun k => shunt_Stack.f k l) (p, b, 0) ∧ ((No231 l ∧ b = [] ∧ p = strOfNums (stackGo l ([], [], [])).2.2) ∨ (¬ No231 l ∧ p = ⟨#[]⟩ ∧ BlockOf l b ∧ b ≠ [])) := by
  have hb : isOrderB l = true := (isOrderB_iff l).2 ⟨hl, h⟩
  have hf := stack_full l h
  by_cases hn : No231 l
  · refine ⟨_, _, Ev.congr (fun k => ?_) (Ev.now _), .inl ⟨hn, rfl, rfl⟩⟩
    unfold shunt_Stack.f
    rw [if_pos hb, if_neg (by rw [hf.2 hn]; omega)]
  · obtain ⟨r, h1, h2⟩ := block_ev l (by omega)
    have hlt : (stackGo l ([], [], [])).2.1.length < l.length := by
      have hne : (stackGo l ([], [], [])).2.1.length ≠ l.length := fun e => hn (hf.1 e)
      have hle := stackGo_le l ([], [], [])
      simp at hle
      omega
    refine ⟨⟨#[]⟩, r, Ev.congr (f := fun k => (shunt_block.f k l).bind fun b => some (⟨#[]⟩, b, 0)) (fun k => ?_) (Ev.bind (f := fun _ b => some ((⟨#[]⟩ : ByteArray), b, (0 : Int))) h1 (Ev.now _)), .inr ⟨hn, rfl, h2, fun e => hn ((blockOf_nil h2 h.1).1 e)⟩⟩
    unfold shunt_Stack.f
    rw [if_pos hb, if_pos hlt]
theorem Stack_no (l : List Int) (h : ¬ (l.length ≤ 60 ∧ IsOrd l)) : Ev (fun k => shunt_Stack.f k l) (⟨#[]⟩, [], 2) := by
  refine Ev.congr (fun k => ?_) (Ev.now _)
  unfold shunt_Stack.f
  rw [if_neg (fun h' => h ((isOrderB_iff l).1 h'))]

end Go.Proofs.Ytjbjongahnocdaa.P

/- The least number of queues: what places and least compute is the length of the longest descending choice of positions. -/
namespace Go.Proofs.Ytjbjongahnocdaa.P
open Go.RowKit Go.Proofs.Ytjbjongahnocdaa.S Go.Proofs.Ytjbjongahnocdaa.Defs Go.Proofs.YtjbjongahnocdaaW.PrintWords Go.Proofs.YtjbjongahnocdaaW.PrintLast Go.Proofs.YtjbjongahnocdaaW.PrintMore

def qAt (out : List (Int × Int)) (j : Nat) : Int := (out.getD j (0, 0)).1
def bfAt (out : List (Int × Int)) (j : Nat) : Int := (out.getD j (0, 0)).2
theorem getD_old {α : Type} (out : List α) (p d : α) (j : Nat) (h : j < out.length) : (out ++ [p]).getD j d = out.getD j d := by
  simp [List.getElem?_append, h]
theorem getD_new {α : Type} (out : List α) (p d : α) : (out ++ [p]).getD out.length d = p := by
  simp

/-- What holds of the queues when i items have been placed. -/
structure Inv (l : List Int) (i : Nat) (last : List Int) (out : List (Int × Int)) : Prop where
  len : out.length = i
  le : i ≤ l.length
  qr : ∀ j, j < i → 0 ≤ qAt out j ∧ qAt out j < last.length
  lr : ∀ c : Nat, c < last.length → ∃ p : Nat, last.getD c 0 = (p : Int) ∧ p < i ∧ qAt out p = (c : Int)
  top : ∀ j c p : Nat, j < i → c < last.length → qAt out j = (c : Int) → last.getD c 0 = (p : Int) → rd l j ≤ rd l p
  inc : ∀ j j' : Nat, j < j' → j' < i → qAt out j = qAt out j' → rd l j < rd l j'
  ch : ∀ j : Nat, j < i → 0 < qAt out j → ∃ b : Nat, bfAt out j = (b : Int) ∧ b < j ∧ qAt out b = qAt out j - 1 ∧ rd l j < rd l b
  no : ∀ j, j < i → qAt out j = 0 → bfAt out j = -1

theorem rd_inj {l : List Int} (h : l.Nodup) {i j : Nat} (hi : i < l.length) (hj : j < l.length) (e : rd l i = rd l j) : i = j := by
  rw [rd_lt l i hi, rd_lt l j hj] at e
  have hp := List.pairwise_iff_getElem.1 h
  rcases Nat.lt_trichotomy i j with c | c | c
  · exact absurd e (hp i j hi hj c)
  · exact c
  · exact absurd e.symm (hp j i hj hi c)

theorem inv_step (l : List Int) (hd : l.Nodup) (i : Nat) (hi : i < l.length) (last : List Int) (out : List (Int × Int)) (h : Inv l i last out) :
    Inv l (i + 1) ((lastFor l last (rd l i) i).set (placeQ l last (rd l i)) i) (out ++ [((placeQ l last (rd l i) : Int), beforeOf (lastFor l last (rd l i) i) (placeQ l last (rd l i)))]) := by
  obtain ⟨c0, hc0⟩ : ∃ c0, c0 = placeQ l last (rd l i) := ⟨_, rfl⟩
  have hle : c0 ≤ last.length := by rw [hc0]; exact List.findIdx_le_length
  have hlt : c0 < last.length → rd l (last.getD c0 0) < rd l i := by
    intro c
    have := List.findIdx_getElem (p := fun k : Int => decide (l.getD k.toNat 0 < rd l i)) (xs := last) (w := by rw [hc0] at c; exact c)
    rw [decide_eq_true_eq] at this
    have e : last.getD c0 0 = last[c0] := by simp [c]
    rw [e]
    subst hc0
    exact this
  have hge : ∀ c, c < c0 → ¬ rd l (last.getD c 0) < rd l i := by
    intro c hc
    have hcl : c < last.length := by omega
    have := List.not_of_lt_findIdx (p := fun k : Int => decide (l.getD k.toNat 0 < rd l i)) (xs := last) (i := c) (by rw [hc0] at hc; exact hc)
    rw [Bool.eq_false_iff, ne_eq, decide_eq_true_eq] at this
    have e : last.getD c 0 = last[c] := by simp [hcl]
    rw [e]
    exact this
  obtain ⟨L, hL⟩ : ∃ L, L = (lastFor l last (rd l i) i).set (placeQ l last (rd l i)) i := ⟨_, rfl⟩
  obtain ⟨b, hb⟩ : ∃ b, b = beforeOf (lastFor l last (rd l i) i) (placeQ l last (rd l i)) := ⟨_, rfl⟩
  have hLf : lastFor l last (rd l i) i = if c0 < last.length then last else last ++ [(i : Int)] := by rw [hc0]; rfl
  have hLl : L.length = if c0 < last.length then last.length else last.length + 1 := by
    rw [hL, List.length_set, hLf]
    split <;> simp
  have hLc : L.getD c0 0 = (i : Int) := by
    have : c0 < (lastFor l last (rd l i) i).length := by
      rw [hLf]; split
      · assumption
      · simp; omega
    rw [hL, ← hc0]
    simp [this]
  have hLo : ∀ c, c ≠ c0 → c < L.length → c < last.length ∧ L.getD c 0 = last.getD c 0 := by
    intro c hc hcl
    rw [hLl] at hcl
    have hcl' : c < last.length := by
      split at hcl
      · exact hcl
      · omega
    refine ⟨hcl', ?_⟩
    rw [hL, ← hc0, hLf]
    simp only [List.getD_eq_getElem?_getD, List.getElem?_set]
    rw [if_neg (by omega)]
    split
    · rfl
    · rw [List.getElem?_append_left hcl']
  have hbz : c0 = 0 → b = -1 := by
    intro e
    rw [hb, ← hc0]
    unfold beforeOf
    rw [if_pos e]
  have hbp : 0 < c0 → b = last.getD (c0 - 1) 0 := by
    intro e
    rw [hb, ← hc0]
    unfold beforeOf
    rw [if_neg (by omega), hLf]
    split
    · rfl
    · rw [getD_old _ _ _ _ (by omega)]
  rw [← hL, ← hb, ← hc0]
  clear hL hb hLf hc0
  have hlen := h.len
  have qo : ∀ j, j < i → qAt (out ++ [((c0 : Int), b)]) j = qAt out j := fun j hj => by unfold qAt; rw [getD_old _ _ _ _ (by omega)]
  have bo : ∀ j, j < i → bfAt (out ++ [((c0 : Int), b)]) j = bfAt out j := fun j hj => by unfold bfAt; rw [getD_old _ _ _ _ (by omega)]
  have qn : qAt (out ++ [((c0 : Int), b)]) i = c0 := by unfold qAt; rw [← hlen, getD_new]
  have bn : bfAt (out ++ [((c0 : Int), b)]) i = b := by unfold bfAt; rw [← hlen, getD_new]
  have hcL : c0 < L.length := by rw [hLl]; split <;> omega
  have hLL : last.length ≤ L.length := by rw [hLl]; split <;> omega
  refine ⟨by simp [hlen], hi, ?_, ?_, ?_, ?_, ?_, ?_⟩
  · intro j hj
    by_cases e : j = i
    · subst e; rw [qn]; omega
    · rw [qo j (by omega)]
      have := h.qr j (by omega)
      omega
  · intro c hc
    by_cases e : c = c0
    · subst e; exact ⟨i, hLc, by omega, qn⟩
    · obtain ⟨h1, h2⟩ := hLo c e hc
      obtain ⟨p, p1, p2, p3⟩ := h.lr c h1
      exact ⟨p, by rw [h2, p1], by omega, by rw [qo p p2, p3]⟩
  · intro j c p hj hc hq hp
    by_cases e : c = c0
    · subst e
      rw [hLc] at hp
      obtain rfl : i = p := by omega
      by_cases e : j = i
      · subst e; exact Int.le_refl _
      · rw [qo j (by omega)] at hq
        have r := (h.qr j (by omega)).2
        have hcl : c < last.length := by omega
        obtain ⟨p, p1, p2, p3⟩ := h.lr c hcl
        have t := h.top j c p (by omega) hcl hq p1
        have := hlt hcl
        rw [p1] at this
        omega
    · obtain ⟨h1, h2⟩ := hLo c e hc
      rw [h2] at hp
      have hji : j ≠ i := by
        intro e'
        subst e'
        rw [qn] at hq
        omega
      rw [qo j (by omega)] at hq
      exact h.top j c p (by omega) h1 hq hp
  · intro j j' hj hj' hq
    by_cases e : j' = i
    · subst e
      rw [qn, qo j hj] at hq
      have r := (h.qr j hj).2
      have hcl : c0 < last.length := by omega
      obtain ⟨p, p1, p2, p3⟩ := h.lr c0 hcl
      have t := h.top j c0 p hj hcl hq p1
      have := hlt hcl
      rw [p1] at this
      omega
    · rw [qo j (by omega), qo j' (by omega)] at hq
      exact h.inc j j' hj (by omega) hq
  · intro j hj hq
    by_cases e : j = i
    · subst e
      rw [qn] at hq
      have hcl : c0 - 1 < last.length := by omega
      obtain ⟨p, p1, p2, p3⟩ := h.lr (c0 - 1) hcl
      have n := hge (c0 - 1) (by omega)
      rw [p1] at n
      have ne : rd l p ≠ rd l j := fun e => by
        have := rd_inj hd (by omega) hi e
        omega
      refine ⟨p, by rw [bn, hbp (by omega), p1], p2, ?_, by omega⟩
      rw [qo p p2, qn, p3]
      omega
    · rw [qo j (by omega)] at hq ⊢
      obtain ⟨b', b1, b2, b3, b4⟩ := h.ch j (by omega) hq
      exact ⟨b', by rw [bo j (by omega), b1], b2, by rw [qo b' (by omega), b3], b4⟩
  · intro j hj hq
    by_cases e : j = i
    · subst e
      rw [qn] at hq
      rw [bn, hbz (by omega)]
    · rw [qo j (by omega)] at hq
      rw [bo j (by omega)]
      exact h.no j (by omega) hq

theorem placesGo_inv (l : List Int) (hd : l.Nodup) (d : Nat) : ∀ (i : Nat) (last : List Int) (out : List (Int × Int)), i + d = l.length → Inv l i last out → ∃ last', Inv l l.length last' (placesGo l (l.drop i) (i : Int) last out) := by
  induction d with
  | zero =>
    intro i last out h hv
    obtain rfl : i = l.length := by omega
    rw [List.drop_length]
    exact ⟨last, hv⟩
  | succ d ih =>
    intro i last out h hv
    rw [drop_cons l i (by omega)]
    exact ih (i + 1) _ _ (by omega) (inv_step l hd i (by omega) last out hv)
theorem places_inv (l : List Int) (hd : l.Nodup) : ∃ last, Inv l l.length last (placesB l) :=
  placesGo_inv l hd l.length 0 [] [] (by omega) ⟨rfl, Nat.zero_le _, fun _ h => by omega, fun _ h => absurd h (Nat.not_lt_zero _), fun _ _ _ h => by omega, fun _ _ _ h => by omega, fun _ h => by omega, fun _ h => by omega⟩

/-- Positions of descending items. -/
def Desc (l : List Int) (ps : List Nat) : Prop := ps.Pairwise (fun a b : Nat => a < b ∧ rd l (b : Int) < rd l (a : Int)) ∧ ∀ p ∈ ps, p < l.length
def LeastIs (l : List Int) (r : Int) : Prop := 1 ≤ r ∧ (∀ ps, Desc l ps → (ps.length : Int) ≤ r) ∧ (r = 1 ∨ ∃ ps, Desc l ps ∧ (ps.length : Int) = r)
theorem least_unique {l : List Int} {r s : Int} (h : LeastIs l r) (h' : LeastIs l s) : r = s := by
  obtain ⟨a1, a2, a3⟩ := h
  obtain ⟨b1, b2, b3⟩ := h'
  have x : r ≤ s := by
    rcases a3 with rfl | ⟨ps, p1, p2⟩
    · exact b1
    · have := b2 ps p1; omega
  have y : s ≤ r := by
    rcases b3 with rfl | ⟨ps, p1, p2⟩
    · exact a1
    · have := a2 ps p1; omega
  omega
theorem least_move {l l' : List Int} {r : Int} (h1 : ∀ ps, Desc l ps → ∃ qs, Desc l' qs ∧ qs.length = ps.length) (h2 : ∀ ps, Desc l' ps → ∃ qs, Desc l qs ∧ qs.length = ps.length) (h : LeastIs l r) : LeastIs l' r := by
  obtain ⟨a1, a2, a3⟩ := h
  refine ⟨a1, fun ps hp => ?_, ?_⟩
  · obtain ⟨qs, q1, q2⟩ := h2 ps hp
    have := a2 qs q1
    omega
  · rcases a3 with rfl | ⟨ps, p1, p2⟩
    · exact .inl rfl
    · obtain ⟨qs, q1, q2⟩ := h1 ps p1
      exact .inr ⟨qs, q1, by omega⟩

theorem chain_at {l : List Int} {i : Nat} {last : List Int} {out : List (Int × Int)} (h : Inv l i last out) : ∀ (c j : Nat), j < i → qAt out j = (c : Int) → ∃ ps, Desc l (ps ++ [j]) ∧ ps.length = c := by
  intro c
  induction c with
  | zero =>
    intro j hj _
    have := h.le
    exact ⟨[], ⟨by simp, by simp; omega⟩, rfl⟩
  | succ c ih =>
    intro j hj hq
    obtain ⟨b, _, b2, b3, b4⟩ := h.ch j hj (by omega)
    obtain ⟨ps, ⟨p1, p2⟩, p3⟩ := ih b (by omega) (by omega)
    have := h.le
    refine ⟨ps ++ [b], ⟨?_, ?_⟩, by simp [p3]⟩
    · rw [List.pairwise_append]
      refine ⟨p1, by simp, ?_⟩
      intro a ha x hx
      rw [List.mem_singleton] at hx
      subst hx
      rw [List.pairwise_append] at p1
      rcases List.mem_append.1 ha with ha | ha
      · have := p1.2.2 a ha b (by simp)
        omega
      · rw [List.mem_singleton] at ha
        subst ha
        omega
    · intro p hp
      rcases List.mem_append.1 hp with hp | hp
      · exact p2 p hp
      · rw [List.mem_singleton] at hp
        omega

theorem desc_nodup {l : List Int} {last : List Int} {out : List (Int × Int)} (h : Inv l l.length last out) {ps : List Nat} (hp : Desc l ps) : (ps.map (qAt out)).Nodup := by
  unfold List.Nodup
  rw [List.pairwise_map]
  refine List.Pairwise.imp_of_mem ?_ hp.1
  intro a b ha hb hab e
  have := h.inc a b hab.1 (hp.2 b hb) e
  omega

theorem least_loop (out : List (Int × Int)) (hl : out.length ≤ 60) (hq : ∀ j, j < out.length → 0 ≤ qAt out j ∧ qAt out j < 60) (d : Nat) : ∀ (i : Nat) (m : Int), i + d = out.length → 1 ≤ m → m ≤ 60 → (∀ j, j < i → qAt out j + 1 ≤ m) → (m = 1 ∨ ∃ j, j < i ∧ m = qAt out j + 1) →
    ∃ r, Ev (fun k => shunt_least.l0 k m (out.map plPlace) (out.length : Int) (i : Int)) r ∧ 1 ≤ r ∧ (∀ j, j < out.length → qAt out j + 1 ≤ r) ∧ (r = 1 ∨ ∃ j, j < out.length ∧ r = qAt out j + 1) := by
  induction d with
  | zero =>
    intro i m h h1 _ h2 h3
    obtain rfl : i = out.length := by omega
    refine ⟨m, Ev.step (f := fun _ => some m) (fun k => ?_) (Ev.now _), h1, h2, h3⟩
    simp only [shunt_least.l0]
    rw [if_neg (by omega)]
  | succ d ih =>
    intro i m h h1 hm h2 h3
    have hr := hq i (by omega)
    have w : wrap64 ((i : Int) + 1) = ((i + 1 : Nat) : Int) := by rw [w64 (by omega) (by omega)]; rfl
    have e : (rd_T82 (out.map plPlace) (i : Int)).f0 = qAt out i := by
      have hi : i < out.length := by omega
      unfold rd_T82 qAt
      simp [plPlace, hi]
    have w2 : wrap64 (qAt out i + 1) = qAt out i + 1 := w64 (by omega) (by omega)
    have step : ∀ r, Ev (fun k => shunt_least.l0 k (mx m (qAt out i + 1)) (out.map plPlace) (out.length : Int) ((i + 1 : Nat) : Int)) r → Ev (fun k => shunt_least.l0 k m (out.map plPlace) (out.length : Int) (i : Int)) r := by
      intro r hr
      refine Ev.step (fun k => ?_) hr
      simp only [shunt_least.l0]
      rw [if_pos (by omega), if_pos (by omega), if_pos (by rw [List.length_map]; omega), e, w2, w]
    by_cases c : m < qAt out i + 1
    · have em : mx m (qAt out i + 1) = qAt out i + 1 := by unfold mx; rw [if_pos c]
      rw [em] at step
      obtain ⟨r, r1, r2⟩ := ih (i + 1) (qAt out i + 1) (by omega) (by omega) (by omega) (fun j hj => by
        by_cases e : j = i
        · subst e; omega
        · have := h2 j (by omega); omega) (.inr ⟨i, by omega, rfl⟩)
      exact ⟨r, step r r1, r2⟩
    · have em : mx m (qAt out i + 1) = m := by unfold mx; rw [if_neg c]
      rw [em] at step
      obtain ⟨r, r1, r2⟩ := ih (i + 1) m (by omega) (by omega) (by omega) (fun j hj => by
        by_cases e : j = i
        · subst e; omega
        · exact h2 j (by omega)) (by
          rcases h3 with h3 | ⟨j, j1, j2⟩
          · exact .inl h3
          · exact .inr ⟨j, by omega, j2⟩)
      exact ⟨r, step r r1, r2⟩

theorem last_le {l : List Int} {last : List Int} {out : List (Int × Int)} {i : Nat} (h : Inv l i last out) : last.length ≤ i := by
  have hd : (((List.range last.length).map (fun c => last.getD c 0))).Nodup := by
    unfold List.Nodup
    rw [List.pairwise_map]
    refine List.Pairwise.imp_of_mem ?_ List.pairwise_lt_range
    intro a b ha hb hab e
    rw [List.mem_range] at ha hb
    obtain ⟨p, p1, _, p3⟩ := h.lr a ha
    obtain ⟨q, q1, _, q3⟩ := h.lr b hb
    have : p = q := by omega
    subst this
    omega
  have := nodup_len i _ (-1) hd (fun a ha => by
    obtain ⟨c, c1, c2⟩ := List.mem_map.1 ha
    rw [List.mem_range] at c1
    obtain ⟨p, p1, p2, _⟩ := h.lr c c1
    omega)
  simpa using this

theorem Least_ev (l : List Int) (h : IsOrd l) (hl : l.length ≤ 60) : ∃ r, Ev (fun k => shunt_Least.f k l) (r, 0) ∧ LeastIs l r := by
  obtain ⟨last, hv⟩ := places_inv l h.1
  have hll := last_le hv
  have hlen := hv.len
  obtain ⟨r, r1, r2, r3, r4⟩ := least_loop (placesB l) (by omega) (fun j hj => by have := hv.qr j (by omega); omega) (placesB l).length 0 1 (by omega) (by omega) (by omega) (fun j hj => by omega) (.inl rfl)
  refine ⟨r, ?_, r2, ?_, ?_⟩
  · refine Ev.congr (f := fun k => (shunt_least.f k ((placesB l).map plPlace)).bind fun t131 => some (t131, 0)) (fun k => ?_) ?_
    · unfold shunt_Least.f shunt_isOrder.f
      simp only [Option.bind_some]
      rw [if_pos ((isOrderB_iff l).2 ⟨hl, h⟩)]
      unfold shunt_places.f
      rw [if_pos hl]
      rfl
    · refine Ev.bind (f := fun _ (t131 : Int) => some (t131, (0 : Int))) ?_ (Ev.now _)
      unfold shunt_least.f
      rw [List.length_map]
      exact r1
  · intro ps hp
    have := nodup_len r.toNat (ps.map (qAt (placesB l))) (-1) (desc_nodup hv hp) (fun a ha => by
      obtain ⟨p, p1, p2⟩ := List.mem_map.1 ha
      have := hv.qr p (hp.2 p p1)
      have := r3 p (by have := hp.2 p p1; omega)
      omega)
    rw [List.length_map] at this
    omega
  · rcases r4 with r4 | ⟨j, j1, j2⟩
    · exact .inl r4
    · have hq := hv.qr j (by omega)
      obtain ⟨ps, p1, p2⟩ := chain_at hv (qAt (placesB l) j).toNat j (by omega) (by omega)
      exact .inr ⟨_, p1, by rw [List.length_append, p2]; simp; omega⟩
theorem Least_no (l : List Int) (h : ¬ (l.length ≤ 60 ∧ IsOrd l)) (k : Nat) : shunt_Least.f k l = some (0, 2) := by
  unfold shunt_Least.f shunt_isOrder.f
  simp only [Option.bind_some]
  rw [if_neg (fun h' => h ((isOrderB_iff l).1 h'))]
end Go.Proofs.Ytjbjongahnocdaa.P

/- The order that a statement makes of any list: the ranks of its numbers. -/
namespace Go.Proofs.Ytjbjongahnocdaa.P
open Go.RowKit Go.Proofs.Ytjbjongahnocdaa.S Go.Proofs.Ytjbjongahnocdaa.Defs Go.Proofs.YtjbjongahnocdaaW.PrintWords Go.Proofs.YtjbjongahnocdaaW.PrintMore

/-- The number at k stands before the number at i. -/
def pre (l : List Int) (i k : Nat) : Bool := decide (rd l k < rd l i) || (decide (rd l k = rd l i) && decide (k < i))
def rankAt (l : List Int) (n i : Nat) : Int := 1 + ((List.range n).countP (pre l i) : Nat)
def tameL (l : List Int) (n : Nat) : List Int := (List.range n).map (rankAt l n)

theorem pre_irrefl (l : List Int) (i : Nat) : pre l i i = false := by simp [pre]
theorem pre_trans (l : List Int) {i j k : Nat} (h1 : pre l i k = true) (h2 : pre l j i = true) : pre l j k = true := by
  simp [pre] at h1 h2 ⊢
  omega
theorem pre_total (l : List Int) {i j : Nat} (h : i ≠ j) : pre l i j = true ∨ pre l j i = true := by
  simp [pre]
  omega

theorem countP_lt {α : Type} (p q : α → Bool) : ∀ (l : List α), (∀ x ∈ l, p x = true → q x = true) → ∀ a ∈ l, q a = true → p a = false → l.countP p < l.countP q
  | [], _, a, ha, _, _ => by cases ha
  | x :: l, h, a, ha, hq, hp => by
    have hle : l.countP p ≤ l.countP q := List.countP_mono_left (fun y hy => h y (List.mem_cons_of_mem _ hy))
    rcases List.mem_cons.1 ha with rfl | ha
    · rw [List.countP_cons, List.countP_cons, hq, hp]
      simp
      omega
    · have := countP_lt p q l (fun y hy => h y (List.mem_cons_of_mem _ hy)) a ha hq hp
      have hx := h x (by simp)
      rw [List.countP_cons, List.countP_cons]
      cases hpx : p x with
      | true => rw [hx hpx]; simp; omega
      | false => simp; omega

theorem rank_lt (l : List Int) (n : Nat) {i j : Nat} (hi : i < n) (h : pre l j i = true) : rankAt l n i < rankAt l n j := by
  unfold rankAt
  have := countP_lt (pre l i) (pre l j) (List.range n) (fun k _ hk => pre_trans l hk h) i (by simpa using hi) h (pre_irrefl l i)
  omega
theorem rank_range (l : List Int) (n i : Nat) (hi : i < n) : 1 ≤ rankAt l n i ∧ rankAt l n i ≤ n := by
  unfold rankAt
  have := countP_lt (pre l i) (fun _ => true) (List.range n) (fun _ _ _ => rfl) i (by simpa using hi) rfl (pre_irrefl l i)
  have h2 : (List.range n).countP (fun _ => true) = n := by simp
  omega
theorem tameL_len (l : List Int) (n : Nat) : (tameL l n).length = n := by simp [tameL]
theorem tameL_ord (l : List Int) (n : Nat) : IsOrd (tameL l n) := by
  refine ⟨?_, fun x hx => ?_⟩
  · unfold tameL
    rw [List.Nodup, List.pairwise_map]
    refine List.Pairwise.imp_of_mem (R := fun a b => a ≠ b) (fun {a b} ha hb hab => ?_) List.nodup_range
    have ha' : a < n := by simpa using ha
    have hb' : b < n := by simpa using hb
    rcases pre_total l hab with h | h
    · have := rank_lt l n hb' h
      omega
    · have := rank_lt l n ha' h
      omega
  · obtain ⟨i, hi, rfl⟩ := List.mem_map.1 hx
    rw [tameL_len]
    exact rank_range l n i (by simpa using hi)

theorem tame_step (l : List Int) (n i : Nat) (out : List Int) (k : Nat) (r : Int) (hn : n ≤ l.length) (hi : i < n) (h : k < n) (q : Nat) (w1 : wrap64 (r + 1) = r + 1) (w2 : wrap64 ((k : Int) + 1) = ((k + 1 : Nat) : Int)) :
    tickinglaw02_tame.l1 (q + 1) l out (n : Int) (i : Int) r (k : Int) = tickinglaw02_tame.l1 q l out (n : Int) (i : Int) (if pre l i k = true then r + 1 else r) ((k + 1 : Nat) : Int) := by
  simp only [tickinglaw02_tame.l1]
  rw [if_pos (by omega), if_pos (by omega), if_pos (by omega), if_pos (by omega), if_pos (by omega), w1, w2]
  unfold pre
  by_cases c1 : rd l k < rd l i
  · rw [if_pos c1, decide_eq_true c1, Bool.true_or, if_pos rfl]
  · rw [if_neg c1, decide_eq_false c1, Bool.false_or]
    by_cases c2 : rd l k = rd l i
    · rw [if_pos c2, decide_eq_true c2, Bool.true_and]
      by_cases c3 : k < i
      · rw [if_pos (by omega), decide_eq_true c3, if_pos rfl]
      · rw [if_neg (by omega), decide_eq_false c3, if_neg (by decide)]
    · rw [if_neg c2, decide_eq_false c2, Bool.false_and, if_neg (by decide)]

def cnt (l : List Int) (i k : Nat) : Nat := (List.range k).countP (pre l i)
theorem cnt_le (l : List Int) (i k : Nat) : cnt l i k ≤ k := by
  have := List.countP_le_length (p := pre l i) (l := List.range k)
  simpa [cnt] using this
theorem cnt_succ (l : List Int) (i k : Nat) : cnt l i (k + 1) = cnt l i k + if pre l i k = true then 1 else 0 := by
  unfold cnt
  rw [List.range_succ, List.countP_append, List.countP_singleton]
theorem tame_l1 (l : List Int) (n i : Nat) (hn : n ≤ l.length) (hi : i < n) (hl : n ≤ 1000) (out : List Int) (R : List Int) (ho : out.length ≤ 1000)
    (hR : Ev (fun q => tickinglaw02_tame.l0 q l (out ++ [rankAt l n i]) (n : Int) ((i + 1 : Nat) : Int)) R) (d : Nat) : ∀ (k : Nat), k + d = n → Ev (fun q => tickinglaw02_tame.l1 q l out (n : Int) (i : Int) (1 + (cnt l i k : Int)) (k : Int)) R := by
  induction d with
  | zero =>
    intro k h
    obtain rfl : k = n := h
    have w2 : wrap64 ((i : Int) + 1) = ((i + 1 : Nat) : Int) := by rw [w64 (by omega) (by omega)]; rfl
    refine Ev.step (fun q => ?_) hR
    simp only [tickinglaw02_tame.l1]
    rw [if_neg (by omega), if_pos (by omega), w2]
    rfl
  | succ d ih =>
    intro k h
    have hc := cnt_le l i k
    have := ih (k + 1) (by omega)
    rw [cnt_succ] at this
    refine Ev.step (fun q => tame_step l n i out k (1 + (cnt l i k : Int)) hn hi (by omega) q (w64 (by omega) (by omega)) (by rw [w64 (by omega) (by omega)]; rfl)) ?_
    have e : (if pre l i k = true then 1 + (cnt l i k : Int) + 1 else 1 + (cnt l i k : Int)) = 1 + ((cnt l i k + if pre l i k = true then 1 else 0 : Nat) : Int) := by split <;> omega
    rw [e]
    exact this
theorem tame_l0 (l : List Int) (n : Nat) (hn : n ≤ l.length) (hl : n ≤ 1000) : ∀ (d i : Nat), i + d = n → Ev (fun q => tickinglaw02_tame.l0 q l ((List.range i).map (rankAt l n)) (n : Int) (i : Int)) (tameL l n)
  | 0, i, h => by
    obtain rfl : i = n := by omega
    refine Ev.step (fun q => ?_) (Ev.now _)
    simp only [tickinglaw02_tame.l0]
    rw [if_neg (by omega)]
    rfl
  | d + 1, i, h => by
    have h0 := tame_l0 l n hn hl d (i + 1) (by omega)
    rw [List.range_succ, List.map_append] at h0
    have := tame_l1 l n i hn (by omega) hl _ _ (by simp; omega) h0 n 0 (by omega)
    refine Ev.step (fun q => ?_) this
    simp only [tickinglaw02_tame.l0]
    rw [if_pos (by omega)]
    rfl
theorem tame_ev (l : List Int) (m : Nat) (hm : m ≤ 1000) : Ev (fun q => tickinglaw02_tame.f q l (m : Int)) (tameL l (min l.length m)) := by
  have := tame_l0 l (min l.length m) (by omega) (by omega) (min l.length m) 0 (by omega)
  refine Ev.congr (fun q => ?_) this
  unfold tickinglaw02_tame.f mn
  have e : (if (m : Int) < (l.length : Int) then (m : Int) else (l.length : Int)) = ((min l.length m : Nat) : Int) := by split <;> omega
  rw [e]
  rfl

end Go.Proofs.Ytjbjongahnocdaa.P

/- What one stack sorts, two stacks sort; removing an item keeps an order sortable by one stack, by two stacks, and by as many queues, and one queue less does not help by more than one: for every list and number, of which at most 25 items count. -/
namespace Go.Proofs.Ytjbjongahnocdaa.Pure
open Go.RowKit Go.Proofs.Ytjbjongahnocdaa.S Go.Proofs.Ytjbjongahnocdaa.P Go.Proofs.Ytjbjongahnocdaa.Defs Go.Proofs.YtjbjongahnocdaaW.PrintWords Go.Proofs.YtjbjongahnocdaaW.PrintLast Go.Proofs.YtjbjongahnocdaaW.PrintMore
set_option linter.unusedVariables false

/-- Where an item of the rest stood. -/
def sh (k i : Nat) : Nat := if i < k then i else i + 1
def unsh (k i : Nat) : Nat := if i < k then i else i - 1
/-- The rest of an order without its item at k: equal comparisons. -/
def RestOf (o less : List Int) (k : Nat) : Prop := k < o.length ∧ less.length + 1 = o.length ∧ ∀ i j : Nat, i < less.length → j < less.length → (rd less (i : Int) < rd less (j : Int) ↔ rd o ((sh k i : Nat) : Int) < rd o ((sh k j : Nat) : Int))
theorem sh_lt {k i j : Nat} (h : i < j) : sh k i < sh k j := by
  unfold sh
  repeat' split
  all_goals omega
theorem sh_le (k i : Nat) : sh k i ≤ i + 1 := by
  unfold sh
  split <;> omega
theorem rest_conf {o less : List Int} {k a b : Nat} (h : RestOf o less k) (hab : a < b) (hb : b < less.length) (hc : Conf less a b) : Conf o (sh k a) (sh k b) := by
  obtain ⟨c, c1, c2, c3, c4⟩ := hc
  have h2 := h.2.1
  refine ⟨sh k c, sh_lt c1, by have := sh_le k c; omega, ?_, ?_⟩
  · exact (h.2.2 c a c2 (by omega)).1 c3
  · exact (h.2.2 a b (by omega) hb).1 c4
theorem rest_two {o less : List Int} {k : Nat} (h : RestOf o less k) (ht : TwoCol o) : TwoCol less := by
  obtain ⟨χ, hχ⟩ := ht
  have h2 := h.2.1
  have key : ∀ x y : Int, 0 ≤ x → x < y → y < less.length → Conf less x.toNat y.toNat → χ ((sh k x.toNat : Nat) : Int) ≠ χ ((sh k y.toNat : Nat) : Int) := by
    intro x y h0 h1 h3 hc
    have hlt := sh_lt (k := k) (show x.toNat < y.toNat by omega)
    have hle := sh_le k y.toNat
    refine hχ _ _ ⟨by omega, by omega, by omega, by omega, .inl ⟨by omega, ?_⟩⟩
    rw [Int.toNat_natCast, Int.toNat_natCast]
    exact rest_conf h (by omega) (by omega) hc
  refine ⟨fun x => χ ((sh k x.toNat : Nat) : Int), ?_⟩
  rintro x y ⟨a0, a1, a2, a3, hc⟩
  rcases hc with ⟨hlt, hc⟩ | ⟨hlt, hc⟩
  · exact key x y a0 hlt a3 hc
  · exact (key y x a2 hlt a1 hc).symm
theorem no231_conf {o : List Int} (h : No231 o) : ∀ a b : Nat, a < b → b < o.length → ¬ Conf o a b := by
  rintro a b h1 h2 ⟨c, c1, c2, c3, c4⟩
  rw [no231_pos] at h
  have := h a b c h1 c1 c2
  exact this ⟨c3, c4⟩
theorem conf_no231 {o : List Int} (h : ∀ a b : Nat, a < b → b < o.length → ¬ Conf o a b) : No231 o := by
  rw [no231_pos]
  intro a b c h1 h2 h3 h4
  exact h a b h1 (by omega) ⟨c, h2, h3, h4.1, h4.2⟩
theorem no231_two {o : List Int} (h : No231 o) : TwoCol o := by
  refine ⟨fun _ => true, ?_⟩
  rintro x y ⟨a0, a1, a2, a3, hc⟩
  exfalso
  rcases hc with ⟨hlt, hc⟩ | ⟨hlt, hc⟩
  · exact no231_conf h _ _ (by omega) (by omega) hc
  · exact no231_conf h _ _ (by omega) (by omega) hc
theorem rest_no231 {o less : List Int} {k : Nat} (h : RestOf o less k) (hn : No231 o) : No231 less := by
  have h2 := h.2.1
  refine conf_no231 fun a b h1 h3 hc => no231_conf hn _ _ (sh_lt (k := k) h1) (by have := sh_le k b; omega) (rest_conf h h1 h3 hc)
theorem rest_desc {o less : List Int} {k : Nat} (h : RestOf o less k) {ps : List Nat} (hp : Desc less ps) : Desc o (ps.map (sh k)) := by
  have h2 := h.2.1
  refine ⟨?_, fun x hx => ?_⟩
  · rw [List.pairwise_map]
    refine List.Pairwise.imp_of_mem ?_ hp.1
    intro a b ha hb hab
    exact ⟨sh_lt hab.1, (h.2.2 b a (hp.2 b hb) (hp.2 a ha)).1 hab.2⟩
  · obtain ⟨p, p1, rfl⟩ := List.mem_map.1 hx
    have := hp.2 p p1
    have := sh_le k p
    omega
theorem sh_unsh {k i : Nat} (h : i ≠ k) : sh k (unsh k i) = i := by
  unfold sh unsh
  repeat' split
  all_goals omega
theorem desc_rest {o less : List Int} {k : Nat} (h : RestOf o less k) {ps : List Nat} (hp : Desc o ps) : ∃ qs, Desc less qs ∧ ps.length ≤ qs.length + 1 := by
  have h2 := h.2.1
  have hnd : ps.Nodup := List.Pairwise.imp (fun {a b} (h : a < b ∧ _) => by omega) hp.1
  have hk : ∀ x ∈ ps.erase k, x ≠ k ∧ x < o.length := fun x hx => ⟨fun e => (List.Nodup.not_mem_erase hnd : k ∉ ps.erase k) (e ▸ hx), hp.2 x (List.mem_of_mem_erase hx)⟩
  have hl : ∀ x ∈ ps.erase k, unsh k x < less.length := fun x hx => by
    have := hk x hx
    unfold unsh
    split
    · have := h.1; omega
    · omega
  refine ⟨(ps.erase k).map (unsh k), ⟨?_, fun x hx => ?_⟩, ?_⟩
  · rw [List.pairwise_map]
    refine List.Pairwise.imp_of_mem ?_ (List.Pairwise.sublist List.erase_sublist hp.1)
    intro a b ha hb hab
    have ka := hk a ha
    have kb := hk b hb
    refine ⟨?_, (h.2.2 _ _ (hl b hb) (hl a ha)).2 ?_⟩
    · have e1 := sh_unsh ka.1
      have e2 := sh_unsh kb.1
      apply Nat.lt_of_not_le
      intro hle
      rcases Nat.lt_or_ge (unsh k b) (unsh k a) with hc | hc
      · have := sh_lt (k := k) hc
        omega
      · have : unsh k a = unsh k b := by omega
        rw [this] at e1
        omega
    · rw [sh_unsh ka.1, sh_unsh kb.1]
      exact hab.2
  · obtain ⟨p, p1, rfl⟩ := List.mem_map.1 hx
    exact hl p p1
  · rw [List.length_map, List.length_erase]
    split <;> omega
theorem rest_least {o less : List Int} {k : Nat} (h : RestOf o less k) {n m : Int} (hn : LeastIs o n) (hm : LeastIs less m) : m ≤ n ∧ n - 1 ≤ m := by
  obtain ⟨a1, a2, a3⟩ := hn
  obtain ⟨b1, b2, b3⟩ := hm
  constructor
  · rcases b3 with rfl | ⟨ps, p1, p2⟩
    · exact a1
    · have := a2 _ (rest_desc h p1)
      rw [List.length_map] at this
      omega
  · rcases a3 with rfl | ⟨ps, p1, p2⟩
    · omega
    · obtain ⟨qs, q1, q2⟩ := desc_rest h p1
      have := b2 qs q1
      omega
theorem restOf_rd (o : List Int) (k : Nat) (hk : k < o.length) : (restOf o (k : Int)).length + 1 = o.length ∧ ∀ i : Nat, i < (restOf o (k : Int)).length → rd (restOf o (k : Int)) (i : Int) = rd o ((sh k i : Nat) : Int) := by
  have e1 : ((k : Int)).toNat = k := by omega
  have e2 : ((k : Int) + 1).toNat = k + 1 := by omega
  unfold restOf
  rw [e1, e2]
  have hlen : (o.take k ++ o.drop (k + 1)).length + 1 = o.length := by
    rw [List.length_append, List.length_take, List.length_drop]
    omega
  refine ⟨hlen, fun i hi => ?_⟩
  rw [rd_lt _ i hi]
  unfold sh
  by_cases c : i < k
  · rw [if_pos c, List.getElem_append_left (by rw [List.length_take]; omega), List.getElem_take, rd_lt o i (by omega)]
  · rw [if_neg c, List.getElem_append_right (by rw [List.length_take]; omega), List.getElem_drop, rd_lt o (i + 1) (by omega)]
    congr 1
    rw [List.length_take]
    omega
theorem tame_rest (o : List Int) (ho : IsOrd o) (k : Nat) (hk : k < o.length) (h25 : o.length ≤ 25) : RestOf o (tameL (restOf o (k : Int)) (min (restOf o (k : Int)).length 25)) k := by
  obtain ⟨r1, r2⟩ := restOf_rd o k hk
  obtain ⟨R, hR⟩ : ∃ R, R = restOf o (k : Int) := ⟨_, rfl⟩
  rw [← hR] at r1 r2 ⊢
  rw [show min R.length 25 = R.length by omega]
  have hget : ∀ i : Nat, i < R.length → rd (tameL R R.length) (i : Int) = rankAt R R.length i := fun i hi => by
    rw [rd_lt _ i (by rw [tameL_len]; exact hi)]
    unfold tameL
    rw [List.getElem_map, List.getElem_range]
  have hinj : ∀ i j : Nat, i < R.length → j < R.length → i ≠ j → rd R (i : Int) ≠ rd R (j : Int) := by
    intro i j hi hj hij e
    rw [r2 i hi, r2 j hj] at e
    have := rd_inj ho.1 (i := sh k i) (j := sh k j) (by have := sh_le k i; omega) (by have := sh_le k j; omega) e
    rcases Nat.lt_or_gt_of_ne hij with h | h
    · have := sh_lt (k := k) h; omega
    · have := sh_lt (k := k) h; omega
  have key : ∀ i j : Nat, i < R.length → j < R.length → rd R (i : Int) < rd R (j : Int) → rankAt R R.length i < rankAt R R.length j := fun i j hi hj h =>
    rank_lt R R.length hi (by simp [pre]; exact .inl h)
  refine ⟨hk, by rw [tameL_len]; exact r1, fun i j hi hj => ?_⟩
  rw [tameL_len] at hi hj
  rw [hget i hi, hget j hj, ← r2 i hi, ← r2 j hj]
  constructor
  · intro h
    apply Classical.byContradiction
    intro hn
    by_cases e : i = j
    · subst e; omega
    · have := hinj i j hi hj e
      have := key j i hj hi (by omega)
      omega
  · exact key i j hi hj
theorem more_mod (a n : Int) (h0 : 0 < n) (h1 : n ≤ 1000) : ∃ m : Int, tickinglaw02_mod.f a n = some m ∧ 0 ≤ m ∧ m < n := by
  unfold tickinglaw02_mod.f
  have h6 : IntKind.u64.wrap n = n := by
    show n % 18446744073709551616 = n
    omega
  have hn : 0 ≤ IntKind.u64.wrap a := by
    show 0 ≤ a % 18446744073709551616
    omega
  obtain ⟨u, hu'⟩ : ∃ u, u = IntKind.u64.wrap a := ⟨_, rfl⟩
  rw [h6, if_neg (by omega), ← hu']
  rw [← hu'] at hn
  have e : Int.tmod u n = u % n := Int.tmod_eq_emod_of_nonneg hn
  have r0 : 0 ≤ u % n := Int.emod_nonneg _ (by omega)
  have r1 : u % n < n := Int.emod_lt_of_pos _ (by omega)
  rw [e]
  refine ⟨_, rfl, ?_, ?_⟩ <;> (unfold wrap64; omega)
theorem least_small {l : List Int} {n : Int} (h : LeastIs l n) (hl : l.length ≤ 25) : n ≤ 25 := by
  rcases h.2.2 with rfl | ⟨ps, p1, p2⟩
  · omega
  · have hnd : (ps.map (fun p : Nat => (p : Int))).Nodup := by
      rw [List.Nodup, List.pairwise_map]
      exact List.Pairwise.imp (fun {a b} (h : a < b ∧ _) => by omega) p1.1
    have := nodup_len l.length _ (-1) hnd (fun x hx => by
      obtain ⟨p, hp, rfl⟩ := List.mem_map.1 hx
      have := p1.2 p hp
      omega)
    rw [List.length_map] at this
    omega
theorem more_g (o less : List Int) (k : Nat) (h : RestOf o less k) (ho : IsOrd o) (hl : IsOrd less) (h25 : o.length ≤ 25) : Ev (fun q => tickinglaw02_ShuntMore.g q o less) true := by
  have h2 := h.2.1
  obtain ⟨p1, a, s1, c1⟩ := Stack_ev o ho (by omega)
  obtain ⟨y1, b, s2, c2⟩ := Stacks_ev o ho (by omega)
  obtain ⟨n, s3, c3⟩ := Least_ev o ho (by omega)
  obtain ⟨p2, c, s4, c4⟩ := Stack_ev less hl (by omega)
  obtain ⟨y2, d, s5, c5⟩ := Stacks_ev less hl (by omega)
  obtain ⟨m, s6, c6⟩ := Least_ev less hl (by omega)
  have ha : a = [] ∨ a ≠ [] ∧ ¬ No231 o := by
    rcases c1 with ⟨_, h, _⟩ | ⟨h, _, _, h'⟩
    · exact .inl h
    · exact .inr ⟨h', h⟩
  have ha2 : a = [] → No231 o := by
    intro e
    rcases c1 with ⟨h, _, _⟩ | ⟨_, _, _, h'⟩
    · exact h
    · exact absurd e h'
  have hb2 : b = [] → TwoCol o := by
    intro e
    rcases c2 with ⟨_, h, h'⟩ | ⟨_, h, _⟩
    · exact sides_two h h'
    · exact absurd e h
  have hb3 : TwoCol o → b = [] := by
    intro e
    rcases c2 with ⟨h, _, _⟩ | ⟨_, _, h⟩
    · exact h
    · exact absurd e h
  have hc3 : No231 less → c = [] := by
    intro e
    rcases c4 with ⟨_, h, _⟩ | ⟨h, _, _, _⟩
    · exact h
    · exact absurd e h
  have hd3 : TwoCol less → d = [] := by
    intro e
    rcases c5 with ⟨h, _, _⟩ | ⟨_, _, h⟩
    · exact h
    · exact absurd e h
  have hnm := rest_least h c3 c6
  have hns := least_small c3 h25
  have hg : moreGood a b c d n m := by
    refine ⟨?_, ?_, hnm.1, hnm.2, by have := c3.1; omega, by omega⟩
    · by_cases e : a = []
      · exact .inr ⟨hb3 (no231_two (ha2 e)), hc3 (rest_no231 h (ha2 e))⟩
      · exact .inl e
    · by_cases e : b = []
      · exact .inr (hd3 (rest_two h (hb2 e)))
      · exact .inl e
  unfold tickinglaw02_ShuntMore.g
  refine Ev.bind (f := fun q (x : ByteArray × List Int × Int) => _) s1 ?_
  refine Ev.bind (f := fun q (y : List Int × List Int × Int) => _) s2 ?_
  refine Ev.bind (f := fun q (z : Int × Int) => _) s3 ?_
  refine Ev.bind (f := fun q (x : ByteArray × List Int × Int) => _) s4 ?_
  refine Ev.bind (f := fun q (y : List Int × List Int × Int) => _) s5 ?_
  refine Ev.bind (f := fun q (z : Int × Int) => _) s6 ?_
  exact Ev.congr (fun q => if_pos ⟨rfl, rfl, rfl, rfl, rfl, rfl, hg⟩) awake_ev
theorem ShuntMore : tickinglaw02_ShuntMore.Pure := by
  intro l0 a1 _ _ _ _
  apply Ev.rounds
  obtain ⟨o, hoe⟩ : ∃ o, o = tameL l0 (min l0.length 25) := ⟨_, rfl⟩
  have ho : IsOrd o := by rw [hoe]; exact tameL_ord _ _
  have hlen : o.length ≤ 25 := by rw [hoe, tameL_len]; omega
  have htm := tame_ev l0 25 (by omega)
  rw [← hoe] at htm
  unfold tickinglaw02_ShuntMore.f
  refine Ev.bind (f := fun q (o : List Int) => _) htm ?_
  by_cases c0 : o.length = 0
  · exact Ev.congr (fun q => if_pos c0) awake_ev
  obtain ⟨m, hm, m0, m1⟩ := more_mod a1 (o.length : Int) (by omega) (by omega)
  obtain ⟨k, rfl⟩ : ∃ k : Nat, m = (k : Int) := ⟨m.toNat, by omega⟩
  refine Ev.congr (f := fun q => (tickinglaw02_tame.f q (restOf o (k : Int)) 25).bind fun less => tickinglaw02_ShuntMore.g q o less) (fun q => ?_) ?_
  · rw [if_neg c0, hm]
    simp only [Option.bind_some]
    rw [if_pos ⟨m0, m1, by omega⟩]
  · refine Ev.bind (f := fun q less => tickinglaw02_ShuntMore.g q o less) (tame_ev (restOf o (k : Int)) 25 (by omega)) ?_
    exact more_g o _ k (tame_rest o ho k (by omega) hlen) ho (tameL_ord _ _) hlen
end Go.Proofs.Ytjbjongahnocdaa.Pure
