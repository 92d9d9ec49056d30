-- Written by wip/bundle.py: texts of this claim, one behind the other.
import Derived.Test.YtjbjongahnocdaaBShuntStacksChecks1
import Derived.RowKit
import Derived.Test.YtjbjongahnocdaaWWords
set_option linter.unusedVariables false
set_option linter.unusedSimpArgs false

namespace Go.Proofs.Ytjbjongahnocdaa.S
open Go.Proofs.Ytjbjongahnocdaa.Lib
open Go.Proofs.Ytjbjongahnocdaa.Defs
open Go.Maps (Keyed)
open Go.RowKit Go.Proofs.YtjbjongahnocdaaW.PrintWords Go.Proofs.YtjbjongahnocdaaW.PrintLast Go.Proofs.YtjbjongahnocdaaW.PrintMore
attribute [local go_sem] max2_int min2_int max_two min_two max_three min_three max_four min_four   -- for this text's walks alone
set_option linter.unusedVariables false
set_option linter.unusedSimpArgs false

/-! ### tickingref02_StacksBlock: function 47 -/
mutual
def tickingref02_StacksBlock.j0 : Nat → List Int → List Int → Bool → Option (Bool)
  | 0, _, _, _ => none
  | k + 1, x0, x1, x23 => if x23 = true then (some false) else (tickingref02_StacksBlock.l0 k x0 x1 0)
def tickingref02_StacksBlock.l0 : Nat → List Int → List Int → Int → Option (Bool)
  | 0, _, _, _ => none
  | k + 1, x0, x1, x5 => if x5 < (x1.length : Int) then (if 0 ≤ x5 then (if (x1.length : Int) = 0 then (none) else (if 0 ≤ (Int.tmod (wrap64 (x5 + 1)) (x1.length : Int)) then (if (Int.tmod (wrap64 (x5 + 1)) (x1.length : Int)) < (x1.length : Int) then ((tickingref02_Conflict.f k x0 (mn (rd x1 x5) (rd x1 (Int.tmod (wrap64 (x5 + 1)) (x1.length : Int)))) (mx (rd x1 x5) (rd x1 (Int.tmod (wrap64 (x5 + 1)) (x1.length : Int))))).bind fun t542 => (if t542 = true then (tickingref02_StacksBlock.l0 k x0 x1 (wrap64 (x5 + 1))) else (some false))) else (none)) else (none))) else (none)) else (some true)
end
def tickingref02_StacksBlock.f (k : Nat) (l0 : List Int) (l1 : List Int) : Option (Bool) := if (l1.length : Int) < 3 then (tickingref02_StacksBlock.j0 k l0 l1 true) else (if ((l1.length : Int) % 2) = 0 then (tickingref02_StacksBlock.j0 k l0 l1 true) else ((tickingref02_at.f k l1 (l0.length : Int)).bind fun t539 => (tickingref02_StacksBlock.j0 k l0 l1 (!t539))))
theorem tickingref02_StacksBlock.mono_l : ∀ k, (∀ y0 y1 y2, LeO (tickingref02_StacksBlock.j0 k y0 y1 y2) (tickingref02_StacksBlock.j0 (k + 1) y0 y1 y2)) ∧ (∀ y0 y1 y2, LeO (tickingref02_StacksBlock.l0 k y0 y1 y2) (tickingref02_StacksBlock.l0 (k + 1) y0 y1 y2))
  | 0 => ⟨fun _ _ _ r h => by simp [tickingref02_StacksBlock.j0] at h, fun _ _ _ r h => by simp [tickingref02_StacksBlock.l0] at h⟩
  | k + 1 => by
    obtain ⟨ih0, ih1⟩ := tickingref02_StacksBlock.mono_l k
    refine ⟨?_, ?_⟩
    · intro y0 y1 y2
      unfold tickingref02_StacksBlock.j0
      repeat' first
      | (with_reducible exact ih0 _ _ _)
      | (with_reducible exact ih1 _ _ _)
      | (with_reducible exact tickingref02_Conflict.mono _ _ _ _)
      | (with_reducible exact tickingref02_at.mono _ _ _)
      | (with_reducible exact LeO.refl _)
      | (with_reducible exact LeO.none _)
      | (with_reducible refine LeO.ite ?_ ?_)
      | (with_reducible refine LeO.bind ?_ (fun _ => ?_))
      | exact ih0 _ _ _
      | exact ih1 _ _ _
      | exact tickingref02_Conflict.mono _ _ _ _
      | exact tickingref02_at.mono _ _ _
      | exact LeO.none _
      | refine LeO.ite ?_ ?_
      | refine LeO.bind ?_ (fun _ => ?_)
    · intro y0 y1 y2
      unfold tickingref02_StacksBlock.l0
      repeat' first
      | (with_reducible exact ih0 _ _ _)
      | (with_reducible exact ih1 _ _ _)
      | (with_reducible exact tickingref02_Conflict.mono _ _ _ _)
      | (with_reducible exact tickingref02_at.mono _ _ _)
      | (with_reducible exact LeO.refl _)
      | (with_reducible exact LeO.none _)
      | (with_reducible refine LeO.ite ?_ ?_)
      | (with_reducible refine LeO.bind ?_ (fun _ => ?_))
      | exact ih0 _ _ _
      | exact ih1 _ _ _
      | exact tickingref02_Conflict.mono _ _ _ _
      | exact tickingref02_at.mono _ _ _
      | exact LeO.none _
      | refine LeO.ite ?_ ?_
      | refine LeO.bind ?_ (fun _ => ?_)
theorem tickingref02_StacksBlock.mono : ∀ a0 a1 k, LeO (tickingref02_StacksBlock.f k a0 a1) (tickingref02_StacksBlock.f (k + 1) a0 a1) := by
  intro a0 a1 k
  obtain ⟨ih0, ih1⟩ := tickingref02_StacksBlock.mono_l k
  unfold tickingref02_StacksBlock.f
  repeat' first
      | (with_reducible exact ih0 _ _ _)
      | (with_reducible exact ih1 _ _ _)
      | (with_reducible exact tickingref02_Conflict.mono _ _ _ _)
      | (with_reducible exact tickingref02_at.mono _ _ _)
      | (with_reducible exact LeO.refl _)
      | (with_reducible exact LeO.none _)
      | (with_reducible refine LeO.ite ?_ ?_)
      | (with_reducible refine LeO.bind ?_ (fun _ => ?_))
      | exact ih0 _ _ _
      | exact ih1 _ _ _
      | exact tickingref02_Conflict.mono _ _ _ _
      | exact tickingref02_at.mono _ _ _
      | exact LeO.none _
      | refine LeO.ite ?_ ?_
      | refine LeO.bind ?_ (fun _ => ?_)
set_option maxHeartbeats 8000000 in
set_option maxRecDepth 100000 in
theorem tickingref02_StacksBlock.calls (k : Nat) (A0 : Option Addr) (c0 : Nat) (l0 : List Int) (A1 : Option Addr) (c1 : Nat) (l1 : List Int) (r : Bool) (w : World) (hr0 : Kd.C (Kd.int .i64) w A0 l0.length l0) (hc0 : l0.length ≤ c0) (hr1 : Kd.C (Kd.int .i64) w A1 l1.length l1) (hc1 : l1.length ≤ c1) (h : tickingref02_StacksBlock.f k l0 l1 = some r) :
    Calls Try.prog 47 #[.slice A0 l0.length c0, .slice A1 l1.length c1] w fun e w' => e = .returned (.bool r) ∧ Below w.heap.size w w' := by
  have HR0 := Aside0.mk hr0
  have HC0 := Aside0.mk hc0
  clear hr0 hc0
  have HR1 := Aside0.mk hr1
  have HC1 := Aside0.mk hc1
  clear hr1 hc1
  have HB := Aside0.mk (Below.refl w.heap.size w)
  have H : (if (l1.length : Int) < 3 then (tickingref02_StacksBlock.j0 k l0 l1 true) else (if ((l1.length : Int) % 2) = 0 then (tickingref02_StacksBlock.j0 k l0 l1 true) else ((tickingref02_at.f k l1 (l0.length : Int)).bind fun t539 => (tickingref02_StacksBlock.j0 k l0 l1 (!t539))))) = some r := h
  clear h
  have HC3 := Aside0.mk H
  clear H
  go_enter Try.func47, Try.ntmps47
  go_upto_region 1 with (fail)
  repeat (go_quiet (fail); go_upto_region 1 with (fail))
  go_cut [23] (fun v23 wc => ∃ (kq : Nat) (x23_2 : Bool), v23 = .bool x23_2 ∧ Aside0 (tickingref02_StacksBlock.j0 kq l0 l1 x23_2 = some r) ∧ Aside0 (kq ≤ k) ∧ Aside0 (Below w.heap.size w wc))
  case first =>
    have H := HC3.out
    clear HC3
    by_cases c4 : (l1.length : Int) < 3
    · rw [if_pos c4] at H
      have c4b0 : decide ((l1.length : Int) < 3) = true := decide_eq_true c4
      have c4b1 : decide (l1.length < 3) = true := decide_eq_true (by omega)
      clear c4
      (first | rw [c4b0] | (simp only [i64_w, i32_w]; rw [c4b0]) | skip)
      have H' := Aside0.mk H
      clear H
      go_wp2
      repeat (go_quiet (fail); try go_wp2)
      go_meet
      case rel => exact ⟨_, (true), (by first | rfl | (simp; done) | (simp [*]; done)), H', ⟨by first | omega | exact Nat.le_refl _⟩, ⟨by repeat (first | (with_reducible first | exact HB.out | apply below_alloc | apply pw_below_drewN | apply below_drew1) | exact HB.out)⟩⟩
    · rw [if_neg c4] at H
      have c4b0 : decide ((l1.length : Int) < 3) = false := decide_eq_false c4
      have c4b1 : decide (l1.length < 3) = false := decide_eq_false (by omega)
      clear c4
      (first | rw [c4b0] | (simp only [i64_w, i32_w]; rw [c4b0]) | skip)
      by_cases c5 : ((l1.length : Int) % 2) = 0
      · rw [if_pos c5] at H
        have c5b0 : (((l1.length : Int) % 2) == 0) = true := beq_iff_eq.mpr c5
        have c5b1 : (((l1.length : Int) % 2) != 0) = false := bne_eq_false_iff_eq.mpr c5
        clear c5
        have H' := Aside0.mk H
        clear H
        go_wp2
        repeat (go_quiet (fail); try go_wp2)
        go_meet
        case rel => exact ⟨_, (true), (by first | rfl | (simp; done) | (simp [*]; done)), H', ⟨by first | omega | exact Nat.le_refl _⟩, ⟨by repeat (first | (with_reducible first | exact HB.out | apply below_alloc | apply pw_below_drewN | apply below_drew1) | exact HB.out)⟩⟩
      · rw [if_neg c5] at H
        have c5b0 : (((l1.length : Int) % 2) == 0) = false := beq_eq_false_iff_ne.mpr c5
        have c5b1 : (((l1.length : Int) % 2) != 0) = true := bne_iff_ne.mpr c5
        replace H := Option.bind_eq_some_iff.mp H
        obtain ⟨t539, A60, H⟩ := H
        replace H : (tickingref02_StacksBlock.j0 k l0 l1 (!t539)) = some r := H
        have A6 := Aside0.mk A60
        clear A60
        have H' := Aside0.mk H
        clear H
        go_wp2_with (first | (go_at_call 65; (with_reducible refine (tickingref02_at.calls k _ _ l1 (l0.length : Int) t539 _ ?side1 ?side2 A6.out).mono ?_); (case side1 => repeat (first | exact (Kd.C_below HR1.out HB.out) | (with_reducible refine Kd.C_alloc ?_ _) | (with_reducible refine Kd.C_drewN ?_ _) | (with_reducible refine Kd.C_drew ?_))); (case side2 => exact HC1.out); rintro e w' ⟨rfl, ⟨nd, rfl⟩⟩; (try first | exact ⟨rfl, _, World.drewN_drewN _ _ _⟩ | exact ⟨rfl, _, Eq.trans (World.drewN_drewN _ _ _) (congrArg (World.drewN _) (Nat.add_assoc _ _ _))⟩)))
        repeat (go_quiet (first | (go_at_call 65; (with_reducible refine (tickingref02_at.calls k _ _ l1 (l0.length : Int) t539 _ ?side1 ?side2 A6.out).mono ?_); (case side1 => repeat (first | exact (Kd.C_below HR1.out HB.out) | (with_reducible refine Kd.C_alloc ?_ _) | (with_reducible refine Kd.C_drewN ?_ _) | (with_reducible refine Kd.C_drew ?_))); (case side2 => exact HC1.out); rintro e w' ⟨rfl, ⟨nd, rfl⟩⟩; (try first | exact ⟨rfl, _, World.drewN_drewN _ _ _⟩ | exact ⟨rfl, _, Eq.trans (World.drewN_drewN _ _ _) (congrArg (World.drewN _) (Nat.add_assoc _ _ _))⟩))); try go_wp2_with (first | (go_at_call 65; (with_reducible refine (tickingref02_at.calls k _ _ l1 (l0.length : Int) t539 _ ?side1 ?side2 A6.out).mono ?_); (case side1 => repeat (first | exact (Kd.C_below HR1.out HB.out) | (with_reducible refine Kd.C_alloc ?_ _) | (with_reducible refine Kd.C_drewN ?_ _) | (with_reducible refine Kd.C_drew ?_))); (case side2 => exact HC1.out); rintro e w' ⟨rfl, ⟨nd, rfl⟩⟩; (try first | exact ⟨rfl, _, World.drewN_drewN _ _ _⟩ | exact ⟨rfl, _, Eq.trans (World.drewN_drewN _ _ _) (congrArg (World.drewN _) (Nat.add_assoc _ _ _))⟩))))
        go_meet
        case rel => exact ⟨_, (!t539), (by first | rfl | (simp; done) | (simp [*]; done)), H', ⟨by first | omega | exact Nat.le_refl _⟩, ⟨by repeat (first | (with_reducible first | exact HB.out | apply below_alloc | apply pw_below_drewN | apply below_drew1) | exact HB.out)⟩⟩
  case rest =>
    clear HC3
    try clear c1
    try clear p2
    try clear c4
    try clear c4b0
    try clear c4b1
    try clear c5
    try clear c5b0
    try clear c5b1
    obtain ⟨kq, x23_2, rfl, HA, HJ2, HB⟩ := hcut
    cases kq with
    | zero => exact absurd HA.out (by simp [tickingref02_StacksBlock.j0])
    | succ kj2 =>
      have H := HA.out
      clear HA
      simp only [tickingref02_StacksBlock.j0] at H
      by_cases c7 : x23_2 = true
      · subst c7
        have H1 : (some false) = some r := by rw [if_pos rfl] at H; exact H
        clear H
        have H := H1
        clear H1
        obtain rfl := Option.some.inj H
        go_wp2
        repeat (go_quiet (fail); try go_wp2)
        go_ret
        exact ⟨by first | rfl | (simp [errW_none, errW_some] <;> rfl) | (simp [*, errW_none, errW_some] <;> rfl), by repeat (first | (with_reducible first | exact HB.out | apply below_alloc | apply pw_below_drewN | apply below_drew1) | exact HB.out)⟩
      · replace c7 := Bool.eq_false_iff.mpr c7
        subst c7
        have H1 : (tickingref02_StacksBlock.l0 kj2 l0 l1 0) = some r := by rw [if_neg (show ¬ (false = true) by decide)] at H; exact H
        clear H
        have H := H1
        clear H1
        have H' := Aside0.mk H
        clear H
        go_wp2
        repeat (go_quiet (fail); try go_wp2)
        go_loopg [5] kj2 (fun kq v5 w' => ∃ (x5_2 : Int), v5 = .int .i64 x5_2 ∧ Aside0 (tickingref02_StacksBlock.l0 kq l0 l1 x5_2 = some r) ∧ Aside0 (kq ≤ kj2) ∧ Aside0 (Below w.heap.size w w'))
        case atStart => exact ⟨(0), (by first | rfl | (simp; done) | (simp [*]; done)), H', ⟨Nat.le_refl _⟩, ⟨by repeat (first | (with_reducible first | exact HB.out | apply below_alloc | apply pw_below_drewN | apply below_drew1) | exact HB.out)⟩⟩
        case round =>
          clear H'
          try clear c1
          try clear p2
          try clear c4
          try clear c4b0
          try clear c4b1
          try clear c5
          try clear c5b0
          try clear c5b1
          try clear c7
          try clear p2
          obtain ⟨x5_2, rfl, HA, HK2, HB⟩ := hrel
          cases gk with
          | zero => exact absurd HA.out (by simp [tickingref02_StacksBlock.l0])
          | succ k2 =>
            have H := HA.out
            clear HA
            simp only [tickingref02_StacksBlock.l0] at H
            by_cases c8 : x5_2 < (l1.length : Int)
            · rw [if_pos c8] at H
              have c8b0 : decide (x5_2 < (l1.length : Int)) = true := decide_eq_true c8
              clear c8
              by_cases c9 : 0 ≤ x5_2
              · rw [if_pos c9] at H
                have c9b0 : decide (0 ≤ x5_2) = true := decide_eq_true c9
                clear c9
                by_cases c10 : (l1.length : Int) = 0
                · rw [if_pos c10] at H
                  exact absurd H (by simp)
                · rw [if_neg c10] at H
                  have c10b0 : ((l1.length : Int) == 0) = false := beq_eq_false_iff_ne.mpr c10
                  have c10b1 : ((l1.length : Int) != 0) = true := bne_iff_ne.mpr c10
                  have c10b2 : ¬ (l1 = []) := fun h_ => c10 (by rw [h_]; rfl)
                  obtain ⟨ji11, hji11⟩ : ∃ j_ : Int, (Int.tmod (wrap64 (x5_2 + 1)) (l1.length : Int)) = j_ := ⟨_, rfl⟩
                  replace H : (if 0 ≤ (ji11) then (if (ji11) < (l1.length : Int) then ((tickingref02_Conflict.f k2 l0 (mn (rd l1 x5_2) (rd l1 (ji11))) (mx (rd l1 x5_2) (rd l1 (ji11)))).bind fun t542 => (if t542 = true then (tickingref02_StacksBlock.l0 k2 l0 l1 (wrap64 (x5_2 + 1))) else (some false))) else (none)) else (none)) = some r := by first | (rw [hji11] at H; exact H) | (simp only [hji11] at H ⊢; exact H)
                  by_cases c12 : 0 ≤ (ji11)
                  · rw [if_pos c12] at H
                    have c12b0 : decide (0 ≤ (ji11)) = true := decide_eq_true c12
                    clear c12
                    by_cases c13 : (ji11) < (l1.length : Int)
                    · rw [if_pos c13] at H
                      have c13b0 : decide ((ji11) < (l1.length : Int)) = true := decide_eq_true c13
                      clear c13
                      obtain ⟨ji14, hji14⟩ : ∃ j_ : Int, (mn (rd l1 x5_2) (rd l1 (ji11))) = j_ := ⟨_, rfl⟩
                      replace H : ((tickingref02_Conflict.f k2 l0 (ji14) (mx (rd l1 x5_2) (rd l1 (ji11)))).bind fun t542 => (if t542 = true then (tickingref02_StacksBlock.l0 k2 l0 l1 (wrap64 (x5_2 + 1))) else (some false))) = some r := by first | (rw [hji14] at H; exact H) | (simp only [hji14] at H ⊢; exact H)
                      have hji14_ : (if (rd l1 (ji11)) < (rd l1 x5_2) then (rd l1 (ji11)) else (rd l1 x5_2)) = ji14 := hji14
                      obtain ⟨ji15, hji15⟩ : ∃ j_ : Int, (mx (rd l1 x5_2) (rd l1 (ji11))) = j_ := ⟨_, rfl⟩
                      replace H : ((tickingref02_Conflict.f k2 l0 (ji14) (ji15)).bind fun t542 => (if t542 = true then (tickingref02_StacksBlock.l0 k2 l0 l1 (wrap64 (x5_2 + 1))) else (some false))) = some r := by first | (rw [hji15] at H; exact H) | (simp only [hji15] at H ⊢; exact H)
                      have hji15_ : (if (rd l1 x5_2) < (rd l1 (ji11)) then (rd l1 (ji11)) else (rd l1 x5_2)) = ji15 := hji15
                      replace H := Option.bind_eq_some_iff.mp H
                      obtain ⟨t542, A160, H⟩ := H
                      replace H : (if t542 = true then (tickingref02_StacksBlock.l0 k2 l0 l1 (wrap64 (x5_2 + 1))) else (some false)) = some r := H
                      have A16 := Aside0.mk A160
                      clear A160
                      by_cases c17 : t542 = true
                      · subst c17
                        have H1 : (tickingref02_StacksBlock.l0 k2 l0 l1 (wrap64 (x5_2 + 1))) = some r := by rw [if_pos rfl] at H; exact H
                        clear H
                        have H := H1
                        clear H1
                        have H' := Aside0.mk H
                        clear H
                        have p540 : 0 ≤ (x5_2 : Int) := of_decide_eq_true (by first | (with_reducible assumption) | assumption)
                        have q540 : x5_2 < (l1.length : Int) := of_decide_eq_true (by first | (with_reducible assumption) | assumption)
                        obtain ⟨ad540, e540, hx540_0⟩ := Kd.at_int HR1.out x5_2 p540 q540
                        cases e540
                        replace hx540_0 := (HB.out.cell (World.block_lt_of_cell? w _ hx540_0)).trans hx540_0
                        replace p540 := eq_true p540
                        replace q540 := eq_true q540
                        have p541 : 0 ≤ ((ji11) : Int) := of_decide_eq_true (by first | (with_reducible assumption) | assumption)
                        have q541 : (ji11) < (l1.length : Int) := of_decide_eq_true (by first | (with_reducible assumption) | assumption)
                        obtain ⟨ad541, e541, hx541_0⟩ := Kd.at_int HR1.out (ji11) p541 q541
                        obtain rfl : ad540 = ad541 := (by injection e541)
                        replace hx541_0 := (HB.out.cell (World.block_lt_of_cell? w _ hx541_0)).trans hx541_0
                        replace p541 := eq_true p541
                        replace q541 := eq_true q541
                        go_wp2_with (first | (go_at_call 73; (with_reducible refine (tickingref02_Conflict.calls k2 _ _ l0 ji14 ji15 true _ ?side1 ?side2 A16.out).mono ?_); (case side1 => repeat (first | exact (Kd.C_below HR0.out HB.out) | (with_reducible refine Kd.C_alloc ?_ _) | (with_reducible refine Kd.C_drewN ?_ _) | (with_reducible refine Kd.C_drew ?_))); (case side2 => exact HC0.out); rintro e w' ⟨rfl, ⟨nd, rfl⟩⟩; (try first | exact ⟨rfl, _, World.drewN_drewN _ _ _⟩ | exact ⟨rfl, _, Eq.trans (World.drewN_drewN _ _ _) (congrArg (World.drewN _) (Nat.add_assoc _ _ _))⟩)))
                        repeat (go_quiet (first | (go_at_call 73; (with_reducible refine (tickingref02_Conflict.calls k2 _ _ l0 ji14 ji15 true _ ?side1 ?side2 A16.out).mono ?_); (case side1 => repeat (first | exact (Kd.C_below HR0.out HB.out) | (with_reducible refine Kd.C_alloc ?_ _) | (with_reducible refine Kd.C_drewN ?_ _) | (with_reducible refine Kd.C_drew ?_))); (case side2 => exact HC0.out); rintro e w' ⟨rfl, ⟨nd, rfl⟩⟩; (try first | exact ⟨rfl, _, World.drewN_drewN _ _ _⟩ | exact ⟨rfl, _, Eq.trans (World.drewN_drewN _ _ _) (congrArg (World.drewN _) (Nat.add_assoc _ _ _))⟩))); try go_wp2_with (first | (go_at_call 73; (with_reducible refine (tickingref02_Conflict.calls k2 _ _ l0 ji14 ji15 true _ ?side1 ?side2 A16.out).mono ?_); (case side1 => repeat (first | exact (Kd.C_below HR0.out HB.out) | (with_reducible refine Kd.C_alloc ?_ _) | (with_reducible refine Kd.C_drewN ?_ _) | (with_reducible refine Kd.C_drew ?_))); (case side2 => exact HC0.out); rintro e w' ⟨rfl, ⟨nd, rfl⟩⟩; (try first | exact ⟨rfl, _, World.drewN_drewN _ _ _⟩ | exact ⟨rfl, _, Eq.trans (World.drewN_drewN _ _ _) (congrArg (World.drewN _) (Nat.add_assoc _ _ _))⟩))))
                        go_roundg k2
                        case measure => have := HJ2.out; have := HK2.out; omega
                        case rel => exact ⟨(wrap64 (x5_2 + 1)), (by first | rfl | (simp; done) | (simp [*]; done)), H', ⟨by have := HJ2.out; have := HK2.out; omega⟩, ⟨by repeat (first | (with_reducible first | exact HB.out | apply below_alloc | apply pw_below_drewN | apply below_drew1) | exact HB.out)⟩⟩
                      · replace c17 := Bool.eq_false_iff.mpr c17
                        subst c17
                        have H1 : (some false) = some r := by rw [if_neg (show ¬ (false = true) by decide)] at H; exact H
                        clear H
                        have H := H1
                        clear H1
                        obtain rfl := Option.some.inj H
                        have p540 : 0 ≤ (x5_2 : Int) := of_decide_eq_true (by first | (with_reducible assumption) | assumption)
                        have q540 : x5_2 < (l1.length : Int) := of_decide_eq_true (by first | (with_reducible assumption) | assumption)
                        obtain ⟨ad540, e540, hx540_0⟩ := Kd.at_int HR1.out x5_2 p540 q540
                        cases e540
                        replace hx540_0 := (HB.out.cell (World.block_lt_of_cell? w _ hx540_0)).trans hx540_0
                        replace p540 := eq_true p540
                        replace q540 := eq_true q540
                        have p541 : 0 ≤ ((ji11) : Int) := of_decide_eq_true (by first | (with_reducible assumption) | assumption)
                        have q541 : (ji11) < (l1.length : Int) := of_decide_eq_true (by first | (with_reducible assumption) | assumption)
                        obtain ⟨ad541, e541, hx541_0⟩ := Kd.at_int HR1.out (ji11) p541 q541
                        obtain rfl : ad540 = ad541 := (by injection e541)
                        replace hx541_0 := (HB.out.cell (World.block_lt_of_cell? w _ hx541_0)).trans hx541_0
                        replace p541 := eq_true p541
                        replace q541 := eq_true q541
                        go_wp2_with (first | (go_at_call 73; (with_reducible refine (tickingref02_Conflict.calls k2 _ _ l0 ji14 ji15 false _ ?side1 ?side2 A16.out).mono ?_); (case side1 => repeat (first | exact (Kd.C_below HR0.out HB.out) | (with_reducible refine Kd.C_alloc ?_ _) | (with_reducible refine Kd.C_drewN ?_ _) | (with_reducible refine Kd.C_drew ?_))); (case side2 => exact HC0.out); rintro e w' ⟨rfl, ⟨nd, rfl⟩⟩; (try first | exact ⟨rfl, _, World.drewN_drewN _ _ _⟩ | exact ⟨rfl, _, Eq.trans (World.drewN_drewN _ _ _) (congrArg (World.drewN _) (Nat.add_assoc _ _ _))⟩)))
                        repeat (go_quiet (first | (go_at_call 73; (with_reducible refine (tickingref02_Conflict.calls k2 _ _ l0 ji14 ji15 false _ ?side1 ?side2 A16.out).mono ?_); (case side1 => repeat (first | exact (Kd.C_below HR0.out HB.out) | (with_reducible refine Kd.C_alloc ?_ _) | (with_reducible refine Kd.C_drewN ?_ _) | (with_reducible refine Kd.C_drew ?_))); (case side2 => exact HC0.out); rintro e w' ⟨rfl, ⟨nd, rfl⟩⟩; (try first | exact ⟨rfl, _, World.drewN_drewN _ _ _⟩ | exact ⟨rfl, _, Eq.trans (World.drewN_drewN _ _ _) (congrArg (World.drewN _) (Nat.add_assoc _ _ _))⟩))); try go_wp2_with (first | (go_at_call 73; (with_reducible refine (tickingref02_Conflict.calls k2 _ _ l0 ji14 ji15 false _ ?side1 ?side2 A16.out).mono ?_); (case side1 => repeat (first | exact (Kd.C_below HR0.out HB.out) | (with_reducible refine Kd.C_alloc ?_ _) | (with_reducible refine Kd.C_drewN ?_ _) | (with_reducible refine Kd.C_drew ?_))); (case side2 => exact HC0.out); rintro e w' ⟨rfl, ⟨nd, rfl⟩⟩; (try first | exact ⟨rfl, _, World.drewN_drewN _ _ _⟩ | exact ⟨rfl, _, Eq.trans (World.drewN_drewN _ _ _) (congrArg (World.drewN _) (Nat.add_assoc _ _ _))⟩))))
                        go_ret
                        exact ⟨by first | rfl | (simp [errW_none, errW_some] <;> rfl) | (simp only [← hji11, ← hji14, ← hji15]; first | rfl | (simp [errW_none, errW_some] <;> rfl)) | (simp [*, errW_none, errW_some] <;> rfl), by repeat (first | (with_reducible first | exact HB.out | apply below_alloc | apply pw_below_drewN | apply below_drew1) | exact HB.out)⟩
                    · rw [if_neg c13] at H
                      exact absurd H (by simp)
                  · rw [if_neg c12] at H
                    exact absurd H (by simp)
              · rw [if_neg c9] at H
                exact absurd H (by simp)
            · rw [if_neg c8] at H
              have c8b0 : decide (x5_2 < (l1.length : Int)) = false := decide_eq_false c8
              clear c8
              obtain rfl := Option.some.inj H
              go_wp2
              repeat (go_quiet (fail); try go_wp2)
              go_ret
              exact ⟨by first | rfl | (simp [errW_none, errW_some] <;> rfl) | (simp [*, errW_none, errW_some] <;> rfl), by repeat (first | (with_reducible first | exact HB.out | apply below_alloc | apply pw_below_drewN | apply below_drew1) | exact HB.out)⟩

end Go.Proofs.Ytjbjongahnocdaa.S

namespace Go.Proofs.Ytjbjongahnocdaa.S
open Go.Proofs.Ytjbjongahnocdaa.Lib
open Go.Proofs.Ytjbjongahnocdaa.Defs
open Go.Maps (Keyed)
open Go.RowKit Go.Proofs.YtjbjongahnocdaaW.PrintWords Go.Proofs.YtjbjongahnocdaaW.PrintLast Go.Proofs.YtjbjongahnocdaaW.PrintMore
attribute [local go_sem] max2_int min2_int max_two min_two max_three min_three max_four min_four   -- for this text's walks alone
set_option linter.unusedVariables false
set_option linter.unusedSimpArgs false

/-! ### tickinglaw02_ShuntStacksChecks: function 13 -/
def tickinglaw02_ShuntStacksChecks.j0 : Nat → Int → Bool → Option (Bool)
  | 0, _, _ => none
  | k + 1, x8, x51 => if x51 = true then (if x8 = 0 then ((tickinglaw02_awake.f k).bind fun t559 => (some t559)) else (some false)) else (if x8 = 10 then ((tickinglaw02_awake.f k).bind fun t560 => (some t560)) else (some false))
def tickinglaw02_ShuntStacksChecks.f (k : Nat) (l0 : List Int) (l1_0 : List Int) (l1_1 : List Int) : Option (Bool) := (tickinglaw02_list.f l0).bind fun t544 => ((tickinglaw02_list.f l1_0).bind fun t547 => ((tickinglaw02_list.f l1_1).bind fun t550 => ((shunt_CheckStacks.f k t544 t547 t550).bind fun t553 => ((tickingref02_Order.f k t544 60).bind fun t554 => (if t554 = true then ((tickingref02_SidesSort.f t544 t547).bind fun t556 => (if t556 = true then (if (t550.length : Int) = 0 then (tickinglaw02_ShuntStacksChecks.j0 k t553 true) else (if (t547.length : Int) = 0 then (if (t544.length : Int) > 0 then ((tickingref02_StacksBlock.f k t544 t550).bind fun t557 => (tickinglaw02_ShuntStacksChecks.j0 k t553 t557)) else (tickinglaw02_ShuntStacksChecks.j0 k t553 false)) else (tickinglaw02_ShuntStacksChecks.j0 k t553 false))) else (if (t547.length : Int) = 0 then (if (t544.length : Int) > 0 then ((tickingref02_StacksBlock.f k t544 t550).bind fun t558 => (tickinglaw02_ShuntStacksChecks.j0 k t553 t558)) else (tickinglaw02_ShuntStacksChecks.j0 k t553 false)) else (tickinglaw02_ShuntStacksChecks.j0 k t553 false)))) else (if t553 = 2 then ((tickinglaw02_awake.f k).bind fun t555 => (some t555)) else (some false)))))))
theorem tickinglaw02_ShuntStacksChecks.mono_l : ∀ k, (∀ y0 y1, LeO (tickinglaw02_ShuntStacksChecks.j0 k y0 y1) (tickinglaw02_ShuntStacksChecks.j0 (k + 1) y0 y1))
  | 0 => fun _ _ r h => by simp [tickinglaw02_ShuntStacksChecks.j0] at h
  | k + 1 => by
    have ih0 := tickinglaw02_ShuntStacksChecks.mono_l k
    · intro y0 y1
      unfold tickinglaw02_ShuntStacksChecks.j0
      repeat' first
      | (with_reducible exact ih0 _ _)
      | (with_reducible exact shunt_CheckStacks.mono _ _ _ _)
      | (with_reducible exact tickinglaw02_awake.mono _)
      | (with_reducible exact tickingref02_Order.mono _ _ _)
      | (with_reducible exact tickingref02_StacksBlock.mono _ _ _)
      | (with_reducible exact LeO.refl _)
      | (with_reducible exact LeO.none _)
      | (with_reducible refine LeO.ite ?_ ?_)
      | (with_reducible refine LeO.bind ?_ (fun _ => ?_))
      | exact ih0 _ _
      | exact shunt_CheckStacks.mono _ _ _ _
      | exact tickinglaw02_awake.mono _
      | exact tickingref02_Order.mono _ _ _
      | exact tickingref02_StacksBlock.mono _ _ _
      | exact LeO.none _
      | refine LeO.ite ?_ ?_
      | refine LeO.bind ?_ (fun _ => ?_)
theorem tickinglaw02_ShuntStacksChecks.mono : ∀ a0 a1 a2 k, LeO (tickinglaw02_ShuntStacksChecks.f k a0 a1 a2) (tickinglaw02_ShuntStacksChecks.f (k + 1) a0 a1 a2) := by
  intro a0 a1 a2 k
  have ih0 := tickinglaw02_ShuntStacksChecks.mono_l k
  unfold tickinglaw02_ShuntStacksChecks.f
  repeat' first
      | (with_reducible exact ih0 _ _)
      | (with_reducible exact shunt_CheckStacks.mono _ _ _ _)
      | (with_reducible exact tickinglaw02_awake.mono _)
      | (with_reducible exact tickingref02_Order.mono _ _ _)
      | (with_reducible exact tickingref02_StacksBlock.mono _ _ _)
      | (with_reducible exact LeO.refl _)
      | (with_reducible exact LeO.none _)
      | (with_reducible refine LeO.ite ?_ ?_)
      | (with_reducible refine LeO.bind ?_ (fun _ => ?_))
      | exact ih0 _ _
      | exact shunt_CheckStacks.mono _ _ _ _
      | exact tickinglaw02_awake.mono _
      | exact tickingref02_Order.mono _ _ _
      | exact tickingref02_StacksBlock.mono _ _ _
      | exact LeO.none _
      | refine LeO.ite ?_ ?_
      | refine LeO.bind ?_ (fun _ => ?_)
def tickinglaw02_ShuntStacksChecks.T1 : Bool × List (List Nat × List Nat) := (true, [([], []), ([0], [0]), ([], []), ([2], [2]), ([3, 1], [3]), ([], []), ([5], [5]), ([6, 4], [6]), ([1, 7, 0, 1], [1]), ([4, 8, 0, 1, 2, 3, 4, 8], [4]), ([7, 9, 0, 1, 2, 3, 4, 5, 6, 7, 8, 9], [7])])
def tickinglaw02_ShuntStacksChecks.B1 : List Nat := [0, 1, 0, 4, 15, 0, 32, 127, 255, 511, 1023]
theorem tickinglaw02_ShuntStacksChecks.tab1 : rtab .any (opsOf Try.f13 1) = tickinglaw02_ShuntStacksChecks.T1 := by kernel_rfl
theorem tickinglaw02_ShuntStacksChecks.bits1 : waitsOk tickinglaw02_ShuntStacksChecks.T1.2 tickinglaw02_ShuntStacksChecks.B1 = true := by kernel_rfl
set_option maxHeartbeats 8000000 in
set_option maxRecDepth 100000 in
theorem tickinglaw02_ShuntStacksChecks.calls (k : Nat) (A0 : Option Addr) (c0 : Nat) (l0 : List Int) (A1_0 : Option Addr) (c1_0 : Nat) (l1_0 : List Int) (A1_1 : Option Addr) (c1_1 : Nat) (l1_1 : List Int) (r : Bool) (w : World) (hr0 : Kd.C (Kd.int .i64) w A0 l0.length l0) (hc0 : l0.length ≤ c0) (hr1_0 : Kd.C (Kd.int .i64) w A1_0 l1_0.length l1_0) (hc1_0 : l1_0.length ≤ c1_0) (hr1_1 : Kd.C (Kd.int .i64) w A1_1 l1_1.length l1_1) (hc1_1 : l1_1.length ≤ c1_1) (h : tickinglaw02_ShuntStacksChecks.f k l0 l1_0 l1_1 = some r) :
    Calls Try.prog 13 #[.slice A0 l0.length c0, .agg #[.slice A1_0 l1_0.length c1_0, .slice A1_1 l1_1.length c1_1]] w fun e w' => e = .returned (.bool r) ∧ Below w.heap.size w w' := by
  have hu43 := Try.underlying43
  have HR0 := Aside0.mk hr0
  have HC0 := Aside0.mk hc0
  clear hr0 hc0
  have HR1_0 := Aside0.mk hr1_0
  have HC1_0 := Aside0.mk hc1_0
  clear hr1_0 hc1_0
  have HR1_1 := Aside0.mk hr1_1
  have HC1_1 := Aside0.mk hc1_1
  clear hr1_1 hc1_1
  have HB := Aside0.mk (Below.refl w.heap.size w)
  have H : ((tickinglaw02_list.f l0).bind fun t544 => ((tickinglaw02_list.f l1_0).bind fun t547 => ((tickinglaw02_list.f l1_1).bind fun t550 => ((shunt_CheckStacks.f k t544 t547 t550).bind fun t553 => ((tickingref02_Order.f k t544 60).bind fun t554 => (if t554 = true then ((tickingref02_SidesSort.f t544 t547).bind fun t556 => (if t556 = true then (if (t550.length : Int) = 0 then (tickinglaw02_ShuntStacksChecks.j0 k t553 true) else (if (t547.length : Int) = 0 then (if (t544.length : Int) > 0 then ((tickingref02_StacksBlock.f k t544 t550).bind fun t557 => (tickinglaw02_ShuntStacksChecks.j0 k t553 t557)) else (tickinglaw02_ShuntStacksChecks.j0 k t553 false)) else (tickinglaw02_ShuntStacksChecks.j0 k t553 false))) else (if (t547.length : Int) = 0 then (if (t544.length : Int) > 0 then ((tickingref02_StacksBlock.f k t544 t550).bind fun t558 => (tickinglaw02_ShuntStacksChecks.j0 k t553 t558)) else (tickinglaw02_ShuntStacksChecks.j0 k t553 false)) else (tickinglaw02_ShuntStacksChecks.j0 k t553 false)))) else (if t553 = 2 then ((tickinglaw02_awake.f k).bind fun t555 => (some t555)) else (some false)))))))) = some r := h
  clear h
  replace H := Option.bind_eq_some_iff.mp H
  obtain ⟨t544, A30, H⟩ := H
  replace H : ((tickinglaw02_list.f l1_0).bind fun t547 => ((tickinglaw02_list.f l1_1).bind fun t550 => ((shunt_CheckStacks.f k t544 t547 t550).bind fun t553 => ((tickingref02_Order.f k t544 60).bind fun t554 => (if t554 = true then ((tickingref02_SidesSort.f t544 t547).bind fun t556 => (if t556 = true then (if (t550.length : Int) = 0 then (tickinglaw02_ShuntStacksChecks.j0 k t553 true) else (if (t547.length : Int) = 0 then (if (t544.length : Int) > 0 then ((tickingref02_StacksBlock.f k t544 t550).bind fun t557 => (tickinglaw02_ShuntStacksChecks.j0 k t553 t557)) else (tickinglaw02_ShuntStacksChecks.j0 k t553 false)) else (tickinglaw02_ShuntStacksChecks.j0 k t553 false))) else (if (t547.length : Int) = 0 then (if (t544.length : Int) > 0 then ((tickingref02_StacksBlock.f k t544 t550).bind fun t558 => (tickinglaw02_ShuntStacksChecks.j0 k t553 t558)) else (tickinglaw02_ShuntStacksChecks.j0 k t553 false)) else (tickinglaw02_ShuntStacksChecks.j0 k t553 false)))) else (if t553 = 2 then ((tickinglaw02_awake.f k).bind fun t555 => (some t555)) else (some false))))))) = some r := H
  have A3 := Aside0.mk A30
  clear A30
  replace H := Option.bind_eq_some_iff.mp H
  obtain ⟨t547, A40, H⟩ := H
  replace H : ((tickinglaw02_list.f l1_1).bind fun t550 => ((shunt_CheckStacks.f k t544 t547 t550).bind fun t553 => ((tickingref02_Order.f k t544 60).bind fun t554 => (if t554 = true then ((tickingref02_SidesSort.f t544 t547).bind fun t556 => (if t556 = true then (if (t550.length : Int) = 0 then (tickinglaw02_ShuntStacksChecks.j0 k t553 true) else (if (t547.length : Int) = 0 then (if (t544.length : Int) > 0 then ((tickingref02_StacksBlock.f k t544 t550).bind fun t557 => (tickinglaw02_ShuntStacksChecks.j0 k t553 t557)) else (tickinglaw02_ShuntStacksChecks.j0 k t553 false)) else (tickinglaw02_ShuntStacksChecks.j0 k t553 false))) else (if (t547.length : Int) = 0 then (if (t544.length : Int) > 0 then ((tickingref02_StacksBlock.f k t544 t550).bind fun t558 => (tickinglaw02_ShuntStacksChecks.j0 k t553 t558)) else (tickinglaw02_ShuntStacksChecks.j0 k t553 false)) else (tickinglaw02_ShuntStacksChecks.j0 k t553 false)))) else (if t553 = 2 then ((tickinglaw02_awake.f k).bind fun t555 => (some t555)) else (some false)))))) = some r := H
  have A4 := Aside0.mk A40
  clear A40
  replace H := Option.bind_eq_some_iff.mp H
  obtain ⟨t550, A50, H⟩ := H
  replace H : ((shunt_CheckStacks.f k t544 t547 t550).bind fun t553 => ((tickingref02_Order.f k t544 60).bind fun t554 => (if t554 = true then ((tickingref02_SidesSort.f t544 t547).bind fun t556 => (if t556 = true then (if (t550.length : Int) = 0 then (tickinglaw02_ShuntStacksChecks.j0 k t553 true) else (if (t547.length : Int) = 0 then (if (t544.length : Int) > 0 then ((tickingref02_StacksBlock.f k t544 t550).bind fun t557 => (tickinglaw02_ShuntStacksChecks.j0 k t553 t557)) else (tickinglaw02_ShuntStacksChecks.j0 k t553 false)) else (tickinglaw02_ShuntStacksChecks.j0 k t553 false))) else (if (t547.length : Int) = 0 then (if (t544.length : Int) > 0 then ((tickingref02_StacksBlock.f k t544 t550).bind fun t558 => (tickinglaw02_ShuntStacksChecks.j0 k t553 t558)) else (tickinglaw02_ShuntStacksChecks.j0 k t553 false)) else (tickinglaw02_ShuntStacksChecks.j0 k t553 false)))) else (if t553 = 2 then ((tickinglaw02_awake.f k).bind fun t555 => (some t555)) else (some false))))) = some r := H
  have A5 := Aside0.mk A50
  clear A50
  replace H := Option.bind_eq_some_iff.mp H
  obtain ⟨t553, A60, H⟩ := H
  replace H : ((tickingref02_Order.f k t544 60).bind fun t554 => (if t554 = true then ((tickingref02_SidesSort.f t544 t547).bind fun t556 => (if t556 = true then (if (t550.length : Int) = 0 then (tickinglaw02_ShuntStacksChecks.j0 k t553 true) else (if (t547.length : Int) = 0 then (if (t544.length : Int) > 0 then ((tickingref02_StacksBlock.f k t544 t550).bind fun t557 => (tickinglaw02_ShuntStacksChecks.j0 k t553 t557)) else (tickinglaw02_ShuntStacksChecks.j0 k t553 false)) else (tickinglaw02_ShuntStacksChecks.j0 k t553 false))) else (if (t547.length : Int) = 0 then (if (t544.length : Int) > 0 then ((tickingref02_StacksBlock.f k t544 t550).bind fun t558 => (tickinglaw02_ShuntStacksChecks.j0 k t553 t558)) else (tickinglaw02_ShuntStacksChecks.j0 k t553 false)) else (tickinglaw02_ShuntStacksChecks.j0 k t553 false)))) else (if t553 = 2 then ((tickinglaw02_awake.f k).bind fun t555 => (some t555)) else (some false)))) = some r := H
  have A6 := Aside0.mk A60
  clear A60
  replace H := Option.bind_eq_some_iff.mp H
  obtain ⟨t554, A70, H⟩ := H
  replace H : (if t554 = true then ((tickingref02_SidesSort.f t544 t547).bind fun t556 => (if t556 = true then (if (t550.length : Int) = 0 then (tickinglaw02_ShuntStacksChecks.j0 k t553 true) else (if (t547.length : Int) = 0 then (if (t544.length : Int) > 0 then ((tickingref02_StacksBlock.f k t544 t550).bind fun t557 => (tickinglaw02_ShuntStacksChecks.j0 k t553 t557)) else (tickinglaw02_ShuntStacksChecks.j0 k t553 false)) else (tickinglaw02_ShuntStacksChecks.j0 k t553 false))) else (if (t547.length : Int) = 0 then (if (t544.length : Int) > 0 then ((tickingref02_StacksBlock.f k t544 t550).bind fun t558 => (tickinglaw02_ShuntStacksChecks.j0 k t553 t558)) else (tickinglaw02_ShuntStacksChecks.j0 k t553 false)) else (tickinglaw02_ShuntStacksChecks.j0 k t553 false)))) else (if t553 = 2 then ((tickinglaw02_awake.f k).bind fun t555 => (some t555)) else (some false))) = some r := H
  have A7 := Aside0.mk A70
  clear A70
  by_cases c8 : t554 = true
  · subst c8
    have H1 : ((tickingref02_SidesSort.f t544 t547).bind fun t556 => (if t556 = true then (if (t550.length : Int) = 0 then (tickinglaw02_ShuntStacksChecks.j0 k t553 true) else (if (t547.length : Int) = 0 then (if (t544.length : Int) > 0 then ((tickingref02_StacksBlock.f k t544 t550).bind fun t557 => (tickinglaw02_ShuntStacksChecks.j0 k t553 t557)) else (tickinglaw02_ShuntStacksChecks.j0 k t553 false)) else (tickinglaw02_ShuntStacksChecks.j0 k t553 false))) else (if (t547.length : Int) = 0 then (if (t544.length : Int) > 0 then ((tickingref02_StacksBlock.f k t544 t550).bind fun t558 => (tickinglaw02_ShuntStacksChecks.j0 k t553 t558)) else (tickinglaw02_ShuntStacksChecks.j0 k t553 false)) else (tickinglaw02_ShuntStacksChecks.j0 k t553 false)))) = some r := by rw [if_pos rfl] at H; exact H
    clear H
    have H := H1
    clear H1
    have HC9 := Aside0.mk H
    clear H
    go_enter Try.func13, Try.ntmps13
    try go_wp2_with (first | ((with_reducible refine gate_dst (N := 3) rfl ?_); (try (refine gate_guard (by rfl) ?_; dsimp only)); refine box_event ?hg (N := 3) ?hd (cs := #[.slice A1_0 l1_0.length c1_0, .slice A1_1 l1_1.length c1_1]) (t := 43) ?hr ?_; (case hd => rfl); (case hg => rfl); (case hr => first | (go_simp; done) | (go_simp; rfl)); intro gb543 hg w10 hbox hb; have n0_ := Aside0.mk (below_step (by repeat (first | (with_reducible first | exact HB.out | apply below_alloc | apply pw_below_drewN | apply below_drew1) | exact HB.out)) hb); have n1_ := Aside0.mk (hbox); have n2_ := Aside0.mk ((by rw [hg]; exact (below_size (by repeat (first | (with_reducible first | exact HB.out | apply below_alloc | apply pw_below_drewN | apply below_drew1) | exact HB.out))) : w.heap.size ≤ gb543)); have n3_ := Aside0.mk ((by rw [hg]; exact (below_size (by repeat (first | (with_reducible first | exact HB.out | apply below_alloc | apply pw_below_drewN | apply below_drew1) | exact HB.out))) : w.heap.size ≤ gb543)); clear HB; have HB := n0_; have BK543 := n1_; have GW543 := n2_; have GE543 := n3_; clear n0_ n1_ n2_ n3_; clear hb hbox hg))
    have n0_ := Aside0.mk (blk_drew BK543.out)
    have n1_ := Aside0.mk (below_drew1 HB.out)
    clear BK543
    clear HB
    have BK543 := n0_
    have HB := n1_
    clear n0_ n1_
    refine start_ (n := 11) (S := fun w' => w'.cell? ⟨gb543, 0, none⟩ = some (.slice A1_0 l1_0.length c1_0) ∧ w'.cell? ⟨gb543, 1, none⟩ = some (.slice A1_1 l1_1.length c1_1)) (ds := []) #[false, false, false, false, false, false, false, false, false, false, false] (by kernel_rfl) rfl rfl ⟨(blk_cell BK543.out 0).trans rfl, (blk_cell BK543.out 1).trans rfl⟩ (fun hHeld => ?_); refine with_tabW tickinglaw02_ShuntStacksChecks.tab1 tickinglaw02_ShuntStacksChecks.bits1 (fun HT_ HW_ => ?_)
    generalize w10.drew = w11 at BK543 HB hHeld ⊢
    refine pure_ (i := 0) (N := some 9) (v := ?_) (a' := ?_) #[true, false, false, false, false, false, false, false, false, false, false] rfl rfl (any_of HT_.out (by kernel_rfl)) (fun _ _ _ h => h) (Or.inl ⟨by rfl, ?_⟩) ?_ ?_
    rotate_left
    · intro w'
      go_simp
      with_reducible rfl
    rotate_left
    · simp only [Act.put, List.setIfInBounds_toArray, List.set_cons_zero, List.set_cons_succ, i64_w, i32_w]
      rfl
    refine pure_ (i := 2) (N := some 11) (v := ?_) (a' := ?_) #[true, false, true, false, false, false, false, false, false, false, false] rfl rfl (any_of HT_.out (by kernel_rfl)) (fun _ _ _ h => h) (Or.inl ⟨by rfl, ?_⟩) ?_ ?_
    rotate_left
    · intro w'
      go_simp
      with_reducible rfl
    rotate_left
    · simp only [Act.put, List.setIfInBounds_toArray, List.set_cons_zero, List.set_cons_succ, i64_w, i32_w]
      rfl
    refine pure_ (i := 5) (N := some 14) (v := ?_) (a' := ?_) #[true, false, true, false, false, true, false, false, false, false, false] rfl rfl (any_of HT_.out (by kernel_rfl)) (fun _ _ _ h => h) (Or.inl ⟨by rfl, ?_⟩) ?_ ?_
    rotate_left
    · intro w'
      go_simp
      with_reducible rfl
    rotate_left
    · simp only [Act.put, List.setIfInBounds_toArray, List.set_cons_zero, List.set_cons_succ, i64_w, i32_w]
      rfl
    refine take_ (i := 3) (N := some 12) (v := ?_) (a' := ?_) #[true, false, true, true, false, true, false, false, false, false, false] rfl rfl (take_ofW HT_.out HW_.out (by kernel_rfl)) (fun _ _ _ h => h) (Or.inl ⟨by rfl, ?_⟩) hHeld ?_ ?_
    rotate_left
    · rintro w' ⟨s0, s1⟩
      go_simp
      with_reducible rfl
    rotate_left
    · simp only [Act.put, List.setIfInBounds_toArray, List.set_cons_zero, List.set_cons_succ, i64_w, i32_w]
      rfl
    refine take_ (i := 6) (N := some 15) (v := ?_) (a' := ?_) #[true, false, true, true, false, true, true, false, false, false, false] rfl rfl (take_ofW HT_.out HW_.out (by kernel_rfl)) (fun _ _ _ h => h) (Or.inl ⟨by rfl, ?_⟩) hHeld ?_ ?_
    rotate_left
    · rintro w' ⟨s0, s1⟩
      go_simp
      with_reducible rfl
    rotate_left
    · simp only [Act.put, List.setIfInBounds_toArray, List.set_cons_zero, List.set_cons_succ, i64_w, i32_w]
      rfl
    refine one_ (i := 1) (N := some 10) #[true, true, true, true, false, true, true, false, false, false, false] rfl rfl (one_of HT_.out (by kernel_rfl)) (by decide) (fun K hK => ?_)
    refine goes_ Try.func18 (by kernel_rfl) rfl #[.slice A0 l0.length c0] (by rfl) rfl rfl (by (try simp only [List.map_toArray, List.map_cons, List.map_nil]); first | done | rfl | (simp only [List.length_drop, List.length_take]; rfl)) ?_
    with_reducible refine (tickinglaw02_list.calls _ _ l0 t544 _ ?side1 ?side2 A3.out).mono ?_
    (case side1 => repeat (first | exact (Kd.C_below HR0.out HB.out) | (with_reducible refine Kd.C_alloc ?_ _) | (with_reducible refine Kd.C_drewN ?_ _) | (with_reducible refine Kd.C_drew ?_)))
    (case side2 => exact HC0.out)
    rintro e w12 ⟨v545, rfl, ho0, hb⟩
    refine ⟨_, rfl, ?_⟩
    have n0_ := Aside0.mk (Kd.R_lower ho0 (below_size (by repeat (first | (with_reducible first | exact HB.out | apply below_alloc | apply pw_below_drewN | apply below_drew1 | refine below_set ?_ GE543.out) | exact HB.out))))
    have n1_ := Aside0.mk (blk_below (g := gb543) (o := .cells #[.slice A1_0 l1_0.length c1_0, .slice A1_1 l1_1.length c1_1] 43 (0, 0)) (by (with_reducible repeat (first | refine blk_drewN ?_ _ | refine blk_drew ?_ | refine blk_alloc ?_ _)); exact BK543.out) hb)
    have n2_ := Aside0.mk (below_step (by repeat (first | (with_reducible first | exact HB.out | apply below_alloc | apply pw_below_drewN | apply below_drew1 | refine below_set ?_ GE543.out) | exact HB.out)) hb)
    clear BK543
    clear HB
    have HO546 := n0_
    have BK543 := n1_
    have HB := n2_
    clear n0_ n1_ n2_
    (try clear hb)
    (try clear hb2)
    (try clear hk)
    (try clear hi)
    (try clear ho0)
    refine hK.out _ _ ⟨(blk_cell BK543.out 0).trans rfl, (blk_cell BK543.out 1).trans rfl⟩ (fun hHeld => ?_)
    clear hK K
    refine norm_ (a' := ?_) ?_ ?_
    rotate_left
    · show Act.put _ (some 10) _ = _
      simp only [Act.put, List.setIfInBounds_toArray, List.set_cons_zero, List.set_cons_succ, i64_w, i32_w]
      rfl
    refine one_ (i := 4) (N := some 13) #[true, true, true, true, true, true, true, false, false, false, false] rfl rfl (one_of HT_.out (by kernel_rfl)) (by decide) (fun K hK => ?_)
    refine goes_ Try.func18 (by kernel_rfl) rfl #[.slice A1_0 l1_0.length c1_0] (by rfl) rfl rfl (by (try simp only [List.map_toArray, List.map_cons, List.map_nil]); first | done | rfl | (simp only [List.length_drop, List.length_take]; rfl)) ?_
    with_reducible refine (tickinglaw02_list.calls _ _ l1_0 t547 _ ?side1 ?side2 A4.out).mono ?_
    (case side1 => repeat (first | exact (Kd.C_below HR1_0.out HB.out) | (with_reducible refine Kd.C_alloc ?_ _) | (with_reducible refine Kd.C_drewN ?_ _) | (with_reducible refine Kd.C_drew ?_)))
    (case side2 => exact HC1_0.out)
    rintro e w13 ⟨v548, rfl, ho0, hb⟩
    refine ⟨_, rfl, ?_⟩
    have n0_ := Aside0.mk (Kd.R_elder' (by (with_reducible repeat (first | apply Kd.R_alloc | apply Kd.R_drewN | apply Kd.R_drew)); exact HO546.out) (Kd.R_base ho0) hb)
    have n1_ := Aside0.mk (Kd.R_lower (Kd.R_new' ho0 (Kd.R_lt (by (with_reducible repeat (first | apply Kd.R_alloc | apply Kd.R_drewN | apply Kd.R_drew)); exact HO546.out))) (below_size (by repeat (first | (with_reducible first | exact HB.out | apply below_alloc | apply pw_below_drewN | apply below_drew1 | refine below_set ?_ GE543.out) | exact HB.out))))
    have n2_ := Aside0.mk (blk_below (g := gb543) (o := .cells #[.slice A1_0 l1_0.length c1_0, .slice A1_1 l1_1.length c1_1] 43 (0, 0)) (by (with_reducible repeat (first | refine blk_drewN ?_ _ | refine blk_drew ?_ | refine blk_alloc ?_ _)); exact BK543.out) hb)
    have n3_ := Aside0.mk (below_step (by repeat (first | (with_reducible first | exact HB.out | apply below_alloc | apply pw_below_drewN | apply below_drew1 | refine below_set ?_ GE543.out) | exact HB.out)) hb)
    clear HO546
    clear BK543
    clear HB
    have HO546 := n0_
    have HO549 := n1_
    have BK543 := n2_
    have HB := n3_
    clear n0_ n1_ n2_ n3_
    (try clear hb)
    (try clear hb2)
    (try clear hk)
    (try clear hi)
    (try clear ho0)
    refine hK.out _ _ ⟨(blk_cell BK543.out 0).trans rfl, (blk_cell BK543.out 1).trans rfl⟩ (fun hHeld => ?_)
    clear hK K
    refine norm_ (a' := ?_) ?_ ?_
    rotate_left
    · show Act.put _ (some 13) _ = _
      simp only [Act.put, List.setIfInBounds_toArray, List.set_cons_zero, List.set_cons_succ, i64_w, i32_w]
      rfl
    refine one_ (i := 7) (N := some 16) #[true, true, true, true, true, true, true, true, false, false, false] rfl rfl (one_of HT_.out (by kernel_rfl)) (by decide) (fun K hK => ?_)
    refine goes_ Try.func18 (by kernel_rfl) rfl #[.slice A1_1 l1_1.length c1_1] (by rfl) rfl rfl (by (try simp only [List.map_toArray, List.map_cons, List.map_nil]); first | done | rfl | (simp only [List.length_drop, List.length_take]; rfl)) ?_
    with_reducible refine (tickinglaw02_list.calls _ _ l1_1 t550 _ ?side1 ?side2 A5.out).mono ?_
    (case side1 => repeat (first | exact (Kd.C_below HR1_1.out HB.out) | (with_reducible refine Kd.C_alloc ?_ _) | (with_reducible refine Kd.C_drewN ?_ _) | (with_reducible refine Kd.C_drew ?_)))
    (case side2 => exact HC1_1.out)
    rintro e w14 ⟨v551, rfl, ho0, hb⟩
    refine ⟨_, rfl, ?_⟩
    have n0_ := Aside0.mk (Kd.R_elder' (by (with_reducible repeat (first | apply Kd.R_alloc | apply Kd.R_drewN | apply Kd.R_drew)); exact HO546.out) (Kd.R_base ho0) hb)
    have n1_ := Aside0.mk (Kd.R_elder' (by (with_reducible repeat (first | apply Kd.R_alloc | apply Kd.R_drewN | apply Kd.R_drew)); exact HO549.out) (Kd.R_base ho0) hb)
    have n2_ := Aside0.mk (Kd.R_lower (Kd.R_new' (Kd.R_new' ho0 (Kd.R_lt (by (with_reducible repeat (first | apply Kd.R_alloc | apply Kd.R_drewN | apply Kd.R_drew)); exact HO546.out))) (Kd.R_lt (by (with_reducible repeat (first | apply Kd.R_alloc | apply Kd.R_drewN | apply Kd.R_drew)); exact HO549.out))) (below_size (by repeat (first | (with_reducible first | exact HB.out | apply below_alloc | apply pw_below_drewN | apply below_drew1 | refine below_set ?_ GE543.out) | exact HB.out))))
    have n3_ := Aside0.mk (blk_below (g := gb543) (o := .cells #[.slice A1_0 l1_0.length c1_0, .slice A1_1 l1_1.length c1_1] 43 (0, 0)) (by (with_reducible repeat (first | refine blk_drewN ?_ _ | refine blk_drew ?_ | refine blk_alloc ?_ _)); exact BK543.out) hb)
    have n4_ := Aside0.mk (below_step (by repeat (first | (with_reducible first | exact HB.out | apply below_alloc | apply pw_below_drewN | apply below_drew1 | refine below_set ?_ GE543.out) | exact HB.out)) hb)
    clear HO546
    clear HO549
    clear BK543
    clear HB
    have HO546 := n0_
    have HO549 := n1_
    have HO552 := n2_
    have BK543 := n3_
    have HB := n4_
    clear n0_ n1_ n2_ n3_ n4_
    (try clear hb)
    (try clear hb2)
    (try clear hk)
    (try clear hi)
    (try clear ho0)
    refine hK.out _ _ ⟨(blk_cell BK543.out 0).trans rfl, (blk_cell BK543.out 1).trans rfl⟩ (fun hHeld => ?_)
    clear hK K
    refine norm_ (a' := ?_) ?_ ?_
    rotate_left
    · show Act.put _ (some 16) _ = _
      simp only [Act.put, List.setIfInBounds_toArray, List.set_cons_zero, List.set_cons_succ, i64_w, i32_w]
      rfl
    refine pure_ (i := 8) (N := some 5) (v := ?_) (a' := ?_) #[true, true, true, true, true, true, true, true, true, false, false] rfl rfl (any_of HT_.out (by kernel_rfl)) (fun _ _ _ h => h) (Or.inl ⟨by rfl, ?_⟩) ?_ ?_
    rotate_left
    · intro w'
      go_simp
      with_reducible rfl
    rotate_left
    · simp only [Act.put, List.setIfInBounds_toArray, List.set_cons_zero, List.set_cons_succ, i64_w, i32_w]
      rfl
    refine pure_ (i := 9) (N := some 6) (v := ?_) (a' := ?_) #[true, true, true, true, true, true, true, true, true, true, false] rfl rfl (any_of HT_.out (by kernel_rfl)) (fun _ _ _ h => h) (Or.inl ⟨by rfl, ?_⟩) ?_ ?_
    rotate_left
    · intro w'
      go_simp
      with_reducible rfl
    rotate_left
    · simp only [Act.put, List.setIfInBounds_toArray, List.set_cons_zero, List.set_cons_succ, i64_w, i32_w]
      rfl
    refine pure_ (i := 10) (N := some 7) (v := ?_) (a' := ?_) #[true, true, true, true, true, true, true, true, true, true, true] rfl rfl (any_of HT_.out (by kernel_rfl)) (fun _ _ _ h => h) (Or.inl ⟨by rfl, ?_⟩) ?_ ?_
    rotate_left
    · intro w'
      go_simp
      with_reducible rfl
    rotate_left
    · simp only [Act.put, List.setIfInBounds_toArray, List.set_cons_zero, List.set_cons_succ, i64_w, i32_w]
      rfl
    refine done_ (done_of HT_.out (by kernel_rfl)) ?_
    obtain ⟨Ao15, co15, eo15⟩ := Kd.R_slice HO546.out
    subst eo15
    obtain ⟨Ao16, co16, eo16⟩ := Kd.R_slice HO549.out
    subst eo16
    obtain ⟨Ao17, co17, eo17⟩ := Kd.R_slice HO552.out
    subst eo17
    go_upto_region 5 with (first | ((with_reducible refine gate_callee (f := 45) rfl ?_); refine goesL_ (some 20) rfl rfl Try.func45 (by kernel_rfl) rfl #[.slice Ao15 t544.length co15, .slice Ao16 t547.length co16, .slice Ao17 t550.length co17] rfl (by (try simp only [List.map_toArray, List.map_cons, List.map_nil]); first | done | rfl | (simp only [List.length_drop, List.length_take]; rfl)) ?_; (with_reducible refine (shunt_CheckStacks.calls k _ _ t544 _ _ t547 _ _ t550 t553 _ ?side1 ?side2 ?side3 ?side4 ?side5 ?side6 A6.out).mono ?_); (case side1 => repeat (first | exact (Kd.R_reads' HO546.out).2.2 | (with_reducible refine Kd.C_alloc ?_ _) | (with_reducible refine Kd.C_drewN ?_ _) | (with_reducible refine Kd.C_drew ?_))); (case side2 => exact (Kd.R_reads' HO546.out).2.1); (case side3 => repeat (first | exact (Kd.R_reads' HO549.out).2.2 | (with_reducible refine Kd.C_alloc ?_ _) | (with_reducible refine Kd.C_drewN ?_ _) | (with_reducible refine Kd.C_drew ?_))); (case side4 => exact (Kd.R_reads' HO549.out).2.1); (case side5 => repeat (first | exact (Kd.R_reads' HO552.out).2.2 | (with_reducible refine Kd.C_alloc ?_ _) | (with_reducible refine Kd.C_drewN ?_ _) | (with_reducible refine Kd.C_drew ?_))); (case side6 => exact (Kd.R_reads' HO552.out).2.1); rintro e w18 ⟨rfl, hb⟩; refine ⟨_, rfl, ?_⟩; have n0_ := Aside0.mk (Kd.R_below (by (with_reducible repeat (first | apply Kd.R_alloc | apply Kd.R_drewN | apply Kd.R_drew)); exact HO546.out) hb); have n1_ := Aside0.mk (Kd.R_below (by (with_reducible repeat (first | apply Kd.R_alloc | apply Kd.R_drewN | apply Kd.R_drew)); exact HO549.out) hb); have n2_ := Aside0.mk (Kd.R_below (by (with_reducible repeat (first | apply Kd.R_alloc | apply Kd.R_drewN | apply Kd.R_drew)); exact HO552.out) hb); have n3_ := Aside0.mk (blk_below (g := gb543) (o := .cells #[.slice A1_0 l1_0.length c1_0, .slice A1_1 l1_1.length c1_1] 43 (0, 0)) (by (with_reducible repeat (first | refine blk_drewN ?_ _ | refine blk_drew ?_ | refine blk_alloc ?_ _)); exact BK543.out) hb); have n4_ := Aside0.mk (below_step (by repeat (first | (with_reducible first | exact HB.out | apply below_alloc | apply pw_below_drewN | apply below_drew1 | refine below_set ?_ GE543.out) | exact HB.out)) hb); clear HO546; clear HO549; clear HO552; clear BK543; clear HB; have HO546 := n0_; have HO549 := n1_; have HO552 := n2_; have BK543 := n3_; have HB := n4_; clear n0_ n1_ n2_ n3_ n4_; (try clear hb); (try clear hb2); (try clear hk); (try clear hi)) | ((with_reducible refine gate_callee (f := 21) rfl ?_); refine goesL_ (some 22) rfl rfl Try.func21 (by kernel_rfl) rfl #[.slice Ao15 t544.length co15, .int .i64 60] rfl (by (try simp only [List.map_toArray, List.map_cons, List.map_nil]); first | done | rfl | (simp only [List.length_drop, List.length_take]; rfl)) ?_; (with_reducible refine (tickingref02_Order.calls k _ _ t544 60 true _ ?side1 ?side2 A7.out).mono ?_); (case side1 => repeat (first | exact (Kd.R_reads' HO546.out).2.2 | (with_reducible refine Kd.C_alloc ?_ _) | (with_reducible refine Kd.C_drewN ?_ _) | (with_reducible refine Kd.C_drew ?_))); (case side2 => exact (Kd.R_reads' HO546.out).2.1); rintro e w' ⟨rfl, ⟨nd, rfl⟩⟩; refine ⟨_, rfl, ?_⟩))
    (try simp only [Act.put, List.setIfInBounds_toArray, List.set_cons_zero, List.set_cons_succ])
    go_cut [51] (fun v51 wc => ∃ (kq : Nat) (x51_8 : Bool), v51 = .bool x51_8 ∧ Aside0 (tickinglaw02_ShuntStacksChecks.j0 kq t553 x51_8 = some r) ∧ Aside0 (kq ≤ k) ∧ Aside0 (wc.heap[gb543]? = some (.cells #[(.slice A1_0 l1_0.length c1_0), (.slice A1_1 l1_1.length c1_1)] 43 (0, 0))) ∧ Aside0 (Below w.heap.size w wc))
    case first =>
      have H := HC9.out
      clear HC9
      replace H := Option.bind_eq_some_iff.mp H
      obtain ⟨t556, A190, H⟩ := H
      replace H : (if t556 = true then (if (t550.length : Int) = 0 then (tickinglaw02_ShuntStacksChecks.j0 k t553 true) else (if (t547.length : Int) = 0 then (if (t544.length : Int) > 0 then ((tickingref02_StacksBlock.f k t544 t550).bind fun t557 => (tickinglaw02_ShuntStacksChecks.j0 k t553 t557)) else (tickinglaw02_ShuntStacksChecks.j0 k t553 false)) else (tickinglaw02_ShuntStacksChecks.j0 k t553 false))) else (if (t547.length : Int) = 0 then (if (t544.length : Int) > 0 then ((tickingref02_StacksBlock.f k t544 t550).bind fun t558 => (tickinglaw02_ShuntStacksChecks.j0 k t553 t558)) else (tickinglaw02_ShuntStacksChecks.j0 k t553 false)) else (tickinglaw02_ShuntStacksChecks.j0 k t553 false))) = some r := H
      have A19 := Aside0.mk A190
      clear A190
      by_cases c20 : t556 = true
      · subst c20
        have H1 : (if (t550.length : Int) = 0 then (tickinglaw02_ShuntStacksChecks.j0 k t553 true) else (if (t547.length : Int) = 0 then (if (t544.length : Int) > 0 then ((tickingref02_StacksBlock.f k t544 t550).bind fun t557 => (tickinglaw02_ShuntStacksChecks.j0 k t553 t557)) else (tickinglaw02_ShuntStacksChecks.j0 k t553 false)) else (tickinglaw02_ShuntStacksChecks.j0 k t553 false))) = some r := by rw [if_pos rfl] at H; exact H
        clear H
        have H := H1
        clear H1
        by_cases c21 : (t550.length : Int) = 0
        · rw [if_pos c21] at H
          have c21b0 : ((t550.length : Int) == 0) = true := beq_iff_eq.mpr c21
          have c21b1 : ((t550.length : Int) != 0) = false := bne_eq_false_iff_eq.mpr c21
          clear c21
          (first | rw [c21b0] | (simp only [i64_w, i32_w]; rw [c21b0]) | skip)
          have H' := Aside0.mk H
          clear H
          go_wp2_with (first | ((with_reducible refine gate_callee (f := 46) rfl ?_); refine goesL_ (some 31) rfl rfl Try.func46 (by kernel_rfl) rfl #[.slice Ao15 t544.length co15, .slice Ao16 t547.length co16] rfl (by (try simp only [List.map_toArray, List.map_cons, List.map_nil]); first | done | rfl | (simp only [List.length_drop, List.length_take]; rfl)) ?_; (with_reducible refine (tickingref02_SidesSort.calls _ _ t544 _ _ t547 true _ ?side1 ?side2 ?side3 ?side4 A19.out).mono ?_); (case side1 => repeat (first | exact (Kd.R_reads' HO546.out).2.2 | (with_reducible refine Kd.C_alloc ?_ _) | (with_reducible refine Kd.C_drewN ?_ _) | (with_reducible refine Kd.C_drew ?_))); (case side2 => exact (Kd.R_reads' HO546.out).2.1); (case side3 => repeat (first | exact (Kd.R_reads' HO549.out).2.2 | (with_reducible refine Kd.C_alloc ?_ _) | (with_reducible refine Kd.C_drewN ?_ _) | (with_reducible refine Kd.C_drew ?_))); (case side4 => exact (Kd.R_reads' HO549.out).2.1); rintro e w22 ⟨rfl, hb⟩; refine ⟨_, rfl, ?_⟩; have n0_ := Aside0.mk (Kd.R_below (by (with_reducible repeat (first | apply Kd.R_alloc | apply Kd.R_drewN | apply Kd.R_drew)); exact HO546.out) hb); have n1_ := Aside0.mk (Kd.R_below (by (with_reducible repeat (first | apply Kd.R_alloc | apply Kd.R_drewN | apply Kd.R_drew)); exact HO549.out) hb); have n2_ := Aside0.mk (Kd.R_below (by (with_reducible repeat (first | apply Kd.R_alloc | apply Kd.R_drewN | apply Kd.R_drew)); exact HO552.out) hb); have n3_ := Aside0.mk (blk_below (g := gb543) (o := .cells #[.slice A1_0 l1_0.length c1_0, .slice A1_1 l1_1.length c1_1] 43 (0, 0)) (by (with_reducible repeat (first | refine blk_drewN ?_ _ | refine blk_drew ?_ | refine blk_alloc ?_ _)); exact BK543.out) hb); have n4_ := Aside0.mk (below_step (by repeat (first | (with_reducible first | exact HB.out | apply below_alloc | apply pw_below_drewN | apply below_drew1 | refine below_set ?_ GE543.out) | exact HB.out)) hb); clear HO546; clear HO549; clear HO552; clear BK543; clear HB; have HO546 := n0_; have HO549 := n1_; have HO552 := n2_; have BK543 := n3_; have HB := n4_; clear n0_ n1_ n2_ n3_ n4_; (try clear hb); (try clear hb2); (try clear hk); (try clear hi)))
          go_meet
          case rel => exact ⟨_, (true), (by first | rfl | (simp; done) | (simp [*]; done)), H', ⟨by first | omega | exact Nat.le_refl _⟩, ⟨by (with_reducible repeat (first | refine blk_drewN ?_ _ | refine blk_drew ?_ | refine blk_alloc ?_ _)); exact BK543.out⟩, ⟨by repeat (first | (with_reducible first | exact HB.out | apply below_alloc | apply pw_below_drewN | apply below_drew1 | refine below_set ?_ GE543.out) | exact HB.out)⟩⟩
        · rw [if_neg c21] at H
          have c21b0 : ((t550.length : Int) == 0) = false := beq_eq_false_iff_ne.mpr c21
          have c21b1 : ((t550.length : Int) != 0) = true := bne_iff_ne.mpr c21
          have c21b2 : ¬ (t550 = []) := fun h_ => c21 (by rw [h_]; rfl)
          (first | rw [c21b0] | (simp only [i64_w, i32_w]; rw [c21b0]) | skip)
          by_cases c23 : (t547.length : Int) = 0
          · rw [if_pos c23] at H
            have c23b0 : ((t547.length : Int) == 0) = true := beq_iff_eq.mpr c23
            have c23b1 : ((t547.length : Int) != 0) = false := bne_eq_false_iff_eq.mpr c23
            clear c23
            by_cases c24 : (t544.length : Int) > 0
            · rw [if_pos c24] at H
              have c24b0 : decide (0 < (t544.length : Int)) = true := decide_eq_true c24
              have c24b1 : decide (0 < t544.length) = true := decide_eq_true (by omega)
              clear c24
              replace H := Option.bind_eq_some_iff.mp H
              obtain ⟨t557, A250, H⟩ := H
              replace H : (tickinglaw02_ShuntStacksChecks.j0 k t553 t557) = some r := H
              have A25 := Aside0.mk A250
              clear A250
              have H' := Aside0.mk H
              clear H
              go_wp2_with (first | ((with_reducible refine gate_callee (f := 46) rfl ?_); refine goesL_ (some 31) rfl rfl Try.func46 (by kernel_rfl) rfl #[.slice Ao15 t544.length co15, .slice Ao16 t547.length co16] rfl (by (try simp only [List.map_toArray, List.map_cons, List.map_nil]); first | done | rfl | (simp only [List.length_drop, List.length_take]; rfl)) ?_; (with_reducible refine (tickingref02_SidesSort.calls _ _ t544 _ _ t547 true _ ?side1 ?side2 ?side3 ?side4 A19.out).mono ?_); (case side1 => repeat (first | exact (Kd.R_reads' HO546.out).2.2 | (with_reducible refine Kd.C_alloc ?_ _) | (with_reducible refine Kd.C_drewN ?_ _) | (with_reducible refine Kd.C_drew ?_))); (case side2 => exact (Kd.R_reads' HO546.out).2.1); (case side3 => repeat (first | exact (Kd.R_reads' HO549.out).2.2 | (with_reducible refine Kd.C_alloc ?_ _) | (with_reducible refine Kd.C_drewN ?_ _) | (with_reducible refine Kd.C_drew ?_))); (case side4 => exact (Kd.R_reads' HO549.out).2.1); rintro e w26 ⟨rfl, hb⟩; refine ⟨_, rfl, ?_⟩; have n0_ := Aside0.mk (Kd.R_below (by (with_reducible repeat (first | apply Kd.R_alloc | apply Kd.R_drewN | apply Kd.R_drew)); exact HO546.out) hb); have n1_ := Aside0.mk (Kd.R_below (by (with_reducible repeat (first | apply Kd.R_alloc | apply Kd.R_drewN | apply Kd.R_drew)); exact HO549.out) hb); have n2_ := Aside0.mk (Kd.R_below (by (with_reducible repeat (first | apply Kd.R_alloc | apply Kd.R_drewN | apply Kd.R_drew)); exact HO552.out) hb); have n3_ := Aside0.mk (blk_below (g := gb543) (o := .cells #[.slice A1_0 l1_0.length c1_0, .slice A1_1 l1_1.length c1_1] 43 (0, 0)) (by (with_reducible repeat (first | refine blk_drewN ?_ _ | refine blk_drew ?_ | refine blk_alloc ?_ _)); exact BK543.out) hb); have n4_ := Aside0.mk (below_step (by repeat (first | (with_reducible first | exact HB.out | apply below_alloc | apply pw_below_drewN | apply below_drew1 | refine below_set ?_ GE543.out) | exact HB.out)) hb); clear HO546; clear HO549; clear HO552; clear BK543; clear HB; have HO546 := n0_; have HO549 := n1_; have HO552 := n2_; have BK543 := n3_; have HB := n4_; clear n0_ n1_ n2_ n3_ n4_; (try clear hb); (try clear hb2); (try clear hk); (try clear hi)) | (go_at_call 47; (with_reducible refine (tickingref02_StacksBlock.calls k _ _ t544 _ _ t550 t557 _ ?side1 ?side2 ?side3 ?side4 A25.out).mono ?_); (case side1 => repeat (first | exact (Kd.R_reads' HO546.out).2.2 | (with_reducible refine Kd.C_alloc ?_ _) | (with_reducible refine Kd.C_drewN ?_ _) | (with_reducible refine Kd.C_drew ?_))); (case side2 => exact (Kd.R_reads' HO546.out).2.1); (case side3 => repeat (first | exact (Kd.R_reads' HO552.out).2.2 | (with_reducible refine Kd.C_alloc ?_ _) | (with_reducible refine Kd.C_drewN ?_ _) | (with_reducible refine Kd.C_drew ?_))); (case side4 => exact (Kd.R_reads' HO552.out).2.1); rintro e w27 ⟨rfl, hb⟩; have n0_ := Aside0.mk (Kd.R_below (by (with_reducible repeat (first | apply Kd.R_alloc | apply Kd.R_drewN | apply Kd.R_drew)); exact HO546.out) hb); have n1_ := Aside0.mk (Kd.R_below (by (with_reducible repeat (first | apply Kd.R_alloc | apply Kd.R_drewN | apply Kd.R_drew)); exact HO549.out) hb); have n2_ := Aside0.mk (Kd.R_below (by (with_reducible repeat (first | apply Kd.R_alloc | apply Kd.R_drewN | apply Kd.R_drew)); exact HO552.out) hb); have n3_ := Aside0.mk (blk_below (g := gb543) (o := .cells #[.slice A1_0 l1_0.length c1_0, .slice A1_1 l1_1.length c1_1] 43 (0, 0)) (by (with_reducible repeat (first | refine blk_drewN ?_ _ | refine blk_drew ?_ | refine blk_alloc ?_ _)); exact BK543.out) hb); have n4_ := Aside0.mk (below_step (by repeat (first | (with_reducible first | exact HB.out | apply below_alloc | apply pw_below_drewN | apply below_drew1 | refine below_set ?_ GE543.out) | exact HB.out)) hb); clear HO546; clear HO549; clear HO552; clear BK543; clear HB; have HO546 := n0_; have HO549 := n1_; have HO552 := n2_; have BK543 := n3_; have HB := n4_; clear n0_ n1_ n2_ n3_ n4_; (try clear hb); (try clear hb2); (try clear hk); (try clear hi)))
              go_meet
              case rel => exact ⟨_, (t557), (by first | rfl | (simp; done) | (simp [*]; done)), H', ⟨by first | omega | exact Nat.le_refl _⟩, ⟨by (with_reducible repeat (first | refine blk_drewN ?_ _ | refine blk_drew ?_ | refine blk_alloc ?_ _)); exact BK543.out⟩, ⟨by repeat (first | (with_reducible first | exact HB.out | apply below_alloc | apply pw_below_drewN | apply below_drew1 | refine below_set ?_ GE543.out) | exact HB.out)⟩⟩
            · rw [if_neg c24] at H
              have c24b0 : decide (0 < (t544.length : Int)) = false := decide_eq_false c24
              have c24b1 : decide (0 < t544.length) = false := decide_eq_false (by omega)
              clear c24
              have H' := Aside0.mk H
              clear H
              go_wp2_with (first | ((with_reducible refine gate_callee (f := 46) rfl ?_); refine goesL_ (some 31) rfl rfl Try.func46 (by kernel_rfl) rfl #[.slice Ao15 t544.length co15, .slice Ao16 t547.length co16] rfl (by (try simp only [List.map_toArray, List.map_cons, List.map_nil]); first | done | rfl | (simp only [List.length_drop, List.length_take]; rfl)) ?_; (with_reducible refine (tickingref02_SidesSort.calls _ _ t544 _ _ t547 true _ ?side1 ?side2 ?side3 ?side4 A19.out).mono ?_); (case side1 => repeat (first | exact (Kd.R_reads' HO546.out).2.2 | (with_reducible refine Kd.C_alloc ?_ _) | (with_reducible refine Kd.C_drewN ?_ _) | (with_reducible refine Kd.C_drew ?_))); (case side2 => exact (Kd.R_reads' HO546.out).2.1); (case side3 => repeat (first | exact (Kd.R_reads' HO549.out).2.2 | (with_reducible refine Kd.C_alloc ?_ _) | (with_reducible refine Kd.C_drewN ?_ _) | (with_reducible refine Kd.C_drew ?_))); (case side4 => exact (Kd.R_reads' HO549.out).2.1); rintro e w28 ⟨rfl, hb⟩; refine ⟨_, rfl, ?_⟩; have n0_ := Aside0.mk (Kd.R_below (by (with_reducible repeat (first | apply Kd.R_alloc | apply Kd.R_drewN | apply Kd.R_drew)); exact HO546.out) hb); have n1_ := Aside0.mk (Kd.R_below (by (with_reducible repeat (first | apply Kd.R_alloc | apply Kd.R_drewN | apply Kd.R_drew)); exact HO549.out) hb); have n2_ := Aside0.mk (Kd.R_below (by (with_reducible repeat (first | apply Kd.R_alloc | apply Kd.R_drewN | apply Kd.R_drew)); exact HO552.out) hb); have n3_ := Aside0.mk (blk_below (g := gb543) (o := .cells #[.slice A1_0 l1_0.length c1_0, .slice A1_1 l1_1.length c1_1] 43 (0, 0)) (by (with_reducible repeat (first | refine blk_drewN ?_ _ | refine blk_drew ?_ | refine blk_alloc ?_ _)); exact BK543.out) hb); have n4_ := Aside0.mk (below_step (by repeat (first | (with_reducible first | exact HB.out | apply below_alloc | apply pw_below_drewN | apply below_drew1 | refine below_set ?_ GE543.out) | exact HB.out)) hb); clear HO546; clear HO549; clear HO552; clear BK543; clear HB; have HO546 := n0_; have HO549 := n1_; have HO552 := n2_; have BK543 := n3_; have HB := n4_; clear n0_ n1_ n2_ n3_ n4_; (try clear hb); (try clear hb2); (try clear hk); (try clear hi)))
              go_meet
              case rel => exact ⟨_, (false), (by first | rfl | (simp; done) | (simp [*]; done)), H', ⟨by first | omega | exact Nat.le_refl _⟩, ⟨by (with_reducible repeat (first | refine blk_drewN ?_ _ | refine blk_drew ?_ | refine blk_alloc ?_ _)); exact BK543.out⟩, ⟨by repeat (first | (with_reducible first | exact HB.out | apply below_alloc | apply pw_below_drewN | apply below_drew1 | refine below_set ?_ GE543.out) | exact HB.out)⟩⟩
          · rw [if_neg c23] at H
            have c23b0 : ((t547.length : Int) == 0) = false := beq_eq_false_iff_ne.mpr c23
            have c23b1 : ((t547.length : Int) != 0) = true := bne_iff_ne.mpr c23
            have c23b2 : ¬ (t547 = []) := fun h_ => c23 (by rw [h_]; rfl)
            have H' := Aside0.mk H
            clear H
            go_wp2_with (first | ((with_reducible refine gate_callee (f := 46) rfl ?_); refine goesL_ (some 31) rfl rfl Try.func46 (by kernel_rfl) rfl #[.slice Ao15 t544.length co15, .slice Ao16 t547.length co16] rfl (by (try simp only [List.map_toArray, List.map_cons, List.map_nil]); first | done | rfl | (simp only [List.length_drop, List.length_take]; rfl)) ?_; (with_reducible refine (tickingref02_SidesSort.calls _ _ t544 _ _ t547 true _ ?side1 ?side2 ?side3 ?side4 A19.out).mono ?_); (case side1 => repeat (first | exact (Kd.R_reads' HO546.out).2.2 | (with_reducible refine Kd.C_alloc ?_ _) | (with_reducible refine Kd.C_drewN ?_ _) | (with_reducible refine Kd.C_drew ?_))); (case side2 => exact (Kd.R_reads' HO546.out).2.1); (case side3 => repeat (first | exact (Kd.R_reads' HO549.out).2.2 | (with_reducible refine Kd.C_alloc ?_ _) | (with_reducible refine Kd.C_drewN ?_ _) | (with_reducible refine Kd.C_drew ?_))); (case side4 => exact (Kd.R_reads' HO549.out).2.1); rintro e w29 ⟨rfl, hb⟩; refine ⟨_, rfl, ?_⟩; have n0_ := Aside0.mk (Kd.R_below (by (with_reducible repeat (first | apply Kd.R_alloc | apply Kd.R_drewN | apply Kd.R_drew)); exact HO546.out) hb); have n1_ := Aside0.mk (Kd.R_below (by (with_reducible repeat (first | apply Kd.R_alloc | apply Kd.R_drewN | apply Kd.R_drew)); exact HO549.out) hb); have n2_ := Aside0.mk (Kd.R_below (by (with_reducible repeat (first | apply Kd.R_alloc | apply Kd.R_drewN | apply Kd.R_drew)); exact HO552.out) hb); have n3_ := Aside0.mk (blk_below (g := gb543) (o := .cells #[.slice A1_0 l1_0.length c1_0, .slice A1_1 l1_1.length c1_1] 43 (0, 0)) (by (with_reducible repeat (first | refine blk_drewN ?_ _ | refine blk_drew ?_ | refine blk_alloc ?_ _)); exact BK543.out) hb); have n4_ := Aside0.mk (below_step (by repeat (first | (with_reducible first | exact HB.out | apply below_alloc | apply pw_below_drewN | apply below_drew1 | refine below_set ?_ GE543.out) | exact HB.out)) hb); clear HO546; clear HO549; clear HO552; clear BK543; clear HB; have HO546 := n0_; have HO549 := n1_; have HO552 := n2_; have BK543 := n3_; have HB := n4_; clear n0_ n1_ n2_ n3_ n4_; (try clear hb); (try clear hb2); (try clear hk); (try clear hi)))
            go_meet
            case rel => exact ⟨_, (false), (by first | rfl | (simp; done) | (simp [*]; done)), H', ⟨by first | omega | exact Nat.le_refl _⟩, ⟨by (with_reducible repeat (first | refine blk_drewN ?_ _ | refine blk_drew ?_ | refine blk_alloc ?_ _)); exact BK543.out⟩, ⟨by repeat (first | (with_reducible first | exact HB.out | apply below_alloc | apply pw_below_drewN | apply below_drew1 | refine below_set ?_ GE543.out) | exact HB.out)⟩⟩
      · replace c20 := Bool.eq_false_iff.mpr c20
        subst c20
        have H1 : (if (t547.length : Int) = 0 then (if (t544.length : Int) > 0 then ((tickingref02_StacksBlock.f k t544 t550).bind fun t558 => (tickinglaw02_ShuntStacksChecks.j0 k t553 t558)) else (tickinglaw02_ShuntStacksChecks.j0 k t553 false)) else (tickinglaw02_ShuntStacksChecks.j0 k t553 false)) = some r := by rw [if_neg (show ¬ (false = true) by decide)] at H; exact H
        clear H
        have H := H1
        clear H1
        by_cases c30 : (t547.length : Int) = 0
        · rw [if_pos c30] at H
          have c30b0 : ((t547.length : Int) == 0) = true := beq_iff_eq.mpr c30
          have c30b1 : ((t547.length : Int) != 0) = false := bne_eq_false_iff_eq.mpr c30
          clear c30
          by_cases c31 : (t544.length : Int) > 0
          · rw [if_pos c31] at H
            have c31b0 : decide (0 < (t544.length : Int)) = true := decide_eq_true c31
            have c31b1 : decide (0 < t544.length) = true := decide_eq_true (by omega)
            clear c31
            replace H := Option.bind_eq_some_iff.mp H
            obtain ⟨t558, A320, H⟩ := H
            replace H : (tickinglaw02_ShuntStacksChecks.j0 k t553 t558) = some r := H
            have A32 := Aside0.mk A320
            clear A320
            have H' := Aside0.mk H
            clear H
            go_wp2_with (first | ((with_reducible refine gate_callee (f := 46) rfl ?_); refine goesL_ (some 31) rfl rfl Try.func46 (by kernel_rfl) rfl #[.slice Ao15 t544.length co15, .slice Ao16 t547.length co16] rfl (by (try simp only [List.map_toArray, List.map_cons, List.map_nil]); first | done | rfl | (simp only [List.length_drop, List.length_take]; rfl)) ?_; (with_reducible refine (tickingref02_SidesSort.calls _ _ t544 _ _ t547 false _ ?side1 ?side2 ?side3 ?side4 A19.out).mono ?_); (case side1 => repeat (first | exact (Kd.R_reads' HO546.out).2.2 | (with_reducible refine Kd.C_alloc ?_ _) | (with_reducible refine Kd.C_drewN ?_ _) | (with_reducible refine Kd.C_drew ?_))); (case side2 => exact (Kd.R_reads' HO546.out).2.1); (case side3 => repeat (first | exact (Kd.R_reads' HO549.out).2.2 | (with_reducible refine Kd.C_alloc ?_ _) | (with_reducible refine Kd.C_drewN ?_ _) | (with_reducible refine Kd.C_drew ?_))); (case side4 => exact (Kd.R_reads' HO549.out).2.1); rintro e w33 ⟨rfl, hb⟩; refine ⟨_, rfl, ?_⟩; have n0_ := Aside0.mk (Kd.R_below (by (with_reducible repeat (first | apply Kd.R_alloc | apply Kd.R_drewN | apply Kd.R_drew)); exact HO546.out) hb); have n1_ := Aside0.mk (Kd.R_below (by (with_reducible repeat (first | apply Kd.R_alloc | apply Kd.R_drewN | apply Kd.R_drew)); exact HO549.out) hb); have n2_ := Aside0.mk (Kd.R_below (by (with_reducible repeat (first | apply Kd.R_alloc | apply Kd.R_drewN | apply Kd.R_drew)); exact HO552.out) hb); have n3_ := Aside0.mk (blk_below (g := gb543) (o := .cells #[.slice A1_0 l1_0.length c1_0, .slice A1_1 l1_1.length c1_1] 43 (0, 0)) (by (with_reducible repeat (first | refine blk_drewN ?_ _ | refine blk_drew ?_ | refine blk_alloc ?_ _)); exact BK543.out) hb); have n4_ := Aside0.mk (below_step (by repeat (first | (with_reducible first | exact HB.out | apply below_alloc | apply pw_below_drewN | apply below_drew1 | refine below_set ?_ GE543.out) | exact HB.out)) hb); clear HO546; clear HO549; clear HO552; clear BK543; clear HB; have HO546 := n0_; have HO549 := n1_; have HO552 := n2_; have BK543 := n3_; have HB := n4_; clear n0_ n1_ n2_ n3_ n4_; (try clear hb); (try clear hb2); (try clear hk); (try clear hi)) | (go_at_call 47; (with_reducible refine (tickingref02_StacksBlock.calls k _ _ t544 _ _ t550 t558 _ ?side1 ?side2 ?side3 ?side4 A32.out).mono ?_); (case side1 => repeat (first | exact (Kd.R_reads' HO546.out).2.2 | (with_reducible refine Kd.C_alloc ?_ _) | (with_reducible refine Kd.C_drewN ?_ _) | (with_reducible refine Kd.C_drew ?_))); (case side2 => exact (Kd.R_reads' HO546.out).2.1); (case side3 => repeat (first | exact (Kd.R_reads' HO552.out).2.2 | (with_reducible refine Kd.C_alloc ?_ _) | (with_reducible refine Kd.C_drewN ?_ _) | (with_reducible refine Kd.C_drew ?_))); (case side4 => exact (Kd.R_reads' HO552.out).2.1); rintro e w34 ⟨rfl, hb⟩; have n0_ := Aside0.mk (Kd.R_below (by (with_reducible repeat (first | apply Kd.R_alloc | apply Kd.R_drewN | apply Kd.R_drew)); exact HO546.out) hb); have n1_ := Aside0.mk (Kd.R_below (by (with_reducible repeat (first | apply Kd.R_alloc | apply Kd.R_drewN | apply Kd.R_drew)); exact HO549.out) hb); have n2_ := Aside0.mk (Kd.R_below (by (with_reducible repeat (first | apply Kd.R_alloc | apply Kd.R_drewN | apply Kd.R_drew)); exact HO552.out) hb); have n3_ := Aside0.mk (blk_below (g := gb543) (o := .cells #[.slice A1_0 l1_0.length c1_0, .slice A1_1 l1_1.length c1_1] 43 (0, 0)) (by (with_reducible repeat (first | refine blk_drewN ?_ _ | refine blk_drew ?_ | refine blk_alloc ?_ _)); exact BK543.out) hb); have n4_ := Aside0.mk (below_step (by repeat (first | (with_reducible first | exact HB.out | apply below_alloc | apply pw_below_drewN | apply below_drew1 | refine below_set ?_ GE543.out) | exact HB.out)) hb); clear HO546; clear HO549; clear HO552; clear BK543; clear HB; have HO546 := n0_; have HO549 := n1_; have HO552 := n2_; have BK543 := n3_; have HB := n4_; clear n0_ n1_ n2_ n3_ n4_; (try clear hb); (try clear hb2); (try clear hk); (try clear hi)))
            go_meet
            case rel => exact ⟨_, (t558), (by first | rfl | (simp; done) | (simp [*]; done)), H', ⟨by first | omega | exact Nat.le_refl _⟩, ⟨by (with_reducible repeat (first | refine blk_drewN ?_ _ | refine blk_drew ?_ | refine blk_alloc ?_ _)); exact BK543.out⟩, ⟨by repeat (first | (with_reducible first | exact HB.out | apply below_alloc | apply pw_below_drewN | apply below_drew1 | refine below_set ?_ GE543.out) | exact HB.out)⟩⟩
          · rw [if_neg c31] at H
            have c31b0 : decide (0 < (t544.length : Int)) = false := decide_eq_false c31
            have c31b1 : decide (0 < t544.length) = false := decide_eq_false (by omega)
            clear c31
            have H' := Aside0.mk H
            clear H
            go_wp2_with (first | ((with_reducible refine gate_callee (f := 46) rfl ?_); refine goesL_ (some 31) rfl rfl Try.func46 (by kernel_rfl) rfl #[.slice Ao15 t544.length co15, .slice Ao16 t547.length co16] rfl (by (try simp only [List.map_toArray, List.map_cons, List.map_nil]); first | done | rfl | (simp only [List.length_drop, List.length_take]; rfl)) ?_; (with_reducible refine (tickingref02_SidesSort.calls _ _ t544 _ _ t547 false _ ?side1 ?side2 ?side3 ?side4 A19.out).mono ?_); (case side1 => repeat (first | exact (Kd.R_reads' HO546.out).2.2 | (with_reducible refine Kd.C_alloc ?_ _) | (with_reducible refine Kd.C_drewN ?_ _) | (with_reducible refine Kd.C_drew ?_))); (case side2 => exact (Kd.R_reads' HO546.out).2.1); (case side3 => repeat (first | exact (Kd.R_reads' HO549.out).2.2 | (with_reducible refine Kd.C_alloc ?_ _) | (with_reducible refine Kd.C_drewN ?_ _) | (with_reducible refine Kd.C_drew ?_))); (case side4 => exact (Kd.R_reads' HO549.out).2.1); rintro e w35 ⟨rfl, hb⟩; refine ⟨_, rfl, ?_⟩; have n0_ := Aside0.mk (Kd.R_below (by (with_reducible repeat (first | apply Kd.R_alloc | apply Kd.R_drewN | apply Kd.R_drew)); exact HO546.out) hb); have n1_ := Aside0.mk (Kd.R_below (by (with_reducible repeat (first | apply Kd.R_alloc | apply Kd.R_drewN | apply Kd.R_drew)); exact HO549.out) hb); have n2_ := Aside0.mk (Kd.R_below (by (with_reducible repeat (first | apply Kd.R_alloc | apply Kd.R_drewN | apply Kd.R_drew)); exact HO552.out) hb); have n3_ := Aside0.mk (blk_below (g := gb543) (o := .cells #[.slice A1_0 l1_0.length c1_0, .slice A1_1 l1_1.length c1_1] 43 (0, 0)) (by (with_reducible repeat (first | refine blk_drewN ?_ _ | refine blk_drew ?_ | refine blk_alloc ?_ _)); exact BK543.out) hb); have n4_ := Aside0.mk (below_step (by repeat (first | (with_reducible first | exact HB.out | apply below_alloc | apply pw_below_drewN | apply below_drew1 | refine below_set ?_ GE543.out) | exact HB.out)) hb); clear HO546; clear HO549; clear HO552; clear BK543; clear HB; have HO546 := n0_; have HO549 := n1_; have HO552 := n2_; have BK543 := n3_; have HB := n4_; clear n0_ n1_ n2_ n3_ n4_; (try clear hb); (try clear hb2); (try clear hk); (try clear hi)))
            go_meet
            case rel => exact ⟨_, (false), (by first | rfl | (simp; done) | (simp [*]; done)), H', ⟨by first | omega | exact Nat.le_refl _⟩, ⟨by (with_reducible repeat (first | refine blk_drewN ?_ _ | refine blk_drew ?_ | refine blk_alloc ?_ _)); exact BK543.out⟩, ⟨by repeat (first | (with_reducible first | exact HB.out | apply below_alloc | apply pw_below_drewN | apply below_drew1 | refine below_set ?_ GE543.out) | exact HB.out)⟩⟩
        · rw [if_neg c30] at H
          have c30b0 : ((t547.length : Int) == 0) = false := beq_eq_false_iff_ne.mpr c30
          have c30b1 : ((t547.length : Int) != 0) = true := bne_iff_ne.mpr c30
          have c30b2 : ¬ (t547 = []) := fun h_ => c30 (by rw [h_]; rfl)
          have H' := Aside0.mk H
          clear H
          go_wp2_with (first | ((with_reducible refine gate_callee (f := 46) rfl ?_); refine goesL_ (some 31) rfl rfl Try.func46 (by kernel_rfl) rfl #[.slice Ao15 t544.length co15, .slice Ao16 t547.length co16] rfl (by (try simp only [List.map_toArray, List.map_cons, List.map_nil]); first | done | rfl | (simp only [List.length_drop, List.length_take]; rfl)) ?_; (with_reducible refine (tickingref02_SidesSort.calls _ _ t544 _ _ t547 false _ ?side1 ?side2 ?side3 ?side4 A19.out).mono ?_); (case side1 => repeat (first | exact (Kd.R_reads' HO546.out).2.2 | (with_reducible refine Kd.C_alloc ?_ _) | (with_reducible refine Kd.C_drewN ?_ _) | (with_reducible refine Kd.C_drew ?_))); (case side2 => exact (Kd.R_reads' HO546.out).2.1); (case side3 => repeat (first | exact (Kd.R_reads' HO549.out).2.2 | (with_reducible refine Kd.C_alloc ?_ _) | (with_reducible refine Kd.C_drewN ?_ _) | (with_reducible refine Kd.C_drew ?_))); (case side4 => exact (Kd.R_reads' HO549.out).2.1); rintro e w36 ⟨rfl, hb⟩; refine ⟨_, rfl, ?_⟩; have n0_ := Aside0.mk (Kd.R_below (by (with_reducible repeat (first | apply Kd.R_alloc | apply Kd.R_drewN | apply Kd.R_drew)); exact HO546.out) hb); have n1_ := Aside0.mk (Kd.R_below (by (with_reducible repeat (first | apply Kd.R_alloc | apply Kd.R_drewN | apply Kd.R_drew)); exact HO549.out) hb); have n2_ := Aside0.mk (Kd.R_below (by (with_reducible repeat (first | apply Kd.R_alloc | apply Kd.R_drewN | apply Kd.R_drew)); exact HO552.out) hb); have n3_ := Aside0.mk (blk_below (g := gb543) (o := .cells #[.slice A1_0 l1_0.length c1_0, .slice A1_1 l1_1.length c1_1] 43 (0, 0)) (by (with_reducible repeat (first | refine blk_drewN ?_ _ | refine blk_drew ?_ | refine blk_alloc ?_ _)); exact BK543.out) hb); have n4_ := Aside0.mk (below_step (by repeat (first | (with_reducible first | exact HB.out | apply below_alloc | apply pw_below_drewN | apply below_drew1 | refine below_set ?_ GE543.out) | exact HB.out)) hb); clear HO546; clear HO549; clear HO552; clear BK543; clear HB; have HO546 := n0_; have HO549 := n1_; have HO552 := n2_; have BK543 := n3_; have HB := n4_; clear n0_ n1_ n2_ n3_ n4_; (try clear hb); (try clear hb2); (try clear hk); (try clear hi)))
          go_meet
          case rel => exact ⟨_, (false), (by first | rfl | (simp; done) | (simp [*]; done)), H', ⟨by first | omega | exact Nat.le_refl _⟩, ⟨by (with_reducible repeat (first | refine blk_drewN ?_ _ | refine blk_drew ?_ | refine blk_alloc ?_ _)); exact BK543.out⟩, ⟨by repeat (first | (with_reducible first | exact HB.out | apply below_alloc | apply pw_below_drewN | apply below_drew1 | refine below_set ?_ GE543.out) | exact HB.out)⟩⟩
    case rest =>
      clear HC9
      try clear c1
      try clear c2
      try clear p2
      try clear c3
      try clear c4
      try clear c8
      try clear c13
      try clear c18
      try clear c20
      try clear c21
      try clear c21b0
      try clear c21b1
      try clear c21b2
      try clear c23
      try clear c23b0
      try clear c23b1
      try clear c23b2
      try clear c24
      try clear c24b0
      try clear c24b1
      try clear c30
      try clear c30b0
      try clear c30b1
      try clear c30b2
      try clear c31
      try clear c31b0
      try clear c31b1
      obtain ⟨kq, x51_8, rfl, HA, HJ8, BK543, HB⟩ := hcut
      cases kq with
      | zero => exact absurd HA.out (by simp [tickinglaw02_ShuntStacksChecks.j0])
      | succ kj8 =>
        have H := HA.out
        clear HA
        simp only [tickinglaw02_ShuntStacksChecks.j0] at H
        by_cases c37 : x51_8 = true
        · subst c37
          have H1 : (if t553 = 0 then ((tickinglaw02_awake.f kj8).bind fun t559 => (some t559)) else (some false)) = some r := by rw [if_pos rfl] at H; exact H
          clear H
          have H := H1
          clear H1
          by_cases c38 : t553 = 0
          · rw [if_pos c38] at H
            have c38b0 : (t553 == 0) = true := beq_iff_eq.mpr c38
            have c38b1 : (t553 != 0) = false := bne_eq_false_iff_eq.mpr c38
            clear c38
            replace H := Option.bind_eq_some_iff.mp H
            obtain ⟨t559, A390, H⟩ := H
            replace H : (some t559) = some r := H
            have A39 := Aside0.mk A390
            clear A390
            obtain rfl := Option.some.inj H
            go_wp2_with (first | (go_at_call 22; (with_reducible refine (tickinglaw02_awake.calls kj8  t559 _ A39.out).mono ?_); rintro e w40 ⟨rfl, hb⟩; have n0_ := Aside0.mk (blk_below (g := gb543) (o := .cells #[.slice A1_0 l1_0.length c1_0, .slice A1_1 l1_1.length c1_1] 43 (0, 0)) (by (with_reducible repeat (first | refine blk_drewN ?_ _ | refine blk_drew ?_ | refine blk_alloc ?_ _)); exact BK543.out) hb); have n1_ := Aside0.mk (below_step (by repeat (first | (with_reducible first | exact HB.out | apply below_alloc | apply pw_below_drewN | apply below_drew1 | refine below_set ?_ GE543.out) | exact HB.out)) hb); clear BK543; clear HB; have BK543 := n0_; have HB := n1_; clear n0_ n1_; (try clear hb); (try clear hb2); (try clear hk); (try clear hi)))
            go_ret
            exact ⟨by first | rfl | (simp [errW_none, errW_some] <;> rfl) | (simp [*, errW_none, errW_some] <;> rfl), by repeat (first | (with_reducible first | exact HB.out | apply below_alloc | apply pw_below_drewN | apply below_drew1 | refine below_set ?_ GE543.out) | exact HB.out)⟩
          · rw [if_neg c38] at H
            have c38b0 : (t553 == 0) = false := beq_eq_false_iff_ne.mpr c38
            have c38b1 : (t553 != 0) = true := bne_iff_ne.mpr c38
            obtain rfl := Option.some.inj H
            go_wp2
            go_ret
            exact ⟨by first | rfl | (simp [errW_none, errW_some] <;> rfl) | (simp [*, errW_none, errW_some] <;> rfl), by repeat (first | (with_reducible first | exact HB.out | apply below_alloc | apply pw_below_drewN | apply below_drew1 | refine below_set ?_ GE543.out) | exact HB.out)⟩
        · replace c37 := Bool.eq_false_iff.mpr c37
          subst c37
          have H1 : (if t553 = 10 then ((tickinglaw02_awake.f kj8).bind fun t560 => (some t560)) else (some false)) = some r := by rw [if_neg (show ¬ (false = true) by decide)] at H; exact H
          clear H
          have H := H1
          clear H1
          by_cases c41 : t553 = 10
          · rw [if_pos c41] at H
            have c41b0 : (t553 == 10) = true := beq_iff_eq.mpr c41
            have c41b1 : (t553 != 10) = false := bne_eq_false_iff_eq.mpr c41
            clear c41
            replace H := Option.bind_eq_some_iff.mp H
            obtain ⟨t560, A420, H⟩ := H
            replace H : (some t560) = some r := H
            have A42 := Aside0.mk A420
            clear A420
            obtain rfl := Option.some.inj H
            go_wp2_with (first | (go_at_call 22; (with_reducible refine (tickinglaw02_awake.calls kj8  t560 _ A42.out).mono ?_); rintro e w43 ⟨rfl, hb⟩; have n0_ := Aside0.mk (blk_below (g := gb543) (o := .cells #[.slice A1_0 l1_0.length c1_0, .slice A1_1 l1_1.length c1_1] 43 (0, 0)) (by (with_reducible repeat (first | refine blk_drewN ?_ _ | refine blk_drew ?_ | refine blk_alloc ?_ _)); exact BK543.out) hb); have n1_ := Aside0.mk (below_step (by repeat (first | (with_reducible first | exact HB.out | apply below_alloc | apply pw_below_drewN | apply below_drew1 | refine below_set ?_ GE543.out) | exact HB.out)) hb); clear BK543; clear HB; have BK543 := n0_; have HB := n1_; clear n0_ n1_; (try clear hb); (try clear hb2); (try clear hk); (try clear hi)))
            go_ret
            exact ⟨by first | rfl | (simp [errW_none, errW_some] <;> rfl) | (simp [*, errW_none, errW_some] <;> rfl), by repeat (first | (with_reducible first | exact HB.out | apply below_alloc | apply pw_below_drewN | apply below_drew1 | refine below_set ?_ GE543.out) | exact HB.out)⟩
          · rw [if_neg c41] at H
            have c41b0 : (t553 == 10) = false := beq_eq_false_iff_ne.mpr c41
            have c41b1 : (t553 != 10) = true := bne_iff_ne.mpr c41
            obtain rfl := Option.some.inj H
            go_wp2
            go_ret
            exact ⟨by first | rfl | (simp [errW_none, errW_some] <;> rfl) | (simp [*, errW_none, errW_some] <;> rfl), by repeat (first | (with_reducible first | exact HB.out | apply below_alloc | apply pw_below_drewN | apply below_drew1 | refine below_set ?_ GE543.out) | exact HB.out)⟩
  · replace c8 := Bool.eq_false_iff.mpr c8
    subst c8
    have H1 : (if t553 = 2 then ((tickinglaw02_awake.f k).bind fun t555 => (some t555)) else (some false)) = some r := by rw [if_neg (show ¬ (false = true) by decide)] at H; exact H
    clear H
    have H := H1
    clear H1
    by_cases c44 : t553 = 2
    · rw [if_pos c44] at H
      have c44b0 : (t553 == 2) = true := beq_iff_eq.mpr c44
      have c44b1 : (t553 != 2) = false := bne_eq_false_iff_eq.mpr c44
      clear c44
      replace H := Option.bind_eq_some_iff.mp H
      obtain ⟨t555, A450, H⟩ := H
      replace H : (some t555) = some r := H
      have A45 := Aside0.mk A450
      clear A450
      obtain rfl := Option.some.inj H
      go_enter Try.func13, Try.ntmps13
      try go_wp2_with (first | ((with_reducible refine gate_dst (N := 3) rfl ?_); (try (refine gate_guard (by rfl) ?_; dsimp only)); refine box_event ?hg (N := 3) ?hd (cs := #[.slice A1_0 l1_0.length c1_0, .slice A1_1 l1_1.length c1_1]) (t := 43) ?hr ?_; (case hd => rfl); (case hg => rfl); (case hr => first | (go_simp; done) | (go_simp; rfl)); intro gb543 hg w46 hbox hb; have n0_ := Aside0.mk (below_step (by repeat (first | (with_reducible first | exact HB.out | apply below_alloc | apply pw_below_drewN | apply below_drew1) | exact HB.out)) hb); have n1_ := Aside0.mk (hbox); have n2_ := Aside0.mk ((by rw [hg]; exact (below_size (by repeat (first | (with_reducible first | exact HB.out | apply below_alloc | apply pw_below_drewN | apply below_drew1) | exact HB.out))) : w.heap.size ≤ gb543)); have n3_ := Aside0.mk ((by rw [hg]; exact (below_size (by repeat (first | (with_reducible first | exact HB.out | apply below_alloc | apply pw_below_drewN | apply below_drew1) | exact HB.out))) : w.heap.size ≤ gb543)); clear HB; have HB := n0_; have BK543 := n1_; have GW543 := n2_; have GE543 := n3_; clear n0_ n1_ n2_ n3_; clear hb hbox hg))
      have n0_ := Aside0.mk (blk_drew BK543.out)
      have n1_ := Aside0.mk (below_drew1 HB.out)
      clear BK543
      clear HB
      have BK543 := n0_
      have HB := n1_
      clear n0_ n1_
      refine start_ (n := 11) (S := fun w' => w'.cell? ⟨gb543, 0, none⟩ = some (.slice A1_0 l1_0.length c1_0) ∧ w'.cell? ⟨gb543, 1, none⟩ = some (.slice A1_1 l1_1.length c1_1)) (ds := []) #[false, false, false, false, false, false, false, false, false, false, false] (by kernel_rfl) rfl rfl ⟨(blk_cell BK543.out 0).trans rfl, (blk_cell BK543.out 1).trans rfl⟩ (fun hHeld => ?_); refine with_tabW tickinglaw02_ShuntStacksChecks.tab1 tickinglaw02_ShuntStacksChecks.bits1 (fun HT_ HW_ => ?_)
      generalize w46.drew = w47 at BK543 HB hHeld ⊢
      refine pure_ (i := 0) (N := some 9) (v := ?_) (a' := ?_) #[true, false, false, false, false, false, false, false, false, false, false] rfl rfl (any_of HT_.out (by kernel_rfl)) (fun _ _ _ h => h) (Or.inl ⟨by rfl, ?_⟩) ?_ ?_
      rotate_left
      · intro w'
        go_simp
        with_reducible rfl
      rotate_left
      · simp only [Act.put, List.setIfInBounds_toArray, List.set_cons_zero, List.set_cons_succ, i64_w, i32_w]
        rfl
      refine pure_ (i := 2) (N := some 11) (v := ?_) (a' := ?_) #[true, false, true, false, false, false, false, false, false, false, false] rfl rfl (any_of HT_.out (by kernel_rfl)) (fun _ _ _ h => h) (Or.inl ⟨by rfl, ?_⟩) ?_ ?_
      rotate_left
      · intro w'
        go_simp
        with_reducible rfl
      rotate_left
      · simp only [Act.put, List.setIfInBounds_toArray, List.set_cons_zero, List.set_cons_succ, i64_w, i32_w]
        rfl
      refine pure_ (i := 5) (N := some 14) (v := ?_) (a' := ?_) #[true, false, true, false, false, true, false, false, false, false, false] rfl rfl (any_of HT_.out (by kernel_rfl)) (fun _ _ _ h => h) (Or.inl ⟨by rfl, ?_⟩) ?_ ?_
      rotate_left
      · intro w'
        go_simp
        with_reducible rfl
      rotate_left
      · simp only [Act.put, List.setIfInBounds_toArray, List.set_cons_zero, List.set_cons_succ, i64_w, i32_w]
        rfl
      refine take_ (i := 3) (N := some 12) (v := ?_) (a' := ?_) #[true, false, true, true, false, true, false, false, false, false, false] rfl rfl (take_ofW HT_.out HW_.out (by kernel_rfl)) (fun _ _ _ h => h) (Or.inl ⟨by rfl, ?_⟩) hHeld ?_ ?_
      rotate_left
      · rintro w' ⟨s0, s1⟩
        go_simp
        with_reducible rfl
      rotate_left
      · simp only [Act.put, List.setIfInBounds_toArray, List.set_cons_zero, List.set_cons_succ, i64_w, i32_w]
        rfl
      refine take_ (i := 6) (N := some 15) (v := ?_) (a' := ?_) #[true, false, true, true, false, true, true, false, false, false, false] rfl rfl (take_ofW HT_.out HW_.out (by kernel_rfl)) (fun _ _ _ h => h) (Or.inl ⟨by rfl, ?_⟩) hHeld ?_ ?_
      rotate_left
      · rintro w' ⟨s0, s1⟩
        go_simp
        with_reducible rfl
      rotate_left
      · simp only [Act.put, List.setIfInBounds_toArray, List.set_cons_zero, List.set_cons_succ, i64_w, i32_w]
        rfl
      refine one_ (i := 1) (N := some 10) #[true, true, true, true, false, true, true, false, false, false, false] rfl rfl (one_of HT_.out (by kernel_rfl)) (by decide) (fun K hK => ?_)
      refine goes_ Try.func18 (by kernel_rfl) rfl #[.slice A0 l0.length c0] (by rfl) rfl rfl (by (try simp only [List.map_toArray, List.map_cons, List.map_nil]); first | done | rfl | (simp only [List.length_drop, List.length_take]; rfl)) ?_
      with_reducible refine (tickinglaw02_list.calls _ _ l0 t544 _ ?side1 ?side2 A3.out).mono ?_
      (case side1 => repeat (first | exact (Kd.C_below HR0.out HB.out) | (with_reducible refine Kd.C_alloc ?_ _) | (with_reducible refine Kd.C_drewN ?_ _) | (with_reducible refine Kd.C_drew ?_)))
      (case side2 => exact HC0.out)
      rintro e w48 ⟨v545, rfl, ho0, hb⟩
      refine ⟨_, rfl, ?_⟩
      have n0_ := Aside0.mk (Kd.R_lower ho0 (below_size (by repeat (first | (with_reducible first | exact HB.out | apply below_alloc | apply pw_below_drewN | apply below_drew1 | refine below_set ?_ GE543.out) | exact HB.out))))
      have n1_ := Aside0.mk (blk_below (g := gb543) (o := .cells #[.slice A1_0 l1_0.length c1_0, .slice A1_1 l1_1.length c1_1] 43 (0, 0)) (by (with_reducible repeat (first | refine blk_drewN ?_ _ | refine blk_drew ?_ | refine blk_alloc ?_ _)); exact BK543.out) hb)
      have n2_ := Aside0.mk (below_step (by repeat (first | (with_reducible first | exact HB.out | apply below_alloc | apply pw_below_drewN | apply below_drew1 | refine below_set ?_ GE543.out) | exact HB.out)) hb)
      clear BK543
      clear HB
      have HO546 := n0_
      have BK543 := n1_
      have HB := n2_
      clear n0_ n1_ n2_
      (try clear hb)
      (try clear hb2)
      (try clear hk)
      (try clear hi)
      (try clear ho0)
      refine hK.out _ _ ⟨(blk_cell BK543.out 0).trans rfl, (blk_cell BK543.out 1).trans rfl⟩ (fun hHeld => ?_)
      clear hK K
      refine norm_ (a' := ?_) ?_ ?_
      rotate_left
      · show Act.put _ (some 10) _ = _
        simp only [Act.put, List.setIfInBounds_toArray, List.set_cons_zero, List.set_cons_succ, i64_w, i32_w]
        rfl
      refine one_ (i := 4) (N := some 13) #[true, true, true, true, true, true, true, false, false, false, false] rfl rfl (one_of HT_.out (by kernel_rfl)) (by decide) (fun K hK => ?_)
      refine goes_ Try.func18 (by kernel_rfl) rfl #[.slice A1_0 l1_0.length c1_0] (by rfl) rfl rfl (by (try simp only [List.map_toArray, List.map_cons, List.map_nil]); first | done | rfl | (simp only [List.length_drop, List.length_take]; rfl)) ?_
      with_reducible refine (tickinglaw02_list.calls _ _ l1_0 t547 _ ?side1 ?side2 A4.out).mono ?_
      (case side1 => repeat (first | exact (Kd.C_below HR1_0.out HB.out) | (with_reducible refine Kd.C_alloc ?_ _) | (with_reducible refine Kd.C_drewN ?_ _) | (with_reducible refine Kd.C_drew ?_)))
      (case side2 => exact HC1_0.out)
      rintro e w49 ⟨v548, rfl, ho0, hb⟩
      refine ⟨_, rfl, ?_⟩
      have n0_ := Aside0.mk (Kd.R_elder' (by (with_reducible repeat (first | apply Kd.R_alloc | apply Kd.R_drewN | apply Kd.R_drew)); exact HO546.out) (Kd.R_base ho0) hb)
      have n1_ := Aside0.mk (Kd.R_lower (Kd.R_new' ho0 (Kd.R_lt (by (with_reducible repeat (first | apply Kd.R_alloc | apply Kd.R_drewN | apply Kd.R_drew)); exact HO546.out))) (below_size (by repeat (first | (with_reducible first | exact HB.out | apply below_alloc | apply pw_below_drewN | apply below_drew1 | refine below_set ?_ GE543.out) | exact HB.out))))
      have n2_ := Aside0.mk (blk_below (g := gb543) (o := .cells #[.slice A1_0 l1_0.length c1_0, .slice A1_1 l1_1.length c1_1] 43 (0, 0)) (by (with_reducible repeat (first | refine blk_drewN ?_ _ | refine blk_drew ?_ | refine blk_alloc ?_ _)); exact BK543.out) hb)
      have n3_ := Aside0.mk (below_step (by repeat (first | (with_reducible first | exact HB.out | apply below_alloc | apply pw_below_drewN | apply below_drew1 | refine below_set ?_ GE543.out) | exact HB.out)) hb)
      clear HO546
      clear BK543
      clear HB
      have HO546 := n0_
      have HO549 := n1_
      have BK543 := n2_
      have HB := n3_
      clear n0_ n1_ n2_ n3_
      (try clear hb)
      (try clear hb2)
      (try clear hk)
      (try clear hi)
      (try clear ho0)
      refine hK.out _ _ ⟨(blk_cell BK543.out 0).trans rfl, (blk_cell BK543.out 1).trans rfl⟩ (fun hHeld => ?_)
      clear hK K
      refine norm_ (a' := ?_) ?_ ?_
      rotate_left
      · show Act.put _ (some 13) _ = _
        simp only [Act.put, List.setIfInBounds_toArray, List.set_cons_zero, List.set_cons_succ, i64_w, i32_w]
        rfl
      refine one_ (i := 7) (N := some 16) #[true, true, true, true, true, true, true, true, false, false, false] rfl rfl (one_of HT_.out (by kernel_rfl)) (by decide) (fun K hK => ?_)
      refine goes_ Try.func18 (by kernel_rfl) rfl #[.slice A1_1 l1_1.length c1_1] (by rfl) rfl rfl (by (try simp only [List.map_toArray, List.map_cons, List.map_nil]); first | done | rfl | (simp only [List.length_drop, List.length_take]; rfl)) ?_
      with_reducible refine (tickinglaw02_list.calls _ _ l1_1 t550 _ ?side1 ?side2 A5.out).mono ?_
      (case side1 => repeat (first | exact (Kd.C_below HR1_1.out HB.out) | (with_reducible refine Kd.C_alloc ?_ _) | (with_reducible refine Kd.C_drewN ?_ _) | (with_reducible refine Kd.C_drew ?_)))
      (case side2 => exact HC1_1.out)
      rintro e w50 ⟨v551, rfl, ho0, hb⟩
      refine ⟨_, rfl, ?_⟩
      have n0_ := Aside0.mk (Kd.R_elder' (by (with_reducible repeat (first | apply Kd.R_alloc | apply Kd.R_drewN | apply Kd.R_drew)); exact HO546.out) (Kd.R_base ho0) hb)
      have n1_ := Aside0.mk (Kd.R_elder' (by (with_reducible repeat (first | apply Kd.R_alloc | apply Kd.R_drewN | apply Kd.R_drew)); exact HO549.out) (Kd.R_base ho0) hb)
      have n2_ := Aside0.mk (Kd.R_lower (Kd.R_new' (Kd.R_new' ho0 (Kd.R_lt (by (with_reducible repeat (first | apply Kd.R_alloc | apply Kd.R_drewN | apply Kd.R_drew)); exact HO546.out))) (Kd.R_lt (by (with_reducible repeat (first | apply Kd.R_alloc | apply Kd.R_drewN | apply Kd.R_drew)); exact HO549.out))) (below_size (by repeat (first | (with_reducible first | exact HB.out | apply below_alloc | apply pw_below_drewN | apply below_drew1 | refine below_set ?_ GE543.out) | exact HB.out))))
      have n3_ := Aside0.mk (blk_below (g := gb543) (o := .cells #[.slice A1_0 l1_0.length c1_0, .slice A1_1 l1_1.length c1_1] 43 (0, 0)) (by (with_reducible repeat (first | refine blk_drewN ?_ _ | refine blk_drew ?_ | refine blk_alloc ?_ _)); exact BK543.out) hb)
      have n4_ := Aside0.mk (below_step (by repeat (first | (with_reducible first | exact HB.out | apply below_alloc | apply pw_below_drewN | apply below_drew1 | refine below_set ?_ GE543.out) | exact HB.out)) hb)
      clear HO546
      clear HO549
      clear BK543
      clear HB
      have HO546 := n0_
      have HO549 := n1_
      have HO552 := n2_
      have BK543 := n3_
      have HB := n4_
      clear n0_ n1_ n2_ n3_ n4_
      (try clear hb)
      (try clear hb2)
      (try clear hk)
      (try clear hi)
      (try clear ho0)
      refine hK.out _ _ ⟨(blk_cell BK543.out 0).trans rfl, (blk_cell BK543.out 1).trans rfl⟩ (fun hHeld => ?_)
      clear hK K
      refine norm_ (a' := ?_) ?_ ?_
      rotate_left
      · show Act.put _ (some 16) _ = _
        simp only [Act.put, List.setIfInBounds_toArray, List.set_cons_zero, List.set_cons_succ, i64_w, i32_w]
        rfl
      refine pure_ (i := 8) (N := some 5) (v := ?_) (a' := ?_) #[true, true, true, true, true, true, true, true, true, false, false] rfl rfl (any_of HT_.out (by kernel_rfl)) (fun _ _ _ h => h) (Or.inl ⟨by rfl, ?_⟩) ?_ ?_
      rotate_left
      · intro w'
        go_simp
        with_reducible rfl
      rotate_left
      · simp only [Act.put, List.setIfInBounds_toArray, List.set_cons_zero, List.set_cons_succ, i64_w, i32_w]
        rfl
      refine pure_ (i := 9) (N := some 6) (v := ?_) (a' := ?_) #[true, true, true, true, true, true, true, true, true, true, false] rfl rfl (any_of HT_.out (by kernel_rfl)) (fun _ _ _ h => h) (Or.inl ⟨by rfl, ?_⟩) ?_ ?_
      rotate_left
      · intro w'
        go_simp
        with_reducible rfl
      rotate_left
      · simp only [Act.put, List.setIfInBounds_toArray, List.set_cons_zero, List.set_cons_succ, i64_w, i32_w]
        rfl
      refine pure_ (i := 10) (N := some 7) (v := ?_) (a' := ?_) #[true, true, true, true, true, true, true, true, true, true, true] rfl rfl (any_of HT_.out (by kernel_rfl)) (fun _ _ _ h => h) (Or.inl ⟨by rfl, ?_⟩) ?_ ?_
      rotate_left
      · intro w'
        go_simp
        with_reducible rfl
      rotate_left
      · simp only [Act.put, List.setIfInBounds_toArray, List.set_cons_zero, List.set_cons_succ, i64_w, i32_w]
        rfl
      refine done_ (done_of HT_.out (by kernel_rfl)) ?_
      obtain ⟨Ao51, co51, eo51⟩ := Kd.R_slice HO546.out
      subst eo51
      obtain ⟨Ao52, co52, eo52⟩ := Kd.R_slice HO549.out
      subst eo52
      obtain ⟨Ao53, co53, eo53⟩ := Kd.R_slice HO552.out
      subst eo53
      try go_wp2_with (first | ((with_reducible refine gate_callee (f := 45) rfl ?_); refine goesL_ (some 20) rfl rfl Try.func45 (by kernel_rfl) rfl #[.slice Ao51 t544.length co51, .slice Ao52 t547.length co52, .slice Ao53 t550.length co53] rfl (by (try simp only [List.map_toArray, List.map_cons, List.map_nil]); first | done | rfl | (simp only [List.length_drop, List.length_take]; rfl)) ?_; (with_reducible refine (shunt_CheckStacks.calls k _ _ t544 _ _ t547 _ _ t550 t553 _ ?side1 ?side2 ?side3 ?side4 ?side5 ?side6 A6.out).mono ?_); (case side1 => repeat (first | exact (Kd.R_reads' HO546.out).2.2 | (with_reducible refine Kd.C_alloc ?_ _) | (with_reducible refine Kd.C_drewN ?_ _) | (with_reducible refine Kd.C_drew ?_))); (case side2 => exact (Kd.R_reads' HO546.out).2.1); (case side3 => repeat (first | exact (Kd.R_reads' HO549.out).2.2 | (with_reducible refine Kd.C_alloc ?_ _) | (with_reducible refine Kd.C_drewN ?_ _) | (with_reducible refine Kd.C_drew ?_))); (case side4 => exact (Kd.R_reads' HO549.out).2.1); (case side5 => repeat (first | exact (Kd.R_reads' HO552.out).2.2 | (with_reducible refine Kd.C_alloc ?_ _) | (with_reducible refine Kd.C_drewN ?_ _) | (with_reducible refine Kd.C_drew ?_))); (case side6 => exact (Kd.R_reads' HO552.out).2.1); rintro e w54 ⟨rfl, hb⟩; refine ⟨_, rfl, ?_⟩; have n0_ := Aside0.mk (Kd.R_below (by (with_reducible repeat (first | apply Kd.R_alloc | apply Kd.R_drewN | apply Kd.R_drew)); exact HO546.out) hb); have n1_ := Aside0.mk (Kd.R_below (by (with_reducible repeat (first | apply Kd.R_alloc | apply Kd.R_drewN | apply Kd.R_drew)); exact HO549.out) hb); have n2_ := Aside0.mk (Kd.R_below (by (with_reducible repeat (first | apply Kd.R_alloc | apply Kd.R_drewN | apply Kd.R_drew)); exact HO552.out) hb); have n3_ := Aside0.mk (blk_below (g := gb543) (o := .cells #[.slice A1_0 l1_0.length c1_0, .slice A1_1 l1_1.length c1_1] 43 (0, 0)) (by (with_reducible repeat (first | refine blk_drewN ?_ _ | refine blk_drew ?_ | refine blk_alloc ?_ _)); exact BK543.out) hb); have n4_ := Aside0.mk (below_step (by repeat (first | (with_reducible first | exact HB.out | apply below_alloc | apply pw_below_drewN | apply below_drew1 | refine below_set ?_ GE543.out) | exact HB.out)) hb); clear HO546; clear HO549; clear HO552; clear BK543; clear HB; have HO546 := n0_; have HO549 := n1_; have HO552 := n2_; have BK543 := n3_; have HB := n4_; clear n0_ n1_ n2_ n3_ n4_; (try clear hb); (try clear hb2); (try clear hk); (try clear hi)) | ((with_reducible refine gate_callee (f := 21) rfl ?_); refine goesL_ (some 22) rfl rfl Try.func21 (by kernel_rfl) rfl #[.slice Ao51 t544.length co51, .int .i64 60] rfl (by (try simp only [List.map_toArray, List.map_cons, List.map_nil]); first | done | rfl | (simp only [List.length_drop, List.length_take]; rfl)) ?_; (with_reducible refine (tickingref02_Order.calls k _ _ t544 60 false _ ?side1 ?side2 A7.out).mono ?_); (case side1 => repeat (first | exact (Kd.R_reads' HO546.out).2.2 | (with_reducible refine Kd.C_alloc ?_ _) | (with_reducible refine Kd.C_drewN ?_ _) | (with_reducible refine Kd.C_drew ?_))); (case side2 => exact (Kd.R_reads' HO546.out).2.1); rintro e w' ⟨rfl, ⟨nd, rfl⟩⟩; refine ⟨_, rfl, ?_⟩) | (go_at_call 22; (with_reducible refine (tickinglaw02_awake.calls k  t555 _ A45.out).mono ?_); rintro e w55 ⟨rfl, hb⟩; have n0_ := Aside0.mk (Kd.R_below (by (with_reducible repeat (first | apply Kd.R_alloc | apply Kd.R_drewN | apply Kd.R_drew)); exact HO546.out) hb); have n1_ := Aside0.mk (Kd.R_below (by (with_reducible repeat (first | apply Kd.R_alloc | apply Kd.R_drewN | apply Kd.R_drew)); exact HO549.out) hb); have n2_ := Aside0.mk (Kd.R_below (by (with_reducible repeat (first | apply Kd.R_alloc | apply Kd.R_drewN | apply Kd.R_drew)); exact HO552.out) hb); have n3_ := Aside0.mk (blk_below (g := gb543) (o := .cells #[.slice A1_0 l1_0.length c1_0, .slice A1_1 l1_1.length c1_1] 43 (0, 0)) (by (with_reducible repeat (first | refine blk_drewN ?_ _ | refine blk_drew ?_ | refine blk_alloc ?_ _)); exact BK543.out) hb); have n4_ := Aside0.mk (below_step (by repeat (first | (with_reducible first | exact HB.out | apply below_alloc | apply pw_below_drewN | apply below_drew1 | refine below_set ?_ GE543.out) | exact HB.out)) hb); clear HO546; clear HO549; clear HO552; clear BK543; clear HB; have HO546 := n0_; have HO549 := n1_; have HO552 := n2_; have BK543 := n3_; have HB := n4_; clear n0_ n1_ n2_ n3_ n4_; (try clear hb); (try clear hb2); (try clear hk); (try clear hi)))
      go_ret
      exact ⟨by first | rfl | (simp [errW_none, errW_some] <;> rfl) | (simp [*, errW_none, errW_some] <;> rfl), by repeat (first | (with_reducible first | exact HB.out | apply below_alloc | apply pw_below_drewN | apply below_drew1 | refine below_set ?_ GE543.out) | exact HB.out)⟩
    · rw [if_neg c44] at H
      have c44b0 : (t553 == 2) = false := beq_eq_false_iff_ne.mpr c44
      have c44b1 : (t553 != 2) = true := bne_iff_ne.mpr c44
      obtain rfl := Option.some.inj H
      go_enter Try.func13, Try.ntmps13
      try go_wp2_with (first | ((with_reducible refine gate_dst (N := 3) rfl ?_); (try (refine gate_guard (by rfl) ?_; dsimp only)); refine box_event ?hg (N := 3) ?hd (cs := #[.slice A1_0 l1_0.length c1_0, .slice A1_1 l1_1.length c1_1]) (t := 43) ?hr ?_; (case hd => rfl); (case hg => rfl); (case hr => first | (go_simp; done) | (go_simp; rfl)); intro gb543 hg w56 hbox hb; have n0_ := Aside0.mk (below_step (by repeat (first | (with_reducible first | exact HB.out | apply below_alloc | apply pw_below_drewN | apply below_drew1) | exact HB.out)) hb); have n1_ := Aside0.mk (hbox); have n2_ := Aside0.mk ((by rw [hg]; exact (below_size (by repeat (first | (with_reducible first | exact HB.out | apply below_alloc | apply pw_below_drewN | apply below_drew1) | exact HB.out))) : w.heap.size ≤ gb543)); have n3_ := Aside0.mk ((by rw [hg]; exact (below_size (by repeat (first | (with_reducible first | exact HB.out | apply below_alloc | apply pw_below_drewN | apply below_drew1) | exact HB.out))) : w.heap.size ≤ gb543)); clear HB; have HB := n0_; have BK543 := n1_; have GW543 := n2_; have GE543 := n3_; clear n0_ n1_ n2_ n3_; clear hb hbox hg))
      have n0_ := Aside0.mk (blk_drew BK543.out)
      have n1_ := Aside0.mk (below_drew1 HB.out)
      clear BK543
      clear HB
      have BK543 := n0_
      have HB := n1_
      clear n0_ n1_
      refine start_ (n := 11) (S := fun w' => w'.cell? ⟨gb543, 0, none⟩ = some (.slice A1_0 l1_0.length c1_0) ∧ w'.cell? ⟨gb543, 1, none⟩ = some (.slice A1_1 l1_1.length c1_1)) (ds := []) #[false, false, false, false, false, false, false, false, false, false, false] (by kernel_rfl) rfl rfl ⟨(blk_cell BK543.out 0).trans rfl, (blk_cell BK543.out 1).trans rfl⟩ (fun hHeld => ?_); refine with_tabW tickinglaw02_ShuntStacksChecks.tab1 tickinglaw02_ShuntStacksChecks.bits1 (fun HT_ HW_ => ?_)
      generalize w56.drew = w57 at BK543 HB hHeld ⊢
      refine pure_ (i := 0) (N := some 9) (v := ?_) (a' := ?_) #[true, false, false, false, false, false, false, false, false, false, false] rfl rfl (any_of HT_.out (by kernel_rfl)) (fun _ _ _ h => h) (Or.inl ⟨by rfl, ?_⟩) ?_ ?_
      rotate_left
      · intro w'
        go_simp
        with_reducible rfl
      rotate_left
      · simp only [Act.put, List.setIfInBounds_toArray, List.set_cons_zero, List.set_cons_succ, i64_w, i32_w]
        rfl
      refine pure_ (i := 2) (N := some 11) (v := ?_) (a' := ?_) #[true, false, true, false, false, false, false, false, false, false, false] rfl rfl (any_of HT_.out (by kernel_rfl)) (fun _ _ _ h => h) (Or.inl ⟨by rfl, ?_⟩) ?_ ?_
      rotate_left
      · intro w'
        go_simp
        with_reducible rfl
      rotate_left
      · simp only [Act.put, List.setIfInBounds_toArray, List.set_cons_zero, List.set_cons_succ, i64_w, i32_w]
        rfl
      refine pure_ (i := 5) (N := some 14) (v := ?_) (a' := ?_) #[true, false, true, false, false, true, false, false, false, false, false] rfl rfl (any_of HT_.out (by kernel_rfl)) (fun _ _ _ h => h) (Or.inl ⟨by rfl, ?_⟩) ?_ ?_
      rotate_left
      · intro w'
        go_simp
        with_reducible rfl
      rotate_left
      · simp only [Act.put, List.setIfInBounds_toArray, List.set_cons_zero, List.set_cons_succ, i64_w, i32_w]
        rfl
      refine take_ (i := 3) (N := some 12) (v := ?_) (a' := ?_) #[true, false, true, true, false, true, false, false, false, false, false] rfl rfl (take_ofW HT_.out HW_.out (by kernel_rfl)) (fun _ _ _ h => h) (Or.inl ⟨by rfl, ?_⟩) hHeld ?_ ?_
      rotate_left
      · rintro w' ⟨s0, s1⟩
        go_simp
        with_reducible rfl
      rotate_left
      · simp only [Act.put, List.setIfInBounds_toArray, List.set_cons_zero, List.set_cons_succ, i64_w, i32_w]
        rfl
      refine take_ (i := 6) (N := some 15) (v := ?_) (a' := ?_) #[true, false, true, true, false, true, true, false, false, false, false] rfl rfl (take_ofW HT_.out HW_.out (by kernel_rfl)) (fun _ _ _ h => h) (Or.inl ⟨by rfl, ?_⟩) hHeld ?_ ?_
      rotate_left
      · rintro w' ⟨s0, s1⟩
        go_simp
        with_reducible rfl
      rotate_left
      · simp only [Act.put, List.setIfInBounds_toArray, List.set_cons_zero, List.set_cons_succ, i64_w, i32_w]
        rfl
      refine one_ (i := 1) (N := some 10) #[true, true, true, true, false, true, true, false, false, false, false] rfl rfl (one_of HT_.out (by kernel_rfl)) (by decide) (fun K hK => ?_)
      refine goes_ Try.func18 (by kernel_rfl) rfl #[.slice A0 l0.length c0] (by rfl) rfl rfl (by (try simp only [List.map_toArray, List.map_cons, List.map_nil]); first | done | rfl | (simp only [List.length_drop, List.length_take]; rfl)) ?_
      with_reducible refine (tickinglaw02_list.calls _ _ l0 t544 _ ?side1 ?side2 A3.out).mono ?_
      (case side1 => repeat (first | exact (Kd.C_below HR0.out HB.out) | (with_reducible refine Kd.C_alloc ?_ _) | (with_reducible refine Kd.C_drewN ?_ _) | (with_reducible refine Kd.C_drew ?_)))
      (case side2 => exact HC0.out)
      rintro e w58 ⟨v545, rfl, ho0, hb⟩
      refine ⟨_, rfl, ?_⟩
      have n0_ := Aside0.mk (Kd.R_lower ho0 (below_size (by repeat (first | (with_reducible first | exact HB.out | apply below_alloc | apply pw_below_drewN | apply below_drew1 | refine below_set ?_ GE543.out) | exact HB.out))))
      have n1_ := Aside0.mk (blk_below (g := gb543) (o := .cells #[.slice A1_0 l1_0.length c1_0, .slice A1_1 l1_1.length c1_1] 43 (0, 0)) (by (with_reducible repeat (first | refine blk_drewN ?_ _ | refine blk_drew ?_ | refine blk_alloc ?_ _)); exact BK543.out) hb)
      have n2_ := Aside0.mk (below_step (by repeat (first | (with_reducible first | exact HB.out | apply below_alloc | apply pw_below_drewN | apply below_drew1 | refine below_set ?_ GE543.out) | exact HB.out)) hb)
      clear BK543
      clear HB
      have HO546 := n0_
      have BK543 := n1_
      have HB := n2_
      clear n0_ n1_ n2_
      (try clear hb)
      (try clear hb2)
      (try clear hk)
      (try clear hi)
      (try clear ho0)
      refine hK.out _ _ ⟨(blk_cell BK543.out 0).trans rfl, (blk_cell BK543.out 1).trans rfl⟩ (fun hHeld => ?_)
      clear hK K
      refine norm_ (a' := ?_) ?_ ?_
      rotate_left
      · show Act.put _ (some 10) _ = _
        simp only [Act.put, List.setIfInBounds_toArray, List.set_cons_zero, List.set_cons_succ, i64_w, i32_w]
        rfl
      refine one_ (i := 4) (N := some 13) #[true, true, true, true, true, true, true, false, false, false, false] rfl rfl (one_of HT_.out (by kernel_rfl)) (by decide) (fun K hK => ?_)
      refine goes_ Try.func18 (by kernel_rfl) rfl #[.slice A1_0 l1_0.length c1_0] (by rfl) rfl rfl (by (try simp only [List.map_toArray, List.map_cons, List.map_nil]); first | done | rfl | (simp only [List.length_drop, List.length_take]; rfl)) ?_
      with_reducible refine (tickinglaw02_list.calls _ _ l1_0 t547 _ ?side1 ?side2 A4.out).mono ?_
      (case side1 => repeat (first | exact (Kd.C_below HR1_0.out HB.out) | (with_reducible refine Kd.C_alloc ?_ _) | (with_reducible refine Kd.C_drewN ?_ _) | (with_reducible refine Kd.C_drew ?_)))
      (case side2 => exact HC1_0.out)
      rintro e w59 ⟨v548, rfl, ho0, hb⟩
      refine ⟨_, rfl, ?_⟩
      have n0_ := Aside0.mk (Kd.R_elder' (by (with_reducible repeat (first | apply Kd.R_alloc | apply Kd.R_drewN | apply Kd.R_drew)); exact HO546.out) (Kd.R_base ho0) hb)
      have n1_ := Aside0.mk (Kd.R_lower (Kd.R_new' ho0 (Kd.R_lt (by (with_reducible repeat (first | apply Kd.R_alloc | apply Kd.R_drewN | apply Kd.R_drew)); exact HO546.out))) (below_size (by repeat (first | (with_reducible first | exact HB.out | apply below_alloc | apply pw_below_drewN | apply below_drew1 | refine below_set ?_ GE543.out) | exact HB.out))))
      have n2_ := Aside0.mk (blk_below (g := gb543) (o := .cells #[.slice A1_0 l1_0.length c1_0, .slice A1_1 l1_1.length c1_1] 43 (0, 0)) (by (with_reducible repeat (first | refine blk_drewN ?_ _ | refine blk_drew ?_ | refine blk_alloc ?_ _)); exact BK543.out) hb)
      have n3_ := Aside0.mk (below_step (by repeat (first | (with_reducible first | exact HB.out | apply below_alloc | apply pw_below_drewN | apply below_drew1 | refine below_set ?_ GE543.out) | exact HB.out)) hb)
      clear HO546
      clear BK543
      clear HB
      have HO546 := n0_
      have HO549 := n1_
      have BK543 := n2_
      have HB := n3_
      clear n0_ n1_ n2_ n3_
      (try clear hb)
      (try clear hb2)
      (try clear hk)
      (try clear hi)
      (try clear ho0)
      refine hK.out _ _ ⟨(blk_cell BK543.out 0).trans rfl, (blk_cell BK543.out 1).trans rfl⟩ (fun hHeld => ?_)
      clear hK K
      refine norm_ (a' := ?_) ?_ ?_
      rotate_left
      · show Act.put _ (some 13) _ = _
        simp only [Act.put, List.setIfInBounds_toArray, List.set_cons_zero, List.set_cons_succ, i64_w, i32_w]
        rfl
      refine one_ (i := 7) (N := some 16) #[true, true, true, true, true, true, true, true, false, false, false] rfl rfl (one_of HT_.out (by kernel_rfl)) (by decide) (fun K hK => ?_)
      refine goes_ Try.func18 (by kernel_rfl) rfl #[.slice A1_1 l1_1.length c1_1] (by rfl) rfl rfl (by (try simp only [List.map_toArray, List.map_cons, List.map_nil]); first | done | rfl | (simp only [List.length_drop, List.length_take]; rfl)) ?_
      with_reducible refine (tickinglaw02_list.calls _ _ l1_1 t550 _ ?side1 ?side2 A5.out).mono ?_
      (case side1 => repeat (first | exact (Kd.C_below HR1_1.out HB.out) | (with_reducible refine Kd.C_alloc ?_ _) | (with_reducible refine Kd.C_drewN ?_ _) | (with_reducible refine Kd.C_drew ?_)))
      (case side2 => exact HC1_1.out)
      rintro e w60 ⟨v551, rfl, ho0, hb⟩
      refine ⟨_, rfl, ?_⟩
      have n0_ := Aside0.mk (Kd.R_elder' (by (with_reducible repeat (first | apply Kd.R_alloc | apply Kd.R_drewN | apply Kd.R_drew)); exact HO546.out) (Kd.R_base ho0) hb)
      have n1_ := Aside0.mk (Kd.R_elder' (by (with_reducible repeat (first | apply Kd.R_alloc | apply Kd.R_drewN | apply Kd.R_drew)); exact HO549.out) (Kd.R_base ho0) hb)
      have n2_ := Aside0.mk (Kd.R_lower (Kd.R_new' (Kd.R_new' ho0 (Kd.R_lt (by (with_reducible repeat (first | apply Kd.R_alloc | apply Kd.R_drewN | apply Kd.R_drew)); exact HO546.out))) (Kd.R_lt (by (with_reducible repeat (first | apply Kd.R_alloc | apply Kd.R_drewN | apply Kd.R_drew)); exact HO549.out))) (below_size (by repeat (first | (with_reducible first | exact HB.out | apply below_alloc | apply pw_below_drewN | apply below_drew1 | refine below_set ?_ GE543.out) | exact HB.out))))
      have n3_ := Aside0.mk (blk_below (g := gb543) (o := .cells #[.slice A1_0 l1_0.length c1_0, .slice A1_1 l1_1.length c1_1] 43 (0, 0)) (by (with_reducible repeat (first | refine blk_drewN ?_ _ | refine blk_drew ?_ | refine blk_alloc ?_ _)); exact BK543.out) hb)
      have n4_ := Aside0.mk (below_step (by repeat (first | (with_reducible first | exact HB.out | apply below_alloc | apply pw_below_drewN | apply below_drew1 | refine below_set ?_ GE543.out) | exact HB.out)) hb)
      clear HO546
      clear HO549
      clear BK543
      clear HB
      have HO546 := n0_
      have HO549 := n1_
      have HO552 := n2_
      have BK543 := n3_
      have HB := n4_
      clear n0_ n1_ n2_ n3_ n4_
      (try clear hb)
      (try clear hb2)
      (try clear hk)
      (try clear hi)
      (try clear ho0)
      refine hK.out _ _ ⟨(blk_cell BK543.out 0).trans rfl, (blk_cell BK543.out 1).trans rfl⟩ (fun hHeld => ?_)
      clear hK K
      refine norm_ (a' := ?_) ?_ ?_
      rotate_left
      · show Act.put _ (some 16) _ = _
        simp only [Act.put, List.setIfInBounds_toArray, List.set_cons_zero, List.set_cons_succ, i64_w, i32_w]
        rfl
      refine pure_ (i := 8) (N := some 5) (v := ?_) (a' := ?_) #[true, true, true, true, true, true, true, true, true, false, false] rfl rfl (any_of HT_.out (by kernel_rfl)) (fun _ _ _ h => h) (Or.inl ⟨by rfl, ?_⟩) ?_ ?_
      rotate_left
      · intro w'
        go_simp
        with_reducible rfl
      rotate_left
      · simp only [Act.put, List.setIfInBounds_toArray, List.set_cons_zero, List.set_cons_succ, i64_w, i32_w]
        rfl
      refine pure_ (i := 9) (N := some 6) (v := ?_) (a' := ?_) #[true, true, true, true, true, true, true, true, true, true, false] rfl rfl (any_of HT_.out (by kernel_rfl)) (fun _ _ _ h => h) (Or.inl ⟨by rfl, ?_⟩) ?_ ?_
      rotate_left
      · intro w'
        go_simp
        with_reducible rfl
      rotate_left
      · simp only [Act.put, List.setIfInBounds_toArray, List.set_cons_zero, List.set_cons_succ, i64_w, i32_w]
        rfl
      refine pure_ (i := 10) (N := some 7) (v := ?_) (a' := ?_) #[true, true, true, true, true, true, true, true, true, true, true] rfl rfl (any_of HT_.out (by kernel_rfl)) (fun _ _ _ h => h) (Or.inl ⟨by rfl, ?_⟩) ?_ ?_
      rotate_left
      · intro w'
        go_simp
        with_reducible rfl
      rotate_left
      · simp only [Act.put, List.setIfInBounds_toArray, List.set_cons_zero, List.set_cons_succ, i64_w, i32_w]
        rfl
      refine done_ (done_of HT_.out (by kernel_rfl)) ?_
      obtain ⟨Ao61, co61, eo61⟩ := Kd.R_slice HO546.out
      subst eo61
      obtain ⟨Ao62, co62, eo62⟩ := Kd.R_slice HO549.out
      subst eo62
      obtain ⟨Ao63, co63, eo63⟩ := Kd.R_slice HO552.out
      subst eo63
      try go_wp2_with (first | ((with_reducible refine gate_callee (f := 45) rfl ?_); refine goesL_ (some 20) rfl rfl Try.func45 (by kernel_rfl) rfl #[.slice Ao61 t544.length co61, .slice Ao62 t547.length co62, .slice Ao63 t550.length co63] rfl (by (try simp only [List.map_toArray, List.map_cons, List.map_nil]); first | done | rfl | (simp only [List.length_drop, List.length_take]; rfl)) ?_; (with_reducible refine (shunt_CheckStacks.calls k _ _ t544 _ _ t547 _ _ t550 t553 _ ?side1 ?side2 ?side3 ?side4 ?side5 ?side6 A6.out).mono ?_); (case side1 => repeat (first | exact (Kd.R_reads' HO546.out).2.2 | (with_reducible refine Kd.C_alloc ?_ _) | (with_reducible refine Kd.C_drewN ?_ _) | (with_reducible refine Kd.C_drew ?_))); (case side2 => exact (Kd.R_reads' HO546.out).2.1); (case side3 => repeat (first | exact (Kd.R_reads' HO549.out).2.2 | (with_reducible refine Kd.C_alloc ?_ _) | (with_reducible refine Kd.C_drewN ?_ _) | (with_reducible refine Kd.C_drew ?_))); (case side4 => exact (Kd.R_reads' HO549.out).2.1); (case side5 => repeat (first | exact (Kd.R_reads' HO552.out).2.2 | (with_reducible refine Kd.C_alloc ?_ _) | (with_reducible refine Kd.C_drewN ?_ _) | (with_reducible refine Kd.C_drew ?_))); (case side6 => exact (Kd.R_reads' HO552.out).2.1); rintro e w64 ⟨rfl, hb⟩; refine ⟨_, rfl, ?_⟩; have n0_ := Aside0.mk (Kd.R_below (by (with_reducible repeat (first | apply Kd.R_alloc | apply Kd.R_drewN | apply Kd.R_drew)); exact HO546.out) hb); have n1_ := Aside0.mk (Kd.R_below (by (with_reducible repeat (first | apply Kd.R_alloc | apply Kd.R_drewN | apply Kd.R_drew)); exact HO549.out) hb); have n2_ := Aside0.mk (Kd.R_below (by (with_reducible repeat (first | apply Kd.R_alloc | apply Kd.R_drewN | apply Kd.R_drew)); exact HO552.out) hb); have n3_ := Aside0.mk (blk_below (g := gb543) (o := .cells #[.slice A1_0 l1_0.length c1_0, .slice A1_1 l1_1.length c1_1] 43 (0, 0)) (by (with_reducible repeat (first | refine blk_drewN ?_ _ | refine blk_drew ?_ | refine blk_alloc ?_ _)); exact BK543.out) hb); have n4_ := Aside0.mk (below_step (by repeat (first | (with_reducible first | exact HB.out | apply below_alloc | apply pw_below_drewN | apply below_drew1 | refine below_set ?_ GE543.out) | exact HB.out)) hb); clear HO546; clear HO549; clear HO552; clear BK543; clear HB; have HO546 := n0_; have HO549 := n1_; have HO552 := n2_; have BK543 := n3_; have HB := n4_; clear n0_ n1_ n2_ n3_ n4_; (try clear hb); (try clear hb2); (try clear hk); (try clear hi)) | ((with_reducible refine gate_callee (f := 21) rfl ?_); refine goesL_ (some 22) rfl rfl Try.func21 (by kernel_rfl) rfl #[.slice Ao61 t544.length co61, .int .i64 60] rfl (by (try simp only [List.map_toArray, List.map_cons, List.map_nil]); first | done | rfl | (simp only [List.length_drop, List.length_take]; rfl)) ?_; (with_reducible refine (tickingref02_Order.calls k _ _ t544 60 false _ ?side1 ?side2 A7.out).mono ?_); (case side1 => repeat (first | exact (Kd.R_reads' HO546.out).2.2 | (with_reducible refine Kd.C_alloc ?_ _) | (with_reducible refine Kd.C_drewN ?_ _) | (with_reducible refine Kd.C_drew ?_))); (case side2 => exact (Kd.R_reads' HO546.out).2.1); rintro e w' ⟨rfl, ⟨nd, rfl⟩⟩; refine ⟨_, rfl, ?_⟩))
      go_ret
      exact ⟨by first | rfl | (simp [errW_none, errW_some] <;> rfl) | (simp [*, errW_none, errW_some] <;> rfl), by repeat (first | (with_reducible first | exact HB.out | apply below_alloc | apply pw_below_drewN | apply below_drew1 | refine below_set ?_ GE543.out) | exact HB.out)⟩

end Go.Proofs.Ytjbjongahnocdaa.S

/- Small facts for the plain laws: whole numbers that do not wrap, reads of lists, rounds. -/
namespace Go.Proofs.Ytjbjongahnocdaa.P
open Go.RowKit Go.Proofs.YtjbjongahnocdaaW.PrintWords

theorem w64 {x : Int} (h0 : -9223372036854775808 ≤ x) (h1 : x ≤ 9223372036854775807) : wrap64 x = x := by
  unfold wrap64
  omega

theorem rd_nat (l : List Int) (i : Nat) : rd l (i : Int) = l.getD i 0 := by
  unfold rd
  rw [show ((i : Int)).toNat = i by omega]

theorem rd_lt (l : List Int) (i : Nat) (h : i < l.length) : rd l (i : Int) = l[i] := by
  rw [rd_nat, List.getD_eq_getElem?_getD, List.getElem?_eq_getElem h, Option.getD_some]

theorem rd_mem {l : List Int} {x : Int} (h0 : 0 ≤ x) (h1 : x < l.length) : rd l x ∈ l := by
  obtain ⟨n, rfl⟩ := Int.eq_ofNat_of_zero_le h0
  rw [rd_lt l n (by omega)]
  exact List.getElem_mem _

theorem drop_cons (l : List Int) (i : Nat) (h : i < l.length) : l.drop i = rd l (i : Int) :: l.drop (i + 1) := by
  rw [rd_lt l i h, List.drop_eq_getElem_cons h]

theorem nodup_len : ∀ (n : Nat) (l : List Int) (lo : Int), l.Nodup → (∀ a ∈ l, lo < a ∧ a ≤ lo + n) → l.length ≤ n
  | 0, l, lo, _, h => by
    cases l with
    | nil => simp
    | cons a t => have := h a (by simp); omega
  | n + 1, l, lo, hd, h => by
    have h1 := nodup_len n (l.erase (lo + 1)) (lo + 1) (hd.erase _) (fun a ha => by
      have hm := List.mem_of_mem_erase ha
      have hne : a ≠ lo + 1 := fun e => by
        subst e
        exact (List.Nodup.not_mem_erase hd) ha
      have := h a hm
      omega)
    have h2 : l.length ≤ (l.erase (lo + 1)).length + 1 := by
      rw [List.length_erase]
      split <;> omega
    omega

theorem full_range (n : Nat) (l : List Int) (lo : Int) (hd : l.Nodup) (h : ∀ a ∈ l, lo < a ∧ a ≤ lo + n) (hl : l.length = n) (v : Int) (h0 : lo < v) (h1 : v ≤ lo + n) : v ∈ l := by
  by_cases hv : v ∈ l
  · exact hv
  · have := nodup_len n (v :: l) lo (List.nodup_cons.2 ⟨hv, hd⟩) (fun a ha => by
      rcases List.mem_cons.1 ha with rfl | ha
      · exact ⟨h0, h1⟩
      · exact h a ha)
    rw [List.length_cons] at this
    omega

end Go.Proofs.Ytjbjongahnocdaa.P

namespace Go.Proofs.Ytjbjongahnocdaa.S
open Go.Proofs.Ytjbjongahnocdaa.Lib
open Go.Proofs.Ytjbjongahnocdaa.Defs
open Go.Maps (Keyed)
open Go.RowKit Go.Proofs.YtjbjongahnocdaaW.PrintWords Go.Proofs.YtjbjongahnocdaaW.PrintLast Go.Proofs.YtjbjongahnocdaaW.PrintMore
attribute [local go_sem] max2_int min2_int max_two min_two max_three min_three max_four min_four   -- for this text's walks alone
set_option linter.unusedVariables false
set_option linter.unusedSimpArgs false

/-! ### tickingref02_ascending: function 60 -/
def tickingref02_ascending.l0 : Nat → List Int → Int → Option (Bool)
  | 0, _, _ => none
  | k + 1, x0, x3 => if x3 < (x0.length : Int) then (if 0 ≤ (wrap64 (x3 - 1)) then (if (wrap64 (x3 - 1)) < (x0.length : Int) then (if 0 ≤ x3 then (if (rd x0 (wrap64 (x3 - 1))) ≥ (rd x0 x3) then (some false) else (tickingref02_ascending.l0 k x0 (wrap64 (x3 + 1)))) else (none)) else (none)) else (none)) else (some true)
def tickingref02_ascending.f (k : Nat) (l0 : List Int) : Option (Bool) := tickingref02_ascending.l0 k l0 1
theorem tickingref02_ascending.mono_l : ∀ k, (∀ y0 y1, LeO (tickingref02_ascending.l0 k y0 y1) (tickingref02_ascending.l0 (k + 1) y0 y1))
  | 0 => fun _ _ r h => by simp [tickingref02_ascending.l0] at h
  | k + 1 => by
    have ih0 := tickingref02_ascending.mono_l k
    · intro y0 y1
      unfold tickingref02_ascending.l0
      repeat' first
      | (with_reducible exact ih0 _ _)
      | (with_reducible exact LeO.refl _)
      | (with_reducible exact LeO.none _)
      | (with_reducible refine LeO.ite ?_ ?_)
      | (with_reducible refine LeO.bind ?_ (fun _ => ?_))
      | exact ih0 _ _
      | exact LeO.none _
      | refine LeO.ite ?_ ?_
      | refine LeO.bind ?_ (fun _ => ?_)
theorem tickingref02_ascending.mono : ∀ a0 k, LeO (tickingref02_ascending.f k a0) (tickingref02_ascending.f (k + 1) a0) := by
  intro a0 k
  have ih0 := tickingref02_ascending.mono_l k
  unfold tickingref02_ascending.f
  repeat' first
      | (with_reducible exact ih0 _ _)
      | (with_reducible exact LeO.refl _)
      | (with_reducible exact LeO.none _)
      | (with_reducible refine LeO.ite ?_ ?_)
      | (with_reducible refine LeO.bind ?_ (fun _ => ?_))
      | exact ih0 _ _
      | exact LeO.none _
      | refine LeO.ite ?_ ?_
      | refine LeO.bind ?_ (fun _ => ?_)
set_option maxHeartbeats 8000000 in
set_option maxRecDepth 100000 in
theorem tickingref02_ascending.calls (k : Nat) (A0 : Option Addr) (c0 : Nat) (l0 : List Int) (r : Bool) (w : World) (hr0 : Kd.C (Kd.int .i64) w A0 l0.length l0) (hc0 : l0.length ≤ c0) (h : tickingref02_ascending.f k l0 = some r) :
    Calls Try.prog 60 #[.slice A0 l0.length c0] w fun e w' => e = .returned (.bool r) ∧ Drawn0 w w' := by
  have HR0 := Aside0.mk hr0
  have HC0 := Aside0.mk hc0
  clear hr0 hc0
  have H : (tickingref02_ascending.l0 k l0 1) = some r := h
  clear h
  have H' := Aside0.mk H
  clear H
  go_enter Try.func60, Try.ntmps60
  go_wp2
  repeat (go_quiet (fail); try go_wp2)
  go_loopg [3] k (fun kq v3 w' => ∃ (x3_1 : Int), v3 = .int .i64 x3_1 ∧ Aside0 (tickingref02_ascending.l0 kq l0 x3_1 = some r) ∧ Aside0 (kq ≤ k) ∧ Drawn0 w w')
  case atStart => exact ⟨(1), (by first | rfl | (simp; done) | (simp [*]; done)), H', ⟨Nat.le_refl _⟩, by repeat (first | exact Drawn0.refl _ | apply Drawn0.step)⟩
  case round =>
    clear H'
    obtain ⟨x3_1, rfl, HA, HK1, ⟨m1, rfl⟩⟩ := hrel
    cases gk with
    | zero => exact absurd HA.out (by simp [tickingref02_ascending.l0])
    | succ k1 =>
      have H := HA.out
      clear HA
      simp only [tickingref02_ascending.l0] at H
      by_cases c2 : x3_1 < (l0.length : Int)
      · rw [if_pos c2] at H
        have c2b0 : decide (x3_1 < (l0.length : Int)) = true := decide_eq_true c2
        clear c2
        obtain ⟨ji3, hji3⟩ : ∃ j_ : Int, (wrap64 (x3_1 - 1)) = j_ := ⟨_, rfl⟩
        replace H : (if 0 ≤ (ji3) then (if (ji3) < (l0.length : Int) then (if 0 ≤ x3_1 then (if (rd l0 (ji3)) ≥ (rd l0 x3_1) then (some false) else (tickingref02_ascending.l0 k1 l0 (wrap64 (x3_1 + 1)))) else (none)) else (none)) else (none)) = some r := by first | (rw [hji3] at H; exact H) | (simp only [hji3] at H ⊢; exact H)
        have hji3w : (IntKind.i64.wrap (x3_1 - 1)) = ji3 := (i64_w _).trans hji3
        by_cases c4 : 0 ≤ (ji3)
        · rw [if_pos c4] at H
          have c4b0 : decide (0 ≤ (ji3)) = true := decide_eq_true c4
          clear c4
          by_cases c5 : (ji3) < (l0.length : Int)
          · rw [if_pos c5] at H
            have c5b0 : decide ((ji3) < (l0.length : Int)) = true := decide_eq_true c5
            clear c5
            by_cases c6 : 0 ≤ x3_1
            · rw [if_pos c6] at H
              have c6b0 : decide (0 ≤ x3_1) = true := decide_eq_true c6
              clear c6
              by_cases c7 : (rd l0 (ji3)) ≥ (rd l0 x3_1)
              · rw [if_pos c7] at H
                have c7b0 : decide ((rd l0 x3_1) ≤ (rd l0 (ji3))) = true := decide_eq_true c7
                clear c7
                obtain rfl := Option.some.inj H
                have p194 : 0 ≤ ((ji3) : Int) := of_decide_eq_true (by first | (with_reducible assumption) | assumption)
                have q194 : (ji3) < (l0.length : Int) := of_decide_eq_true (by first | (with_reducible assumption) | assumption)
                obtain ⟨ad194, e194, hx194_0⟩ := Kd.at_int HR0.out (ji3) p194 q194
                cases e194
                replace p194 := eq_true p194
                replace q194 := eq_true q194
                have p195 : 0 ≤ (x3_1 : Int) := of_decide_eq_true (by first | (with_reducible assumption) | assumption)
                have q195 : x3_1 < (l0.length : Int) := of_decide_eq_true (by first | (with_reducible assumption) | assumption)
                obtain ⟨ad195, e195, hx195_0⟩ := Kd.at_int HR0.out x3_1 p195 q195
                obtain rfl : ad194 = ad195 := (by injection e195)
                replace p195 := eq_true p195
                replace q195 := eq_true q195
                go_wp2
                repeat (go_quiet (fail); try go_wp2)
                go_ret
                exact ⟨by first | rfl | (simp; done) | (simp only [← hji3] <;> (first | rfl | simp)) | (simp [*]; done), by repeat (first | exact Drawn0.refl _ | apply Drawn0.step)⟩
              · rw [if_neg c7] at H
                have c7b0 : decide ((rd l0 x3_1) ≤ (rd l0 (ji3))) = false := decide_eq_false c7
                clear c7
                have H' := Aside0.mk H
                clear H
                have p194 : 0 ≤ ((ji3) : Int) := of_decide_eq_true (by first | (with_reducible assumption) | assumption)
                have q194 : (ji3) < (l0.length : Int) := of_decide_eq_true (by first | (with_reducible assumption) | assumption)
                obtain ⟨ad194, e194, hx194_0⟩ := Kd.at_int HR0.out (ji3) p194 q194
                cases e194
                replace p194 := eq_true p194
                replace q194 := eq_true q194
                have p195 : 0 ≤ (x3_1 : Int) := of_decide_eq_true (by first | (with_reducible assumption) | assumption)
                have q195 : x3_1 < (l0.length : Int) := of_decide_eq_true (by first | (with_reducible assumption) | assumption)
                obtain ⟨ad195, e195, hx195_0⟩ := Kd.at_int HR0.out x3_1 p195 q195
                obtain rfl : ad194 = ad195 := (by injection e195)
                replace p195 := eq_true p195
                replace q195 := eq_true q195
                go_wp2
                repeat (go_quiet (fail); try go_wp2)
                go_roundg k1
                case measure => have := HK1.out; omega
                case rel => exact ⟨(wrap64 (x3_1 + 1)), (by first | rfl | (simp; done) | (simp [*]; done)), H', ⟨by have := HK1.out; omega⟩, by repeat (first | exact Drawn0.refl _ | apply Drawn0.step)⟩
            · rw [if_neg c6] at H
              exact absurd H (by simp)
          · rw [if_neg c5] at H
            exact absurd H (by simp)
        · rw [if_neg c4] at H
          exact absurd H (by simp)
      · rw [if_neg c2] at H
        have c2b0 : decide (x3_1 < (l0.length : Int)) = false := decide_eq_false c2
        clear c2
        obtain rfl := Option.some.inj H
        go_wp2
        repeat (go_quiet (fail); try go_wp2)
        go_ret
        exact ⟨by first | rfl | (simp; done) | (simp [*]; done), by repeat (first | exact Drawn0.refl _ | apply Drawn0.step)⟩

end Go.Proofs.Ytjbjongahnocdaa.S

namespace Go.Proofs.Ytjbjongahnocdaa.S
open Go.Proofs.Ytjbjongahnocdaa.Lib
open Go.Proofs.Ytjbjongahnocdaa.Defs
open Go.Maps (Keyed)
open Go.RowKit Go.Proofs.YtjbjongahnocdaaW.PrintWords Go.Proofs.YtjbjongahnocdaaW.PrintLast Go.Proofs.YtjbjongahnocdaaW.PrintMore
attribute [local go_sem] max2_int min2_int max_two min_two max_three min_three max_four min_four   -- for this text's walks alone
set_option linter.unusedVariables false
set_option linter.unusedSimpArgs false

/-! ### tickingref02_Pass: function 24 -/
mutual
def tickingref02_Pass.l0 : Nat → List Int → List Int → List Int → Int → Option (List Int)
  | 0, _, _, _, _ => none
  | k + 1, x0, x3, x4, x5 => if x5 < (x0.length : Int) then (tickingref02_Pass.l1 k x0 x3 x4 x5) else (tickingref02_Pass.l2 k x3 x4 (wrap64 ((x4.length : Int) - 1)))
def tickingref02_Pass.l1 : Nat → List Int → List Int → List Int → Int → Option (List Int)
  | 0, _, _, _, _ => none
  | k + 1, x0, x3, x4, x5 => if (x4.length : Int) > 0 then (if 0 ≤ (wrap64 ((x4.length : Int) - 1)) then (if (wrap64 ((x4.length : Int) - 1)) < (x4.length : Int) then (if 0 ≤ x5 then (if x5 < (x0.length : Int) then (if (rd x4 (wrap64 ((x4.length : Int) - 1))) < (rd x0 x5) then (if x3.length < 17592186044416 then (if (wrap64 ((x4.length : Int) - 1)) ≤ (x4.length : Int) then (tickingref02_Pass.l1 k x0 (x3 ++ [rd x4 (wrap64 ((x4.length : Int) - 1))]) (x4.take ((wrap64 ((x4.length : Int) - 1)) : Int).toNat) x5) else (none)) else (none)) else (if x4.length < 17592186044416 then (tickingref02_Pass.l0 k x0 x3 (x4 ++ [rd x0 x5]) (wrap64 (x5 + 1))) else (none))) else (none)) else (none)) else (none)) else (none)) else (if 0 ≤ x5 then (if x5 < (x0.length : Int) then (if x4.length < 17592186044416 then (tickingref02_Pass.l0 k x0 x3 (x4 ++ [rd x0 x5]) (wrap64 (x5 + 1))) else (none)) else (none)) else (none))
def tickingref02_Pass.l2 : Nat → List Int → List Int → Int → Option (List Int)
  | 0, _, _, _ => none
  | k + 1, x3, x4, x6 => if x6 ≥ 0 then (if 0 ≤ x6 then (if x6 < (x4.length : Int) then (if x3.length < 17592186044416 then (tickingref02_Pass.l2 k (x3 ++ [rd x4 x6]) x4 (wrap64 (x6 - 1))) else (none)) else (none)) else (none)) else (some x3)
end
def tickingref02_Pass.f (k : Nat) (l0 : List Int) : Option (List Int) := tickingref02_Pass.l0 k l0 ([] : List Int) ([] : List Int) 0
theorem tickingref02_Pass.mono_l : ∀ k, (∀ y0 y1 y2 y3, LeO (tickingref02_Pass.l0 k y0 y1 y2 y3) (tickingref02_Pass.l0 (k + 1) y0 y1 y2 y3)) ∧ (∀ y0 y1 y2 y3, LeO (tickingref02_Pass.l1 k y0 y1 y2 y3) (tickingref02_Pass.l1 (k + 1) y0 y1 y2 y3)) ∧ (∀ y0 y1 y2, LeO (tickingref02_Pass.l2 k y0 y1 y2) (tickingref02_Pass.l2 (k + 1) y0 y1 y2))
  | 0 => ⟨fun _ _ _ _ r h => by simp [tickingref02_Pass.l0] at h, fun _ _ _ _ r h => by simp [tickingref02_Pass.l1] at h, fun _ _ _ r h => by simp [tickingref02_Pass.l2] at h⟩
  | k + 1 => by
    obtain ⟨ih0, ih1, ih2⟩ := tickingref02_Pass.mono_l k
    refine ⟨?_, ?_, ?_⟩
    · intro y0 y1 y2 y3
      unfold tickingref02_Pass.l0
      repeat' first
      | (with_reducible exact ih0 _ _ _ _)
      | (with_reducible exact ih1 _ _ _ _)
      | (with_reducible exact ih2 _ _ _)
      | (with_reducible exact LeO.refl _)
      | (with_reducible exact LeO.none _)
      | (with_reducible refine LeO.ite ?_ ?_)
      | (with_reducible refine LeO.bind ?_ (fun _ => ?_))
      | exact ih0 _ _ _ _
      | exact ih1 _ _ _ _
      | exact ih2 _ _ _
      | exact LeO.none _
      | refine LeO.ite ?_ ?_
      | refine LeO.bind ?_ (fun _ => ?_)
    · intro y0 y1 y2 y3
      unfold tickingref02_Pass.l1
      repeat' first
      | (with_reducible exact ih0 _ _ _ _)
      | (with_reducible exact ih1 _ _ _ _)
      | (with_reducible exact ih2 _ _ _)
      | (with_reducible exact LeO.refl _)
      | (with_reducible exact LeO.none _)
      | (with_reducible refine LeO.ite ?_ ?_)
      | (with_reducible refine LeO.bind ?_ (fun _ => ?_))
      | exact ih0 _ _ _ _
      | exact ih1 _ _ _ _
      | exact ih2 _ _ _
      | exact LeO.none _
      | refine LeO.ite ?_ ?_
      | refine LeO.bind ?_ (fun _ => ?_)
    · intro y0 y1 y2
      unfold tickingref02_Pass.l2
      repeat' first
      | (with_reducible exact ih0 _ _ _ _)
      | (with_reducible exact ih1 _ _ _ _)
      | (with_reducible exact ih2 _ _ _)
      | (with_reducible exact LeO.refl _)
      | (with_reducible exact LeO.none _)
      | (with_reducible refine LeO.ite ?_ ?_)
      | (with_reducible refine LeO.bind ?_ (fun _ => ?_))
      | exact ih0 _ _ _ _
      | exact ih1 _ _ _ _
      | exact ih2 _ _ _
      | exact LeO.none _
      | refine LeO.ite ?_ ?_
      | refine LeO.bind ?_ (fun _ => ?_)
theorem tickingref02_Pass.mono : ∀ a0 k, LeO (tickingref02_Pass.f k a0) (tickingref02_Pass.f (k + 1) a0) := by
  intro a0 k
  obtain ⟨ih0, ih1, ih2⟩ := tickingref02_Pass.mono_l k
  unfold tickingref02_Pass.f
  repeat' first
      | (with_reducible exact ih0 _ _ _ _)
      | (with_reducible exact ih1 _ _ _ _)
      | (with_reducible exact ih2 _ _ _)
      | (with_reducible exact LeO.refl _)
      | (with_reducible exact LeO.none _)
      | (with_reducible refine LeO.ite ?_ ?_)
      | (with_reducible refine LeO.bind ?_ (fun _ => ?_))
      | exact ih0 _ _ _ _
      | exact ih1 _ _ _ _
      | exact ih2 _ _ _
      | exact LeO.none _
      | refine LeO.ite ?_ ?_
      | refine LeO.bind ?_ (fun _ => ?_)
set_option maxHeartbeats 8000000 in
set_option maxRecDepth 100000 in
theorem tickingref02_Pass.calls (k : Nat) (A0 : Option Addr) (c0 : Nat) (l0 : List Int) (r : List Int) (w : World) (hr0 : Kd.C (Kd.int .i64) w A0 l0.length l0) (hc0 : l0.length ≤ c0) (h : tickingref02_Pass.f k l0 = some r) :
    Calls Try.prog 24 #[.slice A0 l0.length c0] w fun e w' => ∃ v0_ : Value, e = .returned (v0_) ∧ Kd.R (Kd.int .i64) 3 w' w.heap.size (fun _ => True) v0_ r ∧ Below w.heap.size w w' := by
  have HR0 := Aside0.mk hr0
  have HC0 := Aside0.mk hc0
  clear hr0 hc0
  have HB := Aside0.mk (Below.refl w.heap.size w)
  have H : (tickingref02_Pass.l0 k l0 ([] : List Int) ([] : List Int) 0) = some r := h
  clear h
  have H' := Aside0.mk H
  clear H
  go_enter Try.func24, Try.ntmps24
  go_wp2
  repeat (go_quiet (fail); try go_wp2)
  go_loopg [3, 4, 5] k (fun kq v3 v4 v5 w' => ∃ (x3_1 : List Int) (x4_1 : List Int) (x5_1 : Int), v5 = .int .i64 x5_1 ∧ Aside0 (tickingref02_Pass.l0 kq l0 x3_1 x4_1 x5_1 = some r) ∧ Aside0 (kq ≤ k) ∧ Aside0 (Kd.R (Kd.int .i64) 3 w' w.heap.size (fun k_ => some k_ ≠ (v4 : Value).ownBlock) v3 x3_1) ∧ Aside0 (Kd.R (Kd.int .i64) 3 w' w.heap.size (fun k_ => some k_ ≠ (v3 : Value).ownBlock) v4 x4_1) ∧ Aside0 (Below w.heap.size w w'))
  case atStart => exact ⟨(([] : List Int)), (([] : List Int)), (0), (by first | rfl | (simp; done) | (simp [*]; done)), H', ⟨Nat.le_refl _⟩, ⟨by first | exact Kd.R_nil _ _ _ _ _ | exact Kd.N_nil _ _ _ _ _ | exact Kd.V_nil _ _ _ _ _ | exact Kd.Q_nil _ _ _ _ _ | exact Kd.S_nil _ _ _ _ _⟩, ⟨by first | exact Kd.R_nil _ _ _ _ _ | exact Kd.N_nil _ _ _ _ _ | exact Kd.V_nil _ _ _ _ _ | exact Kd.Q_nil _ _ _ _ _ | exact Kd.S_nil _ _ _ _ _⟩, ⟨by repeat (first | (with_reducible first | exact HB.out | apply below_alloc | apply pw_below_drewN | apply below_drew1) | exact HB.out)⟩⟩
  case round =>
    clear H'
    obtain ⟨x3_1, x4_1, x5_1, rfl, HA, HK1, HO_3, HO_4, HB⟩ := hrel
    cases gk with
    | zero => exact absurd HA.out (by simp [tickingref02_Pass.l0])
    | succ k1 =>
      have H := HA.out
      clear HA
      simp only [tickingref02_Pass.l0] at H
      by_cases c2 : x5_1 < (l0.length : Int)
      · rw [if_pos c2] at H
        have c2b0 : decide (x5_1 < (l0.length : Int)) = true := decide_eq_true c2
        clear c2
        have H' := Aside0.mk H
        clear H
        go_wp2
        repeat (go_quiet (fail); try go_wp2)
        go_loopg [3, 4] k1 (fun kq v3 v4 w' => ∃ (x3_2 : List Int) (x4_2 : List Int), Aside0 (tickingref02_Pass.l1 kq l0 x3_2 x4_2 x5_1 = some r) ∧ Aside0 (kq ≤ k1) ∧ Aside0 (Kd.R (Kd.int .i64) 3 w' w.heap.size (fun k_ => some k_ ≠ (v4 : Value).ownBlock) v3 x3_2) ∧ Aside0 (Kd.R (Kd.int .i64) 3 w' w.heap.size (fun k_ => some k_ ≠ (v3 : Value).ownBlock) v4 x4_2) ∧ Aside0 (Below w.heap.size w w'))
        case atStart => exact ⟨(x3_1), (x4_1), H', ⟨Nat.le_refl _⟩, ⟨by (with_reducible repeat (first | apply Kd.R_alloc | apply Kd.R_drewN | apply Kd.R_drew)); exact HO_3.out⟩, ⟨by (with_reducible repeat (first | apply Kd.R_alloc | apply Kd.R_drewN | apply Kd.R_drew)); exact HO_4.out⟩, ⟨by repeat (first | (with_reducible first | exact HB.out | apply below_alloc | apply pw_below_drewN | apply below_drew1) | exact HB.out)⟩⟩
        case round =>
          clear H'
          try clear c2
          try clear c2b0
          try clear p2
          obtain ⟨x3_2, x4_2, HA, HK2, HO_3, HO_4, HB⟩ := hrel
          cases gk with
          | zero => exact absurd HA.out (by simp [tickingref02_Pass.l1])
          | succ k2 =>
            have H := HA.out
            clear HA
            simp only [tickingref02_Pass.l1] at H
            by_cases c3 : (x4_2.length : Int) > 0
            · rw [if_pos c3] at H
              have c3b0 : decide (0 < (x4_2.length : Int)) = true := decide_eq_true c3
              have c3b1 : decide (0 < x4_2.length) = true := decide_eq_true (by omega)
              clear c3
              obtain ⟨ji4, hji4⟩ : ∃ j_ : Int, (wrap64 ((x4_2.length : Int) - 1)) = j_ := ⟨_, rfl⟩
              replace H : (if 0 ≤ (ji4) then (if (ji4) < (x4_2.length : Int) then (if 0 ≤ x5_1 then (if x5_1 < (l0.length : Int) then (if (rd x4_2 (ji4)) < (rd l0 x5_1) then (if x3_2.length < 17592186044416 then (if (ji4) ≤ (x4_2.length : Int) then (tickingref02_Pass.l1 k2 l0 (x3_2 ++ [rd x4_2 (ji4)]) (x4_2.take ((ji4) : Int).toNat) x5_1) else (none)) else (none)) else (if x4_2.length < 17592186044416 then (tickingref02_Pass.l0 k2 l0 x3_2 (x4_2 ++ [rd l0 x5_1]) (wrap64 (x5_1 + 1))) else (none))) else (none)) else (none)) else (none)) else (none)) = some r := by first | (rw [hji4] at H; exact H) | (simp only [hji4] at H ⊢; exact H)
              have hji4w : (IntKind.i64.wrap ((x4_2.length : Int) - 1)) = ji4 := (i64_w _).trans hji4
              by_cases c5 : 0 ≤ (ji4)
              · rw [if_pos c5] at H
                have c5b0 : decide (0 ≤ (ji4)) = true := decide_eq_true c5
                clear c5
                by_cases c6 : (ji4) < (x4_2.length : Int)
                · rw [if_pos c6] at H
                  have c6b0 : decide ((ji4) < (x4_2.length : Int)) = true := decide_eq_true c6
                  clear c6
                  by_cases c7 : 0 ≤ x5_1
                  · rw [if_pos c7] at H
                    have c7b0 : decide (0 ≤ x5_1) = true := decide_eq_true c7
                    clear c7
                    by_cases c8 : x5_1 < (l0.length : Int)
                    · rw [if_pos c8] at H
                      have c8b0 : decide (x5_1 < (l0.length : Int)) = true := decide_eq_true c8
                      clear c8
                      by_cases c9 : (rd x4_2 (ji4)) < (rd l0 x5_1)
                      · rw [if_pos c9] at H
                        have c9b0 : decide ((rd x4_2 (ji4)) < (rd l0 x5_1)) = true := decide_eq_true c9
                        clear c9
                        by_cases c10 : x3_2.length < 17592186044416
                        · rw [if_pos c10] at H
                          have LMc10 := Aside0.mk c10
                          clear c10
                          obtain ⟨y176, hy176⟩ : ∃ y_ : List Int, y_ = (x3_2 ++ [rd x4_2 (ji4)]) := ⟨_, rfl⟩
                          replace H : (if (ji4) ≤ (x4_2.length : Int) then (tickingref02_Pass.l1 k2 l0 y176 (x4_2.take ((ji4) : Int).toNat) x5_1) else (none)) = some r := by first | (rw [hy176]; with_reducible exact H) | (have H2_ := (Option.bind_some _ _).symm.trans H; rw [hy176]; with_reducible exact H2_) | (have H2_ := (Option.bind_some _ _).symm.trans H; with_reducible exact H2_) | with_reducible exact H | (rw [hy176]; exact H) | exact H
                          have Ny176 := Aside0.mk hy176
                          clear hy176
                          by_cases c11 : (ji4) ≤ (x4_2.length : Int)
                          · rw [if_pos c11] at H
                            have c11b0 := eq_true c11
                            have c11b1 : decide ((ji4) ≤ (x4_2.length : Int)) = true := decide_eq_true c11
                            clear c11
                            obtain ⟨y179, hy179⟩ : ∃ y_ : List Int, y_ = (x4_2.take ((ji4) : Int).toNat) := ⟨_, rfl⟩
                            replace H : (tickingref02_Pass.l1 k2 l0 y176 y179 x5_1) = some r := by first | (rw [hy179]; with_reducible exact H) | (have H2_ := (Option.bind_some _ _).symm.trans H; rw [hy179]; with_reducible exact H2_) | (have H2_ := (Option.bind_some _ _).symm.trans H; with_reducible exact H2_) | with_reducible exact H | (rw [hy179]; exact H) | exact H
                            have Ny179 := Aside0.mk hy179
                            clear hy179
                            have H' := Aside0.mk H
                            clear H
                            obtain ⟨Ao12, co12, eo12⟩ := Kd.R_slice HO_4.out
                            subst eo12
                            have p173 : 0 ≤ ((ji4) : Int) := of_decide_eq_true (by first | (with_reducible assumption) | assumption)
                            have q173 : (ji4) < (x4_2.length : Int) := of_decide_eq_true (by first | (with_reducible assumption) | assumption)
                            obtain ⟨ad173, e173, hx173_0⟩ := Kd.at_int (Kd.R_reads' HO_4.out).2.2 (ji4) p173 q173
                            cases e173
                            replace p173 := eq_true p173
                            replace q173 := eq_true q173
                            have p174 : 0 ≤ (x5_1 : Int) := of_decide_eq_true (by first | (with_reducible assumption) | assumption)
                            have q174 : x5_1 < (l0.length : Int) := of_decide_eq_true (by first | (with_reducible assumption) | assumption)
                            obtain ⟨ad174, e174, hx174_0⟩ := Kd.at_int HR0.out x5_1 p174 q174
                            cases e174
                            replace hx174_0 := (HB.out.cell (World.block_lt_of_cell? w _ hx174_0)).trans hx174_0
                            replace p174 := eq_true p174
                            replace q174 := eq_true q174
                            have p175 : 0 ≤ ((ji4) : Int) := of_decide_eq_true (by first | (with_reducible assumption) | assumption)
                            have q175 : (ji4) < (x4_2.length : Int) := of_decide_eq_true (by first | (with_reducible assumption) | assumption)
                            obtain ⟨ad175, e175, hx175_0⟩ := Kd.at_int (Kd.R_reads' HO_4.out).2.2 (ji4) p175 q175
                            obtain rfl : ad173 = ad175 := (by injection e175)
                            replace p175 := eq_true p175
                            replace q175 := eq_true q175
                            go_wp2_with (first | ((with_reducible refine gate_builtin (b := .append) (xs := #[.tmp 29, .tmp 36]) rfl ?_); (try (refine gate_guard (by rfl) ?_; dsimp only)); at_builtin; refine Kd.R_append (Kd.int .i64) (w0 := w) w.heap.size rfl (.tmp 29) (.tmp 36) 22 3 (.int .i64 0) 8 rfl Try.underlying22 info3 rfl (by decide) (by omega) u3 x3_2 (rd x4_2 (ji4)) [.int .i64 (rd x4_2 (ji4))] (fun k_ => some k_ ≠ (.slice (some ad173) x4_2.length co12 : Value).ownBlock) (fun _ => False) rfl rfl ?aP (fun _ hk => hk.elim) ?aF ?aO ?aB ?aS ?aL ?_; (case aP => exact rfl); (case aB => exact (by repeat (first | (with_reducible first | exact HB.out | apply below_alloc | apply pw_below_drewN | apply below_drew1) | exact HB.out))); (case aF => exact (fun k_ hk => Kd.fresh' (Kd.R_lt (by (with_reducible repeat (first | apply Kd.R_alloc | apply Kd.R_drewN | apply Kd.R_drew)); exact HO_4.out)) k_ hk)); (case aO => exact (by (with_reducible repeat (first | apply Kd.R_alloc | apply Kd.R_drewN | apply Kd.R_drew)); exact HO_3.out)); (case aS => exact (below_size (by repeat (first | (with_reducible first | exact HB.out | apply below_alloc | apply pw_below_drewN | apply below_drew1) | exact HB.out)))); (case aL => have := LMc10.out; omega); intro v177 w13 ho hb hg hat; rw [← Ny176.out] at ho; have n0_ := Aside0.mk (Kd.R_after (ok := (fun _ => True)) (by (with_reducible repeat (first | apply Kd.R_alloc | apply Kd.R_drewN | apply Kd.R_drew)); exact Kd.R_mono HO_4.out (fun _ hk => ⟨trivial, hk⟩)) hg hat); have n1_ := Aside0.mk (hb); have n2_ := Aside0.mk (ho); clear HO_4; clear HB; clear HO_3; have HO_4 := n0_; have HB := n1_; have HO178 := n2_; clear n0_ n1_ n2_; clear ho hb hg hat; have q14 : ((ji4) : Int) ≤ ((x4_2.length : Int) : Int) := of_decide_eq_true (by first | (with_reducible assumption) | assumption); obtain ⟨i014, hi014, _, hsz14, _⟩ := info_parts info3; have hcut14 := cut_to (P := Try.prog) 22 3 .i64 Try.underlying22 hi014 (some ad173) x4_2.length co12 (ji4) (of_decide_eq_true (by first | (with_reducible assumption) | assumption)) q14 (Kd.R_reads' HO_4.out).2.1; have hr14 := Kd.R_take (m := ((ji4) : Int).toNat) HO_4.out (by omega); have hy14 : y179.length = ((ji4) : Int).toNat := (by rw [Ny179.out, List.length_take]; omega); rw [← Ny179.out] at hr14; rw [← hy14] at hr14 hcut14; clear hy14 hi014 hsz14 HO_4; have HO181 := Aside0.mk hr14; clear hr14; replace q14 := eq_true q14))
                            repeat (go_quiet (first | ((with_reducible refine gate_builtin (b := .append) (xs := #[.tmp 29, .tmp 36]) rfl ?_); (try (refine gate_guard (by rfl) ?_; dsimp only)); at_builtin; refine Kd.R_append (Kd.int .i64) (w0 := w) w.heap.size rfl (.tmp 29) (.tmp 36) 22 3 (.int .i64 0) 8 rfl Try.underlying22 info3 rfl (by decide) (by omega) u3 x3_2 (rd x4_2 (ji4)) [.int .i64 (rd x4_2 (ji4))] (fun k_ => some k_ ≠ (.slice (some ad173) x4_2.length co12 : Value).ownBlock) (fun _ => False) rfl rfl ?aP (fun _ hk => hk.elim) ?aF ?aO ?aB ?aS ?aL ?_; (case aP => exact rfl); (case aB => exact (by repeat (first | (with_reducible first | exact HB.out | apply below_alloc | apply pw_below_drewN | apply below_drew1) | exact HB.out))); (case aF => exact (fun k_ hk => Kd.fresh' (Kd.R_lt (by (with_reducible repeat (first | apply Kd.R_alloc | apply Kd.R_drewN | apply Kd.R_drew)); exact HO_4.out)) k_ hk)); (case aO => exact (by (with_reducible repeat (first | apply Kd.R_alloc | apply Kd.R_drewN | apply Kd.R_drew)); exact HO_3.out)); (case aS => exact (below_size (by repeat (first | (with_reducible first | exact HB.out | apply below_alloc | apply pw_below_drewN | apply below_drew1) | exact HB.out)))); (case aL => have := LMc10.out; omega); intro v177 w13 ho hb hg hat; rw [← Ny176.out] at ho; have n0_ := Aside0.mk (Kd.R_after (ok := (fun _ => True)) (by (with_reducible repeat (first | apply Kd.R_alloc | apply Kd.R_drewN | apply Kd.R_drew)); exact Kd.R_mono HO_4.out (fun _ hk => ⟨trivial, hk⟩)) hg hat); have n1_ := Aside0.mk (hb); have n2_ := Aside0.mk (ho); clear HO_4; clear HB; clear HO_3; have HO_4 := n0_; have HB := n1_; have HO178 := n2_; clear n0_ n1_ n2_; clear ho hb hg hat; have q14 : ((ji4) : Int) ≤ ((x4_2.length : Int) : Int) := of_decide_eq_true (by first | (with_reducible assumption) | assumption); obtain ⟨i014, hi014, _, hsz14, _⟩ := info_parts info3; have hcut14 := cut_to (P := Try.prog) 22 3 .i64 Try.underlying22 hi014 (some ad173) x4_2.length co12 (ji4) (of_decide_eq_true (by first | (with_reducible assumption) | assumption)) q14 (Kd.R_reads' HO_4.out).2.1; have hr14 := Kd.R_take (m := ((ji4) : Int).toNat) HO_4.out (by omega); have hy14 : y179.length = ((ji4) : Int).toNat := (by rw [Ny179.out, List.length_take]; omega); rw [← Ny179.out] at hr14; rw [← hy14] at hr14 hcut14; clear hy14 hi014 hsz14 HO_4; have HO181 := Aside0.mk hr14; clear hr14; replace q14 := eq_true q14)); try go_wp2_with (first | ((with_reducible refine gate_builtin (b := .append) (xs := #[.tmp 29, .tmp 36]) rfl ?_); (try (refine gate_guard (by rfl) ?_; dsimp only)); at_builtin; refine Kd.R_append (Kd.int .i64) (w0 := w) w.heap.size rfl (.tmp 29) (.tmp 36) 22 3 (.int .i64 0) 8 rfl Try.underlying22 info3 rfl (by decide) (by omega) u3 x3_2 (rd x4_2 (ji4)) [.int .i64 (rd x4_2 (ji4))] (fun k_ => some k_ ≠ (.slice (some ad173) x4_2.length co12 : Value).ownBlock) (fun _ => False) rfl rfl ?aP (fun _ hk => hk.elim) ?aF ?aO ?aB ?aS ?aL ?_; (case aP => exact rfl); (case aB => exact (by repeat (first | (with_reducible first | exact HB.out | apply below_alloc | apply pw_below_drewN | apply below_drew1) | exact HB.out))); (case aF => exact (fun k_ hk => Kd.fresh' (Kd.R_lt (by (with_reducible repeat (first | apply Kd.R_alloc | apply Kd.R_drewN | apply Kd.R_drew)); exact HO_4.out)) k_ hk)); (case aO => exact (by (with_reducible repeat (first | apply Kd.R_alloc | apply Kd.R_drewN | apply Kd.R_drew)); exact HO_3.out)); (case aS => exact (below_size (by repeat (first | (with_reducible first | exact HB.out | apply below_alloc | apply pw_below_drewN | apply below_drew1) | exact HB.out)))); (case aL => have := LMc10.out; omega); intro v177 w13 ho hb hg hat; rw [← Ny176.out] at ho; have n0_ := Aside0.mk (Kd.R_after (ok := (fun _ => True)) (by (with_reducible repeat (first | apply Kd.R_alloc | apply Kd.R_drewN | apply Kd.R_drew)); exact Kd.R_mono HO_4.out (fun _ hk => ⟨trivial, hk⟩)) hg hat); have n1_ := Aside0.mk (hb); have n2_ := Aside0.mk (ho); clear HO_4; clear HB; clear HO_3; have HO_4 := n0_; have HB := n1_; have HO178 := n2_; clear n0_ n1_ n2_; clear ho hb hg hat; have q14 : ((ji4) : Int) ≤ ((x4_2.length : Int) : Int) := of_decide_eq_true (by first | (with_reducible assumption) | assumption); obtain ⟨i014, hi014, _, hsz14, _⟩ := info_parts info3; have hcut14 := cut_to (P := Try.prog) 22 3 .i64 Try.underlying22 hi014 (some ad173) x4_2.length co12 (ji4) (of_decide_eq_true (by first | (with_reducible assumption) | assumption)) q14 (Kd.R_reads' HO_4.out).2.1; have hr14 := Kd.R_take (m := ((ji4) : Int).toNat) HO_4.out (by omega); have hy14 : y179.length = ((ji4) : Int).toNat := (by rw [Ny179.out, List.length_take]; omega); rw [← Ny179.out] at hr14; rw [← hy14] at hr14 hcut14; clear hy14 hi014 hsz14 HO_4; have HO181 := Aside0.mk hr14; clear hr14; replace q14 := eq_true q14)))
                            go_roundg k2
                            case measure => have := HK1.out; have := HK2.out; omega
                            case rel => exact ⟨(y176), (y179), H', ⟨by have := HK1.out; have := HK2.out; omega⟩, ⟨by (with_reducible repeat (first | apply Kd.R_alloc | apply Kd.R_drewN | apply Kd.R_drew)); exact HO178.out⟩, ⟨by (with_reducible repeat (first | apply Kd.R_alloc | apply Kd.R_drewN | apply Kd.R_drew)); exact Kd.R_mono HO181.out (fun _ hk => hk.2)⟩, ⟨by repeat (first | (with_reducible first | exact HB.out | apply below_alloc | apply pw_below_drewN | apply below_drew1) | exact HB.out)⟩⟩
                          · rw [if_neg c11] at H
                            exact absurd H (by simp)
                        · rw [if_neg c10] at H
                          exact absurd H (by simp)
                      · rw [if_neg c9] at H
                        have c9b0 : decide ((rd x4_2 (ji4)) < (rd l0 x5_1)) = false := decide_eq_false c9
                        clear c9
                        by_cases c15 : x4_2.length < 17592186044416
                        · rw [if_pos c15] at H
                          have LMc15 := Aside0.mk c15
                          clear c15
                          obtain ⟨y183, hy183⟩ : ∃ y_ : List Int, y_ = (x4_2 ++ [rd l0 x5_1]) := ⟨_, rfl⟩
                          replace H : (tickingref02_Pass.l0 k2 l0 x3_2 y183 (wrap64 (x5_1 + 1))) = some r := by first | (rw [hy183]; with_reducible exact H) | (have H2_ := (Option.bind_some _ _).symm.trans H; rw [hy183]; with_reducible exact H2_) | (have H2_ := (Option.bind_some _ _).symm.trans H; with_reducible exact H2_) | with_reducible exact H | (rw [hy183]; exact H) | exact H
                          have Ny183 := Aside0.mk hy183
                          clear hy183
                          have H' := Aside0.mk H
                          clear H
                          obtain ⟨Ao16, co16, eo16⟩ := Kd.R_slice HO_4.out
                          subst eo16
                          have p173 : 0 ≤ ((ji4) : Int) := of_decide_eq_true (by first | (with_reducible assumption) | assumption)
                          have q173 : (ji4) < (x4_2.length : Int) := of_decide_eq_true (by first | (with_reducible assumption) | assumption)
                          obtain ⟨ad173, e173, hx173_0⟩ := Kd.at_int (Kd.R_reads' HO_4.out).2.2 (ji4) p173 q173
                          cases e173
                          replace p173 := eq_true p173
                          replace q173 := eq_true q173
                          have p174 : 0 ≤ (x5_1 : Int) := of_decide_eq_true (by first | (with_reducible assumption) | assumption)
                          have q174 : x5_1 < (l0.length : Int) := of_decide_eq_true (by first | (with_reducible assumption) | assumption)
                          obtain ⟨ad174, e174, hx174_0⟩ := Kd.at_int HR0.out x5_1 p174 q174
                          cases e174
                          replace hx174_0 := (HB.out.cell (World.block_lt_of_cell? w _ hx174_0)).trans hx174_0
                          replace p174 := eq_true p174
                          replace q174 := eq_true q174
                          have p182 : 0 ≤ (x5_1 : Int) := of_decide_eq_true (by first | (with_reducible assumption) | assumption)
                          have q182 : x5_1 < (l0.length : Int) := of_decide_eq_true (by first | (with_reducible assumption) | assumption)
                          obtain ⟨ad182, e182, hx182_0⟩ := Kd.at_int HR0.out x5_1 p182 q182
                          obtain rfl : ad174 = ad182 := (by injection e182)
                          replace hx182_0 := (HB.out.cell (World.block_lt_of_cell? w _ hx182_0)).trans hx182_0
                          replace p182 := eq_true p182
                          replace q182 := eq_true q182
                          go_wp2_with (first | ((with_reducible refine gate_builtin (b := .append) (xs := #[.tmp 43, .tmp 48]) rfl ?_); (try (refine gate_guard (by rfl) ?_; dsimp only)); at_builtin; refine Kd.R_append (Kd.int .i64) (w0 := w) w.heap.size rfl (.tmp 43) (.tmp 48) 22 3 (.int .i64 0) 8 rfl Try.underlying22 info3 rfl (by decide) (by omega) (.slice (some ad173) x4_2.length co16) x4_2 (rd l0 x5_1) [.int .i64 (rd l0 x5_1)] (fun k_ => some k_ ≠ (u3 : Value).ownBlock) (fun _ => False) rfl rfl ?aP (fun _ hk => hk.elim) ?aF ?aO ?aB ?aS ?aL ?_; (case aP => exact rfl); (case aB => exact (by repeat (first | (with_reducible first | exact HB.out | apply below_alloc | apply pw_below_drewN | apply below_drew1) | exact HB.out))); (case aF => exact (fun k_ hk => Kd.fresh' (Kd.R_lt (by (with_reducible repeat (first | apply Kd.R_alloc | apply Kd.R_drewN | apply Kd.R_drew)); exact HO_3.out)) k_ hk)); (case aO => exact (by (with_reducible repeat (first | apply Kd.R_alloc | apply Kd.R_drewN | apply Kd.R_drew)); exact HO_4.out)); (case aS => exact (below_size (by repeat (first | (with_reducible first | exact HB.out | apply below_alloc | apply pw_below_drewN | apply below_drew1) | exact HB.out)))); (case aL => have := LMc15.out; omega); intro v184 w17 ho hb hg hat; rw [← Ny183.out] at ho; have n0_ := Aside0.mk (Kd.R_after (ok := (fun _ => True)) (by (with_reducible repeat (first | apply Kd.R_alloc | apply Kd.R_drewN | apply Kd.R_drew)); exact Kd.R_mono HO_3.out (fun _ hk => ⟨trivial, hk⟩)) hg hat); have n1_ := Aside0.mk (hb); have n2_ := Aside0.mk (ho); clear HO_3; clear HB; clear HO_4; have HO_3 := n0_; have HB := n1_; have HO185 := n2_; clear n0_ n1_ n2_; clear ho hb hg hat))
                          repeat (go_quiet (first | ((with_reducible refine gate_builtin (b := .append) (xs := #[.tmp 43, .tmp 48]) rfl ?_); (try (refine gate_guard (by rfl) ?_; dsimp only)); at_builtin; refine Kd.R_append (Kd.int .i64) (w0 := w) w.heap.size rfl (.tmp 43) (.tmp 48) 22 3 (.int .i64 0) 8 rfl Try.underlying22 info3 rfl (by decide) (by omega) (.slice (some ad173) x4_2.length co16) x4_2 (rd l0 x5_1) [.int .i64 (rd l0 x5_1)] (fun k_ => some k_ ≠ (u3 : Value).ownBlock) (fun _ => False) rfl rfl ?aP (fun _ hk => hk.elim) ?aF ?aO ?aB ?aS ?aL ?_; (case aP => exact rfl); (case aB => exact (by repeat (first | (with_reducible first | exact HB.out | apply below_alloc | apply pw_below_drewN | apply below_drew1) | exact HB.out))); (case aF => exact (fun k_ hk => Kd.fresh' (Kd.R_lt (by (with_reducible repeat (first | apply Kd.R_alloc | apply Kd.R_drewN | apply Kd.R_drew)); exact HO_3.out)) k_ hk)); (case aO => exact (by (with_reducible repeat (first | apply Kd.R_alloc | apply Kd.R_drewN | apply Kd.R_drew)); exact HO_4.out)); (case aS => exact (below_size (by repeat (first | (with_reducible first | exact HB.out | apply below_alloc | apply pw_below_drewN | apply below_drew1) | exact HB.out)))); (case aL => have := LMc15.out; omega); intro v184 w17 ho hb hg hat; rw [← Ny183.out] at ho; have n0_ := Aside0.mk (Kd.R_after (ok := (fun _ => True)) (by (with_reducible repeat (first | apply Kd.R_alloc | apply Kd.R_drewN | apply Kd.R_drew)); exact Kd.R_mono HO_3.out (fun _ hk => ⟨trivial, hk⟩)) hg hat); have n1_ := Aside0.mk (hb); have n2_ := Aside0.mk (ho); clear HO_3; clear HB; clear HO_4; have HO_3 := n0_; have HB := n1_; have HO185 := n2_; clear n0_ n1_ n2_; clear ho hb hg hat)); try go_wp2_with (first | ((with_reducible refine gate_builtin (b := .append) (xs := #[.tmp 43, .tmp 48]) rfl ?_); (try (refine gate_guard (by rfl) ?_; dsimp only)); at_builtin; refine Kd.R_append (Kd.int .i64) (w0 := w) w.heap.size rfl (.tmp 43) (.tmp 48) 22 3 (.int .i64 0) 8 rfl Try.underlying22 info3 rfl (by decide) (by omega) (.slice (some ad173) x4_2.length co16) x4_2 (rd l0 x5_1) [.int .i64 (rd l0 x5_1)] (fun k_ => some k_ ≠ (u3 : Value).ownBlock) (fun _ => False) rfl rfl ?aP (fun _ hk => hk.elim) ?aF ?aO ?aB ?aS ?aL ?_; (case aP => exact rfl); (case aB => exact (by repeat (first | (with_reducible first | exact HB.out | apply below_alloc | apply pw_below_drewN | apply below_drew1) | exact HB.out))); (case aF => exact (fun k_ hk => Kd.fresh' (Kd.R_lt (by (with_reducible repeat (first | apply Kd.R_alloc | apply Kd.R_drewN | apply Kd.R_drew)); exact HO_3.out)) k_ hk)); (case aO => exact (by (with_reducible repeat (first | apply Kd.R_alloc | apply Kd.R_drewN | apply Kd.R_drew)); exact HO_4.out)); (case aS => exact (below_size (by repeat (first | (with_reducible first | exact HB.out | apply below_alloc | apply pw_below_drewN | apply below_drew1) | exact HB.out)))); (case aL => have := LMc15.out; omega); intro v184 w17 ho hb hg hat; rw [← Ny183.out] at ho; have n0_ := Aside0.mk (Kd.R_after (ok := (fun _ => True)) (by (with_reducible repeat (first | apply Kd.R_alloc | apply Kd.R_drewN | apply Kd.R_drew)); exact Kd.R_mono HO_3.out (fun _ hk => ⟨trivial, hk⟩)) hg hat); have n1_ := Aside0.mk (hb); have n2_ := Aside0.mk (ho); clear HO_3; clear HB; clear HO_4; have HO_3 := n0_; have HB := n1_; have HO185 := n2_; clear n0_ n1_ n2_; clear ho hb hg hat)))
                          go_roundg k2
                          case measure => have := HK1.out; have := HK2.out; omega
                          case rel => exact ⟨(x3_2), (y183), (wrap64 (x5_1 + 1)), (by first | rfl | (simp; done) | (simp [*]; done)), H', ⟨by have := HK1.out; have := HK2.out; omega⟩, ⟨by (with_reducible repeat (first | apply Kd.R_alloc | apply Kd.R_drewN | apply Kd.R_drew)); exact Kd.R_mono HO_3.out (fun _ hk => hk.2)⟩, ⟨by (with_reducible repeat (first | apply Kd.R_alloc | apply Kd.R_drewN | apply Kd.R_drew)); exact HO185.out⟩, ⟨by repeat (first | (with_reducible first | exact HB.out | apply below_alloc | apply pw_below_drewN | apply below_drew1) | exact HB.out)⟩⟩
                        · rw [if_neg c15] at H
                          exact absurd H (by simp)
                    · rw [if_neg c8] at H
                      exact absurd H (by simp)
                  · rw [if_neg c7] at H
                    exact absurd H (by simp)
                · rw [if_neg c6] at H
                  exact absurd H (by simp)
              · rw [if_neg c5] at H
                exact absurd H (by simp)
            · rw [if_neg c3] at H
              have c3b0 : decide (0 < (x4_2.length : Int)) = false := decide_eq_false c3
              have c3b1 : decide (0 < x4_2.length) = false := decide_eq_false (by omega)
              clear c3
              by_cases c18 : 0 ≤ x5_1
              · rw [if_pos c18] at H
                have c18b0 : decide (0 ≤ x5_1) = true := decide_eq_true c18
                clear c18
                by_cases c19 : x5_1 < (l0.length : Int)
                · rw [if_pos c19] at H
                  have c19b0 : decide (x5_1 < (l0.length : Int)) = true := decide_eq_true c19
                  clear c19
                  by_cases c20 : x4_2.length < 17592186044416
                  · rw [if_pos c20] at H
                    have LMc20 := Aside0.mk c20
                    clear c20
                    obtain ⟨y187, hy187⟩ : ∃ y_ : List Int, y_ = (x4_2 ++ [rd l0 x5_1]) := ⟨_, rfl⟩
                    replace H : (tickingref02_Pass.l0 k2 l0 x3_2 y187 (wrap64 (x5_1 + 1))) = some r := by first | (rw [hy187]; with_reducible exact H) | (have H2_ := (Option.bind_some _ _).symm.trans H; rw [hy187]; with_reducible exact H2_) | (have H2_ := (Option.bind_some _ _).symm.trans H; with_reducible exact H2_) | with_reducible exact H | (rw [hy187]; exact H) | exact H
                    have Ny187 := Aside0.mk hy187
                    clear hy187
                    have H' := Aside0.mk H
                    clear H
                    obtain ⟨Ao21, co21, eo21⟩ := Kd.R_slice HO_4.out
                    subst eo21
                    have p186 : 0 ≤ (x5_1 : Int) := of_decide_eq_true (by first | (with_reducible assumption) | assumption)
                    have q186 : x5_1 < (l0.length : Int) := of_decide_eq_true (by first | (with_reducible assumption) | assumption)
                    obtain ⟨ad186, e186, hx186_0⟩ := Kd.at_int HR0.out x5_1 p186 q186
                    cases e186
                    replace hx186_0 := (HB.out.cell (World.block_lt_of_cell? w _ hx186_0)).trans hx186_0
                    replace p186 := eq_true p186
                    replace q186 := eq_true q186
                    go_wp2_with (first | ((with_reducible refine gate_builtin (b := .append) (xs := #[.tmp 43, .tmp 48]) rfl ?_); (try (refine gate_guard (by rfl) ?_; dsimp only)); at_builtin; refine Kd.R_append (Kd.int .i64) (w0 := w) w.heap.size rfl (.tmp 43) (.tmp 48) 22 3 (.int .i64 0) 8 rfl Try.underlying22 info3 rfl (by decide) (by omega) (.slice Ao21 x4_2.length co21) x4_2 (rd l0 x5_1) [.int .i64 (rd l0 x5_1)] (fun k_ => some k_ ≠ (u3 : Value).ownBlock) (fun _ => False) rfl rfl ?aP (fun _ hk => hk.elim) ?aF ?aO ?aB ?aS ?aL ?_; (case aP => exact rfl); (case aB => exact (by repeat (first | (with_reducible first | exact HB.out | apply below_alloc | apply pw_below_drewN | apply below_drew1) | exact HB.out))); (case aF => exact (fun k_ hk => Kd.fresh' (Kd.R_lt (by (with_reducible repeat (first | apply Kd.R_alloc | apply Kd.R_drewN | apply Kd.R_drew)); exact HO_3.out)) k_ hk)); (case aO => exact (by (with_reducible repeat (first | apply Kd.R_alloc | apply Kd.R_drewN | apply Kd.R_drew)); exact HO_4.out)); (case aS => exact (below_size (by repeat (first | (with_reducible first | exact HB.out | apply below_alloc | apply pw_below_drewN | apply below_drew1) | exact HB.out)))); (case aL => have := LMc20.out; omega); intro v188 w22 ho hb hg hat; rw [← Ny187.out] at ho; have n0_ := Aside0.mk (Kd.R_after (ok := (fun _ => True)) (by (with_reducible repeat (first | apply Kd.R_alloc | apply Kd.R_drewN | apply Kd.R_drew)); exact Kd.R_mono HO_3.out (fun _ hk => ⟨trivial, hk⟩)) hg hat); have n1_ := Aside0.mk (hb); have n2_ := Aside0.mk (ho); clear HO_3; clear HB; clear HO_4; have HO_3 := n0_; have HB := n1_; have HO189 := n2_; clear n0_ n1_ n2_; clear ho hb hg hat))
                    repeat (go_quiet (first | ((with_reducible refine gate_builtin (b := .append) (xs := #[.tmp 43, .tmp 48]) rfl ?_); (try (refine gate_guard (by rfl) ?_; dsimp only)); at_builtin; refine Kd.R_append (Kd.int .i64) (w0 := w) w.heap.size rfl (.tmp 43) (.tmp 48) 22 3 (.int .i64 0) 8 rfl Try.underlying22 info3 rfl (by decide) (by omega) (.slice Ao21 x4_2.length co21) x4_2 (rd l0 x5_1) [.int .i64 (rd l0 x5_1)] (fun k_ => some k_ ≠ (u3 : Value).ownBlock) (fun _ => False) rfl rfl ?aP (fun _ hk => hk.elim) ?aF ?aO ?aB ?aS ?aL ?_; (case aP => exact rfl); (case aB => exact (by repeat (first | (with_reducible first | exact HB.out | apply below_alloc | apply pw_below_drewN | apply below_drew1) | exact HB.out))); (case aF => exact (fun k_ hk => Kd.fresh' (Kd.R_lt (by (with_reducible repeat (first | apply Kd.R_alloc | apply Kd.R_drewN | apply Kd.R_drew)); exact HO_3.out)) k_ hk)); (case aO => exact (by (with_reducible repeat (first | apply Kd.R_alloc | apply Kd.R_drewN | apply Kd.R_drew)); exact HO_4.out)); (case aS => exact (below_size (by repeat (first | (with_reducible first | exact HB.out | apply below_alloc | apply pw_below_drewN | apply below_drew1) | exact HB.out)))); (case aL => have := LMc20.out; omega); intro v188 w22 ho hb hg hat; rw [← Ny187.out] at ho; have n0_ := Aside0.mk (Kd.R_after (ok := (fun _ => True)) (by (with_reducible repeat (first | apply Kd.R_alloc | apply Kd.R_drewN | apply Kd.R_drew)); exact Kd.R_mono HO_3.out (fun _ hk => ⟨trivial, hk⟩)) hg hat); have n1_ := Aside0.mk (hb); have n2_ := Aside0.mk (ho); clear HO_3; clear HB; clear HO_4; have HO_3 := n0_; have HB := n1_; have HO189 := n2_; clear n0_ n1_ n2_; clear ho hb hg hat)); try go_wp2_with (first | ((with_reducible refine gate_builtin (b := .append) (xs := #[.tmp 43, .tmp 48]) rfl ?_); (try (refine gate_guard (by rfl) ?_; dsimp only)); at_builtin; refine Kd.R_append (Kd.int .i64) (w0 := w) w.heap.size rfl (.tmp 43) (.tmp 48) 22 3 (.int .i64 0) 8 rfl Try.underlying22 info3 rfl (by decide) (by omega) (.slice Ao21 x4_2.length co21) x4_2 (rd l0 x5_1) [.int .i64 (rd l0 x5_1)] (fun k_ => some k_ ≠ (u3 : Value).ownBlock) (fun _ => False) rfl rfl ?aP (fun _ hk => hk.elim) ?aF ?aO ?aB ?aS ?aL ?_; (case aP => exact rfl); (case aB => exact (by repeat (first | (with_reducible first | exact HB.out | apply below_alloc | apply pw_below_drewN | apply below_drew1) | exact HB.out))); (case aF => exact (fun k_ hk => Kd.fresh' (Kd.R_lt (by (with_reducible repeat (first | apply Kd.R_alloc | apply Kd.R_drewN | apply Kd.R_drew)); exact HO_3.out)) k_ hk)); (case aO => exact (by (with_reducible repeat (first | apply Kd.R_alloc | apply Kd.R_drewN | apply Kd.R_drew)); exact HO_4.out)); (case aS => exact (below_size (by repeat (first | (with_reducible first | exact HB.out | apply below_alloc | apply pw_below_drewN | apply below_drew1) | exact HB.out)))); (case aL => have := LMc20.out; omega); intro v188 w22 ho hb hg hat; rw [← Ny187.out] at ho; have n0_ := Aside0.mk (Kd.R_after (ok := (fun _ => True)) (by (with_reducible repeat (first | apply Kd.R_alloc | apply Kd.R_drewN | apply Kd.R_drew)); exact Kd.R_mono HO_3.out (fun _ hk => ⟨trivial, hk⟩)) hg hat); have n1_ := Aside0.mk (hb); have n2_ := Aside0.mk (ho); clear HO_3; clear HB; clear HO_4; have HO_3 := n0_; have HB := n1_; have HO189 := n2_; clear n0_ n1_ n2_; clear ho hb hg hat)))
                    go_roundg k2
                    case measure => have := HK1.out; have := HK2.out; omega
                    case rel => exact ⟨(x3_2), (y187), (wrap64 (x5_1 + 1)), (by first | rfl | (simp; done) | (simp [*]; done)), H', ⟨by have := HK1.out; have := HK2.out; omega⟩, ⟨by (with_reducible repeat (first | apply Kd.R_alloc | apply Kd.R_drewN | apply Kd.R_drew)); exact Kd.R_mono HO_3.out (fun _ hk => hk.2)⟩, ⟨by (with_reducible repeat (first | apply Kd.R_alloc | apply Kd.R_drewN | apply Kd.R_drew)); exact HO189.out⟩, ⟨by repeat (first | (with_reducible first | exact HB.out | apply below_alloc | apply pw_below_drewN | apply below_drew1) | exact HB.out)⟩⟩
                  · rw [if_neg c20] at H
                    exact absurd H (by simp)
                · rw [if_neg c19] at H
                  exact absurd H (by simp)
              · rw [if_neg c18] at H
                exact absurd H (by simp)
      · rw [if_neg c2] at H
        have c2b0 : decide (x5_1 < (l0.length : Int)) = false := decide_eq_false c2
        clear c2
        have H' := Aside0.mk H
        clear H
        obtain ⟨Ao23, co23, eo23⟩ := Kd.R_slice HO_4.out
        subst eo23
        go_wp2
        repeat (go_quiet (fail); try go_wp2)
        go_loopg [3, 6] k1 (fun kq v3 v6 w' => ∃ (x3_2 : List Int) (x6_2 : Int), v6 = .int .i64 x6_2 ∧ Aside0 (tickingref02_Pass.l2 kq x3_2 x4_1 x6_2 = some r) ∧ Aside0 (kq ≤ k1) ∧ Aside0 (Kd.R (Kd.int .i64) 3 w' w.heap.size (fun k_ => some k_ ≠ ((.slice Ao23 x4_1.length co23) : Value).ownBlock) v3 x3_2) ∧ Aside0 (Kd.R (Kd.int .i64) 3 w' w.heap.size (fun k_ => some k_ ≠ (v3 : Value).ownBlock) (.slice Ao23 x4_1.length co23) x4_1) ∧ Aside0 (Below w.heap.size w w'))
        case atStart => exact ⟨(x3_1), (wrap64 ((x4_1.length : Int) - 1)), (by first | rfl | (simp; done) | (simp [*]; done)), H', ⟨Nat.le_refl _⟩, ⟨by (with_reducible repeat (first | apply Kd.R_alloc | apply Kd.R_drewN | apply Kd.R_drew)); exact HO_3.out⟩, ⟨by (with_reducible repeat (first | apply Kd.R_alloc | apply Kd.R_drewN | apply Kd.R_drew)); exact HO_4.out⟩, ⟨by repeat (first | (with_reducible first | exact HB.out | apply below_alloc | apply pw_below_drewN | apply below_drew1) | exact HB.out)⟩⟩
        case round =>
          clear H'
          try clear c1
          try clear p1
          try clear q1
          try clear hx1
          try clear c2
          try clear c2b0
          try clear p2
          try clear c3
          try clear c3b0
          try clear c3b1
          try clear c5
          try clear c5b0
          try clear c6
          try clear c6b0
          try clear p6
          try clear c7
          try clear c7b0
          try clear c8
          try clear c8b0
          try clear c9
          try clear c9b0
          try clear c10
          try clear c11
          try clear c11b0
          try clear c11b1
          try clear q14
          try clear c15
          try clear p17
          try clear q17
          try clear hx17
          try clear c18
          try clear c18b0
          try clear p18
          try clear q18
          try clear hx18
          try clear c19
          try clear c19b0
          try clear c20
          try clear hx173_0
          try clear hx174_0
          try clear hx175_0
          try clear hx182_0
          try clear hx186_0
          try clear p173
          try clear p174
          try clear p175
          try clear p182
          try clear p186
          try clear p2
          try clear q14
          try clear q173
          try clear q174
          try clear q175
          try clear q182
          try clear q186
          obtain ⟨x3_2, x6_2, rfl, HA, HK2, HO_3, HO_4, HB⟩ := hrel
          cases gk with
          | zero => exact absurd HA.out (by simp [tickingref02_Pass.l2])
          | succ k2 =>
            have H := HA.out
            clear HA
            simp only [tickingref02_Pass.l2] at H
            by_cases c24 : x6_2 ≥ 0
            · rw [if_pos c24] at H
              have c24b0 : decide (0 ≤ x6_2) = true := decide_eq_true c24
              clear c24
              by_cases c25 : 0 ≤ x6_2
              · rw [if_pos c25] at H
                have c25b0 : decide (0 ≤ x6_2) = true := decide_eq_true c25
                clear c25
                by_cases c26 : x6_2 < (x4_1.length : Int)
                · rw [if_pos c26] at H
                  have c26b0 : decide (x6_2 < (x4_1.length : Int)) = true := decide_eq_true c26
                  clear c26
                  by_cases c27 : x3_2.length < 17592186044416
                  · rw [if_pos c27] at H
                    have LMc27 := Aside0.mk c27
                    clear c27
                    obtain ⟨y191, hy191⟩ : ∃ y_ : List Int, y_ = (x3_2 ++ [rd x4_1 x6_2]) := ⟨_, rfl⟩
                    replace H : (tickingref02_Pass.l2 k2 y191 x4_1 (wrap64 (x6_2 - 1))) = some r := by first | (rw [hy191]; with_reducible exact H) | (have H2_ := (Option.bind_some _ _).symm.trans H; rw [hy191]; with_reducible exact H2_) | (have H2_ := (Option.bind_some _ _).symm.trans H; with_reducible exact H2_) | with_reducible exact H | (rw [hy191]; exact H) | exact H
                    have Ny191 := Aside0.mk hy191
                    clear hy191
                    have H' := Aside0.mk H
                    clear H
                    have p190 : 0 ≤ (x6_2 : Int) := of_decide_eq_true (by first | (with_reducible assumption) | assumption)
                    have q190 : x6_2 < (x4_1.length : Int) := of_decide_eq_true (by first | (with_reducible assumption) | assumption)
                    obtain ⟨ad190, e190, hx190_0⟩ := Kd.at_int (Kd.R_reads' HO_4.out).2.2 x6_2 p190 q190
                    cases e190
                    replace p190 := eq_true p190
                    replace q190 := eq_true q190
                    go_wp2_with (first | ((with_reducible refine gate_builtin (b := .append) (xs := #[.tmp 57, .tmp 62]) rfl ?_); (try (refine gate_guard (by rfl) ?_; dsimp only)); at_builtin; refine Kd.R_append (Kd.int .i64) (w0 := w) w.heap.size rfl (.tmp 57) (.tmp 62) 22 3 (.int .i64 0) 8 rfl Try.underlying22 info3 rfl (by decide) (by omega) u3 x3_2 (rd x4_1 x6_2) [.int .i64 (rd x4_1 x6_2)] (fun k_ => some k_ ≠ (.slice (some ad190) x4_1.length co23 : Value).ownBlock) (fun _ => False) rfl rfl ?aP (fun _ hk => hk.elim) ?aF ?aO ?aB ?aS ?aL ?_; (case aP => exact rfl); (case aB => exact (by repeat (first | (with_reducible first | exact HB.out | apply below_alloc | apply pw_below_drewN | apply below_drew1) | exact HB.out))); (case aF => exact (fun k_ hk => Kd.fresh' (Kd.R_lt (by (with_reducible repeat (first | apply Kd.R_alloc | apply Kd.R_drewN | apply Kd.R_drew)); exact HO_4.out)) k_ hk)); (case aO => exact (by (with_reducible repeat (first | apply Kd.R_alloc | apply Kd.R_drewN | apply Kd.R_drew)); exact HO_3.out)); (case aS => exact (below_size (by repeat (first | (with_reducible first | exact HB.out | apply below_alloc | apply pw_below_drewN | apply below_drew1) | exact HB.out)))); (case aL => have := LMc27.out; omega); intro v192 w28 ho hb hg hat; rw [← Ny191.out] at ho; have n0_ := Aside0.mk (Kd.R_after (ok := (fun _ => True)) (by (with_reducible repeat (first | apply Kd.R_alloc | apply Kd.R_drewN | apply Kd.R_drew)); exact Kd.R_mono HO_4.out (fun _ hk => ⟨trivial, hk⟩)) hg hat); have n1_ := Aside0.mk (hb); have n2_ := Aside0.mk (ho); clear HO_4; clear HB; clear HO_3; have HO_4 := n0_; have HB := n1_; have HO193 := n2_; clear n0_ n1_ n2_; clear ho hb hg hat))
                    repeat (go_quiet (first | ((with_reducible refine gate_builtin (b := .append) (xs := #[.tmp 57, .tmp 62]) rfl ?_); (try (refine gate_guard (by rfl) ?_; dsimp only)); at_builtin; refine Kd.R_append (Kd.int .i64) (w0 := w) w.heap.size rfl (.tmp 57) (.tmp 62) 22 3 (.int .i64 0) 8 rfl Try.underlying22 info3 rfl (by decide) (by omega) u3 x3_2 (rd x4_1 x6_2) [.int .i64 (rd x4_1 x6_2)] (fun k_ => some k_ ≠ (.slice (some ad190) x4_1.length co23 : Value).ownBlock) (fun _ => False) rfl rfl ?aP (fun _ hk => hk.elim) ?aF ?aO ?aB ?aS ?aL ?_; (case aP => exact rfl); (case aB => exact (by repeat (first | (with_reducible first | exact HB.out | apply below_alloc | apply pw_below_drewN | apply below_drew1) | exact HB.out))); (case aF => exact (fun k_ hk => Kd.fresh' (Kd.R_lt (by (with_reducible repeat (first | apply Kd.R_alloc | apply Kd.R_drewN | apply Kd.R_drew)); exact HO_4.out)) k_ hk)); (case aO => exact (by (with_reducible repeat (first | apply Kd.R_alloc | apply Kd.R_drewN | apply Kd.R_drew)); exact HO_3.out)); (case aS => exact (below_size (by repeat (first | (with_reducible first | exact HB.out | apply below_alloc | apply pw_below_drewN | apply below_drew1) | exact HB.out)))); (case aL => have := LMc27.out; omega); intro v192 w28 ho hb hg hat; rw [← Ny191.out] at ho; have n0_ := Aside0.mk (Kd.R_after (ok := (fun _ => True)) (by (with_reducible repeat (first | apply Kd.R_alloc | apply Kd.R_drewN | apply Kd.R_drew)); exact Kd.R_mono HO_4.out (fun _ hk => ⟨trivial, hk⟩)) hg hat); have n1_ := Aside0.mk (hb); have n2_ := Aside0.mk (ho); clear HO_4; clear HB; clear HO_3; have HO_4 := n0_; have HB := n1_; have HO193 := n2_; clear n0_ n1_ n2_; clear ho hb hg hat)); try go_wp2_with (first | ((with_reducible refine gate_builtin (b := .append) (xs := #[.tmp 57, .tmp 62]) rfl ?_); (try (refine gate_guard (by rfl) ?_; dsimp only)); at_builtin; refine Kd.R_append (Kd.int .i64) (w0 := w) w.heap.size rfl (.tmp 57) (.tmp 62) 22 3 (.int .i64 0) 8 rfl Try.underlying22 info3 rfl (by decide) (by omega) u3 x3_2 (rd x4_1 x6_2) [.int .i64 (rd x4_1 x6_2)] (fun k_ => some k_ ≠ (.slice (some ad190) x4_1.length co23 : Value).ownBlock) (fun _ => False) rfl rfl ?aP (fun _ hk => hk.elim) ?aF ?aO ?aB ?aS ?aL ?_; (case aP => exact rfl); (case aB => exact (by repeat (first | (with_reducible first | exact HB.out | apply below_alloc | apply pw_below_drewN | apply below_drew1) | exact HB.out))); (case aF => exact (fun k_ hk => Kd.fresh' (Kd.R_lt (by (with_reducible repeat (first | apply Kd.R_alloc | apply Kd.R_drewN | apply Kd.R_drew)); exact HO_4.out)) k_ hk)); (case aO => exact (by (with_reducible repeat (first | apply Kd.R_alloc | apply Kd.R_drewN | apply Kd.R_drew)); exact HO_3.out)); (case aS => exact (below_size (by repeat (first | (with_reducible first | exact HB.out | apply below_alloc | apply pw_below_drewN | apply below_drew1) | exact HB.out)))); (case aL => have := LMc27.out; omega); intro v192 w28 ho hb hg hat; rw [← Ny191.out] at ho; have n0_ := Aside0.mk (Kd.R_after (ok := (fun _ => True)) (by (with_reducible repeat (first | apply Kd.R_alloc | apply Kd.R_drewN | apply Kd.R_drew)); exact Kd.R_mono HO_4.out (fun _ hk => ⟨trivial, hk⟩)) hg hat); have n1_ := Aside0.mk (hb); have n2_ := Aside0.mk (ho); clear HO_4; clear HB; clear HO_3; have HO_4 := n0_; have HB := n1_; have HO193 := n2_; clear n0_ n1_ n2_; clear ho hb hg hat)))
                    go_roundg k2
                    case measure => have := HK1.out; have := HK2.out; omega
                    case rel => exact ⟨(y191), (wrap64 (x6_2 - 1)), (by first | rfl | (simp; done) | (simp [*]; done)), H', ⟨by have := HK1.out; have := HK2.out; omega⟩, ⟨by (with_reducible repeat (first | apply Kd.R_alloc | apply Kd.R_drewN | apply Kd.R_drew)); exact HO193.out⟩, ⟨by (with_reducible repeat (first | apply Kd.R_alloc | apply Kd.R_drewN | apply Kd.R_drew)); exact Kd.R_mono HO_4.out (fun _ hk => hk.2)⟩, ⟨by repeat (first | (with_reducible first | exact HB.out | apply below_alloc | apply pw_below_drewN | apply below_drew1) | exact HB.out)⟩⟩
                  · rw [if_neg c27] at H
                    exact absurd H (by simp)
                · rw [if_neg c26] at H
                  exact absurd H (by simp)
              · rw [if_neg c25] at H
                exact absurd H (by simp)
            · rw [if_neg c24] at H
              have c24b0 : decide (0 ≤ x6_2) = false := decide_eq_false c24
              clear c24
              obtain rfl := Option.some.inj H
              go_wp2
              repeat (go_quiet (fail); try go_wp2)
              go_ret
              exact ⟨_, by first | rfl | (simp [errW_none, errW_some] <;> rfl) | (simp [*, errW_none, errW_some] <;> rfl), by (with_reducible repeat (first | apply Kd.R_alloc | apply Kd.R_drewN | apply Kd.R_drew)); exact Kd.R_mono HO_3.out (fun _ hk => trivial), by repeat (first | (with_reducible first | exact HB.out | apply below_alloc | apply pw_below_drewN | apply below_drew1) | exact HB.out)⟩

end Go.Proofs.Ytjbjongahnocdaa.S

namespace Go.Proofs.Ytjbjongahnocdaa.S
open Go.Proofs.Ytjbjongahnocdaa.Lib
open Go.Proofs.Ytjbjongahnocdaa.Defs
open Go.Maps (Keyed)
open Go.RowKit Go.Proofs.YtjbjongahnocdaaW.PrintWords Go.Proofs.YtjbjongahnocdaaW.PrintLast Go.Proofs.YtjbjongahnocdaaW.PrintMore
attribute [local go_sem] max2_int min2_int max_two min_two max_three min_three max_four min_four   -- for this text's walks alone
set_option linter.unusedVariables false
set_option linter.unusedSimpArgs false

/-! ### tickingref02_OneStack: function 25 -/
def tickingref02_OneStack.f (k : Nat) (l0 : List Int) : Option (Bool) := (tickingref02_Pass.f k l0).bind fun t196 => ((tickingref02_ascending.f k t196).bind fun t199 => (some t199))
theorem tickingref02_OneStack.mono : ∀ a0 k, LeO (tickingref02_OneStack.f k a0) (tickingref02_OneStack.f (k + 1) a0) := by
  intro a0 k
  unfold tickingref02_OneStack.f
  repeat' first
      | (with_reducible exact tickingref02_Pass.mono _ _)
      | (with_reducible exact tickingref02_ascending.mono _ _)
      | (with_reducible exact LeO.refl _)
      | (with_reducible exact LeO.none _)
      | (with_reducible refine LeO.ite ?_ ?_)
      | (with_reducible refine LeO.bind ?_ (fun _ => ?_))
      | exact tickingref02_Pass.mono _ _
      | exact tickingref02_ascending.mono _ _
      | exact LeO.none _
      | refine LeO.ite ?_ ?_
      | refine LeO.bind ?_ (fun _ => ?_)
set_option maxHeartbeats 8000000 in
set_option maxRecDepth 100000 in
theorem tickingref02_OneStack.calls (k : Nat) (A0 : Option Addr) (c0 : Nat) (l0 : List Int) (r : Bool) (w : World) (hr0 : Kd.C (Kd.int .i64) w A0 l0.length l0) (hc0 : l0.length ≤ c0) (h : tickingref02_OneStack.f k l0 = some r) :
    Calls Try.prog 25 #[.slice A0 l0.length c0] w fun e w' => e = .returned (.bool r) ∧ Below w.heap.size w w' := by
  have HR0 := Aside0.mk hr0
  have HC0 := Aside0.mk hc0
  clear hr0 hc0
  have HB := Aside0.mk (Below.refl w.heap.size w)
  have H : ((tickingref02_Pass.f k l0).bind fun t196 => ((tickingref02_ascending.f k t196).bind fun t199 => (some t199))) = some r := h
  clear h
  replace H := Option.bind_eq_some_iff.mp H
  obtain ⟨t196, A20, H⟩ := H
  replace H : ((tickingref02_ascending.f k t196).bind fun t199 => (some t199)) = some r := H
  have A2 := Aside0.mk A20
  clear A20
  replace H := Option.bind_eq_some_iff.mp H
  obtain ⟨t199, A30, H⟩ := H
  replace H : (some t199) = some r := H
  have A3 := Aside0.mk A30
  clear A30
  obtain rfl := Option.some.inj H
  go_enter Try.func25, Try.ntmps25
  go_wp2_with (first | ((with_reducible refine gate_callee (f := 24) rfl ?_); refine goesL_ (some 4) rfl rfl Try.func24 (by kernel_rfl) rfl #[.slice A0 l0.length c0] rfl (by (try simp only [List.map_toArray, List.map_cons, List.map_nil]); first | done | rfl | (simp only [List.length_drop, List.length_take]; rfl)) ?_; (with_reducible refine (tickingref02_Pass.calls k _ _ l0 t196 _ ?side1 ?side2 A2.out).mono ?_); (case side1 => repeat (first | exact HR0.out | (with_reducible refine Kd.C_alloc ?_ _) | (with_reducible refine Kd.C_drewN ?_ _) | (with_reducible refine Kd.C_drew ?_))); (case side2 => exact HC0.out); rintro e w4 ⟨v197, rfl, ho0, hb⟩; refine ⟨_, rfl, ?_⟩; have n0_ := Aside0.mk (Kd.R_lower ho0 (below_size (by repeat (first | (with_reducible first | exact HB.out | apply below_alloc | apply pw_below_drewN | apply below_drew1) | exact HB.out)))); have n1_ := Aside0.mk (below_step (by repeat (first | (with_reducible first | exact HB.out | apply below_alloc | apply pw_below_drewN | apply below_drew1) | exact HB.out)) hb); clear HB; have HO198 := n0_; have HB := n1_; clear n0_ n1_; (try clear hb); (try clear hb2); (try clear hk); (try clear hi); (try clear ho0); obtain ⟨Ao5, co5, eo5⟩ := Kd.R_slice HO198.out; subst eo5) | ((with_reducible refine gate_callee (f := 60) rfl ?_); refine goesL_ (some 5) rfl rfl Try.func60 (by kernel_rfl) rfl #[.slice Ao5 t196.length co5] rfl (by (try simp only [List.map_toArray, List.map_cons, List.map_nil]); first | done | rfl | (simp only [List.length_drop, List.length_take]; rfl)) ?_; (with_reducible refine (tickingref02_ascending.calls k _ _ t196 t199 _ ?side1 ?side2 A3.out).mono ?_); (case side1 => repeat (first | exact (Kd.R_reads' HO198.out).2.2 | (with_reducible refine Kd.C_alloc ?_ _) | (with_reducible refine Kd.C_drewN ?_ _) | (with_reducible refine Kd.C_drew ?_))); (case side2 => exact (Kd.R_reads' HO198.out).2.1); rintro e w' ⟨rfl, ⟨nd, rfl⟩⟩; refine ⟨_, rfl, ?_⟩))
  go_ret
  exact ⟨by first | rfl | (simp [errW_none, errW_some] <;> rfl) | (simp [*, errW_none, errW_some] <;> rfl), by repeat (first | (with_reducible first | exact HB.out | apply below_alloc | apply pw_below_drewN | apply below_drew1) | exact HB.out)⟩

end Go.Proofs.Ytjbjongahnocdaa.S

/- What the references of layer 2 compute: the first ones. -/
namespace Go.Proofs.Ytjbjongahnocdaa.P
open Go.RowKit Go.Proofs.Ytjbjongahnocdaa.S Go.Proofs.Ytjbjongahnocdaa.Defs Go.Proofs.YtjbjongahnocdaaW.PrintWords

theorem has_loop (l : List Int) (x : Int) (hl : l.length ≤ 1000000) : ∀ (d i : Nat), i + d = l.length → Ev (fun k => tickingref02_has.l0 k l x (i : Int)) (decide (x ∈ l.drop i))
  | 0, i, h => by
    refine Ev.step (fun k => ?_) (Ev.now _)
    rw [List.drop_eq_nil_of_le (by omega)]
    simp only [tickingref02_has.l0]
    rw [if_neg (by omega)]
    simp
  | d + 1, i, h => by
    rw [drop_cons l i (by omega)]
    by_cases he : rd l (i : Int) = x
    · refine Ev.step (fun k => ?_) (Ev.now _)
      simp only [tickingref02_has.l0]
      rw [if_pos (by omega), if_pos (by omega), if_pos he]
      simp [he]
    · refine Ev.step (f := fun k => tickingref02_has.l0 k l x ((i + 1 : Nat) : Int)) (fun k => ?_) ?_
      · simp only [tickingref02_has.l0]
        rw [if_pos (by omega), if_pos (by omega), if_neg he, w64 (by omega) (by omega)]
        rfl
      · have := has_loop l x hl d (i + 1) (by omega)
        have e : decide (x ∈ rd l (i : Int) :: l.drop (i + 1)) = decide (x ∈ l.drop (i + 1)) := by
          rw [decide_eq_decide, List.mem_cons]
          exact ⟨fun h => h.elim (fun e => absurd e.symm he) id, .inr⟩
        rw [e]
        exact this
theorem has_ev (l : List Int) (x : Int) (hl : l.length ≤ 1000000) : Ev (fun k => tickingref02_has.f k l x) (decide (x ∈ l)) := by
  have := has_loop l x hl l.length 0 (by omega)
  exact this

/-- An order: different numbers from 1 to its length. -/
def IsOrd (l : List Int) : Prop := l.Nodup ∧ ∀ x ∈ l, 1 ≤ x ∧ x ≤ l.length
instance (l : List Int) : Decidable (IsOrd l) := by unfold IsOrd; infer_instance

theorem isOrderGo_iff (n : Nat) : ∀ (l seen : List Int), isOrderGo n l seen = true ↔ (l.Nodup ∧ (∀ x ∈ l, 1 ≤ x ∧ x ≤ n) ∧ ∀ x ∈ l, x ∉ seen)
  | [], seen => by simp [isOrderGo]
  | x :: xs, seen => by
    unfold isOrderGo
    by_cases h : 1 ≤ x ∧ x ≤ n ∧ x ∉ seen
    · rw [if_pos h, isOrderGo_iff n xs (x :: seen)]
      simp only [List.nodup_cons, List.mem_cons]
      constructor
      · rintro ⟨h1, h2, h3⟩
        refine ⟨⟨fun hm => (h3 x hm) (.inl rfl), h1⟩, fun y hy => ?_, fun y hy hs => ?_⟩
        · rcases hy with rfl | hy
          · exact ⟨h.1, h.2.1⟩
          · exact h2 y hy
        · rcases hy with rfl | hy
          · exact h.2.2 hs
          · exact h3 y hy (.inr hs)
      · rintro ⟨⟨h1, h2⟩, h4, h6⟩
        exact ⟨h2, fun y hy => h4 y (.inr hy), fun y hy hs => hs.elim (fun e => h1 (e ▸ hy)) (h6 y (.inr hy))⟩
    · rw [if_neg h]
      constructor
      · intro h; cases h
      · rintro ⟨_, h3, h5⟩
        exact absurd ⟨(h3 x (by simp)).1, (h3 x (by simp)).2, h5 x (by simp)⟩ h
theorem isOrderB_iff (l : List Int) : isOrderB l = true ↔ l.length ≤ 60 ∧ IsOrd l := by
  unfold isOrderB IsOrd
  rw [Bool.and_eq_true, decide_eq_true_eq, isOrderGo_iff]
  simp

theorem Order_loop (l : List Int) (m : Int) (hl : l.length ≤ 1000000) : ∀ (d i : Nat), i + d = l.length → (l.take i).Nodup → (∀ x ∈ l.take i, 1 ≤ x ∧ x ≤ l.length) → Ev (fun k => tickingref02_Order.l0 k l m (i : Int)) (decide (IsOrd l ∧ (l.length : Int) ≤ m))
  | 0, i, h, h1, h2 => by
    refine Ev.step (fun k => ?_) (Ev.now _)
    simp only [tickingref02_Order.l0]
    rw [if_neg (by omega)]
    rw [List.take_of_length_le (by omega)] at h1 h2
    congr 1
    rw [decide_eq_decide]
    exact ⟨fun h => ⟨⟨h1, h2⟩, h⟩, fun h => h.2⟩
  | d + 1, i, h, h1, h2 => by
    have hi : i < l.length := by omega
    have hm : rd l (i : Int) ∈ l := rd_mem (by omega) (by omega)
    have no : ¬ (1 ≤ rd l (i : Int) ∧ rd l (i : Int) ≤ l.length ∧ rd l (i : Int) ∉ l.take i) → ¬ (IsOrd l ∧ (l.length : Int) ≤ m) := by
      rintro hn ⟨⟨ho1, ho2⟩, _⟩
      refine hn ⟨(ho2 _ hm).1, (ho2 _ hm).2, fun hin => ?_⟩
      rw [← List.take_append_drop i l, drop_cons l i hi] at ho1
      have := (List.nodup_append.1 ho1).2.2 _ hin (rd l (i : Int)) (by simp)
      exact this rfl
    by_cases c1 : rd l (i : Int) < 1
    · refine Ev.step (fun k => ?_) (Ev.now _)
      simp only [tickingref02_Order.l0]
      rw [if_pos (by omega), if_pos (by omega), if_pos c1, decide_eq_false (no (by omega))]
    · by_cases c2 : rd l (i : Int) > (l.length : Int)
      · refine Ev.step (fun k => ?_) (Ev.now _)
        simp only [tickingref02_Order.l0]
        rw [if_pos (by omega), if_pos (by omega), if_neg c1, if_pos c2, decide_eq_false (no (by omega))]
      · have hh := has_ev (l.take i) (rd l (i : Int)) (by rw [List.length_take]; omega)
        refine Ev.step (f := fun k => (tickingref02_has.f k (l.take ((i : Int)).toNat) (rd l (i : Int))).bind fun t => (if t = true then some false else tickingref02_Order.l0 k l m (wrap64 ((i : Int) + 1)))) (fun k => ?_) ?_
        · simp only [tickingref02_Order.l0]
          rw [if_pos (by omega), if_pos (by omega), if_neg c1, if_neg c2, if_pos (by omega)]
        · rw [show ((i : Int)).toNat = i by omega]
          refine Ev.bind hh ?_
          by_cases c3 : rd l (i : Int) ∈ l.take i
          · rw [decide_eq_true c3, decide_eq_false (no (fun h => h.2.2 c3))]
            exact Ev.congr (fun k => by rw [if_pos rfl]) (Ev.now _)
          · rw [decide_eq_false c3]
            refine Ev.congr (f := fun k => tickingref02_Order.l0 k l m ((i + 1 : Nat) : Int)) (fun k => by rw [if_neg (by decide), w64 (by omega) (by omega)]; rfl) ?_
            have e : l.take (i + 1) = l.take i ++ [rd l (i : Int)] := by rw [rd_lt l i hi, List.take_succ_eq_append_getElem hi]
            refine Order_loop l m hl d (i + 1) (by omega) ?_ ?_
            · rw [e, List.nodup_append]
              refine ⟨h1, by simp, fun a ha b hb => ?_⟩
              rw [List.mem_singleton] at hb
              subst hb
              exact fun e => c3 (e ▸ ha)
            · rw [e]
              intro x hx
              rcases List.mem_append.1 hx with hx | hx
              · exact h2 x hx
              · rw [List.mem_singleton] at hx
                subst hx
                omega
theorem Order_ev (l : List Int) (m : Int) (hl : l.length ≤ 1000000) : Ev (fun k => tickingref02_Order.f k l m) (decide (IsOrd l ∧ (l.length : Int) ≤ m)) := by
  have := Order_loop l m hl l.length 0 (by omega) (by simp) (by simp)
  exact this

theorem ints_loop (a b : List Int) (hl : a.length ≤ 1000000) (hab : a.length = b.length) : ∀ (d i : Nat), i + d = a.length → Ev (fun k => tickinglaw02_ints.l0 k a b (i : Int)) (decide (a.drop i = b.drop i))
  | 0, i, h => by
    refine Ev.step (fun k => ?_) (Ev.now _)
    rw [List.drop_eq_nil_of_le (by omega), List.drop_eq_nil_of_le (by omega)]
    simp only [tickinglaw02_ints.l0]
    rw [if_neg (by omega)]
    simp
  | d + 1, i, h => by
    rw [drop_cons a i (by omega), drop_cons b i (by omega)]
    by_cases he : rd a (i : Int) = rd b (i : Int)
    · refine Ev.step (f := fun k => tickinglaw02_ints.l0 k a b ((i + 1 : Nat) : Int)) (fun k => ?_) ?_
      · simp only [tickinglaw02_ints.l0]
        rw [if_pos (by omega), if_pos (by omega), if_pos (by omega), if_pos he, w64 (by omega) (by omega)]
        rfl
      · have := ints_loop a b hl hab d (i + 1) (by omega)
        rw [he, show decide (rd b (i : Int) :: a.drop (i + 1) = rd b (i : Int) :: b.drop (i + 1)) = decide (a.drop (i + 1) = b.drop (i + 1)) by simp]
        exact this
    · refine Ev.step (fun k => ?_) (Ev.now _)
      simp only [tickinglaw02_ints.l0]
      rw [if_pos (by omega), if_pos (by omega), if_pos (by omega), if_neg he]
      simp [he]
theorem ints_ev (a b : List Int) (hl : a.length ≤ 1000000) : Ev (fun k => tickinglaw02_ints.f k a b) (decide (a = b)) := by
  by_cases hab : a.length = b.length
  · have := ints_loop a b hl hab a.length 0 (by omega)
    refine Ev.congr (fun k => ?_) this
    unfold tickinglaw02_ints.f
    rw [if_pos (by omega)]
    rfl
  · refine Ev.congr (fun k => ?_) (Ev.now _)
    unfold tickinglaw02_ints.f
    rw [if_neg (by omega), decide_eq_false (fun e => hab (by rw [e]))]

/-- Ascending: each item is greater than the one before it. -/
def Asc (l : List Int) : Prop := l.Pairwise (· < ·)
instance (l : List Int) : Decidable (Asc l) := by unfold Asc; infer_instance

theorem asc_snoc (l : List Int) (i : Nat) (hi : i + 1 < l.length) (h : Asc (l.take (i + 1))) : Asc (l.take (i + 2)) ↔ rd l (i : Int) < rd l ((i + 1 : Nat) : Int) := by
  unfold Asc at h ⊢
  rw [List.take_succ_eq_append_getElem hi, List.pairwise_append]
  have e : l.take (i + 1) = l.take i ++ [l[i]] := List.take_succ_eq_append_getElem (by omega)
  rw [rd_lt l i (by omega), rd_lt l (i + 1) hi]
  constructor
  · rintro ⟨_, _, h3⟩
    exact h3 _ (by rw [e]; exact List.mem_append_right _ (by simp)) _ (by simp)
  · intro h2
    refine ⟨h, by simp, fun a ha b hb => ?_⟩
    rw [List.mem_singleton] at hb
    subst hb
    rw [e] at ha h
    rcases List.mem_append.1 ha with ha | ha
    · have := (List.pairwise_append.1 h).2.2 a ha l[i] (by simp)
      omega
    · rw [List.mem_singleton] at ha
      subst ha
      exact h2
theorem asc_loop (l : List Int) (hl : l.length ≤ 1000000) : ∀ (d i : Nat), i + 1 + d = l.length → Asc (l.take (i + 1)) → Ev (fun k => tickingref02_ascending.l0 k l ((i + 1 : Nat) : Int)) (decide (Asc l))
  | 0, i, h, h1 => by
    refine Ev.step (fun k => ?_) (Ev.now _)
    simp only [tickingref02_ascending.l0]
    rw [List.take_of_length_le (by omega)] at h1
    rw [if_neg (by omega), decide_eq_true h1]
  | d + 1, i, h, h1 => by
    have hs := asc_snoc l i (by omega) h1
    have e1 : wrap64 (((i + 1 : Nat) : Int) - 1) = (i : Int) := by rw [w64 (by omega) (by omega)]; omega
    by_cases c : rd l (i : Int) ≥ rd l ((i + 1 : Nat) : Int)
    · refine Ev.step (fun k => ?_) (Ev.now _)
      simp only [tickingref02_ascending.l0]
      rw [e1, if_pos (by omega), if_pos (by omega), if_pos (by omega), if_pos (by omega), if_pos c, decide_eq_false]
      intro ha
      have h2 : Asc (l.take (i + 2)) := List.Pairwise.sublist (List.take_sublist _ _) ha
      have := hs.1 h2
      omega
    · refine Ev.step (f := fun k => tickingref02_ascending.l0 k l ((i + 1 + 1 : Nat) : Int)) (fun k => ?_) (asc_loop l hl d (i + 1) (by omega) (hs.2 (by omega)))
      simp only [tickingref02_ascending.l0]
      rw [e1, if_pos (by omega), if_pos (by omega), if_pos (by omega), if_pos (by omega), if_neg c, w64 (by omega) (by omega)]
      rfl
theorem asc_ev (l : List Int) (hl : l.length ≤ 1000000) : Ev (fun k => tickingref02_ascending.f k l) (decide (Asc l)) := by
  cases hn : l with
  | nil => exact Ev.step (fun k => by simp only [tickingref02_ascending.f, tickingref02_ascending.l0]; rw [if_neg (by simp)]; rfl) (Ev.now _)
  | cons a t =>
    rw [← hn]
    have := asc_loop l hl (l.length - 1) 0 (by rw [hn]; simp; omega) (by rw [hn]; simp [Asc])
    exact this

theorem awake_ev : Ev (fun k => tickinglaw02_awake.f k) true := Ev.of (fun k => tickinglaw02_awake.mono k) (k := 40) (by kernel_rfl)

/-! ### a pass -/
theorem rd_top (s : List Int) (t : Int) : rd (t :: s).reverse (((t :: s).reverse.length : Int) - 1) = t := by
  have e : (((t :: s).reverse.length : Int) - 1) = ((s.length : Nat) : Int) := by simp
  rw [e, rd_nat, List.reverse_cons, List.getD_eq_getElem?_getD, List.getElem?_append_right (by simp)]
  simp
theorem take_top (s : List Int) (t : Int) : (t :: s).reverse.take (((t :: s).reverse.length : Int) - 1).toNat = s.reverse := by
  have e : (((t :: s).reverse.length : Int) - 1).toNat = s.reverse.length := by simp
  rw [e, List.reverse_cons, List.take_left']
  rfl

theorem passIn_len (x : Int) : ∀ s lft : List Int, (passIn x s lft).1.length + (passIn x s lft).2.length = s.length + lft.length
  | [], lft => by simp [passIn]
  | t :: s, lft => by
    unfold passIn
    split
    · rw [passIn_len x s]; simp; omega
    · rfl

theorem Pass_l2 : ∀ (s out : List Int), s.length + out.length ≤ 1000000 → ∀ rest : List Int, Ev (fun k => tickingref02_Pass.l2 k out (s.reverse ++ rest) ((s.length : Int) - 1)) (out ++ s)
  | [], out, h, rest => by
    refine Ev.step (fun k => ?_) (Ev.now _)
    simp only [tickingref02_Pass.l2]
    rw [if_neg (by simp)]
    simp
  | t :: s, out, h, rest => by
    have e : (((t :: s).length : Int) - 1) = ((s.length : Nat) : Int) := by simp
    have e2 : rd ((t :: s).reverse ++ rest) ((s.length : Nat) : Int) = t := by
      rw [rd_nat, List.reverse_cons, List.append_assoc, List.getD_eq_getElem?_getD, List.getElem?_append_right (by simp)]
      simp
    refine Ev.step (f := fun k => tickingref02_Pass.l2 k (out ++ [t]) (s.reverse ++ ([t] ++ rest)) ((s.length : Int) - 1)) (fun k => ?_) ?_
    · simp only [tickingref02_Pass.l2]
      simp only [List.length_cons] at h
      rw [e, if_pos (by omega), if_pos (by omega), if_pos (by simp; omega), if_pos (by omega), e2, w64 (by omega) (by omega), List.reverse_cons, List.append_assoc]
    · have := Pass_l2 s (out ++ [t]) (by simp at h ⊢; omega) ([t] ++ rest)
      rw [List.append_assoc] at this
      exact this

theorem Pass_l1 (l : List Int) (i : Nat) (hi : i < l.length) (hl : l.length ≤ 1000000) (R : List Int) : ∀ (s out : List Int), s.length + out.length ≤ 1000000 →
    Ev (fun k => tickingref02_Pass.l0 k l (passIn (rd l i) s out).2 (rd l i :: (passIn (rd l i) s out).1).reverse ((i + 1 : Nat) : Int)) R → Ev (fun k => tickingref02_Pass.l1 k l out s.reverse (i : Int)) R
  | [], out, h, hR => by
    refine Ev.step (fun k => ?_) hR
    simp only [tickingref02_Pass.l1, passIn]
    rw [if_neg (by simp), if_pos (by omega), if_pos (by omega), if_pos (by simp), w64 (by omega) (by omega)]
    rfl
  | t :: s, out, h, hR => by
    have e1 : wrap64 (((t :: s).reverse.length : Int) - 1) = (((t :: s).reverse.length : Int) - 1) := w64 (by omega) (by simp at h ⊢; omega)
    have hlen : (t :: s).reverse.length = s.length + 1 := by simp
    have hh : s.length + 1 + out.length ≤ 1000000 := by simpa using h
    by_cases c : t < rd l i
    · have e2 : passIn (rd l i) (t :: s) out = passIn (rd l i) s (out ++ [t]) := by rw [passIn, if_pos c]
      rw [e2] at hR
      refine Ev.step (f := fun k => tickingref02_Pass.l1 k l (out ++ [t]) s.reverse (i : Int)) (fun k => ?_) (Pass_l1 l i hi hl R s (out ++ [t]) (by simp; omega) hR)
      simp only [tickingref02_Pass.l1]
      rw [e1, rd_top, take_top, if_pos (by omega), if_pos (by omega), if_pos (by omega), if_pos (by omega), if_pos (by omega), if_pos c, if_pos (by omega), if_pos (by omega)]
    · have e2 : passIn (rd l i) (t :: s) out = (t :: s, out) := by rw [passIn, if_neg c]
      rw [e2] at hR
      refine Ev.step (fun k => ?_) hR
      simp only [tickingref02_Pass.l1]
      rw [e1, rd_top, if_pos (by omega), if_pos (by omega), if_pos (by omega), if_pos (by omega), if_pos (by omega), if_neg c, if_pos (by omega), w64 (by omega) (by omega)]
      rw [List.reverse_cons (a := rd l i)]
      rfl

def passOut (l : List Int) : List Int := (passGo l ([], [])).2 ++ (passGo l ([], [])).1

theorem Pass_l0 (l : List Int) (hl : l.length ≤ 1000000) : ∀ (d i : Nat), i + d = l.length → ∀ (s out : List Int), s.length + out.length = i →
    Ev (fun k => tickingref02_Pass.l0 k l out s.reverse (i : Int)) ((passGo (l.drop i) (s, out)).2 ++ (passGo (l.drop i) (s, out)).1)
  | 0, i, h, s, out, hs => by
    rw [List.drop_eq_nil_of_le (by omega)]
    refine Ev.step (f := fun k => tickingref02_Pass.l2 k out (s.reverse ++ []) ((s.length : Int) - 1)) (fun k => ?_) (Pass_l2 s out (by omega) [])
    simp only [tickingref02_Pass.l0]
    rw [if_neg (by omega), w64 (by simp; omega) (by simp; omega), List.append_nil, List.length_reverse]
  | d + 1, i, h, s, out, hs => by
    rw [drop_cons l i (by omega)]
    refine Ev.step (f := fun k => tickingref02_Pass.l1 k l out s.reverse (i : Int)) (fun k => ?_) ?_
    · simp only [tickingref02_Pass.l0]
      rw [if_pos (by omega)]
    · refine Pass_l1 l i (by omega) hl _ s out (by omega) ?_
      have hpl := passIn_len (rd l i) s out
      exact Pass_l0 l hl d (i + 1) (by omega) (rd l i :: (passIn (rd l i) s out).1) (passIn (rd l i) s out).2 (by simp; omega)
theorem Pass_ev (l : List Int) (hl : l.length ≤ 1000000) : Ev (fun k => tickingref02_Pass.f k l) (passOut l) := by
  have := Pass_l0 l hl l.length 0 (by omega) [] [] rfl
  exact this

theorem passGo_len : ∀ (xs s lft : List Int), (passGo xs (s, lft)).1.length + (passGo xs (s, lft)).2.length = xs.length + s.length + lft.length
  | [], s, lft => by simp [passGo]
  | x :: xs, s, lft => by
    have := passIn_len x s lft
    unfold passGo
    rw [passGo_len xs]
    simp; omega
theorem passOut_len (l : List Int) : (passOut l).length = l.length := by
  have := passGo_len l [] []
  unfold passOut
  simp at this ⊢
  omega
theorem OneStack_ev (l : List Int) (hl : l.length ≤ 1000000) : Ev (fun k => tickingref02_OneStack.f k l) (decide (Asc (passOut l))) := by
  refine Ev.congr (fun k => ?_) (Ev.bind (f := fun k t => (tickingref02_ascending.f k t).bind fun u => some u) (Pass_ev l hl) (Ev.bind (f := fun _ u => some u) (asc_ev (passOut l) (by rw [passOut_len]; exact hl)) (Ev.now _)))
  rfl

end Go.Proofs.Ytjbjongahnocdaa.P

/- One stack: what a pass sorts, what the stack sorts, and the pattern that neither does. -/
namespace Go.Proofs.Ytjbjongahnocdaa.P
open Go.RowKit Go.Proofs.Ytjbjongahnocdaa.S Go.Proofs.Ytjbjongahnocdaa.Defs Go.Proofs.YtjbjongahnocdaaW.PrintWords

/-- Nothing greater than t stands ahead of something smaller. -/
def NoPat (t : Int) (xs : List Int) : Prop := xs.Pairwise (fun x y => ¬ (y < t ∧ t < x))
def No231 : List Int → Prop
  | [] => True
  | a :: r => NoPat a r ∧ No231 r
instance (t : Int) (xs : List Int) : Decidable (NoPat t xs) := by unfold NoPat; infer_instance
instance no231dec : (l : List Int) → Decidable (No231 l)
  | [] => .isTrue trivial
  | a :: r => by
    have := no231dec r
    unfold No231
    infer_instance

theorem asc_cons (a : Int) (l : List Int) : Asc (a :: l) ↔ (∀ b ∈ l, a < b) ∧ Asc l := List.pairwise_cons
theorem asc_append (a b : List Int) : Asc (a ++ b) ↔ Asc a ∧ Asc b ∧ ∀ x ∈ a, ∀ y ∈ b, x < y := List.pairwise_append

theorem passIn_cut (x : Int) : ∀ s lft : List Int, Asc s → ∃ p s', s = p ++ s' ∧ (∀ t ∈ p, t < x) ∧ (∀ t ∈ s', x ≤ t) ∧ passIn x s lft = (s', lft ++ p)
  | [], lft, _ => ⟨[], [], rfl, by simp, by simp, by simp [passIn]⟩
  | t :: s, lft, h => by
    obtain ⟨h1, h2⟩ := (asc_cons t s).1 h
    by_cases c : t < x
    · obtain ⟨p, s', e1, e2, e3, e4⟩ := passIn_cut x s (lft ++ [t]) h2
      refine ⟨t :: p, s', by rw [e1]; rfl, ?_, e3, ?_⟩
      · intro y hy
        rcases List.mem_cons.1 hy with rfl | hy
        · exact c
        · exact e2 y hy
      · rw [passIn, if_pos c, e4, List.append_assoc]
        rfl
    · refine ⟨[], t :: s, rfl, by simp, ?_, by rw [passIn, if_neg c, List.append_nil]⟩
      intro y hy
      rcases List.mem_cons.1 hy with rfl | hy
      · omega
      · have := h1 y hy
        omega

theorem no231_cons (x : Int) (xs : List Int) : No231 (x :: xs) ↔ NoPat x xs ∧ No231 xs := Iff.rfl
theorem noPat_cons (t x : Int) (xs : List Int) : NoPat t (x :: xs) ↔ (∀ y ∈ xs, ¬ (y < t ∧ t < x)) ∧ NoPat t xs := List.pairwise_cons

theorem pass_iff : ∀ (xs s lft : List Int), Asc s → (∀ a ∈ s, a ∉ xs) → xs.Nodup →
    (Asc ((passGo xs (s, lft)).2 ++ (passGo xs (s, lft)).1) ↔ Asc lft ∧ (∀ a ∈ lft, ∀ b ∈ s, a < b) ∧ (∀ a ∈ lft, ∀ b ∈ xs, a < b) ∧ (∀ t ∈ s, NoPat t xs) ∧ No231 xs)
  | [], s, lft, hs, _, _ => by
    unfold passGo
    rw [asc_append]
    constructor
    · rintro ⟨h1, _, h3⟩
      exact ⟨h1, h3, by simp, fun t _ => List.Pairwise.nil, trivial⟩
    · rintro ⟨h1, h2, _⟩
      exact ⟨h1, hs, h2⟩
  | x :: xs, s, lft, hs, hd, hn => by
    obtain ⟨p, s', e1, e2, e3, e4⟩ := passIn_cut x s lft hs
    have hxs : x ∉ s := fun hm => hd x hm (by simp)
    obtain ⟨hn1, hn2⟩ := List.nodup_cons.1 hn
    have hs' : Asc s' := by rw [e1] at hs; exact ((asc_append _ _).1 hs).2.1
    have hp : Asc p := by rw [e1] at hs; exact ((asc_append _ _).1 hs).1
    have hps : ∀ a ∈ p, ∀ b ∈ s', a < b := by rw [e1] at hs; exact ((asc_append _ _).1 hs).2.2
    have hxs' : ∀ t ∈ s', x < t := fun t ht => by
      have h1 := e3 t ht
      have h2 : x ≠ t := fun e => hxs (by rw [e1, e]; exact List.mem_append_right _ ht)
      omega
    have hpx : ∀ t ∈ p, ∀ y ∈ xs, t ≠ y := fun t ht y hy e => hd t (by rw [e1]; exact List.mem_append_left _ ht) (by rw [e]; exact List.mem_cons_of_mem _ hy)
    unfold passGo
    rw [e4]
    have ih := pass_iff xs (x :: s') (lft ++ p) ((asc_cons _ _).2 ⟨hxs', hs'⟩) (fun a ha => by
      rcases List.mem_cons.1 ha with rfl | ha
      · exact hn1
      · exact fun hm => hd a (by rw [e1]; exact List.mem_append_right _ ha) (List.mem_cons_of_mem _ hm)) hn2
    rw [ih]
    constructor
    · rintro ⟨k1, k2, k3, k4, k5⟩
      obtain ⟨a1, a2, a3⟩ := (asc_append _ _).1 k1
      refine ⟨a1, ?_, ?_, ?_, k4 x (by simp), k5⟩
      · intro a ha b hb
        rw [e1] at hb
        rcases List.mem_append.1 hb with hb | hb
        · exact a3 a ha b hb
        · exact k2 a (List.mem_append_left _ ha) b (List.mem_cons_of_mem _ hb)
      · intro a ha b hb
        rcases List.mem_cons.1 hb with rfl | hb
        · exact k2 a (List.mem_append_left _ ha) b (by simp)
        · exact k3 a (List.mem_append_left _ ha) b hb
      · intro t ht
        rw [noPat_cons]
        rw [e1] at ht
        rcases List.mem_append.1 ht with ht | ht
        · have hy : ∀ y ∈ xs, t < y := fun y hy => k3 t (List.mem_append_right _ ht) y hy
          refine ⟨fun y hy' => by have := hy y hy'; omega, ?_⟩
          exact List.Pairwise.imp_of_mem (R := fun _ _ => True) (fun {a b} _ hb _ => by have := hy b hb; omega) (List.pairwise_of_forall (fun _ _ => trivial))
        · have := hxs' t ht
          exact ⟨fun y _ => by omega, k4 t (List.mem_cons_of_mem _ ht)⟩
    · rintro ⟨k1, k2, k3, k4, k5, k6⟩
      refine ⟨(asc_append _ _).2 ⟨k1, hp, fun a ha b hb => k2 a ha b (by rw [e1]; exact List.mem_append_left _ hb)⟩, ?_, ?_, ?_, k6⟩
      · intro a ha b hb
        rcases List.mem_append.1 ha with ha | ha
        · rcases List.mem_cons.1 hb with rfl | hb
          · exact k3 a ha b (by simp)
          · exact k2 a ha b (by rw [e1]; exact List.mem_append_right _ hb)
        · rcases List.mem_cons.1 hb with rfl | hb
          · exact e2 a ha
          · exact hps a ha b hb
      · intro a ha b hb
        rcases List.mem_append.1 ha with ha | ha
        · exact k3 a ha b (List.mem_cons_of_mem _ hb)
        · have h1 := ((noPat_cons _ _ _).1 (k4 a (by rw [e1]; exact List.mem_append_left _ ha))).1 b hb
          have h2 := e2 a ha
          have h3 := hpx a ha b hb
          omega
      · intro t ht
        rcases List.mem_cons.1 ht with rfl | ht
        · exact k5
        · exact ((noPat_cons _ _ _).1 (k4 t (by rw [e1]; exact List.mem_append_right _ ht))).2

theorem passOut_asc (l : List Int) (h : l.Nodup) : Asc (passOut l) ↔ No231 l := by
  unfold passOut
  rw [pass_iff l [] [] List.Pairwise.nil (by simp) h]
  exact ⟨fun h => h.2.2.2.2, fun h => ⟨List.Pairwise.nil, by simp, by simp, by simp, h⟩⟩

/-! ### the block -/
theorem rd_succ (x : Int) (l : List Int) (i : Nat) : rd (x :: l) ((i + 1 : Nat) : Int) = rd l (i : Int) := by
  rw [rd_nat, rd_nat, List.getD_cons_succ]
theorem noPat_pos (t : Int) (l : List Int) : NoPat t l ↔ ∀ b c : Nat, b < c → c < l.length → ¬ (rd l c < t ∧ t < rd l b) := by
  unfold NoPat
  rw [List.pairwise_iff_getElem]
  constructor
  · intro h b c hbc hc
    have := h b c (by omega) hc hbc
    rw [rd_lt l b (by omega), rd_lt l c hc]
    exact this
  · intro h b c hb hc hbc
    have := h b c hbc hc
    rw [rd_lt l b (by omega), rd_lt l c hc] at this
    exact this
theorem no231_pos : ∀ l : List Int, No231 l ↔ ∀ a b c : Nat, a < b → b < c → c < l.length → ¬ (rd l c < rd l a ∧ rd l a < rd l b)
  | [] => by simp [No231]
  | x :: l => by
    unfold No231
    rw [noPat_pos, no231_pos l]
    constructor
    · rintro ⟨h1, h2⟩ a b c hab hbc hc
      obtain ⟨b, rfl⟩ : ∃ b', b = b' + 1 := ⟨b - 1, by omega⟩
      obtain ⟨c, rfl⟩ : ∃ c', c = c' + 1 := ⟨c - 1, by omega⟩
      have hc' : c < l.length := by simpa using hc
      cases a with
      | zero =>
        have := h1 b c (by omega) hc'
        rw [rd_succ, rd_succ]
        exact this
      | succ a =>
        have := h2 a b c (by omega) (by omega) hc'
        rw [rd_succ, rd_succ, rd_succ]
        exact this
    · intro h
      refine ⟨fun b c hbc hc => ?_, fun a b c hab hbc hc => ?_⟩
      · have := h 0 (b + 1) (c + 1) (by omega) (by omega) (by simpa using hc)
        rw [rd_succ, rd_succ] at this
        exact this
      · have := h (a + 1) (b + 1) (c + 1) (by omega) (by omega) (by simpa using hc)
        rw [rd_succ, rd_succ, rd_succ] at this
        exact this

/-- What 'blocking' finds. -/
def Found (l : List Int) (a b : Nat) (r : Int) : Prop :=
  (r = 0 ∧ ∀ c : Nat, b < c → c < l.length → ¬ (rd l c < rd l a ∧ rd l a ≤ rd l b)) ∨ ∃ c : Nat, r = c ∧ b < c ∧ c < l.length ∧ rd l c < rd l a ∧ rd l a ≤ rd l b

theorem blocking_loop (l : List Int) (a b : Nat) (ha : a < l.length) (hl : l.length ≤ 1000000) (hab : rd l a ≤ rd l b) : ∀ (d i : Nat), i + d = l.length → b < i → (∀ c : Nat, b < c → c < i → ¬ rd l c < rd l a) →
    ∃ r, Ev (fun k => shunt_blocking.l0 k l (a : Int) (i : Int)) r ∧ Found l a b r
  | 0, i, h, hb, hno => by
    refine ⟨0, Ev.step (fun k => ?_) (Ev.now _), .inl ⟨rfl, fun c h1 h2 h3 => hno c h1 (by omega) h3.1⟩⟩
    simp only [shunt_blocking.l0]
    rw [if_neg (by omega)]
  | d + 1, i, h, hb, hno => by
    by_cases c : rd l (i : Int) < rd l a
    · refine ⟨i, Ev.step (fun k => ?_) (Ev.now _), .inr ⟨i, rfl, hb, by omega, c, hab⟩⟩
      simp only [shunt_blocking.l0]
      rw [if_pos (by omega), if_pos (by omega), if_pos (by omega), if_pos (by omega), if_pos c]
    · obtain ⟨r, h1, h2⟩ := blocking_loop l a b ha hl hab d (i + 1) (by omega) (by omega) (fun c' h3 h4 => by
        by_cases e : c' = i
        · subst e; exact c
        · exact hno c' h3 (by omega))
      refine ⟨r, Ev.step (fun k => ?_) h1, h2⟩
      simp only [shunt_blocking.l0]
      rw [if_pos (by omega), if_pos (by omega), if_pos (by omega), if_pos (by omega), if_neg c, w64 (by omega) (by omega)]
      rfl
theorem blocking_ev (l : List Int) (a b : Nat) (ha : a < l.length) (hb : b < l.length) (hl : l.length ≤ 1000000) : ∃ r, Ev (fun k => shunt_blocking.f k l (a : Int) (b : Int)) r ∧ Found l a b r := by
  by_cases c : rd l a > rd l b
  · refine ⟨0, Ev.congr (fun k => ?_) (Ev.now _), .inl ⟨rfl, fun c' _ _ h => by omega⟩⟩
    unfold shunt_blocking.f
    rw [if_pos (by omega), if_pos (by omega), if_pos (by omega), if_pos (by omega), if_pos c]
  · obtain ⟨r, h1, h2⟩ := blocking_loop l a b ha hl (by omega) (l.length - (b + 1)) (b + 1) (by omega) (by omega) (fun c' h3 h4 => by omega)
    refine ⟨r, Ev.congr (fun k => ?_) h1, h2⟩
    unfold shunt_blocking.f
    rw [if_pos (by omega), if_pos (by omega), if_pos (by omega), if_pos (by omega), if_neg c, w64 (by omega) (by omega)]
    rfl

/-- What 'block' returns. -/
def BlockOf (l r : List Int) : Prop :=
  (r = [] ∧ ∀ a b c : Nat, a < b → b < c → c < l.length → ¬ (rd l c < rd l a ∧ rd l a ≤ rd l b)) ∨
    ∃ a b c : Nat, r = [(a : Int), (b : Int), (c : Int)] ∧ a < b ∧ b < c ∧ c < l.length ∧ rd l c < rd l a ∧ rd l a ≤ rd l b

theorem block_l1 (l : List Int) (b : Nat) (hb : b < l.length) (hl : l.length ≤ 1000000) (hrest : (∀ a c : Nat, a < b → b < c → c < l.length → ¬ (rd l c < rd l a ∧ rd l a ≤ rd l b)) → ∃ r, Ev (fun k => shunt_block.l0 k l (l.length : Int) ((b + 1 : Nat) : Int)) r ∧ BlockOf l r) : ∀ (d a : Nat), a + d = b →
    (∀ a' c : Nat, a' < a → b < c → c < l.length → ¬ (rd l c < rd l a' ∧ rd l a' ≤ rd l b)) → ∃ r, Ev (fun k => shunt_block.l1 k l (b : Int) (l.length : Int) (b : Int) (b : Int) (a : Int)) r ∧ BlockOf l r
  | 0, a, h, hno => by
    obtain ⟨r, h1, h2⟩ := hrest (fun a' c h1 => hno a' c (by omega))
    refine ⟨r, Ev.step (fun k => ?_) h1, h2⟩
    simp only [shunt_block.l1]
    rw [if_neg (by omega), w64 (by omega) (by omega)]
    rfl
  | d + 1, a, h, hno => by
    obtain ⟨q, q1, q2⟩ := blocking_ev l a b (by omega) hb hl
    rcases q2 with ⟨rfl, q2⟩ | ⟨c, rfl, q3, q4, q5, q6⟩
    · obtain ⟨r, h1, h2⟩ := block_l1 l b hb hl hrest d (a + 1) (by omega) (fun a' c h3 h4 h5 => by
        by_cases e : a' = a
        · subst e; exact q2 c h4 h5
        · exact hno a' c (by omega) h4 h5)
      refine ⟨r, ?_, h2⟩
      refine Ev.step (f := fun k => (shunt_blocking.f k l (a : Int) (b : Int)).bind fun t => if t > 0 then some [(a : Int), (b : Int), t] else shunt_block.l1 k l (b : Int) (l.length : Int) (b : Int) (b : Int) (wrap64 ((a : Int) + 1))) (fun k => ?_) (Ev.bind q1 ?_)
      · simp only [shunt_block.l1]
        rw [if_pos (by omega)]
      · refine Ev.congr (fun k => ?_) h1
        rw [if_neg (by omega), w64 (by omega) (by omega)]
        rfl
    · refine ⟨[(a : Int), (b : Int), (c : Int)], ?_, .inr ⟨a, b, c, rfl, by omega, q3, q4, q5, q6⟩⟩
      refine Ev.step (f := fun k => (shunt_blocking.f k l (a : Int) (b : Int)).bind fun t => if t > 0 then some [(a : Int), (b : Int), t] else shunt_block.l1 k l (b : Int) (l.length : Int) (b : Int) (b : Int) (wrap64 ((a : Int) + 1))) (fun k => ?_) (Ev.bind q1 ?_)
      · simp only [shunt_block.l1]
        rw [if_pos (by omega)]
      · refine Ev.congr (fun k => ?_) (Ev.now _)
        rw [if_pos (by omega)]
theorem block_l0 (l : List Int) (hl : l.length ≤ 1000000) : ∀ (d b : Nat), b + d = l.length → (∀ a b' c : Nat, a < b' → b' < b → b' < c → c < l.length → ¬ (rd l c < rd l a ∧ rd l a ≤ rd l b')) →
    ∃ r, Ev (fun k => shunt_block.l0 k l (l.length : Int) (b : Int)) r ∧ BlockOf l r
  | 0, b, h, hno => by
    refine ⟨[], Ev.step (fun k => ?_) (Ev.now _), .inl ⟨rfl, fun a b' c h1 h2 h3 => hno a b' c h1 (by omega) h2 h3⟩⟩
    simp only [shunt_block.l0]
    rw [if_neg (by omega)]
  | d + 1, b, h, hno => by
    obtain ⟨r, h1, h2⟩ := block_l1 l b (by omega) hl (fun hb => block_l0 l hl d (b + 1) (by omega) (fun a b' c h1 h2 h3 h4 => by
      by_cases e : b' = b
      · subst e; exact hb a c h1 h3 h4
      · exact hno a b' c h1 (by omega) h3 h4)) b 0 (by omega) (fun a' c h => by omega)
    refine ⟨r, Ev.step (fun k => ?_) h1, h2⟩
    simp only [shunt_block.l0]
    rw [if_pos (by omega)]
    rfl
theorem block_ev (l : List Int) (hl : l.length ≤ 1000000) : ∃ r, Ev (fun k => shunt_block.f k l) r ∧ BlockOf l r := by
  obtain ⟨r, h1, h2⟩ := block_l0 l hl l.length 0 (by omega) (fun a b c h h' => by omega)
  exact ⟨r, h1, h2⟩
theorem blockOf_nil {l r : List Int} (h : BlockOf l r) (hd : l.Nodup) : r = [] ↔ No231 l := by
  rw [no231_pos]
  rcases h with ⟨rfl, h⟩ | ⟨a, b, c, rfl, h1, h2, h3, h4, h5⟩
  · exact ⟨fun _ a b c k1 k2 k3 k4 => h a b c k1 k2 k3 ⟨k4.1, by omega⟩, fun _ => rfl⟩
  · refine ⟨fun e => (by cases e), fun h => absurd ⟨h4, ?_⟩ (h a b c h1 h2 h3)⟩
    rw [rd_lt l a (by omega), rd_lt l b (by omega)] at h5 ⊢
    have : l[a] ≠ l[b] := List.pairwise_iff_getElem.1 hd a b (by omega) (by omega) h1
    omega

/-! ### what the stack sorts -/
theorem drain_cut : ∀ s lft plan : List Int, ∃ d s', s = d ++ s' ∧ drainS s lft plan = (s', lft ++ d, plan ++ List.replicate d.length 111) ∧ (∀ t ∈ d, (lft.length : Int) < t ∧ t ≤ lft.length + d.length) ∧ Asc d ∧ ∀ h t, s' = h :: t → h ≠ (lft.length : Int) + d.length + 1
  | [], lft, plan => ⟨[], [], rfl, by simp [drainS], by simp, List.Pairwise.nil, fun h t e => by cases e⟩
  | x :: s, lft, plan => by
    by_cases c : x = (lft.length : Int) + 1
    · obtain ⟨d, s', e1, e2, e3, e4, e5⟩ := drain_cut s (lft ++ [x]) (plan ++ [111])
      have hl : (lft ++ [x]).length = lft.length + 1 := by simp
      rw [hl] at e3 e5
      refine ⟨x :: d, s', by rw [e1]; rfl, ?_, ?_, (asc_cons _ _).2 ⟨fun b hb => ?_, e4⟩, fun h t e => ?_⟩
      · rw [drainS, if_pos c, e2, List.append_assoc, List.append_assoc]
        rfl
      · intro t ht
        rw [List.length_cons]
        rcases List.mem_cons.1 ht with rfl | ht
        · omega
        · have := e3 t ht
          omega
      · have := e3 b hb
        omega
      · have := e5 h t e
        rw [List.length_cons]
        omega
    · refine ⟨[], x :: s, rfl, by rw [drainS, if_neg c]; simp, by simp, List.Pairwise.nil, fun h t e => ?_⟩
      injection e with e _
      subst e
      simpa using c

/-- The stack s, what has left, and what is still to come, of an order of n items. -/
structure OnWay (n : Nat) (s lft xs : List Int) : Prop where
  nodup : (s ++ xs).Nodup
  range : ∀ a ∈ s ++ xs, (lft.length : Int) < a ∧ a ≤ n
  count : s.length + xs.length + lft.length = n
  left : lft = (List.range lft.length).map (fun i => ((i : Nat) : Int) + 1)

theorem asc_range (d : List Int) (lo : Int) (hd : Asc d) (h : ∀ t ∈ d, lo < t ∧ t ≤ lo + d.length) : d = (List.range d.length).map (fun i => lo + 1 + ((i : Nat) : Int)) := by
  induction d generalizing lo with
  | nil => rfl
  | cons a t ih =>
    obtain ⟨h1, h2⟩ := (asc_cons a t).1 hd
    have hn : (a :: t).Nodup := List.Pairwise.imp (fun {x y} (h : x < y) => by omega) hd
    have hm := full_range (a :: t).length (a :: t) lo hn h rfl (lo + 1) (by omega) (by simp; omega)
    have ha : a = lo + 1 := by
      rcases List.mem_cons.1 hm with e | hm
      · exact e.symm
      · have := h1 _ hm
        have := h a (by simp)
        omega
    have := ih (lo + 1) h2 (fun b hb => by
      have := h1 b hb
      have := h b (List.mem_cons_of_mem _ hb)
      rw [List.length_cons] at this
      omega)
    rw [List.length_cons, List.range_succ_eq_map, List.map_cons, List.map_map, ha]
    congr 1
    · omega
    · refine this.trans (List.map_congr_left fun i _ => ?_)
      simp only [Function.comp]
      omega

theorem OnWay.step {n : Nat} {s lft xs : List Int} {x : Int} {plan : List Int} (h : OnWay n s lft (x :: xs)) : ∃ d s', x :: s = d ++ s' ∧ drainS (x :: s) lft plan = (s', lft ++ d, plan ++ List.replicate d.length 111) ∧ (∀ t ∈ d, (lft.length : Int) < t ∧ t ≤ lft.length + d.length) ∧ Asc d ∧ (∀ h t, s' = h :: t → h ≠ ((lft ++ d).length : Int) + 1) ∧ OnWay n s' (lft ++ d) xs := by
  obtain ⟨d, s', e1, e2, e3, e4, e5⟩ := drain_cut (x :: s) lft plan
  have hperm : (d ++ (s' ++ xs)).Perm (s ++ x :: xs) := by
    rw [← List.append_assoc, ← e1, List.cons_append]
    exact List.perm_middle.symm
  have hnd : (d ++ (s' ++ xs)).Nodup := hperm.nodup_iff.2 h.nodup
  obtain ⟨n1, n2, n3⟩ := List.nodup_append.1 hnd
  refine ⟨d, s', e1, e2, e3, e4, fun a t e => by have := e5 a t e; rw [List.length_append]; omega, ⟨n2, fun a ha => ?_, ?_, ?_⟩⟩
  · have hr := h.range a (hperm.mem_iff.1 (List.mem_append_right _ ha))
    refine ⟨?_, hr.2⟩
    rw [List.length_append]
    by_cases hle : a ≤ lft.length + d.length
    · have := full_range d.length d lft.length n1 e3 rfl a hr.1 hle
      exact absurd rfl (n3 a this a ha)
    · omega
  · have := h.count
    have hl := congrArg List.length e1
    rw [List.length_append, List.length_cons] at hl
    rw [List.length_append]
    simp only [List.length_cons] at this
    omega
  · have := asc_range d lft.length e4 e3
    rw [List.length_append, List.range_add, List.map_append]
    congr 1
    · exact h.left
    · rw [List.map_map]
      refine this.trans (List.map_congr_left fun i _ => ?_)
      simp only [Function.comp]
      omega

theorem stack_iff (n : Nat) : ∀ (xs s lft plan : List Int), OnWay n s lft xs → (∀ h t, s = h :: t → h ≠ (lft.length : Int) + 1) →
    ((stackGo xs (s, lft, plan)).2.1.length = n ↔ Asc s ∧ (∀ t ∈ s, NoPat t xs) ∧ No231 xs)
  | [], s, lft, plan, h, hd => by
    unfold stackGo
    have hc := h.count
    simp only [List.length_nil] at hc
    constructor
    · intro e
      have : s = [] := List.eq_nil_of_length_eq_zero (by simp only at e; omega)
      subst this
      exact ⟨List.Pairwise.nil, by simp, trivial⟩
    · rintro ⟨ha, _⟩
      cases s with
      | nil => simp only at hc ⊢; simp at hc; exact hc
      | cons a t =>
        exfalso
        have h1 := (asc_cons a t).1 ha
        have hr := h.range
        have hnd := h.nodup
        rw [List.append_nil] at hr hnd
        have hm := full_range (a :: t).length (a :: t) lft.length hnd (fun b hb => by have := hr b hb; omega) rfl ((lft.length : Int) + 1) (by omega) (by simp; omega)
        rcases List.mem_cons.1 hm with e | hm
        · exact hd a t rfl e.symm
        · have := h1.1 _ hm
          have := hr a (by simp)
          omega
  | x :: xs, s, lft, plan, h, hd => by
    obtain ⟨d, s', e1, e2, e3, e4, e5, hw⟩ := h.step (plan := plan ++ [105])
    unfold stackGo
    rw [e2, stack_iff n xs s' (lft ++ d) _ hw e5]
    have hnd := h.nodup
    have hxs : ∀ t ∈ s, t ≠ x := fun t ht e => (List.nodup_append.1 hnd).2.2 t ht x (by simp) e
    have hsx : ∀ t ∈ s, ∀ y ∈ xs, t ≠ y := fun t ht y hy => (List.nodup_append.1 hnd).2.2 t ht y (by simp [hy])
    cases d with
    | nil =>
      rw [List.nil_append] at e1
      rw [← e1, asc_cons, no231_cons]
      constructor
      · rintro ⟨⟨h1, h2⟩, h3, h4⟩
        refine ⟨h2, fun t ht => (noPat_cons _ _ _).2 ⟨fun y hy => by have := h1 t ht; omega, h3 t (by simp [ht])⟩, h3 x (by simp), h4⟩
      · rintro ⟨h2, h3, h4, h5⟩
        refine ⟨⟨fun t ht => ?_, h2⟩, fun t ht => ?_, h5⟩
        · by_cases hlt : x < t
          · exact hlt
          · exfalso
            have hne := hxs t ht
            have hp := ((noPat_cons _ _ _).1 (h3 t ht)).1
            have hm := full_range (s ++ x :: xs).length (s ++ x :: xs) lft.length hnd (fun b hb => by have := h.range b hb; have := h.count; simp at *; omega) rfl ((lft.length : Int) + 1) (by omega) (by simp; omega)
            rcases List.mem_append.1 hm with hm | hm
            · cases s with
              | nil => cases ht
              | cons a r =>
                rcases List.mem_cons.1 hm with e | hm
                · exact hd a r rfl e.symm
                · have h6 := ((asc_cons a r).1 h2).1 _ hm
                  have h7 := h.range a (by simp)
                  omega
            · rcases List.mem_cons.1 hm with e | hm
              · have := e5 x s e1.symm
                simp at this
                omega
              · have h6 := hp _ hm
                have h7 := hsx t ht _ hm
                have h8 := h.range t (by simp [ht])
                omega
        · rcases List.mem_cons.1 ht with rfl | ht
          · exact h4
          · exact ((noPat_cons _ _ _).1 (h3 t ht)).2
    | cons a d' =>
      injection e1 with e0 e1
      subst e0
      have hx : x = (lft.length : Int) + 1 := by
        have hm := full_range (x :: d').length (x :: d') lft.length (List.Pairwise.imp (fun {x y} (h : x < y) => by omega) e4) e3 rfl ((lft.length : Int) + 1) (by omega) (by simp; omega)
        rcases List.mem_cons.1 hm with e | hm
        · exact e.symm
        · have := ((asc_cons x d').1 e4).1 _ hm
          have := h.range x (by simp)
          omega
      have hbig : ∀ b ∈ s' ++ xs, ((lft ++ x :: d').length : Int) < b := fun b hb => (hw.range b hb).1
      have hlen : ((lft ++ x :: d').length : Int) = lft.length + (x :: d').length := by simp
      replace e1 : s = d' ++ s' := e1
      rw [no231_cons, e1, asc_append]
      constructor
      · rintro ⟨h1, h2, h3⟩
        refine ⟨⟨((asc_cons x d').1 e4).2, h1, fun u hu v hv => ?_⟩, fun t ht => (noPat_cons _ _ _).2 ⟨fun y hy => ?_, ?_⟩, ?_, h3⟩
        · have := e3 u (List.mem_cons_of_mem _ hu)
          have := hbig v (List.mem_append_left _ hv)
          omega
        · have := hbig y (List.mem_append_right _ hy)
          have : (lft.length : Int) < t ∧ t ≤ n := h.range t (by rw [e1]; exact List.mem_append_left _ ht)
          omega
        · rcases List.mem_append.1 ht with ht | ht
          · exact List.Pairwise.imp_of_mem (R := fun _ _ => True) (fun {u v} _ hv _ => by
              have := hbig v (List.mem_append_right _ hv)
              have := e3 t (List.mem_cons_of_mem _ ht)
              omega) (List.pairwise_of_forall (fun _ _ => trivial))
          · exact h2 t ht
        · exact List.Pairwise.imp_of_mem (R := fun _ _ => True) (fun {u v} _ hv _ => by
              have := hbig v (List.mem_append_right _ hv)
              have : 0 < (x :: d').length := by simp
              omega) (List.pairwise_of_forall (fun _ _ => trivial))
      · rintro ⟨⟨_, h1, _⟩, h2, _, h3⟩
        exact ⟨h1, fun t ht => ((noPat_cons _ _ _).1 (h2 t (List.mem_append_right _ ht))).2, h3⟩

theorem onWay_start (l : List Int) (h : IsOrd l) : OnWay l.length [] [] l :=
  ⟨by simpa using h.1, fun a ha => by have := h.2 a (by simpa using ha); simp; omega, by simp, rfl⟩
theorem stack_full (l : List Int) (h : IsOrd l) : (stackGo l ([], [], [])).2.1.length = l.length ↔ No231 l := by
  rw [stack_iff l.length l [] [] [] (onWay_start l h) (fun _ _ e => by cases e)]
  exact ⟨fun h => h.2.2, fun h => ⟨List.Pairwise.nil, by simp, h⟩⟩

theorem drainS_le : ∀ s lft plan : List Int, (drainS s lft plan).2.1.length + (drainS s lft plan).1.length = lft.length + s.length
  | [], lft, plan => by simp [drainS]
  | x :: s, lft, plan => by
    rw [drainS]
    split
    · rw [drainS_le s]; simp; omega
    · rfl
theorem stackGo_le : ∀ (l : List Int) (st : List Int × List Int × List Int), (stackGo l st).2.1.length ≤ st.2.1.length + st.1.length + l.length
  | [], (s, lft, plan) => by simp [stackGo]
  | x :: l, (s, lft, plan) => by
    have h1 := stackGo_le l (drainS (x :: s) lft (plan ++ [105]))
    have h2 := drainS_le (x :: s) lft (plan ++ [105])
    rw [stackGo]
    simp only [List.length_cons] at h2 ⊢
    omega

end Go.Proofs.Ytjbjongahnocdaa.P

/- Two stacks, items leaving as soon as possible: they sort exactly if no two positions of one side are in conflict. -/
namespace Go.Proofs.Ytjbjongahnocdaa.P
set_option linter.unusedVariables false
open Go.RowKit Go.Proofs.Ytjbjongahnocdaa.S Go.Proofs.Ytjbjongahnocdaa.Defs Go.Proofs.YtjbjongahnocdaaW.PrintWords

/-- No later pair, its first item on side k, that makes a conflict with t. -/
def NoPatK (k t : Int) (xs : List (Int × Int)) : Prop := xs.Pairwise (fun y z => y.2 = k → ¬ (z.1 < t ∧ t < y.1))
def No231K : List (Int × Int) → Prop
  | [] => True
  | x :: xs => NoPatK x.2 x.1 xs ∧ No231K xs
theorem noPatK_cons (k t : Int) (x : Int × Int) (xs : List (Int × Int)) : NoPatK k t (x :: xs) ↔ (∀ z ∈ xs, x.2 = k → ¬ (z.1 < t ∧ t < x.1)) ∧ NoPatK k t xs := List.pairwise_cons

/-- The items that are still to leave: those from w to n. -/
def Inv2 (n w : Int) (l : List Int) : Prop := l.Nodup ∧ (∀ a ∈ l, w ≤ a ∧ a ≤ n) ∧ (l.length : Int) = n + 1 - w
theorem Inv2.perm {n w : Int} {l l' : List Int} (p : l.Perm l') (h : Inv2 n w l) : Inv2 n w l' :=
  ⟨p.nodup_iff.1 h.1, fun a ha => h.2.1 a (p.mem_iff.2 ha), by rw [← p.length_eq]; exact h.2.2⟩
theorem Inv2.full {n w : Int} {l : List Int} (h : Inv2 n w l) {v : Int} (h0 : w ≤ v) (h1 : v ≤ n) : v ∈ l :=
  full_range l.length l (w - 1) h.1 (fun a ha => by have := h.2.1 a ha; have := h.2.2; omega) rfl v (by omega) (by have := h.2.2; omega)
def items (sa sb : List Int) (xs : List (Int × Int)) : List Int := sa ++ (sb ++ xs.map (·.1))
theorem items_swap (sa sb : List Int) (xs : List (Int × Int)) : (items sa sb xs).Perm (items sb sa xs) := List.perm_append_comm_assoc _ _ _
theorem items_push (sa sb : List Int) (x k : Int) (xs : List (Int × Int)) : (items sa sb ((x, k) :: xs)).Perm (items (x :: sa) sb xs) := by
  unfold items
  rw [List.map_cons, ← List.append_assoc, List.cons_append, ← List.append_assoc]
  exact List.perm_middle
theorem Inv2.pop {n w : Int} {sa sb : List Int} {xs : List (Int × Int)} (h : Inv2 n w (items (w :: sa) sb xs)) : Inv2 n (w + 1) (items sa sb xs) := by
  obtain ⟨h1, h2, h3⟩ := h
  have e : items (w :: sa) sb xs = w :: items sa sb xs := rfl
  rw [e] at h1 h2 h3
  rw [List.nodup_cons] at h1
  rw [List.length_cons] at h3
  refine ⟨h1.2, fun a ha => ?_, by omega⟩
  have := h2 a (List.mem_cons_of_mem _ ha)
  have : a ≠ w := fun e => h1.1 (e ▸ ha)
  omega

def Good2 (ka kb : Int) (sa sb : List Int) (xs : List (Int × Int)) : Prop := Asc sa ∧ Asc sb ∧ (∀ t ∈ sa, NoPatK ka t xs) ∧ (∀ t ∈ sb, NoPatK kb t xs) ∧ No231K xs
theorem Good2.swap {ka kb : Int} {sa sb : List Int} {xs : List (Int × Int)} (h : Good2 ka kb sa sb xs) : Good2 kb ka sb sa xs := ⟨h.2.1, h.1, h.2.2.2.1, h.2.2.1, h.2.2.2.2⟩

def NotHead (s : List Int) (w : Int) : Prop := ∀ h t, s = h :: t → h ≠ w
/-- An ascending stack whose top is not the least item left does not contain that item. -/
theorem notHead_mem {s : List Int} {w : Int} (ha : Asc s) (hr : ∀ a ∈ s, w ≤ a) (hd : NotHead s w) : w ∉ s := by
  intro hm
  cases s with
  | nil => cases hm
  | cons a t =>
    rcases List.mem_cons.1 hm with e | hm
    · exact hd a t rfl e.symm
    · have h1 := ((asc_cons a t).1 ha).1 _ hm
      have h2 := hr a (by simp)
      omega

theorem good_push {n w ka kb x : Int} {sa sb : List Int} {xs : List (Int × Int)} (hk : ka ≠ kb) (h : Inv2 n w (items sa sb ((x, ka) :: xs))) (da : NotHead sa w) (db : NotHead sb w) :
    Good2 ka kb sa sb ((x, ka) :: xs) ↔ Good2 ka kb (x :: sa) sb xs := by
  have hnd := h.1
  unfold items at hnd
  rw [List.map_cons] at hnd
  have memA : ∀ t ∈ sa, t ∈ items sa sb ((x, ka) :: xs) := fun t ht => List.mem_append_left _ ht
  have memB : ∀ t ∈ sb, t ∈ items sa sb ((x, ka) :: xs) := fun t ht => List.mem_append_right _ (List.mem_append_left _ ht)
  have hxs : ∀ t ∈ sa, t ≠ x ∧ ∀ z ∈ xs, t ≠ z.1 := fun t ht => ⟨fun e => (List.nodup_append.1 hnd).2.2 t ht x (by simp) e, fun z hz e => (List.nodup_append.1 hnd).2.2 t ht z.1 (by simp; exact .inr (.inr ⟨z.2, hz⟩)) e⟩
  constructor
  · rintro ⟨h1, h2, h3, h4, h5⟩
    have h5 : NoPatK ka x xs ∧ No231K xs := h5
    refine ⟨(asc_cons x sa).2 ⟨fun t ht => ?_, h1⟩, h2, fun t ht => ?_, fun t ht => ((noPatK_cons _ _ _ _).1 (h4 t ht)).2, h5.2⟩
    · apply Classical.byContradiction
      intro hn
      have hr := h.2.1 t (memA t ht)
      obtain ⟨hne, hnz⟩ := hxs t ht
      have hw := h.full (Int.le_refl w) (by omega)
      unfold items at hw
      rcases List.mem_append.1 hw with hw | hw
      · exact notHead_mem h1 (fun a ha => (h.2.1 a (memA a ha)).1) da hw
      · rcases List.mem_append.1 hw with hw | hw
        · exact notHead_mem h2 (fun a ha => (h.2.1 a (memB a ha)).1) db hw
        · rw [List.map_cons] at hw
          rcases List.mem_cons.1 hw with e | hw
          · have e : w = x := e
            omega
          · obtain ⟨z, hz, e⟩ := List.mem_map.1 hw
            have := hnz z hz
            exact ((noPatK_cons _ _ _ _).1 (h3 t ht)).1 z hz rfl ⟨by omega, by show t < x; omega⟩
    · rcases List.mem_cons.1 ht with rfl | ht
      · exact h5.1
      · exact ((noPatK_cons _ _ _ _).1 (h3 t ht)).2
  · rintro ⟨h1, h2, h3, h4, h5⟩
    have h1 := (asc_cons x sa).1 h1
    refine ⟨h1.2, h2, fun t ht => (noPatK_cons _ _ _ _).2 ⟨fun z _ _ hh => ?_, h3 t (List.mem_cons_of_mem _ ht)⟩, fun t ht => (noPatK_cons _ _ _ _).2 ⟨fun z _ e => absurd e hk, h4 t ht⟩, h3 x (by simp), h5⟩
    have := h1.1 t ht
    have h7 : t < x := hh.2
    omega
theorem good_pop {n w ka kb : Int} {sa sb : List Int} {xs : List (Int × Int)} (h : Inv2 n w (items (w :: sa) sb xs)) : Good2 ka kb (w :: sa) sb xs ↔ Good2 ka kb sa sb xs := by
  have h' := h.pop
  constructor
  · rintro ⟨h1, h2, h3, h4, h5⟩
    exact ⟨((asc_cons w sa).1 h1).2, h2, fun t ht => h3 t (List.mem_cons_of_mem _ ht), h4, h5⟩
  · rintro ⟨h1, h2, h3, h4, h5⟩
    refine ⟨(asc_cons w sa).2 ⟨fun t ht => ?_, h1⟩, h2, fun t ht => ?_, h4, h5⟩
    · have := h'.2.1 t (List.mem_append_left _ ht)
      omega
    · rcases List.mem_cons.1 ht with rfl | ht
      · refine List.Pairwise.imp_of_mem (R := fun _ _ => True) (fun {u v} _ hv _ _ hh => ?_) (List.pairwise_of_forall (fun _ _ => trivial))
        have := h'.2.1 v.1 (List.mem_append_right _ (List.mem_append_right _ (List.mem_map_of_mem hv)))
        omega
      · exact h3 t ht

/-! ### the run -/
theorem pop1_cases (s : List Int) (w : Int) : (∃ t, s = w :: t ∧ pop1 s w = (t, w + 1, true)) ∨ (NotHead s w ∧ pop1 s w = (s, w, false)) := by
  cases s with
  | nil => exact .inr ⟨fun h t e => (by cases e), rfl⟩
  | cons a t =>
    by_cases c : a = w
    · subst c
      exact .inl ⟨t, rfl, if_pos rfl⟩
    · refine .inr ⟨fun h t e => ?_, if_neg c⟩
      injection e with e _
      exact e ▸ c
theorem drain2_good {n : Int} {xs : List (Int × Int)} : ∀ (f : Nat) (s0 s1 : List Int) (w : Int), s0.length + s1.length < f → Inv2 n w (items s0 s1 xs) →
    Inv2 n (drain2 f s0 s1 w).2.2 (items (drain2 f s0 s1 w).1 (drain2 f s0 s1 w).2.1 xs) ∧ NotHead (drain2 f s0 s1 w).1 (drain2 f s0 s1 w).2.2 ∧ NotHead (drain2 f s0 s1 w).2.1 (drain2 f s0 s1 w).2.2 ∧
      (Good2 0 1 s0 s1 xs ↔ Good2 0 1 (drain2 f s0 s1 w).1 (drain2 f s0 s1 w).2.1 xs)
  | 0, _, _, _, hf, _ => by omega
  | f + 1, s0, s1, w, hf, h => by
    unfold drain2
    rcases pop1_cases s0 w with ⟨t0, rfl, e0⟩ | ⟨d0, e0⟩
    · have h0 := h.pop
      rw [e0]
      rcases pop1_cases s1 (w + 1) with ⟨t1, rfl, e1⟩ | ⟨d1, e1⟩
      · have h1 := (h0.perm (items_swap _ _ _))
        have h2 := h1.pop.perm (items_swap _ _ _)
        rw [e1]
        simp only [Bool.or_self, if_true]
        have ih := drain2_good (xs := xs) f t0 t1 (w + 1 + 1) (by simp at hf; omega) h2
        refine ⟨ih.1, ih.2.1, ih.2.2.1, (good_pop h).trans (Iff.trans ⟨fun g => ?_, fun g => ?_⟩ ih.2.2.2)⟩
        · exact ((good_pop h1).1 g.swap).swap
        · exact ((good_pop h1).2 g.swap).swap
      · rw [e1]
        simp only [Bool.or_false, if_true]
        have ih := drain2_good (xs := xs) f t0 s1 (w + 1) (by simp at hf; omega) h0
        exact ⟨ih.1, ih.2.1, ih.2.2.1, (good_pop h).trans ih.2.2.2⟩
    · rw [e0]
      rcases pop1_cases s1 w with ⟨t1, rfl, e1⟩ | ⟨d1, e1⟩
      · have h1 := (h.perm (items_swap _ _ _))
        have h2 := h1.pop.perm (items_swap _ _ _)
        rw [e1]
        simp only [Bool.false_or, if_true]
        have ih := drain2_good (xs := xs) f s0 t1 (w + 1) (by simp at hf; omega) h2
        refine ⟨ih.1, ih.2.1, ih.2.2.1, Iff.trans ⟨fun g => ?_, fun g => ?_⟩ ih.2.2.2⟩
        · exact ((good_pop h1).1 g.swap).swap
        · exact ((good_pop h1).2 g.swap).swap
      · rw [e1]
        simp only [Bool.or_self]
        exact ⟨h, d0, d1, Iff.rfl⟩

theorem sides_end {n w : Int} {s0 s1 : List Int} (h : Inv2 n w (items s0 s1 [])) (d0 : NotHead s0 w) (d1 : NotHead s1 w) : w = n + 1 ↔ Good2 0 1 s0 s1 [] := by
  constructor
  · intro e
    have hl := h.2.2
    have : (items s0 s1 []) = [] := List.eq_nil_of_length_eq_zero (by omega)
    unfold items at this
    obtain ⟨rfl, h2⟩ := List.append_eq_nil_iff.1 this
    obtain ⟨rfl, _⟩ := List.append_eq_nil_iff.1 h2
    exact ⟨List.Pairwise.nil, List.Pairwise.nil, by simp, by simp, trivial⟩
  · rintro ⟨h1, h2, _⟩
    apply Classical.byContradiction
    intro hne
    have hr := h.2.2
    have hw := h.full (Int.le_refl w) (by omega)
    unfold items at hw
    rcases List.mem_append.1 hw with hw | hw
    · exact notHead_mem h1 (fun a ha => (h.2.1 a (List.mem_append_left _ ha)).1) d0 hw
    · rcases List.mem_append.1 hw with hw | hw
      · exact notHead_mem h2 (fun a ha => (h.2.1 a (List.mem_append_right _ (List.mem_append_left _ ha))).1) d1 hw
      · cases hw
theorem sides_iff (n : Int) : ∀ (xs : List (Int × Int)) (s0 s1 : List Int) (w : Int), (∀ x ∈ xs, x.2 = 0 ∨ x.2 = 1) → Inv2 n w (items s0 s1 xs) → NotHead s0 w → NotHead s1 w →
    ∃ w', sidesGo xs s0 s1 w = some w' ∧ (w' = n + 1 ↔ Good2 0 1 s0 s1 xs)
  | [], s0, s1, w, _, h, d0, d1 => ⟨w, rfl, sides_end h d0 d1⟩
  | (x, s) :: xs, s0, s1, w, hs, h, d0, d1 => by
    have hs' : ∀ x ∈ xs, x.2 = 0 ∨ x.2 = 1 := fun y hy => hs y (List.mem_cons_of_mem _ hy)
    rcases hs (x, s) (by simp) with e | e
    · have e : s = 0 := e
      subst e
      have h1 := h.perm (items_push _ _ _ _ _)
      have hd := drain2_good ((x :: s0).length + s1.length + 1) (x :: s0) s1 w (by omega) h1
      obtain ⟨w', e1, e2⟩ := sides_iff n xs _ _ _ hs' hd.1 hd.2.1 hd.2.2.1
      refine ⟨w', ?_, e2.trans (hd.2.2.2.symm.trans (good_push (by decide) h d0 d1).symm)⟩
      unfold sidesGo
      rw [if_neg (by omega), if_pos rfl, if_pos rfl]
      exact e1
    · have e : s = 1 := e
      subst e
      have hsw := h.perm (items_swap _ _ _)
      have h1 := (hsw.perm (items_push _ _ _ _ _)).perm (items_swap _ _ _)
      have hd := drain2_good (s0.length + (x :: s1).length + 1) s0 (x :: s1) w (by omega) h1
      obtain ⟨w', e1, e2⟩ := sides_iff n xs _ _ _ hs' hd.1 hd.2.1 hd.2.2.1
      refine ⟨w', ?_, e2.trans (hd.2.2.2.symm.trans ⟨fun g => ?_, fun g => ?_⟩)⟩
      · unfold sidesGo
        rw [if_neg (by omega), if_neg (by decide), if_neg (by decide)]
        exact e1
      · exact ((good_push (by decide) hsw d1 d0).2 g.swap).swap
      · exact ((good_push (by decide) hsw d1 d0).1 g.swap).swap
theorem sides_bad : ∀ (xs : List (Int × Int)) (s0 s1 : List Int) (w : Int), (∃ x ∈ xs, ¬ (x.2 = 0 ∨ x.2 = 1)) → sidesGo xs s0 s1 w = none
  | [], _, _, _, ⟨x, hx, _⟩ => by cases hx
  | (x, s) :: xs, s0, s1, w, ⟨y, hy, hn⟩ => by
    unfold sidesGo
    by_cases c : s < 0 ∨ s > 1
    · rw [if_pos c]
    · rw [if_neg c]
      refine sides_bad xs _ _ _ ⟨y, ?_, hn⟩
      rcases List.mem_cons.1 hy with rfl | hy
      · exact absurd (show s = 0 ∨ s = 1 by omega) hn
      · exact hy
/-- No two positions of one side are in conflict, by positions. -/
theorem no231K_pos : ∀ (l : List (Int × Int)), No231K l ↔ ∀ (a b c : Nat) (h1 : a < b) (h2 : b < c) (h3 : c < l.length), l[a].2 = l[b].2 → ¬ (l[c].1 < l[a].1 ∧ l[a].1 < l[b].1)
  | [] => ⟨fun _ a b c h1 h2 h3 => by simp at h3, fun _ => trivial⟩
  | x :: xs => by
    show (NoPatK x.2 x.1 xs ∧ No231K xs) ↔ _
    rw [no231K_pos xs]
    unfold NoPatK
    rw [List.pairwise_iff_getElem]
    constructor
    · rintro ⟨h, h'⟩ a b c h1 h2 h3
      cases a with
      | zero =>
        cases b with
        | zero => omega
        | succ b =>
          cases c with
          | zero => omega
          | succ c =>
            intro e
            exact h b c (by simp at h3; omega) (by simp at h3; omega) (by omega) e.symm
      | succ a =>
        cases b with
        | zero => omega
        | succ b =>
          cases c with
          | zero => omega
          | succ c => exact h' a b c (by omega) (by omega) (by simpa using h3)
    · intro h
      refine ⟨fun i j hi hj hij e => ?_, fun a b c h1 h2 h3 => ?_⟩
      · exact h 0 (i + 1) (j + 1) (by omega) (by omega) (by simp; omega) e.symm
      · exact h (a + 1) (b + 1) (c + 1) (by omega) (by omega) (by simp; omega)
end Go.Proofs.Ytjbjongahnocdaa.P

/- Lists of positions: what the reference's check of them answers. -/
namespace Go.Proofs.Ytjbjongahnocdaa.P
open Go.RowKit Go.Proofs.Ytjbjongahnocdaa.S Go.Proofs.Ytjbjongahnocdaa.Defs Go.Proofs.YtjbjongahnocdaaW.PrintWords Go.Proofs.YtjbjongahnocdaaW.PrintLast Go.Proofs.YtjbjongahnocdaaW.PrintMore
set_option linter.unusedVariables false

/-! ### positions -/
theorem at_loop (b : List Int) (n : Int) (hl : b.length ≤ 1000000) (d : Nat) : ∀ i : Nat, i + d = b.length → (b.take i).Nodup → (∀ x ∈ b.take i, 0 ≤ x ∧ x < n) →
    Ev (fun k => tickingref02_at.l0 k b n (i : Int)) (decide ((∀ x ∈ b, 0 ≤ x ∧ x < n) ∧ b.Nodup)) := by
  induction d with
  | zero =>
    intro i h h1 h2
    obtain rfl : i = b.length := by omega
    rw [List.take_length] at h1 h2
    rw [decide_eq_true ⟨h2, h1⟩]
    refine Ev.step (f := fun _ => some true) (fun k => ?_) (Ev.now _)
    simp only [tickingref02_at.l0]
    rw [if_neg (by omega)]
  | succ d ih =>
    intro i h h1 h2
    have hi : i < b.length := by omega
    have hm : rd b (i : Int) ∈ b := rd_mem (by omega) (by omega)
    have w : wrap64 ((i : Int) + 1) = ((i + 1 : Nat) : Int) := by rw [w64 (by omega) (by omega)]; rfl
    have tk : b.take (i + 1) = b.take i ++ [rd b (i : Int)] := by rw [rd_lt b i hi, ← List.take_append_getElem hi]
    by_cases c1 : rd b (i : Int) < 0
    · rw [decide_eq_false (fun h => by have := h.1 _ hm; omega)]
      refine Ev.step (f := fun _ => some false) (fun k => ?_) (Ev.now _)
      simp only [tickingref02_at.l0]
      rw [if_pos (by omega), if_pos (by omega), if_pos c1]
    · by_cases c2 : rd b (i : Int) ≥ n
      · rw [decide_eq_false (fun h => by have := h.1 _ hm; omega)]
        refine Ev.step (f := fun _ => some false) (fun k => ?_) (Ev.now _)
        simp only [tickingref02_at.l0]
        rw [if_pos (by omega), if_pos (by omega), if_neg c1, if_pos c2]
      · refine Ev.step (f := fun k => (tickingref02_has.f k (b.take i) (rd b (i : Int))).bind fun t => if t = true then some false else tickingref02_at.l0 k b n ((i + 1 : Nat) : Int)) (fun k => ?_) ?_
        · simp only [tickingref02_at.l0]
          rw [if_pos (by omega), if_pos (by omega), if_neg c1, if_neg c2, if_pos (by omega), Int.toNat_natCast, w]
        · refine Ev.bind (f := fun k (t : Bool) => if t = true then some false else tickingref02_at.l0 k b n ((i + 1 : Nat) : Int)) (has_ev _ _ (by rw [List.length_take]; omega)) ?_
          by_cases c3 : rd b (i : Int) ∈ b.take i
          · rw [decide_eq_false (p := (∀ x ∈ b, 0 ≤ x ∧ x < n) ∧ b.Nodup) (fun h => by
              have hd : (b.take (i + 1)).Nodup := h.2.sublist (List.take_sublist _ _)
              rw [tk, List.nodup_append] at hd
              exact hd.2.2 _ c3 _ (List.mem_singleton.2 rfl) rfl)]
            exact Ev.congr (fun k => by rw [if_pos (decide_eq_true c3)]) (Ev.now _)
          · refine Ev.congr (f := fun k => tickingref02_at.l0 k b n ((i + 1 : Nat) : Int)) (fun k => by rw [if_neg (by rw [decide_eq_true_eq]; exact c3)]) (ih (i + 1) (by omega) ?_ ?_)
            · rw [tk, List.nodup_append]
              exact ⟨h1, by simp, fun a ha x hx e => by rw [List.mem_singleton] at hx; rw [e, hx] at ha; exact c3 ha⟩
            · rw [tk]
              intro x hx
              rcases List.mem_append.1 hx with hx | hx
              · exact h2 x hx
              · rw [List.mem_singleton] at hx
                omega
theorem at_ev (b : List Int) (n : Int) (hl : b.length ≤ 1000000) : Ev (fun k => tickingref02_at.f k b n) (decide ((∀ x ∈ b, 0 ≤ x ∧ x < n) ∧ b.Nodup)) :=
  at_loop b n hl b.length 0 (by omega) (by simp) (by simp)

end Go.Proofs.Ytjbjongahnocdaa.P
