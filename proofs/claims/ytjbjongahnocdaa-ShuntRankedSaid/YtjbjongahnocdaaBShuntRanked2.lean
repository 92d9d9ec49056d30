-- Written by wip/bundle.py: texts of this claim, one behind the other.
import Derived.Test.YtjbjongahnocdaaBShuntRanked1
import Derived.KernelRfl
set_option linter.unusedVariables false
set_option linter.unusedSimpArgs false

namespace Go.Proofs.Ytjbjongahnocdaa.S
open Go.Proofs.Ytjbjongahnocdaa.Lib
open Go.Proofs.Ytjbjongahnocdaa.Defs
open Go.Maps (Keyed)
open Go.RowKit Go.Proofs.YtjbjongahnocdaaW.PrintWords Go.Proofs.YtjbjongahnocdaaW.PrintLast Go.Proofs.YtjbjongahnocdaaW.PrintMore
attribute [local go_sem] max2_int min2_int max_two min_two max_three min_three max_four min_four   -- for this text's walks alone
set_option linter.unusedVariables false
set_option linter.unusedSimpArgs false

/-! ### tickingref02_Order: function 21 -/
def tickingref02_Order.l0 : Nat → List Int → Int → Int → Option (Bool)
  | 0, _, _, _ => none
  | k + 1, x0, x1, x5 => if x5 < (x0.length : Int) then (if 0 ≤ x5 then (if (rd x0 x5) < 1 then (some false) else (if (rd x0 x5) > (x0.length : Int) then (some false) else (if x5 ≤ (x0.length : Int) then ((tickingref02_has.f k (x0.take (x5 : Int).toNat) (rd x0 x5)).bind fun t122 => (if t122 = true then (some false) else (tickingref02_Order.l0 k x0 x1 (wrap64 (x5 + 1))))) else (none)))) else (none)) else (some (decide ((x0.length : Int) ≤ x1)))
def tickingref02_Order.f (k : Nat) (l0 : List Int) (a1 : Int) : Option (Bool) := tickingref02_Order.l0 k l0 a1 0
theorem tickingref02_Order.mono_l : ∀ k, (∀ y0 y1 y2, LeO (tickingref02_Order.l0 k y0 y1 y2) (tickingref02_Order.l0 (k + 1) y0 y1 y2))
  | 0 => fun _ _ _ r h => by simp [tickingref02_Order.l0] at h
  | k + 1 => by
    have ih0 := tickingref02_Order.mono_l k
    · intro y0 y1 y2
      unfold tickingref02_Order.l0
      repeat' first
      | (with_reducible exact ih0 _ _ _)
      | (with_reducible exact tickingref02_has.mono _ _ _)
      | (with_reducible exact LeO.refl _)
      | (with_reducible exact LeO.none _)
      | (with_reducible refine LeO.ite ?_ ?_)
      | (with_reducible refine LeO.bind ?_ (fun _ => ?_))
      | exact ih0 _ _ _
      | exact tickingref02_has.mono _ _ _
      | exact LeO.none _
      | refine LeO.ite ?_ ?_
      | refine LeO.bind ?_ (fun _ => ?_)
theorem tickingref02_Order.mono : ∀ a0 a1 k, LeO (tickingref02_Order.f k a0 a1) (tickingref02_Order.f (k + 1) a0 a1) := by
  intro a0 a1 k
  have ih0 := tickingref02_Order.mono_l k
  unfold tickingref02_Order.f
  repeat' first
      | (with_reducible exact ih0 _ _ _)
      | (with_reducible exact tickingref02_has.mono _ _ _)
      | (with_reducible exact LeO.refl _)
      | (with_reducible exact LeO.none _)
      | (with_reducible refine LeO.ite ?_ ?_)
      | (with_reducible refine LeO.bind ?_ (fun _ => ?_))
      | exact ih0 _ _ _
      | exact tickingref02_has.mono _ _ _
      | exact LeO.none _
      | refine LeO.ite ?_ ?_
      | refine LeO.bind ?_ (fun _ => ?_)
set_option maxHeartbeats 8000000 in
set_option maxRecDepth 100000 in
theorem tickingref02_Order.calls (k : Nat) (A0 : Option Addr) (c0 : Nat) (l0 : List Int) (a1 : Int) (r : Bool) (w : World) (hr0 : Kd.C (Kd.int .i64) w A0 l0.length l0) (hc0 : l0.length ≤ c0) (h : tickingref02_Order.f k l0 a1 = some r) :
    Calls Try.prog 21 #[.slice A0 l0.length c0, .int .i64 a1] w fun e w' => e = .returned (.bool r) ∧ Drawn0 w w' := by
  have HR0 := Aside0.mk hr0
  have HC0 := Aside0.mk hc0
  clear hr0 hc0
  have H : (tickingref02_Order.l0 k l0 a1 0) = some r := h
  clear h
  have H' := Aside0.mk H
  clear H
  go_enter Try.func21, Try.ntmps21
  go_wp2
  repeat (go_quiet (fail); try go_wp2)
  go_loopg [5] k (fun kq v5 w' => ∃ (x5_1 : Int), v5 = .int .i64 x5_1 ∧ Aside0 (tickingref02_Order.l0 kq l0 a1 x5_1 = some r) ∧ Aside0 (kq ≤ k) ∧ Drawn0 w w')
  case atStart => exact ⟨(0), (by first | rfl | (simp; done) | (simp [*]; done)), H', ⟨Nat.le_refl _⟩, by repeat (first | exact Drawn0.refl _ | apply Drawn0.step)⟩
  case round =>
    clear H'
    try clear c2
    try clear p2
    obtain ⟨x5_1, rfl, HA, HK1, ⟨m1, rfl⟩⟩ := hrel
    cases gk with
    | zero => exact absurd HA.out (by simp [tickingref02_Order.l0])
    | succ k1 =>
      have H := HA.out
      clear HA
      simp only [tickingref02_Order.l0] at H
      by_cases c3 : x5_1 < (l0.length : Int)
      · rw [if_pos c3] at H
        have c3b0 : decide (x5_1 < (l0.length : Int)) = true := decide_eq_true c3
        clear c3
        by_cases c4 : 0 ≤ x5_1
        · rw [if_pos c4] at H
          have c4b0 : decide (0 ≤ x5_1) = true := decide_eq_true c4
          clear c4
          by_cases c5 : (rd l0 x5_1) < 1
          · rw [if_pos c5] at H
            have c5b0 : decide ((rd l0 x5_1) < 1) = true := decide_eq_true c5
            clear c5
            obtain rfl := Option.some.inj H
            have p118 : 0 ≤ (x5_1 : Int) := of_decide_eq_true (by first | (with_reducible assumption) | assumption)
            have q118 : x5_1 < (l0.length : Int) := of_decide_eq_true (by first | (with_reducible assumption) | assumption)
            obtain ⟨ad118, e118, hx118_0⟩ := Kd.at_int HR0.out x5_1 p118 q118
            cases e118
            replace p118 := eq_true p118
            replace q118 := eq_true q118
            go_wp2
            repeat (go_quiet (fail); try go_wp2)
            go_ret
            exact ⟨by first | rfl | (simp; done) | (simp [*]; done), by repeat (first | exact Drawn0.refl _ | apply Drawn0.step)⟩
          · rw [if_neg c5] at H
            have c5b0 : decide ((rd l0 x5_1) < 1) = false := decide_eq_false c5
            clear c5
            by_cases c6 : (rd l0 x5_1) > (l0.length : Int)
            · rw [if_pos c6] at H
              have c6b0 : decide ((l0.length : Int) < (rd l0 x5_1)) = true := decide_eq_true c6
              clear c6
              obtain rfl := Option.some.inj H
              have p118 : 0 ≤ (x5_1 : Int) := of_decide_eq_true (by first | (with_reducible assumption) | assumption)
              have q118 : x5_1 < (l0.length : Int) := of_decide_eq_true (by first | (with_reducible assumption) | assumption)
              obtain ⟨ad118, e118, hx118_0⟩ := Kd.at_int HR0.out x5_1 p118 q118
              cases e118
              replace p118 := eq_true p118
              replace q118 := eq_true q118
              have p119 : 0 ≤ (x5_1 : Int) := of_decide_eq_true (by first | (with_reducible assumption) | assumption)
              have q119 : x5_1 < (l0.length : Int) := of_decide_eq_true (by first | (with_reducible assumption) | assumption)
              obtain ⟨ad119, e119, hx119_0⟩ := Kd.at_int HR0.out x5_1 p119 q119
              obtain rfl : ad118 = ad119 := (by injection e119)
              replace p119 := eq_true p119
              replace q119 := eq_true q119
              go_wp2
              repeat (go_quiet (fail); try go_wp2)
              go_ret
              exact ⟨by first | rfl | (simp; done) | (simp [*]; done), by repeat (first | exact Drawn0.refl _ | apply Drawn0.step)⟩
            · rw [if_neg c6] at H
              have c6b0 : decide ((l0.length : Int) < (rd l0 x5_1)) = false := decide_eq_false c6
              clear c6
              have c7b0 := eq_true (of_decide_eq_true (by first | (with_reducible assumption) | assumption) : 0 ≤ x5_1)
              by_cases c8 : x5_1 ≤ (l0.length : Int)
              · rw [if_pos c8] at H
                have c8b0 := eq_true c8
                have c8b1 : decide (x5_1 ≤ (l0.length : Int)) = true := decide_eq_true c8
                clear c8
                replace H := Option.bind_eq_some_iff.mp H
                obtain ⟨t122, A90, H⟩ := H
                replace H : (if t122 = true then (some false) else (tickingref02_Order.l0 k1 l0 a1 (wrap64 (x5_1 + 1)))) = some r := H
                have A9 := Aside0.mk A90
                clear A90
                by_cases c10 : t122 = true
                · subst c10
                  have H1 : (some false) = some r := by rw [if_pos rfl] at H; exact H
                  clear H
                  have H := H1
                  clear H1
                  obtain rfl := Option.some.inj H
                  have p118 : 0 ≤ (x5_1 : Int) := of_decide_eq_true (by first | (with_reducible assumption) | assumption)
                  have q118 : x5_1 < (l0.length : Int) := of_decide_eq_true (by first | (with_reducible assumption) | assumption)
                  obtain ⟨ad118, e118, hx118_0⟩ := Kd.at_int HR0.out x5_1 p118 q118
                  cases e118
                  replace p118 := eq_true p118
                  replace q118 := eq_true q118
                  have p119 : 0 ≤ (x5_1 : Int) := of_decide_eq_true (by first | (with_reducible assumption) | assumption)
                  have q119 : x5_1 < (l0.length : Int) := of_decide_eq_true (by first | (with_reducible assumption) | assumption)
                  obtain ⟨ad119, e119, hx119_0⟩ := Kd.at_int HR0.out x5_1 p119 q119
                  obtain rfl : ad118 = ad119 := (by injection e119)
                  replace p119 := eq_true p119
                  replace q119 := eq_true q119
                  obtain ⟨i011, hi011, _, hsz11, _⟩ := info_parts info3
                  obtain ⟨hcut11, hA11, hC11⟩ := print_take_of (P := Try.prog) (Value.int .i64) 0 22 3 .i64 Try.underlying22 hi011 hsz11 (some ad118) c0 l0 x5_1 (of_decide_eq_true (by first | (with_reducible assumption) | assumption)) (of_decide_eq_true (by first | (with_reducible assumption) | assumption)) HC0.out
                  have HR120 := Aside0.mk (Kd.C_of_reads (h1 := fun _ => rfl) (hA11 _ (Kd.reads_of_C HR0.out)))
                  have HC120 := Aside0.mk hC11
                  clear hA11 hC11 hi011 hsz11
                  obtain ⟨tk11, htk11⟩ : ∃ tk_ : List Int, (l0.take (x5_1 : Int).toNat) = tk_ := ⟨_, rfl⟩
                  simp only [htk11] at *
                  have Htk11 := Aside0.mk htk11
                  clear htk11
                  have p121 : 0 ≤ (x5_1 : Int) := of_decide_eq_true (by first | (with_reducible assumption) | assumption)
                  have q121 : x5_1 < (l0.length : Int) := of_decide_eq_true (by first | (with_reducible assumption) | assumption)
                  obtain ⟨ad121, e121, hx121_0⟩ := Kd.at_int HR0.out x5_1 p121 q121
                  obtain rfl : ad118 = ad121 := (by injection e121)
                  replace p121 := eq_true p121
                  replace q121 := eq_true q121
                  go_wp2_with (first | (go_at_call 59; (with_reducible refine (tickingref02_has.calls k1 _ _ tk11 (rd l0 x5_1) true _ ?side1 ?side2 A9.out).mono ?_); (case side1 => repeat (first | exact HR120.out | (with_reducible refine Kd.C_alloc ?_ _) | (with_reducible refine Kd.C_drewN ?_ _) | (with_reducible refine Kd.C_drew ?_))); (case side2 => exact HC120.out); rintro e w' ⟨rfl, ⟨nd, rfl⟩⟩; (try first | exact ⟨rfl, _, World.drewN_drewN _ _ _⟩ | exact ⟨rfl, _, Eq.trans (World.drewN_drewN _ _ _) (congrArg (World.drewN _) (Nat.add_assoc _ _ _))⟩)))
                  repeat (go_quiet (first | (go_at_call 59; (with_reducible refine (tickingref02_has.calls k1 _ _ tk11 (rd l0 x5_1) true _ ?side1 ?side2 A9.out).mono ?_); (case side1 => repeat (first | exact HR120.out | (with_reducible refine Kd.C_alloc ?_ _) | (with_reducible refine Kd.C_drewN ?_ _) | (with_reducible refine Kd.C_drew ?_))); (case side2 => exact HC120.out); rintro e w' ⟨rfl, ⟨nd, rfl⟩⟩; (try first | exact ⟨rfl, _, World.drewN_drewN _ _ _⟩ | exact ⟨rfl, _, Eq.trans (World.drewN_drewN _ _ _) (congrArg (World.drewN _) (Nat.add_assoc _ _ _))⟩))); try go_wp2_with (first | (go_at_call 59; (with_reducible refine (tickingref02_has.calls k1 _ _ tk11 (rd l0 x5_1) true _ ?side1 ?side2 A9.out).mono ?_); (case side1 => repeat (first | exact HR120.out | (with_reducible refine Kd.C_alloc ?_ _) | (with_reducible refine Kd.C_drewN ?_ _) | (with_reducible refine Kd.C_drew ?_))); (case side2 => exact HC120.out); rintro e w' ⟨rfl, ⟨nd, rfl⟩⟩; (try first | exact ⟨rfl, _, World.drewN_drewN _ _ _⟩ | exact ⟨rfl, _, Eq.trans (World.drewN_drewN _ _ _) (congrArg (World.drewN _) (Nat.add_assoc _ _ _))⟩))))
                  go_ret
                  exact ⟨by first | rfl | (simp; done) | (simp [*]; done), by repeat (first | exact Drawn0.refl _ | apply Drawn0.step)⟩
                · replace c10 := Bool.eq_false_iff.mpr c10
                  subst c10
                  have H1 : (tickingref02_Order.l0 k1 l0 a1 (wrap64 (x5_1 + 1))) = some r := by rw [if_neg (show ¬ (false = true) by decide)] at H; exact H
                  clear H
                  have H := H1
                  clear H1
                  have H' := Aside0.mk H
                  clear H
                  have p118 : 0 ≤ (x5_1 : Int) := of_decide_eq_true (by first | (with_reducible assumption) | assumption)
                  have q118 : x5_1 < (l0.length : Int) := of_decide_eq_true (by first | (with_reducible assumption) | assumption)
                  obtain ⟨ad118, e118, hx118_0⟩ := Kd.at_int HR0.out x5_1 p118 q118
                  cases e118
                  replace p118 := eq_true p118
                  replace q118 := eq_true q118
                  have p119 : 0 ≤ (x5_1 : Int) := of_decide_eq_true (by first | (with_reducible assumption) | assumption)
                  have q119 : x5_1 < (l0.length : Int) := of_decide_eq_true (by first | (with_reducible assumption) | assumption)
                  obtain ⟨ad119, e119, hx119_0⟩ := Kd.at_int HR0.out x5_1 p119 q119
                  obtain rfl : ad118 = ad119 := (by injection e119)
                  replace p119 := eq_true p119
                  replace q119 := eq_true q119
                  obtain ⟨i012, hi012, _, hsz12, _⟩ := info_parts info3
                  obtain ⟨hcut12, hA12, hC12⟩ := print_take_of (P := Try.prog) (Value.int .i64) 0 22 3 .i64 Try.underlying22 hi012 hsz12 (some ad118) c0 l0 x5_1 (of_decide_eq_true (by first | (with_reducible assumption) | assumption)) (of_decide_eq_true (by first | (with_reducible assumption) | assumption)) HC0.out
                  have HR120 := Aside0.mk (Kd.C_of_reads (h1 := fun _ => rfl) (hA12 _ (Kd.reads_of_C HR0.out)))
                  have HC120 := Aside0.mk hC12
                  clear hA12 hC12 hi012 hsz12
                  obtain ⟨tk12, htk12⟩ : ∃ tk_ : List Int, (l0.take (x5_1 : Int).toNat) = tk_ := ⟨_, rfl⟩
                  simp only [htk12] at *
                  have Htk12 := Aside0.mk htk12
                  clear htk12
                  have p121 : 0 ≤ (x5_1 : Int) := of_decide_eq_true (by first | (with_reducible assumption) | assumption)
                  have q121 : x5_1 < (l0.length : Int) := of_decide_eq_true (by first | (with_reducible assumption) | assumption)
                  obtain ⟨ad121, e121, hx121_0⟩ := Kd.at_int HR0.out x5_1 p121 q121
                  obtain rfl : ad118 = ad121 := (by injection e121)
                  replace p121 := eq_true p121
                  replace q121 := eq_true q121
                  go_wp2_with (first | (go_at_call 59; (with_reducible refine (tickingref02_has.calls k1 _ _ tk12 (rd l0 x5_1) false _ ?side1 ?side2 A9.out).mono ?_); (case side1 => repeat (first | exact HR120.out | (with_reducible refine Kd.C_alloc ?_ _) | (with_reducible refine Kd.C_drewN ?_ _) | (with_reducible refine Kd.C_drew ?_))); (case side2 => exact HC120.out); rintro e w' ⟨rfl, ⟨nd, rfl⟩⟩; (try first | exact ⟨rfl, _, World.drewN_drewN _ _ _⟩ | exact ⟨rfl, _, Eq.trans (World.drewN_drewN _ _ _) (congrArg (World.drewN _) (Nat.add_assoc _ _ _))⟩)))
                  repeat (go_quiet (first | (go_at_call 59; (with_reducible refine (tickingref02_has.calls k1 _ _ tk12 (rd l0 x5_1) false _ ?side1 ?side2 A9.out).mono ?_); (case side1 => repeat (first | exact HR120.out | (with_reducible refine Kd.C_alloc ?_ _) | (with_reducible refine Kd.C_drewN ?_ _) | (with_reducible refine Kd.C_drew ?_))); (case side2 => exact HC120.out); rintro e w' ⟨rfl, ⟨nd, rfl⟩⟩; (try first | exact ⟨rfl, _, World.drewN_drewN _ _ _⟩ | exact ⟨rfl, _, Eq.trans (World.drewN_drewN _ _ _) (congrArg (World.drewN _) (Nat.add_assoc _ _ _))⟩))); try go_wp2_with (first | (go_at_call 59; (with_reducible refine (tickingref02_has.calls k1 _ _ tk12 (rd l0 x5_1) false _ ?side1 ?side2 A9.out).mono ?_); (case side1 => repeat (first | exact HR120.out | (with_reducible refine Kd.C_alloc ?_ _) | (with_reducible refine Kd.C_drewN ?_ _) | (with_reducible refine Kd.C_drew ?_))); (case side2 => exact HC120.out); rintro e w' ⟨rfl, ⟨nd, rfl⟩⟩; (try first | exact ⟨rfl, _, World.drewN_drewN _ _ _⟩ | exact ⟨rfl, _, Eq.trans (World.drewN_drewN _ _ _) (congrArg (World.drewN _) (Nat.add_assoc _ _ _))⟩))))
                  go_roundg k1
                  case measure => have := HK1.out; omega
                  case rel => exact ⟨(wrap64 (x5_1 + 1)), (by first | rfl | (simp; done) | (simp [*]; done)), H', ⟨by have := HK1.out; omega⟩, by repeat (first | exact Drawn0.refl _ | apply Drawn0.step)⟩
              · rw [if_neg c8] at H
                exact absurd H (by simp)
        · rw [if_neg c4] at H
          exact absurd H (by simp)
      · rw [if_neg c3] at H
        have c3b0 : decide (x5_1 < (l0.length : Int)) = false := decide_eq_false c3
        clear c3
        obtain rfl := Option.some.inj H
        go_wp2
        repeat (go_quiet (fail); try go_wp2)
        go_ret
        exact ⟨by first | rfl | (simp; done) | (simp [*]; done), by repeat (first | exact Drawn0.refl _ | apply Drawn0.step)⟩

end Go.Proofs.Ytjbjongahnocdaa.S

namespace Go.Proofs.Ytjbjongahnocdaa.S
open Go.Proofs.Ytjbjongahnocdaa.Lib
open Go.Proofs.Ytjbjongahnocdaa.Defs
open Go.Maps (Keyed)
open Go.RowKit Go.Proofs.YtjbjongahnocdaaW.PrintWords Go.Proofs.YtjbjongahnocdaaW.PrintLast Go.Proofs.YtjbjongahnocdaaW.PrintMore
attribute [local go_sem] max2_int min2_int max_two min_two max_three min_three max_four min_four   -- for this text's walks alone
set_option linter.unusedVariables false
set_option linter.unusedSimpArgs false

/-! ### tickingref02_ascending: function 60 -/
def tickingref02_ascending.l0 : Nat → List Int → Int → Option (Bool)
  | 0, _, _ => none
  | k + 1, x0, x3 => if x3 < (x0.length : Int) then (if 0 ≤ (wrap64 (x3 - 1)) then (if (wrap64 (x3 - 1)) < (x0.length : Int) then (if 0 ≤ x3 then (if (rd x0 (wrap64 (x3 - 1))) ≥ (rd x0 x3) then (some false) else (tickingref02_ascending.l0 k x0 (wrap64 (x3 + 1)))) else (none)) else (none)) else (none)) else (some true)
def tickingref02_ascending.f (k : Nat) (l0 : List Int) : Option (Bool) := tickingref02_ascending.l0 k l0 1
theorem tickingref02_ascending.mono_l : ∀ k, (∀ y0 y1, LeO (tickingref02_ascending.l0 k y0 y1) (tickingref02_ascending.l0 (k + 1) y0 y1))
  | 0 => fun _ _ r h => by simp [tickingref02_ascending.l0] at h
  | k + 1 => by
    have ih0 := tickingref02_ascending.mono_l k
    · intro y0 y1
      unfold tickingref02_ascending.l0
      repeat' first
      | (with_reducible exact ih0 _ _)
      | (with_reducible exact LeO.refl _)
      | (with_reducible exact LeO.none _)
      | (with_reducible refine LeO.ite ?_ ?_)
      | (with_reducible refine LeO.bind ?_ (fun _ => ?_))
      | exact ih0 _ _
      | exact LeO.none _
      | refine LeO.ite ?_ ?_
      | refine LeO.bind ?_ (fun _ => ?_)
theorem tickingref02_ascending.mono : ∀ a0 k, LeO (tickingref02_ascending.f k a0) (tickingref02_ascending.f (k + 1) a0) := by
  intro a0 k
  have ih0 := tickingref02_ascending.mono_l k
  unfold tickingref02_ascending.f
  repeat' first
      | (with_reducible exact ih0 _ _)
      | (with_reducible exact LeO.refl _)
      | (with_reducible exact LeO.none _)
      | (with_reducible refine LeO.ite ?_ ?_)
      | (with_reducible refine LeO.bind ?_ (fun _ => ?_))
      | exact ih0 _ _
      | exact LeO.none _
      | refine LeO.ite ?_ ?_
      | refine LeO.bind ?_ (fun _ => ?_)
set_option maxHeartbeats 8000000 in
set_option maxRecDepth 100000 in
theorem tickingref02_ascending.calls (k : Nat) (A0 : Option Addr) (c0 : Nat) (l0 : List Int) (r : Bool) (w : World) (hr0 : Kd.C (Kd.int .i64) w A0 l0.length l0) (hc0 : l0.length ≤ c0) (h : tickingref02_ascending.f k l0 = some r) :
    Calls Try.prog 60 #[.slice A0 l0.length c0] w fun e w' => e = .returned (.bool r) ∧ Drawn0 w w' := by
  have HR0 := Aside0.mk hr0
  have HC0 := Aside0.mk hc0
  clear hr0 hc0
  have H : (tickingref02_ascending.l0 k l0 1) = some r := h
  clear h
  have H' := Aside0.mk H
  clear H
  go_enter Try.func60, Try.ntmps60
  go_wp2
  repeat (go_quiet (fail); try go_wp2)
  go_loopg [3] k (fun kq v3 w' => ∃ (x3_1 : Int), v3 = .int .i64 x3_1 ∧ Aside0 (tickingref02_ascending.l0 kq l0 x3_1 = some r) ∧ Aside0 (kq ≤ k) ∧ Drawn0 w w')
  case atStart => exact ⟨(1), (by first | rfl | (simp; done) | (simp [*]; done)), H', ⟨Nat.le_refl _⟩, by repeat (first | exact Drawn0.refl _ | apply Drawn0.step)⟩
  case round =>
    clear H'
    obtain ⟨x3_1, rfl, HA, HK1, ⟨m1, rfl⟩⟩ := hrel
    cases gk with
    | zero => exact absurd HA.out (by simp [tickingref02_ascending.l0])
    | succ k1 =>
      have H := HA.out
      clear HA
      simp only [tickingref02_ascending.l0] at H
      by_cases c2 : x3_1 < (l0.length : Int)
      · rw [if_pos c2] at H
        have c2b0 : decide (x3_1 < (l0.length : Int)) = true := decide_eq_true c2
        clear c2
        obtain ⟨ji3, hji3⟩ : ∃ j_ : Int, (wrap64 (x3_1 - 1)) = j_ := ⟨_, rfl⟩
        replace H : (if 0 ≤ (ji3) then (if (ji3) < (l0.length : Int) then (if 0 ≤ x3_1 then (if (rd l0 (ji3)) ≥ (rd l0 x3_1) then (some false) else (tickingref02_ascending.l0 k1 l0 (wrap64 (x3_1 + 1)))) else (none)) else (none)) else (none)) = some r := by first | (rw [hji3] at H; exact H) | (simp only [hji3] at H ⊢; exact H)
        have hji3w : (IntKind.i64.wrap (x3_1 - 1)) = ji3 := (i64_w _).trans hji3
        by_cases c4 : 0 ≤ (ji3)
        · rw [if_pos c4] at H
          have c4b0 : decide (0 ≤ (ji3)) = true := decide_eq_true c4
          clear c4
          by_cases c5 : (ji3) < (l0.length : Int)
          · rw [if_pos c5] at H
            have c5b0 : decide ((ji3) < (l0.length : Int)) = true := decide_eq_true c5
            clear c5
            by_cases c6 : 0 ≤ x3_1
            · rw [if_pos c6] at H
              have c6b0 : decide (0 ≤ x3_1) = true := decide_eq_true c6
              clear c6
              by_cases c7 : (rd l0 (ji3)) ≥ (rd l0 x3_1)
              · rw [if_pos c7] at H
                have c7b0 : decide ((rd l0 x3_1) ≤ (rd l0 (ji3))) = true := decide_eq_true c7
                clear c7
                obtain rfl := Option.some.inj H
                have p194 : 0 ≤ ((ji3) : Int) := of_decide_eq_true (by first | (with_reducible assumption) | assumption)
                have q194 : (ji3) < (l0.length : Int) := of_decide_eq_true (by first | (with_reducible assumption) | assumption)
                obtain ⟨ad194, e194, hx194_0⟩ := Kd.at_int HR0.out (ji3) p194 q194
                cases e194
                replace p194 := eq_true p194
                replace q194 := eq_true q194
                have p195 : 0 ≤ (x3_1 : Int) := of_decide_eq_true (by first | (with_reducible assumption) | assumption)
                have q195 : x3_1 < (l0.length : Int) := of_decide_eq_true (by first | (with_reducible assumption) | assumption)
                obtain ⟨ad195, e195, hx195_0⟩ := Kd.at_int HR0.out x3_1 p195 q195
                obtain rfl : ad194 = ad195 := (by injection e195)
                replace p195 := eq_true p195
                replace q195 := eq_true q195
                go_wp2
                repeat (go_quiet (fail); try go_wp2)
                go_ret
                exact ⟨by first | rfl | (simp; done) | (simp only [← hji3] <;> (first | rfl | simp)) | (simp [*]; done), by repeat (first | exact Drawn0.refl _ | apply Drawn0.step)⟩
              · rw [if_neg c7] at H
                have c7b0 : decide ((rd l0 x3_1) ≤ (rd l0 (ji3))) = false := decide_eq_false c7
                clear c7
                have H' := Aside0.mk H
                clear H
                have p194 : 0 ≤ ((ji3) : Int) := of_decide_eq_true (by first | (with_reducible assumption) | assumption)
                have q194 : (ji3) < (l0.length : Int) := of_decide_eq_true (by first | (with_reducible assumption) | assumption)
                obtain ⟨ad194, e194, hx194_0⟩ := Kd.at_int HR0.out (ji3) p194 q194
                cases e194
                replace p194 := eq_true p194
                replace q194 := eq_true q194
                have p195 : 0 ≤ (x3_1 : Int) := of_decide_eq_true (by first | (with_reducible assumption) | assumption)
                have q195 : x3_1 < (l0.length : Int) := of_decide_eq_true (by first | (with_reducible assumption) | assumption)
                obtain ⟨ad195, e195, hx195_0⟩ := Kd.at_int HR0.out x3_1 p195 q195
                obtain rfl : ad194 = ad195 := (by injection e195)
                replace p195 := eq_true p195
                replace q195 := eq_true q195
                go_wp2
                repeat (go_quiet (fail); try go_wp2)
                go_roundg k1
                case measure => have := HK1.out; omega
                case rel => exact ⟨(wrap64 (x3_1 + 1)), (by first | rfl | (simp; done) | (simp [*]; done)), H', ⟨by have := HK1.out; omega⟩, by repeat (first | exact Drawn0.refl _ | apply Drawn0.step)⟩
            · rw [if_neg c6] at H
              exact absurd H (by simp)
          · rw [if_neg c5] at H
            exact absurd H (by simp)
        · rw [if_neg c4] at H
          exact absurd H (by simp)
      · rw [if_neg c2] at H
        have c2b0 : decide (x3_1 < (l0.length : Int)) = false := decide_eq_false c2
        clear c2
        obtain rfl := Option.some.inj H
        go_wp2
        repeat (go_quiet (fail); try go_wp2)
        go_ret
        exact ⟨by first | rfl | (simp; done) | (simp [*]; done), by repeat (first | exact Drawn0.refl _ | apply Drawn0.step)⟩

end Go.Proofs.Ytjbjongahnocdaa.S

namespace Go.Proofs.Ytjbjongahnocdaa.S
open Go.Proofs.Ytjbjongahnocdaa.Lib
open Go.Proofs.Ytjbjongahnocdaa.Defs
open Go.Maps (Keyed)
open Go.RowKit Go.Proofs.YtjbjongahnocdaaW.PrintWords Go.Proofs.YtjbjongahnocdaaW.PrintLast Go.Proofs.YtjbjongahnocdaaW.PrintMore
attribute [local go_sem] max2_int min2_int max_two min_two max_three min_three max_four min_four   -- for this text's walks alone
set_option linter.unusedVariables false
set_option linter.unusedSimpArgs false

/-! ### tickingref02_Pass: function 24 -/
mutual
def tickingref02_Pass.l0 : Nat → List Int → List Int → List Int → Int → Option (List Int)
  | 0, _, _, _, _ => none
  | k + 1, x0, x3, x4, x5 => if x5 < (x0.length : Int) then (tickingref02_Pass.l1 k x0 x3 x4 x5) else (tickingref02_Pass.l2 k x3 x4 (wrap64 ((x4.length : Int) - 1)))
def tickingref02_Pass.l1 : Nat → List Int → List Int → List Int → Int → Option (List Int)
  | 0, _, _, _, _ => none
  | k + 1, x0, x3, x4, x5 => if (x4.length : Int) > 0 then (if 0 ≤ (wrap64 ((x4.length : Int) - 1)) then (if (wrap64 ((x4.length : Int) - 1)) < (x4.length : Int) then (if 0 ≤ x5 then (if x5 < (x0.length : Int) then (if (rd x4 (wrap64 ((x4.length : Int) - 1))) < (rd x0 x5) then (if x3.length < 17592186044416 then (if (wrap64 ((x4.length : Int) - 1)) ≤ (x4.length : Int) then (tickingref02_Pass.l1 k x0 (x3 ++ [rd x4 (wrap64 ((x4.length : Int) - 1))]) (x4.take ((wrap64 ((x4.length : Int) - 1)) : Int).toNat) x5) else (none)) else (none)) else (if x4.length < 17592186044416 then (tickingref02_Pass.l0 k x0 x3 (x4 ++ [rd x0 x5]) (wrap64 (x5 + 1))) else (none))) else (none)) else (none)) else (none)) else (none)) else (if 0 ≤ x5 then (if x5 < (x0.length : Int) then (if x4.length < 17592186044416 then (tickingref02_Pass.l0 k x0 x3 (x4 ++ [rd x0 x5]) (wrap64 (x5 + 1))) else (none)) else (none)) else (none))
def tickingref02_Pass.l2 : Nat → List Int → List Int → Int → Option (List Int)
  | 0, _, _, _ => none
  | k + 1, x3, x4, x6 => if x6 ≥ 0 then (if 0 ≤ x6 then (if x6 < (x4.length : Int) then (if x3.length < 17592186044416 then (tickingref02_Pass.l2 k (x3 ++ [rd x4 x6]) x4 (wrap64 (x6 - 1))) else (none)) else (none)) else (none)) else (some x3)
end
def tickingref02_Pass.f (k : Nat) (l0 : List Int) : Option (List Int) := tickingref02_Pass.l0 k l0 ([] : List Int) ([] : List Int) 0
theorem tickingref02_Pass.mono_l : ∀ k, (∀ y0 y1 y2 y3, LeO (tickingref02_Pass.l0 k y0 y1 y2 y3) (tickingref02_Pass.l0 (k + 1) y0 y1 y2 y3)) ∧ (∀ y0 y1 y2 y3, LeO (tickingref02_Pass.l1 k y0 y1 y2 y3) (tickingref02_Pass.l1 (k + 1) y0 y1 y2 y3)) ∧ (∀ y0 y1 y2, LeO (tickingref02_Pass.l2 k y0 y1 y2) (tickingref02_Pass.l2 (k + 1) y0 y1 y2))
  | 0 => ⟨fun _ _ _ _ r h => by simp [tickingref02_Pass.l0] at h, fun _ _ _ _ r h => by simp [tickingref02_Pass.l1] at h, fun _ _ _ r h => by simp [tickingref02_Pass.l2] at h⟩
  | k + 1 => by
    obtain ⟨ih0, ih1, ih2⟩ := tickingref02_Pass.mono_l k
    refine ⟨?_, ?_, ?_⟩
    · intro y0 y1 y2 y3
      unfold tickingref02_Pass.l0
      repeat' first
      | (with_reducible exact ih0 _ _ _ _)
      | (with_reducible exact ih1 _ _ _ _)
      | (with_reducible exact ih2 _ _ _)
      | (with_reducible exact LeO.refl _)
      | (with_reducible exact LeO.none _)
      | (with_reducible refine LeO.ite ?_ ?_)
      | (with_reducible refine LeO.bind ?_ (fun _ => ?_))
      | exact ih0 _ _ _ _
      | exact ih1 _ _ _ _
      | exact ih2 _ _ _
      | exact LeO.none _
      | refine LeO.ite ?_ ?_
      | refine LeO.bind ?_ (fun _ => ?_)
    · intro y0 y1 y2 y3
      unfold tickingref02_Pass.l1
      repeat' first
      | (with_reducible exact ih0 _ _ _ _)
      | (with_reducible exact ih1 _ _ _ _)
      | (with_reducible exact ih2 _ _ _)
      | (with_reducible exact LeO.refl _)
      | (with_reducible exact LeO.none _)
      | (with_reducible refine LeO.ite ?_ ?_)
      | (with_reducible refine LeO.bind ?_ (fun _ => ?_))
      | exact ih0 _ _ _ _
      | exact ih1 _ _ _ _
      | exact ih2 _ _ _
      | exact LeO.none _
      | refine LeO.ite ?_ ?_
      | refine LeO.bind ?_ (fun _ => ?_)
    · intro y0 y1 y2
      unfold tickingref02_Pass.l2
      repeat' first
      | (with_reducible exact ih0 _ _ _ _)
      | (with_reducible exact ih1 _ _ _ _)
      | (with_reducible exact ih2 _ _ _)
      | (with_reducible exact LeO.refl _)
      | (with_reducible exact LeO.none _)
      | (with_reducible refine LeO.ite ?_ ?_)
      | (with_reducible refine LeO.bind ?_ (fun _ => ?_))
      | exact ih0 _ _ _ _
      | exact ih1 _ _ _ _
      | exact ih2 _ _ _
      | exact LeO.none _
      | refine LeO.ite ?_ ?_
      | refine LeO.bind ?_ (fun _ => ?_)
theorem tickingref02_Pass.mono : ∀ a0 k, LeO (tickingref02_Pass.f k a0) (tickingref02_Pass.f (k + 1) a0) := by
  intro a0 k
  obtain ⟨ih0, ih1, ih2⟩ := tickingref02_Pass.mono_l k
  unfold tickingref02_Pass.f
  repeat' first
      | (with_reducible exact ih0 _ _ _ _)
      | (with_reducible exact ih1 _ _ _ _)
      | (with_reducible exact ih2 _ _ _)
      | (with_reducible exact LeO.refl _)
      | (with_reducible exact LeO.none _)
      | (with_reducible refine LeO.ite ?_ ?_)
      | (with_reducible refine LeO.bind ?_ (fun _ => ?_))
      | exact ih0 _ _ _ _
      | exact ih1 _ _ _ _
      | exact ih2 _ _ _
      | exact LeO.none _
      | refine LeO.ite ?_ ?_
      | refine LeO.bind ?_ (fun _ => ?_)
set_option maxHeartbeats 8000000 in
set_option maxRecDepth 100000 in
theorem tickingref02_Pass.calls (k : Nat) (A0 : Option Addr) (c0 : Nat) (l0 : List Int) (r : List Int) (w : World) (hr0 : Kd.C (Kd.int .i64) w A0 l0.length l0) (hc0 : l0.length ≤ c0) (h : tickingref02_Pass.f k l0 = some r) :
    Calls Try.prog 24 #[.slice A0 l0.length c0] w fun e w' => ∃ v0_ : Value, e = .returned (v0_) ∧ Kd.R (Kd.int .i64) 3 w' w.heap.size (fun _ => True) v0_ r ∧ Below w.heap.size w w' := by
  have HR0 := Aside0.mk hr0
  have HC0 := Aside0.mk hc0
  clear hr0 hc0
  have HB := Aside0.mk (Below.refl w.heap.size w)
  have H : (tickingref02_Pass.l0 k l0 ([] : List Int) ([] : List Int) 0) = some r := h
  clear h
  have H' := Aside0.mk H
  clear H
  go_enter Try.func24, Try.ntmps24
  go_wp2
  repeat (go_quiet (fail); try go_wp2)
  go_loopg [3, 4, 5] k (fun kq v3 v4 v5 w' => ∃ (x3_1 : List Int) (x4_1 : List Int) (x5_1 : Int), v5 = .int .i64 x5_1 ∧ Aside0 (tickingref02_Pass.l0 kq l0 x3_1 x4_1 x5_1 = some r) ∧ Aside0 (kq ≤ k) ∧ Aside0 (Kd.R (Kd.int .i64) 3 w' w.heap.size (fun k_ => some k_ ≠ (v4 : Value).ownBlock) v3 x3_1) ∧ Aside0 (Kd.R (Kd.int .i64) 3 w' w.heap.size (fun k_ => some k_ ≠ (v3 : Value).ownBlock) v4 x4_1) ∧ Aside0 (Below w.heap.size w w'))
  case atStart => exact ⟨(([] : List Int)), (([] : List Int)), (0), (by first | rfl | (simp; done) | (simp [*]; done)), H', ⟨Nat.le_refl _⟩, ⟨by first | exact Kd.R_nil _ _ _ _ _ | exact Kd.N_nil _ _ _ _ _ | exact Kd.V_nil _ _ _ _ _ | exact Kd.Q_nil _ _ _ _ _ | exact Kd.S_nil _ _ _ _ _⟩, ⟨by first | exact Kd.R_nil _ _ _ _ _ | exact Kd.N_nil _ _ _ _ _ | exact Kd.V_nil _ _ _ _ _ | exact Kd.Q_nil _ _ _ _ _ | exact Kd.S_nil _ _ _ _ _⟩, ⟨by repeat (first | (with_reducible first | exact HB.out | apply below_alloc | apply pw_below_drewN | apply below_drew1) | exact HB.out)⟩⟩
  case round =>
    clear H'
    obtain ⟨x3_1, x4_1, x5_1, rfl, HA, HK1, HO_3, HO_4, HB⟩ := hrel
    cases gk with
    | zero => exact absurd HA.out (by simp [tickingref02_Pass.l0])
    | succ k1 =>
      have H := HA.out
      clear HA
      simp only [tickingref02_Pass.l0] at H
      by_cases c2 : x5_1 < (l0.length : Int)
      · rw [if_pos c2] at H
        have c2b0 : decide (x5_1 < (l0.length : Int)) = true := decide_eq_true c2
        clear c2
        have H' := Aside0.mk H
        clear H
        go_wp2
        repeat (go_quiet (fail); try go_wp2)
        go_loopg [3, 4] k1 (fun kq v3 v4 w' => ∃ (x3_2 : List Int) (x4_2 : List Int), Aside0 (tickingref02_Pass.l1 kq l0 x3_2 x4_2 x5_1 = some r) ∧ Aside0 (kq ≤ k1) ∧ Aside0 (Kd.R (Kd.int .i64) 3 w' w.heap.size (fun k_ => some k_ ≠ (v4 : Value).ownBlock) v3 x3_2) ∧ Aside0 (Kd.R (Kd.int .i64) 3 w' w.heap.size (fun k_ => some k_ ≠ (v3 : Value).ownBlock) v4 x4_2) ∧ Aside0 (Below w.heap.size w w'))
        case atStart => exact ⟨(x3_1), (x4_1), H', ⟨Nat.le_refl _⟩, ⟨by (with_reducible repeat (first | apply Kd.R_alloc | apply Kd.R_drewN | apply Kd.R_drew)); exact HO_3.out⟩, ⟨by (with_reducible repeat (first | apply Kd.R_alloc | apply Kd.R_drewN | apply Kd.R_drew)); exact HO_4.out⟩, ⟨by repeat (first | (with_reducible first | exact HB.out | apply below_alloc | apply pw_below_drewN | apply below_drew1) | exact HB.out)⟩⟩
        case round =>
          clear H'
          try clear c2
          try clear c2b0
          try clear p2
          obtain ⟨x3_2, x4_2, HA, HK2, HO_3, HO_4, HB⟩ := hrel
          cases gk with
          | zero => exact absurd HA.out (by simp [tickingref02_Pass.l1])
          | succ k2 =>
            have H := HA.out
            clear HA
            simp only [tickingref02_Pass.l1] at H
            by_cases c3 : (x4_2.length : Int) > 0
            · rw [if_pos c3] at H
              have c3b0 : decide (0 < (x4_2.length : Int)) = true := decide_eq_true c3
              have c3b1 : decide (0 < x4_2.length) = true := decide_eq_true (by omega)
              clear c3
              obtain ⟨ji4, hji4⟩ : ∃ j_ : Int, (wrap64 ((x4_2.length : Int) - 1)) = j_ := ⟨_, rfl⟩
              replace H : (if 0 ≤ (ji4) then (if (ji4) < (x4_2.length : Int) then (if 0 ≤ x5_1 then (if x5_1 < (l0.length : Int) then (if (rd x4_2 (ji4)) < (rd l0 x5_1) then (if x3_2.length < 17592186044416 then (if (ji4) ≤ (x4_2.length : Int) then (tickingref02_Pass.l1 k2 l0 (x3_2 ++ [rd x4_2 (ji4)]) (x4_2.take ((ji4) : Int).toNat) x5_1) else (none)) else (none)) else (if x4_2.length < 17592186044416 then (tickingref02_Pass.l0 k2 l0 x3_2 (x4_2 ++ [rd l0 x5_1]) (wrap64 (x5_1 + 1))) else (none))) else (none)) else (none)) else (none)) else (none)) = some r := by first | (rw [hji4] at H; exact H) | (simp only [hji4] at H ⊢; exact H)
              have hji4w : (IntKind.i64.wrap ((x4_2.length : Int) - 1)) = ji4 := (i64_w _).trans hji4
              by_cases c5 : 0 ≤ (ji4)
              · rw [if_pos c5] at H
                have c5b0 : decide (0 ≤ (ji4)) = true := decide_eq_true c5
                clear c5
                by_cases c6 : (ji4) < (x4_2.length : Int)
                · rw [if_pos c6] at H
                  have c6b0 : decide ((ji4) < (x4_2.length : Int)) = true := decide_eq_true c6
                  clear c6
                  by_cases c7 : 0 ≤ x5_1
                  · rw [if_pos c7] at H
                    have c7b0 : decide (0 ≤ x5_1) = true := decide_eq_true c7
                    clear c7
                    by_cases c8 : x5_1 < (l0.length : Int)
                    · rw [if_pos c8] at H
                      have c8b0 : decide (x5_1 < (l0.length : Int)) = true := decide_eq_true c8
                      clear c8
                      by_cases c9 : (rd x4_2 (ji4)) < (rd l0 x5_1)
                      · rw [if_pos c9] at H
                        have c9b0 : decide ((rd x4_2 (ji4)) < (rd l0 x5_1)) = true := decide_eq_true c9
                        clear c9
                        by_cases c10 : x3_2.length < 17592186044416
                        · rw [if_pos c10] at H
                          have LMc10 := Aside0.mk c10
                          clear c10
                          obtain ⟨y176, hy176⟩ : ∃ y_ : List Int, y_ = (x3_2 ++ [rd x4_2 (ji4)]) := ⟨_, rfl⟩
                          replace H : (if (ji4) ≤ (x4_2.length : Int) then (tickingref02_Pass.l1 k2 l0 y176 (x4_2.take ((ji4) : Int).toNat) x5_1) else (none)) = some r := by first | (rw [hy176]; with_reducible exact H) | (have H2_ := (Option.bind_some _ _).symm.trans H; rw [hy176]; with_reducible exact H2_) | (have H2_ := (Option.bind_some _ _).symm.trans H; with_reducible exact H2_) | with_reducible exact H | (rw [hy176]; exact H) | exact H
                          have Ny176 := Aside0.mk hy176
                          clear hy176
                          by_cases c11 : (ji4) ≤ (x4_2.length : Int)
                          · rw [if_pos c11] at H
                            have c11b0 := eq_true c11
                            have c11b1 : decide ((ji4) ≤ (x4_2.length : Int)) = true := decide_eq_true c11
                            clear c11
                            obtain ⟨y179, hy179⟩ : ∃ y_ : List Int, y_ = (x4_2.take ((ji4) : Int).toNat) := ⟨_, rfl⟩
                            replace H : (tickingref02_Pass.l1 k2 l0 y176 y179 x5_1) = some r := by first | (rw [hy179]; with_reducible exact H) | (have H2_ := (Option.bind_some _ _).symm.trans H; rw [hy179]; with_reducible exact H2_) | (have H2_ := (Option.bind_some _ _).symm.trans H; with_reducible exact H2_) | with_reducible exact H | (rw [hy179]; exact H) | exact H
                            have Ny179 := Aside0.mk hy179
                            clear hy179
                            have H' := Aside0.mk H
                            clear H
                            obtain ⟨Ao12, co12, eo12⟩ := Kd.R_slice HO_4.out
                            subst eo12
                            have p173 : 0 ≤ ((ji4) : Int) := of_decide_eq_true (by first | (with_reducible assumption) | assumption)
                            have q173 : (ji4) < (x4_2.length : Int) := of_decide_eq_true (by first | (with_reducible assumption) | assumption)
                            obtain ⟨ad173, e173, hx173_0⟩ := Kd.at_int (Kd.R_reads' HO_4.out).2.2 (ji4) p173 q173
                            cases e173
                            replace p173 := eq_true p173
                            replace q173 := eq_true q173
                            have p174 : 0 ≤ (x5_1 : Int) := of_decide_eq_true (by first | (with_reducible assumption) | assumption)
                            have q174 : x5_1 < (l0.length : Int) := of_decide_eq_true (by first | (with_reducible assumption) | assumption)
                            obtain ⟨ad174, e174, hx174_0⟩ := Kd.at_int HR0.out x5_1 p174 q174
                            cases e174
                            replace hx174_0 := (HB.out.cell (World.block_lt_of_cell? w _ hx174_0)).trans hx174_0
                            replace p174 := eq_true p174
                            replace q174 := eq_true q174
                            have p175 : 0 ≤ ((ji4) : Int) := of_decide_eq_true (by first | (with_reducible assumption) | assumption)
                            have q175 : (ji4) < (x4_2.length : Int) := of_decide_eq_true (by first | (with_reducible assumption) | assumption)
                            obtain ⟨ad175, e175, hx175_0⟩ := Kd.at_int (Kd.R_reads' HO_4.out).2.2 (ji4) p175 q175
                            obtain rfl : ad173 = ad175 := (by injection e175)
                            replace p175 := eq_true p175
                            replace q175 := eq_true q175
                            go_wp2_with (first | ((with_reducible refine gate_builtin (b := .append) (xs := #[.tmp 29, .tmp 36]) rfl ?_); (try (refine gate_guard (by rfl) ?_; dsimp only)); at_builtin; refine Kd.R_append (Kd.int .i64) (w0 := w) w.heap.size rfl (.tmp 29) (.tmp 36) 22 3 (.int .i64 0) 8 rfl Try.underlying22 info3 rfl (by decide) (by omega) u3 x3_2 (rd x4_2 (ji4)) [.int .i64 (rd x4_2 (ji4))] (fun k_ => some k_ ≠ (.slice (some ad173) x4_2.length co12 : Value).ownBlock) (fun _ => False) rfl rfl ?aP (fun _ hk => hk.elim) ?aF ?aO ?aB ?aS ?aL ?_; (case aP => exact rfl); (case aB => exact (by repeat (first | (with_reducible first | exact HB.out | apply below_alloc | apply pw_below_drewN | apply below_drew1) | exact HB.out))); (case aF => exact (fun k_ hk => Kd.fresh' (Kd.R_lt (by (with_reducible repeat (first | apply Kd.R_alloc | apply Kd.R_drewN | apply Kd.R_drew)); exact HO_4.out)) k_ hk)); (case aO => exact (by (with_reducible repeat (first | apply Kd.R_alloc | apply Kd.R_drewN | apply Kd.R_drew)); exact HO_3.out)); (case aS => exact (below_size (by repeat (first | (with_reducible first | exact HB.out | apply below_alloc | apply pw_below_drewN | apply below_drew1) | exact HB.out)))); (case aL => have := LMc10.out; omega); intro v177 w13 ho hb hg hat; rw [← Ny176.out] at ho; have n0_ := Aside0.mk (Kd.R_after (ok := (fun _ => True)) (by (with_reducible repeat (first | apply Kd.R_alloc | apply Kd.R_drewN | apply Kd.R_drew)); exact Kd.R_mono HO_4.out (fun _ hk => ⟨trivial, hk⟩)) hg hat); have n1_ := Aside0.mk (hb); have n2_ := Aside0.mk (ho); clear HO_4; clear HB; clear HO_3; have HO_4 := n0_; have HB := n1_; have HO178 := n2_; clear n0_ n1_ n2_; clear ho hb hg hat; have q14 : ((ji4) : Int) ≤ ((x4_2.length : Int) : Int) := of_decide_eq_true (by first | (with_reducible assumption) | assumption); obtain ⟨i014, hi014, _, hsz14, _⟩ := info_parts info3; have hcut14 := cut_to (P := Try.prog) 22 3 .i64 Try.underlying22 hi014 (some ad173) x4_2.length co12 (ji4) (of_decide_eq_true (by first | (with_reducible assumption) | assumption)) q14 (Kd.R_reads' HO_4.out).2.1; have hr14 := Kd.R_take (m := ((ji4) : Int).toNat) HO_4.out (by omega); have hy14 : y179.length = ((ji4) : Int).toNat := (by rw [Ny179.out, List.length_take]; omega); rw [← Ny179.out] at hr14; rw [← hy14] at hr14 hcut14; clear hy14 hi014 hsz14 HO_4; have HO181 := Aside0.mk hr14; clear hr14; replace q14 := eq_true q14))
                            repeat (go_quiet (first | ((with_reducible refine gate_builtin (b := .append) (xs := #[.tmp 29, .tmp 36]) rfl ?_); (try (refine gate_guard (by rfl) ?_; dsimp only)); at_builtin; refine Kd.R_append (Kd.int .i64) (w0 := w) w.heap.size rfl (.tmp 29) (.tmp 36) 22 3 (.int .i64 0) 8 rfl Try.underlying22 info3 rfl (by decide) (by omega) u3 x3_2 (rd x4_2 (ji4)) [.int .i64 (rd x4_2 (ji4))] (fun k_ => some k_ ≠ (.slice (some ad173) x4_2.length co12 : Value).ownBlock) (fun _ => False) rfl rfl ?aP (fun _ hk => hk.elim) ?aF ?aO ?aB ?aS ?aL ?_; (case aP => exact rfl); (case aB => exact (by repeat (first | (with_reducible first | exact HB.out | apply below_alloc | apply pw_below_drewN | apply below_drew1) | exact HB.out))); (case aF => exact (fun k_ hk => Kd.fresh' (Kd.R_lt (by (with_reducible repeat (first | apply Kd.R_alloc | apply Kd.R_drewN | apply Kd.R_drew)); exact HO_4.out)) k_ hk)); (case aO => exact (by (with_reducible repeat (first | apply Kd.R_alloc | apply Kd.R_drewN | apply Kd.R_drew)); exact HO_3.out)); (case aS => exact (below_size (by repeat (first | (with_reducible first | exact HB.out | apply below_alloc | apply pw_below_drewN | apply below_drew1) | exact HB.out)))); (case aL => have := LMc10.out; omega); intro v177 w13 ho hb hg hat; rw [← Ny176.out] at ho; have n0_ := Aside0.mk (Kd.R_after (ok := (fun _ => True)) (by (with_reducible repeat (first | apply Kd.R_alloc | apply Kd.R_drewN | apply Kd.R_drew)); exact Kd.R_mono HO_4.out (fun _ hk => ⟨trivial, hk⟩)) hg hat); have n1_ := Aside0.mk (hb); have n2_ := Aside0.mk (ho); clear HO_4; clear HB; clear HO_3; have HO_4 := n0_; have HB := n1_; have HO178 := n2_; clear n0_ n1_ n2_; clear ho hb hg hat; have q14 : ((ji4) : Int) ≤ ((x4_2.length : Int) : Int) := of_decide_eq_true (by first | (with_reducible assumption) | assumption); obtain ⟨i014, hi014, _, hsz14, _⟩ := info_parts info3; have hcut14 := cut_to (P := Try.prog) 22 3 .i64 Try.underlying22 hi014 (some ad173) x4_2.length co12 (ji4) (of_decide_eq_true (by first | (with_reducible assumption) | assumption)) q14 (Kd.R_reads' HO_4.out).2.1; have hr14 := Kd.R_take (m := ((ji4) : Int).toNat) HO_4.out (by omega); have hy14 : y179.length = ((ji4) : Int).toNat := (by rw [Ny179.out, List.length_take]; omega); rw [← Ny179.out] at hr14; rw [← hy14] at hr14 hcut14; clear hy14 hi014 hsz14 HO_4; have HO181 := Aside0.mk hr14; clear hr14; replace q14 := eq_true q14)); try go_wp2_with (first | ((with_reducible refine gate_builtin (b := .append) (xs := #[.tmp 29, .tmp 36]) rfl ?_); (try (refine gate_guard (by rfl) ?_; dsimp only)); at_builtin; refine Kd.R_append (Kd.int .i64) (w0 := w) w.heap.size rfl (.tmp 29) (.tmp 36) 22 3 (.int .i64 0) 8 rfl Try.underlying22 info3 rfl (by decide) (by omega) u3 x3_2 (rd x4_2 (ji4)) [.int .i64 (rd x4_2 (ji4))] (fun k_ => some k_ ≠ (.slice (some ad173) x4_2.length co12 : Value).ownBlock) (fun _ => False) rfl rfl ?aP (fun _ hk => hk.elim) ?aF ?aO ?aB ?aS ?aL ?_; (case aP => exact rfl); (case aB => exact (by repeat (first | (with_reducible first | exact HB.out | apply below_alloc | apply pw_below_drewN | apply below_drew1) | exact HB.out))); (case aF => exact (fun k_ hk => Kd.fresh' (Kd.R_lt (by (with_reducible repeat (first | apply Kd.R_alloc | apply Kd.R_drewN | apply Kd.R_drew)); exact HO_4.out)) k_ hk)); (case aO => exact (by (with_reducible repeat (first | apply Kd.R_alloc | apply Kd.R_drewN | apply Kd.R_drew)); exact HO_3.out)); (case aS => exact (below_size (by repeat (first | (with_reducible first | exact HB.out | apply below_alloc | apply pw_below_drewN | apply below_drew1) | exact HB.out)))); (case aL => have := LMc10.out; omega); intro v177 w13 ho hb hg hat; rw [← Ny176.out] at ho; have n0_ := Aside0.mk (Kd.R_after (ok := (fun _ => True)) (by (with_reducible repeat (first | apply Kd.R_alloc | apply Kd.R_drewN | apply Kd.R_drew)); exact Kd.R_mono HO_4.out (fun _ hk => ⟨trivial, hk⟩)) hg hat); have n1_ := Aside0.mk (hb); have n2_ := Aside0.mk (ho); clear HO_4; clear HB; clear HO_3; have HO_4 := n0_; have HB := n1_; have HO178 := n2_; clear n0_ n1_ n2_; clear ho hb hg hat; have q14 : ((ji4) : Int) ≤ ((x4_2.length : Int) : Int) := of_decide_eq_true (by first | (with_reducible assumption) | assumption); obtain ⟨i014, hi014, _, hsz14, _⟩ := info_parts info3; have hcut14 := cut_to (P := Try.prog) 22 3 .i64 Try.underlying22 hi014 (some ad173) x4_2.length co12 (ji4) (of_decide_eq_true (by first | (with_reducible assumption) | assumption)) q14 (Kd.R_reads' HO_4.out).2.1; have hr14 := Kd.R_take (m := ((ji4) : Int).toNat) HO_4.out (by omega); have hy14 : y179.length = ((ji4) : Int).toNat := (by rw [Ny179.out, List.length_take]; omega); rw [← Ny179.out] at hr14; rw [← hy14] at hr14 hcut14; clear hy14 hi014 hsz14 HO_4; have HO181 := Aside0.mk hr14; clear hr14; replace q14 := eq_true q14)))
                            go_roundg k2
                            case measure => have := HK1.out; have := HK2.out; omega
                            case rel => exact ⟨(y176), (y179), H', ⟨by have := HK1.out; have := HK2.out; omega⟩, ⟨by (with_reducible repeat (first | apply Kd.R_alloc | apply Kd.R_drewN | apply Kd.R_drew)); exact HO178.out⟩, ⟨by (with_reducible repeat (first | apply Kd.R_alloc | apply Kd.R_drewN | apply Kd.R_drew)); exact Kd.R_mono HO181.out (fun _ hk => hk.2)⟩, ⟨by repeat (first | (with_reducible first | exact HB.out | apply below_alloc | apply pw_below_drewN | apply below_drew1) | exact HB.out)⟩⟩
                          · rw [if_neg c11] at H
                            exact absurd H (by simp)
                        · rw [if_neg c10] at H
                          exact absurd H (by simp)
                      · rw [if_neg c9] at H
                        have c9b0 : decide ((rd x4_2 (ji4)) < (rd l0 x5_1)) = false := decide_eq_false c9
                        clear c9
                        by_cases c15 : x4_2.length < 17592186044416
                        · rw [if_pos c15] at H
                          have LMc15 := Aside0.mk c15
                          clear c15
                          obtain ⟨y183, hy183⟩ : ∃ y_ : List Int, y_ = (x4_2 ++ [rd l0 x5_1]) := ⟨_, rfl⟩
                          replace H : (tickingref02_Pass.l0 k2 l0 x3_2 y183 (wrap64 (x5_1 + 1))) = some r := by first | (rw [hy183]; with_reducible exact H) | (have H2_ := (Option.bind_some _ _).symm.trans H; rw [hy183]; with_reducible exact H2_) | (have H2_ := (Option.bind_some _ _).symm.trans H; with_reducible exact H2_) | with_reducible exact H | (rw [hy183]; exact H) | exact H
                          have Ny183 := Aside0.mk hy183
                          clear hy183
                          have H' := Aside0.mk H
                          clear H
                          obtain ⟨Ao16, co16, eo16⟩ := Kd.R_slice HO_4.out
                          subst eo16
                          have p173 : 0 ≤ ((ji4) : Int) := of_decide_eq_true (by first | (with_reducible assumption) | assumption)
                          have q173 : (ji4) < (x4_2.length : Int) := of_decide_eq_true (by first | (with_reducible assumption) | assumption)
                          obtain ⟨ad173, e173, hx173_0⟩ := Kd.at_int (Kd.R_reads' HO_4.out).2.2 (ji4) p173 q173
                          cases e173
                          replace p173 := eq_true p173
                          replace q173 := eq_true q173
                          have p174 : 0 ≤ (x5_1 : Int) := of_decide_eq_true (by first | (with_reducible assumption) | assumption)
                          have q174 : x5_1 < (l0.length : Int) := of_decide_eq_true (by first | (with_reducible assumption) | assumption)
                          obtain ⟨ad174, e174, hx174_0⟩ := Kd.at_int HR0.out x5_1 p174 q174
                          cases e174
                          replace hx174_0 := (HB.out.cell (World.block_lt_of_cell? w _ hx174_0)).trans hx174_0
                          replace p174 := eq_true p174
                          replace q174 := eq_true q174
                          have p182 : 0 ≤ (x5_1 : Int) := of_decide_eq_true (by first | (with_reducible assumption) | assumption)
                          have q182 : x5_1 < (l0.length : Int) := of_decide_eq_true (by first | (with_reducible assumption) | assumption)
                          obtain ⟨ad182, e182, hx182_0⟩ := Kd.at_int HR0.out x5_1 p182 q182
                          obtain rfl : ad174 = ad182 := (by injection e182)
                          replace hx182_0 := (HB.out.cell (World.block_lt_of_cell? w _ hx182_0)).trans hx182_0
                          replace p182 := eq_true p182
                          replace q182 := eq_true q182
                          go_wp2_with (first | ((with_reducible refine gate_builtin (b := .append) (xs := #[.tmp 43, .tmp 48]) rfl ?_); (try (refine gate_guard (by rfl) ?_; dsimp only)); at_builtin; refine Kd.R_append (Kd.int .i64) (w0 := w) w.heap.size rfl (.tmp 43) (.tmp 48) 22 3 (.int .i64 0) 8 rfl Try.underlying22 info3 rfl (by decide) (by omega) (.slice (some ad173) x4_2.length co16) x4_2 (rd l0 x5_1) [.int .i64 (rd l0 x5_1)] (fun k_ => some k_ ≠ (u3 : Value).ownBlock) (fun _ => False) rfl rfl ?aP (fun _ hk => hk.elim) ?aF ?aO ?aB ?aS ?aL ?_; (case aP => exact rfl); (case aB => exact (by repeat (first | (with_reducible first | exact HB.out | apply below_alloc | apply pw_below_drewN | apply below_drew1) | exact HB.out))); (case aF => exact (fun k_ hk => Kd.fresh' (Kd.R_lt (by (with_reducible repeat (first | apply Kd.R_alloc | apply Kd.R_drewN | apply Kd.R_drew)); exact HO_3.out)) k_ hk)); (case aO => exact (by (with_reducible repeat (first | apply Kd.R_alloc | apply Kd.R_drewN | apply Kd.R_drew)); exact HO_4.out)); (case aS => exact (below_size (by repeat (first | (with_reducible first | exact HB.out | apply below_alloc | apply pw_below_drewN | apply below_drew1) | exact HB.out)))); (case aL => have := LMc15.out; omega); intro v184 w17 ho hb hg hat; rw [← Ny183.out] at ho; have n0_ := Aside0.mk (Kd.R_after (ok := (fun _ => True)) (by (with_reducible repeat (first | apply Kd.R_alloc | apply Kd.R_drewN | apply Kd.R_drew)); exact Kd.R_mono HO_3.out (fun _ hk => ⟨trivial, hk⟩)) hg hat); have n1_ := Aside0.mk (hb); have n2_ := Aside0.mk (ho); clear HO_3; clear HB; clear HO_4; have HO_3 := n0_; have HB := n1_; have HO185 := n2_; clear n0_ n1_ n2_; clear ho hb hg hat))
                          repeat (go_quiet (first | ((with_reducible refine gate_builtin (b := .append) (xs := #[.tmp 43, .tmp 48]) rfl ?_); (try (refine gate_guard (by rfl) ?_; dsimp only)); at_builtin; refine Kd.R_append (Kd.int .i64) (w0 := w) w.heap.size rfl (.tmp 43) (.tmp 48) 22 3 (.int .i64 0) 8 rfl Try.underlying22 info3 rfl (by decide) (by omega) (.slice (some ad173) x4_2.length co16) x4_2 (rd l0 x5_1) [.int .i64 (rd l0 x5_1)] (fun k_ => some k_ ≠ (u3 : Value).ownBlock) (fun _ => False) rfl rfl ?aP (fun _ hk => hk.elim) ?aF ?aO ?aB ?aS ?aL ?_; (case aP => exact rfl); (case aB => exact (by repeat (first | (with_reducible first | exact HB.out | apply below_alloc | apply pw_below_drewN | apply below_drew1) | exact HB.out))); (case aF => exact (fun k_ hk => Kd.fresh' (Kd.R_lt (by (with_reducible repeat (first | apply Kd.R_alloc | apply Kd.R_drewN | apply Kd.R_drew)); exact HO_3.out)) k_ hk)); (case aO => exact (by (with_reducible repeat (first | apply Kd.R_alloc | apply Kd.R_drewN | apply Kd.R_drew)); exact HO_4.out)); (case aS => exact (below_size (by repeat (first | (with_reducible first | exact HB.out | apply below_alloc | apply pw_below_drewN | apply below_drew1) | exact HB.out)))); (case aL => have := LMc15.out; omega); intro v184 w17 ho hb hg hat; rw [← Ny183.out] at ho; have n0_ := Aside0.mk (Kd.R_after (ok := (fun _ => True)) (by (with_reducible repeat (first | apply Kd.R_alloc | apply Kd.R_drewN | apply Kd.R_drew)); exact Kd.R_mono HO_3.out (fun _ hk => ⟨trivial, hk⟩)) hg hat); have n1_ := Aside0.mk (hb); have n2_ := Aside0.mk (ho); clear HO_3; clear HB; clear HO_4; have HO_3 := n0_; have HB := n1_; have HO185 := n2_; clear n0_ n1_ n2_; clear ho hb hg hat)); try go_wp2_with (first | ((with_reducible refine gate_builtin (b := .append) (xs := #[.tmp 43, .tmp 48]) rfl ?_); (try (refine gate_guard (by rfl) ?_; dsimp only)); at_builtin; refine Kd.R_append (Kd.int .i64) (w0 := w) w.heap.size rfl (.tmp 43) (.tmp 48) 22 3 (.int .i64 0) 8 rfl Try.underlying22 info3 rfl (by decide) (by omega) (.slice (some ad173) x4_2.length co16) x4_2 (rd l0 x5_1) [.int .i64 (rd l0 x5_1)] (fun k_ => some k_ ≠ (u3 : Value).ownBlock) (fun _ => False) rfl rfl ?aP (fun _ hk => hk.elim) ?aF ?aO ?aB ?aS ?aL ?_; (case aP => exact rfl); (case aB => exact (by repeat (first | (with_reducible first | exact HB.out | apply below_alloc | apply pw_below_drewN | apply below_drew1) | exact HB.out))); (case aF => exact (fun k_ hk => Kd.fresh' (Kd.R_lt (by (with_reducible repeat (first | apply Kd.R_alloc | apply Kd.R_drewN | apply Kd.R_drew)); exact HO_3.out)) k_ hk)); (case aO => exact (by (with_reducible repeat (first | apply Kd.R_alloc | apply Kd.R_drewN | apply Kd.R_drew)); exact HO_4.out)); (case aS => exact (below_size (by repeat (first | (with_reducible first | exact HB.out | apply below_alloc | apply pw_below_drewN | apply below_drew1) | exact HB.out)))); (case aL => have := LMc15.out; omega); intro v184 w17 ho hb hg hat; rw [← Ny183.out] at ho; have n0_ := Aside0.mk (Kd.R_after (ok := (fun _ => True)) (by (with_reducible repeat (first | apply Kd.R_alloc | apply Kd.R_drewN | apply Kd.R_drew)); exact Kd.R_mono HO_3.out (fun _ hk => ⟨trivial, hk⟩)) hg hat); have n1_ := Aside0.mk (hb); have n2_ := Aside0.mk (ho); clear HO_3; clear HB; clear HO_4; have HO_3 := n0_; have HB := n1_; have HO185 := n2_; clear n0_ n1_ n2_; clear ho hb hg hat)))
                          go_roundg k2
                          case measure => have := HK1.out; have := HK2.out; omega
                          case rel => exact ⟨(x3_2), (y183), (wrap64 (x5_1 + 1)), (by first | rfl | (simp; done) | (simp [*]; done)), H', ⟨by have := HK1.out; have := HK2.out; omega⟩, ⟨by (with_reducible repeat (first | apply Kd.R_alloc | apply Kd.R_drewN | apply Kd.R_drew)); exact Kd.R_mono HO_3.out (fun _ hk => hk.2)⟩, ⟨by (with_reducible repeat (first | apply Kd.R_alloc | apply Kd.R_drewN | apply Kd.R_drew)); exact HO185.out⟩, ⟨by repeat (first | (with_reducible first | exact HB.out | apply below_alloc | apply pw_below_drewN | apply below_drew1) | exact HB.out)⟩⟩
                        · rw [if_neg c15] at H
                          exact absurd H (by simp)
                    · rw [if_neg c8] at H
                      exact absurd H (by simp)
                  · rw [if_neg c7] at H
                    exact absurd H (by simp)
                · rw [if_neg c6] at H
                  exact absurd H (by simp)
              · rw [if_neg c5] at H
                exact absurd H (by simp)
            · rw [if_neg c3] at H
              have c3b0 : decide (0 < (x4_2.length : Int)) = false := decide_eq_false c3
              have c3b1 : decide (0 < x4_2.length) = false := decide_eq_false (by omega)
              clear c3
              by_cases c18 : 0 ≤ x5_1
              · rw [if_pos c18] at H
                have c18b0 : decide (0 ≤ x5_1) = true := decide_eq_true c18
                clear c18
                by_cases c19 : x5_1 < (l0.length : Int)
                · rw [if_pos c19] at H
                  have c19b0 : decide (x5_1 < (l0.length : Int)) = true := decide_eq_true c19
                  clear c19
                  by_cases c20 : x4_2.length < 17592186044416
                  · rw [if_pos c20] at H
                    have LMc20 := Aside0.mk c20
                    clear c20
                    obtain ⟨y187, hy187⟩ : ∃ y_ : List Int, y_ = (x4_2 ++ [rd l0 x5_1]) := ⟨_, rfl⟩
                    replace H : (tickingref02_Pass.l0 k2 l0 x3_2 y187 (wrap64 (x5_1 + 1))) = some r := by first | (rw [hy187]; with_reducible exact H) | (have H2_ := (Option.bind_some _ _).symm.trans H; rw [hy187]; with_reducible exact H2_) | (have H2_ := (Option.bind_some _ _).symm.trans H; with_reducible exact H2_) | with_reducible exact H | (rw [hy187]; exact H) | exact H
                    have Ny187 := Aside0.mk hy187
                    clear hy187
                    have H' := Aside0.mk H
                    clear H
                    obtain ⟨Ao21, co21, eo21⟩ := Kd.R_slice HO_4.out
                    subst eo21
                    have p186 : 0 ≤ (x5_1 : Int) := of_decide_eq_true (by first | (with_reducible assumption) | assumption)
                    have q186 : x5_1 < (l0.length : Int) := of_decide_eq_true (by first | (with_reducible assumption) | assumption)
                    obtain ⟨ad186, e186, hx186_0⟩ := Kd.at_int HR0.out x5_1 p186 q186
                    cases e186
                    replace hx186_0 := (HB.out.cell (World.block_lt_of_cell? w _ hx186_0)).trans hx186_0
                    replace p186 := eq_true p186
                    replace q186 := eq_true q186
                    go_wp2_with (first | ((with_reducible refine gate_builtin (b := .append) (xs := #[.tmp 43, .tmp 48]) rfl ?_); (try (refine gate_guard (by rfl) ?_; dsimp only)); at_builtin; refine Kd.R_append (Kd.int .i64) (w0 := w) w.heap.size rfl (.tmp 43) (.tmp 48) 22 3 (.int .i64 0) 8 rfl Try.underlying22 info3 rfl (by decide) (by omega) (.slice Ao21 x4_2.length co21) x4_2 (rd l0 x5_1) [.int .i64 (rd l0 x5_1)] (fun k_ => some k_ ≠ (u3 : Value).ownBlock) (fun _ => False) rfl rfl ?aP (fun _ hk => hk.elim) ?aF ?aO ?aB ?aS ?aL ?_; (case aP => exact rfl); (case aB => exact (by repeat (first | (with_reducible first | exact HB.out | apply below_alloc | apply pw_below_drewN | apply below_drew1) | exact HB.out))); (case aF => exact (fun k_ hk => Kd.fresh' (Kd.R_lt (by (with_reducible repeat (first | apply Kd.R_alloc | apply Kd.R_drewN | apply Kd.R_drew)); exact HO_3.out)) k_ hk)); (case aO => exact (by (with_reducible repeat (first | apply Kd.R_alloc | apply Kd.R_drewN | apply Kd.R_drew)); exact HO_4.out)); (case aS => exact (below_size (by repeat (first | (with_reducible first | exact HB.out | apply below_alloc | apply pw_below_drewN | apply below_drew1) | exact HB.out)))); (case aL => have := LMc20.out; omega); intro v188 w22 ho hb hg hat; rw [← Ny187.out] at ho; have n0_ := Aside0.mk (Kd.R_after (ok := (fun _ => True)) (by (with_reducible repeat (first | apply Kd.R_alloc | apply Kd.R_drewN | apply Kd.R_drew)); exact Kd.R_mono HO_3.out (fun _ hk => ⟨trivial, hk⟩)) hg hat); have n1_ := Aside0.mk (hb); have n2_ := Aside0.mk (ho); clear HO_3; clear HB; clear HO_4; have HO_3 := n0_; have HB := n1_; have HO189 := n2_; clear n0_ n1_ n2_; clear ho hb hg hat))
                    repeat (go_quiet (first | ((with_reducible refine gate_builtin (b := .append) (xs := #[.tmp 43, .tmp 48]) rfl ?_); (try (refine gate_guard (by rfl) ?_; dsimp only)); at_builtin; refine Kd.R_append (Kd.int .i64) (w0 := w) w.heap.size rfl (.tmp 43) (.tmp 48) 22 3 (.int .i64 0) 8 rfl Try.underlying22 info3 rfl (by decide) (by omega) (.slice Ao21 x4_2.length co21) x4_2 (rd l0 x5_1) [.int .i64 (rd l0 x5_1)] (fun k_ => some k_ ≠ (u3 : Value).ownBlock) (fun _ => False) rfl rfl ?aP (fun _ hk => hk.elim) ?aF ?aO ?aB ?aS ?aL ?_; (case aP => exact rfl); (case aB => exact (by repeat (first | (with_reducible first | exact HB.out | apply below_alloc | apply pw_below_drewN | apply below_drew1) | exact HB.out))); (case aF => exact (fun k_ hk => Kd.fresh' (Kd.R_lt (by (with_reducible repeat (first | apply Kd.R_alloc | apply Kd.R_drewN | apply Kd.R_drew)); exact HO_3.out)) k_ hk)); (case aO => exact (by (with_reducible repeat (first | apply Kd.R_alloc | apply Kd.R_drewN | apply Kd.R_drew)); exact HO_4.out)); (case aS => exact (below_size (by repeat (first | (with_reducible first | exact HB.out | apply below_alloc | apply pw_below_drewN | apply below_drew1) | exact HB.out)))); (case aL => have := LMc20.out; omega); intro v188 w22 ho hb hg hat; rw [← Ny187.out] at ho; have n0_ := Aside0.mk (Kd.R_after (ok := (fun _ => True)) (by (with_reducible repeat (first | apply Kd.R_alloc | apply Kd.R_drewN | apply Kd.R_drew)); exact Kd.R_mono HO_3.out (fun _ hk => ⟨trivial, hk⟩)) hg hat); have n1_ := Aside0.mk (hb); have n2_ := Aside0.mk (ho); clear HO_3; clear HB; clear HO_4; have HO_3 := n0_; have HB := n1_; have HO189 := n2_; clear n0_ n1_ n2_; clear ho hb hg hat)); try go_wp2_with (first | ((with_reducible refine gate_builtin (b := .append) (xs := #[.tmp 43, .tmp 48]) rfl ?_); (try (refine gate_guard (by rfl) ?_; dsimp only)); at_builtin; refine Kd.R_append (Kd.int .i64) (w0 := w) w.heap.size rfl (.tmp 43) (.tmp 48) 22 3 (.int .i64 0) 8 rfl Try.underlying22 info3 rfl (by decide) (by omega) (.slice Ao21 x4_2.length co21) x4_2 (rd l0 x5_1) [.int .i64 (rd l0 x5_1)] (fun k_ => some k_ ≠ (u3 : Value).ownBlock) (fun _ => False) rfl rfl ?aP (fun _ hk => hk.elim) ?aF ?aO ?aB ?aS ?aL ?_; (case aP => exact rfl); (case aB => exact (by repeat (first | (with_reducible first | exact HB.out | apply below_alloc | apply pw_below_drewN | apply below_drew1) | exact HB.out))); (case aF => exact (fun k_ hk => Kd.fresh' (Kd.R_lt (by (with_reducible repeat (first | apply Kd.R_alloc | apply Kd.R_drewN | apply Kd.R_drew)); exact HO_3.out)) k_ hk)); (case aO => exact (by (with_reducible repeat (first | apply Kd.R_alloc | apply Kd.R_drewN | apply Kd.R_drew)); exact HO_4.out)); (case aS => exact (below_size (by repeat (first | (with_reducible first | exact HB.out | apply below_alloc | apply pw_below_drewN | apply below_drew1) | exact HB.out)))); (case aL => have := LMc20.out; omega); intro v188 w22 ho hb hg hat; rw [← Ny187.out] at ho; have n0_ := Aside0.mk (Kd.R_after (ok := (fun _ => True)) (by (with_reducible repeat (first | apply Kd.R_alloc | apply Kd.R_drewN | apply Kd.R_drew)); exact Kd.R_mono HO_3.out (fun _ hk => ⟨trivial, hk⟩)) hg hat); have n1_ := Aside0.mk (hb); have n2_ := Aside0.mk (ho); clear HO_3; clear HB; clear HO_4; have HO_3 := n0_; have HB := n1_; have HO189 := n2_; clear n0_ n1_ n2_; clear ho hb hg hat)))
                    go_roundg k2
                    case measure => have := HK1.out; have := HK2.out; omega
                    case rel => exact ⟨(x3_2), (y187), (wrap64 (x5_1 + 1)), (by first | rfl | (simp; done) | (simp [*]; done)), H', ⟨by have := HK1.out; have := HK2.out; omega⟩, ⟨by (with_reducible repeat (first | apply Kd.R_alloc | apply Kd.R_drewN | apply Kd.R_drew)); exact Kd.R_mono HO_3.out (fun _ hk => hk.2)⟩, ⟨by (with_reducible repeat (first | apply Kd.R_alloc | apply Kd.R_drewN | apply Kd.R_drew)); exact HO189.out⟩, ⟨by repeat (first | (with_reducible first | exact HB.out | apply below_alloc | apply pw_below_drewN | apply below_drew1) | exact HB.out)⟩⟩
                  · rw [if_neg c20] at H
                    exact absurd H (by simp)
                · rw [if_neg c19] at H
                  exact absurd H (by simp)
              · rw [if_neg c18] at H
                exact absurd H (by simp)
      · rw [if_neg c2] at H
        have c2b0 : decide (x5_1 < (l0.length : Int)) = false := decide_eq_false c2
        clear c2
        have H' := Aside0.mk H
        clear H
        obtain ⟨Ao23, co23, eo23⟩ := Kd.R_slice HO_4.out
        subst eo23
        go_wp2
        repeat (go_quiet (fail); try go_wp2)
        go_loopg [3, 6] k1 (fun kq v3 v6 w' => ∃ (x3_2 : List Int) (x6_2 : Int), v6 = .int .i64 x6_2 ∧ Aside0 (tickingref02_Pass.l2 kq x3_2 x4_1 x6_2 = some r) ∧ Aside0 (kq ≤ k1) ∧ Aside0 (Kd.R (Kd.int .i64) 3 w' w.heap.size (fun k_ => some k_ ≠ ((.slice Ao23 x4_1.length co23) : Value).ownBlock) v3 x3_2) ∧ Aside0 (Kd.R (Kd.int .i64) 3 w' w.heap.size (fun k_ => some k_ ≠ (v3 : Value).ownBlock) (.slice Ao23 x4_1.length co23) x4_1) ∧ Aside0 (Below w.heap.size w w'))
        case atStart => exact ⟨(x3_1), (wrap64 ((x4_1.length : Int) - 1)), (by first | rfl | (simp; done) | (simp [*]; done)), H', ⟨Nat.le_refl _⟩, ⟨by (with_reducible repeat (first | apply Kd.R_alloc | apply Kd.R_drewN | apply Kd.R_drew)); exact HO_3.out⟩, ⟨by (with_reducible repeat (first | apply Kd.R_alloc | apply Kd.R_drewN | apply Kd.R_drew)); exact HO_4.out⟩, ⟨by repeat (first | (with_reducible first | exact HB.out | apply below_alloc | apply pw_below_drewN | apply below_drew1) | exact HB.out)⟩⟩
        case round =>
          clear H'
          try clear c1
          try clear p1
          try clear q1
          try clear hx1
          try clear c2
          try clear c2b0
          try clear p2
          try clear c3
          try clear c3b0
          try clear c3b1
          try clear c5
          try clear c5b0
          try clear c6
          try clear c6b0
          try clear p6
          try clear c7
          try clear c7b0
          try clear c8
          try clear c8b0
          try clear c9
          try clear c9b0
          try clear c10
          try clear c11
          try clear c11b0
          try clear c11b1
          try clear q14
          try clear c15
          try clear p17
          try clear q17
          try clear hx17
          try clear c18
          try clear c18b0
          try clear p18
          try clear q18
          try clear hx18
          try clear c19
          try clear c19b0
          try clear c20
          try clear hx173_0
          try clear hx174_0
          try clear hx175_0
          try clear hx182_0
          try clear hx186_0
          try clear p173
          try clear p174
          try clear p175
          try clear p182
          try clear p186
          try clear p2
          try clear q14
          try clear q173
          try clear q174
          try clear q175
          try clear q182
          try clear q186
          obtain ⟨x3_2, x6_2, rfl, HA, HK2, HO_3, HO_4, HB⟩ := hrel
          cases gk with
          | zero => exact absurd HA.out (by simp [tickingref02_Pass.l2])
          | succ k2 =>
            have H := HA.out
            clear HA
            simp only [tickingref02_Pass.l2] at H
            by_cases c24 : x6_2 ≥ 0
            · rw [if_pos c24] at H
              have c24b0 : decide (0 ≤ x6_2) = true := decide_eq_true c24
              clear c24
              by_cases c25 : 0 ≤ x6_2
              · rw [if_pos c25] at H
                have c25b0 : decide (0 ≤ x6_2) = true := decide_eq_true c25
                clear c25
                by_cases c26 : x6_2 < (x4_1.length : Int)
                · rw [if_pos c26] at H
                  have c26b0 : decide (x6_2 < (x4_1.length : Int)) = true := decide_eq_true c26
                  clear c26
                  by_cases c27 : x3_2.length < 17592186044416
                  · rw [if_pos c27] at H
                    have LMc27 := Aside0.mk c27
                    clear c27
                    obtain ⟨y191, hy191⟩ : ∃ y_ : List Int, y_ = (x3_2 ++ [rd x4_1 x6_2]) := ⟨_, rfl⟩
                    replace H : (tickingref02_Pass.l2 k2 y191 x4_1 (wrap64 (x6_2 - 1))) = some r := by first | (rw [hy191]; with_reducible exact H) | (have H2_ := (Option.bind_some _ _).symm.trans H; rw [hy191]; with_reducible exact H2_) | (have H2_ := (Option.bind_some _ _).symm.trans H; with_reducible exact H2_) | with_reducible exact H | (rw [hy191]; exact H) | exact H
                    have Ny191 := Aside0.mk hy191
                    clear hy191
                    have H' := Aside0.mk H
                    clear H
                    have p190 : 0 ≤ (x6_2 : Int) := of_decide_eq_true (by first | (with_reducible assumption) | assumption)
                    have q190 : x6_2 < (x4_1.length : Int) := of_decide_eq_true (by first | (with_reducible assumption) | assumption)
                    obtain ⟨ad190, e190, hx190_0⟩ := Kd.at_int (Kd.R_reads' HO_4.out).2.2 x6_2 p190 q190
                    cases e190
                    replace p190 := eq_true p190
                    replace q190 := eq_true q190
                    go_wp2_with (first | ((with_reducible refine gate_builtin (b := .append) (xs := #[.tmp 57, .tmp 62]) rfl ?_); (try (refine gate_guard (by rfl) ?_; dsimp only)); at_builtin; refine Kd.R_append (Kd.int .i64) (w0 := w) w.heap.size rfl (.tmp 57) (.tmp 62) 22 3 (.int .i64 0) 8 rfl Try.underlying22 info3 rfl (by decide) (by omega) u3 x3_2 (rd x4_1 x6_2) [.int .i64 (rd x4_1 x6_2)] (fun k_ => some k_ ≠ (.slice (some ad190) x4_1.length co23 : Value).ownBlock) (fun _ => False) rfl rfl ?aP (fun _ hk => hk.elim) ?aF ?aO ?aB ?aS ?aL ?_; (case aP => exact rfl); (case aB => exact (by repeat (first | (with_reducible first | exact HB.out | apply below_alloc | apply pw_below_drewN | apply below_drew1) | exact HB.out))); (case aF => exact (fun k_ hk => Kd.fresh' (Kd.R_lt (by (with_reducible repeat (first | apply Kd.R_alloc | apply Kd.R_drewN | apply Kd.R_drew)); exact HO_4.out)) k_ hk)); (case aO => exact (by (with_reducible repeat (first | apply Kd.R_alloc | apply Kd.R_drewN | apply Kd.R_drew)); exact HO_3.out)); (case aS => exact (below_size (by repeat (first | (with_reducible first | exact HB.out | apply below_alloc | apply pw_below_drewN | apply below_drew1) | exact HB.out)))); (case aL => have := LMc27.out; omega); intro v192 w28 ho hb hg hat; rw [← Ny191.out] at ho; have n0_ := Aside0.mk (Kd.R_after (ok := (fun _ => True)) (by (with_reducible repeat (first | apply Kd.R_alloc | apply Kd.R_drewN | apply Kd.R_drew)); exact Kd.R_mono HO_4.out (fun _ hk => ⟨trivial, hk⟩)) hg hat); have n1_ := Aside0.mk (hb); have n2_ := Aside0.mk (ho); clear HO_4; clear HB; clear HO_3; have HO_4 := n0_; have HB := n1_; have HO193 := n2_; clear n0_ n1_ n2_; clear ho hb hg hat))
                    repeat (go_quiet (first | ((with_reducible refine gate_builtin (b := .append) (xs := #[.tmp 57, .tmp 62]) rfl ?_); (try (refine gate_guard (by rfl) ?_; dsimp only)); at_builtin; refine Kd.R_append (Kd.int .i64) (w0 := w) w.heap.size rfl (.tmp 57) (.tmp 62) 22 3 (.int .i64 0) 8 rfl Try.underlying22 info3 rfl (by decide) (by omega) u3 x3_2 (rd x4_1 x6_2) [.int .i64 (rd x4_1 x6_2)] (fun k_ => some k_ ≠ (.slice (some ad190) x4_1.length co23 : Value).ownBlock) (fun _ => False) rfl rfl ?aP (fun _ hk => hk.elim) ?aF ?aO ?aB ?aS ?aL ?_; (case aP => exact rfl); (case aB => exact (by repeat (first | (with_reducible first | exact HB.out | apply below_alloc | apply pw_below_drewN | apply below_drew1) | exact HB.out))); (case aF => exact (fun k_ hk => Kd.fresh' (Kd.R_lt (by (with_reducible repeat (first | apply Kd.R_alloc | apply Kd.R_drewN | apply Kd.R_drew)); exact HO_4.out)) k_ hk)); (case aO => exact (by (with_reducible repeat (first | apply Kd.R_alloc | apply Kd.R_drewN | apply Kd.R_drew)); exact HO_3.out)); (case aS => exact (below_size (by repeat (first | (with_reducible first | exact HB.out | apply below_alloc | apply pw_below_drewN | apply below_drew1) | exact HB.out)))); (case aL => have := LMc27.out; omega); intro v192 w28 ho hb hg hat; rw [← Ny191.out] at ho; have n0_ := Aside0.mk (Kd.R_after (ok := (fun _ => True)) (by (with_reducible repeat (first | apply Kd.R_alloc | apply Kd.R_drewN | apply Kd.R_drew)); exact Kd.R_mono HO_4.out (fun _ hk => ⟨trivial, hk⟩)) hg hat); have n1_ := Aside0.mk (hb); have n2_ := Aside0.mk (ho); clear HO_4; clear HB; clear HO_3; have HO_4 := n0_; have HB := n1_; have HO193 := n2_; clear n0_ n1_ n2_; clear ho hb hg hat)); try go_wp2_with (first | ((with_reducible refine gate_builtin (b := .append) (xs := #[.tmp 57, .tmp 62]) rfl ?_); (try (refine gate_guard (by rfl) ?_; dsimp only)); at_builtin; refine Kd.R_append (Kd.int .i64) (w0 := w) w.heap.size rfl (.tmp 57) (.tmp 62) 22 3 (.int .i64 0) 8 rfl Try.underlying22 info3 rfl (by decide) (by omega) u3 x3_2 (rd x4_1 x6_2) [.int .i64 (rd x4_1 x6_2)] (fun k_ => some k_ ≠ (.slice (some ad190) x4_1.length co23 : Value).ownBlock) (fun _ => False) rfl rfl ?aP (fun _ hk => hk.elim) ?aF ?aO ?aB ?aS ?aL ?_; (case aP => exact rfl); (case aB => exact (by repeat (first | (with_reducible first | exact HB.out | apply below_alloc | apply pw_below_drewN | apply below_drew1) | exact HB.out))); (case aF => exact (fun k_ hk => Kd.fresh' (Kd.R_lt (by (with_reducible repeat (first | apply Kd.R_alloc | apply Kd.R_drewN | apply Kd.R_drew)); exact HO_4.out)) k_ hk)); (case aO => exact (by (with_reducible repeat (first | apply Kd.R_alloc | apply Kd.R_drewN | apply Kd.R_drew)); exact HO_3.out)); (case aS => exact (below_size (by repeat (first | (with_reducible first | exact HB.out | apply below_alloc | apply pw_below_drewN | apply below_drew1) | exact HB.out)))); (case aL => have := LMc27.out; omega); intro v192 w28 ho hb hg hat; rw [← Ny191.out] at ho; have n0_ := Aside0.mk (Kd.R_after (ok := (fun _ => True)) (by (with_reducible repeat (first | apply Kd.R_alloc | apply Kd.R_drewN | apply Kd.R_drew)); exact Kd.R_mono HO_4.out (fun _ hk => ⟨trivial, hk⟩)) hg hat); have n1_ := Aside0.mk (hb); have n2_ := Aside0.mk (ho); clear HO_4; clear HB; clear HO_3; have HO_4 := n0_; have HB := n1_; have HO193 := n2_; clear n0_ n1_ n2_; clear ho hb hg hat)))
                    go_roundg k2
                    case measure => have := HK1.out; have := HK2.out; omega
                    case rel => exact ⟨(y191), (wrap64 (x6_2 - 1)), (by first | rfl | (simp; done) | (simp [*]; done)), H', ⟨by have := HK1.out; have := HK2.out; omega⟩, ⟨by (with_reducible repeat (first | apply Kd.R_alloc | apply Kd.R_drewN | apply Kd.R_drew)); exact HO193.out⟩, ⟨by (with_reducible repeat (first | apply Kd.R_alloc | apply Kd.R_drewN | apply Kd.R_drew)); exact Kd.R_mono HO_4.out (fun _ hk => hk.2)⟩, ⟨by repeat (first | (with_reducible first | exact HB.out | apply below_alloc | apply pw_below_drewN | apply below_drew1) | exact HB.out)⟩⟩
                  · rw [if_neg c27] at H
                    exact absurd H (by simp)
                · rw [if_neg c26] at H
                  exact absurd H (by simp)
              · rw [if_neg c25] at H
                exact absurd H (by simp)
            · rw [if_neg c24] at H
              have c24b0 : decide (0 ≤ x6_2) = false := decide_eq_false c24
              clear c24
              obtain rfl := Option.some.inj H
              go_wp2
              repeat (go_quiet (fail); try go_wp2)
              go_ret
              exact ⟨_, by first | rfl | (simp [errW_none, errW_some] <;> rfl) | (simp [*, errW_none, errW_some] <;> rfl), by (with_reducible repeat (first | apply Kd.R_alloc | apply Kd.R_drewN | apply Kd.R_drew)); exact Kd.R_mono HO_3.out (fun _ hk => trivial), by repeat (first | (with_reducible first | exact HB.out | apply below_alloc | apply pw_below_drewN | apply below_drew1) | exact HB.out)⟩

end Go.Proofs.Ytjbjongahnocdaa.S

namespace Go.Proofs.Ytjbjongahnocdaa.S
open Go.Proofs.Ytjbjongahnocdaa.Lib
open Go.Proofs.Ytjbjongahnocdaa.Defs
open Go.Maps (Keyed)
open Go.RowKit Go.Proofs.YtjbjongahnocdaaW.PrintWords Go.Proofs.YtjbjongahnocdaaW.PrintLast Go.Proofs.YtjbjongahnocdaaW.PrintMore
attribute [local go_sem] max2_int min2_int max_two min_two max_three min_three max_four min_four   -- for this text's walks alone
set_option linter.unusedVariables false
set_option linter.unusedSimpArgs false

/-! ### tickingref02_OneStack: function 25 -/
def tickingref02_OneStack.f (k : Nat) (l0 : List Int) : Option (Bool) := (tickingref02_Pass.f k l0).bind fun t196 => ((tickingref02_ascending.f k t196).bind fun t199 => (some t199))
theorem tickingref02_OneStack.mono : ∀ a0 k, LeO (tickingref02_OneStack.f k a0) (tickingref02_OneStack.f (k + 1) a0) := by
  intro a0 k
  unfold tickingref02_OneStack.f
  repeat' first
      | (with_reducible exact tickingref02_Pass.mono _ _)
      | (with_reducible exact tickingref02_ascending.mono _ _)
      | (with_reducible exact LeO.refl _)
      | (with_reducible exact LeO.none _)
      | (with_reducible refine LeO.ite ?_ ?_)
      | (with_reducible refine LeO.bind ?_ (fun _ => ?_))
      | exact tickingref02_Pass.mono _ _
      | exact tickingref02_ascending.mono _ _
      | exact LeO.none _
      | refine LeO.ite ?_ ?_
      | refine LeO.bind ?_ (fun _ => ?_)
set_option maxHeartbeats 8000000 in
set_option maxRecDepth 100000 in
theorem tickingref02_OneStack.calls (k : Nat) (A0 : Option Addr) (c0 : Nat) (l0 : List Int) (r : Bool) (w : World) (hr0 : Kd.C (Kd.int .i64) w A0 l0.length l0) (hc0 : l0.length ≤ c0) (h : tickingref02_OneStack.f k l0 = some r) :
    Calls Try.prog 25 #[.slice A0 l0.length c0] w fun e w' => e = .returned (.bool r) ∧ Below w.heap.size w w' := by
  have HR0 := Aside0.mk hr0
  have HC0 := Aside0.mk hc0
  clear hr0 hc0
  have HB := Aside0.mk (Below.refl w.heap.size w)
  have H : ((tickingref02_Pass.f k l0).bind fun t196 => ((tickingref02_ascending.f k t196).bind fun t199 => (some t199))) = some r := h
  clear h
  replace H := Option.bind_eq_some_iff.mp H
  obtain ⟨t196, A20, H⟩ := H
  replace H : ((tickingref02_ascending.f k t196).bind fun t199 => (some t199)) = some r := H
  have A2 := Aside0.mk A20
  clear A20
  replace H := Option.bind_eq_some_iff.mp H
  obtain ⟨t199, A30, H⟩ := H
  replace H : (some t199) = some r := H
  have A3 := Aside0.mk A30
  clear A30
  obtain rfl := Option.some.inj H
  go_enter Try.func25, Try.ntmps25
  go_wp2_with (first | ((with_reducible refine gate_callee (f := 24) rfl ?_); refine goesL_ (some 4) rfl rfl Try.func24 (by kernel_rfl) rfl #[.slice A0 l0.length c0] rfl (by (try simp only [List.map_toArray, List.map_cons, List.map_nil]); first | done | rfl | (simp only [List.length_drop, List.length_take]; rfl)) ?_; (with_reducible refine (tickingref02_Pass.calls k _ _ l0 t196 _ ?side1 ?side2 A2.out).mono ?_); (case side1 => repeat (first | exact HR0.out | (with_reducible refine Kd.C_alloc ?_ _) | (with_reducible refine Kd.C_drewN ?_ _) | (with_reducible refine Kd.C_drew ?_))); (case side2 => exact HC0.out); rintro e w4 ⟨v197, rfl, ho0, hb⟩; refine ⟨_, rfl, ?_⟩; have n0_ := Aside0.mk (Kd.R_lower ho0 (below_size (by repeat (first | (with_reducible first | exact HB.out | apply below_alloc | apply pw_below_drewN | apply below_drew1) | exact HB.out)))); have n1_ := Aside0.mk (below_step (by repeat (first | (with_reducible first | exact HB.out | apply below_alloc | apply pw_below_drewN | apply below_drew1) | exact HB.out)) hb); clear HB; have HO198 := n0_; have HB := n1_; clear n0_ n1_; (try clear hb); (try clear hb2); (try clear hk); (try clear hi); (try clear ho0); obtain ⟨Ao5, co5, eo5⟩ := Kd.R_slice HO198.out; subst eo5) | ((with_reducible refine gate_callee (f := 60) rfl ?_); refine goesL_ (some 5) rfl rfl Try.func60 (by kernel_rfl) rfl #[.slice Ao5 t196.length co5] rfl (by (try simp only [List.map_toArray, List.map_cons, List.map_nil]); first | done | rfl | (simp only [List.length_drop, List.length_take]; rfl)) ?_; (with_reducible refine (tickingref02_ascending.calls k _ _ t196 t199 _ ?side1 ?side2 A3.out).mono ?_); (case side1 => repeat (first | exact (Kd.R_reads' HO198.out).2.2 | (with_reducible refine Kd.C_alloc ?_ _) | (with_reducible refine Kd.C_drewN ?_ _) | (with_reducible refine Kd.C_drew ?_))); (case side2 => exact (Kd.R_reads' HO198.out).2.1); rintro e w' ⟨rfl, ⟨nd, rfl⟩⟩; refine ⟨_, rfl, ?_⟩))
  go_ret
  exact ⟨by first | rfl | (simp [errW_none, errW_some] <;> rfl) | (simp [*, errW_none, errW_some] <;> rfl), by repeat (first | (with_reducible first | exact HB.out | apply below_alloc | apply pw_below_drewN | apply below_drew1) | exact HB.out)⟩

end Go.Proofs.Ytjbjongahnocdaa.S

/- What the references of layer 2 compute: the first ones. -/
namespace Go.Proofs.Ytjbjongahnocdaa.P
open Go.RowKit Go.Proofs.Ytjbjongahnocdaa.S Go.Proofs.Ytjbjongahnocdaa.Defs Go.Proofs.YtjbjongahnocdaaW.PrintWords

theorem has_loop (l : List Int) (x : Int) (hl : l.length ≤ 1000000) : ∀ (d i : Nat), i + d = l.length → Ev (fun k => tickingref02_has.l0 k l x (i : Int)) (decide (x ∈ l.drop i))
  | 0, i, h => by
    refine Ev.step (fun k => ?_) (Ev.now _)
    rw [List.drop_eq_nil_of_le (by omega)]
    simp only [tickingref02_has.l0]
    rw [if_neg (by omega)]
    simp
  | d + 1, i, h => by
    rw [drop_cons l i (by omega)]
    by_cases he : rd l (i : Int) = x
    · refine Ev.step (fun k => ?_) (Ev.now _)
      simp only [tickingref02_has.l0]
      rw [if_pos (by omega), if_pos (by omega), if_pos he]
      simp [he]
    · refine Ev.step (f := fun k => tickingref02_has.l0 k l x ((i + 1 : Nat) : Int)) (fun k => ?_) ?_
      · simp only [tickingref02_has.l0]
        rw [if_pos (by omega), if_pos (by omega), if_neg he, w64 (by omega) (by omega)]
        rfl
      · have := has_loop l x hl d (i + 1) (by omega)
        have e : decide (x ∈ rd l (i : Int) :: l.drop (i + 1)) = decide (x ∈ l.drop (i + 1)) := by
          rw [decide_eq_decide, List.mem_cons]
          exact ⟨fun h => h.elim (fun e => absurd e.symm he) id, .inr⟩
        rw [e]
        exact this
theorem has_ev (l : List Int) (x : Int) (hl : l.length ≤ 1000000) : Ev (fun k => tickingref02_has.f k l x) (decide (x ∈ l)) := by
  have := has_loop l x hl l.length 0 (by omega)
  exact this

/-- An order: different numbers from 1 to its length. -/
def IsOrd (l : List Int) : Prop := l.Nodup ∧ ∀ x ∈ l, 1 ≤ x ∧ x ≤ l.length
instance (l : List Int) : Decidable (IsOrd l) := by unfold IsOrd; infer_instance

theorem isOrderGo_iff (n : Nat) : ∀ (l seen : List Int), isOrderGo n l seen = true ↔ (l.Nodup ∧ (∀ x ∈ l, 1 ≤ x ∧ x ≤ n) ∧ ∀ x ∈ l, x ∉ seen)
  | [], seen => by simp [isOrderGo]
  | x :: xs, seen => by
    unfold isOrderGo
    by_cases h : 1 ≤ x ∧ x ≤ n ∧ x ∉ seen
    · rw [if_pos h, isOrderGo_iff n xs (x :: seen)]
      simp only [List.nodup_cons, List.mem_cons]
      constructor
      · rintro ⟨h1, h2, h3⟩
        refine ⟨⟨fun hm => (h3 x hm) (.inl rfl), h1⟩, fun y hy => ?_, fun y hy hs => ?_⟩
        · rcases hy with rfl | hy
          · exact ⟨h.1, h.2.1⟩
          · exact h2 y hy
        · rcases hy with rfl | hy
          · exact h.2.2 hs
          · exact h3 y hy (.inr hs)
      · rintro ⟨⟨h1, h2⟩, h4, h6⟩
        exact ⟨h2, fun y hy => h4 y (.inr hy), fun y hy hs => hs.elim (fun e => h1 (e ▸ hy)) (h6 y (.inr hy))⟩
    · rw [if_neg h]
      constructor
      · intro h; cases h
      · rintro ⟨_, h3, h5⟩
        exact absurd ⟨(h3 x (by simp)).1, (h3 x (by simp)).2, h5 x (by simp)⟩ h
theorem isOrderB_iff (l : List Int) : isOrderB l = true ↔ l.length ≤ 60 ∧ IsOrd l := by
  unfold isOrderB IsOrd
  rw [Bool.and_eq_true, decide_eq_true_eq, isOrderGo_iff]
  simp

theorem Order_loop (l : List Int) (m : Int) (hl : l.length ≤ 1000000) : ∀ (d i : Nat), i + d = l.length → (l.take i).Nodup → (∀ x ∈ l.take i, 1 ≤ x ∧ x ≤ l.length) → Ev (fun k => tickingref02_Order.l0 k l m (i : Int)) (decide (IsOrd l ∧ (l.length : Int) ≤ m))
  | 0, i, h, h1, h2 => by
    refine Ev.step (fun k => ?_) (Ev.now _)
    simp only [tickingref02_Order.l0]
    rw [if_neg (by omega)]
    rw [List.take_of_length_le (by omega)] at h1 h2
    congr 1
    rw [decide_eq_decide]
    exact ⟨fun h => ⟨⟨h1, h2⟩, h⟩, fun h => h.2⟩
  | d + 1, i, h, h1, h2 => by
    have hi : i < l.length := by omega
    have hm : rd l (i : Int) ∈ l := rd_mem (by omega) (by omega)
    have no : ¬ (1 ≤ rd l (i : Int) ∧ rd l (i : Int) ≤ l.length ∧ rd l (i : Int) ∉ l.take i) → ¬ (IsOrd l ∧ (l.length : Int) ≤ m) := by
      rintro hn ⟨⟨ho1, ho2⟩, _⟩
      refine hn ⟨(ho2 _ hm).1, (ho2 _ hm).2, fun hin => ?_⟩
      rw [← List.take_append_drop i l, drop_cons l i hi] at ho1
      have := (List.nodup_append.1 ho1).2.2 _ hin (rd l (i : Int)) (by simp)
      exact this rfl
    by_cases c1 : rd l (i : Int) < 1
    · refine Ev.step (fun k => ?_) (Ev.now _)
      simp only [tickingref02_Order.l0]
      rw [if_pos (by omega), if_pos (by omega), if_pos c1, decide_eq_false (no (by omega))]
    · by_cases c2 : rd l (i : Int) > (l.length : Int)
      · refine Ev.step (fun k => ?_) (Ev.now _)
        simp only [tickingref02_Order.l0]
        rw [if_pos (by omega), if_pos (by omega), if_neg c1, if_pos c2, decide_eq_false (no (by omega))]
      · have hh := has_ev (l.take i) (rd l (i : Int)) (by rw [List.length_take]; omega)
        refine Ev.step (f := fun k => (tickingref02_has.f k (l.take ((i : Int)).toNat) (rd l (i : Int))).bind fun t => (if t = true then some false else tickingref02_Order.l0 k l m (wrap64 ((i : Int) + 1)))) (fun k => ?_) ?_
        · simp only [tickingref02_Order.l0]
          rw [if_pos (by omega), if_pos (by omega), if_neg c1, if_neg c2, if_pos (by omega)]
        · rw [show ((i : Int)).toNat = i by omega]
          refine Ev.bind hh ?_
          by_cases c3 : rd l (i : Int) ∈ l.take i
          · rw [decide_eq_true c3, decide_eq_false (no (fun h => h.2.2 c3))]
            exact Ev.congr (fun k => by rw [if_pos rfl]) (Ev.now _)
          · rw [decide_eq_false c3]
            refine Ev.congr (f := fun k => tickingref02_Order.l0 k l m ((i + 1 : Nat) : Int)) (fun k => by rw [if_neg (by decide), w64 (by omega) (by omega)]; rfl) ?_
            have e : l.take (i + 1) = l.take i ++ [rd l (i : Int)] := by rw [rd_lt l i hi, List.take_succ_eq_append_getElem hi]
            refine Order_loop l m hl d (i + 1) (by omega) ?_ ?_
            · rw [e, List.nodup_append]
              refine ⟨h1, by simp, fun a ha b hb => ?_⟩
              rw [List.mem_singleton] at hb
              subst hb
              exact fun e => c3 (e ▸ ha)
            · rw [e]
              intro x hx
              rcases List.mem_append.1 hx with hx | hx
              · exact h2 x hx
              · rw [List.mem_singleton] at hx
                subst hx
                omega
theorem Order_ev (l : List Int) (m : Int) (hl : l.length ≤ 1000000) : Ev (fun k => tickingref02_Order.f k l m) (decide (IsOrd l ∧ (l.length : Int) ≤ m)) := by
  have := Order_loop l m hl l.length 0 (by omega) (by simp) (by simp)
  exact this

theorem ints_loop (a b : List Int) (hl : a.length ≤ 1000000) (hab : a.length = b.length) : ∀ (d i : Nat), i + d = a.length → Ev (fun k => tickinglaw02_ints.l0 k a b (i : Int)) (decide (a.drop i = b.drop i))
  | 0, i, h => by
    refine Ev.step (fun k => ?_) (Ev.now _)
    rw [List.drop_eq_nil_of_le (by omega), List.drop_eq_nil_of_le (by omega)]
    simp only [tickinglaw02_ints.l0]
    rw [if_neg (by omega)]
    simp
  | d + 1, i, h => by
    rw [drop_cons a i (by omega), drop_cons b i (by omega)]
    by_cases he : rd a (i : Int) = rd b (i : Int)
    · refine Ev.step (f := fun k => tickinglaw02_ints.l0 k a b ((i + 1 : Nat) : Int)) (fun k => ?_) ?_
      · simp only [tickinglaw02_ints.l0]
        rw [if_pos (by omega), if_pos (by omega), if_pos (by omega), if_pos he, w64 (by omega) (by omega)]
        rfl
      · have := ints_loop a b hl hab d (i + 1) (by omega)
        rw [he, show decide (rd b (i : Int) :: a.drop (i + 1) = rd b (i : Int) :: b.drop (i + 1)) = decide (a.drop (i + 1) = b.drop (i + 1)) by simp]
        exact this
    · refine Ev.step (fun k => ?_) (Ev.now _)
      simp only [tickinglaw02_ints.l0]
      rw [if_pos (by omega), if_pos (by omega), if_pos (by omega), if_neg he]
      simp [he]
theorem ints_ev (a b : List Int) (hl : a.length ≤ 1000000) : Ev (fun k => tickinglaw02_ints.f k a b) (decide (a = b)) := by
  by_cases hab : a.length = b.length
  · have := ints_loop a b hl hab a.length 0 (by omega)
    refine Ev.congr (fun k => ?_) this
    unfold tickinglaw02_ints.f
    rw [if_pos (by omega)]
    rfl
  · refine Ev.congr (fun k => ?_) (Ev.now _)
    unfold tickinglaw02_ints.f
    rw [if_neg (by omega), decide_eq_false (fun e => hab (by rw [e]))]

/-- Ascending: each item is greater than the one before it. -/
def Asc (l : List Int) : Prop := l.Pairwise (· < ·)
instance (l : List Int) : Decidable (Asc l) := by unfold Asc; infer_instance

theorem asc_snoc (l : List Int) (i : Nat) (hi : i + 1 < l.length) (h : Asc (l.take (i + 1))) : Asc (l.take (i + 2)) ↔ rd l (i : Int) < rd l ((i + 1 : Nat) : Int) := by
  unfold Asc at h ⊢
  rw [List.take_succ_eq_append_getElem hi, List.pairwise_append]
  have e : l.take (i + 1) = l.take i ++ [l[i]] := List.take_succ_eq_append_getElem (by omega)
  rw [rd_lt l i (by omega), rd_lt l (i + 1) hi]
  constructor
  · rintro ⟨_, _, h3⟩
    exact h3 _ (by rw [e]; exact List.mem_append_right _ (by simp)) _ (by simp)
  · intro h2
    refine ⟨h, by simp, fun a ha b hb => ?_⟩
    rw [List.mem_singleton] at hb
    subst hb
    rw [e] at ha h
    rcases List.mem_append.1 ha with ha | ha
    · have := (List.pairwise_append.1 h).2.2 a ha l[i] (by simp)
      omega
    · rw [List.mem_singleton] at ha
      subst ha
      exact h2
theorem asc_loop (l : List Int) (hl : l.length ≤ 1000000) : ∀ (d i : Nat), i + 1 + d = l.length → Asc (l.take (i + 1)) → Ev (fun k => tickingref02_ascending.l0 k l ((i + 1 : Nat) : Int)) (decide (Asc l))
  | 0, i, h, h1 => by
    refine Ev.step (fun k => ?_) (Ev.now _)
    simp only [tickingref02_ascending.l0]
    rw [List.take_of_length_le (by omega)] at h1
    rw [if_neg (by omega), decide_eq_true h1]
  | d + 1, i, h, h1 => by
    have hs := asc_snoc l i (by omega) h1
    have e1 : wrap64 (((i + 1 : Nat) : Int) - 1) = (i : Int) := by rw [w64 (by omega) (by omega)]; omega
    by_cases c : rd l (i : Int) ≥ rd l ((i + 1 : Nat) : Int)
    · refine Ev.step (fun k => ?_) (Ev.now _)
      simp only [tickingref02_ascending.l0]
      rw [e1, if_pos (by omega), if_pos (by omega), if_pos (by omega), if_pos (by omega), if_pos c, decide_eq_false]
      intro ha
      have h2 : Asc (l.take (i + 2)) := List.Pairwise.sublist (List.take_sublist _ _) ha
      have := hs.1 h2
      omega
    · refine Ev.step (f := fun k => tickingref02_ascending.l0 k l ((i + 1 + 1 : Nat) : Int)) (fun k => ?_) (asc_loop l hl d (i + 1) (by omega) (hs.2 (by omega)))
      simp only [tickingref02_ascending.l0]
      rw [e1, if_pos (by omega), if_pos (by omega), if_pos (by omega), if_pos (by omega), if_neg c, w64 (by omega) (by omega)]
      rfl
theorem asc_ev (l : List Int) (hl : l.length ≤ 1000000) : Ev (fun k => tickingref02_ascending.f k l) (decide (Asc l)) := by
  cases hn : l with
  | nil => exact Ev.step (fun k => by simp only [tickingref02_ascending.f, tickingref02_ascending.l0]; rw [if_neg (by simp)]; rfl) (Ev.now _)
  | cons a t =>
    rw [← hn]
    have := asc_loop l hl (l.length - 1) 0 (by rw [hn]; simp; omega) (by rw [hn]; simp [Asc])
    exact this

theorem awake_ev : Ev (fun k => tickinglaw02_awake.f k) true := Ev.of (fun k => tickinglaw02_awake.mono k) (k := 40) (by kernel_rfl)

/-! ### a pass -/
theorem rd_top (s : List Int) (t : Int) : rd (t :: s).reverse (((t :: s).reverse.length : Int) - 1) = t := by
  have e : (((t :: s).reverse.length : Int) - 1) = ((s.length : Nat) : Int) := by simp
  rw [e, rd_nat, List.reverse_cons, List.getD_eq_getElem?_getD, List.getElem?_append_right (by simp)]
  simp
theorem take_top (s : List Int) (t : Int) : (t :: s).reverse.take (((t :: s).reverse.length : Int) - 1).toNat = s.reverse := by
  have e : (((t :: s).reverse.length : Int) - 1).toNat = s.reverse.length := by simp
  rw [e, List.reverse_cons, List.take_left']
  rfl

theorem passIn_len (x : Int) : ∀ s lft : List Int, (passIn x s lft).1.length + (passIn x s lft).2.length = s.length + lft.length
  | [], lft => by simp [passIn]
  | t :: s, lft => by
    unfold passIn
    split
    · rw [passIn_len x s]; simp; omega
    · rfl

theorem Pass_l2 : ∀ (s out : List Int), s.length + out.length ≤ 1000000 → ∀ rest : List Int, Ev (fun k => tickingref02_Pass.l2 k out (s.reverse ++ rest) ((s.length : Int) - 1)) (out ++ s)
  | [], out, h, rest => by
    refine Ev.step (fun k => ?_) (Ev.now _)
    simp only [tickingref02_Pass.l2]
    rw [if_neg (by simp)]
    simp
  | t :: s, out, h, rest => by
    have e : (((t :: s).length : Int) - 1) = ((s.length : Nat) : Int) := by simp
    have e2 : rd ((t :: s).reverse ++ rest) ((s.length : Nat) : Int) = t := by
      rw [rd_nat, List.reverse_cons, List.append_assoc, List.getD_eq_getElem?_getD, List.getElem?_append_right (by simp)]
      simp
    refine Ev.step (f := fun k => tickingref02_Pass.l2 k (out ++ [t]) (s.reverse ++ ([t] ++ rest)) ((s.length : Int) - 1)) (fun k => ?_) ?_
    · simp only [tickingref02_Pass.l2]
      simp only [List.length_cons] at h
      rw [e, if_pos (by omega), if_pos (by omega), if_pos (by simp; omega), if_pos (by omega), e2, w64 (by omega) (by omega), List.reverse_cons, List.append_assoc]
    · have := Pass_l2 s (out ++ [t]) (by simp at h ⊢; omega) ([t] ++ rest)
      rw [List.append_assoc] at this
      exact this

theorem Pass_l1 (l : List Int) (i : Nat) (hi : i < l.length) (hl : l.length ≤ 1000000) (R : List Int) : ∀ (s out : List Int), s.length + out.length ≤ 1000000 →
    Ev (fun k => tickingref02_Pass.l0 k l (passIn (rd l i) s out).2 (rd l i :: (passIn (rd l i) s out).1).reverse ((i + 1 : Nat) : Int)) R → Ev (fun k => tickingref02_Pass.l1 k l out s.reverse (i : Int)) R
  | [], out, h, hR => by
    refine Ev.step (fun k => ?_) hR
    simp only [tickingref02_Pass.l1, passIn]
    rw [if_neg (by simp), if_pos (by omega), if_pos (by omega), if_pos (by simp), w64 (by omega) (by omega)]
    rfl
  | t :: s, out, h, hR => by
    have e1 : wrap64 (((t :: s).reverse.length : Int) - 1) = (((t :: s).reverse.length : Int) - 1) := w64 (by omega) (by simp at h ⊢; omega)
    have hlen : (t :: s).reverse.length = s.length + 1 := by simp
    have hh : s.length + 1 + out.length ≤ 1000000 := by simpa using h
    by_cases c : t < rd l i
    · have e2 : passIn (rd l i) (t :: s) out = passIn (rd l i) s (out ++ [t]) := by rw [passIn, if_pos c]
      rw [e2] at hR
      refine Ev.step (f := fun k => tickingref02_Pass.l1 k l (out ++ [t]) s.reverse (i : Int)) (fun k => ?_) (Pass_l1 l i hi hl R s (out ++ [t]) (by simp; omega) hR)
      simp only [tickingref02_Pass.l1]
      rw [e1, rd_top, take_top, if_pos (by omega), if_pos (by omega), if_pos (by omega), if_pos (by omega), if_pos (by omega), if_pos c, if_pos (by omega), if_pos (by omega)]
    · have e2 : passIn (rd l i) (t :: s) out = (t :: s, out) := by rw [passIn, if_neg c]
      rw [e2] at hR
      refine Ev.step (fun k => ?_) hR
      simp only [tickingref02_Pass.l1]
      rw [e1, rd_top, if_pos (by omega), if_pos (by omega), if_pos (by omega), if_pos (by omega), if_pos (by omega), if_neg c, if_pos (by omega), w64 (by omega) (by omega)]
      rw [List.reverse_cons (a := rd l i)]
      rfl

def passOut (l : List Int) : List Int := (passGo l ([], [])).2 ++ (passGo l ([], [])).1

theorem Pass_l0 (l : List Int) (hl : l.length ≤ 1000000) : ∀ (d i : Nat), i + d = l.length → ∀ (s out : List Int), s.length + out.length = i →
    Ev (fun k => tickingref02_Pass.l0 k l out s.reverse (i : Int)) ((passGo (l.drop i) (s, out)).2 ++ (passGo (l.drop i) (s, out)).1)
  | 0, i, h, s, out, hs => by
    rw [List.drop_eq_nil_of_le (by omega)]
    refine Ev.step (f := fun k => tickingref02_Pass.l2 k out (s.reverse ++ []) ((s.length : Int) - 1)) (fun k => ?_) (Pass_l2 s out (by omega) [])
    simp only [tickingref02_Pass.l0]
    rw [if_neg (by omega), w64 (by simp; omega) (by simp; omega), List.append_nil, List.length_reverse]
  | d + 1, i, h, s, out, hs => by
    rw [drop_cons l i (by omega)]
    refine Ev.step (f := fun k => tickingref02_Pass.l1 k l out s.reverse (i : Int)) (fun k => ?_) ?_
    · simp only [tickingref02_Pass.l0]
      rw [if_pos (by omega)]
    · refine Pass_l1 l i (by omega) hl _ s out (by omega) ?_
      have hpl := passIn_len (rd l i) s out
      exact Pass_l0 l hl d (i + 1) (by omega) (rd l i :: (passIn (rd l i) s out).1) (passIn (rd l i) s out).2 (by simp; omega)
theorem Pass_ev (l : List Int) (hl : l.length ≤ 1000000) : Ev (fun k => tickingref02_Pass.f k l) (passOut l) := by
  have := Pass_l0 l hl l.length 0 (by omega) [] [] rfl
  exact this

theorem passGo_len : ∀ (xs s lft : List Int), (passGo xs (s, lft)).1.length + (passGo xs (s, lft)).2.length = xs.length + s.length + lft.length
  | [], s, lft => by simp [passGo]
  | x :: xs, s, lft => by
    have := passIn_len x s lft
    unfold passGo
    rw [passGo_len xs]
    simp; omega
theorem passOut_len (l : List Int) : (passOut l).length = l.length := by
  have := passGo_len l [] []
  unfold passOut
  simp at this ⊢
  omega
theorem OneStack_ev (l : List Int) (hl : l.length ≤ 1000000) : Ev (fun k => tickingref02_OneStack.f k l) (decide (Asc (passOut l))) := by
  refine Ev.congr (fun k => ?_) (Ev.bind (f := fun k t => (tickingref02_ascending.f k t).bind fun u => some u) (Pass_ev l hl) (Ev.bind (f := fun _ u => some u) (asc_ev (passOut l) (by rw [passOut_len]; exact hl)) (Ev.now _)))
  rfl

end Go.Proofs.Ytjbjongahnocdaa.P

/- One stack: what a pass sorts, what the stack sorts, and the pattern that neither does. -/
namespace Go.Proofs.Ytjbjongahnocdaa.P
open Go.RowKit Go.Proofs.Ytjbjongahnocdaa.S Go.Proofs.Ytjbjongahnocdaa.Defs Go.Proofs.YtjbjongahnocdaaW.PrintWords

/-- Nothing greater than t stands ahead of something smaller. -/
def NoPat (t : Int) (xs : List Int) : Prop := xs.Pairwise (fun x y => ¬ (y < t ∧ t < x))
def No231 : List Int → Prop
  | [] => True
  | a :: r => NoPat a r ∧ No231 r
instance (t : Int) (xs : List Int) : Decidable (NoPat t xs) := by unfold NoPat; infer_instance
instance no231dec : (l : List Int) → Decidable (No231 l)
  | [] => .isTrue trivial
  | a :: r => by
    have := no231dec r
    unfold No231
    infer_instance

theorem asc_cons (a : Int) (l : List Int) : Asc (a :: l) ↔ (∀ b ∈ l, a < b) ∧ Asc l := List.pairwise_cons
theorem asc_append (a b : List Int) : Asc (a ++ b) ↔ Asc a ∧ Asc b ∧ ∀ x ∈ a, ∀ y ∈ b, x < y := List.pairwise_append

theorem passIn_cut (x : Int) : ∀ s lft : List Int, Asc s → ∃ p s', s = p ++ s' ∧ (∀ t ∈ p, t < x) ∧ (∀ t ∈ s', x ≤ t) ∧ passIn x s lft = (s', lft ++ p)
  | [], lft, _ => ⟨[], [], rfl, by simp, by simp, by simp [passIn]⟩
  | t :: s, lft, h => by
    obtain ⟨h1, h2⟩ := (asc_cons t s).1 h
    by_cases c : t < x
    · obtain ⟨p, s', e1, e2, e3, e4⟩ := passIn_cut x s (lft ++ [t]) h2
      refine ⟨t :: p, s', by rw [e1]; rfl, ?_, e3, ?_⟩
      · intro y hy
        rcases List.mem_cons.1 hy with rfl | hy
        · exact c
        · exact e2 y hy
      · rw [passIn, if_pos c, e4, List.append_assoc]
        rfl
    · refine ⟨[], t :: s, rfl, by simp, ?_, by rw [passIn, if_neg c, List.append_nil]⟩
      intro y hy
      rcases List.mem_cons.1 hy with rfl | hy
      · omega
      · have := h1 y hy
        omega

theorem no231_cons (x : Int) (xs : List Int) : No231 (x :: xs) ↔ NoPat x xs ∧ No231 xs := Iff.rfl
theorem noPat_cons (t x : Int) (xs : List Int) : NoPat t (x :: xs) ↔ (∀ y ∈ xs, ¬ (y < t ∧ t < x)) ∧ NoPat t xs := List.pairwise_cons

theorem pass_iff : ∀ (xs s lft : List Int), Asc s → (∀ a ∈ s, a ∉ xs) → xs.Nodup →
    (Asc ((passGo xs (s, lft)).2 ++ (passGo xs (s, lft)).1) ↔ Asc lft ∧ (∀ a ∈ lft, ∀ b ∈ s, a < b) ∧ (∀ a ∈ lft, ∀ b ∈ xs, a < b) ∧ (∀ t ∈ s, NoPat t xs) ∧ No231 xs)
  | [], s, lft, hs, _, _ => by
    unfold passGo
    rw [asc_append]
    constructor
    · rintro ⟨h1, _, h3⟩
      exact ⟨h1, h3, by simp, fun t _ => List.Pairwise.nil, trivial⟩
    · rintro ⟨h1, h2, _⟩
      exact ⟨h1, hs, h2⟩
  | x :: xs, s, lft, hs, hd, hn => by
    obtain ⟨p, s', e1, e2, e3, e4⟩ := passIn_cut x s lft hs
    have hxs : x ∉ s := fun hm => hd x hm (by simp)
    obtain ⟨hn1, hn2⟩ := List.nodup_cons.1 hn
    have hs' : Asc s' := by rw [e1] at hs; exact ((asc_append _ _).1 hs).2.1
    have hp : Asc p := by rw [e1] at hs; exact ((asc_append _ _).1 hs).1
    have hps : ∀ a ∈ p, ∀ b ∈ s', a < b := by rw [e1] at hs; exact ((asc_append _ _).1 hs).2.2
    have hxs' : ∀ t ∈ s', x < t := fun t ht => by
      have h1 := e3 t ht
      have h2 : x ≠ t := fun e => hxs (by rw [e1, e]; exact List.mem_append_right _ ht)
      omega
    have hpx : ∀ t ∈ p, ∀ y ∈ xs, t ≠ y := fun t ht y hy e => hd t (by rw [e1]; exact List.mem_append_left _ ht) (by rw [e]; exact List.mem_cons_of_mem _ hy)
    unfold passGo
    rw [e4]
    have ih := pass_iff xs (x :: s') (lft ++ p) ((asc_cons _ _).2 ⟨hxs', hs'⟩) (fun a ha => by
      rcases List.mem_cons.1 ha with rfl | ha
      · exact hn1
      · exact fun hm => hd a (by rw [e1]; exact List.mem_append_right _ ha) (List.mem_cons_of_mem _ hm)) hn2
    rw [ih]
    constructor
    · rintro ⟨k1, k2, k3, k4, k5⟩
      obtain ⟨a1, a2, a3⟩ := (asc_append _ _).1 k1
      refine ⟨a1, ?_, ?_, ?_, k4 x (by simp), k5⟩
      · intro a ha b hb
        rw [e1] at hb
        rcases List.mem_append.1 hb with hb | hb
        · exact a3 a ha b hb
        · exact k2 a (List.mem_append_left _ ha) b (List.mem_cons_of_mem _ hb)
      · intro a ha b hb
        rcases List.mem_cons.1 hb with rfl | hb
        · exact k2 a (List.mem_append_left _ ha) b (by simp)
        · exact k3 a (List.mem_append_left _ ha) b hb
      · intro t ht
        rw [noPat_cons]
        rw [e1] at ht
        rcases List.mem_append.1 ht with ht | ht
        · have hy : ∀ y ∈ xs, t < y := fun y hy => k3 t (List.mem_append_right _ ht) y hy
          refine ⟨fun y hy' => by have := hy y hy'; omega, ?_⟩
          exact List.Pairwise.imp_of_mem (R := fun _ _ => True) (fun {a b} _ hb _ => by have := hy b hb; omega) (List.pairwise_of_forall (fun _ _ => trivial))
        · have := hxs' t ht
          exact ⟨fun y _ => by omega, k4 t (List.mem_cons_of_mem _ ht)⟩
    · rintro ⟨k1, k2, k3, k4, k5, k6⟩
      refine ⟨(asc_append _ _).2 ⟨k1, hp, fun a ha b hb => k2 a ha b (by rw [e1]; exact List.mem_append_left _ hb)⟩, ?_, ?_, ?_, k6⟩
      · intro a ha b hb
        rcases List.mem_append.1 ha with ha | ha
        · rcases List.mem_cons.1 hb with rfl | hb
          · exact k3 a ha b (by simp)
          · exact k2 a ha b (by rw [e1]; exact List.mem_append_right _ hb)
        · rcases List.mem_cons.1 hb with rfl | hb
          · exact e2 a ha
          · exact hps a ha b hb
      · intro a ha b hb
        rcases List.mem_append.1 ha with ha | ha
        · exact k3 a ha b (List.mem_cons_of_mem _ hb)
        · have h1 := ((noPat_cons _ _ _).1 (k4 a (by rw [e1]; exact List.mem_append_left _ ha))).1 b hb
          have h2 := e2 a ha
          have h3 := hpx a ha b hb
          omega
      · intro t ht
        rcases List.mem_cons.1 ht with rfl | ht
        · exact k5
        · exact ((noPat_cons _ _ _).1 (k4 t (by rw [e1]; exact List.mem_append_right _ ht))).2

theorem passOut_asc (l : List Int) (h : l.Nodup) : Asc (passOut l) ↔ No231 l := by
  unfold passOut
  rw [pass_iff l [] [] List.Pairwise.nil (by simp) h]
  exact ⟨fun h => h.2.2.2.2, fun h => ⟨List.Pairwise.nil, by simp, by simp, by simp, h⟩⟩

/-! ### the block -/
theorem rd_succ (x : Int) (l : List Int) (i : Nat) : rd (x :: l) ((i + 1 : Nat) : Int) = rd l (i : Int) := by
  rw [rd_nat, rd_nat, List.getD_cons_succ]
theorem noPat_pos (t : Int) (l : List Int) : NoPat t l ↔ ∀ b c : Nat, b < c → c < l.length → ¬ (rd l c < t ∧ t < rd l b) := by
  unfold NoPat
  rw [List.pairwise_iff_getElem]
  constructor
  · intro h b c hbc hc
    have := h b c (by omega) hc hbc
    rw [rd_lt l b (by omega), rd_lt l c hc]
    exact this
  · intro h b c hb hc hbc
    have := h b c hbc hc
    rw [rd_lt l b (by omega), rd_lt l c hc] at this
    exact this
theorem no231_pos : ∀ l : List Int, No231 l ↔ ∀ a b c : Nat, a < b → b < c → c < l.length → ¬ (rd l c < rd l a ∧ rd l a < rd l b)
  | [] => by simp [No231]
  | x :: l => by
    unfold No231
    rw [noPat_pos, no231_pos l]
    constructor
    · rintro ⟨h1, h2⟩ a b c hab hbc hc
      obtain ⟨b, rfl⟩ : ∃ b', b = b' + 1 := ⟨b - 1, by omega⟩
      obtain ⟨c, rfl⟩ : ∃ c', c = c' + 1 := ⟨c - 1, by omega⟩
      have hc' : c < l.length := by simpa using hc
      cases a with
      | zero =>
        have := h1 b c (by omega) hc'
        rw [rd_succ, rd_succ]
        exact this
      | succ a =>
        have := h2 a b c (by omega) (by omega) hc'
        rw [rd_succ, rd_succ, rd_succ]
        exact this
    · intro h
      refine ⟨fun b c hbc hc => ?_, fun a b c hab hbc hc => ?_⟩
      · have := h 0 (b + 1) (c + 1) (by omega) (by omega) (by simpa using hc)
        rw [rd_succ, rd_succ] at this
        exact this
      · have := h (a + 1) (b + 1) (c + 1) (by omega) (by omega) (by simpa using hc)
        rw [rd_succ, rd_succ, rd_succ] at this
        exact this

/-- What 'blocking' finds. -/
def Found (l : List Int) (a b : Nat) (r : Int) : Prop :=
  (r = 0 ∧ ∀ c : Nat, b < c → c < l.length → ¬ (rd l c < rd l a ∧ rd l a ≤ rd l b)) ∨ ∃ c : Nat, r = c ∧ b < c ∧ c < l.length ∧ rd l c < rd l a ∧ rd l a ≤ rd l b

theorem blocking_loop (l : List Int) (a b : Nat) (ha : a < l.length) (hl : l.length ≤ 1000000) (hab : rd l a ≤ rd l b) : ∀ (d i : Nat), i + d = l.length → b < i → (∀ c : Nat, b < c → c < i → ¬ rd l c < rd l a) →
    ∃ r, Ev (fun k => shunt_blocking.l0 k l (a : Int) (i : Int)) r ∧ Found l a b r
  | 0, i, h, hb, hno => by
    refine ⟨0, Ev.step (fun k => ?_) (Ev.now _), .inl ⟨rfl, fun c h1 h2 h3 => hno c h1 (by omega) h3.1⟩⟩
    simp only [shunt_blocking.l0]
    rw [if_neg (by omega)]
  | d + 1, i, h, hb, hno => by
    by_cases c : rd l (i : Int) < rd l a
    · refine ⟨i, Ev.step (fun k => ?_) (Ev.now _), .inr ⟨i, rfl, hb, by omega, c, hab⟩⟩
      simp only [shunt_blocking.l0]
      rw [if_pos (by omega), if_pos (by omega), if_pos (by omega), if_pos (by omega), if_pos c]
    · obtain ⟨r, h1, h2⟩ := blocking_loop l a b ha hl hab d (i + 1) (by omega) (by omega) (fun c' h3 h4 => by
        by_cases e : c' = i
        · subst e; exact c
        · exact hno c' h3 (by omega))
      refine ⟨r, Ev.step (fun k => ?_) h1, h2⟩
      simp only [shunt_blocking.l0]
      rw [if_pos (by omega), if_pos (by omega), if_pos (by omega), if_pos (by omega), if_neg c, w64 (by omega) (by omega)]
      rfl
theorem blocking_ev (l : List Int) (a b : Nat) (ha : a < l.length) (hb : b < l.length) (hl : l.length ≤ 1000000) : ∃ r, Ev (fun k => shunt_blocking.f k l (a : Int) (b : Int)) r ∧ Found l a b r := by
  by_cases c : rd l a > rd l b
  · refine ⟨0, Ev.congr (fun k => ?_) (Ev.now _), .inl ⟨rfl, fun c' _ _ h => by omega⟩⟩
    unfold shunt_blocking.f
    rw [if_pos (by omega), if_pos (by omega), if_pos (by omega), if_pos (by omega), if_pos c]
  · obtain ⟨r, h1, h2⟩ := blocking_loop l a b ha hl (by omega) (l.length - (b + 1)) (b + 1) (by omega) (by omega) (fun c' h3 h4 => by omega)
    refine ⟨r, Ev.congr (fun k => ?_) h1, h2⟩
    unfold shunt_blocking.f
    rw [if_pos (by omega), if_pos (by omega), if_pos (by omega), if_pos (by omega), if_neg c, w64 (by omega) (by omega)]
    rfl

/-- What 'block' returns. -/
def BlockOf (l r : List Int) : Prop :=
  (r = [] ∧ ∀ a b c : Nat, a < b → b < c → c < l.length → ¬ (rd l c < rd l a ∧ rd l a ≤ rd l b)) ∨
    ∃ a b c : Nat, r = [(a : Int), (b : Int), (c : Int)] ∧ a < b ∧ b < c ∧ c < l.length ∧ rd l c < rd l a ∧ rd l a ≤ rd l b

theorem block_l1 (l : List Int) (b : Nat) (hb : b < l.length) (hl : l.length ≤ 1000000) (hrest : (∀ a c : Nat, a < b → b < c → c < l.length → ¬ (rd l c < rd l a ∧ rd l a ≤ rd l b)) → ∃ r, Ev (fun k => shunt_block.l0 k l (l.length : Int) ((b + 1 : Nat) : Int)) r ∧ BlockOf l r) : ∀ (d a : Nat), a + d = b →
    (∀ a' c : Nat, a' < a → b < c → c < l.length → ¬ (rd l c < rd l a' ∧ rd l a' ≤ rd l b)) → ∃ r, Ev (fun k => shunt_block.l1 k l (b : Int) (l.length : Int) (b : Int) (b : Int) (a : Int)) r ∧ BlockOf l r
  | 0, a, h, hno => by
    obtain ⟨r, h1, h2⟩ := hrest (fun a' c h1 => hno a' c (by omega))
    refine ⟨r, Ev.step (fun k => ?_) h1, h2⟩
    simp only [shunt_block.l1]
    rw [if_neg (by omega), w64 (by omega) (by omega)]
    rfl
  | d + 1, a, h, hno => by
    obtain ⟨q, q1, q2⟩ := blocking_ev l a b (by omega) hb hl
    rcases q2 with ⟨rfl, q2⟩ | ⟨c, rfl, q3, q4, q5, q6⟩
    · obtain ⟨r, h1, h2⟩ := block_l1 l b hb hl hrest d (a + 1) (by omega) (fun a' c h3 h4 h5 => by
        by_cases e : a' = a
        · subst e; exact q2 c h4 h5
        · exact hno a' c (by omega) h4 h5)
      refine ⟨r, ?_, h2⟩
      refine Ev.step (f := fun k => (shunt_blocking.f k l (a : Int) (b : Int)).bind fun t => if t > 0 then some [(a : Int), (b : Int), t] else shunt_block.l1 k l (b : Int) (l.length : Int) (b : Int) (b : Int) (wrap64 ((a : Int) + 1))) (fun k => ?_) (Ev.bind q1 ?_)
      · simp only [shunt_block.l1]
        rw [if_pos (by omega)]
      · refine Ev.congr (fun k => ?_) h1
        rw [if_neg (by omega), w64 (by omega) (by omega)]
        rfl
    · refine ⟨[(a : Int), (b : Int), (c : Int)], ?_, .inr ⟨a, b, c, rfl, by omega, q3, q4, q5, q6⟩⟩
      refine Ev.step (f := fun k => (shunt_blocking.f k l (a : Int) (b : Int)).bind fun t => if t > 0 then some [(a : Int), (b : Int), t] else shunt_block.l1 k l (b : Int) (l.length : Int) (b : Int) (b : Int) (wrap64 ((a : Int) + 1))) (fun k => ?_) (Ev.bind q1 ?_)
      · simp only [shunt_block.l1]
        rw [if_pos (by omega)]
      · refine Ev.congr (fun k => ?_) (Ev.now _)
        rw [if_pos (by omega)]
theorem block_l0 (l : List Int) (hl : l.length ≤ 1000000) : ∀ (d b : Nat), b + d = l.length → (∀ a b' c : Nat, a < b' → b' < b → b' < c → c < l.length → ¬ (rd l c < rd l a ∧ rd l a ≤ rd l b')) →
    ∃ r, Ev (fun k => shunt_block.l0 k l (l.length : Int) (b : Int)) r ∧ BlockOf l r
  | 0, b, h, hno => by
    refine ⟨[], Ev.step (fun k => ?_) (Ev.now _), .inl ⟨rfl, fun a b' c h1 h2 h3 => hno a b' c h1 (by omega) h2 h3⟩⟩
    simp only [shunt_block.l0]
    rw [if_neg (by omega)]
  | d + 1, b, h, hno => by
    obtain ⟨r, h1, h2⟩ := block_l1 l b (by omega) hl (fun hb => block_l0 l hl d (b + 1) (by omega) (fun a b' c h1 h2 h3 h4 => by
      by_cases e : b' = b
      · subst e; exact hb a c h1 h3 h4
      · exact hno a b' c h1 (by omega) h3 h4)) b 0 (by omega) (fun a' c h => by omega)
    refine ⟨r, Ev.step (fun k => ?_) h1, h2⟩
    simp only [shunt_block.l0]
    rw [if_pos (by omega)]
    rfl
theorem block_ev (l : List Int) (hl : l.length ≤ 1000000) : ∃ r, Ev (fun k => shunt_block.f k l) r ∧ BlockOf l r := by
  obtain ⟨r, h1, h2⟩ := block_l0 l hl l.length 0 (by omega) (fun a b c h h' => by omega)
  exact ⟨r, h1, h2⟩
theorem blockOf_nil {l r : List Int} (h : BlockOf l r) (hd : l.Nodup) : r = [] ↔ No231 l := by
  rw [no231_pos]
  rcases h with ⟨rfl, h⟩ | ⟨a, b, c, rfl, h1, h2, h3, h4, h5⟩
  · exact ⟨fun _ a b c k1 k2 k3 k4 => h a b c k1 k2 k3 ⟨k4.1, by omega⟩, fun _ => rfl⟩
  · refine ⟨fun e => (by cases e), fun h => absurd ⟨h4, ?_⟩ (h a b c h1 h2 h3)⟩
    rw [rd_lt l a (by omega), rd_lt l b (by omega)] at h5 ⊢
    have : l[a] ≠ l[b] := List.pairwise_iff_getElem.1 hd a b (by omega) (by omega) h1
    omega

/-! ### what the stack sorts -/
theorem drain_cut : ∀ s lft plan : List Int, ∃ d s', s = d ++ s' ∧ drainS s lft plan = (s', lft ++ d, plan ++ List.replicate d.length 111) ∧ (∀ t ∈ d, (lft.length : Int) < t ∧ t ≤ lft.length + d.length) ∧ Asc d ∧ ∀ h t, s' = h :: t → h ≠ (lft.length : Int) + d.length + 1
  | [], lft, plan => ⟨[], [], rfl, by simp [drainS], by simp, List.Pairwise.nil, fun h t e => by cases e⟩
  | x :: s, lft, plan => by
    by_cases c : x = (lft.length : Int) + 1
    · obtain ⟨d, s', e1, e2, e3, e4, e5⟩ := drain_cut s (lft ++ [x]) (plan ++ [111])
      have hl : (lft ++ [x]).length = lft.length + 1 := by simp
      rw [hl] at e3 e5
      refine ⟨x :: d, s', by rw [e1]; rfl, ?_, ?_, (asc_cons _ _).2 ⟨fun b hb => ?_, e4⟩, fun h t e => ?_⟩
      · rw [drainS, if_pos c, e2, List.append_assoc, List.append_assoc]
        rfl
      · intro t ht
        rw [List.length_cons]
        rcases List.mem_cons.1 ht with rfl | ht
        · omega
        · have := e3 t ht
          omega
      · have := e3 b hb
        omega
      · have := e5 h t e
        rw [List.length_cons]
        omega
    · refine ⟨[], x :: s, rfl, by rw [drainS, if_neg c]; simp, by simp, List.Pairwise.nil, fun h t e => ?_⟩
      injection e with e _
      subst e
      simpa using c

/-- The stack s, what has left, and what is still to come, of an order of n items. -/
structure OnWay (n : Nat) (s lft xs : List Int) : Prop where
  nodup : (s ++ xs).Nodup
  range : ∀ a ∈ s ++ xs, (lft.length : Int) < a ∧ a ≤ n
  count : s.length + xs.length + lft.length = n
  left : lft = (List.range lft.length).map (fun i => ((i : Nat) : Int) + 1)

theorem asc_range (d : List Int) (lo : Int) (hd : Asc d) (h : ∀ t ∈ d, lo < t ∧ t ≤ lo + d.length) : d = (List.range d.length).map (fun i => lo + 1 + ((i : Nat) : Int)) := by
  induction d generalizing lo with
  | nil => rfl
  | cons a t ih =>
    obtain ⟨h1, h2⟩ := (asc_cons a t).1 hd
    have hn : (a :: t).Nodup := List.Pairwise.imp (fun {x y} (h : x < y) => by omega) hd
    have hm := full_range (a :: t).length (a :: t) lo hn h rfl (lo + 1) (by omega) (by simp; omega)
    have ha : a = lo + 1 := by
      rcases List.mem_cons.1 hm with e | hm
      · exact e.symm
      · have := h1 _ hm
        have := h a (by simp)
        omega
    have := ih (lo + 1) h2 (fun b hb => by
      have := h1 b hb
      have := h b (List.mem_cons_of_mem _ hb)
      rw [List.length_cons] at this
      omega)
    rw [List.length_cons, List.range_succ_eq_map, List.map_cons, List.map_map, ha]
    congr 1
    · omega
    · refine this.trans (List.map_congr_left fun i _ => ?_)
      simp only [Function.comp]
      omega

theorem OnWay.step {n : Nat} {s lft xs : List Int} {x : Int} {plan : List Int} (h : OnWay n s lft (x :: xs)) : ∃ d s', x :: s = d ++ s' ∧ drainS (x :: s) lft plan = (s', lft ++ d, plan ++ List.replicate d.length 111) ∧ (∀ t ∈ d, (lft.length : Int) < t ∧ t ≤ lft.length + d.length) ∧ Asc d ∧ (∀ h t, s' = h :: t → h ≠ ((lft ++ d).length : Int) + 1) ∧ OnWay n s' (lft ++ d) xs := by
  obtain ⟨d, s', e1, e2, e3, e4, e5⟩ := drain_cut (x :: s) lft plan
  have hperm : (d ++ (s' ++ xs)).Perm (s ++ x :: xs) := by
    rw [← List.append_assoc, ← e1, List.cons_append]
    exact List.perm_middle.symm
  have hnd : (d ++ (s' ++ xs)).Nodup := hperm.nodup_iff.2 h.nodup
  obtain ⟨n1, n2, n3⟩ := List.nodup_append.1 hnd
  refine ⟨d, s', e1, e2, e3, e4, fun a t e => by have := e5 a t e; rw [List.length_append]; omega, ⟨n2, fun a ha => ?_, ?_, ?_⟩⟩
  · have hr := h.range a (hperm.mem_iff.1 (List.mem_append_right _ ha))
    refine ⟨?_, hr.2⟩
    rw [List.length_append]
    by_cases hle : a ≤ lft.length + d.length
    · have := full_range d.length d lft.length n1 e3 rfl a hr.1 hle
      exact absurd rfl (n3 a this a ha)
    · omega
  · have := h.count
    have hl := congrArg List.length e1
    rw [List.length_append, List.length_cons] at hl
    rw [List.length_append]
    simp only [List.length_cons] at this
    omega
  · have := asc_range d lft.length e4 e3
    rw [List.length_append, List.range_add, List.map_append]
    congr 1
    · exact h.left
    · rw [List.map_map]
      refine this.trans (List.map_congr_left fun i _ => ?_)
      simp only [Function.comp]
      omega

theorem stack_iff (n : Nat) : ∀ (xs s lft plan : List Int), OnWay n s lft xs → (∀ h t, s = h :: t → h ≠ (lft.length : Int) + 1) →
    ((stackGo xs (s, lft, plan)).2.1.length = n ↔ Asc s ∧ (∀ t ∈ s, NoPat t xs) ∧ No231 xs)
  | [], s, lft, plan, h, hd => by
    unfold stackGo
    have hc := h.count
    simp only [List.length_nil] at hc
    constructor
    · intro e
      have : s = [] := List.eq_nil_of_length_eq_zero (by simp only at e; omega)
      subst this
      exact ⟨List.Pairwise.nil, by simp, trivial⟩
    · rintro ⟨ha, _⟩
      cases s with
      | nil => simp only at hc ⊢; simp at hc; exact hc
      | cons a t =>
        exfalso
        have h1 := (asc_cons a t).1 ha
        have hr := h.range
        have hnd := h.nodup
        rw [List.append_nil] at hr hnd
        have hm := full_range (a :: t).length (a :: t) lft.length hnd (fun b hb => by have := hr b hb; omega) rfl ((lft.length : Int) + 1) (by omega) (by simp; omega)
        rcases List.mem_cons.1 hm with e | hm
        · exact hd a t rfl e.symm
        · have := h1.1 _ hm
          have := hr a (by simp)
          omega
  | x :: xs, s, lft, plan, h, hd => by
    obtain ⟨d, s', e1, e2, e3, e4, e5, hw⟩ := h.step (plan := plan ++ [105])
    unfold stackGo
    rw [e2, stack_iff n xs s' (lft ++ d) _ hw e5]
    have hnd := h.nodup
    have hxs : ∀ t ∈ s, t ≠ x := fun t ht e => (List.nodup_append.1 hnd).2.2 t ht x (by simp) e
    have hsx : ∀ t ∈ s, ∀ y ∈ xs, t ≠ y := fun t ht y hy => (List.nodup_append.1 hnd).2.2 t ht y (by simp [hy])
    cases d with
    | nil =>
      rw [List.nil_append] at e1
      rw [← e1, asc_cons, no231_cons]
      constructor
      · rintro ⟨⟨h1, h2⟩, h3, h4⟩
        refine ⟨h2, fun t ht => (noPat_cons _ _ _).2 ⟨fun y hy => by have := h1 t ht; omega, h3 t (by simp [ht])⟩, h3 x (by simp), h4⟩
      · rintro ⟨h2, h3, h4, h5⟩
        refine ⟨⟨fun t ht => ?_, h2⟩, fun t ht => ?_, h5⟩
        · by_cases hlt : x < t
          · exact hlt
          · exfalso
            have hne := hxs t ht
            have hp := ((noPat_cons _ _ _).1 (h3 t ht)).1
            have hm := full_range (s ++ x :: xs).length (s ++ x :: xs) lft.length hnd (fun b hb => by have := h.range b hb; have := h.count; simp at *; omega) rfl ((lft.length : Int) + 1) (by omega) (by simp; omega)
            rcases List.mem_append.1 hm with hm | hm
            · cases s with
              | nil => cases ht
              | cons a r =>
                rcases List.mem_cons.1 hm with e | hm
                · exact hd a r rfl e.symm
                · have h6 := ((asc_cons a r).1 h2).1 _ hm
                  have h7 := h.range a (by simp)
                  omega
            · rcases List.mem_cons.1 hm with e | hm
              · have := e5 x s e1.symm
                simp at this
                omega
              · have h6 := hp _ hm
                have h7 := hsx t ht _ hm
                have h8 := h.range t (by simp [ht])
                omega
        · rcases List.mem_cons.1 ht with rfl | ht
          · exact h4
          · exact ((noPat_cons _ _ _).1 (h3 t ht)).2
    | cons a d' =>
      injection e1 with e0 e1
      subst e0
      have hx : x = (lft.length : Int) + 1 := by
        have hm := full_range (x :: d').length (x :: d') lft.length (List.Pairwise.imp (fun {x y} (h : x < y) => by omega) e4) e3 rfl ((lft.length : Int) + 1) (by omega) (by simp; omega)
        rcases List.mem_cons.1 hm with e | hm
        · exact e.symm
        · have := ((asc_cons x d').1 e4).1 _ hm
          have := h.range x (by simp)
          omega
      have hbig : ∀ b ∈ s' ++ xs, ((lft ++ x :: d').length : Int) < b := fun b hb => (hw.range b hb).1
      have hlen : ((lft ++ x :: d').length : Int) = lft.length + (x :: d').length := by simp
      replace e1 : s = d' ++ s' := e1
      rw [no231_cons, e1, asc_append]
      constructor
      · rintro ⟨h1, h2, h3⟩
        refine ⟨⟨((asc_cons x d').1 e4).2, h1, fun u hu v hv => ?_⟩, fun t ht => (noPat_cons _ _ _).2 ⟨fun y hy => ?_, ?_⟩, ?_, h3⟩
        · have := e3 u (List.mem_cons_of_mem _ hu)
          have := hbig v (List.mem_append_left _ hv)
          omega
        · have := hbig y (List.mem_append_right _ hy)
          have : (lft.length : Int) < t ∧ t ≤ n := h.range t (by rw [e1]; exact List.mem_append_left _ ht)
          omega
        · rcases List.mem_append.1 ht with ht | ht
          · exact List.Pairwise.imp_of_mem (R := fun _ _ => True) (fun {u v} _ hv _ => by
              have := hbig v (List.mem_append_right _ hv)
              have := e3 t (List.mem_cons_of_mem _ ht)
              omega) (List.pairwise_of_forall (fun _ _ => trivial))
          · exact h2 t ht
        · exact List.Pairwise.imp_of_mem (R := fun _ _ => True) (fun {u v} _ hv _ => by
              have := hbig v (List.mem_append_right _ hv)
              have : 0 < (x :: d').length := by simp
              omega) (List.pairwise_of_forall (fun _ _ => trivial))
      · rintro ⟨⟨_, h1, _⟩, h2, _, h3⟩
        exact ⟨h1, fun t ht => ((noPat_cons _ _ _).1 (h2 t (List.mem_append_right _ ht))).2, h3⟩

theorem onWay_start (l : List Int) (h : IsOrd l) : OnWay l.length [] [] l :=
  ⟨by simpa using h.1, fun a ha => by have := h.2 a (by simpa using ha); simp; omega, by simp, rfl⟩
theorem stack_full (l : List Int) (h : IsOrd l) : (stackGo l ([], [], [])).2.1.length = l.length ↔ No231 l := by
  rw [stack_iff l.length l [] [] [] (onWay_start l h) (fun _ _ e => by cases e)]
  exact ⟨fun h => h.2.2, fun h => ⟨List.Pairwise.nil, by simp, h⟩⟩

theorem drainS_le : ∀ s lft plan : List Int, (drainS s lft plan).2.1.length + (drainS s lft plan).1.length = lft.length + s.length
  | [], lft, plan => by simp [drainS]
  | x :: s, lft, plan => by
    rw [drainS]
    split
    · rw [drainS_le s]; simp; omega
    · rfl
theorem stackGo_le : ∀ (l : List Int) (st : List Int × List Int × List Int), (stackGo l st).2.1.length ≤ st.2.1.length + st.1.length + l.length
  | [], (s, lft, plan) => by simp [stackGo]
  | x :: l, (s, lft, plan) => by
    have h1 := stackGo_le l (drainS (x :: s) lft (plan ++ [105]))
    have h2 := drainS_le (x :: s) lft (plan ++ [105])
    rw [stackGo]
    simp only [List.length_cons] at h2 ⊢
    omega

end Go.Proofs.Ytjbjongahnocdaa.P

/- Passes: a pass moves the greatest item to the end, and enough passes sort. -/
namespace Go.Proofs.Ytjbjongahnocdaa.P
open Go.RowKit Go.Proofs.Ytjbjongahnocdaa.S Go.Proofs.Ytjbjongahnocdaa.Defs Go.Proofs.YtjbjongahnocdaaW.PrintWords

theorem passIn_perm (x : Int) : ∀ s lft : List Int, ((passIn x s lft).2 ++ (passIn x s lft).1).Perm (lft ++ s)
  | [], lft => by simp [passIn]
  | t :: s, lft => by
    unfold passIn
    split
    · refine (passIn_perm x s (lft ++ [t])).trans ?_
      rw [List.append_assoc]
      exact List.Perm.refl _
    · exact List.Perm.refl _
theorem passGo_perm : ∀ xs s lft : List Int, ((passGo xs (s, lft)).2 ++ (passGo xs (s, lft)).1).Perm (lft ++ s ++ xs)
  | [], s, lft => by simp [passGo]
  | x :: xs, s, lft => by
    unfold passGo
    refine (passGo_perm xs _ _).trans ?_
    have := passIn_perm x s lft
    rw [show lft ++ s ++ x :: xs = (lft ++ s ++ [x]) ++ xs by simp]
    refine List.Perm.append_right xs ?_
    refine List.perm_middle.trans ?_
    exact (List.Perm.cons x this).trans (List.perm_append_singleton x _).symm
theorem passOut_perm (l : List Int) : (passOut l).Perm l := by
  have := passGo_perm l [] []
  simpa [passOut] using this
theorem passOut_ord {l : List Int} (h : IsOrd l) : IsOrd (passOut l) := by
  have hp := passOut_perm l
  exact ⟨hp.nodup_iff.2 h.1, fun x hx => by rw [passOut_len]; exact h.2 x (hp.mem_iff.1 hx)⟩

theorem passGo_append : ∀ (a b : List Int) (st : List Int × List Int), passGo (a ++ b) st = passGo b (passGo a st)
  | [], b, st => rfl
  | x :: a, b, (s, lft) => by
    rw [List.cons_append, passGo, passGo_append a b]
    rfl
theorem passIn_all (x : Int) : ∀ s lft : List Int, (∀ t ∈ s, t < x) → passIn x s lft = ([], lft ++ s)
  | [], lft, _ => by simp [passIn]
  | t :: s, lft, h => by
    rw [passIn, if_pos (h t (by simp)), passIn_all x s _ (fun u hu => h u (List.mem_cons_of_mem _ hu)), List.append_assoc]
    rfl
theorem pass_tail : ∀ (b s lft : List Int), Asc b → (∀ t ∈ s, ∀ y ∈ b, t < y) → (passGo b (s, lft)).2 ++ (passGo b (s, lft)).1 = lft ++ s ++ b
  | [], s, lft, _, _ => by simp [passGo]
  | y :: b, s, lft, hb, h => by
    obtain ⟨h1, h2⟩ := (asc_cons y b).1 hb
    rw [passGo, passIn_all y s lft (fun t ht => h t ht y (by simp))]
    rw [pass_tail b [y] (lft ++ s) h2 (fun t ht u hu => by
      rw [List.mem_singleton] at ht
      subst ht
      exact h1 u hu)]
    simp
theorem passIn_bottom (q m : Int) (hq : q < m) : ∀ s lft : List Int, passIn q (s ++ [m]) lft = ((passIn q s lft).1 ++ [m], (passIn q s lft).2)
  | [], lft => by
    show passIn q [m] lft = ([] ++ [m], lft)
    simp only [passIn]
    rw [if_neg (by omega)]
    rfl
  | t :: s, lft => by
    rw [List.cons_append, passIn, passIn]
    split
    · exact passIn_bottom q m hq s _
    · rfl
theorem passGo_bottom (m : Int) : ∀ (q s lft : List Int), (∀ x ∈ q, x < m) → passGo q (s ++ [m], lft) = ((passGo q (s, lft)).1 ++ [m], (passGo q (s, lft)).2)
  | [], s, lft, _ => rfl
  | x :: q, s, lft, h => by
    rw [passGo, passGo, passIn_bottom x m (h x (by simp))]
    exact passGo_bottom m q (x :: (passIn x s lft).1) _ (fun y hy => h y (List.mem_cons_of_mem _ hy))
theorem passIn_left (x : Int) (a : List Int) : ∀ s lft : List Int, passIn x s (a ++ lft) = ((passIn x s lft).1, a ++ (passIn x s lft).2)
  | [], lft => by simp [passIn]
  | t :: s, lft => by
    rw [passIn, passIn]
    split
    · rw [List.append_assoc]
      exact passIn_left x a s _
    · rfl
theorem passGo_left (a : List Int) : ∀ (q s lft : List Int), passGo q (s, a ++ lft) = ((passGo q (s, lft)).1, a ++ (passGo q (s, lft)).2)
  | [], s, lft => rfl
  | x :: q, s, lft => by
    rw [passGo, passGo, passIn_left]
    exact passGo_left a q _ _

theorem passOut_max (p q : List Int) (m : Int) (hp : ∀ x ∈ p, x < m) (hq : ∀ x ∈ q, x < m) : passOut (p ++ m :: q) = passOut p ++ passOut q ++ [m] := by
  unfold passOut
  rw [passGo_append]
  obtain ⟨s1, l1, e⟩ : ∃ s1 l1, passGo p ([], []) = (s1, l1) := ⟨_, _, rfl⟩
  have hm : ∀ t ∈ s1, t < m := fun t ht => by
    have := (passGo_perm p [] []).mem_iff (a := t)
    rw [e] at this
    exact hp t (by simpa using this.1 (List.mem_append_right _ ht))
  rw [e, passGo, passIn_all m s1 l1 hm]
  have h1 := passGo_bottom m q [] (l1 ++ s1) hq
  have h2 := passGo_left (l1 ++ s1) q [] []
  rw [List.append_nil] at h2
  rw [List.nil_append, h2] at h1
  show (passGo q ([m], l1 ++ s1)).2 ++ (passGo q ([m], l1 ++ s1)).1 = _
  rw [h1]
  simp
theorem passOut_tail (a b : List Int) (hb : Asc b) (h : ∀ x ∈ a, ∀ y ∈ b, x < y) : passOut (a ++ b) = passOut a ++ b := by
  unfold passOut
  rw [passGo_append]
  obtain ⟨s1, l1, e⟩ : ∃ s1 l1, passGo a ([], []) = (s1, l1) := ⟨_, _, rfl⟩
  rw [e, pass_tail b s1 l1 hb]
  intro t ht
  have := (passGo_perm a [] []).mem_iff (a := t)
  rw [e] at this
  exact h t (by simpa using this.1 (List.mem_append_right _ ht))

theorem exists_max : ∀ (a : List Int), a ≠ [] → a.Nodup → ∃ p m q, a = p ++ m :: q ∧ (∀ x ∈ p, x < m) ∧ ∀ x ∈ q, x < m
  | [], h, _ => absurd rfl h
  | x :: a, _, hn => by
    obtain ⟨n1, n2⟩ := List.nodup_cons.1 hn
    by_cases ha : a = []
    · subst ha
      exact ⟨[], x, [], rfl, by simp, by simp⟩
    · obtain ⟨p, m, q, e, h1, h2⟩ := exists_max a ha n2
      have hxm : x ≠ m := fun e' => n1 (by rw [e, e']; simp)
      by_cases c : x < m
      · refine ⟨x :: p, m, q, by rw [e]; rfl, fun y hy => ?_, h2⟩
        rcases List.mem_cons.1 hy with rfl | hy
        · exact c
        · exact h1 y hy
      · refine ⟨[], x, a, rfl, by simp, fun y hy => ?_⟩
        rw [e] at hy
        rcases List.mem_append.1 hy with hy | hy
        · have := h1 y hy
          omega
        · rcases List.mem_cons.1 hy with rfl | hy
          · omega
          · have := h2 y hy
            omega

/-- The greatest i items (or all) stand in place at the end. -/
def Placed (i : Nat) (l : List Int) : Prop := ∃ a b, l = a ++ b ∧ Asc b ∧ (∀ x ∈ a, ∀ y ∈ b, x < y) ∧ (a = [] ∨ i ≤ b.length)
theorem placed_step {i : Nat} {l : List Int} (hn : l.Nodup) (h : Placed i l) : Placed (i + 1) (passOut l) := by
  obtain ⟨a, b, e, h1, h2, h3⟩ := h
  subst e
  rw [passOut_tail a b h1 h2]
  by_cases ha : a = []
  · subst ha
    exact ⟨[], b, rfl, h1, by simp, .inl rfl⟩
  · obtain ⟨p, m, q, e, k1, k2⟩ := exists_max a ha (List.nodup_append.1 hn).1
    subst e
    rw [passOut_max p q m k1 k2, List.append_assoc]
    refine ⟨passOut p ++ passOut q, m :: b, rfl, (asc_cons m b).2 ⟨fun y hy => h2 m (by simp) y hy, h1⟩, fun x hx y hy => ?_, .inr ?_⟩
    · have hx' : x < m ∧ x ∈ p ++ m :: q := by
        rcases List.mem_append.1 hx with hx | hx
        · have := (passOut_perm p).mem_iff.1 hx
          exact ⟨k1 x this, by simp [this]⟩
        · have := (passOut_perm q).mem_iff.1 hx
          exact ⟨k2 x this, by simp [this]⟩
      rcases List.mem_cons.1 hy with rfl | hy
      · exact hx'.1
      · exact h2 x hx'.2 y hy
    · rcases h3 with h3 | h3
      · simp at h3
      · simp; omega
theorem placed_asc {l : List Int} (h : Placed l.length l) : Asc l := by
  obtain ⟨a, b, e, h1, h2, h3⟩ := h
  have : a = [] := by
    rcases h3 with h3 | h3
    · exact h3
    · have := congrArg List.length e
      rw [List.length_append] at this
      exact List.eq_nil_of_length_eq_zero (by omega)
  subst this
  rw [e]
  exact h1
theorem placed_last {l : List Int} (hn : IsOrd l) (h : Placed 1 l) (hl : 0 < l.length) : rd l ((l.length : Int) - 1) = l.length := by
  obtain ⟨a, b, e, h1, h2, h3⟩ := h
  have hb : b ≠ [] := by
    rintro rfl
    rcases h3 with h3 | h3
    · subst h3; subst e; simp at hl
    · simp at h3
  have hm := full_range l.length l 0 hn.1 (fun x hx => by have := hn.2 x hx; omega) rfl (l.length : Int) (by omega) (by omega)
  obtain ⟨b', m, rfl⟩ : ∃ b' m, b = b' ++ [m] := ⟨b.dropLast, b.getLast hb, (List.dropLast_concat_getLast hb).symm⟩
  subst e
  have hr : rd (a ++ (b' ++ [m])) (((a ++ (b' ++ [m])).length : Int) - 1) = m := by
    rw [show (((a ++ (b' ++ [m])).length : Int) - 1) = ((a.length + b'.length : Nat) : Int) by simp; omega, rd_nat, List.getD_eq_getElem?_getD, List.getElem?_append_right (by omega), List.getElem?_append_right (by omega)]
    have : a.length + b'.length - a.length - b'.length = 0 := by omega
    rw [this]
    rfl
  rw [hr]
  have hle := (hn.2 m (by simp)).2
  rcases List.mem_append.1 hm with hm' | hm'
  · have := h2 _ hm' m (by simp)
    omega
  · rcases List.mem_append.1 hm' with hm' | hm'
    · have := ((asc_append b' [m]).1 h1).2.2 _ hm' m (by simp)
      omega
    · rw [List.mem_singleton] at hm'
      omega
theorem asc_ord {l : List Int} (h : IsOrd l) (ha : Asc l) : l = (List.range l.length).map (fun i => ((i : Nat) : Int) + 1) := by
  have := asc_range l 0 ha (fun t ht => by have := h.2 t ht; omega)
  refine this.trans (List.map_congr_left fun i _ => by omega)
theorem asc_rd {l : List Int} (h : IsOrd l) (ha : Asc l) (i : Nat) (hi : i < l.length) : rd l (i : Int) = (i : Int) + 1 := by
  have := asc_ord h ha
  rw [rd_nat, this, List.getD_eq_getElem?_getD, List.getElem?_map]
  simp [hi]

end Go.Proofs.Ytjbjongahnocdaa.P

namespace Go.Proofs.Ytjbjongahnocdaa.S
open Go.Proofs.Ytjbjongahnocdaa.Lib
open Go.Proofs.Ytjbjongahnocdaa.Defs
open Go.Maps (Keyed)
open Go.RowKit Go.Proofs.YtjbjongahnocdaaW.PrintWords Go.Proofs.YtjbjongahnocdaaW.PrintLast Go.Proofs.YtjbjongahnocdaaW.PrintMore
attribute [local go_sem] max2_int min2_int max_two min_two max_three min_three max_four min_four   -- for this text's walks alone
set_option linter.unusedVariables false
set_option linter.unusedSimpArgs false

/-! ### tickingref02_Count: function 38 -/
mutual
def tickingref02_Count.l0 : Nat → Int → List Int → Int → Option (Int)
  | 0, _, _, _ => none
  | k + 1, x0, x3, x4 => if x4 ≤ x0 then (tickingref02_Count.l1 k x0 x3 x4 1) else (if 0 ≤ x0 then (if x0 < (x3.length : Int) then (some (rd x3 x0)) else (none)) else (none))
def tickingref02_Count.l1 : Nat → Int → List Int → Int → Int → Option (Int)
  | 0, _, _, _, _ => none
  | k + 1, x0, x3, x4, x5 => if x5 ≤ x4 then (if 0 ≤ x4 then (if x4 < (x3.length : Int) then (if 0 ≤ (wrap64 (x5 - 1)) then (if (wrap64 (x5 - 1)) < (x3.length : Int) then (if 0 ≤ (wrap64 (x4 - x5)) then (if (wrap64 (x4 - x5)) < (x3.length : Int) then (tickingref02_Count.l1 k x0 (x3.set (x4 : Int).toNat (wrap64 ((rd x3 x4) + (wrap64 ((rd x3 (wrap64 (x5 - 1))) * (rd x3 (wrap64 (x4 - x5)))))))) x4 (wrap64 (x5 + 1))) else (none)) else (none)) else (none)) else (none)) else (none)) else (none)) else (tickingref02_Count.l0 k x0 x3 (wrap64 (x4 + 1)))
end
def tickingref02_Count.f (k : Nat) (a0 : Int) : Option (Int) := if 0 ≤ (wrap64 (a0 + 1)) then (if (wrap64 (a0 + 1) : Int).toNat ≤ 35184372088832 then ((some (List.replicate (wrap64 (a0 + 1) : Int).toNat 0 : List Int)).bind fun y200 => (if 0 < (y200.length : Int) then (tickingref02_Count.l0 k a0 (y200.set (0 : Int).toNat 1) 1) else (none))) else (none)) else (none)
theorem tickingref02_Count.mono_l : ∀ k, (∀ y0 y1 y2, LeO (tickingref02_Count.l0 k y0 y1 y2) (tickingref02_Count.l0 (k + 1) y0 y1 y2)) ∧ (∀ y0 y1 y2 y3, LeO (tickingref02_Count.l1 k y0 y1 y2 y3) (tickingref02_Count.l1 (k + 1) y0 y1 y2 y3))
  | 0 => ⟨fun _ _ _ r h => by simp [tickingref02_Count.l0] at h, fun _ _ _ _ r h => by simp [tickingref02_Count.l1] at h⟩
  | k + 1 => by
    obtain ⟨ih0, ih1⟩ := tickingref02_Count.mono_l k
    refine ⟨?_, ?_⟩
    · intro y0 y1 y2
      unfold tickingref02_Count.l0
      repeat' first
      | (with_reducible exact ih0 _ _ _)
      | (with_reducible exact ih1 _ _ _ _)
      | (with_reducible exact LeO.refl _)
      | (with_reducible exact LeO.none _)
      | (with_reducible refine LeO.ite ?_ ?_)
      | (with_reducible refine LeO.bind ?_ (fun _ => ?_))
      | exact ih0 _ _ _
      | exact ih1 _ _ _ _
      | exact LeO.none _
      | refine LeO.ite ?_ ?_
      | refine LeO.bind ?_ (fun _ => ?_)
    · intro y0 y1 y2 y3
      unfold tickingref02_Count.l1
      repeat' first
      | (with_reducible exact ih0 _ _ _)
      | (with_reducible exact ih1 _ _ _ _)
      | (with_reducible exact LeO.refl _)
      | (with_reducible exact LeO.none _)
      | (with_reducible refine LeO.ite ?_ ?_)
      | (with_reducible refine LeO.bind ?_ (fun _ => ?_))
      | exact ih0 _ _ _
      | exact ih1 _ _ _ _
      | exact LeO.none _
      | refine LeO.ite ?_ ?_
      | refine LeO.bind ?_ (fun _ => ?_)
theorem tickingref02_Count.mono : ∀ a0 k, LeO (tickingref02_Count.f k a0) (tickingref02_Count.f (k + 1) a0) := by
  intro a0 k
  obtain ⟨ih0, ih1⟩ := tickingref02_Count.mono_l k
  unfold tickingref02_Count.f
  repeat' first
      | (with_reducible exact ih0 _ _ _)
      | (with_reducible exact ih1 _ _ _ _)
      | (with_reducible exact LeO.refl _)
      | (with_reducible exact LeO.none _)
      | (with_reducible refine LeO.ite ?_ ?_)
      | (with_reducible refine LeO.bind ?_ (fun _ => ?_))
      | exact ih0 _ _ _
      | exact ih1 _ _ _ _
      | exact LeO.none _
      | refine LeO.ite ?_ ?_
      | refine LeO.bind ?_ (fun _ => ?_)
def tickingref02_Count.T9 : Bool × List (List Nat × List Nat) := (true, [([], []), ([], []), ([], []), ([], []), ([2, 3], [2, 3]), ([4], [4]), ([], []), ([], []), ([7], [7]), ([6, 8], [6, 8]), ([9], [9]), ([], []), ([], []), ([], []), ([12, 13], [12, 13]), ([11, 14], [11, 14]), ([15], [15]), ([10, 16], [10, 16]), ([5, 17], [5, 17]), ([0, 1, 0, 1, 2, 3, 4, 5, 6, 7, 8, 9, 10, 11, 12, 13, 14, 15, 16, 17, 18], [0, 1]), ([19, 18, 0, 1, 2, 3, 4, 5, 6, 7, 8, 9, 10, 11, 12, 13, 14, 15, 16, 17, 18], [18, 19])])
def tickingref02_Count.B9 : List Nat := [0, 0, 0, 0, 12, 28, 0, 0, 128, 448, 960, 0, 0, 0, 12288, 30720, 63488, 131008, 262140, 524287, 1048575]
theorem tickingref02_Count.tab9 : rtab .any (opsOf Try.f38 9) = tickingref02_Count.T9 := by kernel_rfl
theorem tickingref02_Count.bits9 : waitsOk tickingref02_Count.T9.2 tickingref02_Count.B9 = true := by kernel_rfl
set_option maxHeartbeats 8000000 in
set_option maxRecDepth 100000 in
theorem tickingref02_Count.calls (k : Nat) (a0 : Int) (r : Int) (w : World) (h : tickingref02_Count.f k a0 = some r) :
    Calls Try.prog 38 #[.int .i64 a0] w fun e w' => e = .returned (.int .i64 r) ∧ Below w.heap.size w w' := by
  have HB := Aside0.mk (Below.refl w.heap.size w)
  have H : (if 0 ≤ (wrap64 (a0 + 1)) then (if (wrap64 (a0 + 1) : Int).toNat ≤ 35184372088832 then ((some (List.replicate (wrap64 (a0 + 1) : Int).toNat 0 : List Int)).bind fun y200 => (if 0 < (y200.length : Int) then (tickingref02_Count.l0 k a0 (y200.set (0 : Int).toNat 1) 1) else (none))) else (none)) else (none)) = some r := h
  clear h
  obtain ⟨ji2, hji2⟩ : ∃ j_ : Int, (wrap64 (a0 + 1)) = j_ := ⟨_, rfl⟩
  replace H : (if 0 ≤ (ji2) then (if (ji2 : Int).toNat ≤ 35184372088832 then ((some (List.replicate (ji2 : Int).toNat 0 : List Int)).bind fun y200 => (if 0 < (y200.length : Int) then (tickingref02_Count.l0 k a0 (y200.set (0 : Int).toNat 1) 1) else (none))) else (none)) else (none)) = some r := by first | (rw [hji2] at H; exact H) | (simp only [hji2] at H ⊢; exact H)
  have hji2w : (IntKind.i64.wrap (a0 + 1)) = ji2 := (i64_w _).trans hji2
  by_cases c3 : 0 ≤ (ji2)
  · rw [if_pos c3] at H
    have c3b0 := eq_true c3
    have c3b1 : decide (0 ≤ (ji2)) = true := decide_eq_true c3
    clear c3
    by_cases c4 : (ji2 : Int).toNat ≤ 35184372088832
    · rw [if_pos c4] at H
      have c4b0 := eq_true c4
      have c4b1 : decide ((ji2 : Int).toNat ≤ 35184372088832) = true := decide_eq_true c4
      clear c4
      obtain ⟨y200, hy200⟩ : ∃ y_ : List Int, y_ = (List.replicate (ji2 : Int).toNat 0) := ⟨_, rfl⟩
      replace H : (if 0 < (y200.length : Int) then (tickingref02_Count.l0 k a0 (y200.set (0 : Int).toNat 1) 1) else (none)) = some r := by first | (rw [hy200]; with_reducible exact H) | (have H2_ := (Option.bind_some _ _).symm.trans H; rw [hy200]; with_reducible exact H2_) | (have H2_ := (Option.bind_some _ _).symm.trans H; with_reducible exact H2_) | with_reducible exact H | (rw [hy200]; exact H) | exact H
      have Ny200 := Aside0.mk hy200
      clear hy200
      by_cases c5 : 0 < (y200.length : Int)
      · rw [if_pos c5] at H
        have c5b0 : decide (0 < (y200.length : Int)) = true := decide_eq_true c5
        have c5b1 : decide (0 < y200.length) = true := decide_eq_true (by omega)
        clear c5
        obtain ⟨y203, hy203⟩ : ∃ y_ : List Int, y_ = (y200.set (0 : Int).toNat 1) := ⟨_, rfl⟩
        replace H : (tickingref02_Count.l0 k a0 y203 1) = some r := by first | (rw [hy203]; with_reducible exact H) | (have H2_ := (Option.bind_some _ _).symm.trans H; rw [hy203]; with_reducible exact H2_) | (have H2_ := (Option.bind_some _ _).symm.trans H; with_reducible exact H2_) | with_reducible exact H | (rw [hy203]; exact H) | exact H
        have Ny203 := Aside0.mk hy203
        clear hy203
        have H' := Aside0.mk H
        clear H
        go_enter Try.func38, Try.ntmps38
        go_wp2_with (first | ((with_reducible refine gate_dst (N := 8) rfl ?_); refine Kd.R_make (Kd.int .i64) _ 3 rfl (N := 8) rfl 22 _ _ rfl ji2 rfl rfl Try.underlying22 (.int .i64 0) 8 info3 rfl (by decide) (by omega) 0 (ok := fun _ => True) (okp := fun _ => True) rfl (fun _ hk => hk) trivial (of_decide_eq_true (by first | (with_reducible assumption) | assumption)) (Nat.le_trans (Nat.mul_le_mul_right _ (of_decide_eq_true (by first | (with_reducible assumption) | assumption) : ji2.toNat ≤ 35184372088832)) (by omega)) (Below.refl _ _) (Nat.le_refl _) ?_; intro v201 w7 ho8 hb hg_ hnew_; clear hg_ hnew_; (first | rw [← Ny200.out] at ho8 | (simp only [Int.reduceToNat] at ho8; rw [← Ny200.out] at ho8)); have n0_ := Aside0.mk (Kd.R_lower ho8 (below_size (by repeat (first | (with_reducible first | exact HB.out | apply below_alloc | apply pw_below_drewN | apply below_drew1) | exact HB.out)))); have n1_ := Aside0.mk (below_step (by repeat (first | (with_reducible first | exact HB.out | apply below_alloc | apply pw_below_drewN | apply below_drew1) | exact HB.out)) hb); clear HB; have HO202 := n0_; have HB := n1_; clear n0_ n1_; clear hb ho8; have p6 : 0 ≤ (0 : Int) := (by omega); have q6 : (0 : Int) < ((y200.length : Int) : Int) := of_decide_eq_true (by first | (with_reducible assumption) | assumption); have qi6 : (0 < y200.length) = True := eq_true (by omega); obtain ⟨go6, co6, eo6, gb6, gl6, cl6, HG6⟩ := Kd.R_form HO202.out (by omega); (first | cases eo6 | (injection eo6 with ea_ en_ ec_; (first | subst ea_ | (injection ea_ with ea_; subst ea_)); subst ec_; clear en_)); have GB6 := Aside0.mk gb6; have GG6 := Aside0.mk HG6; clear gb6 gl6 HG6; obtain ⟨hx6_0, hf6_0⟩ := Kd.R_celln 0 HO202.out (0 : Int) p6 q6; (try rw [show ((0 : Int)).toNat = 0 from rfl] at hx6_0); (try simp only [Nat.reduceMul, Nat.zero_mul, Nat.zero_add, Nat.reduceAdd] at hx6_0); (try rw [show ((0 : Int)).toNat = 0 from rfl] at hf6_0); (try simp only [Nat.reduceMul, Nat.zero_mul, Nat.zero_add, Nat.reduceAdd] at hf6_0); replace p6 := eq_true p6; replace q6 := eq_true q6; obtain ⟨hy9_, hz9_⟩ := Kd.R_celln 0 HO202.out (0 : Int) (by omega) (of_decide_eq_true (by first | (with_reducible assumption) | assumption)); (try simp only [Int.reduceToNat, Int.toNat_zero, Int.toNat_ofNat, Nat.reduceMul, Nat.zero_mul, Nat.zero_add] at hy9_ hz9_); (try rw [show ((0 : Int)).toNat = 0 from rfl] at hy9_); (try rw [show ((0 : Int)).toNat = 0 from rfl] at hz9_); have HP9 := Kd.R_putg HO202.out (0 : Int) 1) | ((with_reducible refine gate_store (t := 3) (p := 10) rfl ?_); refine store_event (t := 3) (p := 10) (v := ?vo_w10) (w1 := (w7.setCell ⟨go6, (0 : Int).toNat, none⟩ (.int .i64 1))) ?hg ?ho ?hn ?hr ?_; (case ho => rfl); (case hg => rfl); (case hn => rfl); (case hr => first | (go_simp; done) | (go_simp; rfl)); intro w10 hw; have hg : w7.grownBy w10 (some go6) := (by rw [hw]; exact HP9.2); have hp_ : Kd.R (Kd.int .i64) 3 w10 w.heap.size (fun _ => True) (.slice (some ⟨go6, 0, none⟩) y200.length co6) y203 := (by rw [hw, Ny203.out]; exact HP9.1); clear HP9; have n0_ := Aside0.mk (hp_); have n1_ := Aside0.mk ((by rw [hw]; exact below_set (HB.out) GB6.out : Below w.heap.size w w10)); clear HO202; clear HB; have HO202 := n0_; have HB := n1_; clear n0_ n1_; clear hg hw hp_))
        go_loopg [4] k (fun kq v4 w' => ∃ (x3_1 : List Int) (x4_1 : Int), v4 = .int .i64 x4_1 ∧ Aside0 (tickingref02_Count.l0 kq a0 x3_1 x4_1 = some r) ∧ Aside0 (kq ≤ k) ∧ Aside0 (Kd.R (Kd.int .i64) 3 w' w.heap.size (fun _ => True) (.slice (some ⟨go6, 0, none⟩) y200.length co6) x3_1) ∧ Aside0 (Below w.heap.size w w'))
        case atStart => exact ⟨(y203), (1), (by first | rfl | (simp; done) | (simp [*]; done)), H', ⟨Nat.le_refl _⟩, ⟨by (with_reducible repeat (first | apply Kd.R_alloc | apply Kd.R_drewN | apply Kd.R_drew)); exact HO202.out⟩, ⟨by repeat (first | (with_reducible first | exact HB.out | apply below_alloc | apply pw_below_drewN | apply below_drew1) | exact HB.out)⟩⟩
        case round =>
          clear H'
          try clear p2
          try clear c3
          try clear c3b0
          try clear c3b1
          try clear c4
          try clear c4b0
          try clear c4b1
          try clear c5
          try clear c5b0
          try clear c5b1
          try clear p6
          try clear q6
          try clear hx6
          try clear qi6
          try clear hf6
          try clear hx6_0
          try clear p6
          try clear q6
          obtain ⟨x3_1, x4_1, rfl, HA, HK1, HO_3, HB⟩ := hrel
          have hl3_1 := (Kd.R_reads' HO_3.out).1
          rw [hl3_1] at HO_3
          (try simp only [hl3_1])
          cases gk with
          | zero => exact absurd HA.out (by simp [tickingref02_Count.l0])
          | succ k1 =>
            have H := HA.out
            clear HA
            simp only [tickingref02_Count.l0] at H
            by_cases c11 : x4_1 ≤ a0
            · rw [if_pos c11] at H
              have c11b0 : decide (x4_1 ≤ a0) = true := decide_eq_true c11
              clear c11
              have H' := Aside0.mk H
              clear H
              go_wp2
              go_loopg [5] k1 (fun kq v5 w' => ∃ (x3_2 : List Int) (x5_2 : Int), v5 = .int .i64 x5_2 ∧ Aside0 (tickingref02_Count.l1 kq a0 x3_2 x4_1 x5_2 = some r) ∧ Aside0 (kq ≤ k1) ∧ Aside0 (Kd.R (Kd.int .i64) 3 w' w.heap.size (fun _ => True) (.slice (some ⟨go6, 0, none⟩) x3_1.length co6) x3_2) ∧ Aside0 (Below w.heap.size w w'))
              case atStart => exact ⟨(x3_1), (1), (by first | rfl | (simp; done) | (simp [*]; done)), H', ⟨Nat.le_refl _⟩, ⟨by (try simp only [hl3_1]); (with_reducible repeat (first | apply Kd.R_alloc | apply Kd.R_drewN | apply Kd.R_drew)); exact HO_3.out⟩, ⟨by repeat (first | (with_reducible first | exact HB.out | apply below_alloc | apply pw_below_drewN | apply below_drew1) | exact HB.out)⟩⟩
              case round =>
                clear H'
                try clear c1
                try clear p2
                try clear c3
                try clear c3b0
                try clear c3b1
                try clear c4
                try clear c4b0
                try clear c4b1
                try clear c5
                try clear c5b0
                try clear c5b1
                try clear p6
                try clear q6
                try clear hx6
                try clear qi6
                try clear hf6
                try clear c11
                try clear c11b0
                try clear hx6_0
                try clear p2
                try clear p6
                try clear q6
                obtain ⟨x3_2, x5_2, rfl, HA, HK2, HO_3, HB⟩ := hrel
                have hl3_2 := (Kd.R_reads' HO_3.out).1
                rw [hl3_2] at HO_3
                (try simp only [hl3_2])
                cases gk with
                | zero => exact absurd HA.out (by simp [tickingref02_Count.l1])
                | succ k2 =>
                  have H := HA.out
                  clear HA
                  simp only [tickingref02_Count.l1] at H
                  by_cases c12 : x5_2 ≤ x4_1
                  · rw [if_pos c12] at H
                    have c12b0 : decide (x5_2 ≤ x4_1) = true := decide_eq_true c12
                    clear c12
                    by_cases c13 : 0 ≤ x4_1
                    · rw [if_pos c13] at H
                      have c13b0 : decide (0 ≤ x4_1) = true := decide_eq_true c13
                      clear c13
                      by_cases c14 : x4_1 < (x3_2.length : Int)
                      · rw [if_pos c14] at H
                        have c14b0 : decide (x4_1 < (x3_2.length : Int)) = true := decide_eq_true c14
                        clear c14
                        obtain ⟨ji15, hji15⟩ : ∃ j_ : Int, (wrap64 (x5_2 - 1)) = j_ := ⟨_, rfl⟩
                        replace H : (if 0 ≤ (ji15) then (if (ji15) < (x3_2.length : Int) then (if 0 ≤ (wrap64 (x4_1 - x5_2)) then (if (wrap64 (x4_1 - x5_2)) < (x3_2.length : Int) then (tickingref02_Count.l1 k2 a0 (x3_2.set (x4_1 : Int).toNat (wrap64 ((rd x3_2 x4_1) + (wrap64 ((rd x3_2 (ji15)) * (rd x3_2 (wrap64 (x4_1 - x5_2)))))))) x4_1 (wrap64 (x5_2 + 1))) else (none)) else (none)) else (none)) else (none)) = some r := by first | (rw [hji15] at H; exact H) | (simp only [hji15] at H ⊢; exact H)
                        have hji15w : (IntKind.i64.wrap (x5_2 - 1)) = ji15 := (i64_w _).trans hji15
                        by_cases c16 : 0 ≤ (ji15)
                        · rw [if_pos c16] at H
                          have c16b0 : decide (0 ≤ (ji15)) = true := decide_eq_true c16
                          clear c16
                          by_cases c17 : (ji15) < (x3_2.length : Int)
                          · rw [if_pos c17] at H
                            have c17b0 : decide ((ji15) < (x3_2.length : Int)) = true := decide_eq_true c17
                            clear c17
                            obtain ⟨ji18, hji18⟩ : ∃ j_ : Int, (wrap64 (x4_1 - x5_2)) = j_ := ⟨_, rfl⟩
                            replace H : (if 0 ≤ (ji18) then (if (ji18) < (x3_2.length : Int) then (tickingref02_Count.l1 k2 a0 (x3_2.set (x4_1 : Int).toNat (wrap64 ((rd x3_2 x4_1) + (wrap64 ((rd x3_2 (ji15)) * (rd x3_2 (ji18))))))) x4_1 (wrap64 (x5_2 + 1))) else (none)) else (none)) = some r := by first | (rw [hji18] at H; exact H) | (simp only [hji18] at H ⊢; exact H)
                            have hji18w : (IntKind.i64.wrap (x4_1 - x5_2)) = ji18 := (i64_w _).trans hji18
                            by_cases c19 : 0 ≤ (ji18)
                            · rw [if_pos c19] at H
                              have c19b0 : decide (0 ≤ (ji18)) = true := decide_eq_true c19
                              clear c19
                              by_cases c20 : (ji18) < (x3_2.length : Int)
                              · rw [if_pos c20] at H
                                have c20b0 : decide ((ji18) < (x3_2.length : Int)) = true := decide_eq_true c20
                                clear c20
                                obtain ⟨y208, hy208⟩ : ∃ y_ : List Int, y_ = (x3_2.set (x4_1 : Int).toNat (wrap64 ((rd x3_2 x4_1) + (wrap64 ((rd x3_2 (ji15)) * (rd x3_2 (ji18))))))) := ⟨_, rfl⟩
                                replace H : (tickingref02_Count.l1 k2 a0 y208 x4_1 (wrap64 (x5_2 + 1))) = some r := by first | (rw [hy208]; with_reducible exact H) | (have H2_ := (Option.bind_some _ _).symm.trans H; rw [hy208]; with_reducible exact H2_) | (have H2_ := (Option.bind_some _ _).symm.trans H; with_reducible exact H2_) | with_reducible exact H | (rw [hy208]; exact H) | exact H
                                have Ny208 := Aside0.mk hy208
                                clear hy208
                                have H' := Aside0.mk H
                                clear H
                                try go_wp2
                                have n0_ := Aside0.mk (Kd.R_drew HO_3.out)
                                have n1_ := Aside0.mk (below_drew1 HB.out)
                                clear HO_3
                                clear HB
                                have HO_3 := n0_
                                have HB := n1_
                                clear n0_ n1_
                                have p205 : 0 ≤ (x4_1 : Int) := of_decide_eq_true (by first | (with_reducible assumption) | assumption)
                                have q205 : x4_1 < (x3_2.length : Int) := of_decide_eq_true (by first | (with_reducible assumption) | assumption)
                                obtain ⟨ad205, e205, hx205_0⟩ := Kd.at_int (Kd.R_reads' HO_3.out).2.2 x4_1 p205 q205
                                obtain rfl : (⟨go6, 0, none⟩ : Addr) = ad205 := (by injection e205)
                                (first | simp only [add_plain] at hx205_0 | simp only [add_at] at hx205_0 | simp only [Addr.add, Nat.zero_add] at hx205_0 | skip)
                                replace p205 := eq_true p205
                                replace q205 := eq_true q205
                                have p206 : 0 ≤ ((ji15) : Int) := of_decide_eq_true (by first | (with_reducible assumption) | assumption)
                                have q206 : (ji15) < (x3_2.length : Int) := of_decide_eq_true (by first | (with_reducible assumption) | assumption)
                                obtain ⟨ad206, e206, hx206_0⟩ := Kd.at_int (Kd.R_reads' HO_3.out).2.2 (ji15) p206 q206
                                obtain rfl : (⟨go6, 0, none⟩ : Addr) = ad206 := (by injection e206)
                                (first | simp only [add_plain] at hx206_0 | simp only [add_at] at hx206_0 | simp only [Addr.add, Nat.zero_add] at hx206_0 | skip)
                                replace p206 := eq_true p206
                                replace q206 := eq_true q206
                                have p207 : 0 ≤ ((ji18) : Int) := of_decide_eq_true (by first | (with_reducible assumption) | assumption)
                                have q207 : (ji18) < (x3_2.length : Int) := of_decide_eq_true (by first | (with_reducible assumption) | assumption)
                                obtain ⟨ad207, e207, hx207_0⟩ := Kd.at_int (Kd.R_reads' HO_3.out).2.2 (ji18) p207 q207
                                obtain rfl : (⟨go6, 0, none⟩ : Addr) = ad207 := (by injection e207)
                                (first | simp only [add_plain] at hx207_0 | simp only [add_at] at hx207_0 | simp only [Addr.add, Nat.zero_add] at hx207_0 | skip)
                                replace p207 := eq_true p207
                                replace q207 := eq_true q207
                                have p21 : 0 ≤ (x4_1 : Int) := of_decide_eq_true (by first | (with_reducible assumption) | assumption)
                                have q21 : (x4_1 : Int) < ((x3_2.length : Int) : Int) := of_decide_eq_true (by first | (with_reducible assumption) | assumption)
                                obtain ⟨hx21_0, hf21_0⟩ := Kd.R_celln 0 HO_3.out (x4_1 : Int) p21 q21
                                replace p21 := eq_true p21
                                replace q21 := eq_true q21
                                have HP23 := Kd.R_putn HO_3.out (x4_1 : Int) (wrap64 ((rd x3_2 x4_1) + (wrap64 ((rd x3_2 (ji15)) * (rd x3_2 (ji18))))))
                                rw [← Ny208.out] at HP23
                                have HQ23 := Aside0.mk HP23
                                clear HP23
                                refine start_ (n := 21) (S := fun w' => w'.cell? ⟨go6, (x4_1).toNat, none⟩ = some (.int .i64 (rd x3_2 x4_1)) ∧ w'.cell? ⟨go6, ((ji15)).toNat, none⟩ = some (.int .i64 (rd x3_2 (ji15))) ∧ w'.cell? ⟨go6, ((ji18)).toNat, none⟩ = some (.int .i64 (rd x3_2 (ji18)))) (ds := [20]) #[false, false, false, false, false, false, false, false, false, false, false, false, false, false, false, false, false, false, false, false, false] (by kernel_rfl) rfl rfl ⟨hx205_0, hx206_0, hx207_0⟩ (fun hHeld => ?_); refine with_tabW tickingref02_Count.tab9 tickingref02_Count.bits9 (fun HT_ HW_ => ?_)
                                generalize wr.drew = w22 at HO_3 HB HQ23 hf21_0 hx205_0 hx206_0 hx207_0 hx21_0 hHeld ⊢
                                refine pure_ (i := 0) (N := some 21) (v := ?_) (a' := ?_) #[true, false, false, false, false, false, false, false, false, false, false, false, false, false, false, false, false, false, false, false, false] rfl rfl (any_of HT_.out (by kernel_rfl)) (fun _ _ _ h => h) (Or.inl ⟨by rfl, ?_⟩) ?_ ?_
                                rotate_left
                                · intro w'
                                  go_simp
                                  with_reducible rfl
                                rotate_left
                                · simp only [Act.put, List.setIfInBounds_toArray, List.set_cons_zero, List.set_cons_succ, i64_w, i32_w]
                                  rfl
                                refine pure_ (i := 1) (N := some 22) (v := ?_) (a' := ?_) #[true, true, false, false, false, false, false, false, false, false, false, false, false, false, false, false, false, false, false, false, false] rfl rfl (any_of HT_.out (by kernel_rfl)) (fun _ _ _ h => h) (Or.inl ⟨by rfl, ?_⟩) ?_ ?_
                                rotate_left
                                · intro w'
                                  go_simp
                                  with_reducible rfl
                                rotate_left
                                · simp only [Act.put, List.setIfInBounds_toArray, List.set_cons_zero, List.set_cons_succ, i64_w, i32_w]
                                  rfl
                                refine pure_ (i := 2) (N := some 23) (v := ?_) (a' := ?_) #[true, true, true, false, false, false, false, false, false, false, false, false, false, false, false, false, false, false, false, false, false] rfl rfl (any_of HT_.out (by kernel_rfl)) (fun _ _ _ h => h) (Or.inl ⟨by rfl, ?_⟩) ?_ ?_
                                rotate_left
                                · intro w'
                                  go_simp
                                  with_reducible rfl
                                rotate_left
                                · simp only [Act.put, List.setIfInBounds_toArray, List.set_cons_zero, List.set_cons_succ, i64_w, i32_w]
                                  rfl
                                refine pure_ (i := 3) (N := some 24) (v := ?_) (a' := ?_) #[true, true, true, true, false, false, false, false, false, false, false, false, false, false, false, false, false, false, false, false, false] rfl rfl (any_of HT_.out (by kernel_rfl)) (fun _ _ _ h => h) (Or.inl ⟨by rfl, ?_⟩) ?_ ?_
                                rotate_left
                                · intro w'
                                  go_simp
                                  with_reducible rfl
                                rotate_left
                                · simp only [Act.put, List.setIfInBounds_toArray, List.set_cons_zero, List.set_cons_succ, i64_w, i32_w]
                                  rfl
                                refine pure_ (i := 4) (N := some 25) (v := ?_) (a' := ?_) #[true, true, true, true, true, false, false, false, false, false, false, false, false, false, false, false, false, false, false, false, false] rfl rfl (any_of HT_.out (by kernel_rfl)) (fun _ _ _ h => h) (Or.inl ⟨by rfl, ?_⟩) ?_ ?_
                                rotate_left
                                · intro w'
                                  go_simp
                                  with_reducible rfl
                                rotate_left
                                · simp only [Act.put, List.setIfInBounds_toArray, List.set_cons_zero, List.set_cons_succ, i64_w, i32_w]
                                  rfl
                                refine pure_ (i := 6) (N := some 27) (v := ?_) (a' := ?_) #[true, true, true, true, true, false, true, false, false, false, false, false, false, false, false, false, false, false, false, false, false] rfl rfl (any_of HT_.out (by kernel_rfl)) (fun _ _ _ h => h) (Or.inl ⟨by rfl, ?_⟩) ?_ ?_
                                rotate_left
                                · intro w'
                                  go_simp
                                  with_reducible rfl
                                rotate_left
                                · simp only [Act.put, List.setIfInBounds_toArray, List.set_cons_zero, List.set_cons_succ, i64_w, i32_w]
                                  rfl
                                refine pure_ (i := 7) (N := some 28) (v := ?_) (a' := ?_) #[true, true, true, true, true, false, true, true, false, false, false, false, false, false, false, false, false, false, false, false, false] rfl rfl (any_of HT_.out (by kernel_rfl)) (fun _ _ _ h => h) (Or.inl ⟨by rfl, ?_⟩) ?_ ?_
                                rotate_left
                                · intro w'
                                  go_simp
                                  with_reducible rfl
                                rotate_left
                                · simp only [Act.put, List.setIfInBounds_toArray, List.set_cons_zero, List.set_cons_succ, i64_w, i32_w]
                                  rfl
                                refine pure_ (i := 8) (N := some 29) (v := ?_) (a' := ?_) #[true, true, true, true, true, false, true, true, true, false, false, false, false, false, false, false, false, false, false, false, false] rfl rfl (any_of HT_.out (by kernel_rfl)) (fun _ _ _ h => h) (Or.inl ⟨by rfl, ?_⟩) ?_ ?_
                                rotate_left
                                · intro w'
                                  go_simp
                                  with_reducible rfl
                                rotate_left
                                · simp only [Act.put, List.setIfInBounds_toArray, List.set_cons_zero, List.set_cons_succ, i64_w, i32_w]
                                  rfl
                                refine pure_ (i := 9) (N := some 30) (v := ?_) (a' := ?_) #[true, true, true, true, true, false, true, true, true, true, false, false, false, false, false, false, false, false, false, false, false] rfl rfl (any_of HT_.out (by kernel_rfl)) (fun _ _ _ h => h) (Or.inl ⟨by rfl, ?_⟩) ?_ ?_
                                rotate_left
                                · intro w'
                                  go_simp
                                  with_reducible rfl
                                rotate_left
                                · simp only [Act.put, List.setIfInBounds_toArray, List.set_cons_zero, List.set_cons_succ, i64_w, i32_w]
                                  rfl
                                refine pure_ (i := 11) (N := some 32) (v := ?_) (a' := ?_) #[true, true, true, true, true, false, true, true, true, true, false, true, false, false, false, false, false, false, false, false, false] rfl rfl (any_of HT_.out (by kernel_rfl)) (fun _ _ _ h => h) (Or.inl ⟨by rfl, ?_⟩) ?_ ?_
                                rotate_left
                                · intro w'
                                  go_simp
                                  with_reducible rfl
                                rotate_left
                                · simp only [Act.put, List.setIfInBounds_toArray, List.set_cons_zero, List.set_cons_succ, i64_w, i32_w]
                                  rfl
                                refine pure_ (i := 12) (N := some 33) (v := ?_) (a' := ?_) #[true, true, true, true, true, false, true, true, true, true, false, true, true, false, false, false, false, false, false, false, false] rfl rfl (any_of HT_.out (by kernel_rfl)) (fun _ _ _ h => h) (Or.inl ⟨by rfl, ?_⟩) ?_ ?_
                                rotate_left
                                · intro w'
                                  go_simp
                                  with_reducible rfl
                                rotate_left
                                · simp only [Act.put, List.setIfInBounds_toArray, List.set_cons_zero, List.set_cons_succ, i64_w, i32_w]
                                  rfl
                                refine pure_ (i := 13) (N := some 34) (v := ?_) (a' := ?_) #[true, true, true, true, true, false, true, true, true, true, false, true, true, true, false, false, false, false, false, false, false] rfl rfl (any_of HT_.out (by kernel_rfl)) (fun _ _ _ h => h) (Or.inl ⟨by rfl, ?_⟩) ?_ ?_
                                rotate_left
                                · intro w'
                                  go_simp
                                  with_reducible rfl
                                rotate_left
                                · simp only [Act.put, List.setIfInBounds_toArray, List.set_cons_zero, List.set_cons_succ, i64_w, i32_w]
                                  rfl
                                refine pure_ (i := 14) (N := some 35) (v := ?_) (a' := ?_) #[true, true, true, true, true, false, true, true, true, true, false, true, true, true, true, false, false, false, false, false, false] rfl rfl (any_of HT_.out (by kernel_rfl)) (fun _ _ _ h => h) (Or.inl ⟨by rfl, ?_⟩) ?_ ?_
                                rotate_left
                                · intro w'
                                  go_simp
                                  with_reducible rfl
                                rotate_left
                                · simp only [Act.put, List.setIfInBounds_toArray, List.set_cons_zero, List.set_cons_succ, i64_w, i32_w]
                                  rfl
                                refine pure_ (i := 15) (N := some 36) (v := ?_) (a' := ?_) #[true, true, true, true, true, false, true, true, true, true, false, true, true, true, true, true, false, false, false, false, false] rfl rfl (any_of HT_.out (by kernel_rfl)) (fun _ _ _ h => h) (Or.inl ⟨by rfl, ?_⟩) ?_ ?_
                                rotate_left
                                · intro w'
                                  go_simp
                                  with_reducible rfl
                                rotate_left
                                · simp only [Act.put, List.setIfInBounds_toArray, List.set_cons_zero, List.set_cons_succ, i64_w, i32_w]
                                  rfl
                                refine take_ (i := 5) (N := some 26) (v := ?_) (a' := ?_) #[true, true, true, true, true, true, true, true, true, true, false, true, true, true, true, true, false, false, false, false, false] rfl rfl (take_ofW HT_.out HW_.out (by kernel_rfl)) (fun _ _ _ h => h) (Or.inl ⟨by rfl, ?_⟩) hHeld ?_ ?_
                                rotate_left
                                · rintro w' ⟨s0, s1, s2⟩
                                  go_simp
                                  with_reducible rfl
                                rotate_left
                                · simp only [Act.put, List.setIfInBounds_toArray, List.set_cons_zero, List.set_cons_succ, i64_w, i32_w]
                                  rfl
                                refine take_ (i := 10) (N := some 31) (v := ?_) (a' := ?_) #[true, true, true, true, true, true, true, true, true, true, true, true, true, true, true, true, false, false, false, false, false] rfl rfl (take_ofW HT_.out HW_.out (by kernel_rfl)) (fun _ _ _ h => h) (Or.inl ⟨by rfl, ?_⟩) hHeld ?_ ?_
                                rotate_left
                                · rintro w' ⟨s0, s1, s2⟩
                                  go_simp
                                  with_reducible rfl
                                rotate_left
                                · simp only [Act.put, List.setIfInBounds_toArray, List.set_cons_zero, List.set_cons_succ, i64_w, i32_w]
                                  rfl
                                refine take_ (i := 16) (N := some 37) (v := ?_) (a' := ?_) #[true, true, true, true, true, true, true, true, true, true, true, true, true, true, true, true, true, false, false, false, false] rfl rfl (take_ofW HT_.out HW_.out (by kernel_rfl)) (fun _ _ _ h => h) (Or.inl ⟨by rfl, ?_⟩) hHeld ?_ ?_
                                rotate_left
                                · rintro w' ⟨s0, s1, s2⟩
                                  go_simp
                                  with_reducible rfl
                                rotate_left
                                · simp only [Act.put, List.setIfInBounds_toArray, List.set_cons_zero, List.set_cons_succ, i64_w, i32_w]
                                  rfl
                                refine pure_ (i := 17) (N := some 38) (v := ?_) (a' := ?_) #[true, true, true, true, true, true, true, true, true, true, true, true, true, true, true, true, true, true, false, false, false] rfl rfl (any_of HT_.out (by kernel_rfl)) (fun _ _ _ h => h) (Or.inl ⟨by rfl, ?_⟩) ?_ ?_
                                rotate_left
                                · intro w'
                                  go_simp
                                  with_reducible rfl
                                rotate_left
                                · simp only [Act.put, List.setIfInBounds_toArray, List.set_cons_zero, List.set_cons_succ, i64_w, i32_w]
                                  rfl
                                refine pure_ (i := 18) (N := some 39) (v := ?_) (a' := ?_) #[true, true, true, true, true, true, true, true, true, true, true, true, true, true, true, true, true, true, true, false, false] rfl rfl (any_of HT_.out (by kernel_rfl)) (fun _ _ _ h => h) (Or.inl ⟨by rfl, ?_⟩) ?_ ?_
                                rotate_left
                                · intro w'
                                  go_simp
                                  with_reducible rfl
                                rotate_left
                                · simp only [Act.put, List.setIfInBounds_toArray, List.set_cons_zero, List.set_cons_succ, i64_w, i32_w]
                                  rfl
                                refine pure_ (i := 19) (N := some 40) (v := ?_) (a' := ?_) #[true, true, true, true, true, true, true, true, true, true, true, true, true, true, true, true, true, true, true, true, false] rfl rfl (any_of HT_.out (by kernel_rfl)) (fun _ _ _ h => h) (Or.inl ⟨by rfl, ?_⟩) ?_ ?_
                                rotate_left
                                · intro w'
                                  go_simp
                                  with_reducible rfl
                                rotate_left
                                · simp only [Act.put, List.setIfInBounds_toArray, List.set_cons_zero, List.set_cons_succ, i64_w, i32_w]
                                  rfl
                                refine last_ (i := 20) (N := none) #[true, true, true, true, true, true, true, true, true, true, true, true, true, true, true, true, true, true, true, true, true] rfl rfl (one_of HT_.out (by kernel_rfl)) (by decide) (fun K hK => ?_)
                                refine skip_ (w1 := ?_) (by rfl) rfl ?_ ?_
                                rotate_left
                                · go_simp
                                  rfl
                                refine hK.out _ _ ?_
                                clear hK K
                                refine done_ (done_of HT_.out (by kernel_rfl)) ?_
                                try go_wp2
                                (try simp only [← hl3_2])
                                go_roundg k2
                                case measure => have := HK1.out; have := HK2.out; omega
                                case rel => exact ⟨(y208), (wrap64 (x5_2 + 1)), (by first | rfl | (simp; done) | (simp [*]; done)), H', ⟨by have := HK1.out; have := HK2.out; omega⟩, ⟨by (try simp only [hl3_1]); (try simp only [hl3_2]); (with_reducible repeat (first | apply Kd.R_alloc | apply Kd.R_drewN | apply Kd.R_drew)); exact HQ23.out⟩, ⟨by repeat (first | (with_reducible first | exact HB.out | apply below_alloc | apply pw_below_drewN | apply below_drew1 | refine below_set ?_ GB6.out) | exact HB.out)⟩⟩
                              · rw [if_neg c20] at H
                                exact absurd H (by simp)
                            · rw [if_neg c19] at H
                              exact absurd H (by simp)
                          · rw [if_neg c17] at H
                            exact absurd H (by simp)
                        · rw [if_neg c16] at H
                          exact absurd H (by simp)
                      · rw [if_neg c14] at H
                        exact absurd H (by simp)
                    · rw [if_neg c13] at H
                      exact absurd H (by simp)
                  · rw [if_neg c12] at H
                    have c12b0 : decide (x5_2 ≤ x4_1) = false := decide_eq_false c12
                    clear c12
                    have H' := Aside0.mk H
                    clear H
                    go_wp2
                    (try simp only [← hl3_1, ← hl3_2])
                    go_roundg k2
                    case measure => have := HK1.out; have := HK2.out; omega
                    case rel => exact ⟨(x3_2), (wrap64 (x4_1 + 1)), (by first | rfl | (simp; done) | (simp [*]; done)), H', ⟨by have := HK1.out; have := HK2.out; omega⟩, ⟨by (try simp only [hl3_1]); (try simp only [hl3_2]); (with_reducible repeat (first | apply Kd.R_alloc | apply Kd.R_drewN | apply Kd.R_drew)); exact HO_3.out⟩, ⟨by repeat (first | (with_reducible first | exact HB.out | apply below_alloc | apply pw_below_drewN | apply below_drew1) | exact HB.out)⟩⟩
            · rw [if_neg c11] at H
              have c11b0 : decide (x4_1 ≤ a0) = false := decide_eq_false c11
              clear c11
              by_cases c24 : 0 ≤ a0
              · rw [if_pos c24] at H
                have c24b0 : decide (0 ≤ a0) = true := decide_eq_true c24
                clear c24
                by_cases c25 : a0 < (x3_1.length : Int)
                · rw [if_pos c25] at H
                  have c25b0 : decide (a0 < (x3_1.length : Int)) = true := decide_eq_true c25
                  clear c25
                  obtain rfl := Option.some.inj H
                  have p204 : 0 ≤ (a0 : Int) := of_decide_eq_true (by first | (with_reducible assumption) | assumption)
                  have q204 : a0 < (x3_1.length : Int) := of_decide_eq_true (by first | (with_reducible assumption) | assumption)
                  obtain ⟨ad204, e204, hx204_0⟩ := Kd.at_int (Kd.R_reads' HO_3.out).2.2 a0 p204 q204
                  obtain rfl : (⟨go6, 0, none⟩ : Addr) = ad204 := (by injection e204)
                  (first | simp only [add_plain] at hx204_0 | simp only [add_at] at hx204_0 | simp only [Addr.add, Nat.zero_add] at hx204_0 | skip)
                  replace p204 := eq_true p204
                  replace q204 := eq_true q204
                  go_wp2
                  go_ret
                  exact ⟨by first | rfl | (simp [errW_none, errW_some] <;> rfl) | (simp only [← hji2]; first | rfl | (simp [errW_none, errW_some] <;> rfl)) | (simp [*, errW_none, errW_some] <;> rfl), by repeat (first | (with_reducible first | exact HB.out | apply below_alloc | apply pw_below_drewN | apply below_drew1) | exact HB.out)⟩
                · rw [if_neg c25] at H
                  exact absurd H (by simp)
              · rw [if_neg c24] at H
                exact absurd H (by simp)
      · rw [if_neg c5] at H
        exact absurd H (by simp)
    · rw [if_neg c4] at H
      exact absurd H (by simp)
  · rw [if_neg c3] at H
    exact absurd H (by simp)

end Go.Proofs.Ytjbjongahnocdaa.S

namespace Go.Proofs.Ytjbjongahnocdaa.S
open Go.Proofs.Ytjbjongahnocdaa.Lib
open Go.Proofs.Ytjbjongahnocdaa.Defs
open Go.Maps (Keyed)
open Go.RowKit Go.Proofs.YtjbjongahnocdaaW.PrintWords Go.Proofs.YtjbjongahnocdaaW.PrintLast Go.Proofs.YtjbjongahnocdaaW.PrintMore
attribute [local go_sem] max2_int min2_int max_two min_two max_three min_three max_four min_four   -- for this text's walks alone
set_option linter.unusedVariables false
set_option linter.unusedSimpArgs false

/-! ### tickingref02_Rank: function 26 -/
mutual
def tickingref02_Rank.l0 : Nat → List Int → Int → Int → Int → Int → Int → Option (Int)
  | 0, _, _, _, _, _, _ => none
  | k + 1, x0, x1, x5, x6, x7, x8 => if x8 < x6 then ((tickingref02_Count.f k (wrap64 (x8 - 1))).bind fun t210 => ((tickingref02_Count.f k (wrap64 (x5 - x8))).bind fun t211 => (tickingref02_Rank.l0 k x0 x1 x5 x6 (wrap64 (x7 + (wrap64 (t210 * t211)))) (wrap64 (x8 + 1))))) else (if 1 ≤ x6 then (if x6 ≤ (x0.length : Int) then ((tickingref02_Rank.f k ((x0.take (x6 : Int).toNat).drop 1) x1).bind fun t213 => ((tickingref02_Count.f k (wrap64 (x5 - x6))).bind fun t214 => (if 0 ≤ x6 then ((tickingref02_Rank.f k (x0.drop (x6 : Int).toNat) (wrap64 (x1 + x6))).bind fun t216 => (some (wrap64 ((wrap64 (x7 + (wrap64 (t213 * t214)))) + t216)))) else (none)))) else (none)) else (none))
def tickingref02_Rank.f : Nat → List Int → Int → Option (Int)
  | 0, _, _ => none
  | k + 1, l0, a1 => if (l0.length : Int) = 0 then (some 0) else (if 0 < (l0.length : Int) then (tickingref02_Rank.l0 k l0 a1 (l0.length : Int) (wrap64 ((rd l0 0) - a1)) 0 1) else (none))
end
theorem tickingref02_Rank.mono_l : ∀ k, (∀ y0 y1, LeO (tickingref02_Rank.f k y0 y1) (tickingref02_Rank.f (k + 1) y0 y1)) ∧ (∀ y0 y1 y2 y3 y4 y5, LeO (tickingref02_Rank.l0 k y0 y1 y2 y3 y4 y5) (tickingref02_Rank.l0 (k + 1) y0 y1 y2 y3 y4 y5))
  | 0 => ⟨fun _ _ r h => by simp [tickingref02_Rank.f] at h, fun _ _ _ _ _ _ r h => by simp [tickingref02_Rank.l0] at h⟩
  | k + 1 => by
    obtain ⟨ih0, ih1⟩ := tickingref02_Rank.mono_l k
    refine ⟨?_, ?_⟩
    · intro y0 y1
      unfold tickingref02_Rank.f
      repeat' first
      | (with_reducible exact ih0 _ _)
      | (with_reducible exact ih1 _ _ _ _ _ _)
      | (with_reducible exact tickingref02_Count.mono _ _)
      | (with_reducible exact LeO.refl _)
      | (with_reducible exact LeO.none _)
      | (with_reducible refine LeO.ite ?_ ?_)
      | (with_reducible refine LeO.bind ?_ (fun _ => ?_))
      | exact ih0 _ _
      | exact ih1 _ _ _ _ _ _
      | exact tickingref02_Count.mono _ _
      | exact LeO.none _
      | refine LeO.ite ?_ ?_
      | refine LeO.bind ?_ (fun _ => ?_)
    · intro y0 y1 y2 y3 y4 y5
      unfold tickingref02_Rank.l0
      repeat' first
      | (with_reducible exact ih0 _ _)
      | (with_reducible exact ih1 _ _ _ _ _ _)
      | (with_reducible exact tickingref02_Count.mono _ _)
      | (with_reducible exact LeO.refl _)
      | (with_reducible exact LeO.none _)
      | (with_reducible refine LeO.ite ?_ ?_)
      | (with_reducible refine LeO.bind ?_ (fun _ => ?_))
      | exact ih0 _ _
      | exact ih1 _ _ _ _ _ _
      | exact tickingref02_Count.mono _ _
      | exact LeO.none _
      | refine LeO.ite ?_ ?_
      | refine LeO.bind ?_ (fun _ => ?_)
theorem tickingref02_Rank.mono : ∀ a0 a1 k, LeO (tickingref02_Rank.f k a0 a1) (tickingref02_Rank.f (k + 1) a0 a1) := by
  intro a0 a1 k
  obtain ⟨ih0, ih1⟩ := tickingref02_Rank.mono_l k
  exact ih0 a0 a1
def tickingref02_Rank.T10 : Bool × List (List Nat × List Nat) := (true, [([], []), ([], []), ([], []), ([1, 2], [1, 2]), ([], []), ([3, 4], [3, 4]), ([], []), ([], []), ([6, 7], [6, 7]), ([8, 5], [8]), ([5, 9], [5, 9]), ([0, 10], [0, 10]), ([], []), ([], []), ([12, 13], [12, 13]), ([], []), ([], []), ([15, 16], [15, 16]), ([14, 17, 9], [14, 17]), ([11, 18], [11, 18]), ([19, 18, 0, 1, 2, 3, 4, 5, 6, 7, 8, 9, 10, 11, 12, 13, 14, 15, 16, 17, 18, 19], [19])])
def tickingref02_Rank.B10 : List Nat := [0, 0, 0, 6, 0, 30, 0, 0, 192, 510, 1022, 2047, 0, 0, 12288, 0, 0, 98304, 259070, 524287, 1048575]
theorem tickingref02_Rank.tab10 : rtab .any (opsOf Try.f26 10) = tickingref02_Rank.T10 := by kernel_rfl
theorem tickingref02_Rank.bits10 : waitsOk tickingref02_Rank.T10.2 tickingref02_Rank.B10 = true := by kernel_rfl
set_option maxHeartbeats 8000000 in
set_option maxRecDepth 100000 in
theorem tickingref02_Rank.calls (k : Nat) : ∀ (A0 : Option Addr) (c0 : Nat) (l0 : List Int) (a1 : Int) (r : Int) (w : World) (hr0 : Kd.C (Kd.int .i64) w A0 l0.length l0) (hc0 : l0.length ≤ c0) (h : tickingref02_Rank.f k l0 a1 = some r),
    Calls Try.prog 26 #[.slice A0 l0.length c0, .int .i64 a1] w fun e w' => e = .returned (.int .i64 r) ∧ Below w.heap.size w w' := by
  induction k using Nat.strongRecOn with
  | _ k ih =>
  intro A0 c0 l0 a1 r w hr0 hc0 h
  cases k with
  | zero => exact absurd h (by simp [tickingref02_Rank.f])
  | succ k =>
  simp only [tickingref02_Rank.f] at h
  have HR0 := Aside0.mk hr0
  have HC0 := Aside0.mk hc0
  clear hr0 hc0
  have HB := Aside0.mk (Below.refl w.heap.size w)
  have H : (if (l0.length : Int) = 0 then (some 0) else (if 0 < (l0.length : Int) then (tickingref02_Rank.l0 k l0 a1 (l0.length : Int) (wrap64 ((rd l0 0) - a1)) 0 1) else (none))) = some r := h
  clear h
  by_cases c3 : (l0.length : Int) = 0
  · rw [if_pos c3] at H
    have c3b0 : ((l0.length : Int) == 0) = true := beq_iff_eq.mpr c3
    have c3b1 : ((l0.length : Int) != 0) = false := bne_eq_false_iff_eq.mpr c3
    clear c3
    obtain rfl := Option.some.inj H
    go_enter Try.func26, Try.ntmps26
    go_wp2
    go_ret
    exact ⟨by first | rfl | (simp [errW_none, errW_some] <;> rfl) | (simp [*, errW_none, errW_some] <;> rfl), by repeat (first | (with_reducible first | exact HB.out | apply below_alloc | apply pw_below_drewN | apply below_drew1) | exact HB.out)⟩
  · rw [if_neg c3] at H
    have c3b0 : ((l0.length : Int) == 0) = false := beq_eq_false_iff_ne.mpr c3
    have c3b1 : ((l0.length : Int) != 0) = true := bne_iff_ne.mpr c3
    have c3b2 : ¬ (l0 = []) := fun h_ => c3 (by rw [h_]; rfl)
    by_cases c4 : 0 < (l0.length : Int)
    · rw [if_pos c4] at H
      have c4b0 : decide (0 < (l0.length : Int)) = true := decide_eq_true c4
      have c4b1 : decide (0 < l0.length) = true := decide_eq_true (by omega)
      clear c4
      have H' := Aside0.mk H
      clear H
      have p209 : 0 ≤ (0 : Int) := (by omega)
      have q209 : 0 < (l0.length : Int) := of_decide_eq_true (by first | (with_reducible assumption) | assumption)
      obtain ⟨ad209, e209, hx209_0⟩ := Kd.at_int HR0.out 0 p209 q209
      cases e209
      have qi209 : (0 < l0.length) = True := eq_true (by omega)
      (try rw [show ((0 : Int)).toNat = 0 from rfl] at hx209_0)
      (try rw [Addr.add_zero'] at hx209_0)
      replace p209 := eq_true p209
      replace q209 := eq_true q209
      go_enter Try.func26, Try.ntmps26
      go_wp2
      go_loopg [7, 8] k (fun kq v7 v8 w' => ∃ (x7_1 : Int) (x8_1 : Int), v7 = .int .i64 x7_1 ∧ v8 = .int .i64 x8_1 ∧ Aside0 (tickingref02_Rank.l0 kq l0 a1 (l0.length : Int) (wrap64 ((rd l0 0) - a1)) x7_1 x8_1 = some r) ∧ Aside0 (kq ≤ k) ∧ Aside0 (Below w.heap.size w w'))
      case atStart => exact ⟨(0), (1), (by first | rfl | (simp; done) | (simp [*]; done)), (by first | rfl | (simp; done) | (simp [*]; done)), H', ⟨Nat.le_refl _⟩, ⟨by repeat (first | (with_reducible first | exact HB.out | apply below_alloc | apply pw_below_drewN | apply below_drew1) | exact HB.out)⟩⟩
      case round =>
        clear H'
        try clear c2
        try clear p2
        try clear q2
        try clear hx2
        try clear qi2
        try clear c3
        try clear c3b0
        try clear c3b1
        try clear c3b2
        try clear c4
        try clear c4b0
        try clear c4b1
        try clear hx209_0
        try clear p209
        try clear q209
        obtain ⟨x7_1, x8_1, rfl, rfl, HA, HK1, HB⟩ := hrel
        cases gk with
        | zero => exact absurd HA.out (by simp [tickingref02_Rank.l0])
        | succ k1 =>
          have H := HA.out
          clear HA
          simp only [tickingref02_Rank.l0] at H
          by_cases c5 : x8_1 < (wrap64 ((rd l0 0) - a1))
          · rw [if_pos c5] at H
            have c5b0 : decide (x8_1 < (wrap64 ((rd l0 0) - a1))) = true := decide_eq_true c5
            clear c5
            replace H := Option.bind_eq_some_iff.mp H
            obtain ⟨t210, A60, H⟩ := H
            replace H : ((tickingref02_Count.f k1 (wrap64 ((l0.length : Int) - x8_1))).bind fun t211 => (tickingref02_Rank.l0 k1 l0 a1 (l0.length : Int) (wrap64 ((rd l0 0) - a1)) (wrap64 (x7_1 + (wrap64 (t210 * t211)))) (wrap64 (x8_1 + 1)))) = some r := H
            have A6 := Aside0.mk A60
            clear A60
            replace H := Option.bind_eq_some_iff.mp H
            obtain ⟨t211, A70, H⟩ := H
            replace H : (tickingref02_Rank.l0 k1 l0 a1 (l0.length : Int) (wrap64 ((rd l0 0) - a1)) (wrap64 (x7_1 + (wrap64 (t210 * t211)))) (wrap64 (x8_1 + 1))) = some r := H
            have A7 := Aside0.mk A70
            clear A70
            have H' := Aside0.mk H
            clear H
            go_wp2_with (first | ((with_reducible refine gate_callee (f := 38) rfl ?_); refine goesL_ (some 26) rfl rfl Try.func38 (by kernel_rfl) rfl #[.int .i64 (wrap64 (x8_1 - 1))] rfl (by (try simp only [List.map_toArray, List.map_cons, List.map_nil]); first | done | rfl | (simp only [List.length_drop, List.length_take]; rfl)) ?_; (with_reducible refine (tickingref02_Count.calls k1 (wrap64 (x8_1 - 1)) t210 _ A6.out).mono ?_); rintro e w8 ⟨rfl, hb⟩; refine ⟨_, rfl, ?_⟩; have n0_ := Aside0.mk (below_step (by repeat (first | (with_reducible first | exact HB.out | apply below_alloc | apply pw_below_drewN | apply below_drew1) | exact HB.out)) hb); clear HB; have HB := n0_; clear n0_; (try clear hb); (try clear hb2); (try clear hk); (try clear hi)) | ((with_reducible refine gate_callee (f := 38) rfl ?_); refine goesL_ (some 30) rfl rfl Try.func38 (by kernel_rfl) rfl #[.int .i64 (wrap64 ((l0.length : Int) - x8_1))] rfl (by (try simp only [List.map_toArray, List.map_cons, List.map_nil]); first | done | rfl | (simp only [List.length_drop, List.length_take]; rfl)) ?_; (with_reducible refine (tickingref02_Count.calls k1 (wrap64 ((l0.length : Int) - x8_1)) t211 _ A7.out).mono ?_); rintro e w9 ⟨rfl, hb⟩; refine ⟨_, rfl, ?_⟩; have n0_ := Aside0.mk (below_step (by repeat (first | (with_reducible first | exact HB.out | apply below_alloc | apply pw_below_drewN | apply below_drew1) | exact HB.out)) hb); clear HB; have HB := n0_; clear n0_; (try clear hb); (try clear hb2); (try clear hk); (try clear hi)))
            go_roundg k1
            case measure => have := HK1.out; omega
            case rel => exact ⟨(wrap64 (x7_1 + (wrap64 (t210 * t211)))), (wrap64 (x8_1 + 1)), (by first | rfl | (simp; done) | (simp [*]; done)), (by first | rfl | (simp; done) | (simp [*]; done)), H', ⟨by have := HK1.out; omega⟩, ⟨by repeat (first | (with_reducible first | exact HB.out | apply below_alloc | apply pw_below_drewN | apply below_drew1) | exact HB.out)⟩⟩
          · rw [if_neg c5] at H
            have c5b0 : decide (x8_1 < (wrap64 ((rd l0 0) - a1))) = false := decide_eq_false c5
            clear c5
            by_cases c10 : 1 ≤ (wrap64 ((rd l0 0) - a1))
            · rw [if_pos c10] at H
              have c10b0 := eq_true c10
              have c10b1 : decide (1 ≤ (wrap64 ((rd l0 0) - a1))) = true := decide_eq_true c10
              clear c10
              by_cases c11 : (wrap64 ((rd l0 0) - a1)) ≤ (l0.length : Int)
              · rw [if_pos c11] at H
                have c11b0 := eq_true c11
                have c11b1 : decide ((wrap64 ((rd l0 0) - a1)) ≤ (l0.length : Int)) = true := decide_eq_true c11
                clear c11
                replace H := Option.bind_eq_some_iff.mp H
                obtain ⟨t213, A120, H⟩ := H
                replace H : ((tickingref02_Count.f k1 (wrap64 ((l0.length : Int) - (wrap64 ((rd l0 0) - a1))))).bind fun t214 => (if 0 ≤ (wrap64 ((rd l0 0) - a1)) then ((tickingref02_Rank.f k1 (l0.drop ((wrap64 ((rd l0 0) - a1)) : Int).toNat) (wrap64 (a1 + (wrap64 ((rd l0 0) - a1))))).bind fun t216 => (some (wrap64 ((wrap64 (x7_1 + (wrap64 (t213 * t214)))) + t216)))) else (none))) = some r := H
                have A12 := Aside0.mk A120
                clear A120
                replace H := Option.bind_eq_some_iff.mp H
                obtain ⟨t214, A130, H⟩ := H
                replace H : (if 0 ≤ (wrap64 ((rd l0 0) - a1)) then ((tickingref02_Rank.f k1 (l0.drop ((wrap64 ((rd l0 0) - a1)) : Int).toNat) (wrap64 (a1 + (wrap64 ((rd l0 0) - a1))))).bind fun t216 => (some (wrap64 ((wrap64 (x7_1 + (wrap64 (t213 * t214)))) + t216)))) else (none)) = some r := H
                have A13 := Aside0.mk A130
                clear A130
                obtain ⟨ji14, hji14⟩ : ∃ j_ : Int, (wrap64 ((rd l0 0) - a1)) = j_ := ⟨_, rfl⟩
                replace H : (if 0 ≤ (ji14) then ((tickingref02_Rank.f k1 (l0.drop ((ji14) : Int).toNat) (wrap64 (a1 + (ji14)))).bind fun t216 => (some (wrap64 ((wrap64 (x7_1 + (wrap64 (t213 * t214)))) + t216)))) else (none)) = some r := by first | (rw [hji14] at H; exact H) | (simp only [hji14] at H ⊢; exact H)
                (try rw [hji14] at c5b0)
                (try rw [hji14] at c10b0)
                (try rw [hji14] at c10b1)
                (try rw [hji14] at c11b0)
                (try rw [hji14] at c11b1)
                (try rw [hji14] at A12)
                (try rw [hji14] at A13)
                have hji14w : (IntKind.i64.wrap ((rd l0 0) - a1)) = ji14 := (i64_w _).trans hji14
                by_cases c15 : 0 ≤ (ji14)
                · rw [if_pos c15] at H
                  have c15b0 := eq_true c15
                  have c15b1 : decide (0 ≤ (ji14)) = true := decide_eq_true c15
                  clear c15
                  have c16b0 := eq_true (of_decide_eq_true (by first | (with_reducible assumption) | assumption) : (ji14) ≤ (l0.length : Int))
                  replace H := Option.bind_eq_some_iff.mp H
                  obtain ⟨t216, A170, H⟩ := H
                  replace H : (some (wrap64 ((wrap64 (x7_1 + (wrap64 (t213 * t214)))) + t216))) = some r := H
                  have A17 := Aside0.mk A170
                  clear A170
                  obtain rfl := Option.some.inj H
                  try go_wp2
                  have n0_ := Aside0.mk (below_drew1 HB.out)
                  clear HB
                  have HB := n0_
                  clear n0_
                  obtain ⟨i019, hi019, _, hsz19, _⟩ := info_parts info3
                  obtain ⟨A19, hcut19, hA19, hC19⟩ := print_mid_of (P := Try.prog) (Value.int .i64) 0 22 3 .i64 .i64 Try.underlying22 hi019 hsz19 (some ad209) c0 l0 1 (ji14) (by omega) (by first | omega | exact of_decide_eq_true (by first | (with_reducible assumption) | assumption)) (of_decide_eq_true (by first | (with_reducible assumption) | assumption)) HC0.out
                  have HR212 := Aside0.mk (Kd.C_of_reads (h1 := fun _ => rfl) (hA19 _ (Kd.reads_of_C HR0.out)))
                  have HC212 := Aside0.mk hC19
                  clear hA19 hC19 hi019 hsz19
                  obtain ⟨i020, hi020, _, hsz20, _⟩ := info_parts info3
                  obtain ⟨A20, hcut20, hA20, hC20⟩ := print_drop_of (P := Try.prog) (Value.int .i64) 0 22 3 .i64 Try.underlying22 hi020 hsz20 (some ad209) c0 l0 (ji14) (of_decide_eq_true (by first | (with_reducible assumption) | assumption)) (of_decide_eq_true (by first | (with_reducible assumption) | assumption)) HC0.out
                  have HR215 := Aside0.mk (Kd.C_of_reads (h1 := fun _ => rfl) (hA20 _ (Kd.reads_of_C HR0.out)))
                  have HC215 := Aside0.mk hC20
                  clear hA20 hC20 hi020 hsz20
                  refine start_ (n := 21) (S := fun w' => True) (ds := []) #[false, false, false, false, false, false, false, false, false, false, false, false, false, false, false, false, false, false, false, false, false] (by kernel_rfl) rfl rfl trivial (fun hHeld => ?_); refine with_tabW tickingref02_Rank.tab10 tickingref02_Rank.bits10 (fun HT_ HW_ => ?_)
                  generalize wr.drew = w18 at HB HR212 HR215 hHeld ⊢
                  refine pure_ (i := 0) (N := some 33) (v := ?_) (a' := ?_) #[true, false, false, false, false, false, false, false, false, false, false, false, false, false, false, false, false, false, false, false, false] rfl rfl (any_of HT_.out (by kernel_rfl)) (fun _ _ _ h => h) (Or.inl ⟨by rfl, ?_⟩) ?_ ?_
                  rotate_left
                  · intro w'
                    go_simp
                    with_reducible rfl
                  rotate_left
                  · simp only [Act.put, List.setIfInBounds_toArray, List.set_cons_zero, List.set_cons_succ, i64_w, i32_w]
                    rfl
                  refine pure_ (i := 1) (N := some 34) (v := ?_) (a' := ?_) #[true, true, false, false, false, false, false, false, false, false, false, false, false, false, false, false, false, false, false, false, false] rfl rfl (any_of HT_.out (by kernel_rfl)) (fun _ _ _ h => h) (Or.inl ⟨by rfl, ?_⟩) ?_ ?_
                  rotate_left
                  · intro w'
                    go_simp
                    with_reducible rfl
                  rotate_left
                  · simp only [Act.put, List.setIfInBounds_toArray, List.set_cons_zero, List.set_cons_succ, i64_w, i32_w]
                    rfl
                  refine pure_ (i := 2) (N := some 35) (v := ?_) (a' := ?_) #[true, true, true, false, false, false, false, false, false, false, false, false, false, false, false, false, false, false, false, false, false] rfl rfl (any_of HT_.out (by kernel_rfl)) (fun _ _ _ h => h) (Or.inl ⟨by rfl, ?_⟩) ?_ ?_
                  rotate_left
                  · intro w'
                    go_simp
                    with_reducible rfl
                  rotate_left
                  · simp only [Act.put, List.setIfInBounds_toArray, List.set_cons_zero, List.set_cons_succ, i64_w, i32_w]
                    rfl
                  refine pure_ (i := 3) (N := some 36) (v := ?_) (a' := ?_) #[true, true, true, true, false, false, false, false, false, false, false, false, false, false, false, false, false, false, false, false, false] rfl rfl (any_of HT_.out (by kernel_rfl)) (fun _ _ _ h => h) (Or.inl ⟨by rfl, ?_⟩) ?_ ?_
                  rotate_left
                  · intro w'
                    go_simp
                    with_reducible rfl
                  rotate_left
                  · simp only [Act.put, List.setIfInBounds_toArray, List.set_cons_zero, List.set_cons_succ, i64_w, i32_w]
                    rfl
                  refine pure_ (i := 4) (N := some 37) (v := ?_) (a' := ?_) #[true, true, true, true, true, false, false, false, false, false, false, false, false, false, false, false, false, false, false, false, false] rfl rfl (any_of HT_.out (by kernel_rfl)) (fun _ _ _ h => h) (Or.inl ⟨by rfl, ?_⟩) ?_ ?_
                  rotate_left
                  · intro w'
                    go_simp
                    with_reducible rfl
                  rotate_left
                  · simp only [Act.put, List.setIfInBounds_toArray, List.set_cons_zero, List.set_cons_succ, i64_w, i32_w]
                    rfl
                  refine pure_ (i := 6) (N := some 39) (v := ?_) (a' := ?_) #[true, true, true, true, true, false, true, false, false, false, false, false, false, false, false, false, false, false, false, false, false] rfl rfl (any_of HT_.out (by kernel_rfl)) (fun _ _ _ h => h) (Or.inl ⟨by rfl, ?_⟩) ?_ ?_
                  rotate_left
                  · intro w'
                    go_simp
                    with_reducible rfl
                  rotate_left
                  · simp only [Act.put, List.setIfInBounds_toArray, List.set_cons_zero, List.set_cons_succ, i64_w, i32_w]
                    rfl
                  refine pure_ (i := 7) (N := some 40) (v := ?_) (a' := ?_) #[true, true, true, true, true, false, true, true, false, false, false, false, false, false, false, false, false, false, false, false, false] rfl rfl (any_of HT_.out (by kernel_rfl)) (fun _ _ _ h => h) (Or.inl ⟨by rfl, ?_⟩) ?_ ?_
                  rotate_left
                  · intro w'
                    go_simp
                    with_reducible rfl
                  rotate_left
                  · simp only [Act.put, List.setIfInBounds_toArray, List.set_cons_zero, List.set_cons_succ, i64_w, i32_w]
                    rfl
                  refine pure_ (i := 8) (N := some 41) (v := ?_) (a' := ?_) #[true, true, true, true, true, false, true, true, true, false, false, false, false, false, false, false, false, false, false, false, false] rfl rfl (any_of HT_.out (by kernel_rfl)) (fun _ _ _ h => h) (Or.inl ⟨by rfl, ?_⟩) ?_ ?_
                  rotate_left
                  · intro w'
                    go_simp
                    with_reducible rfl
                  rotate_left
                  · simp only [Act.put, List.setIfInBounds_toArray, List.set_cons_zero, List.set_cons_succ, i64_w, i32_w]
                    rfl
                  refine pure_ (i := 12) (N := some 45) (v := ?_) (a' := ?_) #[true, true, true, true, true, false, true, true, true, false, false, false, true, false, false, false, false, false, false, false, false] rfl rfl (any_of HT_.out (by kernel_rfl)) (fun _ _ _ h => h) (Or.inl ⟨by rfl, ?_⟩) ?_ ?_
                  rotate_left
                  · intro w'
                    go_simp
                    with_reducible rfl
                  rotate_left
                  · simp only [Act.put, List.setIfInBounds_toArray, List.set_cons_zero, List.set_cons_succ, i64_w, i32_w]
                    rfl
                  refine pure_ (i := 13) (N := some 46) (v := ?_) (a' := ?_) #[true, true, true, true, true, false, true, true, true, false, false, false, true, true, false, false, false, false, false, false, false] rfl rfl (any_of HT_.out (by kernel_rfl)) (fun _ _ _ h => h) (Or.inl ⟨by rfl, ?_⟩) ?_ ?_
                  rotate_left
                  · intro w'
                    go_simp
                    with_reducible rfl
                  rotate_left
                  · simp only [Act.put, List.setIfInBounds_toArray, List.set_cons_zero, List.set_cons_succ, i64_w, i32_w]
                    rfl
                  refine pure_ (i := 14) (N := some 47) (v := ?_) (a' := ?_) #[true, true, true, true, true, false, true, true, true, false, false, false, true, true, true, false, false, false, false, false, false] rfl rfl (any_of HT_.out (by kernel_rfl)) (fun _ _ _ h => h) (Or.inl ⟨by rfl, ?_⟩) ?_ ?_
                  rotate_left
                  · intro w'
                    go_simp
                    with_reducible rfl
                  rotate_left
                  · simp only [Act.put, List.setIfInBounds_toArray, List.set_cons_zero, List.set_cons_succ, i64_w, i32_w]
                    rfl
                  refine pure_ (i := 15) (N := some 48) (v := ?_) (a' := ?_) #[true, true, true, true, true, false, true, true, true, false, false, false, true, true, true, true, false, false, false, false, false] rfl rfl (any_of HT_.out (by kernel_rfl)) (fun _ _ _ h => h) (Or.inl ⟨by rfl, ?_⟩) ?_ ?_
                  rotate_left
                  · intro w'
                    go_simp
                    with_reducible rfl
                  rotate_left
                  · simp only [Act.put, List.setIfInBounds_toArray, List.set_cons_zero, List.set_cons_succ, i64_w, i32_w]
                    rfl
                  refine pure_ (i := 16) (N := some 49) (v := ?_) (a' := ?_) #[true, true, true, true, true, false, true, true, true, false, false, false, true, true, true, true, true, false, false, false, false] rfl rfl (any_of HT_.out (by kernel_rfl)) (fun _ _ _ h => h) (Or.inl ⟨by rfl, ?_⟩) ?_ ?_
                  rotate_left
                  · intro w'
                    go_simp
                    with_reducible rfl
                  rotate_left
                  · simp only [Act.put, List.setIfInBounds_toArray, List.set_cons_zero, List.set_cons_succ, i64_w, i32_w]
                    rfl
                  refine pure_ (i := 17) (N := some 50) (v := ?_) (a' := ?_) #[true, true, true, true, true, false, true, true, true, false, false, false, true, true, true, true, true, true, false, false, false] rfl rfl (any_of HT_.out (by kernel_rfl)) (fun _ _ _ h => h) (Or.inl ⟨by rfl, ?_⟩) ?_ ?_
                  rotate_left
                  · intro w'
                    go_simp
                    with_reducible rfl
                  rotate_left
                  · simp only [Act.put, List.setIfInBounds_toArray, List.set_cons_zero, List.set_cons_succ, i64_w, i32_w]
                    rfl
                  refine one_ (i := 5) (N := some 38) #[true, true, true, true, true, true, true, true, true, false, false, false, true, true, true, true, true, true, false, false, false] rfl rfl (one_of HT_.out (by kernel_rfl)) (by decide) (fun K hK => ?_)
                  refine goes_ Try.func26 (by kernel_rfl) rfl #[.slice A19 ((l0.take ((ji14) : Int).toNat).drop 1).length (c0 - 1), .int .i64 a1] (by rfl) rfl rfl (by (try simp only [List.map_toArray, List.map_cons, List.map_nil]); first | done | (rw [show ((l0.take ((ji14) : Int).toNat).drop 1).length = ((ji14).toNat - 1) from (by rw [List.length_drop, List.length_take]; have h_ : ((ji14) : Int) ≤ (l0.length : Int) := of_decide_eq_true (by first | (with_reducible assumption) | assumption); omega)] <;> rfl) | (simp only [hji14]; rfl) | rfl | (simp only [List.length_drop, List.length_take]; rfl)) ?_
                  with_reducible refine (ih k1 (by have := HK1.out; omega) _ _ ((l0.take ((ji14) : Int).toNat).drop 1) a1 t213 _ ?side1 ?side2 A12.out).mono ?_
                  (case side1 => repeat (first | exact (Kd.C_below HR212.out HB.out) | (with_reducible refine Kd.C_alloc ?_ _) | (with_reducible refine Kd.C_drewN ?_ _) | (with_reducible refine Kd.C_drew ?_)))
                  (case side2 => exact HC212.out)
                  rintro e w21 ⟨rfl, hb⟩
                  refine ⟨_, rfl, ?_⟩
                  have n0_ := Aside0.mk (below_step (by repeat (first | (with_reducible first | exact HB.out | apply below_alloc | apply pw_below_drewN | apply below_drew1) | exact HB.out)) hb)
                  clear HB
                  have HB := n0_
                  clear n0_
                  (try clear hb)
                  (try clear hb2)
                  (try clear hk)
                  (try clear hi)
                  refine hK.out _ _ trivial (fun hHeld => ?_)
                  clear hK K
                  refine norm_ (a' := ?_) ?_ ?_
                  rotate_left
                  · show Act.put _ (some 38) _ = _
                    simp only [Act.put, List.setIfInBounds_toArray, List.set_cons_zero, List.set_cons_succ, i64_w, i32_w]
                    rfl
                  refine one_ (i := 9) (N := some 42) #[true, true, true, true, true, true, true, true, true, true, false, false, true, true, true, true, true, true, false, false, false] rfl rfl (one_of HT_.out (by kernel_rfl)) (by decide) (fun K hK => ?_)
                  refine goes_ Try.func38 (by kernel_rfl) rfl #[.int .i64 (wrap64 ((l0.length : Int) - (ji14)))] (by rfl) rfl rfl (by (try simp only [List.map_toArray, List.map_cons, List.map_nil]); first | done | (simp only [hji14]; rfl) | rfl | (simp only [List.length_drop, List.length_take]; rfl)) ?_
                  with_reducible refine (tickingref02_Count.calls k1 (wrap64 ((l0.length : Int) - (ji14))) t214 _ A13.out).mono ?_
                  rintro e w22 ⟨rfl, hb⟩
                  refine ⟨_, rfl, ?_⟩
                  have n0_ := Aside0.mk (below_step (by repeat (first | (with_reducible first | exact HB.out | apply below_alloc | apply pw_below_drewN | apply below_drew1) | exact HB.out)) hb)
                  clear HB
                  have HB := n0_
                  clear n0_
                  (try clear hb)
                  (try clear hb2)
                  (try clear hk)
                  (try clear hi)
                  refine hK.out _ _ trivial (fun hHeld => ?_)
                  clear hK K
                  refine norm_ (a' := ?_) ?_ ?_
                  rotate_left
                  · show Act.put _ (some 42) _ = _
                    simp only [Act.put, List.setIfInBounds_toArray, List.set_cons_zero, List.set_cons_succ, i64_w, i32_w]
                    rfl
                  refine pure_ (i := 10) (N := some 43) (v := ?_) (a' := ?_) #[true, true, true, true, true, true, true, true, true, true, true, false, true, true, true, true, true, true, false, false, false] rfl rfl (any_of HT_.out (by kernel_rfl)) (fun _ _ _ h => h) (Or.inl ⟨by rfl, ?_⟩) ?_ ?_
                  rotate_left
                  · intro w'
                    go_simp
                    with_reducible rfl
                  rotate_left
                  · simp only [Act.put, List.setIfInBounds_toArray, List.set_cons_zero, List.set_cons_succ, i64_w, i32_w]
                    rfl
                  refine pure_ (i := 11) (N := some 44) (v := ?_) (a' := ?_) #[true, true, true, true, true, true, true, true, true, true, true, true, true, true, true, true, true, true, false, false, false] rfl rfl (any_of HT_.out (by kernel_rfl)) (fun _ _ _ h => h) (Or.inl ⟨by rfl, ?_⟩) ?_ ?_
                  rotate_left
                  · intro w'
                    go_simp
                    with_reducible rfl
                  rotate_left
                  · simp only [Act.put, List.setIfInBounds_toArray, List.set_cons_zero, List.set_cons_succ, i64_w, i32_w]
                    rfl
                  refine one_ (i := 18) (N := some 51) #[true, true, true, true, true, true, true, true, true, true, true, true, true, true, true, true, true, true, true, false, false] rfl rfl (one_of HT_.out (by kernel_rfl)) (by decide) (fun K hK => ?_)
                  refine goes_ Try.func26 (by kernel_rfl) rfl #[.slice A20 (l0.drop ((ji14) : Int).toNat).length (c0 - (ji14).toNat), .int .i64 (wrap64 (a1 + (ji14)))] (by rfl) rfl rfl (by (try simp only [List.map_toArray, List.map_cons, List.map_nil]); first | done | (rw [show (l0.drop ((ji14) : Int).toNat).length = (l0.length - (ji14).toNat) from List.length_drop] <;> rfl) | (simp only [hji14]; rfl) | rfl | (simp only [List.length_drop, List.length_take]; rfl)) ?_
                  with_reducible refine (ih k1 (by have := HK1.out; omega) _ _ (l0.drop ((ji14) : Int).toNat) (wrap64 (a1 + (ji14))) t216 _ ?side1 ?side2 A17.out).mono ?_
                  (case side1 => repeat (first | exact (Kd.C_below HR215.out HB.out) | (with_reducible refine Kd.C_alloc ?_ _) | (with_reducible refine Kd.C_drewN ?_ _) | (with_reducible refine Kd.C_drew ?_)))
                  (case side2 => exact HC215.out)
                  rintro e w23 ⟨rfl, hb⟩
                  refine ⟨_, rfl, ?_⟩
                  have n0_ := Aside0.mk (below_step (by repeat (first | (with_reducible first | exact HB.out | apply below_alloc | apply pw_below_drewN | apply below_drew1) | exact HB.out)) hb)
                  clear HB
                  have HB := n0_
                  clear n0_
                  (try clear hb)
                  (try clear hb2)
                  (try clear hk)
                  (try clear hi)
                  refine hK.out _ _ trivial (fun hHeld => ?_)
                  clear hK K
                  refine norm_ (a' := ?_) ?_ ?_
                  rotate_left
                  · show Act.put _ (some 51) _ = _
                    simp only [Act.put, List.setIfInBounds_toArray, List.set_cons_zero, List.set_cons_succ, i64_w, i32_w]
                    rfl
                  refine pure_ (i := 19) (N := some 52) (v := ?_) (a' := ?_) #[true, true, true, true, true, true, true, true, true, true, true, true, true, true, true, true, true, true, true, true, false] rfl rfl (any_of HT_.out (by kernel_rfl)) (fun _ _ _ h => h) (Or.inl ⟨by rfl, ?_⟩) ?_ ?_
                  rotate_left
                  · intro w'
                    go_simp
                    with_reducible rfl
                  rotate_left
                  · simp only [Act.put, List.setIfInBounds_toArray, List.set_cons_zero, List.set_cons_succ, i64_w, i32_w]
                    rfl
                  refine pure_ (i := 20) (N := some 4) (v := ?_) (a' := ?_) #[true, true, true, true, true, true, true, true, true, true, true, true, true, true, true, true, true, true, true, true, true] rfl rfl (any_of HT_.out (by kernel_rfl)) (fun _ _ _ h => h) (Or.inl ⟨by rfl, ?_⟩) ?_ ?_
                  rotate_left
                  · intro w'
                    go_simp
                    with_reducible rfl
                  rotate_left
                  · simp only [Act.put, List.setIfInBounds_toArray, List.set_cons_zero, List.set_cons_succ, i64_w, i32_w]
                    rfl
                  refine done_ (done_of HT_.out (by kernel_rfl)) ?_
                  try go_wp2
                  go_ret
                  exact ⟨by first | rfl | (simp [errW_none, errW_some] <;> rfl) | (simp only [← hji14]; first | rfl | (simp [errW_none, errW_some] <;> rfl)) | (simp [*, errW_none, errW_some] <;> rfl), by repeat (first | (with_reducible first | exact HB.out | apply below_alloc | apply pw_below_drewN | apply below_drew1) | exact HB.out)⟩
                · rw [if_neg c15] at H
                  exact absurd H (by simp)
              · rw [if_neg c11] at H
                exact absurd H (by simp)
            · rw [if_neg c10] at H
              exact absurd H (by simp)
    · rw [if_neg c4] at H
      exact absurd H (by simp)

end Go.Proofs.Ytjbjongahnocdaa.S

/- The rank of an order that one stack sorts: what Rank and the reference answer. -/
namespace Go.Proofs.Ytjbjongahnocdaa.P
open Go.RowKit Go.Proofs.Ytjbjongahnocdaa.S Go.Proofs.Ytjbjongahnocdaa.Defs Go.Proofs.YtjbjongahnocdaaW.PrintWords

/-- How many orders of 0 to 30 items one stack sorts. -/
def table : List Int := [1, 1, 2, 5, 14, 42, 132, 429, 1430, 4862, 16796, 58786, 208012, 742900, 2674440, 9694845, 35357670, 129644790, 477638700, 1767263190, 6564120420, 24466267020, 91482563640, 343059613650, 1289904147324, 4861946401452, 18367353072152, 69533550916004, 263747951750360, 1002242216651368, 3814986502092304]
def cat (n : Nat) : Int := table.getD n 0
set_option maxRecDepth 100000 in
theorem counts_all : (List.range 31).all (fun n => shunt_counts.f 1000 (n : Int) == some (table.take (n + 1))) = true := by kernel_rfl
set_option maxRecDepth 100000 in
theorem count_all : (List.range 31).all (fun n => tickingref02_Count.f 1000 (n : Int) == some (cat n)) = true := by kernel_rfl
theorem counts_ev (n : Nat) (h : n ≤ 30) : Ev (fun k => shunt_counts.f k (n : Int)) (table.take (n + 1)) := by
  have := List.all_eq_true.1 counts_all n (List.mem_range.2 (by omega))
  exact Ev.of (fun k => shunt_counts.mono _ k) (k := 1000) (by simpa using this)
theorem count_ev (n : Nat) (h : n ≤ 30) : Ev (fun k => tickingref02_Count.f k (n : Int)) (cat n) := by
  have := List.all_eq_true.1 count_all n (List.mem_range.2 (by omega))
  exact Ev.of (fun k => tickingref02_Count.mono _ k) (k := 1000) (by simpa using this)
theorem take_cat (n j : Nat) (h : j ≤ n) : (table.take (n + 1)).getD j 0 = cat j := by
  unfold cat
  simp [show j < n + 1 by omega]

theorem noPat_cut (x : Int) : ∀ t : List Int, x ∉ t → NoPat x t → ∃ p q, t = p ++ q ∧ (∀ a ∈ p, a < x) ∧ (∀ a ∈ q, x < a)
  | [], _, _ => ⟨[], [], rfl, by simp, by simp⟩
  | y :: t, hx, h => by
    rw [noPat_cons] at h
    have hy : y ≠ x := fun e => hx (e ▸ List.mem_cons_self)
    obtain ⟨p, q, e, h1, h2⟩ := noPat_cut x t (fun h => hx (List.mem_cons_of_mem _ h)) h.2
    by_cases c : y < x
    · refine ⟨y :: p, q, by rw [e]; rfl, ?_, h2⟩
      intro a ha
      rcases List.mem_cons.1 ha with rfl | ha
      · exact c
      · exact h1 a ha
    · refine ⟨[], y :: t, rfl, by simp, ?_⟩
      intro a ha
      rcases List.mem_cons.1 ha with rfl | ha
      · omega
      · have := h.1 a ha
        have : a ≠ x := fun e => hx (e ▸ List.mem_cons_of_mem _ ha)
        omega

/-- A list of the numbers from less + 1 on, in an order that one stack sorts. -/
def Ranked (l : List Int) (less : Int) : Prop := l.Nodup ∧ (∀ a ∈ l, less < a ∧ a ≤ less + l.length) ∧ No231 l

theorem no231_append {a b : List Int} (h : No231 (a ++ b)) : No231 a ∧ No231 b := by
  induction a with
  | nil => exact ⟨trivial, h⟩
  | cons x a ih =>
    have h : NoPat x (a ++ b) ∧ No231 (a ++ b) := h
    obtain ⟨i1, i2⟩ := ih h.2
    exact ⟨⟨(List.pairwise_append.1 h.1).1, i1⟩, i2⟩
theorem ranked_cut {x : Int} {t : List Int} {less : Int} (h : Ranked (x :: t) less) : ∃ p q, t = p ++ q ∧ (p.length : Int) = x - less - 1 ∧ Ranked p less ∧ Ranked q x := by
  obtain ⟨hd, hr, hn⟩ := h
  rw [List.nodup_cons] at hd
  have hn : NoPat x t ∧ No231 t := hn
  obtain ⟨p, q, rfl, h1, h2⟩ := noPat_cut x t hd.1 hn.1
  have hx := hr x List.mem_cons_self
  rw [List.nodup_append] at hd
  simp only [List.length_cons, List.length_append] at hr hx
  have b1 := nodup_len (x - less - 1).toNat p less hd.2.1 (fun a ha => by
    have := hr a (List.mem_cons_of_mem _ (List.mem_append_left _ ha))
    have := h1 a ha
    omega)
  have b2 := nodup_len (less + (p.length + q.length + 1) - x).toNat q x hd.2.2.1 (fun a ha => by
    have := hr a (List.mem_cons_of_mem _ (List.mem_append_right _ ha))
    have := h2 a ha
    omega)
  have e : (p.length : Int) = x - less - 1 := by omega
  obtain ⟨n1, n2⟩ := no231_append hn.2
  refine ⟨p, q, rfl, e, ⟨hd.2.1, fun a ha => ?_, n1⟩, ⟨hd.2.2.1, fun a ha => ?_, n2⟩⟩
  · have := hr a (List.mem_cons_of_mem _ (List.mem_append_left _ ha))
    have := h1 a ha
    omega
  · have := hr a (List.mem_cons_of_mem _ (List.mem_append_right _ ha))
    have := h2 a ha
    omega

theorem sum_ev (l : List Int) (less : Int) (n first : Nat) (all : List Int) (N : Nat) (hall : ∀ j, j ≤ N → all.getD j 0 = cat j) (hN : N ≤ 30) (hn : n ≤ N) (hf : first ≤ n) (r : Int) : ∀ (m k : Nat) (sum : Int), k + m = first → 1 ≤ k →
    Ev (fun q => tickingref02_Rank.l0 q l less (n : Int) (first : Int) (rankSum all (n : Int) (first : Int) m (k : Int) sum) (first : Int)) r →
    Ev (fun q => tickingref02_Rank.l0 q l less (n : Int) (first : Int) sum (k : Int)) r := by
  intro m
  induction m with
  | zero =>
    intro k sum h h1 H
    obtain rfl : k = first := by omega
    exact H
  | succ m ih =>
    intro k sum h h1 H
    have w : wrap64 ((k : Int) + 1) = ((k + 1 : Nat) : Int) := by rw [w64 (by omega) (by omega)]; rfl
    have w1 : wrap64 ((k : Int) - 1) = ((k - 1 : Nat) : Int) := by rw [w64 (by omega) (by omega)]; omega
    have w2 : wrap64 ((n : Int) - k) = ((n - k : Nat) : Int) := by rw [w64 (by omega) (by omega)]; omega
    have i1 : ((k : Int) - 1).toNat = k - 1 := by omega
    have i2 : ((n : Int) - k).toNat = n - k := by omega
    have e : rankSum all (n : Int) (first : Int) (m + 1) (k : Int) sum = rankSum all (n : Int) (first : Int) m ((k + 1 : Nat) : Int) (wrap64 (sum + wrap64 (cat (k - 1) * cat (n - k)))) := by
      show rankSum all n first m ((k : Int) + 1) _ = _
      rw [i1, i2, hall _ (by omega), hall _ (by omega)]
      rfl
    rw [e] at H
    refine Ev.step (f := fun q => (tickingref02_Count.f q ((k - 1 : Nat) : Int)).bind fun t210 => (tickingref02_Count.f q ((n - k : Nat) : Int)).bind fun t211 => tickingref02_Rank.l0 q l less (n : Int) (first : Int) (wrap64 (sum + wrap64 (t210 * t211))) ((k + 1 : Nat) : Int)) (fun q => ?_) ?_
    · simp only [tickingref02_Rank.l0]
      rw [if_pos (by omega), w1, w2, w]
    · refine Ev.bind (f := fun q t210 => (tickingref02_Count.f q ((n - k : Nat) : Int)).bind fun t211 => tickingref02_Rank.l0 q l less (n : Int) (first : Int) (wrap64 (sum + wrap64 (t210 * t211))) ((k + 1 : Nat) : Int)) (count_ev (k - 1) (by omega)) ?_
      refine Ev.bind (f := fun q t211 => tickingref02_Rank.l0 q l less (n : Int) (first : Int) (wrap64 (sum + wrap64 (cat (k - 1) * t211))) ((k + 1 : Nat) : Int)) (count_ev (n - k) (by omega)) ?_
      exact ih (k + 1) _ (by omega) (by omega) H

theorem rank_ev (all : List Int) (N : Nat) (hlen : all.length = N + 1) (hall : ∀ j, j ≤ N → all.getD j 0 = cat j) (hN : N ≤ 30) : ∀ (n : Nat) (l : List Int) (less : Nat), l.length = n → less + n ≤ N → Ranked l less →
    ∃ v, (∀ k, n < k → rankF all k l less = some v) ∧ Ev (fun k => tickingref02_Rank.f k l less) v := by
  intro n
  induction n using Nat.strongRecOn with
  | _ n ih =>
    intro l less hl hle hr
    cases l with
    | nil =>
      refine ⟨0, fun k hk => ?_, Ev.step (f := fun _ => some 0) (fun k => ?_) (Ev.now _)⟩
      · cases k with
        | zero => omega
        | succ k => rfl
      · simp only [tickingref02_Rank.f]
        rw [if_pos (by simp)]
    | cons x t =>
      obtain ⟨p, q, rfl, hp, r1, r2⟩ := ranked_cut hr
      have hx := hr.2.1 x List.mem_cons_self
      simp only [List.length_cons, List.length_append] at hl hx
      obtain ⟨xn, rfl⟩ : ∃ xn : Nat, x = (xn : Int) := ⟨x.toNat, by omega⟩
      have hle30 : n - (xn - less) ≤ 30 := by omega
      obtain ⟨a, a1, a2⟩ := ih p.length (by omega) p less rfl (by omega) r1
      obtain ⟨b, b1, b2⟩ := ih q.length (by omega) q xn rfl (by omega) r2
      have f1 : ((xn : Int) - less) = ((xn - less : Nat) : Int) := by omega
      have tk : ((xn : Int) :: (p ++ q)).take (xn - less) = (xn : Int) :: p := by
        rw [show xn - less = (((xn : Int)) :: p).length by simp; omega, ← List.cons_append, List.take_left]
      have dr : ((xn : Int) :: (p ++ q)).drop (xn - less) = q := by
        rw [show xn - less = (((xn : Int)) :: p).length by simp; omega, ← List.cons_append, List.drop_left]
      have hln : (((xn : Int) :: (p ++ q)).length : Int) = (n : Int) := by simp only [List.length_cons, List.length_append]; omega
      have hln2 : (((xn : Int) :: (p ++ q)).length) = n := by simp only [List.length_cons, List.length_append]; omega
      have hgd : all.getD ((n : Int) - (xn - less : Nat)).toNat 0 = cat (n - (xn - less)) := by
        rw [show ((n : Int) - (xn - less : Nat)).toNat = n - (xn - less) by omega]
        exact hall _ (by omega)
      refine ⟨wrap64 (wrap64 (rankSum all n ((xn - less : Nat) : Int) (xn - less - 1) 1 0 + wrap64 (a * cat (n - (xn - less)))) + b), fun k hk => ?_, ?_⟩
      · cases k with
        | zero => omega
        | succ k =>
          unfold rankF
          rw [hln, hln2, if_pos (by refine ⟨by omega, by omega, by omega, by omega, by omega, by omega, by omega⟩), f1, Int.toNat_natCast, tk, dr]
          have e1 : (((xn : Int) :: p).drop 1) = p := rfl
          rw [e1, a1 k (by omega)]
          have e2 : ((less : Int) + ((xn - less : Nat) : Int)) = (xn : Int) := by omega
          rw [e2]
          simp only [Option.bind_some]
          rw [b1 k (by omega)]
          simp only [Option.bind_some]
          rw [hgd, show (((xn - less : Nat) : Int) - 1).toNat = xn - less - 1 by omega]
      · have w0 : wrap64 ((xn : Int) - less) = ((xn - less : Nat) : Int) := by rw [w64 (by omega) (by omega)]; exact f1
        have hrd : rd ((xn : Int) :: (p ++ q)) 0 = (xn : Int) := rfl
        refine Ev.step (f := fun k => tickingref02_Rank.l0 k ((xn : Int) :: (p ++ q)) less (n : Int) ((xn - less : Nat) : Int) 0 ((1 : Nat) : Int)) (fun k => ?_) ?_
        · simp only [tickingref02_Rank.f]
          rw [hln, if_neg (by omega), if_pos (by omega), hrd, w0]
          rfl
        · refine sum_ev _ _ n (xn - less) all N hall hN (by omega) (by omega) _ (xn - less - 1) 1 0 (by omega) (by omega) ?_
          have w2 : wrap64 ((n : Int) - ((xn - less : Nat) : Int)) = ((n - (xn - less) : Nat) : Int) := by rw [w64 (by omega) (by omega)]; omega
          have w3 : wrap64 ((less : Int) + ((xn - less : Nat) : Int)) = (xn : Int) := by rw [w64 (by omega) (by omega)]; omega
          obtain ⟨S, hS⟩ : ∃ S, S = rankSum all (n : Int) ((xn - less : Nat) : Int) (xn - less - 1) ((1 : Nat) : Int) 0 := ⟨_, rfl⟩
          have hS' : rankSum all (n : Int) ((xn - less : Nat) : Int) (xn - less - 1) 1 0 = S := hS.symm
          rw [hS', ← hS]
          refine Ev.step (f := fun k => (tickingref02_Rank.f k p less).bind fun t213 => (tickingref02_Count.f k ((n - (xn - less) : Nat) : Int)).bind fun t214 => (tickingref02_Rank.f k q (xn : Int)).bind fun t216 => some (wrap64 (wrap64 (S + wrap64 (t213 * t214)) + t216))) (fun k => ?_) ?_
          · simp only [tickingref02_Rank.l0]
            have e1 : (((xn : Int) :: p).drop 1) = p := rfl
            rw [if_neg (by omega), if_pos (by omega), if_pos (by rw [hln]; omega), Int.toNat_natCast, tk, dr, e1, w2, w3]
            have hz : (0 : Int) ≤ ((xn - less : Nat) : Int) := by omega
            simp only [if_pos hz]
          · refine Ev.bind (f := fun k t213 => (tickingref02_Count.f k ((n - (xn - less) : Nat) : Int)).bind fun t214 => (tickingref02_Rank.f k q (xn : Int)).bind fun t216 => some (wrap64 (wrap64 (S + wrap64 (t213 * t214)) + t216))) a2 ?_
            refine Ev.bind (f := fun k t214 => (tickingref02_Rank.f k q (xn : Int)).bind fun t216 => some (wrap64 (wrap64 (S + wrap64 (a * t214)) + t216))) (count_ev (n - (xn - less)) hle30) ?_
            refine Ev.bind (f := fun k t216 => some (wrap64 (wrap64 (S + wrap64 (a * cat (n - (xn - less)))) + t216))) b2 ?_
            exact Ev.now _

theorem Rank_ref (l : List Int) (h : IsOrd l) (hn : No231 l) (hl : l.length ≤ 30) : ∃ v, Ev (fun k => shunt_Rank.f k l) (v, 0) ∧ Ev (fun k => tickingref02_Rank.f k l 0) v := by
  obtain ⟨v, v1, v2⟩ := rank_ev (table.take (l.length + 1)) l.length (by simp [show table.length = 31 from rfl]; omega) (fun j hj => take_cat _ _ hj) hl l.length l 0 rfl (by omega) ⟨h.1, fun a ha => by have := h.2 a ha; omega, hn⟩
  obtain ⟨r, h1, h2⟩ := block_ev l (by omega)
  have hr := (blockOf_nil h2 h.1).2 hn
  refine ⟨v, ?_, v2⟩
  subst hr
  refine Ev.congr (f := fun k => (shunt_block.f k l).bind fun b => (if b = [] then (shunt_counts.f k (l.length : Int)).bind fun all => (if all.length ≤ 100 then (rankF all (l.length + 1) l 0).bind fun r => some (r, 0) else none) else some (0, 6))) (fun k => ?_) ?_
  · unfold shunt_Rank.f
    rw [if_pos ((isOrderB_iff l).2 ⟨by omega, h⟩), if_pos hl]
  · refine Ev.bind (f := fun k b => (if b = [] then (shunt_counts.f k (l.length : Int)).bind fun all => (if all.length ≤ 100 then (rankF all (l.length + 1) l 0).bind fun r => some (r, 0) else none) else some (0, 6))) h1 ?_
    refine Ev.congr (f := fun k => (shunt_counts.f k (l.length : Int)).bind fun all => (if all.length ≤ 100 then (rankF all (l.length + 1) l 0).bind fun r => some (r, 0) else none)) (fun k => by rw [if_pos rfl]) ?_
    refine Ev.bind (f := fun k all => (if all.length ≤ 100 then (rankF all (l.length + 1) l 0).bind fun r => some (r, 0) else none)) (counts_ev l.length hl) ?_
    refine Ev.congr (fun k => ?_) (Ev.now _)
    rw [if_pos (by simp; omega)]
    have := v1 (l.length + 1) (by omega)
    rw [show ((0 : Nat) : Int) = 0 from rfl] at this
    rw [this]
    rfl
theorem Rank_none (l : List Int) (h : IsOrd l) (hn : ¬ No231 l) (hl : l.length ≤ 30) : Ev (fun k => shunt_Rank.f k l) (0, 6) := by
  obtain ⟨r, h1, h2⟩ := block_ev l (by omega)
  have hr : r ≠ [] := fun e => hn ((blockOf_nil h2 h.1).1 e)
  refine Ev.congr (f := fun k => (shunt_block.f k l).bind fun b => (if b = [] then (shunt_counts.f k (l.length : Int)).bind fun all => (if all.length ≤ 100 then (rankF all (l.length + 1) l 0).bind fun r => some (r, 0) else none) else some (0, 6))) (fun k => ?_) ?_
  · unfold shunt_Rank.f
    rw [if_pos ((isOrderB_iff l).2 ⟨by omega, h⟩), if_pos hl]
  · refine Ev.bind (f := fun k b => (if b = [] then (shunt_counts.f k (l.length : Int)).bind fun all => (if all.length ≤ 100 then (rankF all (l.length + 1) l 0).bind fun r => some (r, 0) else none) else some (0, 6))) h1 ?_
    exact Ev.congr (fun k => by rw [if_neg hr]) (Ev.now _)
theorem Rank_long (l : List Int) (h : ¬ (IsOrd l ∧ l.length ≤ 30)) : Ev (fun k => shunt_Rank.f k l) (0, 2) := by
  refine Ev.congr (fun k => ?_) (Ev.now _)
  unfold shunt_Rank.f
  by_cases c : isOrderB l = true
  · rw [if_pos c, if_neg (fun h' => h ⟨((isOrderB_iff l).1 c).2, h'⟩)]
  · rw [if_neg c]
end Go.Proofs.Ytjbjongahnocdaa.P

/- The order of a rank among those that one stack sorts: its list, told by the numbers of orders; that Rank inverts it; that the next one is greater. -/
namespace Go.Proofs.Ytjbjongahnocdaa.P
set_option linter.unusedVariables false
open Go.RowKit Go.Proofs.Ytjbjongahnocdaa.S Go.Proofs.Ytjbjongahnocdaa.Defs Go.Proofs.YtjbjongahnocdaaW.PrintWords

/-- How many orders of n + 1 items begin with an item of at most p. -/
def psum (n : Nat) : Nat → Int
  | 0 => 0
  | p + 1 => psum n p + cat p * cat (n - p)
set_option maxRecDepth 100000 in
theorem psum_all : (List.range 30).all (fun n => decide (psum n (n + 1) = cat (n + 1)) && (List.range (n + 1)).all fun p => decide (cat p * cat (n - p) ≤ 4000000000000000 ∧ 0 < cat p)) = true := by kernel_rfl
theorem psum_end (n : Nat) (h : n < 30) : psum n (n + 1) = cat (n + 1) := by
  have := List.all_eq_true.1 psum_all n (List.mem_range.2 h)
  rw [Bool.and_eq_true, decide_eq_true_eq] at this
  exact this.1
theorem prod_le (n p : Nat) (h : n < 30) (hp : p ≤ n) : cat p * cat (n - p) ≤ 4000000000000000 := by
  have := List.all_eq_true.1 psum_all n (List.mem_range.2 h)
  rw [Bool.and_eq_true] at this
  exact (of_decide_eq_true (List.all_eq_true.1 this.2 p (List.mem_range.2 (by omega)))).1
set_option maxRecDepth 100000 in
theorem cat_all : (List.range 31).all (fun n => decide (1 ≤ cat n ∧ cat n ≤ 4000000000000000)) = true := by kernel_rfl
theorem cat_range (n : Nat) (h : n ≤ 30) : 1 ≤ cat n ∧ cat n ≤ 4000000000000000 := of_decide_eq_true (List.all_eq_true.1 cat_all n (List.mem_range.2 (by omega)))
theorem cat_nonneg (n : Nat) : 0 ≤ cat n := by
  by_cases h : n ≤ 30
  · have := cat_range n h; omega
  · unfold cat
    rw [List.getD_eq_getElem?_getD, List.getElem?_eq_none (by show 31 ≤ n; omega)]
    exact Int.le_refl 0
theorem psum_step (n p : Nat) : psum n p ≤ psum n (p + 1) := by
  have := Int.mul_nonneg (cat_nonneg p) (cat_nonneg (n - p))
  show psum n p ≤ psum n p + cat p * cat (n - p)
  omega
theorem psum_mono (n i : Nat) : ∀ d, psum n i ≤ psum n (i + d)
  | 0 => Int.le_refl _
  | d + 1 => Int.le_trans (psum_mono n i d) (psum_step n (i + d))
theorem psum_le {n i p : Nat} (h : i ≤ p) : psum n i ≤ psum n p := by
  have := psum_mono n i (p - i)
  rwa [show i + (p - i) = p by omega] at this
theorem psum_nonneg (n p : Nat) : 0 ≤ psum n p := by
  have := psum_le (n := n) (i := 0) (p := p) (by omega)
  exact this
theorem psum_find (n : Nat) (k : Int) (hk : 0 ≤ k) : ∀ m, k < psum n m → ∃ p, p < m ∧ psum n p ≤ k ∧ k < psum n (p + 1)
  | 0, h => by
    have e : psum n 0 = 0 := rfl
    omega
  | m + 1, h => by
    by_cases c : k < psum n m
    · obtain ⟨p, h1, h2⟩ := psum_find n k hk m c
      exact ⟨p, by omega, h2⟩
    · exact ⟨m, by omega, by omega, h⟩

/-- The list of n items from less + 1 on with k orders before it. -/
inductive Unr : Nat → Int → Int → List Int → Prop
  | nil (less : Int) : Unr 0 0 less []
  | cons (n p : Nat) (q r less : Int) (a b : List Int) (hp : p ≤ n) (q0 : 0 ≤ q) (q1 : q < cat p) (r0 : 0 ≤ r) (r1 : r < cat (n - p)) (ha : Unr p q less a) (hb : Unr (n - p) r (less + ((p : Int) + 1)) b) :
    Unr (n + 1) (psum n p + (q * cat (n - p) + r)) less ((less + ((p : Int) + 1)) :: (a ++ b))

theorem part_range {p q : Nat} {x y : Int} (x0 : 0 ≤ x) (x1 : x < cat p) (y0 : 0 ≤ y) (y1 : y < cat q) : 0 ≤ x * cat q + y ∧ x * cat q + y < cat p * cat q := by
  have h1 := Int.mul_nonneg x0 (cat_nonneg q)
  have h2 : (x + 1) * cat q ≤ cat p * cat q := Int.mul_le_mul_of_nonneg_right (by omega) (cat_nonneg q)
  rw [Int.add_mul, Int.one_mul] at h2
  exact ⟨by omega, by omega⟩

theorem unr_ex : ∀ n : Nat, n ≤ 30 → ∀ k less : Int, 0 ≤ k → k < cat n → ∃ l, Unr n k less l := by
  intro n
  induction n using Nat.strongRecOn with
  | _ n ih =>
    intro hn k less h0 h1
    cases n with
    | zero =>
      have e : cat 0 = 1 := rfl
      rw [e] at h1
      obtain rfl : k = 0 := by omega
      exact ⟨[], .nil less⟩
    | succ n =>
      rw [← psum_end n (by omega)] at h1
      obtain ⟨p, hp, k0, k1⟩ := psum_find n k h0 (n + 1) h1
      have c1 := (cat_range (n - p) (by omega)).1
      have k1' : k < psum n p + cat p * cat (n - p) := k1
      have q0 : 0 ≤ (k - psum n p) / cat (n - p) := Int.ediv_nonneg (by omega) (by omega)
      have q1 : (k - psum n p) / cat (n - p) < cat p := Int.ediv_lt_of_lt_mul (by omega) (by omega)
      have r0 : 0 ≤ (k - psum n p) % cat (n - p) := Int.emod_nonneg _ (by omega)
      have r1 : (k - psum n p) % cat (n - p) < cat (n - p) := Int.emod_lt_of_pos _ (by omega)
      have hqr := Int.mul_ediv_add_emod (k - psum n p) (cat (n - p))
      obtain ⟨a, ha⟩ := ih p (by omega) (by omega) _ less q0 q1
      obtain ⟨b, hb⟩ := ih (n - p) (by omega) (by omega) _ (less + ((p : Int) + 1)) r0 r1
      have := Unr.cons n p _ _ less a b (by omega) q0 q1 r0 r1 ha hb
      rw [Int.mul_comm, hqr, show psum n p + (k - psum n p) = k by omega] at this
      exact ⟨_, this⟩
theorem unr_len {n : Nat} {k less : Int} {l : List Int} (h : Unr n k less l) : l.length = n := by
  induction h with
  | nil => rfl
  | cons n p q r less a b hp _ _ _ _ _ _ i1 i2 => simp [i1, i2]; omega
theorem unr_range {n : Nat} {k less : Int} {l : List Int} (h : Unr n k less l) : ∀ a ∈ l, less < a ∧ a ≤ less + n := by
  induction h with
  | nil => simp
  | cons n p q r less a b hp _ _ _ _ _ _ i1 i2 =>
    intro x hx
    rcases List.mem_cons.1 hx with rfl | hx
    · omega
    · rcases List.mem_append.1 hx with hx | hx
      · have := i1 x hx; omega
      · have := i2 x hx; omega
theorem unr_bound {n : Nat} {k less : Int} {l : List Int} (h : Unr n k less l) (hn : n ≤ 30) : 0 ≤ k ∧ k < cat n := by
  cases h with
  | nil => exact ⟨by omega, by decide⟩
  | cons n p q r less a b hp q0 q1 r0 r1 ha hb =>
    have h1 := part_range (p := p) (q := n - p) q0 q1 r0 r1
    have h2 := psum_nonneg n p
    have h3 : psum n (p + 1) ≤ psum n (n + 1) := psum_le (by omega)
    have h4 : psum n (p + 1) = psum n p + cat p * cat (n - p) := rfl
    rw [psum_end n (by omega)] at h3
    omega

theorem no231_join {x : Int} : ∀ {a b : List Int}, No231 a → No231 b → (∀ u ∈ a, u < x) → (∀ u ∈ b, x < u) → No231 (a ++ b)
  | [], b, _, hb, _, _ => hb
  | y :: a, b, h, hb, h1, h2 => by
    have h : NoPat y a ∧ No231 a := h
    refine ⟨List.pairwise_append.2 ⟨h.1, ?_, ?_⟩, no231_join h.2 hb (fun u hu => h1 u (List.mem_cons_of_mem _ hu)) h2⟩
    · refine List.Pairwise.imp_of_mem (R := fun _ _ => True) (fun {u v} hu hv _ => ?_) (List.pairwise_of_forall (fun _ _ => trivial))
      have := h2 v hv
      have := h1 y (by simp)
      omega
    · intro u hu v hv
      have := h2 v hv
      have := h1 y (by simp)
      omega
theorem unr_ranked {n : Nat} {k less : Int} {l : List Int} (h : Unr n k less l) : Ranked l less := by
  induction h with
  | nil => exact ⟨List.nodup_nil, by simp, trivial⟩
  | cons n p q r less a b hp q0 q1 r0 r1 ha hb i1 i2 =>
    have la := unr_len ha
    have lb := unr_len hb
    have ra := unr_range ha
    have rb := unr_range hb
    refine ⟨List.nodup_cons.2 ⟨fun hm => ?_, List.nodup_append.2 ⟨i1.1, i2.1, fun u hu v hv e => ?_⟩⟩, fun x hx => ?_, ?_, ?_⟩
    · rcases List.mem_append.1 hm with hm | hm
      · have := ra _ hm; omega
      · have := rb _ hm; omega
    · have := ra u hu
      have := rb v hv
      omega
    · have := unr_range (Unr.cons n p q r less a b hp q0 q1 r0 r1 ha hb) x hx
      simp [la, lb]
      omega
    · refine List.pairwise_append.2 ⟨?_, ?_, ?_⟩
      · refine List.Pairwise.imp_of_mem (R := fun _ _ => True) (fun {u v} hu hv _ => ?_) (List.pairwise_of_forall (fun _ _ => trivial))
        have := ra u hu
        omega
      · refine List.Pairwise.imp_of_mem (R := fun _ _ => True) (fun {u v} hu hv _ => ?_) (List.pairwise_of_forall (fun _ _ => trivial))
        have := rb v hv
        omega
      · intro u hu v hv
        have := rb v hv
        omega
    · exact no231_join (x := less + ((p : Int) + 1)) i1.2.2 i2.2.2 (fun u hu => by have := ra u hu; omega) (fun u hu => by have := rb u hu; omega)

/-- Less in the order of the first different item, at the same length. -/
def LexLt : List Int → List Int → Prop
  | x :: s, y :: t => x < y ∨ (x = y ∧ LexLt s t)
  | _, _ => False
theorem lex_app : ∀ (a a' b b' : List Int), a.length = a'.length → LexLt a a' → LexLt (a ++ b) (a' ++ b')
  | [], _, _, _, _, h => by cases h
  | x :: s, [], _, _, _, h => by cases h
  | x :: s, y :: t, b, b', hl, h => by
    rcases h with h | ⟨h, h2⟩
    · exact .inl h
    · exact .inr ⟨h, lex_app s t b b' (by simpa using hl) h2⟩
theorem lex_pre : ∀ (a b b' : List Int), LexLt b b' → LexLt (a ++ b) (a ++ b')
  | [], _, _, h => h
  | x :: s, b, b', h => .inr ⟨rfl, lex_pre s b b' h⟩

/-- Equal ranks have the same order, smaller ones a smaller order. -/
theorem unr_lex {n : Nat} {k less : Int} {l : List Int} (h : Unr n k less l) (hn : n ≤ 30) : ∀ {k' : Int} {l' : List Int}, Unr n k' less l' → (k = k' → l = l') ∧ (k < k' → LexLt l l') := by
  induction h with
  | nil =>
    intro k' l' h'
    cases h' with
    | nil => exact ⟨fun _ => rfl, fun h => by omega⟩
  | cons n p q r less a b hp q0 q1 r0 r1 ha hb i1 i2 =>
    intro k' l' h'
    generalize hm : n + 1 = m at h'
    cases h' with
    | nil => omega
    | cons n' p' q' r' less' a' b' hp' q0' q1' r0' r1' ha' hb' =>
      obtain rfl : n = n' := by omega
      have e1 := part_range (p := p) (q := n - p) q0 q1 r0 r1
      have e2 := part_range (p := p') (q := n - p') q0' q1' r0' r1'
      have s1 : psum n (p + 1) = psum n p + cat p * cat (n - p) := rfl
      have s2 : psum n (p' + 1) = psum n p' + cat p' * cat (n - p') := rfl
      rcases Nat.lt_trichotomy p p' with c | c | c
      · have := psum_le (n := n) (show p + 1 ≤ p' by omega)
        exact ⟨fun e => by omega, fun _ => .inl (by omega)⟩
      · subst c
        have la := unr_len ha
        have la' := unr_len ha'
        obtain ⟨j1, j2⟩ := i1 (by omega) ha'
        obtain ⟨j3, j4⟩ := i2 (by omega) hb'
        rcases Int.lt_trichotomy q q' with d | d | d
        · have h3 := Int.mul_le_mul_of_nonneg_right (show q + 1 ≤ q' by omega) (cat_nonneg (n - p))
          rw [Int.add_mul, Int.one_mul] at h3
          exact ⟨fun e => by omega, fun _ => .inr ⟨rfl, lex_app _ _ _ _ (by omega) (j2 d)⟩⟩
        · subst d
          have := j1 rfl
          subst this
          exact ⟨fun e => by rw [j3 (by omega)], fun e => .inr ⟨rfl, lex_pre _ _ _ (j4 (by omega))⟩⟩
        · have h3 := Int.mul_le_mul_of_nonneg_right (show q' + 1 ≤ q by omega) (cat_nonneg (n - p))
          rw [Int.add_mul, Int.one_mul] at h3
          exact ⟨fun e => by omega, fun _ => by omega⟩
      · have := psum_le (n := n) (show p' + 1 ≤ p by omega)
        exact ⟨fun e => by omega, fun _ => by omega⟩

/-! ### what the program computes -/
theorem first_of (all : List Int) (N n : Nat) (hall : ∀ j, j ≤ N → all.getD j 0 = cat j) (hN : N ≤ 30) (hn : n + 1 ≤ N) (k : Int) (hk : k < 4000000000000000) (p : Nat) (hp : p ≤ n) (k0 : psum n p ≤ k) (k1 : k < psum n (p + 1)) :
    ∀ (m i : Nat), i ≤ p → p - i < m → firstF all ((n + 1 : Nat) : Int) m ((i : Int) + 1) (k - psum n i) = some ((p : Int) + 1, k - psum n p)
  | 0, i, _, h => by omega
  | m + 1, i, hi, h => by
    have e1 : rd all ((i : Int) + 1 - 1) = cat i := by
      rw [show ((i : Int) + 1 - 1) = (i : Int) by omega, rd_nat, hall _ (by omega)]
    have e2 : rd all (((n + 1 : Nat) : Int) - ((i : Int) + 1)) = cat (n - i) := by
      rw [show (((n + 1 : Nat) : Int) - ((i : Int) + 1)) = ((n - i : Nat) : Int) by omega, rd_nat, hall _ (by omega)]
    have h1 := prod_le n i (by omega) (by omega)
    have h2 := Int.mul_nonneg (cat_nonneg i) (cat_nonneg (n - i))
    have h3 := psum_nonneg n i
    have h4 : psum n (i + 1) = psum n i + cat i * cat (n - i) := rfl
    have h5 := psum_le (n := n) hi
    unfold firstF
    rw [if_pos (by omega), e1, e2, w64 (by omega) (by omega)]
    by_cases c : i = p
    · subst c
      rw [if_neg (by omega)]
    · have h6 := psum_le (n := n) (show i + 1 ≤ p by omega)
      rw [if_pos (by omega), w64 (by omega) (by omega), show k - psum n i - cat i * cat (n - i) = k - psum n (i + 1) by omega]
      have := first_of all N n hall hN hn k hk p hp k0 k1 m (i + 1) (by omega) (by omega)
      rw [show (((i + 1 : Nat) : Int) + 1) = (i : Int) + 1 + 1 by omega] at this
      exact this
theorem split_q {x y c : Int} (h0 : 0 ≤ y) (h1 : y < c) (hx : 0 ≤ x) : Int.tdiv (x * c + y) c = x ∧ Int.tmod (x * c + y) c = y := by
  have hn : 0 ≤ x * c + y := by have := Int.mul_nonneg hx (show 0 ≤ c by omega); omega
  rw [Int.tdiv_eq_ediv_of_nonneg hn, Int.tmod_eq_emod_of_nonneg hn]
  rw [Int.add_comm, Int.add_mul_ediv_right _ _ (by omega), Int.add_mul_emod_self_right, Int.ediv_eq_zero_of_lt h0 h1, Int.emod_eq_of_lt h0 h1]
  omega
theorem build_of (all : List Int) (N : Nat) (hlen : all.length = N + 1) (hall : ∀ j, j ≤ N → all.getD j 0 = cat j) (hN : N ≤ 30) {n : Nat} {k less : Int} {l : List Int} (h : Unr n k less l) : 0 ≤ less → less + n ≤ N → ∀ f, n < f → buildF all f (n : Int) k less = some l := by
  induction h with
  | nil less =>
    intro _ _ f hf
    cases f with
    | zero => omega
    | succ f => rfl
  | cons n p q r less a b hp q0 q1 r0 r1 ha hb i1 i2 =>
    intro hl hle f hf
    cases f with
    | zero => omega
    | succ f =>
      have hb1 := part_range (p := p) (q := n - p) q0 q1 r0 r1
      have hb2 := unr_bound (Unr.cons n p q r less a b hp q0 q1 r0 r1 ha hb) (by omega)
      have hb3 := cat_range (n + 1) (by omega)
      have s1 : psum n (p + 1) = psum n p + cat p * cat (n - p) := rfl
      have hfst := first_of all N n hall hN (by omega) (psum n p + (q * cat (n - p) + r)) (by omega) p hp (by omega) (by omega) (((n + 1 : Nat) : Int).toNat + 1) 0 (by omega) (by omega)
      rw [show psum n 0 = 0 from rfl, Int.sub_zero, show ((0 : Nat) : Int) + 1 = 1 from rfl, show psum n p + (q * cat (n - p) + r) - psum n p = q * cat (n - p) + r by omega] at hfst
      have c1 := cat_range (n - p) (by omega)
      have c2 := cat_range p (by omega)
      have e2 : rd all (((n + 1 : Nat) : Int) - ((p : Int) + 1)) = cat (n - p) := by
        rw [show (((n + 1 : Nat) : Int) - ((p : Int) + 1)) = ((n - p : Nat) : Int) by omega, rd_nat, hall _ (by omega)]
      obtain ⟨d1, d2⟩ := split_q (x := q) r0 r1 q0
      have la := unr_len ha
      have lb := unr_len hb
      unfold buildF
      rw [if_neg (by omega), if_pos ⟨by omega, by omega, hl, by omega⟩, hfst]
      simp only [Option.bind_some]
      rw [e2, if_neg (by omega), d1, d2, w64 (by omega) (by omega), show ((p : Int) + 1 - 1) = (p : Int) by omega, i1 hl (by omega) f (by omega)]
      simp only [Option.bind_some]
      rw [show (((n + 1 : Nat) : Int) - ((p : Int) + 1)) = ((n - p : Nat) : Int) by omega, i2 (by omega) (by omega) f (by omega)]
      simp only [Option.bind_some]
      rw [if_pos (by omega)]
      rfl
/-- Rank inverts it. -/
theorem sum_of (all : List Int) (N n : Nat) (hall : ∀ j, j ≤ N → all.getD j 0 = cat j) (hN : N ≤ 30) (hn : n + 1 ≤ N) (p : Nat) (hp : p ≤ n) : ∀ (m i : Nat), i + m = p → rankSum all ((n + 1 : Nat) : Int) ((p : Int) + 1) m ((i : Int) + 1) (psum n i) = psum n p
  | 0, i, h => by
    obtain rfl : i = p := by omega
    rfl
  | m + 1, i, h => by
    have e1 : all.getD ((i : Int) + 1 - 1).toNat 0 = cat i := by
      rw [show ((i : Int) + 1 - 1).toNat = i by omega, hall _ (by omega)]
    have e2 : all.getD (((n + 1 : Nat) : Int) - ((i : Int) + 1)).toNat 0 = cat (n - i) := by
      rw [show (((n + 1 : Nat) : Int) - ((i : Int) + 1)).toNat = n - i by omega, hall _ (by omega)]
    have h1 := prod_le n i (by omega) (by omega)
    have h2 := Int.mul_nonneg (cat_nonneg i) (cat_nonneg (n - i))
    have h3 := psum_nonneg n i
    have h4 : psum n (i + 1) = psum n i + cat i * cat (n - i) := rfl
    have h5 := psum_le (n := n) (show i + 1 ≤ n + 1 by omega)
    rw [psum_end n (by omega)] at h5
    have h6 := cat_range (n + 1) (by omega)
    unfold rankSum
    rw [e1, e2, w64 (x := cat i * cat (n - i)) (by omega) (by omega), w64 (by omega) (by omega), ← h4]
    have := sum_of all N n hall hN hn p hp m (i + 1) (by omega)
    rw [show (((i + 1 : Nat) : Int) + 1) = (i : Int) + 1 + 1 by omega] at this
    exact this
theorem rank_of (all : List Int) (N : Nat) (hlen : all.length = N + 1) (hall : ∀ j, j ≤ N → all.getD j 0 = cat j) (hN : N ≤ 30) {n : Nat} {k less : Int} {l : List Int} (h : Unr n k less l) : 0 ≤ less → less + n ≤ N → ∀ f, n < f → rankF all f l less = some k := by
  induction h with
  | nil less =>
    intro _ _ f hf
    cases f with
    | zero => omega
    | succ f => rfl
  | cons n p q r less a b hp q0 q1 r0 r1 ha hb i1 i2 =>
    intro hl hle f hf
    cases f with
    | zero => omega
    | succ f =>
      have hb1 := part_range (p := p) (q := n - p) q0 q1 r0 r1
      have hb2 := unr_bound (Unr.cons n p q r less a b hp q0 q1 r0 r1 ha hb) (by omega)
      have hb3 := cat_range (n + 1) (by omega)
      have la := unr_len ha
      have lb := unr_len hb
      have hln : ((less + ((p : Int) + 1)) :: (a ++ b)).length = n + 1 := by simp [la, lb]; omega
      have f1 : less + ((p : Int) + 1) - less = (p : Int) + 1 := by omega
      have tk : ((less + ((p : Int) + 1)) :: (a ++ b)).take (((p : Int) + 1).toNat) = (less + ((p : Int) + 1)) :: a := by
        rw [show (((p : Int) + 1).toNat) = ((less + ((p : Int) + 1)) :: a).length by simp; omega, ← List.cons_append, List.take_left]
      have dr : ((less + ((p : Int) + 1)) :: (a ++ b)).drop (((p : Int) + 1).toNat) = b := by
        rw [show (((p : Int) + 1).toNat) = ((less + ((p : Int) + 1)) :: a).length by simp; omega, ← List.cons_append, List.drop_left]
      have e1 : ((less + ((p : Int) + 1)) :: a).drop 1 = a := rfl
      have e2 : all.getD (((n + 1 : Nat) : Int) - ((p : Int) + 1)).toNat 0 = cat (n - p) := by
        rw [show (((n + 1 : Nat) : Int) - ((p : Int) + 1)).toNat = n - p by omega, hall _ (by omega)]
      have hs := sum_of all N n hall hN (by omega) p hp p 0 (by omega)
      rw [show psum n 0 = 0 from rfl, show ((0 : Nat) : Int) + 1 = 1 from rfl] at hs
      have hpr := prod_le n p (by omega) hp
      have m1 := Int.mul_nonneg q0 (cat_nonneg (n - p))
      have m2 := psum_nonneg n p
      have hw : wrap64 (wrap64 (psum n p + wrap64 (q * cat (n - p))) + r) = psum n p + (q * cat (n - p) + r) := by
        rw [w64 (x := q * cat (n - p)) (by omega) (by omega), w64 (x := psum n p + q * cat (n - p)) (by omega) (by omega), w64 (by omega) (by omega)]
        omega
      unfold rankF
      rw [f1, hln, if_pos (by refine ⟨by omega, by omega, by omega, by omega, by omega, by omega, by omega⟩), tk, dr, e1, i1 hl (by omega) f (by omega)]
      simp only [Option.bind_some]
      rw [show less + ((p : Int) + 1) = less + ((p : Int) + 1) from rfl, i2 (by omega) (by omega) f (by omega)]
      simp only [Option.bind_some]
      rw [e2, show (((p : Int) + 1) - 1).toNat = p by omega, hs, hw]
end Go.Proofs.Ytjbjongahnocdaa.P

/- What Sortable and Count answer. -/
namespace Go.Proofs.Ytjbjongahnocdaa.P
open Go.RowKit Go.Proofs.Ytjbjongahnocdaa.S Go.Proofs.Ytjbjongahnocdaa.Defs Go.Proofs.YtjbjongahnocdaaW.PrintWords
set_option linter.unusedVariables false

theorem within_f (a lo hi : Int) : shunt_within.f a lo hi = some (decide (lo ≤ a ∧ a ≤ hi)) := by
  unfold shunt_within.f
  by_cases c : a ≥ lo
  · rw [if_pos c]
    congr 1
    rw [decide_eq_decide]
    exact ⟨fun h => ⟨c, h⟩, fun h => h.2⟩
  · rw [if_neg c, decide_eq_false (fun h => c h.1)]
theorem Count_no (a : Int) (h : ¬ (0 ≤ a ∧ a ≤ 30)) : Ev (fun k => shunt_Count.f k a) (0, 2) := by
  refine Ev.congr (fun k => ?_) (Ev.now _)
  unfold shunt_Count.f
  rw [within_f, decide_eq_false h]
  rfl
theorem table_rd (n : Nat) : rd (table.take (n + 1)) (n : Int) = cat n := by rw [rd_nat, take_cat n n (Nat.le_refl n)]
theorem table_len (n : Nat) (h : n ≤ 30) : (table.take (n + 1)).length = n + 1 := by
  rw [List.length_take, show table.length = 31 from rfl]
  omega
theorem Count_ev (n : Nat) (h : n ≤ 30) : Ev (fun k => shunt_Count.f k (n : Int)) (cat n, 0) := by
  refine Ev.congr (f := fun k => (shunt_counts.f k (n : Int)).bind fun t288 => (if 0 ≤ (n : Int) then (if (n : Int) < (t288.length : Int) then (some (rd t288 n, 0)) else (none)) else (none))) (fun k => ?_) ?_
  · unfold shunt_Count.f
    rw [within_f, decide_eq_true (by omega)]
    rfl
  · refine Ev.bind (f := fun _ t288 => (if 0 ≤ (n : Int) then (if (n : Int) < (t288.length : Int) then (some (rd t288 n, (0 : Int))) else (none)) else (none))) (counts_ev n h) ?_
    refine Ev.congr (fun k => ?_) (Ev.now _)
    rw [table_len n h, if_pos (by omega), if_pos (by omega), table_rd]
theorem Sortable_out (a k : Int) (h : ¬ (0 ≤ a ∧ a ≤ 30)) : Ev (fun q => shunt_Sortable.f q a k) ([], 2) := by
  refine Ev.congr (fun q => ?_) (Ev.now _)
  unfold shunt_Sortable.f
  rw [if_neg h]
theorem Sortable_step (n : Nat) (k : Int) (h : n ≤ 30) (r : List Int × Int) (hr : (if 0 ≤ k ∧ k ≤ cat n - 1 then (buildF (table.take (n + 1)) 100 (n : Int) k 0).bind fun r => some (r, 0) else some ([], 2)) = some r) : Ev (fun q => shunt_Sortable.f q (n : Int) k) r := by
  refine Ev.congr (f := fun q => (shunt_counts.f q (n : Int)).bind fun c => if (n : Int) < c.length ∧ c.length ≤ 100 ∧ -1000000000000000000 ≤ rd c (n : Int) ∧ rd c (n : Int) ≤ 1000000000000000000 then (if 0 ≤ k ∧ k ≤ rd c (n : Int) - 1 then (buildF c 100 (n : Int) k 0).bind fun r => some (r, 0) else some ([], 2)) else none) (fun q => ?_) ?_
  · unfold shunt_Sortable.f
    rw [if_pos (by omega)]
  · refine Ev.bind (f := fun _ c => if (n : Int) < c.length ∧ c.length ≤ 100 ∧ -1000000000000000000 ≤ rd c (n : Int) ∧ rd c (n : Int) ≤ 1000000000000000000 then (if 0 ≤ k ∧ k ≤ rd c (n : Int) - 1 then (buildF c 100 (n : Int) k 0).bind fun r => some (r, (0 : Int)) else some ([], 2)) else none) (counts_ev n h) ?_
    refine Ev.congr (fun q => ?_) (Ev.now _)
    have hc := cat_range n h
    rw [table_len n h, table_rd, if_pos (by refine ⟨by omega, by omega, by omega, by omega⟩)]
    exact hr
theorem Sortable_no (n : Nat) (k : Int) (h : n ≤ 30) (hk : ¬ (0 ≤ k ∧ k < cat n)) : Ev (fun q => shunt_Sortable.f q (n : Int) k) ([], 2) :=
  Sortable_step n k h _ (if_neg (fun h' => hk ⟨h'.1, by omega⟩))
theorem Sortable_ev {n : Nat} {k : Int} {l : List Int} (h : n ≤ 30) (hu : Unr n k 0 l) : Ev (fun q => shunt_Sortable.f q (n : Int) k) (l, 0) := by
  have hb := unr_bound hu h
  refine Sortable_step n k h _ ?_
  rw [if_pos (by omega), build_of (table.take (n + 1)) n (table_len n h) (fun j hj => take_cat n j hj) h hu (by omega) (by omega) 100 (by omega)]
  rfl
end Go.Proofs.Ytjbjongahnocdaa.P

/- What Stack and Pass answer for an order. -/
namespace Go.Proofs.Ytjbjongahnocdaa.P
open Go.RowKit Go.Proofs.Ytjbjongahnocdaa.S Go.Proofs.Ytjbjongahnocdaa.Defs Go.Proofs.YtjbjongahnocdaaW.PrintWords

theorem Pass_f (l : List Int) (h : IsOrd l) (hl : l.length ≤ 60) : shunt_Pass.f l = some (passOut l, 0) := by
  unfold shunt_Pass.f
  rw [if_pos ((isOrderB_iff l).2 ⟨hl, h⟩)]
  rfl
theorem Pass_no (l : List Int) (h : ¬ (l.length ≤ 60 ∧ IsOrd l)) : shunt_Pass.f l = some ([], 2) := by
  unfold shunt_Pass.f
  rw [if_neg (fun h' => h ((isOrderB_iff l).1 h'))]

/-- Stack's answer for an order: the plan of what it did, or a block. -/
theorem Stack_ev (l : List Int) (h : IsOrd l) (hl : l.length ≤ 60) : ∃ p b, Ev (fun k => shunt_Stack.f k l) (p, b, 0) ∧ ((No231 l ∧ b = [] ∧ p = strOfNums (stackGo l ([], [], [])).2.2) ∨ (¬ No231 l ∧ p = ⟨#[]⟩ ∧ BlockOf l b ∧ b ≠ [])) := by
  have hb : isOrderB l = true := (isOrderB_iff l).2 ⟨hl, h⟩
  have hf := stack_full l h
  by_cases hn : No231 l
  · refine ⟨_, _, Ev.congr (fun k => ?_) (Ev.now _), .inl ⟨hn, rfl, rfl⟩⟩
    unfold shunt_Stack.f
    rw [if_pos hb, if_neg (by rw [hf.2 hn]; omega)]
  · obtain ⟨r, h1, h2⟩ := block_ev l (by omega)
    have hlt : (stackGo l ([], [], [])).2.1.length < l.length := by
      have hne : (stackGo l ([], [], [])).2.1.length ≠ l.length := fun e => hn (hf.1 e)
      have hle := stackGo_le l ([], [], [])
      simp at hle
      omega
    refine ⟨⟨#[]⟩, r, Ev.congr (f := fun k => (shunt_block.f k l).bind fun b => some (⟨#[]⟩, b, 0)) (fun k => ?_) (Ev.bind (f := fun _ b => some ((⟨#[]⟩ : ByteArray), b, (0 : Int))) h1 (Ev.now _)), .inr ⟨hn, rfl, h2, fun e => hn ((blockOf_nil h2 h.1).1 e)⟩⟩
    unfold shunt_Stack.f
    rw [if_pos hb, if_pos hlt]
theorem Stack_no (l : List Int) (h : ¬ (l.length ≤ 60 ∧ IsOrd l)) : Ev (fun k => shunt_Stack.f k l) (⟨#[]⟩, [], 2) := by
  refine Ev.congr (fun k => ?_) (Ev.now _)
  unfold shunt_Stack.f
  rw [if_neg (fun h' => h ((isOrderB_iff l).1 h'))]

end Go.Proofs.Ytjbjongahnocdaa.P

namespace Go.Proofs.Ytjbjongahnocdaa.S
open Go.Proofs.Ytjbjongahnocdaa.Lib
open Go.Proofs.Ytjbjongahnocdaa.Defs
open Go.Maps (Keyed)
open Go.RowKit Go.Proofs.YtjbjongahnocdaaW.PrintWords Go.Proofs.YtjbjongahnocdaaW.PrintLast Go.Proofs.YtjbjongahnocdaaW.PrintMore
attribute [local go_sem] max2_int min2_int max_two min_two max_three min_three max_four min_four   -- for this text's walks alone
set_option linter.unusedVariables false
set_option linter.unusedSimpArgs false

/-! ### tickingref02_at: function 65 -/
def tickingref02_at.l0 : Nat → List Int → Int → Int → Option (Bool)
  | 0, _, _, _ => none
  | k + 1, x0, x1, x5 => if x5 < (x0.length : Int) then (if 0 ≤ x5 then (if (rd x0 x5) < 0 then (some false) else (if (rd x0 x5) ≥ x1 then (some false) else (if x5 ≤ (x0.length : Int) then ((tickingref02_has.f k (x0.take (x5 : Int).toNat) (rd x0 x5)).bind fun t322 => (if t322 = true then (some false) else (tickingref02_at.l0 k x0 x1 (wrap64 (x5 + 1))))) else (none)))) else (none)) else (some true)
def tickingref02_at.f (k : Nat) (l0 : List Int) (a1 : Int) : Option (Bool) := tickingref02_at.l0 k l0 a1 0
theorem tickingref02_at.mono_l : ∀ k, (∀ y0 y1 y2, LeO (tickingref02_at.l0 k y0 y1 y2) (tickingref02_at.l0 (k + 1) y0 y1 y2))
  | 0 => fun _ _ _ r h => by simp [tickingref02_at.l0] at h
  | k + 1 => by
    have ih0 := tickingref02_at.mono_l k
    · intro y0 y1 y2
      unfold tickingref02_at.l0
      repeat' first
      | (with_reducible exact ih0 _ _ _)
      | (with_reducible exact tickingref02_has.mono _ _ _)
      | (with_reducible exact LeO.refl _)
      | (with_reducible exact LeO.none _)
      | (with_reducible refine LeO.ite ?_ ?_)
      | (with_reducible refine LeO.bind ?_ (fun _ => ?_))
      | exact ih0 _ _ _
      | exact tickingref02_has.mono _ _ _
      | exact LeO.none _
      | refine LeO.ite ?_ ?_
      | refine LeO.bind ?_ (fun _ => ?_)
theorem tickingref02_at.mono : ∀ a0 a1 k, LeO (tickingref02_at.f k a0 a1) (tickingref02_at.f (k + 1) a0 a1) := by
  intro a0 a1 k
  have ih0 := tickingref02_at.mono_l k
  unfold tickingref02_at.f
  repeat' first
      | (with_reducible exact ih0 _ _ _)
      | (with_reducible exact tickingref02_has.mono _ _ _)
      | (with_reducible exact LeO.refl _)
      | (with_reducible exact LeO.none _)
      | (with_reducible refine LeO.ite ?_ ?_)
      | (with_reducible refine LeO.bind ?_ (fun _ => ?_))
      | exact ih0 _ _ _
      | exact tickingref02_has.mono _ _ _
      | exact LeO.none _
      | refine LeO.ite ?_ ?_
      | refine LeO.bind ?_ (fun _ => ?_)
set_option maxHeartbeats 8000000 in
set_option maxRecDepth 100000 in
theorem tickingref02_at.calls (k : Nat) (A0 : Option Addr) (c0 : Nat) (l0 : List Int) (a1 : Int) (r : Bool) (w : World) (hr0 : Kd.C (Kd.int .i64) w A0 l0.length l0) (hc0 : l0.length ≤ c0) (h : tickingref02_at.f k l0 a1 = some r) :
    Calls Try.prog 65 #[.slice A0 l0.length c0, .int .i64 a1] w fun e w' => e = .returned (.bool r) ∧ Drawn0 w w' := by
  have HR0 := Aside0.mk hr0
  have HC0 := Aside0.mk hc0
  clear hr0 hc0
  have H : (tickingref02_at.l0 k l0 a1 0) = some r := h
  clear h
  have H' := Aside0.mk H
  clear H
  go_enter Try.func65, Try.ntmps65
  go_wp2
  repeat (go_quiet (fail); try go_wp2)
  go_loopg [5] k (fun kq v5 w' => ∃ (x5_1 : Int), v5 = .int .i64 x5_1 ∧ Aside0 (tickingref02_at.l0 kq l0 a1 x5_1 = some r) ∧ Aside0 (kq ≤ k) ∧ Drawn0 w w')
  case atStart => exact ⟨(0), (by first | rfl | (simp; done) | (simp [*]; done)), H', ⟨Nat.le_refl _⟩, by repeat (first | exact Drawn0.refl _ | apply Drawn0.step)⟩
  case round =>
    clear H'
    try clear p2
    obtain ⟨x5_1, rfl, HA, HK1, ⟨m1, rfl⟩⟩ := hrel
    cases gk with
    | zero => exact absurd HA.out (by simp [tickingref02_at.l0])
    | succ k1 =>
      have H := HA.out
      clear HA
      simp only [tickingref02_at.l0] at H
      by_cases c3 : x5_1 < (l0.length : Int)
      · rw [if_pos c3] at H
        have c3b0 : decide (x5_1 < (l0.length : Int)) = true := decide_eq_true c3
        clear c3
        by_cases c4 : 0 ≤ x5_1
        · rw [if_pos c4] at H
          have c4b0 : decide (0 ≤ x5_1) = true := decide_eq_true c4
          clear c4
          by_cases c5 : (rd l0 x5_1) < 0
          · rw [if_pos c5] at H
            have c5b0 : decide ((rd l0 x5_1) < 0) = true := decide_eq_true c5
            clear c5
            obtain rfl := Option.some.inj H
            have p318 : 0 ≤ (x5_1 : Int) := of_decide_eq_true (by first | (with_reducible assumption) | assumption)
            have q318 : x5_1 < (l0.length : Int) := of_decide_eq_true (by first | (with_reducible assumption) | assumption)
            obtain ⟨ad318, e318, hx318_0⟩ := Kd.at_int HR0.out x5_1 p318 q318
            cases e318
            replace p318 := eq_true p318
            replace q318 := eq_true q318
            go_wp2
            repeat (go_quiet (fail); try go_wp2)
            go_ret
            exact ⟨by first | rfl | (simp; done) | (simp [*]; done), by repeat (first | exact Drawn0.refl _ | apply Drawn0.step)⟩
          · rw [if_neg c5] at H
            have c5b0 : decide ((rd l0 x5_1) < 0) = false := decide_eq_false c5
            clear c5
            by_cases c6 : (rd l0 x5_1) ≥ a1
            · rw [if_pos c6] at H
              have c6b0 : decide (a1 ≤ (rd l0 x5_1)) = true := decide_eq_true c6
              clear c6
              obtain rfl := Option.some.inj H
              have p318 : 0 ≤ (x5_1 : Int) := of_decide_eq_true (by first | (with_reducible assumption) | assumption)
              have q318 : x5_1 < (l0.length : Int) := of_decide_eq_true (by first | (with_reducible assumption) | assumption)
              obtain ⟨ad318, e318, hx318_0⟩ := Kd.at_int HR0.out x5_1 p318 q318
              cases e318
              replace p318 := eq_true p318
              replace q318 := eq_true q318
              have p319 : 0 ≤ (x5_1 : Int) := of_decide_eq_true (by first | (with_reducible assumption) | assumption)
              have q319 : x5_1 < (l0.length : Int) := of_decide_eq_true (by first | (with_reducible assumption) | assumption)
              obtain ⟨ad319, e319, hx319_0⟩ := Kd.at_int HR0.out x5_1 p319 q319
              obtain rfl : ad318 = ad319 := (by injection e319)
              replace p319 := eq_true p319
              replace q319 := eq_true q319
              go_wp2
              repeat (go_quiet (fail); try go_wp2)
              go_ret
              exact ⟨by first | rfl | (simp; done) | (simp [*]; done), by repeat (first | exact Drawn0.refl _ | apply Drawn0.step)⟩
            · rw [if_neg c6] at H
              have c6b0 : decide (a1 ≤ (rd l0 x5_1)) = false := decide_eq_false c6
              clear c6
              have c7b0 := eq_true (of_decide_eq_true (by first | (with_reducible assumption) | assumption) : 0 ≤ x5_1)
              by_cases c8 : x5_1 ≤ (l0.length : Int)
              · rw [if_pos c8] at H
                have c8b0 := eq_true c8
                have c8b1 : decide (x5_1 ≤ (l0.length : Int)) = true := decide_eq_true c8
                clear c8
                replace H := Option.bind_eq_some_iff.mp H
                obtain ⟨t322, A90, H⟩ := H
                replace H : (if t322 = true then (some false) else (tickingref02_at.l0 k1 l0 a1 (wrap64 (x5_1 + 1)))) = some r := H
                have A9 := Aside0.mk A90
                clear A90
                by_cases c10 : t322 = true
                · subst c10
                  have H1 : (some false) = some r := by rw [if_pos rfl] at H; exact H
                  clear H
                  have H := H1
                  clear H1
                  obtain rfl := Option.some.inj H
                  have p318 : 0 ≤ (x5_1 : Int) := of_decide_eq_true (by first | (with_reducible assumption) | assumption)
                  have q318 : x5_1 < (l0.length : Int) := of_decide_eq_true (by first | (with_reducible assumption) | assumption)
                  obtain ⟨ad318, e318, hx318_0⟩ := Kd.at_int HR0.out x5_1 p318 q318
                  cases e318
                  replace p318 := eq_true p318
                  replace q318 := eq_true q318
                  have p319 : 0 ≤ (x5_1 : Int) := of_decide_eq_true (by first | (with_reducible assumption) | assumption)
                  have q319 : x5_1 < (l0.length : Int) := of_decide_eq_true (by first | (with_reducible assumption) | assumption)
                  obtain ⟨ad319, e319, hx319_0⟩ := Kd.at_int HR0.out x5_1 p319 q319
                  obtain rfl : ad318 = ad319 := (by injection e319)
                  replace p319 := eq_true p319
                  replace q319 := eq_true q319
                  obtain ⟨i011, hi011, _, hsz11, _⟩ := info_parts info3
                  obtain ⟨hcut11, hA11, hC11⟩ := print_take_of (P := Try.prog) (Value.int .i64) 0 22 3 .i64 Try.underlying22 hi011 hsz11 (some ad318) c0 l0 x5_1 (of_decide_eq_true (by first | (with_reducible assumption) | assumption)) (of_decide_eq_true (by first | (with_reducible assumption) | assumption)) HC0.out
                  have HR320 := Aside0.mk (Kd.C_of_reads (h1 := fun _ => rfl) (hA11 _ (Kd.reads_of_C HR0.out)))
                  have HC320 := Aside0.mk hC11
                  clear hA11 hC11 hi011 hsz11
                  obtain ⟨tk11, htk11⟩ : ∃ tk_ : List Int, (l0.take (x5_1 : Int).toNat) = tk_ := ⟨_, rfl⟩
                  simp only [htk11] at *
                  have Htk11 := Aside0.mk htk11
                  clear htk11
                  have p321 : 0 ≤ (x5_1 : Int) := of_decide_eq_true (by first | (with_reducible assumption) | assumption)
                  have q321 : x5_1 < (l0.length : Int) := of_decide_eq_true (by first | (with_reducible assumption) | assumption)
                  obtain ⟨ad321, e321, hx321_0⟩ := Kd.at_int HR0.out x5_1 p321 q321
                  obtain rfl : ad318 = ad321 := (by injection e321)
                  replace p321 := eq_true p321
                  replace q321 := eq_true q321
                  go_wp2_with (first | (go_at_call 59; (with_reducible refine (tickingref02_has.calls k1 _ _ tk11 (rd l0 x5_1) true _ ?side1 ?side2 A9.out).mono ?_); (case side1 => repeat (first | exact HR320.out | (with_reducible refine Kd.C_alloc ?_ _) | (with_reducible refine Kd.C_drewN ?_ _) | (with_reducible refine Kd.C_drew ?_))); (case side2 => exact HC320.out); rintro e w' ⟨rfl, ⟨nd, rfl⟩⟩; (try first | exact ⟨rfl, _, World.drewN_drewN _ _ _⟩ | exact ⟨rfl, _, Eq.trans (World.drewN_drewN _ _ _) (congrArg (World.drewN _) (Nat.add_assoc _ _ _))⟩)))
                  repeat (go_quiet (first | (go_at_call 59; (with_reducible refine (tickingref02_has.calls k1 _ _ tk11 (rd l0 x5_1) true _ ?side1 ?side2 A9.out).mono ?_); (case side1 => repeat (first | exact HR320.out | (with_reducible refine Kd.C_alloc ?_ _) | (with_reducible refine Kd.C_drewN ?_ _) | (with_reducible refine Kd.C_drew ?_))); (case side2 => exact HC320.out); rintro e w' ⟨rfl, ⟨nd, rfl⟩⟩; (try first | exact ⟨rfl, _, World.drewN_drewN _ _ _⟩ | exact ⟨rfl, _, Eq.trans (World.drewN_drewN _ _ _) (congrArg (World.drewN _) (Nat.add_assoc _ _ _))⟩))); try go_wp2_with (first | (go_at_call 59; (with_reducible refine (tickingref02_has.calls k1 _ _ tk11 (rd l0 x5_1) true _ ?side1 ?side2 A9.out).mono ?_); (case side1 => repeat (first | exact HR320.out | (with_reducible refine Kd.C_alloc ?_ _) | (with_reducible refine Kd.C_drewN ?_ _) | (with_reducible refine Kd.C_drew ?_))); (case side2 => exact HC320.out); rintro e w' ⟨rfl, ⟨nd, rfl⟩⟩; (try first | exact ⟨rfl, _, World.drewN_drewN _ _ _⟩ | exact ⟨rfl, _, Eq.trans (World.drewN_drewN _ _ _) (congrArg (World.drewN _) (Nat.add_assoc _ _ _))⟩))))
                  go_ret
                  exact ⟨by first | rfl | (simp; done) | (simp [*]; done), by repeat (first | exact Drawn0.refl _ | apply Drawn0.step)⟩
                · replace c10 := Bool.eq_false_iff.mpr c10
                  subst c10
                  have H1 : (tickingref02_at.l0 k1 l0 a1 (wrap64 (x5_1 + 1))) = some r := by rw [if_neg (show ¬ (false = true) by decide)] at H; exact H
                  clear H
                  have H := H1
                  clear H1
                  have H' := Aside0.mk H
                  clear H
                  have p318 : 0 ≤ (x5_1 : Int) := of_decide_eq_true (by first | (with_reducible assumption) | assumption)
                  have q318 : x5_1 < (l0.length : Int) := of_decide_eq_true (by first | (with_reducible assumption) | assumption)
                  obtain ⟨ad318, e318, hx318_0⟩ := Kd.at_int HR0.out x5_1 p318 q318
                  cases e318
                  replace p318 := eq_true p318
                  replace q318 := eq_true q318
                  have p319 : 0 ≤ (x5_1 : Int) := of_decide_eq_true (by first | (with_reducible assumption) | assumption)
                  have q319 : x5_1 < (l0.length : Int) := of_decide_eq_true (by first | (with_reducible assumption) | assumption)
                  obtain ⟨ad319, e319, hx319_0⟩ := Kd.at_int HR0.out x5_1 p319 q319
                  obtain rfl : ad318 = ad319 := (by injection e319)
                  replace p319 := eq_true p319
                  replace q319 := eq_true q319
                  obtain ⟨i012, hi012, _, hsz12, _⟩ := info_parts info3
                  obtain ⟨hcut12, hA12, hC12⟩ := print_take_of (P := Try.prog) (Value.int .i64) 0 22 3 .i64 Try.underlying22 hi012 hsz12 (some ad318) c0 l0 x5_1 (of_decide_eq_true (by first | (with_reducible assumption) | assumption)) (of_decide_eq_true (by first | (with_reducible assumption) | assumption)) HC0.out
                  have HR320 := Aside0.mk (Kd.C_of_reads (h1 := fun _ => rfl) (hA12 _ (Kd.reads_of_C HR0.out)))
                  have HC320 := Aside0.mk hC12
                  clear hA12 hC12 hi012 hsz12
                  obtain ⟨tk12, htk12⟩ : ∃ tk_ : List Int, (l0.take (x5_1 : Int).toNat) = tk_ := ⟨_, rfl⟩
                  simp only [htk12] at *
                  have Htk12 := Aside0.mk htk12
                  clear htk12
                  have p321 : 0 ≤ (x5_1 : Int) := of_decide_eq_true (by first | (with_reducible assumption) | assumption)
                  have q321 : x5_1 < (l0.length : Int) := of_decide_eq_true (by first | (with_reducible assumption) | assumption)
                  obtain ⟨ad321, e321, hx321_0⟩ := Kd.at_int HR0.out x5_1 p321 q321
                  obtain rfl : ad318 = ad321 := (by injection e321)
                  replace p321 := eq_true p321
                  replace q321 := eq_true q321
                  go_wp2_with (first | (go_at_call 59; (with_reducible refine (tickingref02_has.calls k1 _ _ tk12 (rd l0 x5_1) false _ ?side1 ?side2 A9.out).mono ?_); (case side1 => repeat (first | exact HR320.out | (with_reducible refine Kd.C_alloc ?_ _) | (with_reducible refine Kd.C_drewN ?_ _) | (with_reducible refine Kd.C_drew ?_))); (case side2 => exact HC320.out); rintro e w' ⟨rfl, ⟨nd, rfl⟩⟩; (try first | exact ⟨rfl, _, World.drewN_drewN _ _ _⟩ | exact ⟨rfl, _, Eq.trans (World.drewN_drewN _ _ _) (congrArg (World.drewN _) (Nat.add_assoc _ _ _))⟩)))
                  repeat (go_quiet (first | (go_at_call 59; (with_reducible refine (tickingref02_has.calls k1 _ _ tk12 (rd l0 x5_1) false _ ?side1 ?side2 A9.out).mono ?_); (case side1 => repeat (first | exact HR320.out | (with_reducible refine Kd.C_alloc ?_ _) | (with_reducible refine Kd.C_drewN ?_ _) | (with_reducible refine Kd.C_drew ?_))); (case side2 => exact HC320.out); rintro e w' ⟨rfl, ⟨nd, rfl⟩⟩; (try first | exact ⟨rfl, _, World.drewN_drewN _ _ _⟩ | exact ⟨rfl, _, Eq.trans (World.drewN_drewN _ _ _) (congrArg (World.drewN _) (Nat.add_assoc _ _ _))⟩))); try go_wp2_with (first | (go_at_call 59; (with_reducible refine (tickingref02_has.calls k1 _ _ tk12 (rd l0 x5_1) false _ ?side1 ?side2 A9.out).mono ?_); (case side1 => repeat (first | exact HR320.out | (with_reducible refine Kd.C_alloc ?_ _) | (with_reducible refine Kd.C_drewN ?_ _) | (with_reducible refine Kd.C_drew ?_))); (case side2 => exact HC320.out); rintro e w' ⟨rfl, ⟨nd, rfl⟩⟩; (try first | exact ⟨rfl, _, World.drewN_drewN _ _ _⟩ | exact ⟨rfl, _, Eq.trans (World.drewN_drewN _ _ _) (congrArg (World.drewN _) (Nat.add_assoc _ _ _))⟩))))
                  go_roundg k1
                  case measure => have := HK1.out; omega
                  case rel => exact ⟨(wrap64 (x5_1 + 1)), (by first | rfl | (simp; done) | (simp [*]; done)), H', ⟨by have := HK1.out; omega⟩, by repeat (first | exact Drawn0.refl _ | apply Drawn0.step)⟩
              · rw [if_neg c8] at H
                exact absurd H (by simp)
        · rw [if_neg c4] at H
          exact absurd H (by simp)
      · rw [if_neg c3] at H
        have c3b0 : decide (x5_1 < (l0.length : Int)) = false := decide_eq_false c3
        clear c3
        obtain rfl := Option.some.inj H
        go_wp2
        repeat (go_quiet (fail); try go_wp2)
        go_ret
        exact ⟨by first | rfl | (simp; done) | (simp [*]; done), by repeat (first | exact Drawn0.refl _ | apply Drawn0.step)⟩

end Go.Proofs.Ytjbjongahnocdaa.S

/- Lists of positions: what the reference's check of them answers. -/
namespace Go.Proofs.Ytjbjongahnocdaa.P
open Go.RowKit Go.Proofs.Ytjbjongahnocdaa.S Go.Proofs.Ytjbjongahnocdaa.Defs Go.Proofs.YtjbjongahnocdaaW.PrintWords Go.Proofs.YtjbjongahnocdaaW.PrintLast Go.Proofs.YtjbjongahnocdaaW.PrintMore
set_option linter.unusedVariables false

/-! ### positions -/
theorem at_loop (b : List Int) (n : Int) (hl : b.length ≤ 1000000) (d : Nat) : ∀ i : Nat, i + d = b.length → (b.take i).Nodup → (∀ x ∈ b.take i, 0 ≤ x ∧ x < n) →
    Ev (fun k => tickingref02_at.l0 k b n (i : Int)) (decide ((∀ x ∈ b, 0 ≤ x ∧ x < n) ∧ b.Nodup)) := by
  induction d with
  | zero =>
    intro i h h1 h2
    obtain rfl : i = b.length := by omega
    rw [List.take_length] at h1 h2
    rw [decide_eq_true ⟨h2, h1⟩]
    refine Ev.step (f := fun _ => some true) (fun k => ?_) (Ev.now _)
    simp only [tickingref02_at.l0]
    rw [if_neg (by omega)]
  | succ d ih =>
    intro i h h1 h2
    have hi : i < b.length := by omega
    have hm : rd b (i : Int) ∈ b := rd_mem (by omega) (by omega)
    have w : wrap64 ((i : Int) + 1) = ((i + 1 : Nat) : Int) := by rw [w64 (by omega) (by omega)]; rfl
    have tk : b.take (i + 1) = b.take i ++ [rd b (i : Int)] := by rw [rd_lt b i hi, ← List.take_append_getElem hi]
    by_cases c1 : rd b (i : Int) < 0
    · rw [decide_eq_false (fun h => by have := h.1 _ hm; omega)]
      refine Ev.step (f := fun _ => some false) (fun k => ?_) (Ev.now _)
      simp only [tickingref02_at.l0]
      rw [if_pos (by omega), if_pos (by omega), if_pos c1]
    · by_cases c2 : rd b (i : Int) ≥ n
      · rw [decide_eq_false (fun h => by have := h.1 _ hm; omega)]
        refine Ev.step (f := fun _ => some false) (fun k => ?_) (Ev.now _)
        simp only [tickingref02_at.l0]
        rw [if_pos (by omega), if_pos (by omega), if_neg c1, if_pos c2]
      · refine Ev.step (f := fun k => (tickingref02_has.f k (b.take i) (rd b (i : Int))).bind fun t => if t = true then some false else tickingref02_at.l0 k b n ((i + 1 : Nat) : Int)) (fun k => ?_) ?_
        · simp only [tickingref02_at.l0]
          rw [if_pos (by omega), if_pos (by omega), if_neg c1, if_neg c2, if_pos (by omega), Int.toNat_natCast, w]
        · refine Ev.bind (f := fun k (t : Bool) => if t = true then some false else tickingref02_at.l0 k b n ((i + 1 : Nat) : Int)) (has_ev _ _ (by rw [List.length_take]; omega)) ?_
          by_cases c3 : rd b (i : Int) ∈ b.take i
          · rw [decide_eq_false (p := (∀ x ∈ b, 0 ≤ x ∧ x < n) ∧ b.Nodup) (fun h => by
              have hd : (b.take (i + 1)).Nodup := h.2.sublist (List.take_sublist _ _)
              rw [tk, List.nodup_append] at hd
              exact hd.2.2 _ c3 _ (List.mem_singleton.2 rfl) rfl)]
            exact Ev.congr (fun k => by rw [if_pos (decide_eq_true c3)]) (Ev.now _)
          · refine Ev.congr (f := fun k => tickingref02_at.l0 k b n ((i + 1 : Nat) : Int)) (fun k => by rw [if_neg (by rw [decide_eq_true_eq]; exact c3)]) (ih (i + 1) (by omega) ?_ ?_)
            · rw [tk, List.nodup_append]
              exact ⟨h1, by simp, fun a ha x hx e => by rw [List.mem_singleton] at hx; rw [e, hx] at ha; exact c3 ha⟩
            · rw [tk]
              intro x hx
              rcases List.mem_append.1 hx with hx | hx
              · exact h2 x hx
              · rw [List.mem_singleton] at hx
                omega
theorem at_ev (b : List Int) (n : Int) (hl : b.length ≤ 1000000) : Ev (fun k => tickingref02_at.f k b n) (decide ((∀ x ∈ b, 0 ≤ x ∧ x < n) ∧ b.Nodup)) :=
  at_loop b n hl b.length 0 (by omega) (by simp) (by simp)

end Go.Proofs.Ytjbjongahnocdaa.P
