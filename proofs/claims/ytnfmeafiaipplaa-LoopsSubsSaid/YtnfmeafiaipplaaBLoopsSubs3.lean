-- Written by wip/bundle2.py: texts of this claim, one behind the other.
import Derived.Test.YtnfmeafiaipplaaBLoopsSubs2
set_option linter.unusedVariables false
set_option linter.unusedSimpArgs false

namespace Go.Proofs.Ytnfmeafiaipplaa.S
open Go.Proofs.Ytnfmeafiaipplaa.Lib
open Go.Maps (Keyed)
open Go.RowKit Go.Proofs.YtnfmeafiaipplaaW.PrintWords Go.Proofs.YtnfmeafiaipplaaW.PrintLast Go.Proofs.YtnfmeafiaipplaaW.PrintMore
attribute [local go_sem] max2_int min2_int max_two min_two max_three min_three max_four min_four
set_option linter.unusedVariables false
set_option linter.unusedSimpArgs false

mutual
def tickingref06_Subtypes.l0 : Nat → List (S39) → Int → List Bool → Int → Option (List Bool)
 | 0, _, _, _, _ => none
 | k + 1, x0, x3, x4, x5 => if x5 < x3 then (tickingref06_Subtypes.l1 k x0 x3 x4 x5 0) else (tickingref06_Subtypes.l2 k x0 x3 x4 true)
def tickingref06_Subtypes.l1 : Nat → List (S39) → Int → List Bool → Int → Int → Option (List Bool)
 | 0, _, _, _, _, _ => none
 | k + 1, x0, x3, x4, x5, x6 => if x6 < x3 then (if 0 ≤ x5 then (if x5 < (x0.length : Int) then (if 0 ≤ x6 then (if x6 < (x0.length : Int) then (if ((rd_T39 x0 x5).f0) = 0 then (if 0 ≤ (wrap64 ((wrap64 (x3 * x5)) + x6)) then (if (wrap64 ((wrap64 (x3 * x5)) + x6)) < (x4.length : Int) then (tickingref06_Subtypes.l1 k x0 x3 (x4.set ((wrap64 ((wrap64 (x3 * x5)) + x6)) : Int).toNat true) x5 (wrap64 (x6 + 1))) else (none)) else (none)) else (if ((rd_T39 x0 x6).f0) = 1 then (if 0 ≤ (wrap64 ((wrap64 (x3 * x5)) + x6)) then (if (wrap64 ((wrap64 (x3 * x5)) + x6)) < (x4.length : Int) then (tickingref06_Subtypes.l1 k x0 x3 (x4.set ((wrap64 ((wrap64 (x3 * x5)) + x6)) : Int).toNat true) x5 (wrap64 (x6 + 1))) else (none)) else (none)) else (if 0 ≤ (wrap64 ((wrap64 (x3 * x5)) + x6)) then (if (wrap64 ((wrap64 (x3 * x5)) + x6)) < (x4.length : Int) then (tickingref06_Subtypes.l1 k x0 x3 (x4.set ((wrap64 ((wrap64 (x3 * x5)) + x6)) : Int).toNat (((rd_T39 x0 x5).f0) == ((rd_T39 x0 x6).f0))) x5 (wrap64 (x6 + 1))) else (none)) else (none)))) else (none)) else (none)) else (none)) else (none)) else (tickingref06_Subtypes.l0 k x0 x3 x4 (wrap64 (x5 + 1)))
def tickingref06_Subtypes.l2 : Nat → List (S39) → Int → List Bool → Bool → Option (List Bool)
 | 0, _, _, _, _ => none
 | k + 1, x0, x3, x4, x9 => if x9 = true then (tickingref06_Subtypes.l3 k x0 x3 x4 false 0) else (some x4)
def tickingref06_Subtypes.l3 : Nat → List (S39) → Int → List Bool → Bool → Int → Option (List Bool)
 | 0, _, _, _, _, _ => none
 | k + 1, x0, x3, x4, x9, x10 => if x10 < x3 then (tickingref06_Subtypes.l4 k x0 x3 x4 x9 x10 0) else (tickingref06_Subtypes.l2 k x0 x3 x4 x9)
def tickingref06_Subtypes.l4 : Nat → List (S39) → Int → List Bool → Bool → Int → Int → Option (List Bool)
 | 0, _, _, _, _, _, _ => none
 | k + 1, x0, x3, x4, x9, x10, x11 => if x11 < x3 then (if 0 ≤ x10 then (if x10 < (x0.length : Int) then (if 0 ≤ x11 then (if x11 < (x0.length : Int) then (if 0 ≤ (wrap64 ((wrap64 (x3 * x10)) + x11)) then (if (wrap64 ((wrap64 (x3 * x10)) + x11)) < (x4.length : Int) then (if (rdOf false x4 (wrap64 ((wrap64 (x3 * x10)) + x11)) = true) then (if ((rd_T39 x0 x10).f0) = 0 then (tickingref06_Subtypes.j5 k x0 x3 x4 x9 x10 x11 true ((rd_T39 x0 x10).f0) ((rd_T39 x0 x10).f1) ((rd_T39 x0 x10).f2) ((rd_T39 x0 x11).f0) ((rd_T39 x0 x11).f1) ((rd_T39 x0 x11).f2)) else (if ((rd_T39 x0 x11).f0) = 1 then (tickingref06_Subtypes.j5 k x0 x3 x4 x9 x10 x11 true ((rd_T39 x0 x10).f0) ((rd_T39 x0 x10).f1) ((rd_T39 x0 x10).f2) ((rd_T39 x0 x11).f0) ((rd_T39 x0 x11).f1) ((rd_T39 x0 x11).f2)) else (tickingref06_Subtypes.j5 k x0 x3 x4 x9 x10 x11 (decide (((rd_T39 x0 x10).f0) < 4)) ((rd_T39 x0 x10).f0) ((rd_T39 x0 x10).f1) ((rd_T39 x0 x10).f2) ((rd_T39 x0 x11).f0) ((rd_T39 x0 x11).f1) ((rd_T39 x0 x11).f2)))) else (tickingref06_Subtypes.j5 k x0 x3 x4 x9 x10 x11 true ((rd_T39 x0 x10).f0) ((rd_T39 x0 x10).f1) ((rd_T39 x0 x10).f2) ((rd_T39 x0 x11).f0) ((rd_T39 x0 x11).f1) ((rd_T39 x0 x11).f2))) else (none)) else (none)) else (none)) else (none)) else (none)) else (none)) else (tickingref06_Subtypes.l3 k x0 x3 x4 x9 (wrap64 (x10 + 1)))
def tickingref06_Subtypes.j5 : Nat → List (S39) → Int → List Bool → Bool → Int → Int → Bool → Int → Int → Int → Int → Int → Int → Option (List Bool)
 | 0, _, _, _, _, _, _, _, _, _, _, _, _, _ => none
 | k + 1, x0, x3, x4, x9, x10, x11, x101, x399000, x399001, x399002, x400000, x400001, x400002 => if x101 = true then (tickingref06_Subtypes.l4 k x0 x3 x4 x9 x10 (wrap64 (x11 + 1))) else (if 0 ≤ (wrap64 ((wrap64 (x3 * x399001)) + x400001)) then (if (wrap64 ((wrap64 (x3 * x399001)) + x400001)) < (x4.length : Int) then (if x399000 = 5 then (if 0 ≤ (wrap64 ((wrap64 (x3 * x400001)) + x399001)) then (if (wrap64 ((wrap64 (x3 * x400001)) + x399001)) < (x4.length : Int) then (if (rdOf false x4 (wrap64 ((wrap64 (x3 * x400001)) + x399001)) = true) then (if 0 ≤ (wrap64 ((wrap64 (x3 * x399002)) + x400002)) then (if (wrap64 ((wrap64 (x3 * x399002)) + x400002)) < (x4.length : Int) then (if (rdOf false x4 (wrap64 ((wrap64 (x3 * x399002)) + x400002)) = true) then (tickingref06_Subtypes.l4 k x0 x3 x4 x9 x10 (wrap64 (x11 + 1))) else (if 0 ≤ (wrap64 ((wrap64 (x3 * x10)) + x11)) then (if (wrap64 ((wrap64 (x3 * x10)) + x11)) < (x4.length : Int) then (tickingref06_Subtypes.l4 k x0 x3 (x4.set ((wrap64 ((wrap64 (x3 * x10)) + x11)) : Int).toNat false) true x10 (wrap64 (x11 + 1))) else (none)) else (none))) else (none)) else (none)) else (if 0 ≤ (wrap64 ((wrap64 (x3 * x10)) + x11)) then (if (wrap64 ((wrap64 (x3 * x10)) + x11)) < (x4.length : Int) then (tickingref06_Subtypes.l4 k x0 x3 (x4.set ((wrap64 ((wrap64 (x3 * x10)) + x11)) : Int).toNat false) true x10 (wrap64 (x11 + 1))) else (none)) else (none))) else (none)) else (none)) else (if (rdOf false x4 (wrap64 ((wrap64 (x3 * x399001)) + x400001)) = true) then (if 0 ≤ (wrap64 ((wrap64 (x3 * x399002)) + x400002)) then (if (wrap64 ((wrap64 (x3 * x399002)) + x400002)) < (x4.length : Int) then (if (rdOf false x4 (wrap64 ((wrap64 (x3 * x399002)) + x400002)) = true) then (tickingref06_Subtypes.l4 k x0 x3 x4 x9 x10 (wrap64 (x11 + 1))) else (if 0 ≤ (wrap64 ((wrap64 (x3 * x10)) + x11)) then (if (wrap64 ((wrap64 (x3 * x10)) + x11)) < (x4.length : Int) then (tickingref06_Subtypes.l4 k x0 x3 (x4.set ((wrap64 ((wrap64 (x3 * x10)) + x11)) : Int).toNat false) true x10 (wrap64 (x11 + 1))) else (none)) else (none))) else (none)) else (none)) else (if 0 ≤ (wrap64 ((wrap64 (x3 * x10)) + x11)) then (if (wrap64 ((wrap64 (x3 * x10)) + x11)) < (x4.length : Int) then (tickingref06_Subtypes.l4 k x0 x3 (x4.set ((wrap64 ((wrap64 (x3 * x10)) + x11)) : Int).toNat false) true x10 (wrap64 (x11 + 1))) else (none)) else (none)))) else (none)) else (none))
end
def tickingref06_Subtypes.f (k : Nat) (l0 : List (S39)) : Option (List Bool) := if 0 ≤ (wrap64 ((l0.length : Int) * (l0.length : Int))) then (if (wrap64 ((l0.length : Int) * (l0.length : Int)) : Int).toNat ≤ 281474976710656 then (tickingref06_Subtypes.l0 k l0 (l0.length : Int) (List.replicate (wrap64 ((l0.length : Int) * (l0.length : Int)) : Int).toNat false) 0) else (none)) else (none)
def tickingref06_Subtypes.T9 : Bool × List (List Nat × List Nat) := (true, [([], []), ([], []), ([0, 1], [0, 1]), ([2], [2]), ([3], [3]), ([], []), ([], []), ([5, 6], [5, 6]), ([7], [7]), ([8], [8]), ([4, 0, 1, 2, 3, 4], [4]), ([9, 10, 0, 1, 2, 3, 4, 5, 6, 7, 8, 9, 10], [9])])
def tickingref06_Subtypes.B9 : List Nat := [0, 0, 3, 7, 15, 0, 0, 96, 224, 480, 31, 2047]
theorem tickingref06_Subtypes.tab9 : rtab .any (opsOf Try.f30 9) = tickingref06_Subtypes.T9 := by kernel_rfl
theorem tickingref06_Subtypes.bits9 : waitsOk tickingref06_Subtypes.T9.2 tickingref06_Subtypes.B9 = true := by kernel_rfl
def tickingref06_Subtypes.T20 : Bool × List (List Nat × List Nat) := (true, [([], []), ([], []), ([0, 1], [0, 1]), ([2], [2]), ([], []), ([], []), ([4, 5], [4, 5]), ([6], [6]), ([], []), ([], []), ([8, 3, 0, 1, 2, 3, 8, 9], [3, 8]), ([9, 7, 10, 0, 1, 2, 3, 4, 5, 6, 7, 8, 9, 10], [7, 9])])
def tickingref06_Subtypes.B20 : List Nat := [0, 0, 3, 7, 0, 0, 48, 112, 0, 0, 783, 2047]
theorem tickingref06_Subtypes.tab20 : rtab .any (opsOf Try.f30 20) = tickingref06_Subtypes.T20 := by kernel_rfl
theorem tickingref06_Subtypes.bits20 : waitsOk tickingref06_Subtypes.T20.2 tickingref06_Subtypes.B20 = true := by kernel_rfl
set_option maxHeartbeats 8000000 in
set_option maxRecDepth 100000 in
theorem tickingref06_Subtypes.calls (k : Nat) (A0 : Option Addr) (c0 : Nat) (l0 : List (S39)) (r : List Bool) (w : World) (hr0 : Kd.C k39 w A0 l0.length l0) (hc0 : l0.length ≤ c0) (h : tickingref06_Subtypes.f k l0 = some r) :
  Calls Try.prog 30 #[.slice A0 l0.length c0] w fun e w' => ∃ v0_ : Value, e = .returned (v0_) ∧ Kd.R Kd.bool 4 w' w.heap.size (fun _ => True) v0_ r ∧ Below w.heap.size w w' := by
 have hu39 := Try.underlying39
 have HR0 := Aside0.mk hr0
 have HC0 := Aside0.mk hc0
 clear hr0 hc0
 have HB := Aside0.mk (Below.refl w.heap.size w)
 have H : (if 0 ≤ (wrap64 ((l0.length : Int) * (l0.length : Int))) then (if (wrap64 ((l0.length : Int) * (l0.length : Int)) : Int).toNat ≤ 281474976710656 then (tickingref06_Subtypes.l0 k l0 (l0.length : Int) (List.replicate (wrap64 ((l0.length : Int) * (l0.length : Int)) : Int).toNat false) 0) else (none)) else (none)) = some r := h
 clear h
 obtain ⟨ji2, hji2⟩ : ∃ j_ : Int, (wrap64 ((l0.length : Int) * (l0.length : Int))) = j_ := ⟨_, rfl⟩
 replace H : (if 0 ≤ (ji2) then (if (ji2 : Int).toNat ≤ 281474976710656 then (tickingref06_Subtypes.l0 k l0 (l0.length : Int) (List.replicate (ji2 : Int).toNat false) 0) else (none)) else (none)) = some r := by first | (rw [hji2] at H; exact H) | (simp only [hji2] at H ⊢; exact H)
 have hji2w : (IntKind.i64.wrap ((l0.length : Int) * (l0.length : Int))) = ji2 := (i64_w _).trans hji2
 by_cases c3 : 0 ≤ (ji2)
 rotate_left
 ·rw [if_neg c3] at H
  exact absurd H (by simp)
 rw [if_pos c3] at H
 have c3b0 := eq_true c3
 have c3b1 : decide (0 ≤ (ji2)) = true := decide_eq_true c3
 clear c3
 by_cases c4 : (ji2 : Int).toNat ≤ 281474976710656
 rotate_left
 ·rw [if_neg c4] at H
  exact absurd H (by simp)
 rw [if_pos c4] at H
 have c4b0 := eq_true c4
 have c4b1 : decide ((ji2 : Int).toNat ≤ 281474976710656) = true := decide_eq_true c4
 clear c4
 obtain ⟨y388, hy388⟩ : ∃ y_ : List Bool, y_ = (List.replicate (ji2 : Int).toNat false) := ⟨_, rfl⟩
 replace H : (tickingref06_Subtypes.l0 k l0 (l0.length : Int) y388 0) = some r := by first | (rw [hy388]; with_reducible exact H) | (have H2_ := (Option.bind_some _ _).symm.trans H; rw [hy388]; with_reducible exact H2_) | (have H2_ := (Option.bind_some _ _).symm.trans H; with_reducible exact H2_) | with_reducible exact H | (rw [hy388]; exact H) | exact H
 have Ny388 := Aside0.mk hy388
 clear hy388
 have H' := Aside0.mk H
 clear H
 go_enter Try.func30, Try.ntmps30
 go_wp2_with (first | ((with_reducible refine gate_dst (N := 20) rfl ?_); refine Kd.R_make Kd.bool _ 4 rfl (N := 20) rfl 34 _ _ rfl ji2 rfl rfl Try.underlying34 (.bool false) 1 info4 rfl (by decide) (by omega) false (ok := fun _ => True) (okp := fun _ => True) rfl (fun _ hk => hk) trivial (of_decide_eq_true (by first | (with_reducible assumption) | assumption)) (Nat.le_trans (Nat.mul_le_mul_right _ (of_decide_eq_true (by first | (with_reducible assumption) | assumption) : ji2.toNat ≤ 281474976710656)) (by omega)) (Below.refl _ _) (Nat.le_refl _) ?_; intro v389 w5 ho6 hb hg_ hnew_; clear hg_ hnew_; (first | rw [← Ny388.out] at ho6 | (simp only [Int.reduceToNat] at ho6; rw [← Ny388.out] at ho6)); have n0_ := Aside0.mk (Kd.R_lower ho6 (below_size (by repeat (first | (with_reducible first | exact HB.out | apply below_alloc | apply pw_below_drewN | apply below_drew1) | exact HB.out)))); have n1_ := Aside0.mk (below_step (by repeat (first | (with_reducible first | exact HB.out | apply below_alloc | apply pw_below_drewN | apply below_drew1) | exact HB.out)) hb); clear HB; have HO390 := n0_; have HB := n1_; clear n0_ n1_; clear hb ho6))
 go_loopg [5] k (fun kq v5 w' => ∃ (x4_1 : List Bool) (x5_1 : Int), v5 = .int .i64 x5_1 ∧ Aside0 (tickingref06_Subtypes.l0 kq l0 (l0.length : Int) x4_1 x5_1 = some r) ∧ Aside0 (kq ≤ k) ∧ Aside0 (Kd.R Kd.bool 4 w' w.heap.size (fun _ => True) v389 x4_1) ∧ Aside0 (Below w.heap.size w w'))
 case atStart => exact ⟨(y388), (0), (by first | rfl | (simp; done) | (simp [*]; done)), H', ⟨Nat.le_refl _⟩, ⟨by (with_reducible repeat (first | apply Kd.R_alloc | apply Kd.R_drewN | apply Kd.R_drew)); exact HO390.out⟩, ⟨by repeat (first | (with_reducible first | exact HB.out | apply below_alloc | apply pw_below_drewN | apply below_drew1) | exact HB.out)⟩⟩
 clear H'
 try clear p2
 try clear c3
 try clear c3b0
 try clear c3b1
 try clear c4
 try clear c4b0
 try clear c4b1
 try clear p6
 obtain ⟨x4_1, x5_1, rfl, HA, HK1, HO_4, HB⟩ := hrel
 cases gk with
 | zero => exact absurd HA.out (by simp [tickingref06_Subtypes.l0])
 | succ k1 =>
  have H := HA.out
  clear HA
  simp only [tickingref06_Subtypes.l0] at H
  by_cases c7 : x5_1 < (l0.length : Int)
  ·rw [if_pos c7] at H
   have c7b0 : decide (x5_1 < (l0.length : Int)) = true := decide_eq_true c7
   clear c7
   have H' := Aside0.mk H
   clear H
   go_wp2
   go_loopg [6] k1 (fun kq v6 w' => ∃ (x4_2 : List Bool) (x6_2 : Int), v6 = .int .i64 x6_2 ∧ Aside0 (tickingref06_Subtypes.l1 kq l0 (l0.length : Int) x4_2 x5_1 x6_2 = some r) ∧ Aside0 (kq ≤ k1) ∧ Aside0 (Kd.R Kd.bool 4 w' w.heap.size (fun _ => True) v389 x4_2) ∧ Aside0 (Below w.heap.size w w'))
   case atStart => exact ⟨(x4_1), (0), (by first | rfl | (simp; done) | (simp [*]; done)), H', ⟨Nat.le_refl _⟩, ⟨by (with_reducible repeat (first | apply Kd.R_alloc | apply Kd.R_drewN | apply Kd.R_drew)); exact HO_4.out⟩, ⟨by repeat (first | (with_reducible first | exact HB.out | apply below_alloc | apply pw_below_drewN | apply below_drew1) | exact HB.out)⟩⟩
   clear H'
   try clear p2
   try clear c3
   try clear c3b0
   try clear c3b1
   try clear c4
   try clear c4b0
   try clear c4b1
   try clear p6
   try clear c7
   try clear c7b0
   try clear p2
   try clear p6
   obtain ⟨x4_2, x6_2, rfl, HA, HK2, HO_4, HB⟩ := hrel
   cases gk with
   | zero => exact absurd HA.out (by simp [tickingref06_Subtypes.l1])
   | succ k2 =>
    have H := HA.out
    clear HA
    simp only [tickingref06_Subtypes.l1] at H
    by_cases c8 : x6_2 < (l0.length : Int)
    rotate_left
    ·rw [if_neg c8] at H
     have c8b0 : decide (x6_2 < (l0.length : Int)) = false := decide_eq_false c8
     clear c8
     have H' := Aside0.mk H
     clear H
     go_wp2
     go_roundg k2
     case measure => have := HK1.out; have := HK2.out; omega
     exact ⟨(x4_2), (wrap64 (x5_1 + 1)), (by first | rfl | (simp; done) | (simp [*]; done)), H', ⟨by have := HK1.out; have := HK2.out; omega⟩, ⟨by (with_reducible repeat (first | apply Kd.R_alloc | apply Kd.R_drewN | apply Kd.R_drew)); exact HO_4.out⟩, ⟨by repeat (first | (with_reducible first | exact HB.out | apply below_alloc | apply pw_below_drewN | apply below_drew1) | exact HB.out)⟩⟩
    rw [if_pos c8] at H
    have c8b0 : decide (x6_2 < (l0.length : Int)) = true := decide_eq_true c8
    clear c8
    by_cases c9 : 0 ≤ x5_1
    rotate_left
    ·rw [if_neg c9] at H
     exact absurd H (by simp)
    rw [if_pos c9] at H
    have c9b0 : decide (0 ≤ x5_1) = true := decide_eq_true c9
    clear c9
    by_cases c10 : x5_1 < (l0.length : Int)
    rotate_left
    ·rw [if_neg c10] at H
     exact absurd H (by simp)
    rw [if_pos c10] at H
    have c10b0 : decide (x5_1 < (l0.length : Int)) = true := decide_eq_true c10
    clear c10
    by_cases c11 : 0 ≤ x6_2
    rotate_left
    ·rw [if_neg c11] at H
     exact absurd H (by simp)
    rw [if_pos c11] at H
    have c11b0 : decide (0 ≤ x6_2) = true := decide_eq_true c11
    clear c11
    by_cases c12 : x6_2 < (l0.length : Int)
    rotate_left
    ·rw [if_neg c12] at H
     exact absurd H (by simp)
    rw [if_pos c12] at H
    have c12b0 : decide (x6_2 < (l0.length : Int)) = true := decide_eq_true c12
    clear c12
    by_cases c13 : ((rd_T39 l0 x5_1).f0) = 0
    ·rw [if_pos c13] at H
     have c13b0 : (((rd_T39 l0 x5_1).f0) == 0) = true := beq_iff_eq.mpr c13
     have c13b1 : (((rd_T39 l0 x5_1).f0) != 0) = false := bne_eq_false_iff_eq.mpr c13
     clear c13
     obtain ⟨ji14, hji14⟩ : ∃ j_ : Int, (wrap64 ((wrap64 ((l0.length : Int) * x5_1)) + x6_2)) = j_ := ⟨_, rfl⟩
     replace H : (if 0 ≤ (ji14) then (if (ji14) < (x4_2.length : Int) then (tickingref06_Subtypes.l1 k2 l0 (l0.length : Int) (x4_2.set ((ji14) : Int).toNat true) x5_1 (wrap64 (x6_2 + 1))) else (none)) else (none)) = some r := by first | (rw [hji14] at H; exact H) | (simp only [hji14] at H ⊢; exact H)
     have hji14w : (IntKind.i64.wrap ((wrap64 ((l0.length : Int) * x5_1)) + x6_2)) = ji14 := (i64_w _).trans hji14
     by_cases c15 : 0 ≤ (ji14)
     rotate_left
     ·rw [if_neg c15] at H
      exact absurd H (by simp)
     rw [if_pos c15] at H
     have c15b0 : decide (0 ≤ (ji14)) = true := decide_eq_true c15
     clear c15
     by_cases c16 : (ji14) < (x4_2.length : Int)
     rotate_left
     ·rw [if_neg c16] at H
      exact absurd H (by simp)
     rw [if_pos c16] at H
     have c16b0 : decide ((ji14) < (x4_2.length : Int)) = true := decide_eq_true c16
     clear c16
     obtain ⟨y393, hy393⟩ : ∃ y_ : List Bool, y_ = (x4_2.set ((ji14) : Int).toNat true) := ⟨_, rfl⟩
     replace H : (tickingref06_Subtypes.l1 k2 l0 (l0.length : Int) y393 x5_1 (wrap64 (x6_2 + 1))) = some r := by first | (rw [hy393]; with_reducible exact H) | (have H2_ := (Option.bind_some _ _).symm.trans H; rw [hy393]; with_reducible exact H2_) | (have H2_ := (Option.bind_some _ _).symm.trans H; with_reducible exact H2_) | with_reducible exact H | (rw [hy393]; exact H) | exact H
     have Ny393 := Aside0.mk hy393
     clear hy393
     have H' := Aside0.mk H
     clear H
     try go_wp2
     have n0_ := Aside0.mk (Kd.R_drew HO_4.out)
     have n1_ := Aside0.mk (below_drew1 HB.out)
     clear HO_4
     clear HB
     have HO_4 := n0_
     have HB := n1_
     clear n0_ n1_
     have p391 : 0 ≤ (x5_1 : Int) := of_decide_eq_true (by first | (with_reducible assumption) | assumption)
     have q391 : x5_1 < (l0.length : Int) := of_decide_eq_true (by first | (with_reducible assumption) | assumption)
     obtain ⟨ad391, e391, hx391_0, hx391_1, hx391_2⟩ := at_T39 HR0.out x5_1 p391 q391
     have hw391_2 := hx391_2
     have hw391_1 := hx391_1
     have hw391_0 := hx391_0
     cases e391
     replace hx391_0 := (HB.out.cell (World.block_lt_of_cell? w _ hx391_0)).trans hx391_0
     replace hx391_1 := (HB.out.cell (World.block_lt_of_cell? w _ hx391_1)).trans hx391_1
     replace hx391_2 := (HB.out.cell (World.block_lt_of_cell? w _ hx391_2)).trans hx391_2
     replace p391 := eq_true p391
     replace q391 := eq_true q391
     have p392 : 0 ≤ (x6_2 : Int) := of_decide_eq_true (by first | (with_reducible assumption) | assumption)
     have q392 : x6_2 < (l0.length : Int) := of_decide_eq_true (by first | (with_reducible assumption) | assumption)
     obtain ⟨ad392, e392, hx392_0, hx392_1, hx392_2⟩ := at_T39 HR0.out x6_2 p392 q392
     have hw392_2 := hx392_2
     have hw392_1 := hx392_1
     have hw392_0 := hx392_0
     obtain rfl : ad391 = ad392 := (by injection e392)
     replace hx392_0 := (HB.out.cell (World.block_lt_of_cell? w _ hx392_0)).trans hx392_0
     replace hx392_1 := (HB.out.cell (World.block_lt_of_cell? w _ hx392_1)).trans hx392_1
     replace hx392_2 := (HB.out.cell (World.block_lt_of_cell? w _ hx392_2)).trans hx392_2
     replace p392 := eq_true p392
     replace q392 := eq_true q392
     refine start_ (n := 12) (S := fun w' => w'.cell? (ad391.add ((x5_1).toNat * 3)) = some (.int .i64 ((rd_T39 l0 x5_1).f0)) ∧ w'.cell? ⟨(ad391.add ((x5_1).toNat * 3)).block, (ad391.add ((x5_1).toNat * 3)).off + 1, none⟩ = some (.int .i64 ((rd_T39 l0 x5_1).f1)) ∧ w'.cell? ⟨(ad391.add ((x5_1).toNat * 3)).block, (ad391.add ((x5_1).toNat * 3)).off + 2, none⟩ = some (.int .i64 ((rd_T39 l0 x5_1).f2)) ∧ w'.cell? (ad391.add ((x6_2).toNat * 3)) = some (.int .i64 ((rd_T39 l0 x6_2).f0)) ∧ w'.cell? ⟨(ad391.add ((x6_2).toNat * 3)).block, (ad391.add ((x6_2).toNat * 3)).off + 1, none⟩ = some (.int .i64 ((rd_T39 l0 x6_2).f1)) ∧ w'.cell? ⟨(ad391.add ((x6_2).toNat * 3)).block, (ad391.add ((x6_2).toNat * 3)).off + 2, none⟩ = some (.int .i64 ((rd_T39 l0 x6_2).f2))) (ds := []) #[false, false, false, false, false, false, false, false, false, false, false, false] (by kernel_rfl) rfl rfl ⟨((HB.out.cell (World.block_lt_of_cell? w _ hw391_0)).trans hw391_0), ((HB.out.cell (World.block_lt_of_cell? w _ hw391_1)).trans hw391_1), ((HB.out.cell (World.block_lt_of_cell? w _ hw391_2)).trans hw391_2), ((HB.out.cell (World.block_lt_of_cell? w _ hw392_0)).trans hw392_0), ((HB.out.cell (World.block_lt_of_cell? w _ hw392_1)).trans hw392_1), ((HB.out.cell (World.block_lt_of_cell? w _ hw392_2)).trans hw392_2)⟩ (fun hHeld => ?_); refine with_tabW tickingref06_Subtypes.tab9 tickingref06_Subtypes.bits9 (fun HT_ HW_ => ?_)
     generalize wr.drew = w18 at HO_4 HB hx391_0 hx391_1 hx391_2 hx392_0 hx392_1 hx392_2 hHeld ⊢
     refine pure_ (i := 0) (N := some 31) (v := ?_) (a' := ?_) #[true, false, false, false, false, false, false, false, false, false, false, false] rfl rfl (any_of HT_.out (by kernel_rfl)) (fun _ _ _ h => h) (Or.inl ⟨by rfl, ?_⟩) ?_ ?_
     rotate_left
     ·intro w'
      go_simp
      with_reducible rfl
     rotate_left
     ·simp only [Act.put, List.setIfInBounds_toArray, List.set_cons_zero, List.set_cons_succ, i64_w, i32_w]
      rfl
     refine pure_ (i := 1) (N := some 32) (v := ?_) (a' := ?_) #[true, true, false, false, false, false, false, false, false, false, false, false] rfl rfl (any_of HT_.out (by kernel_rfl)) (fun _ _ _ h => h) (Or.inl ⟨by rfl, ?_⟩) ?_ ?_
     rotate_left
     ·intro w'
      go_simp
      with_reducible rfl
     rotate_left
     ·simp only [Act.put, List.setIfInBounds_toArray, List.set_cons_zero, List.set_cons_succ, i64_w, i32_w]
      rfl
     refine pure_ (i := 2) (N := some 33) (v := ?_) (a' := ?_) #[true, true, true, false, false, false, false, false, false, false, false, false] rfl rfl (any_of HT_.out (by kernel_rfl)) (fun _ _ _ h => h) (Or.inl ⟨by rfl, ?_⟩) ?_ ?_
     rotate_left
     ·intro w'
      go_simp
      with_reducible rfl
     rotate_left
     ·simp only [Act.put, List.setIfInBounds_toArray, List.set_cons_zero, List.set_cons_succ, i64_w, i32_w]
      rfl
     refine pure_ (i := 3) (N := some 34) (v := ?_) (a' := ?_) #[true, true, true, true, false, false, false, false, false, false, false, false] rfl rfl (any_of HT_.out (by kernel_rfl)) (fun _ _ _ h => h) (Or.inl ⟨by rfl, ?_⟩) ?_ ?_
     rotate_left
     ·intro w'
      go_simp
      with_reducible rfl
     rotate_left
     ·simp only [Act.put, List.setIfInBounds_toArray, List.set_cons_zero, List.set_cons_succ, i64_w, i32_w]
      rfl
     refine pure_ (i := 5) (N := some 36) (v := ?_) (a' := ?_) #[true, true, true, true, false, true, false, false, false, false, false, false] rfl rfl (any_of HT_.out (by kernel_rfl)) (fun _ _ _ h => h) (Or.inl ⟨by rfl, ?_⟩) ?_ ?_
     rotate_left
     ·intro w'
      go_simp
      with_reducible rfl
     rotate_left
     ·simp only [Act.put, List.setIfInBounds_toArray, List.set_cons_zero, List.set_cons_succ, i64_w, i32_w]
      rfl
     refine pure_ (i := 6) (N := some 37) (v := ?_) (a' := ?_) #[true, true, true, true, false, true, true, false, false, false, false, false] rfl rfl (any_of HT_.out (by kernel_rfl)) (fun _ _ _ h => h) (Or.inl ⟨by rfl, ?_⟩) ?_ ?_
     rotate_left
     ·intro w'
      go_simp
      with_reducible rfl
     rotate_left
     ·simp only [Act.put, List.setIfInBounds_toArray, List.set_cons_zero, List.set_cons_succ, i64_w, i32_w]
      rfl
     refine pure_ (i := 7) (N := some 38) (v := ?_) (a' := ?_) #[true, true, true, true, false, true, true, true, false, false, false, false] rfl rfl (any_of HT_.out (by kernel_rfl)) (fun _ _ _ h => h) (Or.inl ⟨by rfl, ?_⟩) ?_ ?_
     rotate_left
     ·intro w'
      go_simp
      with_reducible rfl
     rotate_left
     ·simp only [Act.put, List.setIfInBounds_toArray, List.set_cons_zero, List.set_cons_succ, i64_w, i32_w]
      rfl
     refine pure_ (i := 8) (N := some 39) (v := ?_) (a' := ?_) #[true, true, true, true, false, true, true, true, true, false, false, false] rfl rfl (any_of HT_.out (by kernel_rfl)) (fun _ _ _ h => h) (Or.inl ⟨by rfl, ?_⟩) ?_ ?_
     rotate_left
     ·intro w'
      go_simp
      with_reducible rfl
     rotate_left
     ·simp only [Act.put, List.setIfInBounds_toArray, List.set_cons_zero, List.set_cons_succ, i64_w, i32_w]
      rfl
     refine take_ (i := 4) (N := some 35) (v := ?_) (a' := ?_) #[true, true, true, true, true, true, true, true, true, false, false, false] rfl rfl (take_ofW HT_.out HW_.out (by kernel_rfl)) (fun _ _ _ h => h) (Or.inl ⟨by rfl, ?_⟩) hHeld ?_ ?_
     rotate_left
     ·rintro w' ⟨s0, s1, s2, s3, s4, s5⟩
      go_simp
      with_reducible rfl
     rotate_left
     ·simp only [Act.put, List.setIfInBounds_toArray, List.set_cons_zero, List.set_cons_succ, i64_w, i32_w]
      rfl
     refine pure_ (i := 10) (N := some 7) (v := ?_) (a' := ?_) #[true, true, true, true, true, true, true, true, true, false, true, false] rfl rfl (any_of HT_.out (by kernel_rfl)) (fun _ _ _ h => h) (Or.inl ⟨by rfl, ?_⟩) ?_ ?_
     rotate_left
     ·intro w'
      go_simp
      with_reducible rfl
     rotate_left
     ·simp only [Act.put, List.setIfInBounds_toArray, List.set_cons_zero, List.set_cons_succ, i64_w, i32_w]
      rfl
     refine take_ (i := 9) (N := some 40) (v := ?_) (a' := ?_) #[true, true, true, true, true, true, true, true, true, true, true, false] rfl rfl (take_ofW HT_.out HW_.out (by kernel_rfl)) (fun _ _ _ h => h) (Or.inl ⟨by rfl, ?_⟩) hHeld ?_ ?_
     rotate_left
     ·rintro w' ⟨s0, s1, s2, s3, s4, s5⟩
      go_simp
      with_reducible rfl
     rotate_left
     ·simp only [Act.put, List.setIfInBounds_toArray, List.set_cons_zero, List.set_cons_succ, i64_w, i32_w]
      rfl
     refine pure_ (i := 11) (N := some 8) (v := ?_) (a' := ?_) #[true, true, true, true, true, true, true, true, true, true, true, true] rfl rfl (any_of HT_.out (by kernel_rfl)) (fun _ _ _ h => h) (Or.inl ⟨by rfl, ?_⟩) ?_ ?_
     rotate_left
     ·intro w'
      go_simp
      with_reducible rfl
     rotate_left
     ·simp only [Act.put, List.setIfInBounds_toArray, List.set_cons_zero, List.set_cons_succ, i64_w, i32_w]
      rfl
     refine done_ (done_of HT_.out (by kernel_rfl)) ?_
     have p17 : 0 ≤ ((ji14) : Int) := of_decide_eq_true (by first | (with_reducible assumption) | assumption)
     have q17 : ((ji14) : Int) < ((x4_2.length : Int) : Int) := of_decide_eq_true (by first | (with_reducible assumption) | assumption)
     obtain ⟨go17, co17, eo17, gb17, gl17, cl17, HG17⟩ := Kd.R_form HO_4.out (by omega)
     (first | cases eo17 | (injection eo17 with ea_ en_ ec_; (first | subst ea_ | (injection ea_ with ea_; subst ea_)); subst ec_; clear en_))
     have GB17 := Aside0.mk gb17
     have GG17 := Aside0.mk HG17
     clear gb17 gl17 HG17
     obtain ⟨hx17_0, hf17_0⟩ := Kd.R_celln false HO_4.out ((ji14) : Int) p17 q17
     replace p17 := eq_true p17
     replace q17 := eq_true q17
     obtain ⟨hy19_, hz19_⟩ := Kd.R_celln false HO_4.out ((ji14) : Int) (of_decide_eq_true (by first | (with_reducible assumption) | assumption)) (of_decide_eq_true (by first | (with_reducible assumption) | assumption))
     have HP19 := Kd.R_putg HO_4.out ((ji14) : Int) true
     try go_wp2_with (first | ((with_reducible refine gate_store (t := 4) (p := 58) rfl ?_); refine store_event (t := 4) (p := 58) (v := ?vo_w20) (w1 := (w18.setCell ⟨go17, ((ji14) : Int).toNat, none⟩ (.bool true))) ?hg ?ho ?hn ?hr ?_; (case ho => rfl); (case hg => rfl); (case hn => rfl); (case hr => first | (go_simp; done) | (go_simp; rfl)); intro w20 hw; have hg : w18.grownBy w20 (some go17) := (by rw [hw]; exact HP19.2); have hp_ : Kd.R Kd.bool 4 w20 w.heap.size (fun _ => True) (.slice (some ⟨go17, 0, none⟩) x4_2.length co17) y393 := (by rw [hw, Ny393.out]; exact HP19.1); clear HP19; have n0_ := Aside0.mk (hp_); have n1_ := Aside0.mk ((by rw [hw]; exact below_set (HB.out) GB17.out : Below w.heap.size w w20)); clear HO_4; clear HB; have HO_4 := n0_; have HB := n1_; clear n0_ n1_; clear hg hw hp_))
     go_roundg k2
     case measure => have := HK1.out; have := HK2.out; omega
     exact ⟨(y393), (wrap64 (x6_2 + 1)), (by first | rfl | (simp; done) | (simp [*]; done)), H', ⟨by have := HK1.out; have := HK2.out; omega⟩, ⟨by (with_reducible repeat (first | apply Kd.R_alloc | apply Kd.R_drewN | apply Kd.R_drew)); exact HO_4.out⟩, ⟨by repeat (first | (with_reducible first | exact HB.out | apply below_alloc | apply pw_below_drewN | apply below_drew1) | exact HB.out)⟩⟩
    rw [if_neg c13] at H
    have c13b0 : (((rd_T39 l0 x5_1).f0) == 0) = false := beq_eq_false_iff_ne.mpr c13
    have c13b1 : (((rd_T39 l0 x5_1).f0) != 0) = true := bne_iff_ne.mpr c13
    by_cases c21 : ((rd_T39 l0 x6_2).f0) = 1
    ·rw [if_pos c21] at H
     have c21b0 : (((rd_T39 l0 x6_2).f0) == 1) = true := beq_iff_eq.mpr c21
     have c21b1 : (((rd_T39 l0 x6_2).f0) != 1) = false := bne_eq_false_iff_eq.mpr c21
     clear c21
     obtain ⟨ji22, hji22⟩ : ∃ j_ : Int, (wrap64 ((wrap64 ((l0.length : Int) * x5_1)) + x6_2)) = j_ := ⟨_, rfl⟩
     replace H : (if 0 ≤ (ji22) then (if (ji22) < (x4_2.length : Int) then (tickingref06_Subtypes.l1 k2 l0 (l0.length : Int) (x4_2.set ((ji22) : Int).toNat true) x5_1 (wrap64 (x6_2 + 1))) else (none)) else (none)) = some r := by first | (rw [hji22] at H; exact H) | (simp only [hji22] at H ⊢; exact H)
     have hji22w : (IntKind.i64.wrap ((wrap64 ((l0.length : Int) * x5_1)) + x6_2)) = ji22 := (i64_w _).trans hji22
     by_cases c23 : 0 ≤ (ji22)
     rotate_left
     ·rw [if_neg c23] at H
      exact absurd H (by simp)
     rw [if_pos c23] at H
     have c23b0 : decide (0 ≤ (ji22)) = true := decide_eq_true c23
     clear c23
     by_cases c24 : (ji22) < (x4_2.length : Int)
     rotate_left
     ·rw [if_neg c24] at H
      exact absurd H (by simp)
     rw [if_pos c24] at H
     have c24b0 : decide ((ji22) < (x4_2.length : Int)) = true := decide_eq_true c24
     clear c24
     obtain ⟨y394, hy394⟩ : ∃ y_ : List Bool, y_ = (x4_2.set ((ji22) : Int).toNat true) := ⟨_, rfl⟩
     replace H : (tickingref06_Subtypes.l1 k2 l0 (l0.length : Int) y394 x5_1 (wrap64 (x6_2 + 1))) = some r := by first | (rw [hy394]; with_reducible exact H) | (have H2_ := (Option.bind_some _ _).symm.trans H; rw [hy394]; with_reducible exact H2_) | (have H2_ := (Option.bind_some _ _).symm.trans H; with_reducible exact H2_) | with_reducible exact H | (rw [hy394]; exact H) | exact H
     have Ny394 := Aside0.mk hy394
     clear hy394
     have H' := Aside0.mk H
     clear H
     try go_wp2
     have n0_ := Aside0.mk (Kd.R_drew HO_4.out)
     have n1_ := Aside0.mk (below_drew1 HB.out)
     clear HO_4
     clear HB
     have HO_4 := n0_
     have HB := n1_
     clear n0_ n1_
     have p391 : 0 ≤ (x5_1 : Int) := of_decide_eq_true (by first | (with_reducible assumption) | assumption)
     have q391 : x5_1 < (l0.length : Int) := of_decide_eq_true (by first | (with_reducible assumption) | assumption)
     obtain ⟨ad391, e391, hx391_0, hx391_1, hx391_2⟩ := at_T39 HR0.out x5_1 p391 q391
     have hw391_2 := hx391_2
     have hw391_1 := hx391_1
     have hw391_0 := hx391_0
     cases e391
     replace hx391_0 := (HB.out.cell (World.block_lt_of_cell? w _ hx391_0)).trans hx391_0
     replace hx391_1 := (HB.out.cell (World.block_lt_of_cell? w _ hx391_1)).trans hx391_1
     replace hx391_2 := (HB.out.cell (World.block_lt_of_cell? w _ hx391_2)).trans hx391_2
     replace p391 := eq_true p391
     replace q391 := eq_true q391
     have p392 : 0 ≤ (x6_2 : Int) := of_decide_eq_true (by first | (with_reducible assumption) | assumption)
     have q392 : x6_2 < (l0.length : Int) := of_decide_eq_true (by first | (with_reducible assumption) | assumption)
     obtain ⟨ad392, e392, hx392_0, hx392_1, hx392_2⟩ := at_T39 HR0.out x6_2 p392 q392
     have hw392_2 := hx392_2
     have hw392_1 := hx392_1
     have hw392_0 := hx392_0
     obtain rfl : ad391 = ad392 := (by injection e392)
     replace hx392_0 := (HB.out.cell (World.block_lt_of_cell? w _ hx392_0)).trans hx392_0
     replace hx392_1 := (HB.out.cell (World.block_lt_of_cell? w _ hx392_1)).trans hx392_1
     replace hx392_2 := (HB.out.cell (World.block_lt_of_cell? w _ hx392_2)).trans hx392_2
     replace p392 := eq_true p392
     replace q392 := eq_true q392
     refine start_ (n := 12) (S := fun w' => w'.cell? (ad391.add ((x5_1).toNat * 3)) = some (.int .i64 ((rd_T39 l0 x5_1).f0)) ∧ w'.cell? ⟨(ad391.add ((x5_1).toNat * 3)).block, (ad391.add ((x5_1).toNat * 3)).off + 1, none⟩ = some (.int .i64 ((rd_T39 l0 x5_1).f1)) ∧ w'.cell? ⟨(ad391.add ((x5_1).toNat * 3)).block, (ad391.add ((x5_1).toNat * 3)).off + 2, none⟩ = some (.int .i64 ((rd_T39 l0 x5_1).f2)) ∧ w'.cell? (ad391.add ((x6_2).toNat * 3)) = some (.int .i64 ((rd_T39 l0 x6_2).f0)) ∧ w'.cell? ⟨(ad391.add ((x6_2).toNat * 3)).block, (ad391.add ((x6_2).toNat * 3)).off + 1, none⟩ = some (.int .i64 ((rd_T39 l0 x6_2).f1)) ∧ w'.cell? ⟨(ad391.add ((x6_2).toNat * 3)).block, (ad391.add ((x6_2).toNat * 3)).off + 2, none⟩ = some (.int .i64 ((rd_T39 l0 x6_2).f2))) (ds := []) #[false, false, false, false, false, false, false, false, false, false, false, false] (by kernel_rfl) rfl rfl ⟨((HB.out.cell (World.block_lt_of_cell? w _ hw391_0)).trans hw391_0), ((HB.out.cell (World.block_lt_of_cell? w _ hw391_1)).trans hw391_1), ((HB.out.cell (World.block_lt_of_cell? w _ hw391_2)).trans hw391_2), ((HB.out.cell (World.block_lt_of_cell? w _ hw392_0)).trans hw392_0), ((HB.out.cell (World.block_lt_of_cell? w _ hw392_1)).trans hw392_1), ((HB.out.cell (World.block_lt_of_cell? w _ hw392_2)).trans hw392_2)⟩ (fun hHeld => ?_); refine with_tabW tickingref06_Subtypes.tab9 tickingref06_Subtypes.bits9 (fun HT_ HW_ => ?_)
     generalize wr.drew = w26 at HO_4 HB hx391_0 hx391_1 hx391_2 hx392_0 hx392_1 hx392_2 hHeld ⊢
     refine pure_ (i := 0) (N := some 31) (v := ?_) (a' := ?_) #[true, false, false, false, false, false, false, false, false, false, false, false] rfl rfl (any_of HT_.out (by kernel_rfl)) (fun _ _ _ h => h) (Or.inl ⟨by rfl, ?_⟩) ?_ ?_
     rotate_left
     ·intro w'
      go_simp
      with_reducible rfl
     rotate_left
     ·simp only [Act.put, List.setIfInBounds_toArray, List.set_cons_zero, List.set_cons_succ, i64_w, i32_w]
      rfl
     refine pure_ (i := 1) (N := some 32) (v := ?_) (a' := ?_) #[true, true, false, false, false, false, false, false, false, false, false, false] rfl rfl (any_of HT_.out (by kernel_rfl)) (fun _ _ _ h => h) (Or.inl ⟨by rfl, ?_⟩) ?_ ?_
     rotate_left
     ·intro w'
      go_simp
      with_reducible rfl
     rotate_left
     ·simp only [Act.put, List.setIfInBounds_toArray, List.set_cons_zero, List.set_cons_succ, i64_w, i32_w]
      rfl
     refine pure_ (i := 2) (N := some 33) (v := ?_) (a' := ?_) #[true, true, true, false, false, false, false, false, false, false, false, false] rfl rfl (any_of HT_.out (by kernel_rfl)) (fun _ _ _ h => h) (Or.inl ⟨by rfl, ?_⟩) ?_ ?_
     rotate_left
     ·intro w'
      go_simp
      with_reducible rfl
     rotate_left
     ·simp only [Act.put, List.setIfInBounds_toArray, List.set_cons_zero, List.set_cons_succ, i64_w, i32_w]
      rfl
     refine pure_ (i := 3) (N := some 34) (v := ?_) (a' := ?_) #[true, true, true, true, false, false, false, false, false, false, false, false] rfl rfl (any_of HT_.out (by kernel_rfl)) (fun _ _ _ h => h) (Or.inl ⟨by rfl, ?_⟩) ?_ ?_
     rotate_left
     ·intro w'
      go_simp
      with_reducible rfl
     rotate_left
     ·simp only [Act.put, List.setIfInBounds_toArray, List.set_cons_zero, List.set_cons_succ, i64_w, i32_w]
      rfl
     refine pure_ (i := 5) (N := some 36) (v := ?_) (a' := ?_) #[true, true, true, true, false, true, false, false, false, false, false, false] rfl rfl (any_of HT_.out (by kernel_rfl)) (fun _ _ _ h => h) (Or.inl ⟨by rfl, ?_⟩) ?_ ?_
     rotate_left
     ·intro w'
      go_simp
      with_reducible rfl
     rotate_left
     ·simp only [Act.put, List.setIfInBounds_toArray, List.set_cons_zero, List.set_cons_succ, i64_w, i32_w]
      rfl
     refine pure_ (i := 6) (N := some 37) (v := ?_) (a' := ?_) #[true, true, true, true, false, true, true, false, false, false, false, false] rfl rfl (any_of HT_.out (by kernel_rfl)) (fun _ _ _ h => h) (Or.inl ⟨by rfl, ?_⟩) ?_ ?_
     rotate_left
     ·intro w'
      go_simp
      with_reducible rfl
     rotate_left
     ·simp only [Act.put, List.setIfInBounds_toArray, List.set_cons_zero, List.set_cons_succ, i64_w, i32_w]
      rfl
     refine pure_ (i := 7) (N := some 38) (v := ?_) (a' := ?_) #[true, true, true, true, false, true, true, true, false, false, false, false] rfl rfl (any_of HT_.out (by kernel_rfl)) (fun _ _ _ h => h) (Or.inl ⟨by rfl, ?_⟩) ?_ ?_
     rotate_left
     ·intro w'
      go_simp
      with_reducible rfl
     rotate_left
     ·simp only [Act.put, List.setIfInBounds_toArray, List.set_cons_zero, List.set_cons_succ, i64_w, i32_w]
      rfl
     refine pure_ (i := 8) (N := some 39) (v := ?_) (a' := ?_) #[true, true, true, true, false, true, true, true, true, false, false, false] rfl rfl (any_of HT_.out (by kernel_rfl)) (fun _ _ _ h => h) (Or.inl ⟨by rfl, ?_⟩) ?_ ?_
     rotate_left
     ·intro w'
      go_simp
      with_reducible rfl
     rotate_left
     ·simp only [Act.put, List.setIfInBounds_toArray, List.set_cons_zero, List.set_cons_succ, i64_w, i32_w]
      rfl
     refine take_ (i := 4) (N := some 35) (v := ?_) (a' := ?_) #[true, true, true, true, true, true, true, true, true, false, false, false] rfl rfl (take_ofW HT_.out HW_.out (by kernel_rfl)) (fun _ _ _ h => h) (Or.inl ⟨by rfl, ?_⟩) hHeld ?_ ?_
     rotate_left
     ·rintro w' ⟨s0, s1, s2, s3, s4, s5⟩
      go_simp
      with_reducible rfl
     rotate_left
     ·simp only [Act.put, List.setIfInBounds_toArray, List.set_cons_zero, List.set_cons_succ, i64_w, i32_w]
      rfl
     refine pure_ (i := 10) (N := some 7) (v := ?_) (a' := ?_) #[true, true, true, true, true, true, true, true, true, false, true, false] rfl rfl (any_of HT_.out (by kernel_rfl)) (fun _ _ _ h => h) (Or.inl ⟨by rfl, ?_⟩) ?_ ?_
     rotate_left
     ·intro w'
      go_simp
      with_reducible rfl
     rotate_left
     ·simp only [Act.put, List.setIfInBounds_toArray, List.set_cons_zero, List.set_cons_succ, i64_w, i32_w]
      rfl
     refine take_ (i := 9) (N := some 40) (v := ?_) (a' := ?_) #[true, true, true, true, true, true, true, true, true, true, true, false] rfl rfl (take_ofW HT_.out HW_.out (by kernel_rfl)) (fun _ _ _ h => h) (Or.inl ⟨by rfl, ?_⟩) hHeld ?_ ?_
     rotate_left
     ·rintro w' ⟨s0, s1, s2, s3, s4, s5⟩
      go_simp
      with_reducible rfl
     rotate_left
     ·simp only [Act.put, List.setIfInBounds_toArray, List.set_cons_zero, List.set_cons_succ, i64_w, i32_w]
      rfl
     refine pure_ (i := 11) (N := some 8) (v := ?_) (a' := ?_) #[true, true, true, true, true, true, true, true, true, true, true, true] rfl rfl (any_of HT_.out (by kernel_rfl)) (fun _ _ _ h => h) (Or.inl ⟨by rfl, ?_⟩) ?_ ?_
     rotate_left
     ·intro w'
      go_simp
      with_reducible rfl
     rotate_left
     ·simp only [Act.put, List.setIfInBounds_toArray, List.set_cons_zero, List.set_cons_succ, i64_w, i32_w]
      rfl
     refine done_ (done_of HT_.out (by kernel_rfl)) ?_
     have p25 : 0 ≤ ((ji22) : Int) := of_decide_eq_true (by first | (with_reducible assumption) | assumption)
     have q25 : ((ji22) : Int) < ((x4_2.length : Int) : Int) := of_decide_eq_true (by first | (with_reducible assumption) | assumption)
     obtain ⟨go25, co25, eo25, gb25, gl25, cl25, HG25⟩ := Kd.R_form HO_4.out (by omega)
     (first | cases eo25 | (injection eo25 with ea_ en_ ec_; (first | subst ea_ | (injection ea_ with ea_; subst ea_)); subst ec_; clear en_))
     have GB25 := Aside0.mk gb25
     have GG25 := Aside0.mk HG25
     clear gb25 gl25 HG25
     obtain ⟨hx25_0, hf25_0⟩ := Kd.R_celln false HO_4.out ((ji22) : Int) p25 q25
     replace p25 := eq_true p25
     replace q25 := eq_true q25
     obtain ⟨hy27_, hz27_⟩ := Kd.R_celln false HO_4.out ((ji22) : Int) (of_decide_eq_true (by first | (with_reducible assumption) | assumption)) (of_decide_eq_true (by first | (with_reducible assumption) | assumption))
     have HP27 := Kd.R_putg HO_4.out ((ji22) : Int) true
     try go_wp2_with (first | ((with_reducible refine gate_store (t := 4) (p := 58) rfl ?_); refine store_event (t := 4) (p := 58) (v := ?vo_w28) (w1 := (w26.setCell ⟨go25, ((ji22) : Int).toNat, none⟩ (.bool true))) ?hg ?ho ?hn ?hr ?_; (case ho => rfl); (case hg => rfl); (case hn => rfl); (case hr => first | (go_simp; done) | (go_simp; rfl)); intro w28 hw; have hg : w26.grownBy w28 (some go25) := (by rw [hw]; exact HP27.2); have hp_ : Kd.R Kd.bool 4 w28 w.heap.size (fun _ => True) (.slice (some ⟨go25, 0, none⟩) x4_2.length co25) y394 := (by rw [hw, Ny394.out]; exact HP27.1); clear HP27; have n0_ := Aside0.mk (hp_); have n1_ := Aside0.mk ((by rw [hw]; exact below_set (HB.out) GB25.out : Below w.heap.size w w28)); clear HO_4; clear HB; have HO_4 := n0_; have HB := n1_; clear n0_ n1_; clear hg hw hp_))
     go_roundg k2
     case measure => have := HK1.out; have := HK2.out; omega
     exact ⟨(y394), (wrap64 (x6_2 + 1)), (by first | rfl | (simp; done) | (simp [*]; done)), H', ⟨by have := HK1.out; have := HK2.out; omega⟩, ⟨by (with_reducible repeat (first | apply Kd.R_alloc | apply Kd.R_drewN | apply Kd.R_drew)); exact HO_4.out⟩, ⟨by repeat (first | (with_reducible first | exact HB.out | apply below_alloc | apply pw_below_drewN | apply below_drew1) | exact HB.out)⟩⟩
    rw [if_neg c21] at H
    have c21b0 : (((rd_T39 l0 x6_2).f0) == 1) = false := beq_eq_false_iff_ne.mpr c21
    have c21b1 : (((rd_T39 l0 x6_2).f0) != 1) = true := bne_iff_ne.mpr c21
    obtain ⟨ji29, hji29⟩ : ∃ j_ : Int, (wrap64 ((wrap64 ((l0.length : Int) * x5_1)) + x6_2)) = j_ := ⟨_, rfl⟩
    replace H : (if 0 ≤ (ji29) then (if (ji29) < (x4_2.length : Int) then (tickingref06_Subtypes.l1 k2 l0 (l0.length : Int) (x4_2.set ((ji29) : Int).toNat (((rd_T39 l0 x5_1).f0) == ((rd_T39 l0 x6_2).f0))) x5_1 (wrap64 (x6_2 + 1))) else (none)) else (none)) = some r := by first | (rw [hji29] at H; exact H) | (simp only [hji29] at H ⊢; exact H)
    have hji29w : (IntKind.i64.wrap ((wrap64 ((l0.length : Int) * x5_1)) + x6_2)) = ji29 := (i64_w _).trans hji29
    by_cases c30 : 0 ≤ (ji29)
    rotate_left
    ·rw [if_neg c30] at H
     exact absurd H (by simp)
    rw [if_pos c30] at H
    have c30b0 : decide (0 ≤ (ji29)) = true := decide_eq_true c30
    clear c30
    by_cases c31 : (ji29) < (x4_2.length : Int)
    rotate_left
    ·rw [if_neg c31] at H
     exact absurd H (by simp)
    rw [if_pos c31] at H
    have c31b0 : decide ((ji29) < (x4_2.length : Int)) = true := decide_eq_true c31
    clear c31
    obtain ⟨y395, hy395⟩ : ∃ y_ : List Bool, y_ = (x4_2.set ((ji29) : Int).toNat (((rd_T39 l0 x5_1).f0) == ((rd_T39 l0 x6_2).f0))) := ⟨_, rfl⟩
    replace H : (tickingref06_Subtypes.l1 k2 l0 (l0.length : Int) y395 x5_1 (wrap64 (x6_2 + 1))) = some r := by first | (rw [hy395]; with_reducible exact H) | (have H2_ := (Option.bind_some _ _).symm.trans H; rw [hy395]; with_reducible exact H2_) | (have H2_ := (Option.bind_some _ _).symm.trans H; with_reducible exact H2_) | with_reducible exact H | (rw [hy395]; exact H) | exact H
    have Ny395 := Aside0.mk hy395
    clear hy395
    have H' := Aside0.mk H
    clear H
    try go_wp2
    have n0_ := Aside0.mk (Kd.R_drew HO_4.out)
    have n1_ := Aside0.mk (below_drew1 HB.out)
    clear HO_4
    clear HB
    have HO_4 := n0_
    have HB := n1_
    clear n0_ n1_
    have p391 : 0 ≤ (x5_1 : Int) := of_decide_eq_true (by first | (with_reducible assumption) | assumption)
    have q391 : x5_1 < (l0.length : Int) := of_decide_eq_true (by first | (with_reducible assumption) | assumption)
    obtain ⟨ad391, e391, hx391_0, hx391_1, hx391_2⟩ := at_T39 HR0.out x5_1 p391 q391
    have hw391_2 := hx391_2
    have hw391_1 := hx391_1
    have hw391_0 := hx391_0
    cases e391
    replace hx391_0 := (HB.out.cell (World.block_lt_of_cell? w _ hx391_0)).trans hx391_0
    replace hx391_1 := (HB.out.cell (World.block_lt_of_cell? w _ hx391_1)).trans hx391_1
    replace hx391_2 := (HB.out.cell (World.block_lt_of_cell? w _ hx391_2)).trans hx391_2
    replace p391 := eq_true p391
    replace q391 := eq_true q391
    have p392 : 0 ≤ (x6_2 : Int) := of_decide_eq_true (by first | (with_reducible assumption) | assumption)
    have q392 : x6_2 < (l0.length : Int) := of_decide_eq_true (by first | (with_reducible assumption) | assumption)
    obtain ⟨ad392, e392, hx392_0, hx392_1, hx392_2⟩ := at_T39 HR0.out x6_2 p392 q392
    have hw392_2 := hx392_2
    have hw392_1 := hx392_1
    have hw392_0 := hx392_0
    obtain rfl : ad391 = ad392 := (by injection e392)
    replace hx392_0 := (HB.out.cell (World.block_lt_of_cell? w _ hx392_0)).trans hx392_0
    replace hx392_1 := (HB.out.cell (World.block_lt_of_cell? w _ hx392_1)).trans hx392_1
    replace hx392_2 := (HB.out.cell (World.block_lt_of_cell? w _ hx392_2)).trans hx392_2
    replace p392 := eq_true p392
    replace q392 := eq_true q392
    refine start_ (n := 12) (S := fun w' => w'.cell? (ad391.add ((x5_1).toNat * 3)) = some (.int .i64 ((rd_T39 l0 x5_1).f0)) ∧ w'.cell? ⟨(ad391.add ((x5_1).toNat * 3)).block, (ad391.add ((x5_1).toNat * 3)).off + 1, none⟩ = some (.int .i64 ((rd_T39 l0 x5_1).f1)) ∧ w'.cell? ⟨(ad391.add ((x5_1).toNat * 3)).block, (ad391.add ((x5_1).toNat * 3)).off + 2, none⟩ = some (.int .i64 ((rd_T39 l0 x5_1).f2)) ∧ w'.cell? (ad391.add ((x6_2).toNat * 3)) = some (.int .i64 ((rd_T39 l0 x6_2).f0)) ∧ w'.cell? ⟨(ad391.add ((x6_2).toNat * 3)).block, (ad391.add ((x6_2).toNat * 3)).off + 1, none⟩ = some (.int .i64 ((rd_T39 l0 x6_2).f1)) ∧ w'.cell? ⟨(ad391.add ((x6_2).toNat * 3)).block, (ad391.add ((x6_2).toNat * 3)).off + 2, none⟩ = some (.int .i64 ((rd_T39 l0 x6_2).f2))) (ds := []) #[false, false, false, false, false, false, false, false, false, false, false, false] (by kernel_rfl) rfl rfl ⟨((HB.out.cell (World.block_lt_of_cell? w _ hw391_0)).trans hw391_0), ((HB.out.cell (World.block_lt_of_cell? w _ hw391_1)).trans hw391_1), ((HB.out.cell (World.block_lt_of_cell? w _ hw391_2)).trans hw391_2), ((HB.out.cell (World.block_lt_of_cell? w _ hw392_0)).trans hw392_0), ((HB.out.cell (World.block_lt_of_cell? w _ hw392_1)).trans hw392_1), ((HB.out.cell (World.block_lt_of_cell? w _ hw392_2)).trans hw392_2)⟩ (fun hHeld => ?_); refine with_tabW tickingref06_Subtypes.tab9 tickingref06_Subtypes.bits9 (fun HT_ HW_ => ?_)
    generalize wr.drew = w33 at HO_4 HB hx391_0 hx391_1 hx391_2 hx392_0 hx392_1 hx392_2 hHeld ⊢
    refine pure_ (i := 0) (N := some 31) (v := ?_) (a' := ?_) #[true, false, false, false, false, false, false, false, false, false, false, false] rfl rfl (any_of HT_.out (by kernel_rfl)) (fun _ _ _ h => h) (Or.inl ⟨by rfl, ?_⟩) ?_ ?_
    rotate_left
    ·intro w'
     go_simp
     with_reducible rfl
    rotate_left
    ·simp only [Act.put, List.setIfInBounds_toArray, List.set_cons_zero, List.set_cons_succ, i64_w, i32_w]
     rfl
    refine pure_ (i := 1) (N := some 32) (v := ?_) (a' := ?_) #[true, true, false, false, false, false, false, false, false, false, false, false] rfl rfl (any_of HT_.out (by kernel_rfl)) (fun _ _ _ h => h) (Or.inl ⟨by rfl, ?_⟩) ?_ ?_
    rotate_left
    ·intro w'
     go_simp
     with_reducible rfl
    rotate_left
    ·simp only [Act.put, List.setIfInBounds_toArray, List.set_cons_zero, List.set_cons_succ, i64_w, i32_w]
     rfl
    refine pure_ (i := 2) (N := some 33) (v := ?_) (a' := ?_) #[true, true, true, false, false, false, false, false, false, false, false, false] rfl rfl (any_of HT_.out (by kernel_rfl)) (fun _ _ _ h => h) (Or.inl ⟨by rfl, ?_⟩) ?_ ?_
    rotate_left
    ·intro w'
     go_simp
     with_reducible rfl
    rotate_left
    ·simp only [Act.put, List.setIfInBounds_toArray, List.set_cons_zero, List.set_cons_succ, i64_w, i32_w]
     rfl
    refine pure_ (i := 3) (N := some 34) (v := ?_) (a' := ?_) #[true, true, true, true, false, false, false, false, false, false, false, false] rfl rfl (any_of HT_.out (by kernel_rfl)) (fun _ _ _ h => h) (Or.inl ⟨by rfl, ?_⟩) ?_ ?_
    rotate_left
    ·intro w'
     go_simp
     with_reducible rfl
    rotate_left
    ·simp only [Act.put, List.setIfInBounds_toArray, List.set_cons_zero, List.set_cons_succ, i64_w, i32_w]
     rfl
    refine pure_ (i := 5) (N := some 36) (v := ?_) (a' := ?_) #[true, true, true, true, false, true, false, false, false, false, false, false] rfl rfl (any_of HT_.out (by kernel_rfl)) (fun _ _ _ h => h) (Or.inl ⟨by rfl, ?_⟩) ?_ ?_
    rotate_left
    ·intro w'
     go_simp
     with_reducible rfl
    rotate_left
    ·simp only [Act.put, List.setIfInBounds_toArray, List.set_cons_zero, List.set_cons_succ, i64_w, i32_w]
     rfl
    refine pure_ (i := 6) (N := some 37) (v := ?_) (a' := ?_) #[true, true, true, true, false, true, true, false, false, false, false, false] rfl rfl (any_of HT_.out (by kernel_rfl)) (fun _ _ _ h => h) (Or.inl ⟨by rfl, ?_⟩) ?_ ?_
    rotate_left
    ·intro w'
     go_simp
     with_reducible rfl
    rotate_left
    ·simp only [Act.put, List.setIfInBounds_toArray, List.set_cons_zero, List.set_cons_succ, i64_w, i32_w]
     rfl
    refine pure_ (i := 7) (N := some 38) (v := ?_) (a' := ?_) #[true, true, true, true, false, true, true, true, false, false, false, false] rfl rfl (any_of HT_.out (by kernel_rfl)) (fun _ _ _ h => h) (Or.inl ⟨by rfl, ?_⟩) ?_ ?_
    rotate_left
    ·intro w'
     go_simp
     with_reducible rfl
    rotate_left
    ·simp only [Act.put, List.setIfInBounds_toArray, List.set_cons_zero, List.set_cons_succ, i64_w, i32_w]
     rfl
    refine pure_ (i := 8) (N := some 39) (v := ?_) (a' := ?_) #[true, true, true, true, false, true, true, true, true, false, false, false] rfl rfl (any_of HT_.out (by kernel_rfl)) (fun _ _ _ h => h) (Or.inl ⟨by rfl, ?_⟩) ?_ ?_
    rotate_left
    ·intro w'
     go_simp
     with_reducible rfl
    rotate_left
    ·simp only [Act.put, List.setIfInBounds_toArray, List.set_cons_zero, List.set_cons_succ, i64_w, i32_w]
     rfl
    refine take_ (i := 4) (N := some 35) (v := ?_) (a' := ?_) #[true, true, true, true, true, true, true, true, true, false, false, false] rfl rfl (take_ofW HT_.out HW_.out (by kernel_rfl)) (fun _ _ _ h => h) (Or.inl ⟨by rfl, ?_⟩) hHeld ?_ ?_
    rotate_left
    ·rintro w' ⟨s0, s1, s2, s3, s4, s5⟩
     go_simp
     with_reducible rfl
    rotate_left
    ·simp only [Act.put, List.setIfInBounds_toArray, List.set_cons_zero, List.set_cons_succ, i64_w, i32_w]
     rfl
    refine pure_ (i := 10) (N := some 7) (v := ?_) (a' := ?_) #[true, true, true, true, true, true, true, true, true, false, true, false] rfl rfl (any_of HT_.out (by kernel_rfl)) (fun _ _ _ h => h) (Or.inl ⟨by rfl, ?_⟩) ?_ ?_
    rotate_left
    ·intro w'
     go_simp
     with_reducible rfl
    rotate_left
    ·simp only [Act.put, List.setIfInBounds_toArray, List.set_cons_zero, List.set_cons_succ, i64_w, i32_w]
     rfl
    refine take_ (i := 9) (N := some 40) (v := ?_) (a' := ?_) #[true, true, true, true, true, true, true, true, true, true, true, false] rfl rfl (take_ofW HT_.out HW_.out (by kernel_rfl)) (fun _ _ _ h => h) (Or.inl ⟨by rfl, ?_⟩) hHeld ?_ ?_
    rotate_left
    ·rintro w' ⟨s0, s1, s2, s3, s4, s5⟩
     go_simp
     with_reducible rfl
    rotate_left
    ·simp only [Act.put, List.setIfInBounds_toArray, List.set_cons_zero, List.set_cons_succ, i64_w, i32_w]
     rfl
    refine pure_ (i := 11) (N := some 8) (v := ?_) (a' := ?_) #[true, true, true, true, true, true, true, true, true, true, true, true] rfl rfl (any_of HT_.out (by kernel_rfl)) (fun _ _ _ h => h) (Or.inl ⟨by rfl, ?_⟩) ?_ ?_
    rotate_left
    ·intro w'
     go_simp
     with_reducible rfl
    rotate_left
    ·simp only [Act.put, List.setIfInBounds_toArray, List.set_cons_zero, List.set_cons_succ, i64_w, i32_w]
     rfl
    refine done_ (done_of HT_.out (by kernel_rfl)) ?_
    have p32 : 0 ≤ ((ji29) : Int) := of_decide_eq_true (by first | (with_reducible assumption) | assumption)
    have q32 : ((ji29) : Int) < ((x4_2.length : Int) : Int) := of_decide_eq_true (by first | (with_reducible assumption) | assumption)
    obtain ⟨go32, co32, eo32, gb32, gl32, cl32, HG32⟩ := Kd.R_form HO_4.out (by omega)
    (first | cases eo32 | (injection eo32 with ea_ en_ ec_; (first | subst ea_ | (injection ea_ with ea_; subst ea_)); subst ec_; clear en_))
    have GB32 := Aside0.mk gb32
    have GG32 := Aside0.mk HG32
    clear gb32 gl32 HG32
    obtain ⟨hx32_0, hf32_0⟩ := Kd.R_celln false HO_4.out ((ji29) : Int) p32 q32
    replace p32 := eq_true p32
    replace q32 := eq_true q32
    obtain ⟨hy34_, hz34_⟩ := Kd.R_celln false HO_4.out ((ji29) : Int) (of_decide_eq_true (by first | (with_reducible assumption) | assumption)) (of_decide_eq_true (by first | (with_reducible assumption) | assumption))
    have HP34 := Kd.R_putg HO_4.out ((ji29) : Int) (((rd_T39 l0 x5_1).f0) == ((rd_T39 l0 x6_2).f0))
    try go_wp2_with (first | ((with_reducible refine gate_store (t := 4) (p := 58) rfl ?_); refine store_event (t := 4) (p := 58) (v := ?vo_w35) (w1 := (w33.setCell ⟨go32, ((ji29) : Int).toNat, none⟩ (.bool (((rd_T39 l0 x5_1).f0) == ((rd_T39 l0 x6_2).f0))))) ?hg ?ho ?hn ?hr ?_; (case ho => rfl); (case hg => rfl); (case hn => rfl); (case hr => first | (go_simp; done) | (go_simp; rfl)); intro w35 hw; have hg : w33.grownBy w35 (some go32) := (by rw [hw]; exact HP34.2); have hp_ : Kd.R Kd.bool 4 w35 w.heap.size (fun _ => True) (.slice (some ⟨go32, 0, none⟩) x4_2.length co32) y395 := (by rw [hw, Ny395.out]; exact HP34.1); clear HP34; have n0_ := Aside0.mk (hp_); have n1_ := Aside0.mk ((by rw [hw]; exact below_set (HB.out) GB32.out : Below w.heap.size w w35)); clear HO_4; clear HB; have HO_4 := n0_; have HB := n1_; clear n0_ n1_; clear hg hw hp_))
    go_roundg k2
    case measure => have := HK1.out; have := HK2.out; omega
    exact ⟨(y395), (wrap64 (x6_2 + 1)), (by first | rfl | (simp; done) | (simp [*]; done)), H', ⟨by have := HK1.out; have := HK2.out; omega⟩, ⟨by (with_reducible repeat (first | apply Kd.R_alloc | apply Kd.R_drewN | apply Kd.R_drew)); exact HO_4.out⟩, ⟨by repeat (first | (with_reducible first | exact HB.out | apply below_alloc | apply pw_below_drewN | apply below_drew1) | exact HB.out)⟩⟩
  rw [if_neg c7] at H
  have c7b0 : decide (x5_1 < (l0.length : Int)) = false := decide_eq_false c7
  clear c7
  have H' := Aside0.mk H
  clear H
  go_wp2
  go_loopg [9] k1 (fun kq v9 w' => ∃ (x4_2 : List Bool) (x9_2 : Bool), v9 = .bool x9_2 ∧ Aside0 (tickingref06_Subtypes.l2 kq l0 (l0.length : Int) x4_2 x9_2 = some r) ∧ Aside0 (kq ≤ k1) ∧ Aside0 (Kd.R Kd.bool 4 w' w.heap.size (fun _ => True) v389 x4_2) ∧ Aside0 (Below w.heap.size w w'))
  case atStart => exact ⟨(x4_1), (true), (by first | rfl | (simp; done) | (simp [*]; done)), H', ⟨Nat.le_refl _⟩, ⟨by (with_reducible repeat (first | apply Kd.R_alloc | apply Kd.R_drewN | apply Kd.R_drew)); exact HO_4.out⟩, ⟨by repeat (first | (with_reducible first | exact HB.out | apply below_alloc | apply pw_below_drewN | apply below_drew1) | exact HB.out)⟩⟩
  clear H'
  try clear c1
  try clear p1
  try clear q1
  try clear hx1
  try clear hf1
  try clear c2
  try clear p2
  try clear q2
  try clear hx2
  try clear hf2
  try clear c3
  try clear c3b0
  try clear c3b1
  try clear p3
  try clear q3
  try clear hx3
  try clear hf3
  try clear c4
  try clear c4b0
  try clear c4b1
  try clear p6
  try clear c7
  try clear c7b0
  try clear c8
  try clear c8b0
  try clear c9
  try clear c9b0
  try clear c10
  try clear c10b0
  try clear c11
  try clear c11b0
  try clear c12
  try clear c12b0
  try clear c13
  try clear c13b0
  try clear c13b1
  try clear c15
  try clear c15b0
  try clear c16
  try clear c16b0
  try clear p17
  try clear q17
  try clear hx17
  try clear hf17
  try clear c21
  try clear c21b0
  try clear c21b1
  try clear c23
  try clear c23b0
  try clear c24
  try clear c24b0
  try clear p25
  try clear q25
  try clear hx25
  try clear hf25
  try clear c30
  try clear c30b0
  try clear c31
  try clear c31b0
  try clear p32
  try clear q32
  try clear hx32
  try clear hf32
  try clear hx17_0
  try clear hx25_0
  try clear hx32_0
  try clear hx391_0
  try clear hx391_1
  try clear hx391_2
  try clear hx392_0
  try clear hx392_1
  try clear hx392_2
  try clear p17
  try clear p2
  try clear p25
  try clear p32
  try clear p391
  try clear p392
  try clear p6
  try clear q17
  try clear q25
  try clear q32
  try clear q391
  try clear q392
  obtain ⟨x4_2, x9_2, rfl, HA, HK2, HO_4, HB⟩ := hrel
  cases gk with
  | zero => exact absurd HA.out (by simp [tickingref06_Subtypes.l2])
  | succ k2 =>
   have H := HA.out
   clear HA
   simp only [tickingref06_Subtypes.l2] at H
   by_cases c36 : x9_2 = true
   rotate_left
   ·replace c36 := Bool.eq_false_iff.mpr c36
    subst c36
    have H1 : (some x4_2) = some r := by rw [if_neg (show ¬ (false = true) by decide)] at H; exact H
    clear H
    have H := H1
    clear H1
    obtain rfl := Option.some.inj H
    go_wp2
    go_ret
    exact ⟨_, by first | rfl | (simp [errW_none, errW_some] <;> rfl) | (simp only [← hji2]; first | rfl | (simp [errW_none, errW_some] <;> rfl)) | (simp [*, errW_none, errW_some] <;> rfl), by (with_reducible repeat (first | apply Kd.R_alloc | apply Kd.R_drewN | apply Kd.R_drew)); exact HO_4.out, by repeat (first | (with_reducible first | exact HB.out | apply below_alloc | apply pw_below_drewN | apply below_drew1) | exact HB.out)⟩
   subst c36
   have H1 : (tickingref06_Subtypes.l3 k2 l0 (l0.length : Int) x4_2 false 0) = some r := by rw [if_pos rfl] at H; exact H
   clear H
   have H := H1
   clear H1
   have H' := Aside0.mk H
   clear H
   go_wp2
   go_loopg [9, 10] k2 (fun kq v9 v10 w' => ∃ (x4_3 : List Bool) (x9_3 : Bool) (x10_3 : Int), v9 = .bool x9_3 ∧ v10 = .int .i64 x10_3 ∧ Aside0 (tickingref06_Subtypes.l3 kq l0 (l0.length : Int) x4_3 x9_3 x10_3 = some r) ∧ Aside0 (kq ≤ k2) ∧ Aside0 (Kd.R Kd.bool 4 w' w.heap.size (fun _ => True) v389 x4_3) ∧ Aside0 (Below w.heap.size w w'))
   case atStart => exact ⟨(x4_2), (false), (0), (by first | rfl | (simp; done) | (simp [*]; done)), (by first | rfl | (simp; done) | (simp [*]; done)), H', ⟨Nat.le_refl _⟩, ⟨by (with_reducible repeat (first | apply Kd.R_alloc | apply Kd.R_drewN | apply Kd.R_drew)); exact HO_4.out⟩, ⟨by repeat (first | (with_reducible first | exact HB.out | apply below_alloc | apply pw_below_drewN | apply below_drew1) | exact HB.out)⟩⟩
   clear H'
   try clear c1
   try clear p1
   try clear q1
   try clear hx1
   try clear hf1
   try clear c2
   try clear p2
   try clear q2
   try clear hx2
   try clear hf2
   try clear c3
   try clear c3b0
   try clear c3b1
   try clear p3
   try clear q3
   try clear hx3
   try clear hf3
   try clear c4
   try clear c4b0
   try clear c4b1
   try clear p6
   try clear c7
   try clear c7b0
   try clear c8
   try clear c8b0
   try clear c9
   try clear c9b0
   try clear c10
   try clear c10b0
   try clear c11
   try clear c11b0
   try clear c12
   try clear c12b0
   try clear c13
   try clear c13b0
   try clear c13b1
   try clear c15
   try clear c15b0
   try clear c16
   try clear c16b0
   try clear p17
   try clear q17
   try clear hx17
   try clear hf17
   try clear c21
   try clear c21b0
   try clear c21b1
   try clear c23
   try clear c23b0
   try clear c24
   try clear c24b0
   try clear p25
   try clear q25
   try clear hx25
   try clear hf25
   try clear c30
   try clear c30b0
   try clear c31
   try clear c31b0
   try clear p32
   try clear q32
   try clear hx32
   try clear hf32
   try clear c36
   try clear hx17_0
   try clear hx25_0
   try clear hx32_0
   try clear hx391_0
   try clear hx391_1
   try clear hx391_2
   try clear hx392_0
   try clear hx392_1
   try clear hx392_2
   try clear p1
   try clear p17
   try clear p2
   try clear p25
   try clear p3
   try clear p32
   try clear p391
   try clear p392
   try clear p6
   try clear q1
   try clear q17
   try clear q2
   try clear q25
   try clear q3
   try clear q32
   try clear q391
   try clear q392
   obtain ⟨x4_3, x9_3, x10_3, rfl, rfl, HA, HK3, HO_4, HB⟩ := hrel
   cases gk with
   | zero => exact absurd HA.out (by simp [tickingref06_Subtypes.l3])
   | succ k3 =>
    have H := HA.out
    clear HA
    simp only [tickingref06_Subtypes.l3] at H
    by_cases c37 : x10_3 < (l0.length : Int)
    rotate_left
    ·rw [if_neg c37] at H
     have c37b0 : decide (x10_3 < (l0.length : Int)) = false := decide_eq_false c37
     clear c37
     have H' := Aside0.mk H
     clear H
     go_wp2
     go_roundg k3
     case measure => have := HK1.out; have := HK2.out; have := HK3.out; omega
     exact ⟨(x4_3), (x9_3), (by first | rfl | (simp; done) | (simp [*]; done)), H', ⟨by have := HK1.out; have := HK2.out; have := HK3.out; omega⟩, ⟨by (with_reducible repeat (first | apply Kd.R_alloc | apply Kd.R_drewN | apply Kd.R_drew)); exact HO_4.out⟩, ⟨by repeat (first | (with_reducible first | exact HB.out | apply below_alloc | apply pw_below_drewN | apply below_drew1) | exact HB.out)⟩⟩
    rw [if_pos c37] at H
    have c37b0 : decide (x10_3 < (l0.length : Int)) = true := decide_eq_true c37
    clear c37
    have H' := Aside0.mk H
    clear H
    go_wp2
    go_loopg [9, 11] k3 (fun kq v9 v11 w' => ∃ (x4_4 : List Bool) (x9_4 : Bool) (x11_4 : Int), v9 = .bool x9_4 ∧ v11 = .int .i64 x11_4 ∧ Aside0 (tickingref06_Subtypes.l4 kq l0 (l0.length : Int) x4_4 x9_4 x10_3 x11_4 = some r) ∧ Aside0 (kq ≤ k3) ∧ Aside0 (Kd.R Kd.bool 4 w' w.heap.size (fun _ => True) v389 x4_4) ∧ Aside0 (Below w.heap.size w w'))
    case atStart => exact ⟨(x4_3), (x9_3), (0), (by first | rfl | (simp; done) | (simp [*]; done)), (by first | rfl | (simp; done) | (simp [*]; done)), H', ⟨Nat.le_refl _⟩, ⟨by (with_reducible repeat (first | apply Kd.R_alloc | apply Kd.R_drewN | apply Kd.R_drew)); exact HO_4.out⟩, ⟨by repeat (first | (with_reducible first | exact HB.out | apply below_alloc | apply pw_below_drewN | apply below_drew1) | exact HB.out)⟩⟩
    clear H'
    try clear c1
    try clear p1
    try clear q1
    try clear hx1
    try clear hf1
    try clear c2
    try clear p2
    try clear q2
    try clear hx2
    try clear hf2
    try clear c3
    try clear c3b0
    try clear c3b1
    try clear p3
    try clear q3
    try clear hx3
    try clear hf3
    try clear c4
    try clear c4b0
    try clear c4b1
    try clear p6
    try clear c7
    try clear c7b0
    try clear c8
    try clear c8b0
    try clear c9
    try clear c9b0
    try clear c10
    try clear c10b0
    try clear c11
    try clear c11b0
    try clear c12
    try clear c12b0
    try clear c13
    try clear c13b0
    try clear c13b1
    try clear c15
    try clear c15b0
    try clear c16
    try clear c16b0
    try clear p17
    try clear q17
    try clear hx17
    try clear hf17
    try clear c21
    try clear c21b0
    try clear c21b1
    try clear c23
    try clear c23b0
    try clear c24
    try clear c24b0
    try clear p25
    try clear q25
    try clear hx25
    try clear hf25
    try clear c30
    try clear c30b0
    try clear c31
    try clear c31b0
    try clear p32
    try clear q32
    try clear hx32
    try clear hf32
    try clear c36
    try clear c37
    try clear c37b0
    try clear hx17_0
    try clear hx25_0
    try clear hx32_0
    try clear hx391_0
    try clear hx391_1
    try clear hx391_2
    try clear hx392_0
    try clear hx392_1
    try clear hx392_2
    try clear p1
    try clear p17
    try clear p2
    try clear p25
    try clear p3
    try clear p32
    try clear p391
    try clear p392
    try clear p6
    try clear q1
    try clear q17
    try clear q2
    try clear q25
    try clear q3
    try clear q32
    try clear q391
    try clear q392
    obtain ⟨x4_4, x9_4, x11_4, rfl, rfl, HA, HK4, HO_4, HB⟩ := hrel
    cases gk with
    | zero => exact absurd HA.out (by simp [tickingref06_Subtypes.l4])
    | succ k4 =>
     have H := HA.out
     clear HA
     simp only [tickingref06_Subtypes.l4] at H
     by_cases c38 : x11_4 < (l0.length : Int)
     rotate_left
     ·rw [if_neg c38] at H
      have c38b0 : decide (x11_4 < (l0.length : Int)) = false := decide_eq_false c38
      clear c38
      have H' := Aside0.mk H
      clear H
      go_wp2
      go_roundg k4
      case measure => have := HK1.out; have := HK2.out; have := HK3.out; have := HK4.out; omega
      exact ⟨(x4_4), (x9_4), (wrap64 (x10_3 + 1)), (by first | rfl | (simp; done) | (simp [*]; done)), (by first | rfl | (simp; done) | (simp [*]; done)), H', ⟨by have := HK1.out; have := HK2.out; have := HK3.out; have := HK4.out; omega⟩, ⟨by (with_reducible repeat (first | apply Kd.R_alloc | apply Kd.R_drewN | apply Kd.R_drew)); exact HO_4.out⟩, ⟨by repeat (first | (with_reducible first | exact HB.out | apply below_alloc | apply pw_below_drewN | apply below_drew1) | exact HB.out)⟩⟩
     rw [if_pos c38] at H
     have c38b0 : decide (x11_4 < (l0.length : Int)) = true := decide_eq_true c38
     clear c38
     by_cases c39 : 0 ≤ x10_3
     rotate_left
     ·rw [if_neg c39] at H
      exact absurd H (by simp)
     rw [if_pos c39] at H
     have c39b0 : decide (0 ≤ x10_3) = true := decide_eq_true c39
     clear c39
     by_cases c40 : x10_3 < (l0.length : Int)
     rotate_left
     ·rw [if_neg c40] at H
      exact absurd H (by simp)
     rw [if_pos c40] at H
     have c40b0 : decide (x10_3 < (l0.length : Int)) = true := decide_eq_true c40
     clear c40
     by_cases c41 : 0 ≤ x11_4
     rotate_left
     ·rw [if_neg c41] at H
      exact absurd H (by simp)
     rw [if_pos c41] at H
     have c41b0 : decide (0 ≤ x11_4) = true := decide_eq_true c41
     clear c41
     by_cases c42 : x11_4 < (l0.length : Int)
     rotate_left
     ·rw [if_neg c42] at H
      exact absurd H (by simp)
     rw [if_pos c42] at H
     have c42b0 : decide (x11_4 < (l0.length : Int)) = true := decide_eq_true c42
     clear c42
     have HC43 := Aside0.mk H
     clear H
     try go_wp2
     have n0_ := Aside0.mk (Kd.R_drew HO_4.out)
     have n1_ := Aside0.mk (below_drew1 HB.out)
     clear HO_4
     clear HB
     have HO_4 := n0_
     have HB := n1_
     clear n0_ n1_
     have p396 : 0 ≤ (x10_3 : Int) := of_decide_eq_true (by first | (with_reducible assumption) | assumption)
     have q396 : x10_3 < (l0.length : Int) := of_decide_eq_true (by first | (with_reducible assumption) | assumption)
     obtain ⟨ad396, e396, hx396_0, hx396_1, hx396_2⟩ := at_T39 HR0.out x10_3 p396 q396
     have hw396_2 := hx396_2
     have hw396_1 := hx396_1
     have hw396_0 := hx396_0
     cases e396
     replace hx396_0 := (HB.out.cell (World.block_lt_of_cell? w _ hx396_0)).trans hx396_0
     replace hx396_1 := (HB.out.cell (World.block_lt_of_cell? w _ hx396_1)).trans hx396_1
     replace hx396_2 := (HB.out.cell (World.block_lt_of_cell? w _ hx396_2)).trans hx396_2
     replace p396 := eq_true p396
     replace q396 := eq_true q396
     have p397 : 0 ≤ (x11_4 : Int) := of_decide_eq_true (by first | (with_reducible assumption) | assumption)
     have q397 : x11_4 < (l0.length : Int) := of_decide_eq_true (by first | (with_reducible assumption) | assumption)
     obtain ⟨ad397, e397, hx397_0, hx397_1, hx397_2⟩ := at_T39 HR0.out x11_4 p397 q397
     have hw397_2 := hx397_2
     have hw397_1 := hx397_1
     have hw397_0 := hx397_0
     obtain rfl : ad396 = ad397 := (by injection e397)
     replace hx397_0 := (HB.out.cell (World.block_lt_of_cell? w _ hx397_0)).trans hx397_0
     replace hx397_1 := (HB.out.cell (World.block_lt_of_cell? w _ hx397_1)).trans hx397_1
     replace hx397_2 := (HB.out.cell (World.block_lt_of_cell? w _ hx397_2)).trans hx397_2
     replace p397 := eq_true p397
     replace q397 := eq_true q397
     refine start_ (n := 12) (S := fun w' => w'.cell? (ad396.add ((x10_3).toNat * 3)) = some (.int .i64 ((rd_T39 l0 x10_3).f0)) ∧ w'.cell? ⟨(ad396.add ((x10_3).toNat * 3)).block, (ad396.add ((x10_3).toNat * 3)).off + 1, none⟩ = some (.int .i64 ((rd_T39 l0 x10_3).f1)) ∧ w'.cell? ⟨(ad396.add ((x10_3).toNat * 3)).block, (ad396.add ((x10_3).toNat * 3)).off + 2, none⟩ = some (.int .i64 ((rd_T39 l0 x10_3).f2)) ∧ w'.cell? (ad396.add ((x11_4).toNat * 3)) = some (.int .i64 ((rd_T39 l0 x11_4).f0)) ∧ w'.cell? ⟨(ad396.add ((x11_4).toNat * 3)).block, (ad396.add ((x11_4).toNat * 3)).off + 1, none⟩ = some (.int .i64 ((rd_T39 l0 x11_4).f1)) ∧ w'.cell? ⟨(ad396.add ((x11_4).toNat * 3)).block, (ad396.add ((x11_4).toNat * 3)).off + 2, none⟩ = some (.int .i64 ((rd_T39 l0 x11_4).f2))) (ds := []) #[false, false, false, false, false, false, false, false, false, false, false, false] (by kernel_rfl) rfl rfl ⟨((HB.out.cell (World.block_lt_of_cell? w _ hw396_0)).trans hw396_0), ((HB.out.cell (World.block_lt_of_cell? w _ hw396_1)).trans hw396_1), ((HB.out.cell (World.block_lt_of_cell? w _ hw396_2)).trans hw396_2), ((HB.out.cell (World.block_lt_of_cell? w _ hw397_0)).trans hw397_0), ((HB.out.cell (World.block_lt_of_cell? w _ hw397_1)).trans hw397_1), ((HB.out.cell (World.block_lt_of_cell? w _ hw397_2)).trans hw397_2)⟩ (fun hHeld => ?_); refine with_tabW tickingref06_Subtypes.tab20 tickingref06_Subtypes.bits20 (fun HT_ HW_ => ?_)
     generalize wr.drew = w44 at HO_4 HB hx396_0 hx396_1 hx396_2 hx397_0 hx397_1 hx397_2 hHeld ⊢
     refine pure_ (i := 0) (N := some 70) (v := ?_) (a' := ?_) #[true, false, false, false, false, false, false, false, false, false, false, false] rfl rfl (any_of HT_.out (by kernel_rfl)) (fun _ _ _ h => h) (Or.inl ⟨by rfl, ?_⟩) ?_ ?_
     rotate_left
     ·intro w'
      go_simp
      with_reducible rfl
     rotate_left
     ·simp only [Act.put, List.setIfInBounds_toArray, List.set_cons_zero, List.set_cons_succ, i64_w, i32_w]
      rfl
     refine pure_ (i := 1) (N := some 71) (v := ?_) (a' := ?_) #[true, true, false, false, false, false, false, false, false, false, false, false] rfl rfl (any_of HT_.out (by kernel_rfl)) (fun _ _ _ h => h) (Or.inl ⟨by rfl, ?_⟩) ?_ ?_
     rotate_left
     ·intro w'
      go_simp
      with_reducible rfl
     rotate_left
     ·simp only [Act.put, List.setIfInBounds_toArray, List.set_cons_zero, List.set_cons_succ, i64_w, i32_w]
      rfl
     refine pure_ (i := 2) (N := some 72) (v := ?_) (a' := ?_) #[true, true, true, false, false, false, false, false, false, false, false, false] rfl rfl (any_of HT_.out (by kernel_rfl)) (fun _ _ _ h => h) (Or.inl ⟨by rfl, ?_⟩) ?_ ?_
     rotate_left
     ·intro w'
      go_simp
      with_reducible rfl
     rotate_left
     ·simp only [Act.put, List.setIfInBounds_toArray, List.set_cons_zero, List.set_cons_succ, i64_w, i32_w]
      rfl
     refine pure_ (i := 4) (N := some 74) (v := ?_) (a' := ?_) #[true, true, true, false, true, false, false, false, false, false, false, false] rfl rfl (any_of HT_.out (by kernel_rfl)) (fun _ _ _ h => h) (Or.inl ⟨by rfl, ?_⟩) ?_ ?_
     rotate_left
     ·intro w'
      go_simp
      with_reducible rfl
     rotate_left
     ·simp only [Act.put, List.setIfInBounds_toArray, List.set_cons_zero, List.set_cons_succ, i64_w, i32_w]
      rfl
     refine pure_ (i := 5) (N := some 75) (v := ?_) (a' := ?_) #[true, true, true, false, true, true, false, false, false, false, false, false] rfl rfl (any_of HT_.out (by kernel_rfl)) (fun _ _ _ h => h) (Or.inl ⟨by rfl, ?_⟩) ?_ ?_
     rotate_left
     ·intro w'
      go_simp
      with_reducible rfl
     rotate_left
     ·simp only [Act.put, List.setIfInBounds_toArray, List.set_cons_zero, List.set_cons_succ, i64_w, i32_w]
      rfl
     refine pure_ (i := 6) (N := some 76) (v := ?_) (a' := ?_) #[true, true, true, false, true, true, true, false, false, false, false, false] rfl rfl (any_of HT_.out (by kernel_rfl)) (fun _ _ _ h => h) (Or.inl ⟨by rfl, ?_⟩) ?_ ?_
     rotate_left
     ·intro w'
      go_simp
      with_reducible rfl
     rotate_left
     ·simp only [Act.put, List.setIfInBounds_toArray, List.set_cons_zero, List.set_cons_succ, i64_w, i32_w]
      rfl
     refine take_ (i := 3) (N := some 73) (v := ?_) (a' := ?_) #[true, true, true, true, true, true, true, false, false, false, false, false] rfl rfl (take_ofW HT_.out HW_.out (by kernel_rfl)) (fun _ _ _ h => h) (Or.inl ⟨by rfl, ?_⟩) hHeld ?_ ?_
     rotate_left
     ·rintro w' ⟨s0, s1, s2, s3, s4, s5⟩
      go_simp
      with_reducible rfl
     rotate_left
     ·simp only [Act.put, List.setIfInBounds_toArray, List.set_cons_zero, List.set_cons_succ, i64_w, i32_w]
      rfl
     refine take_ (i := 7) (N := some 77) (v := ?_) (a' := ?_) #[true, true, true, true, true, true, true, true, false, false, false, false] rfl rfl (take_ofW HT_.out HW_.out (by kernel_rfl)) (fun _ _ _ h => h) (Or.inl ⟨by rfl, ?_⟩) hHeld ?_ ?_
     rotate_left
     ·rintro w' ⟨s0, s1, s2, s3, s4, s5⟩
      go_simp
      with_reducible rfl
     rotate_left
     ·simp only [Act.put, List.setIfInBounds_toArray, List.set_cons_zero, List.set_cons_succ, i64_w, i32_w]
      rfl
     refine join_ (σ := Nat × Nat) 2 #[true, true, true, true, true, true, true, true, true, true, false, false] (fun s_ => [(12, .pointer (some ⟨s_.1, 0, none⟩)), (13, .pointer (some ⟨s_.2, 0, none⟩))]) (fun s_ w' => (w'.cell? (ad396.add ((x10_3).toNat * 3)) = some (.int .i64 ((rd_T39 l0 x10_3).f0)) ∧ w'.cell? ⟨(ad396.add ((x10_3).toNat * 3)).block, (ad396.add ((x10_3).toNat * 3)).off + 1, none⟩ = some (.int .i64 ((rd_T39 l0 x10_3).f1)) ∧ w'.cell? ⟨(ad396.add ((x10_3).toNat * 3)).block, (ad396.add ((x10_3).toNat * 3)).off + 2, none⟩ = some (.int .i64 ((rd_T39 l0 x10_3).f2)) ∧ w'.cell? (ad396.add ((x11_4).toNat * 3)) = some (.int .i64 ((rd_T39 l0 x11_4).f0)) ∧ w'.cell? ⟨(ad396.add ((x11_4).toNat * 3)).block, (ad396.add ((x11_4).toNat * 3)).off + 1, none⟩ = some (.int .i64 ((rd_T39 l0 x11_4).f1)) ∧ w'.cell? ⟨(ad396.add ((x11_4).toNat * 3)).block, (ad396.add ((x11_4).toNat * 3)).off + 2, none⟩ = some (.int .i64 ((rd_T39 l0 x11_4).f2))) ∧ (Kd.R Kd.bool 4 w' w.heap.size (fun _ => True) v389 x4_4) ∧ (w'.heap[s_.1]? = some (.cells #[.int .i64 0, .int .i64 0, .int .i64 0] 39 (0, 0))) ∧ (w'.heap[s_.2]? = some (.cells #[.int .i64 0, .int .i64 0, .int .i64 0] 39 (0, 0))) ∧ (w.heap.size ≤ s_.1) ∧ (w.heap.size ≤ s_.1) ∧ (s_.2 ≠ s_.1) ∧ (s_.1 ≠ s_.2) ∧ (w.heap.size ≤ s_.2) ∧ (w.heap.size ≤ s_.2) ∧ (Below w.heap.size w w')) ?_ ?_
     rotate_left
     ·intro hCont
      refine two_ (i := 8) (j := 9) (Ni := some 12) (Nj := some 13) #[true, true, true, true, true, true, true, true, true, false, false, false] #[true, true, true, true, true, true, true, true, false, true, false, false] rfl rfl rfl rfl (two_of HT_.out (by kernel_rfl)) (by decide) (by decide) (fun K hK => ?_) (fun K hK => ?_)
      ·skip
       refine box_step ?hg (N := 12) ?hd (cs := #[.int .i64 0, .int .i64 0, .int .i64 0]) (t := 39) ?hr ?_; (case hd => rfl); (case hg => rfl); (case hr => first | (go_simp; done) | (go_simp; rfl))
       intro gb398 hg w45 hbox hb
       have n0_ := Aside0.mk (Kd.R_below (by (with_reducible repeat (first | apply Kd.R_alloc | apply Kd.R_drewN | apply Kd.R_drew)); exact HO_4.out) hb)
       have n1_ := Aside0.mk (below_step (by repeat (first | (with_reducible first | exact HB.out | apply below_alloc | apply pw_below_drewN | apply below_drew1) | exact HB.out)) hb)
       have n2_ := Aside0.mk (hbox)
       have n3_ := Aside0.mk ((by rw [hg]; exact (below_size (by repeat (first | (with_reducible first | exact HB.out | apply below_alloc | apply pw_below_drewN | apply below_drew1) | exact HB.out))) : w.heap.size ≤ gb398))
       have n4_ := Aside0.mk ((by rw [hg]; exact (below_size (by repeat (first | (with_reducible first | exact HB.out | apply below_alloc | apply pw_below_drewN | apply below_drew1) | exact HB.out))) : w.heap.size ≤ gb398))
       clear HO_4
       clear HB
       have HO_4 := n0_
       have HB := n1_
       have BK398 := n2_
       have GW398 := n3_
       have GE398 := n4_
       clear n0_ n1_ n2_ n3_ n4_
       clear hb hbox hg
       refine hK.out _ _ ⟨((HB.out.cell (World.block_lt_of_cell? w _ hw396_0)).trans hw396_0), ((HB.out.cell (World.block_lt_of_cell? w _ hw396_1)).trans hw396_1), ((HB.out.cell (World.block_lt_of_cell? w _ hw396_2)).trans hw396_2), ((HB.out.cell (World.block_lt_of_cell? w _ hw397_0)).trans hw397_0), ((HB.out.cell (World.block_lt_of_cell? w _ hw397_1)).trans hw397_1), ((HB.out.cell (World.block_lt_of_cell? w _ hw397_2)).trans hw397_2)⟩ (fun hHeld => ?_)
       clear hK K
       refine norm_ (a' := ?_) ?_ ?_
       rotate_left
       ·show Act.put _ (some 12) _ = _
        simp only [Act.put, List.setIfInBounds_toArray, List.set_cons_zero, List.set_cons_succ, i64_w, i32_w]
        rfl
       refine one_ (i := 9) (N := some 13) #[true, true, true, true, true, true, true, true, true, true, false, false] rfl rfl (one_of HT_.out (by kernel_rfl)) (by decide) (fun K hK => ?_)
       refine box_step ?hg (N := 13) ?hd (cs := #[.int .i64 0, .int .i64 0, .int .i64 0]) (t := 39) ?hr ?_; (case hd => rfl); (case hg => rfl); (case hr => first | (go_simp; done) | (go_simp; rfl))
       intro gb399 hg w46 hbox hb
       have n0_ := Aside0.mk (Kd.R_below (by (with_reducible repeat (first | apply Kd.R_alloc | apply Kd.R_drewN | apply Kd.R_drew)); exact HO_4.out) hb)
       have n1_ := Aside0.mk (blk_below (g := gb398) (o := .cells #[.int .i64 0, .int .i64 0, .int .i64 0] 39 (0, 0)) (by (with_reducible repeat (first | refine blk_drewN ?_ _ | refine blk_drew ?_ | refine blk_alloc ?_ _)); exact BK398.out) hb)
       have n2_ := Aside0.mk (below_step (by repeat (first | (with_reducible first | exact HB.out | apply below_alloc | apply pw_below_drewN | apply below_drew1 | refine below_set ?_ GE398.out) | exact HB.out)) hb)
       have n3_ := Aside0.mk (hbox)
       have n4_ := Aside0.mk ((by rw [hg]; exact (below_size (by repeat (first | (with_reducible first | exact HB.out | apply below_alloc | apply pw_below_drewN | apply below_drew1 | refine below_set ?_ GE398.out) | exact HB.out))) : w.heap.size ≤ gb399))
       have n5_ := Aside0.mk ((by rw [hg]; exact (below_size (by repeat (first | (with_reducible first | exact HB.out | apply below_alloc | apply pw_below_drewN | apply below_drew1 | refine below_set ?_ GE398.out) | exact HB.out))) : w.heap.size ≤ gb399))
       have n6_ := Aside0.mk ((by rw [hg]; exact Nat.ne_of_lt (blk_lt (g := gb398) (o := .cells #[.int .i64 0, .int .i64 0, .int .i64 0] 39 (0, 0)) (by (with_reducible repeat (first | refine blk_drewN ?_ _ | refine blk_drew ?_ | refine blk_alloc ?_ _)); exact BK398.out)) : gb398 ≠ gb399))
       have n7_ := Aside0.mk ((by rw [hg]; exact Nat.ne_of_gt (blk_lt (g := gb398) (o := .cells #[.int .i64 0, .int .i64 0, .int .i64 0] 39 (0, 0)) (by (with_reducible repeat (first | refine blk_drewN ?_ _ | refine blk_drew ?_ | refine blk_alloc ?_ _)); exact BK398.out)) : gb399 ≠ gb398))
       clear HO_4
       clear BK398
       clear HB
       have HO_4 := n0_
       have BK398 := n1_
       have HB := n2_
       have BK399 := n3_
       have GW399 := n4_
       have GE399 := n5_
       have NB398_399 := n6_
       have NB399_398 := n7_
       clear n0_ n1_ n2_ n3_ n4_ n5_ n6_ n7_
       clear hb hbox hg
       refine hK.out _ _ ⟨((HB.out.cell (World.block_lt_of_cell? w _ hw396_0)).trans hw396_0), ((HB.out.cell (World.block_lt_of_cell? w _ hw396_1)).trans hw396_1), ((HB.out.cell (World.block_lt_of_cell? w _ hw396_2)).trans hw396_2), ((HB.out.cell (World.block_lt_of_cell? w _ hw397_0)).trans hw397_0), ((HB.out.cell (World.block_lt_of_cell? w _ hw397_1)).trans hw397_1), ((HB.out.cell (World.block_lt_of_cell? w _ hw397_2)).trans hw397_2)⟩ (fun hHeld => ?_)
       clear hK K
       refine norm_ (a' := ?_) ?_ ?_
       rotate_left
       ·show Act.put _ (some 13) _ = _
        simp only [Act.put, List.setIfInBounds_toArray, List.set_cons_zero, List.set_cons_succ, i64_w, i32_w]
        rfl
       exact norm_ (by simp only [putAll, Act.put, List.setIfInBounds_toArray, List.set_cons_zero, List.set_cons_succ]) (hCont (gb398, gb399) _ ⟨hHeld, (by (with_reducible repeat (first | apply Kd.R_alloc | apply Kd.R_drewN | apply Kd.R_drew)); exact HO_4.out), (by (with_reducible repeat (first | refine blk_drewN ?_ _ | refine blk_drew ?_ | refine blk_alloc ?_ _)); exact BK398.out), (by (with_reducible repeat (first | refine blk_drewN ?_ _ | refine blk_drew ?_ | refine blk_alloc ?_ _)); exact BK399.out), GW398.out, GE398.out, NB399_398.out, NB398_399.out, GW399.out, GE399.out, (by repeat (first | (with_reducible first | exact HB.out | apply below_alloc | apply pw_below_drewN | apply below_drew1 | refine below_set ?_ GE398.out | refine below_set ?_ GE399.out) | exact HB.out))⟩)
      skip
      refine box_step ?hg (N := 13) ?hd (cs := #[.int .i64 0, .int .i64 0, .int .i64 0]) (t := 39) ?hr ?_; (case hd => rfl); (case hg => rfl); (case hr => first | (go_simp; done) | (go_simp; rfl))
      intro gb399 hg w45 hbox hb
      have n0_ := Aside0.mk (Kd.R_below (by (with_reducible repeat (first | apply Kd.R_alloc | apply Kd.R_drewN | apply Kd.R_drew)); exact HO_4.out) hb)
      have n1_ := Aside0.mk (below_step (by repeat (first | (with_reducible first | exact HB.out | apply below_alloc | apply pw_below_drewN | apply below_drew1) | exact HB.out)) hb)
      have n2_ := Aside0.mk (hbox)
      have n3_ := Aside0.mk ((by rw [hg]; exact (below_size (by repeat (first | (with_reducible first | exact HB.out | apply below_alloc | apply pw_below_drewN | apply below_drew1) | exact HB.out))) : w.heap.size ≤ gb399))
      have n4_ := Aside0.mk ((by rw [hg]; exact (below_size (by repeat (first | (with_reducible first | exact HB.out | apply below_alloc | apply pw_below_drewN | apply below_drew1) | exact HB.out))) : w.heap.size ≤ gb399))
      clear HO_4
      clear HB
      have HO_4 := n0_
      have HB := n1_
      have BK399 := n2_
      have GW399 := n3_
      have GE399 := n4_
      clear n0_ n1_ n2_ n3_ n4_
      clear hb hbox hg
      refine hK.out _ _ ⟨((HB.out.cell (World.block_lt_of_cell? w _ hw396_0)).trans hw396_0), ((HB.out.cell (World.block_lt_of_cell? w _ hw396_1)).trans hw396_1), ((HB.out.cell (World.block_lt_of_cell? w _ hw396_2)).trans hw396_2), ((HB.out.cell (World.block_lt_of_cell? w _ hw397_0)).trans hw397_0), ((HB.out.cell (World.block_lt_of_cell? w _ hw397_1)).trans hw397_1), ((HB.out.cell (World.block_lt_of_cell? w _ hw397_2)).trans hw397_2)⟩ (fun hHeld => ?_)
      clear hK K
      refine norm_ (a' := ?_) ?_ ?_
      rotate_left
      ·show Act.put _ (some 13) _ = _
       simp only [Act.put, List.setIfInBounds_toArray, List.set_cons_zero, List.set_cons_succ, i64_w, i32_w]
       rfl
      refine one_ (i := 8) (N := some 12) #[true, true, true, true, true, true, true, true, true, true, false, false] rfl rfl (one_of HT_.out (by kernel_rfl)) (by decide) (fun K hK => ?_)
      refine box_step ?hg (N := 12) ?hd (cs := #[.int .i64 0, .int .i64 0, .int .i64 0]) (t := 39) ?hr ?_; (case hd => rfl); (case hg => rfl); (case hr => first | (go_simp; done) | (go_simp; rfl))
      intro gb398 hg w46 hbox hb
      have n0_ := Aside0.mk (Kd.R_below (by (with_reducible repeat (first | apply Kd.R_alloc | apply Kd.R_drewN | apply Kd.R_drew)); exact HO_4.out) hb)
      have n1_ := Aside0.mk (blk_below (g := gb399) (o := .cells #[.int .i64 0, .int .i64 0, .int .i64 0] 39 (0, 0)) (by (with_reducible repeat (first | refine blk_drewN ?_ _ | refine blk_drew ?_ | refine blk_alloc ?_ _)); exact BK399.out) hb)
      have n2_ := Aside0.mk (below_step (by repeat (first | (with_reducible first | exact HB.out | apply below_alloc | apply pw_below_drewN | apply below_drew1 | refine below_set ?_ GE399.out) | exact HB.out)) hb)
      have n3_ := Aside0.mk (hbox)
      have n4_ := Aside0.mk ((by rw [hg]; exact (below_size (by repeat (first | (with_reducible first | exact HB.out | apply below_alloc | apply pw_below_drewN | apply below_drew1 | refine below_set ?_ GE399.out) | exact HB.out))) : w.heap.size ≤ gb398))
      have n5_ := Aside0.mk ((by rw [hg]; exact (below_size (by repeat (first | (with_reducible first | exact HB.out | apply below_alloc | apply pw_below_drewN | apply below_drew1 | refine below_set ?_ GE399.out) | exact HB.out))) : w.heap.size ≤ gb398))
      have n6_ := Aside0.mk ((by rw [hg]; exact Nat.ne_of_lt (blk_lt (g := gb399) (o := .cells #[.int .i64 0, .int .i64 0, .int .i64 0] 39 (0, 0)) (by (with_reducible repeat (first | refine blk_drewN ?_ _ | refine blk_drew ?_ | refine blk_alloc ?_ _)); exact BK399.out)) : gb399 ≠ gb398))
      have n7_ := Aside0.mk ((by rw [hg]; exact Nat.ne_of_gt (blk_lt (g := gb399) (o := .cells #[.int .i64 0, .int .i64 0, .int .i64 0] 39 (0, 0)) (by (with_reducible repeat (first | refine blk_drewN ?_ _ | refine blk_drew ?_ | refine blk_alloc ?_ _)); exact BK399.out)) : gb398 ≠ gb399))
      clear HO_4
      clear BK399
      clear HB
      have HO_4 := n0_
      have BK399 := n1_
      have HB := n2_
      have BK398 := n3_
      have GW398 := n4_
      have GE398 := n5_
      have NB399_398 := n6_
      have NB398_399 := n7_
      clear n0_ n1_ n2_ n3_ n4_ n5_ n6_ n7_
      clear hb hbox hg
      refine hK.out _ _ ⟨((HB.out.cell (World.block_lt_of_cell? w _ hw396_0)).trans hw396_0), ((HB.out.cell (World.block_lt_of_cell? w _ hw396_1)).trans hw396_1), ((HB.out.cell (World.block_lt_of_cell? w _ hw396_2)).trans hw396_2), ((HB.out.cell (World.block_lt_of_cell? w _ hw397_0)).trans hw397_0), ((HB.out.cell (World.block_lt_of_cell? w _ hw397_1)).trans hw397_1), ((HB.out.cell (World.block_lt_of_cell? w _ hw397_2)).trans hw397_2)⟩ (fun hHeld => ?_)
      clear hK K
      refine norm_ (a' := ?_) ?_ ?_
      rotate_left
      ·show Act.put _ (some 12) _ = _
       simp only [Act.put, List.setIfInBounds_toArray, List.set_cons_zero, List.set_cons_succ, i64_w, i32_w]
       rfl
      exact norm_ (by simp only [putAll, Act.put, List.setIfInBounds_toArray, List.set_cons_zero, List.set_cons_succ]) (hCont (gb398, gb399) _ ⟨hHeld, (by (with_reducible repeat (first | apply Kd.R_alloc | apply Kd.R_drewN | apply Kd.R_drew)); exact HO_4.out), (by (with_reducible repeat (first | refine blk_drewN ?_ _ | refine blk_drew ?_ | refine blk_alloc ?_ _)); exact BK398.out), (by (with_reducible repeat (first | refine blk_drewN ?_ _ | refine blk_drew ?_ | refine blk_alloc ?_ _)); exact BK399.out), GW398.out, GE398.out, NB399_398.out, NB398_399.out, GW399.out, GE399.out, (by repeat (first | (with_reducible first | exact HB.out | apply below_alloc | apply pw_below_drewN | apply below_drew1 | refine below_set ?_ GE399.out | refine below_set ?_ GE398.out) | exact HB.out))⟩)
     rintro ⟨gb398, gb399⟩ w47 ⟨hS_, h0_, h1_, h2_, h3_, h4_, h5_, h6_, h7_, h8_, h9_⟩
     have n0_ : Aside0 (Kd.R Kd.bool 4 w47 w.heap.size (fun _ => True) v389 x4_4) := ⟨h0_⟩
     have n1_ : Aside0 (w47.heap[gb398]? = some (.cells #[.int .i64 0, .int .i64 0, .int .i64 0] 39 (0, 0))) := ⟨h1_⟩
     have n2_ : Aside0 (w47.heap[gb399]? = some (.cells #[.int .i64 0, .int .i64 0, .int .i64 0] 39 (0, 0))) := ⟨h2_⟩
     have n3_ : Aside0 (w.heap.size ≤ gb398) := ⟨h3_⟩
     have n4_ : Aside0 (w.heap.size ≤ gb398) := ⟨h4_⟩
     have n5_ : Aside0 (gb399 ≠ gb398) := ⟨h5_⟩
     have n6_ : Aside0 (gb398 ≠ gb399) := ⟨h6_⟩
     have n7_ : Aside0 (w.heap.size ≤ gb399) := ⟨h7_⟩
     have n8_ : Aside0 (w.heap.size ≤ gb399) := ⟨h8_⟩
     have n9_ : Aside0 (Below w.heap.size w w47) := ⟨h9_⟩
     clear HO_4
     clear HB
     clear h0_ h1_ h2_ h3_ h4_ h5_ h6_ h7_ h8_ h9_
     have HO_4 := n0_
     have BK398 := n1_
     have BK399 := n2_
     have GW398 := n3_
     have GE398 := n4_
     have NB399_398 := n5_
     have NB398_399 := n6_
     have GW399 := n7_
     have GE399 := n8_
     have HB := n9_
     clear n0_ n1_ n2_ n3_ n4_ n5_ n6_ n7_ n8_ n9_
     have hHeld : w47.cell? (ad396.add ((x10_3).toNat * 3)) = some (.int .i64 ((rd_T39 l0 x10_3).f0)) ∧ w47.cell? ⟨(ad396.add ((x10_3).toNat * 3)).block, (ad396.add ((x10_3).toNat * 3)).off + 1, none⟩ = some (.int .i64 ((rd_T39 l0 x10_3).f1)) ∧ w47.cell? ⟨(ad396.add ((x10_3).toNat * 3)).block, (ad396.add ((x10_3).toNat * 3)).off + 2, none⟩ = some (.int .i64 ((rd_T39 l0 x10_3).f2)) ∧ w47.cell? (ad396.add ((x11_4).toNat * 3)) = some (.int .i64 ((rd_T39 l0 x11_4).f0)) ∧ w47.cell? ⟨(ad396.add ((x11_4).toNat * 3)).block, (ad396.add ((x11_4).toNat * 3)).off + 1, none⟩ = some (.int .i64 ((rd_T39 l0 x11_4).f1)) ∧ w47.cell? ⟨(ad396.add ((x11_4).toNat * 3)).block, (ad396.add ((x11_4).toNat * 3)).off + 2, none⟩ = some (.int .i64 ((rd_T39 l0 x11_4).f2)) := hS_
     refine norm_ (a' := ?_) ?_ ?_
     rotate_left
     ·simp only [putAll, Act.put, List.setIfInBounds_toArray, List.set_cons_zero, List.set_cons_succ]
      rfl
     refine one_ (i := 10) (N := none) #[true, true, true, true, true, true, true, true, true, true, true, false] rfl rfl (one_of HT_.out (by kernel_rfl)) (by decide) (fun K hK => ?_)
     have hs48 : w47.cell? ⟨gb398, 0, none⟩ = some (.int .i64 0) := (blk_cell BK398.out 0).trans rfl
     have hfs48 := blk_frozen BK398.out 0
     have hns48_1 := NB399_398.out
     have hms48_1 := NB398_399.out
     have hs49 : w47.cell? ⟨gb398, 1, none⟩ = some (.int .i64 0) := (blk_cell BK398.out 1).trans rfl
     have hfs49 := blk_frozen BK398.out 1
     have hns49_1 := NB399_398.out
     have hms49_1 := NB398_399.out
     have hs50 : w47.cell? ⟨gb398, 2, none⟩ = some (.int .i64 0) := (blk_cell BK398.out 2).trans rfl
     have hfs50 := blk_frozen BK398.out 2
     have hns50_1 := NB399_398.out
     have hms50_1 := NB398_399.out
     refine skip_ (w1 := ?_) (by rfl) rfl ?_ ?_
     rotate_left
     ·go_simp
      rfl
     refine hK.out _ _ ⟨((cell_far (p := ⟨gb398, _, none⟩) (by first | exact Nat.ne_of_lt (Nat.lt_of_lt_of_le (by have := World.block_lt_of_cell? _ _ hw396_0; first | rwa [add_block] at this | exact this) GW398.out) | (rw [add_block]; exact Nat.ne_of_lt (Nat.lt_of_lt_of_le (by have := World.block_lt_of_cell? _ _ hw396_0; first | rwa [add_block] at this | exact this) GW398.out)) | (show (Addr.add _ _).block ≠ _; rw [add_block]; exact Nat.ne_of_lt (Nat.lt_of_lt_of_le (by have := World.block_lt_of_cell? _ _ hw396_0; first | rwa [add_block] at this | exact this) GW398.out)) | (dsimp only; exact Nat.ne_of_lt (Nat.lt_of_lt_of_le (by have := World.block_lt_of_cell? _ _ hw396_0; first | rwa [add_block] at this | exact this) GW398.out))) _).trans (((cell_far (p := ⟨gb398, _, none⟩) (by first | exact Nat.ne_of_lt (Nat.lt_of_lt_of_le (by have := World.block_lt_of_cell? _ _ hw396_0; first | rwa [add_block] at this | exact this) GW398.out) | (rw [add_block]; exact Nat.ne_of_lt (Nat.lt_of_lt_of_le (by have := World.block_lt_of_cell? _ _ hw396_0; first | rwa [add_block] at this | exact this) GW398.out)) | (show (Addr.add _ _).block ≠ _; rw [add_block]; exact Nat.ne_of_lt (Nat.lt_of_lt_of_le (by have := World.block_lt_of_cell? _ _ hw396_0; first | rwa [add_block] at this | exact this) GW398.out)) | (dsimp only; exact Nat.ne_of_lt (Nat.lt_of_lt_of_le (by have := World.block_lt_of_cell? _ _ hw396_0; first | rwa [add_block] at this | exact this) GW398.out))) _).trans (((cell_far (p := ⟨gb398, _, none⟩) (by first | exact Nat.ne_of_lt (Nat.lt_of_lt_of_le (by have := World.block_lt_of_cell? _ _ hw396_0; first | rwa [add_block] at this | exact this) GW398.out) | (rw [add_block]; exact Nat.ne_of_lt (Nat.lt_of_lt_of_le (by have := World.block_lt_of_cell? _ _ hw396_0; first | rwa [add_block] at this | exact this) GW398.out)) | (show (Addr.add _ _).block ≠ _; rw [add_block]; exact Nat.ne_of_lt (Nat.lt_of_lt_of_le (by have := World.block_lt_of_cell? _ _ hw396_0; first | rwa [add_block] at this | exact this) GW398.out)) | (dsimp only; exact Nat.ne_of_lt (Nat.lt_of_lt_of_le (by have := World.block_lt_of_cell? _ _ hw396_0; first | rwa [add_block] at this | exact this) GW398.out))) _).trans (hHeld.1)))))), ((cell_far (p := ⟨gb398, _, none⟩) (by first | exact Nat.ne_of_lt (Nat.lt_of_lt_of_le (by have := World.block_lt_of_cell? _ _ hw396_1; first | rwa [add_block] at this | exact this) GW398.out) | (rw [add_block]; exact Nat.ne_of_lt (Nat.lt_of_lt_of_le (by have := World.block_lt_of_cell? _ _ hw396_1; first | rwa [add_block] at this | exact this) GW398.out)) | (show (Addr.add _ _).block ≠ _; rw [add_block]; exact Nat.ne_of_lt (Nat.lt_of_lt_of_le (by have := World.block_lt_of_cell? _ _ hw396_1; first | rwa [add_block] at this | exact this) GW398.out)) | (dsimp only; exact Nat.ne_of_lt (Nat.lt_of_lt_of_le (by have := World.block_lt_of_cell? _ _ hw396_1; first | rwa [add_block] at this | exact this) GW398.out))) _).trans (((cell_far (p := ⟨gb398, _, none⟩) (by first | exact Nat.ne_of_lt (Nat.lt_of_lt_of_le (by have := World.block_lt_of_cell? _ _ hw396_1; first | rwa [add_block] at this | exact this) GW398.out) | (rw [add_block]; exact Nat.ne_of_lt (Nat.lt_of_lt_of_le (by have := World.block_lt_of_cell? _ _ hw396_1; first | rwa [add_block] at this | exact this) GW398.out)) | (show (Addr.add _ _).block ≠ _; rw [add_block]; exact Nat.ne_of_lt (Nat.lt_of_lt_of_le (by have := World.block_lt_of_cell? _ _ hw396_1; first | rwa [add_block] at this | exact this) GW398.out)) | (dsimp only; exact Nat.ne_of_lt (Nat.lt_of_lt_of_le (by have := World.block_lt_of_cell? _ _ hw396_1; first | rwa [add_block] at this | exact this) GW398.out))) _).trans (((cell_far (p := ⟨gb398, _, none⟩) (by first | exact Nat.ne_of_lt (Nat.lt_of_lt_of_le (by have := World.block_lt_of_cell? _ _ hw396_1; first | rwa [add_block] at this | exact this) GW398.out) | (rw [add_block]; exact Nat.ne_of_lt (Nat.lt_of_lt_of_le (by have := World.block_lt_of_cell? _ _ hw396_1; first | rwa [add_block] at this | exact this) GW398.out)) | (show (Addr.add _ _).block ≠ _; rw [add_block]; exact Nat.ne_of_lt (Nat.lt_of_lt_of_le (by have := World.block_lt_of_cell? _ _ hw396_1; first | rwa [add_block] at this | exact this) GW398.out)) | (dsimp only; exact Nat.ne_of_lt (Nat.lt_of_lt_of_le (by have := World.block_lt_of_cell? _ _ hw396_1; first | rwa [add_block] at this | exact this) GW398.out))) _).trans (hHeld.2.1)))))), ((cell_far (p := ⟨gb398, _, none⟩) (by first | exact Nat.ne_of_lt (Nat.lt_of_lt_of_le (by have := World.block_lt_of_cell? _ _ hw396_2; first | rwa [add_block] at this | exact this) GW398.out) | (rw [add_block]; exact Nat.ne_of_lt (Nat.lt_of_lt_of_le (by have := World.block_lt_of_cell? _ _ hw396_2; first | rwa [add_block] at this | exact this) GW398.out)) | (show (Addr.add _ _).block ≠ _; rw [add_block]; exact Nat.ne_of_lt (Nat.lt_of_lt_of_le (by have := World.block_lt_of_cell? _ _ hw396_2; first | rwa [add_block] at this | exact this) GW398.out)) | (dsimp only; exact Nat.ne_of_lt (Nat.lt_of_lt_of_le (by have := World.block_lt_of_cell? _ _ hw396_2; first | rwa [add_block] at this | exact this) GW398.out))) _).trans (((cell_far (p := ⟨gb398, _, none⟩) (by first | exact Nat.ne_of_lt (Nat.lt_of_lt_of_le (by have := World.block_lt_of_cell? _ _ hw396_2; first | rwa [add_block] at this | exact this) GW398.out) | (rw [add_block]; exact Nat.ne_of_lt (Nat.lt_of_lt_of_le (by have := World.block_lt_of_cell? _ _ hw396_2; first | rwa [add_block] at this | exact this) GW398.out)) | (show (Addr.add _ _).block ≠ _; rw [add_block]; exact Nat.ne_of_lt (Nat.lt_of_lt_of_le (by have := World.block_lt_of_cell? _ _ hw396_2; first | rwa [add_block] at this | exact this) GW398.out)) | (dsimp only; exact Nat.ne_of_lt (Nat.lt_of_lt_of_le (by have := World.block_lt_of_cell? _ _ hw396_2; first | rwa [add_block] at this | exact this) GW398.out))) _).trans (((cell_far (p := ⟨gb398, _, none⟩) (by first | exact Nat.ne_of_lt (Nat.lt_of_lt_of_le (by have := World.block_lt_of_cell? _ _ hw396_2; first | rwa [add_block] at this | exact this) GW398.out) | (rw [add_block]; exact Nat.ne_of_lt (Nat.lt_of_lt_of_le (by have := World.block_lt_of_cell? _ _ hw396_2; first | rwa [add_block] at this | exact this) GW398.out)) | (show (Addr.add _ _).block ≠ _; rw [add_block]; exact Nat.ne_of_lt (Nat.lt_of_lt_of_le (by have := World.block_lt_of_cell? _ _ hw396_2; first | rwa [add_block] at this | exact this) GW398.out)) | (dsimp only; exact Nat.ne_of_lt (Nat.lt_of_lt_of_le (by have := World.block_lt_of_cell? _ _ hw396_2; first | rwa [add_block] at this | exact this) GW398.out))) _).trans (hHeld.2.2.1)))))), ((cell_far (p := ⟨gb398, _, none⟩) (by first | exact Nat.ne_of_lt (Nat.lt_of_lt_of_le (by have := World.block_lt_of_cell? _ _ hw397_0; first | rwa [add_block] at this | exact this) GW398.out) | (rw [add_block]; exact Nat.ne_of_lt (Nat.lt_of_lt_of_le (by have := World.block_lt_of_cell? _ _ hw397_0; first | rwa [add_block] at this | exact this) GW398.out)) | (show (Addr.add _ _).block ≠ _; rw [add_block]; exact Nat.ne_of_lt (Nat.lt_of_lt_of_le (by have := World.block_lt_of_cell? _ _ hw397_0; first | rwa [add_block] at this | exact this) GW398.out)) | (dsimp only; exact Nat.ne_of_lt (Nat.lt_of_lt_of_le (by have := World.block_lt_of_cell? _ _ hw397_0; first | rwa [add_block] at this | exact this) GW398.out))) _).trans (((cell_far (p := ⟨gb398, _, none⟩) (by first | exact Nat.ne_of_lt (Nat.lt_of_lt_of_le (by have := World.block_lt_of_cell? _ _ hw397_0; first | rwa [add_block] at this | exact this) GW398.out) | (rw [add_block]; exact Nat.ne_of_lt (Nat.lt_of_lt_of_le (by have := World.block_lt_of_cell? _ _ hw397_0; first | rwa [add_block] at this | exact this) GW398.out)) | (show (Addr.add _ _).block ≠ _; rw [add_block]; exact Nat.ne_of_lt (Nat.lt_of_lt_of_le (by have := World.block_lt_of_cell? _ _ hw397_0; first | rwa [add_block] at this | exact this) GW398.out)) | (dsimp only; exact Nat.ne_of_lt (Nat.lt_of_lt_of_le (by have := World.block_lt_of_cell? _ _ hw397_0; first | rwa [add_block] at this | exact this) GW398.out))) _).trans (((cell_far (p := ⟨gb398, _, none⟩) (by first | exact Nat.ne_of_lt (Nat.lt_of_lt_of_le (by have := World.block_lt_of_cell? _ _ hw397_0; first | rwa [add_block] at this | exact this) GW398.out) | (rw [add_block]; exact Nat.ne_of_lt (Nat.lt_of_lt_of_le (by have := World.block_lt_of_cell? _ _ hw397_0; first | rwa [add_block] at this | exact this) GW398.out)) | (show (Addr.add _ _).block ≠ _; rw [add_block]; exact Nat.ne_of_lt (Nat.lt_of_lt_of_le (by have := World.block_lt_of_cell? _ _ hw397_0; first | rwa [add_block] at this | exact this) GW398.out)) | (dsimp only; exact Nat.ne_of_lt (Nat.lt_of_lt_of_le (by have := World.block_lt_of_cell? _ _ hw397_0; first | rwa [add_block] at this | exact this) GW398.out))) _).trans (hHeld.2.2.2.1)))))), ((cell_far (p := ⟨gb398, _, none⟩) (by first | exact Nat.ne_of_lt (Nat.lt_of_lt_of_le (by have := World.block_lt_of_cell? _ _ hw397_1; first | rwa [add_block] at this | exact this) GW398.out) | (rw [add_block]; exact Nat.ne_of_lt (Nat.lt_of_lt_of_le (by have := World.block_lt_of_cell? _ _ hw397_1; first | rwa [add_block] at this | exact this) GW398.out)) | (show (Addr.add _ _).block ≠ _; rw [add_block]; exact Nat.ne_of_lt (Nat.lt_of_lt_of_le (by have := World.block_lt_of_cell? _ _ hw397_1; first | rwa [add_block] at this | exact this) GW398.out)) | (dsimp only; exact Nat.ne_of_lt (Nat.lt_of_lt_of_le (by have := World.block_lt_of_cell? _ _ hw397_1; first | rwa [add_block] at this | exact this) GW398.out))) _).trans (((cell_far (p := ⟨gb398, _, none⟩) (by first | exact Nat.ne_of_lt (Nat.lt_of_lt_of_le (by have := World.block_lt_of_cell? _ _ hw397_1; first | rwa [add_block] at this | exact this) GW398.out) | (rw [add_block]; exact Nat.ne_of_lt (Nat.lt_of_lt_of_le (by have := World.block_lt_of_cell? _ _ hw397_1; first | rwa [add_block] at this | exact this) GW398.out)) | (show (Addr.add _ _).block ≠ _; rw [add_block]; exact Nat.ne_of_lt (Nat.lt_of_lt_of_le (by have := World.block_lt_of_cell? _ _ hw397_1; first | rwa [add_block] at this | exact this) GW398.out)) | (dsimp only; exact Nat.ne_of_lt (Nat.lt_of_lt_of_le (by have := World.block_lt_of_cell? _ _ hw397_1; first | rwa [add_block] at this | exact this) GW398.out))) _).trans (((cell_far (p := ⟨gb398, _, none⟩) (by first | exact Nat.ne_of_lt (Nat.lt_of_lt_of_le (by have := World.block_lt_of_cell? _ _ hw397_1; first | rwa [add_block] at this | exact this) GW398.out) | (rw [add_block]; exact Nat.ne_of_lt (Nat.lt_of_lt_of_le (by have := World.block_lt_of_cell? _ _ hw397_1; first | rwa [add_block] at this | exact this) GW398.out)) | (show (Addr.add _ _).block ≠ _; rw [add_block]; exact Nat.ne_of_lt (Nat.lt_of_lt_of_le (by have := World.block_lt_of_cell? _ _ hw397_1; first | rwa [add_block] at this | exact this) GW398.out)) | (dsimp only; exact Nat.ne_of_lt (Nat.lt_of_lt_of_le (by have := World.block_lt_of_cell? _ _ hw397_1; first | rwa [add_block] at this | exact this) GW398.out))) _).trans (hHeld.2.2.2.2.1)))))), ((cell_far (p := ⟨gb398, _, none⟩) (by first | exact Nat.ne_of_lt (Nat.lt_of_lt_of_le (by have := World.block_lt_of_cell? _ _ hw397_2; first | rwa [add_block] at this | exact this) GW398.out) | (rw [add_block]; exact Nat.ne_of_lt (Nat.lt_of_lt_of_le (by have := World.block_lt_of_cell? _ _ hw397_2; first | rwa [add_block] at this | exact this) GW398.out)) | (show (Addr.add _ _).block ≠ _; rw [add_block]; exact Nat.ne_of_lt (Nat.lt_of_lt_of_le (by have := World.block_lt_of_cell? _ _ hw397_2; first | rwa [add_block] at this | exact this) GW398.out)) | (dsimp only; exact Nat.ne_of_lt (Nat.lt_of_lt_of_le (by have := World.block_lt_of_cell? _ _ hw397_2; first | rwa [add_block] at this | exact this) GW398.out))) _).trans (((cell_far (p := ⟨gb398, _, none⟩) (by first | exact Nat.ne_of_lt (Nat.lt_of_lt_of_le (by have := World.block_lt_of_cell? _ _ hw397_2; first | rwa [add_block] at this | exact this) GW398.out) | (rw [add_block]; exact Nat.ne_of_lt (Nat.lt_of_lt_of_le (by have := World.block_lt_of_cell? _ _ hw397_2; first | rwa [add_block] at this | exact this) GW398.out)) | (show (Addr.add _ _).block ≠ _; rw [add_block]; exact Nat.ne_of_lt (Nat.lt_of_lt_of_le (by have := World.block_lt_of_cell? _ _ hw397_2; first | rwa [add_block] at this | exact this) GW398.out)) | (dsimp only; exact Nat.ne_of_lt (Nat.lt_of_lt_of_le (by have := World.block_lt_of_cell? _ _ hw397_2; first | rwa [add_block] at this | exact this) GW398.out))) _).trans (((cell_far (p := ⟨gb398, _, none⟩) (by first | exact Nat.ne_of_lt (Nat.lt_of_lt_of_le (by have := World.block_lt_of_cell? _ _ hw397_2; first | rwa [add_block] at this | exact this) GW398.out) | (rw [add_block]; exact Nat.ne_of_lt (Nat.lt_of_lt_of_le (by have := World.block_lt_of_cell? _ _ hw397_2; first | rwa [add_block] at this | exact this) GW398.out)) | (show (Addr.add _ _).block ≠ _; rw [add_block]; exact Nat.ne_of_lt (Nat.lt_of_lt_of_le (by have := World.block_lt_of_cell? _ _ hw397_2; first | rwa [add_block] at this | exact this) GW398.out)) | (dsimp only; exact Nat.ne_of_lt (Nat.lt_of_lt_of_le (by have := World.block_lt_of_cell? _ _ hw397_2; first | rwa [add_block] at this | exact this) GW398.out))) _).trans (hHeld.2.2.2.2.2))))))⟩ (fun hHeld => ?_)
     clear hK K
     refine one_ (i := 11) (N := none) #[true, true, true, true, true, true, true, true, true, true, true, true] rfl rfl (one_of HT_.out (by kernel_rfl)) (by decide) (fun K hK => ?_)
     have hs51 : w47.cell? ⟨gb399, 0, none⟩ = some (.int .i64 0) := (blk_cell BK399.out 0).trans rfl
     have hfs51 := blk_frozen BK399.out 0
     have hns51_0 := NB398_399.out
     have hms51_0 := NB399_398.out
     have hs52 : w47.cell? ⟨gb399, 1, none⟩ = some (.int .i64 0) := (blk_cell BK399.out 1).trans rfl
     have hfs52 := blk_frozen BK399.out 1
     have hns52_0 := NB398_399.out
     have hms52_0 := NB399_398.out
     have hs53 : w47.cell? ⟨gb399, 2, none⟩ = some (.int .i64 0) := (blk_cell BK399.out 2).trans rfl
     have hfs53 := blk_frozen BK399.out 2
     have hns53_0 := NB398_399.out
     have hms53_0 := NB399_398.out
     refine skip_ (w1 := ?_) (by rfl) rfl ?_ ?_
     rotate_left
     ·go_simp
      rfl
     refine hK.out _ _ ⟨((cell_far (p := ⟨gb399, _, none⟩) (by first | exact Nat.ne_of_lt (Nat.lt_of_lt_of_le (by have := World.block_lt_of_cell? _ _ hw396_0; first | rwa [add_block] at this | exact this) GW399.out) | (rw [add_block]; exact Nat.ne_of_lt (Nat.lt_of_lt_of_le (by have := World.block_lt_of_cell? _ _ hw396_0; first | rwa [add_block] at this | exact this) GW399.out)) | (show (Addr.add _ _).block ≠ _; rw [add_block]; exact Nat.ne_of_lt (Nat.lt_of_lt_of_le (by have := World.block_lt_of_cell? _ _ hw396_0; first | rwa [add_block] at this | exact this) GW399.out)) | (dsimp only; exact Nat.ne_of_lt (Nat.lt_of_lt_of_le (by have := World.block_lt_of_cell? _ _ hw396_0; first | rwa [add_block] at this | exact this) GW399.out))) _).trans (((cell_far (p := ⟨gb399, _, none⟩) (by first | exact Nat.ne_of_lt (Nat.lt_of_lt_of_le (by have := World.block_lt_of_cell? _ _ hw396_0; first | rwa [add_block] at this | exact this) GW399.out) | (rw [add_block]; exact Nat.ne_of_lt (Nat.lt_of_lt_of_le (by have := World.block_lt_of_cell? _ _ hw396_0; first | rwa [add_block] at this | exact this) GW399.out)) | (show (Addr.add _ _).block ≠ _; rw [add_block]; exact Nat.ne_of_lt (Nat.lt_of_lt_of_le (by have := World.block_lt_of_cell? _ _ hw396_0; first | rwa [add_block] at this | exact this) GW399.out)) | (dsimp only; exact Nat.ne_of_lt (Nat.lt_of_lt_of_le (by have := World.block_lt_of_cell? _ _ hw396_0; first | rwa [add_block] at this | exact this) GW399.out))) _).trans (((cell_far (p := ⟨gb399, _, none⟩) (by first | exact Nat.ne_of_lt (Nat.lt_of_lt_of_le (by have := World.block_lt_of_cell? _ _ hw396_0; first | rwa [add_block] at this | exact this) GW399.out) | (rw [add_block]; exact Nat.ne_of_lt (Nat.lt_of_lt_of_le (by have := World.block_lt_of_cell? _ _ hw396_0; first | rwa [add_block] at this | exact this) GW399.out)) | (show (Addr.add _ _).block ≠ _; rw [add_block]; exact Nat.ne_of_lt (Nat.lt_of_lt_of_le (by have := World.block_lt_of_cell? _ _ hw396_0; first | rwa [add_block] at this | exact this) GW399.out)) | (dsimp only; exact Nat.ne_of_lt (Nat.lt_of_lt_of_le (by have := World.block_lt_of_cell? _ _ hw396_0; first | rwa [add_block] at this | exact this) GW399.out))) _).trans (hHeld.1)))))), ((cell_far (p := ⟨gb399, _, none⟩) (by first | exact Nat.ne_of_lt (Nat.lt_of_lt_of_le (by have := World.block_lt_of_cell? _ _ hw396_1; first | rwa [add_block] at this | exact this) GW399.out) | (rw [add_block]; exact Nat.ne_of_lt (Nat.lt_of_lt_of_le (by have := World.block_lt_of_cell? _ _ hw396_1; first | rwa [add_block] at this | exact this) GW399.out)) | (show (Addr.add _ _).block ≠ _; rw [add_block]; exact Nat.ne_of_lt (Nat.lt_of_lt_of_le (by have := World.block_lt_of_cell? _ _ hw396_1; first | rwa [add_block] at this | exact this) GW399.out)) | (dsimp only; exact Nat.ne_of_lt (Nat.lt_of_lt_of_le (by have := World.block_lt_of_cell? _ _ hw396_1; first | rwa [add_block] at this | exact this) GW399.out))) _).trans (((cell_far (p := ⟨gb399, _, none⟩) (by first | exact Nat.ne_of_lt (Nat.lt_of_lt_of_le (by have := World.block_lt_of_cell? _ _ hw396_1; first | rwa [add_block] at this | exact this) GW399.out) | (rw [add_block]; exact Nat.ne_of_lt (Nat.lt_of_lt_of_le (by have := World.block_lt_of_cell? _ _ hw396_1; first | rwa [add_block] at this | exact this) GW399.out)) | (show (Addr.add _ _).block ≠ _; rw [add_block]; exact Nat.ne_of_lt (Nat.lt_of_lt_of_le (by have := World.block_lt_of_cell? _ _ hw396_1; first | rwa [add_block] at this | exact this) GW399.out)) | (dsimp only; exact Nat.ne_of_lt (Nat.lt_of_lt_of_le (by have := World.block_lt_of_cell? _ _ hw396_1; first | rwa [add_block] at this | exact this) GW399.out))) _).trans (((cell_far (p := ⟨gb399, _, none⟩) (by first | exact Nat.ne_of_lt (Nat.lt_of_lt_of_le (by have := World.block_lt_of_cell? _ _ hw396_1; first | rwa [add_block] at this | exact this) GW399.out) | (rw [add_block]; exact Nat.ne_of_lt (Nat.lt_of_lt_of_le (by have := World.block_lt_of_cell? _ _ hw396_1; first | rwa [add_block] at this | exact this) GW399.out)) | (show (Addr.add _ _).block ≠ _; rw [add_block]; exact Nat.ne_of_lt (Nat.lt_of_lt_of_le (by have := World.block_lt_of_cell? _ _ hw396_1; first | rwa [add_block] at this | exact this) GW399.out)) | (dsimp only; exact Nat.ne_of_lt (Nat.lt_of_lt_of_le (by have := World.block_lt_of_cell? _ _ hw396_1; first | rwa [add_block] at this | exact this) GW399.out))) _).trans (hHeld.2.1)))))), ((cell_far (p := ⟨gb399, _, none⟩) (by first | exact Nat.ne_of_lt (Nat.lt_of_lt_of_le (by have := World.block_lt_of_cell? _ _ hw396_2; first | rwa [add_block] at this | exact this) GW399.out) | (rw [add_block]; exact Nat.ne_of_lt (Nat.lt_of_lt_of_le (by have := World.block_lt_of_cell? _ _ hw396_2; first | rwa [add_block] at this | exact this) GW399.out)) | (show (Addr.add _ _).block ≠ _; rw [add_block]; exact Nat.ne_of_lt (Nat.lt_of_lt_of_le (by have := World.block_lt_of_cell? _ _ hw396_2; first | rwa [add_block] at this | exact this) GW399.out)) | (dsimp only; exact Nat.ne_of_lt (Nat.lt_of_lt_of_le (by have := World.block_lt_of_cell? _ _ hw396_2; first | rwa [add_block] at this | exact this) GW399.out))) _).trans (((cell_far (p := ⟨gb399, _, none⟩) (by first | exact Nat.ne_of_lt (Nat.lt_of_lt_of_le (by have := World.block_lt_of_cell? _ _ hw396_2; first | rwa [add_block] at this | exact this) GW399.out) | (rw [add_block]; exact Nat.ne_of_lt (Nat.lt_of_lt_of_le (by have := World.block_lt_of_cell? _ _ hw396_2; first | rwa [add_block] at this | exact this) GW399.out)) | (show (Addr.add _ _).block ≠ _; rw [add_block]; exact Nat.ne_of_lt (Nat.lt_of_lt_of_le (by have := World.block_lt_of_cell? _ _ hw396_2; first | rwa [add_block] at this | exact this) GW399.out)) | (dsimp only; exact Nat.ne_of_lt (Nat.lt_of_lt_of_le (by have := World.block_lt_of_cell? _ _ hw396_2; first | rwa [add_block] at this | exact this) GW399.out))) _).trans (((cell_far (p := ⟨gb399, _, none⟩) (by first | exact Nat.ne_of_lt (Nat.lt_of_lt_of_le (by have := World.block_lt_of_cell? _ _ hw396_2; first | rwa [add_block] at this | exact this) GW399.out) | (rw [add_block]; exact Nat.ne_of_lt (Nat.lt_of_lt_of_le (by have := World.block_lt_of_cell? _ _ hw396_2; first | rwa [add_block] at this | exact this) GW399.out)) | (show (Addr.add _ _).block ≠ _; rw [add_block]; exact Nat.ne_of_lt (Nat.lt_of_lt_of_le (by have := World.block_lt_of_cell? _ _ hw396_2; first | rwa [add_block] at this | exact this) GW399.out)) | (dsimp only; exact Nat.ne_of_lt (Nat.lt_of_lt_of_le (by have := World.block_lt_of_cell? _ _ hw396_2; first | rwa [add_block] at this | exact this) GW399.out))) _).trans (hHeld.2.2.1)))))), ((cell_far (p := ⟨gb399, _, none⟩) (by first | exact Nat.ne_of_lt (Nat.lt_of_lt_of_le (by have := World.block_lt_of_cell? _ _ hw397_0; first | rwa [add_block] at this | exact this) GW399.out) | (rw [add_block]; exact Nat.ne_of_lt (Nat.lt_of_lt_of_le (by have := World.block_lt_of_cell? _ _ hw397_0; first | rwa [add_block] at this | exact this) GW399.out)) | (show (Addr.add _ _).block ≠ _; rw [add_block]; exact Nat.ne_of_lt (Nat.lt_of_lt_of_le (by have := World.block_lt_of_cell? _ _ hw397_0; first | rwa [add_block] at this | exact this) GW399.out)) | (dsimp only; exact Nat.ne_of_lt (Nat.lt_of_lt_of_le (by have := World.block_lt_of_cell? _ _ hw397_0; first | rwa [add_block] at this | exact this) GW399.out))) _).trans (((cell_far (p := ⟨gb399, _, none⟩) (by first | exact Nat.ne_of_lt (Nat.lt_of_lt_of_le (by have := World.block_lt_of_cell? _ _ hw397_0; first | rwa [add_block] at this | exact this) GW399.out) | (rw [add_block]; exact Nat.ne_of_lt (Nat.lt_of_lt_of_le (by have := World.block_lt_of_cell? _ _ hw397_0; first | rwa [add_block] at this | exact this) GW399.out)) | (show (Addr.add _ _).block ≠ _; rw [add_block]; exact Nat.ne_of_lt (Nat.lt_of_lt_of_le (by have := World.block_lt_of_cell? _ _ hw397_0; first | rwa [add_block] at this | exact this) GW399.out)) | (dsimp only; exact Nat.ne_of_lt (Nat.lt_of_lt_of_le (by have := World.block_lt_of_cell? _ _ hw397_0; first | rwa [add_block] at this | exact this) GW399.out))) _).trans (((cell_far (p := ⟨gb399, _, none⟩) (by first | exact Nat.ne_of_lt (Nat.lt_of_lt_of_le (by have := World.block_lt_of_cell? _ _ hw397_0; first | rwa [add_block] at this | exact this) GW399.out) | (rw [add_block]; exact Nat.ne_of_lt (Nat.lt_of_lt_of_le (by have := World.block_lt_of_cell? _ _ hw397_0; first | rwa [add_block] at this | exact this) GW399.out)) | (show (Addr.add _ _).block ≠ _; rw [add_block]; exact Nat.ne_of_lt (Nat.lt_of_lt_of_le (by have := World.block_lt_of_cell? _ _ hw397_0; first | rwa [add_block] at this | exact this) GW399.out)) | (dsimp only; exact Nat.ne_of_lt (Nat.lt_of_lt_of_le (by have := World.block_lt_of_cell? _ _ hw397_0; first | rwa [add_block] at this | exact this) GW399.out))) _).trans (hHeld.2.2.2.1)))))), ((cell_far (p := ⟨gb399, _, none⟩) (by first | exact Nat.ne_of_lt (Nat.lt_of_lt_of_le (by have := World.block_lt_of_cell? _ _ hw397_1; first | rwa [add_block] at this | exact this) GW399.out) | (rw [add_block]; exact Nat.ne_of_lt (Nat.lt_of_lt_of_le (by have := World.block_lt_of_cell? _ _ hw397_1; first | rwa [add_block] at this | exact this) GW399.out)) | (show (Addr.add _ _).block ≠ _; rw [add_block]; exact Nat.ne_of_lt (Nat.lt_of_lt_of_le (by have := World.block_lt_of_cell? _ _ hw397_1; first | rwa [add_block] at this | exact this) GW399.out)) | (dsimp only; exact Nat.ne_of_lt (Nat.lt_of_lt_of_le (by have := World.block_lt_of_cell? _ _ hw397_1; first | rwa [add_block] at this | exact this) GW399.out))) _).trans (((cell_far (p := ⟨gb399, _, none⟩) (by first | exact Nat.ne_of_lt (Nat.lt_of_lt_of_le (by have := World.block_lt_of_cell? _ _ hw397_1; first | rwa [add_block] at this | exact this) GW399.out) | (rw [add_block]; exact Nat.ne_of_lt (Nat.lt_of_lt_of_le (by have := World.block_lt_of_cell? _ _ hw397_1; first | rwa [add_block] at this | exact this) GW399.out)) | (show (Addr.add _ _).block ≠ _; rw [add_block]; exact Nat.ne_of_lt (Nat.lt_of_lt_of_le (by have := World.block_lt_of_cell? _ _ hw397_1; first | rwa [add_block] at this | exact this) GW399.out)) | (dsimp only; exact Nat.ne_of_lt (Nat.lt_of_lt_of_le (by have := World.block_lt_of_cell? _ _ hw397_1; first | rwa [add_block] at this | exact this) GW399.out))) _).trans (((cell_far (p := ⟨gb399, _, none⟩) (by first | exact Nat.ne_of_lt (Nat.lt_of_lt_of_le (by have := World.block_lt_of_cell? _ _ hw397_1; first | rwa [add_block] at this | exact this) GW399.out) | (rw [add_block]; exact Nat.ne_of_lt (Nat.lt_of_lt_of_le (by have := World.block_lt_of_cell? _ _ hw397_1; first | rwa [add_block] at this | exact this) GW399.out)) | (show (Addr.add _ _).block ≠ _; rw [add_block]; exact Nat.ne_of_lt (Nat.lt_of_lt_of_le (by have := World.block_lt_of_cell? _ _ hw397_1; first | rwa [add_block] at this | exact this) GW399.out)) | (dsimp only; exact Nat.ne_of_lt (Nat.lt_of_lt_of_le (by have := World.block_lt_of_cell? _ _ hw397_1; first | rwa [add_block] at this | exact this) GW399.out))) _).trans (hHeld.2.2.2.2.1)))))), ((cell_far (p := ⟨gb399, _, none⟩) (by first | exact Nat.ne_of_lt (Nat.lt_of_lt_of_le (by have := World.block_lt_of_cell? _ _ hw397_2; first | rwa [add_block] at this | exact this) GW399.out) | (rw [add_block]; exact Nat.ne_of_lt (Nat.lt_of_lt_of_le (by have := World.block_lt_of_cell? _ _ hw397_2; first | rwa [add_block] at this | exact this) GW399.out)) | (show (Addr.add _ _).block ≠ _; rw [add_block]; exact Nat.ne_of_lt (Nat.lt_of_lt_of_le (by have := World.block_lt_of_cell? _ _ hw397_2; first | rwa [add_block] at this | exact this) GW399.out)) | (dsimp only; exact Nat.ne_of_lt (Nat.lt_of_lt_of_le (by have := World.block_lt_of_cell? _ _ hw397_2; first | rwa [add_block] at this | exact this) GW399.out))) _).trans (((cell_far (p := ⟨gb399, _, none⟩) (by first | exact Nat.ne_of_lt (Nat.lt_of_lt_of_le (by have := World.block_lt_of_cell? _ _ hw397_2; first | rwa [add_block] at this | exact this) GW399.out) | (rw [add_block]; exact Nat.ne_of_lt (Nat.lt_of_lt_of_le (by have := World.block_lt_of_cell? _ _ hw397_2; first | rwa [add_block] at this | exact this) GW399.out)) | (show (Addr.add _ _).block ≠ _; rw [add_block]; exact Nat.ne_of_lt (Nat.lt_of_lt_of_le (by have := World.block_lt_of_cell? _ _ hw397_2; first | rwa [add_block] at this | exact this) GW399.out)) | (dsimp only; exact Nat.ne_of_lt (Nat.lt_of_lt_of_le (by have := World.block_lt_of_cell? _ _ hw397_2; first | rwa [add_block] at this | exact this) GW399.out))) _).trans (((cell_far (p := ⟨gb399, _, none⟩) (by first | exact Nat.ne_of_lt (Nat.lt_of_lt_of_le (by have := World.block_lt_of_cell? _ _ hw397_2; first | rwa [add_block] at this | exact this) GW399.out) | (rw [add_block]; exact Nat.ne_of_lt (Nat.lt_of_lt_of_le (by have := World.block_lt_of_cell? _ _ hw397_2; first | rwa [add_block] at this | exact this) GW399.out)) | (show (Addr.add _ _).block ≠ _; rw [add_block]; exact Nat.ne_of_lt (Nat.lt_of_lt_of_le (by have := World.block_lt_of_cell? _ _ hw397_2; first | rwa [add_block] at this | exact this) GW399.out)) | (dsimp only; exact Nat.ne_of_lt (Nat.lt_of_lt_of_le (by have := World.block_lt_of_cell? _ _ hw397_2; first | rwa [add_block] at this | exact this) GW399.out))) _).trans (hHeld.2.2.2.2.2))))))⟩ (fun hHeld => ?_)
     clear hK K
     refine done_ (done_of HT_.out (by kernel_rfl)) ?_
     go_upto_region 21 with (fail)
     go_cut [101] (fun v101 wc => ∃ (kq : Nat) (x101_42 : Bool), v101 = .bool x101_42 ∧ Aside0 (tickingref06_Subtypes.j5 kq l0 (l0.length : Int) x4_4 x9_4 x10_3 x11_4 x101_42 ((rd_T39 l0 x10_3).f0) ((rd_T39 l0 x10_3).f1) ((rd_T39 l0 x10_3).f2) ((rd_T39 l0 x11_4).f0) ((rd_T39 l0 x11_4).f1) ((rd_T39 l0 x11_4).f2) = some r) ∧ Aside0 (kq ≤ k4) ∧ Aside0 (Kd.R Kd.bool 4 wc w.heap.size (fun _ => True) v389 x4_4) ∧ Aside0 (wc.heap[gb398]? = some (.cells #[.int .i64 ((rd_T39 l0 x10_3).f0), .int .i64 ((rd_T39 l0 x10_3).f1), .int .i64 ((rd_T39 l0 x10_3).f2)] 39 (0, 0))) ∧ Aside0 (wc.heap[gb399]? = some (.cells #[.int .i64 ((rd_T39 l0 x11_4).f0), .int .i64 ((rd_T39 l0 x11_4).f1), .int .i64 ((rd_T39 l0 x11_4).f2)] 39 (0, 0))) ∧ Aside0 (Below w.heap.size w wc))
     case first =>
      have H := HC43.out
      clear HC43
      obtain ⟨ji54, hji54⟩ : ∃ j_ : Int, (wrap64 ((wrap64 ((l0.length : Int) * x10_3)) + x11_4)) = j_ := ⟨_, rfl⟩
      replace H : (if 0 ≤ (ji54) then (if (ji54) < (x4_4.length : Int) then (if (rdOf false x4_4 (ji54) = true) then (if ((rd_T39 l0 x10_3).f0) = 0 then (tickingref06_Subtypes.j5 k4 l0 (l0.length : Int) x4_4 x9_4 x10_3 x11_4 true ((rd_T39 l0 x10_3).f0) ((rd_T39 l0 x10_3).f1) ((rd_T39 l0 x10_3).f2) ((rd_T39 l0 x11_4).f0) ((rd_T39 l0 x11_4).f1) ((rd_T39 l0 x11_4).f2)) else (if ((rd_T39 l0 x11_4).f0) = 1 then (tickingref06_Subtypes.j5 k4 l0 (l0.length : Int) x4_4 x9_4 x10_3 x11_4 true ((rd_T39 l0 x10_3).f0) ((rd_T39 l0 x10_3).f1) ((rd_T39 l0 x10_3).f2) ((rd_T39 l0 x11_4).f0) ((rd_T39 l0 x11_4).f1) ((rd_T39 l0 x11_4).f2)) else (tickingref06_Subtypes.j5 k4 l0 (l0.length : Int) x4_4 x9_4 x10_3 x11_4 (decide (((rd_T39 l0 x10_3).f0) < 4)) ((rd_T39 l0 x10_3).f0) ((rd_T39 l0 x10_3).f1) ((rd_T39 l0 x10_3).f2) ((rd_T39 l0 x11_4).f0) ((rd_T39 l0 x11_4).f1) ((rd_T39 l0 x11_4).f2)))) else (tickingref06_Subtypes.j5 k4 l0 (l0.length : Int) x4_4 x9_4 x10_3 x11_4 true ((rd_T39 l0 x10_3).f0) ((rd_T39 l0 x10_3).f1) ((rd_T39 l0 x10_3).f2) ((rd_T39 l0 x11_4).f0) ((rd_T39 l0 x11_4).f1) ((rd_T39 l0 x11_4).f2))) else (none)) else (none)) = some r := by first | (rw [hji54] at H; exact H) | (simp only [hji54] at H ⊢; exact H)
      have hji54w : (IntKind.i64.wrap ((wrap64 ((l0.length : Int) * x10_3)) + x11_4)) = ji54 := (i64_w _).trans hji54
      by_cases c55 : 0 ≤ (ji54)
      rotate_left
      ·rw [if_neg c55] at H
       exact absurd H (by simp)
      rw [if_pos c55] at H
      have c55b0 : decide (0 ≤ (ji54)) = true := decide_eq_true c55
      clear c55
      (first | rw [c55b0] | (simp only [i64_w, i32_w]; rw [c55b0]) | skip)
      by_cases c56 : (ji54) < (x4_4.length : Int)
      rotate_left
      ·rw [if_neg c56] at H
       exact absurd H (by simp)
      rw [if_pos c56] at H
      have c56b0 : decide ((ji54) < (x4_4.length : Int)) = true := decide_eq_true c56
      clear c56
      obtain ⟨bq57, hbq57⟩ : ∃ b_ : Bool, b_ = (rdOf false x4_4 (ji54)) := ⟨_, rfl⟩
      replace H : (if (bq57 = true) then (if ((rd_T39 l0 x10_3).f0) = 0 then (tickingref06_Subtypes.j5 k4 l0 (l0.length : Int) x4_4 x9_4 x10_3 x11_4 true ((rd_T39 l0 x10_3).f0) ((rd_T39 l0 x10_3).f1) ((rd_T39 l0 x10_3).f2) ((rd_T39 l0 x11_4).f0) ((rd_T39 l0 x11_4).f1) ((rd_T39 l0 x11_4).f2)) else (if ((rd_T39 l0 x11_4).f0) = 1 then (tickingref06_Subtypes.j5 k4 l0 (l0.length : Int) x4_4 x9_4 x10_3 x11_4 true ((rd_T39 l0 x10_3).f0) ((rd_T39 l0 x10_3).f1) ((rd_T39 l0 x10_3).f2) ((rd_T39 l0 x11_4).f0) ((rd_T39 l0 x11_4).f1) ((rd_T39 l0 x11_4).f2)) else (tickingref06_Subtypes.j5 k4 l0 (l0.length : Int) x4_4 x9_4 x10_3 x11_4 (decide (((rd_T39 l0 x10_3).f0) < 4)) ((rd_T39 l0 x10_3).f0) ((rd_T39 l0 x10_3).f1) ((rd_T39 l0 x10_3).f2) ((rd_T39 l0 x11_4).f0) ((rd_T39 l0 x11_4).f1) ((rd_T39 l0 x11_4).f2)))) else (tickingref06_Subtypes.j5 k4 l0 (l0.length : Int) x4_4 x9_4 x10_3 x11_4 true ((rd_T39 l0 x10_3).f0) ((rd_T39 l0 x10_3).f1) ((rd_T39 l0 x10_3).f2) ((rd_T39 l0 x11_4).f0) ((rd_T39 l0 x11_4).f1) ((rd_T39 l0 x11_4).f2))) = some r := by rw [← hbq57] at H; exact H
      have Nbq57 := Aside0.mk hbq57
      clear hbq57
      by_cases c58 : (bq57 = true)
      rotate_left
      ·replace c58 := Bool.eq_false_iff.mpr c58
       subst c58
       have H1 : (tickingref06_Subtypes.j5 k4 l0 (l0.length : Int) x4_4 x9_4 x10_3 x11_4 true ((rd_T39 l0 x10_3).f0) ((rd_T39 l0 x10_3).f1) ((rd_T39 l0 x10_3).f2) ((rd_T39 l0 x11_4).f0) ((rd_T39 l0 x11_4).f1) ((rd_T39 l0 x11_4).f2)) = some r := by rw [if_neg (show ¬ (false = true) by decide)] at H; exact H
       clear H
       have H := H1
       clear H1
       have H' := Aside0.mk H
       clear H
       obtain ⟨Ao72, co72, eo72⟩ := Kd.R_slice HO_4.out
       subst eo72
       have p400 : 0 ≤ ((ji54) : Int) := of_decide_eq_true (by first | (with_reducible assumption) | assumption)
       have q400 : (ji54) < (x4_4.length : Int) := of_decide_eq_true (by first | (with_reducible assumption) | assumption)
       obtain ⟨ad400, e400, hx400_0⟩ := Kd.at_bool (Kd.R_reads' HO_4.out).2.2 (ji54) p400 q400
       (try rw [← Nbq57.out] at hx400_0)
       cases e400
       have hn400_0 : ad400.block ≠ gb398 := Kd.own_blk (Kd.R_ne HO_4.out BK398.out (by decide))
       have hn400_1 : ad400.block ≠ gb398 := Kd.own_blk (Kd.R_ne HO_4.out BK398.out (by decide))
       have hn400_2 : ad400.block ≠ gb398 := Kd.own_blk (Kd.R_ne HO_4.out BK398.out (by decide))
       have hn400_3 : ad400.block ≠ gb399 := Kd.own_blk (Kd.R_ne HO_4.out BK399.out (by decide))
       have hn400_4 : ad400.block ≠ gb399 := Kd.own_blk (Kd.R_ne HO_4.out BK399.out (by decide))
       have hn400_5 : ad400.block ≠ gb399 := Kd.own_blk (Kd.R_ne HO_4.out BK399.out (by decide))
       replace hx400_0 := (cell_far (p := ⟨gb398, 0, none⟩) (by first | (rw [add_block]; exact hn400_0) | (show (Addr.add _ _).block ≠ _; rw [add_block]; exact hn400_0) | exact hn400_0) (.int .i64 ((rd_T39 l0 x10_3).f0))).trans hx400_0
       replace hx400_0 := (cell_far (p := ⟨gb398, 1, none⟩) (by first | (rw [add_block]; exact hn400_1) | (show (Addr.add _ _).block ≠ _; rw [add_block]; exact hn400_1) | exact hn400_1) (.int .i64 ((rd_T39 l0 x10_3).f1))).trans hx400_0
       replace hx400_0 := (cell_far (p := ⟨gb398, 2, none⟩) (by first | (rw [add_block]; exact hn400_2) | (show (Addr.add _ _).block ≠ _; rw [add_block]; exact hn400_2) | exact hn400_2) (.int .i64 ((rd_T39 l0 x10_3).f2))).trans hx400_0
       replace hx400_0 := (cell_far (p := ⟨gb399, 0, none⟩) (by first | (rw [add_block]; exact hn400_3) | (show (Addr.add _ _).block ≠ _; rw [add_block]; exact hn400_3) | exact hn400_3) (.int .i64 ((rd_T39 l0 x11_4).f0))).trans hx400_0
       replace hx400_0 := (cell_far (p := ⟨gb399, 1, none⟩) (by first | (rw [add_block]; exact hn400_4) | (show (Addr.add _ _).block ≠ _; rw [add_block]; exact hn400_4) | exact hn400_4) (.int .i64 ((rd_T39 l0 x11_4).f1))).trans hx400_0
       replace hx400_0 := (cell_far (p := ⟨gb399, 2, none⟩) (by first | (rw [add_block]; exact hn400_5) | (show (Addr.add _ _).block ≠ _; rw [add_block]; exact hn400_5) | exact hn400_5) (.int .i64 ((rd_T39 l0 x11_4).f2))).trans hx400_0
       clear hn400_0
       clear hn400_1
       clear hn400_2
       clear hn400_3
       clear hn400_4
       clear hn400_5
       replace p400 := eq_true p400
       replace q400 := eq_true q400
       go_wp2
       go_meet
       exact ⟨_, (true), (by first | rfl | (simp; done) | (simp [*]; done)), H', ⟨by have := HK1.out; have := HK2.out; have := HK3.out; have := HK4.out; first | omega | exact Nat.le_refl _⟩, ⟨by (with_reducible repeat (first | apply Kd.R_alloc | apply Kd.R_drewN | apply Kd.R_drew)); exact Kd.R_mono (Kd.R_far (p := ⟨gb399, 2, none⟩) (Kd.R_far (p := ⟨gb399, 1, none⟩) (Kd.R_far (p := ⟨gb399, 0, none⟩) (Kd.R_far (p := ⟨gb398, 2, none⟩) (Kd.R_far (p := ⟨gb398, 1, none⟩) (Kd.R_far (p := ⟨gb398, 0, none⟩) (Kd.R_types (Kd.R_types HO_4.out BK398.out (by decide)) BK399.out (by decide)) (fun _ hk => hk.1.2) (.int .i64 ((rd_T39 l0 x10_3).f0))) (fun _ hk => hk.1.2) (.int .i64 ((rd_T39 l0 x10_3).f1))) (fun _ hk => hk.1.2) (.int .i64 ((rd_T39 l0 x10_3).f2))) (fun _ hk => hk.2) (.int .i64 ((rd_T39 l0 x11_4).f0))) (fun _ hk => hk.2) (.int .i64 ((rd_T39 l0 x11_4).f1))) (fun _ hk => hk.2) (.int .i64 ((rd_T39 l0 x11_4).f2))) (fun _ hk => trivial)⟩, ⟨by (with_reducible repeat (first | refine blk_drewN ?_ _ | refine blk_drew ?_ | refine blk_alloc ?_ _)); refine blk_far ?_ NB398_399.out _; (with_reducible repeat (first | refine blk_drewN ?_ _ | refine blk_drew ?_ | refine blk_alloc ?_ _)); refine blk_far ?_ NB398_399.out _; (with_reducible repeat (first | refine blk_drewN ?_ _ | refine blk_drew ?_ | refine blk_alloc ?_ _)); refine blk_far ?_ NB398_399.out _; (with_reducible repeat (first | refine blk_drewN ?_ _ | refine blk_drew ?_ | refine blk_alloc ?_ _)); refine blk_put (cs := #[.int .i64 ((rd_T39 l0 x10_3).f0), .int .i64 ((rd_T39 l0 x10_3).f1), .int .i64 0]) ?_ 2 _ rfl; (with_reducible repeat (first | refine blk_drewN ?_ _ | refine blk_drew ?_ | refine blk_alloc ?_ _)); refine blk_put (cs := #[.int .i64 ((rd_T39 l0 x10_3).f0), .int .i64 0, .int .i64 0]) ?_ 1 _ rfl; (with_reducible repeat (first | refine blk_drewN ?_ _ | refine blk_drew ?_ | refine blk_alloc ?_ _)); refine blk_put (cs := #[.int .i64 0, .int .i64 0, .int .i64 0]) ?_ 0 _ rfl; (with_reducible repeat (first | refine blk_drewN ?_ _ | refine blk_drew ?_ | refine blk_alloc ?_ _)); exact BK398.out⟩, ⟨by (with_reducible repeat (first | refine blk_drewN ?_ _ | refine blk_drew ?_ | refine blk_alloc ?_ _)); refine blk_put (cs := #[.int .i64 ((rd_T39 l0 x11_4).f0), .int .i64 ((rd_T39 l0 x11_4).f1), .int .i64 0]) ?_ 2 _ rfl; (with_reducible repeat (first | refine blk_drewN ?_ _ | refine blk_drew ?_ | refine blk_alloc ?_ _)); refine blk_put (cs := #[.int .i64 ((rd_T39 l0 x11_4).f0), .int .i64 0, .int .i64 0]) ?_ 1 _ rfl; (with_reducible repeat (first | refine blk_drewN ?_ _ | refine blk_drew ?_ | refine blk_alloc ?_ _)); refine blk_put (cs := #[.int .i64 0, .int .i64 0, .int .i64 0]) ?_ 0 _ rfl; (with_reducible repeat (first | refine blk_drewN ?_ _ | refine blk_drew ?_ | refine blk_alloc ?_ _)); refine blk_far ?_ NB399_398.out _; (with_reducible repeat (first | refine blk_drewN ?_ _ | refine blk_drew ?_ | refine blk_alloc ?_ _)); refine blk_far ?_ NB399_398.out _; (with_reducible repeat (first | refine blk_drewN ?_ _ | refine blk_drew ?_ | refine blk_alloc ?_ _)); refine blk_far ?_ NB399_398.out _; (with_reducible repeat (first | refine blk_drewN ?_ _ | refine blk_drew ?_ | refine blk_alloc ?_ _)); exact BK399.out⟩, ⟨by repeat (first | (with_reducible first | exact HB.out | apply below_alloc | apply pw_below_drewN | apply below_drew1 | refine below_set ?_ GE398.out | refine below_set ?_ GE399.out) | exact HB.out)⟩⟩
      subst c58
      have H1 : (if ((rd_T39 l0 x10_3).f0) = 0 then (tickingref06_Subtypes.j5 k4 l0 (l0.length : Int) x4_4 x9_4 x10_3 x11_4 true ((rd_T39 l0 x10_3).f0) ((rd_T39 l0 x10_3).f1) ((rd_T39 l0 x10_3).f2) ((rd_T39 l0 x11_4).f0) ((rd_T39 l0 x11_4).f1) ((rd_T39 l0 x11_4).f2)) else (if ((rd_T39 l0 x11_4).f0) = 1 then (tickingref06_Subtypes.j5 k4 l0 (l0.length : Int) x4_4 x9_4 x10_3 x11_4 true ((rd_T39 l0 x10_3).f0) ((rd_T39 l0 x10_3).f1) ((rd_T39 l0 x10_3).f2) ((rd_T39 l0 x11_4).f0) ((rd_T39 l0 x11_4).f1) ((rd_T39 l0 x11_4).f2)) else (tickingref06_Subtypes.j5 k4 l0 (l0.length : Int) x4_4 x9_4 x10_3 x11_4 (decide (((rd_T39 l0 x10_3).f0) < 4)) ((rd_T39 l0 x10_3).f0) ((rd_T39 l0 x10_3).f1) ((rd_T39 l0 x10_3).f2) ((rd_T39 l0 x11_4).f0) ((rd_T39 l0 x11_4).f1) ((rd_T39 l0 x11_4).f2)))) = some r := by rw [if_pos rfl] at H; exact H
      clear H
      have H := H1
      clear H1
      by_cases c59 : ((rd_T39 l0 x10_3).f0) = 0
      ·rw [if_pos c59] at H
       have c59b0 : (((rd_T39 l0 x10_3).f0) == 0) = true := beq_iff_eq.mpr c59
       have c59b1 : (((rd_T39 l0 x10_3).f0) != 0) = false := bne_eq_false_iff_eq.mpr c59
       clear c59
       have H' := Aside0.mk H
       clear H
       obtain ⟨Ao60, co60, eo60⟩ := Kd.R_slice HO_4.out
       subst eo60
       have p400 : 0 ≤ ((ji54) : Int) := of_decide_eq_true (by first | (with_reducible assumption) | assumption)
       have q400 : (ji54) < (x4_4.length : Int) := of_decide_eq_true (by first | (with_reducible assumption) | assumption)
       obtain ⟨ad400, e400, hx400_0⟩ := Kd.at_bool (Kd.R_reads' HO_4.out).2.2 (ji54) p400 q400
       (try rw [← Nbq57.out] at hx400_0)
       cases e400
       have hn400_0 : ad400.block ≠ gb398 := Kd.own_blk (Kd.R_ne HO_4.out BK398.out (by decide))
       have hn400_1 : ad400.block ≠ gb398 := Kd.own_blk (Kd.R_ne HO_4.out BK398.out (by decide))
       have hn400_2 : ad400.block ≠ gb398 := Kd.own_blk (Kd.R_ne HO_4.out BK398.out (by decide))
       have hn400_3 : ad400.block ≠ gb399 := Kd.own_blk (Kd.R_ne HO_4.out BK399.out (by decide))
       have hn400_4 : ad400.block ≠ gb399 := Kd.own_blk (Kd.R_ne HO_4.out BK399.out (by decide))
       have hn400_5 : ad400.block ≠ gb399 := Kd.own_blk (Kd.R_ne HO_4.out BK399.out (by decide))
       replace hx400_0 := (cell_far (p := ⟨gb398, 0, none⟩) (by first | (rw [add_block]; exact hn400_0) | (show (Addr.add _ _).block ≠ _; rw [add_block]; exact hn400_0) | exact hn400_0) (.int .i64 ((rd_T39 l0 x10_3).f0))).trans hx400_0
       replace hx400_0 := (cell_far (p := ⟨gb398, 1, none⟩) (by first | (rw [add_block]; exact hn400_1) | (show (Addr.add _ _).block ≠ _; rw [add_block]; exact hn400_1) | exact hn400_1) (.int .i64 ((rd_T39 l0 x10_3).f1))).trans hx400_0
       replace hx400_0 := (cell_far (p := ⟨gb398, 2, none⟩) (by first | (rw [add_block]; exact hn400_2) | (show (Addr.add _ _).block ≠ _; rw [add_block]; exact hn400_2) | exact hn400_2) (.int .i64 ((rd_T39 l0 x10_3).f2))).trans hx400_0
       replace hx400_0 := (cell_far (p := ⟨gb399, 0, none⟩) (by first | (rw [add_block]; exact hn400_3) | (show (Addr.add _ _).block ≠ _; rw [add_block]; exact hn400_3) | exact hn400_3) (.int .i64 ((rd_T39 l0 x11_4).f0))).trans hx400_0
       replace hx400_0 := (cell_far (p := ⟨gb399, 1, none⟩) (by first | (rw [add_block]; exact hn400_4) | (show (Addr.add _ _).block ≠ _; rw [add_block]; exact hn400_4) | exact hn400_4) (.int .i64 ((rd_T39 l0 x11_4).f1))).trans hx400_0
       replace hx400_0 := (cell_far (p := ⟨gb399, 2, none⟩) (by first | (rw [add_block]; exact hn400_5) | (show (Addr.add _ _).block ≠ _; rw [add_block]; exact hn400_5) | exact hn400_5) (.int .i64 ((rd_T39 l0 x11_4).f2))).trans hx400_0
       clear hn400_0
       clear hn400_1
       clear hn400_2
       clear hn400_3
       clear hn400_4
       clear hn400_5
       replace p400 := eq_true p400
       replace q400 := eq_true q400
       have hnb61 := NB398_399.out
       have hnc61 := NB399_398.out
       have hcz62_0 : w47.cell? ⟨gb398, 0, none⟩ = some (.int .i64 0) := (blk_cell BK398.out 0).trans rfl
       have hcz62_1 : w47.cell? ⟨gb398, 1, none⟩ = some (.int .i64 0) := (blk_cell BK398.out 1).trans rfl
       have hcz62_2 : w47.cell? ⟨gb398, 2, none⟩ = some (.int .i64 0) := (blk_cell BK398.out 2).trans rfl
       have hfz62_0 := blk_frozen BK398.out 0
       have hfz62_1 := blk_frozen BK398.out 1
       have hfz62_2 := blk_frozen BK398.out 2
       go_wp2
       go_meet
       exact ⟨_, (true), (by first | rfl | (simp; done) | (simp [*]; done)), H', ⟨by have := HK1.out; have := HK2.out; have := HK3.out; have := HK4.out; first | omega | exact Nat.le_refl _⟩, ⟨by (with_reducible repeat (first | apply Kd.R_alloc | apply Kd.R_drewN | apply Kd.R_drew)); exact Kd.R_mono (Kd.R_far (p := ⟨gb399, 2, none⟩) (Kd.R_far (p := ⟨gb399, 1, none⟩) (Kd.R_far (p := ⟨gb399, 0, none⟩) (Kd.R_far (p := ⟨gb398, 2, none⟩) (Kd.R_far (p := ⟨gb398, 1, none⟩) (Kd.R_far (p := ⟨gb398, 0, none⟩) (Kd.R_types (Kd.R_types HO_4.out BK398.out (by decide)) BK399.out (by decide)) (fun _ hk => hk.1.2) (.int .i64 ((rd_T39 l0 x10_3).f0))) (fun _ hk => hk.1.2) (.int .i64 ((rd_T39 l0 x10_3).f1))) (fun _ hk => hk.1.2) (.int .i64 ((rd_T39 l0 x10_3).f2))) (fun _ hk => hk.2) (.int .i64 ((rd_T39 l0 x11_4).f0))) (fun _ hk => hk.2) (.int .i64 ((rd_T39 l0 x11_4).f1))) (fun _ hk => hk.2) (.int .i64 ((rd_T39 l0 x11_4).f2))) (fun _ hk => trivial)⟩, ⟨by (with_reducible repeat (first | refine blk_drewN ?_ _ | refine blk_drew ?_ | refine blk_alloc ?_ _)); refine blk_far ?_ NB398_399.out _; (with_reducible repeat (first | refine blk_drewN ?_ _ | refine blk_drew ?_ | refine blk_alloc ?_ _)); refine blk_far ?_ NB398_399.out _; (with_reducible repeat (first | refine blk_drewN ?_ _ | refine blk_drew ?_ | refine blk_alloc ?_ _)); refine blk_far ?_ NB398_399.out _; (with_reducible repeat (first | refine blk_drewN ?_ _ | refine blk_drew ?_ | refine blk_alloc ?_ _)); refine blk_put (cs := #[.int .i64 ((rd_T39 l0 x10_3).f0), .int .i64 ((rd_T39 l0 x10_3).f1), .int .i64 0]) ?_ 2 _ rfl; (with_reducible repeat (first | refine blk_drewN ?_ _ | refine blk_drew ?_ | refine blk_alloc ?_ _)); refine blk_put (cs := #[.int .i64 ((rd_T39 l0 x10_3).f0), .int .i64 0, .int .i64 0]) ?_ 1 _ rfl; (with_reducible repeat (first | refine blk_drewN ?_ _ | refine blk_drew ?_ | refine blk_alloc ?_ _)); refine blk_put (cs := #[.int .i64 0, .int .i64 0, .int .i64 0]) ?_ 0 _ rfl; (with_reducible repeat (first | refine blk_drewN ?_ _ | refine blk_drew ?_ | refine blk_alloc ?_ _)); exact BK398.out⟩, ⟨by (with_reducible repeat (first | refine blk_drewN ?_ _ | refine blk_drew ?_ | refine blk_alloc ?_ _)); refine blk_put (cs := #[.int .i64 ((rd_T39 l0 x11_4).f0), .int .i64 ((rd_T39 l0 x11_4).f1), .int .i64 0]) ?_ 2 _ rfl; (with_reducible repeat (first | refine blk_drewN ?_ _ | refine blk_drew ?_ | refine blk_alloc ?_ _)); refine blk_put (cs := #[.int .i64 ((rd_T39 l0 x11_4).f0), .int .i64 0, .int .i64 0]) ?_ 1 _ rfl; (with_reducible repeat (first | refine blk_drewN ?_ _ | refine blk_drew ?_ | refine blk_alloc ?_ _)); refine blk_put (cs := #[.int .i64 0, .int .i64 0, .int .i64 0]) ?_ 0 _ rfl; (with_reducible repeat (first | refine blk_drewN ?_ _ | refine blk_drew ?_ | refine blk_alloc ?_ _)); refine blk_far ?_ NB399_398.out _; (with_reducible repeat (first | refine blk_drewN ?_ _ | refine blk_drew ?_ | refine blk_alloc ?_ _)); refine blk_far ?_ NB399_398.out _; (with_reducible repeat (first | refine blk_drewN ?_ _ | refine blk_drew ?_ | refine blk_alloc ?_ _)); refine blk_far ?_ NB399_398.out _; (with_reducible repeat (first | refine blk_drewN ?_ _ | refine blk_drew ?_ | refine blk_alloc ?_ _)); exact BK399.out⟩, ⟨by repeat (first | (with_reducible first | exact HB.out | apply below_alloc | apply pw_below_drewN | apply below_drew1 | refine below_set ?_ GE398.out | refine below_set ?_ GE399.out) | exact HB.out)⟩⟩
      rw [if_neg c59] at H
      have c59b0 : (((rd_T39 l0 x10_3).f0) == 0) = false := beq_eq_false_iff_ne.mpr c59
      have c59b1 : (((rd_T39 l0 x10_3).f0) != 0) = true := bne_iff_ne.mpr c59
      by_cases c63 : ((rd_T39 l0 x11_4).f0) = 1
      ·rw [if_pos c63] at H
       have c63b0 : (((rd_T39 l0 x11_4).f0) == 1) = true := beq_iff_eq.mpr c63
       have c63b1 : (((rd_T39 l0 x11_4).f0) != 1) = false := bne_eq_false_iff_eq.mpr c63
       clear c63
       have H' := Aside0.mk H
       clear H
       obtain ⟨Ao64, co64, eo64⟩ := Kd.R_slice HO_4.out
       subst eo64
       have p400 : 0 ≤ ((ji54) : Int) := of_decide_eq_true (by first | (with_reducible assumption) | assumption)
       have q400 : (ji54) < (x4_4.length : Int) := of_decide_eq_true (by first | (with_reducible assumption) | assumption)
       obtain ⟨ad400, e400, hx400_0⟩ := Kd.at_bool (Kd.R_reads' HO_4.out).2.2 (ji54) p400 q400
       (try rw [← Nbq57.out] at hx400_0)
       cases e400
       have hn400_0 : ad400.block ≠ gb398 := Kd.own_blk (Kd.R_ne HO_4.out BK398.out (by decide))
       have hn400_1 : ad400.block ≠ gb398 := Kd.own_blk (Kd.R_ne HO_4.out BK398.out (by decide))
       have hn400_2 : ad400.block ≠ gb398 := Kd.own_blk (Kd.R_ne HO_4.out BK398.out (by decide))
       have hn400_3 : ad400.block ≠ gb399 := Kd.own_blk (Kd.R_ne HO_4.out BK399.out (by decide))
       have hn400_4 : ad400.block ≠ gb399 := Kd.own_blk (Kd.R_ne HO_4.out BK399.out (by decide))
       have hn400_5 : ad400.block ≠ gb399 := Kd.own_blk (Kd.R_ne HO_4.out BK399.out (by decide))
       replace hx400_0 := (cell_far (p := ⟨gb398, 0, none⟩) (by first | (rw [add_block]; exact hn400_0) | (show (Addr.add _ _).block ≠ _; rw [add_block]; exact hn400_0) | exact hn400_0) (.int .i64 ((rd_T39 l0 x10_3).f0))).trans hx400_0
       replace hx400_0 := (cell_far (p := ⟨gb398, 1, none⟩) (by first | (rw [add_block]; exact hn400_1) | (show (Addr.add _ _).block ≠ _; rw [add_block]; exact hn400_1) | exact hn400_1) (.int .i64 ((rd_T39 l0 x10_3).f1))).trans hx400_0
       replace hx400_0 := (cell_far (p := ⟨gb398, 2, none⟩) (by first | (rw [add_block]; exact hn400_2) | (show (Addr.add _ _).block ≠ _; rw [add_block]; exact hn400_2) | exact hn400_2) (.int .i64 ((rd_T39 l0 x10_3).f2))).trans hx400_0
       replace hx400_0 := (cell_far (p := ⟨gb399, 0, none⟩) (by first | (rw [add_block]; exact hn400_3) | (show (Addr.add _ _).block ≠ _; rw [add_block]; exact hn400_3) | exact hn400_3) (.int .i64 ((rd_T39 l0 x11_4).f0))).trans hx400_0
       replace hx400_0 := (cell_far (p := ⟨gb399, 1, none⟩) (by first | (rw [add_block]; exact hn400_4) | (show (Addr.add _ _).block ≠ _; rw [add_block]; exact hn400_4) | exact hn400_4) (.int .i64 ((rd_T39 l0 x11_4).f1))).trans hx400_0
       replace hx400_0 := (cell_far (p := ⟨gb399, 2, none⟩) (by first | (rw [add_block]; exact hn400_5) | (show (Addr.add _ _).block ≠ _; rw [add_block]; exact hn400_5) | exact hn400_5) (.int .i64 ((rd_T39 l0 x11_4).f2))).trans hx400_0
       clear hn400_0
       clear hn400_1
       clear hn400_2
       clear hn400_3
       clear hn400_4
       clear hn400_5
       replace p400 := eq_true p400
       replace q400 := eq_true q400
       have hnb65 := NB398_399.out
       have hnc65 := NB399_398.out
       have hcz66_0 : w47.cell? ⟨gb398, 0, none⟩ = some (.int .i64 0) := (blk_cell BK398.out 0).trans rfl
       have hcz66_1 : w47.cell? ⟨gb398, 1, none⟩ = some (.int .i64 0) := (blk_cell BK398.out 1).trans rfl
       have hcz66_2 : w47.cell? ⟨gb398, 2, none⟩ = some (.int .i64 0) := (blk_cell BK398.out 2).trans rfl
       have hfz66_0 := blk_frozen BK398.out 0
       have hfz66_1 := blk_frozen BK398.out 1
       have hfz66_2 := blk_frozen BK398.out 2
       have hcz67_0 : w47.cell? ⟨gb399, 0, none⟩ = some (.int .i64 0) := (blk_cell BK399.out 0).trans rfl
       have hcz67_1 : w47.cell? ⟨gb399, 1, none⟩ = some (.int .i64 0) := (blk_cell BK399.out 1).trans rfl
       have hcz67_2 : w47.cell? ⟨gb399, 2, none⟩ = some (.int .i64 0) := (blk_cell BK399.out 2).trans rfl
       have hfz67_0 := blk_frozen BK399.out 0
       have hfz67_1 := blk_frozen BK399.out 1
       have hfz67_2 := blk_frozen BK399.out 2
       go_wp2
       go_meet
       exact ⟨_, (true), (by first | rfl | (simp; done) | (simp [*]; done)), H', ⟨by have := HK1.out; have := HK2.out; have := HK3.out; have := HK4.out; first | omega | exact Nat.le_refl _⟩, ⟨by (with_reducible repeat (first | apply Kd.R_alloc | apply Kd.R_drewN | apply Kd.R_drew)); exact Kd.R_mono (Kd.R_far (p := ⟨gb399, 2, none⟩) (Kd.R_far (p := ⟨gb399, 1, none⟩) (Kd.R_far (p := ⟨gb399, 0, none⟩) (Kd.R_far (p := ⟨gb398, 2, none⟩) (Kd.R_far (p := ⟨gb398, 1, none⟩) (Kd.R_far (p := ⟨gb398, 0, none⟩) (Kd.R_types (Kd.R_types HO_4.out BK398.out (by decide)) BK399.out (by decide)) (fun _ hk => hk.1.2) (.int .i64 ((rd_T39 l0 x10_3).f0))) (fun _ hk => hk.1.2) (.int .i64 ((rd_T39 l0 x10_3).f1))) (fun _ hk => hk.1.2) (.int .i64 ((rd_T39 l0 x10_3).f2))) (fun _ hk => hk.2) (.int .i64 ((rd_T39 l0 x11_4).f0))) (fun _ hk => hk.2) (.int .i64 ((rd_T39 l0 x11_4).f1))) (fun _ hk => hk.2) (.int .i64 ((rd_T39 l0 x11_4).f2))) (fun _ hk => trivial)⟩, ⟨by (with_reducible repeat (first | refine blk_drewN ?_ _ | refine blk_drew ?_ | refine blk_alloc ?_ _)); refine blk_far ?_ NB398_399.out _; (with_reducible repeat (first | refine blk_drewN ?_ _ | refine blk_drew ?_ | refine blk_alloc ?_ _)); refine blk_far ?_ NB398_399.out _; (with_reducible repeat (first | refine blk_drewN ?_ _ | refine blk_drew ?_ | refine blk_alloc ?_ _)); refine blk_far ?_ NB398_399.out _; (with_reducible repeat (first | refine blk_drewN ?_ _ | refine blk_drew ?_ | refine blk_alloc ?_ _)); refine blk_put (cs := #[.int .i64 ((rd_T39 l0 x10_3).f0), .int .i64 ((rd_T39 l0 x10_3).f1), .int .i64 0]) ?_ 2 _ rfl; (with_reducible repeat (first | refine blk_drewN ?_ _ | refine blk_drew ?_ | refine blk_alloc ?_ _)); refine blk_put (cs := #[.int .i64 ((rd_T39 l0 x10_3).f0), .int .i64 0, .int .i64 0]) ?_ 1 _ rfl; (with_reducible repeat (first | refine blk_drewN ?_ _ | refine blk_drew ?_ | refine blk_alloc ?_ _)); refine blk_put (cs := #[.int .i64 0, .int .i64 0, .int .i64 0]) ?_ 0 _ rfl; (with_reducible repeat (first | refine blk_drewN ?_ _ | refine blk_drew ?_ | refine blk_alloc ?_ _)); exact BK398.out⟩, ⟨by (with_reducible repeat (first | refine blk_drewN ?_ _ | refine blk_drew ?_ | refine blk_alloc ?_ _)); refine blk_put (cs := #[.int .i64 ((rd_T39 l0 x11_4).f0), .int .i64 ((rd_T39 l0 x11_4).f1), .int .i64 0]) ?_ 2 _ rfl; (with_reducible repeat (first | refine blk_drewN ?_ _ | refine blk_drew ?_ | refine blk_alloc ?_ _)); refine blk_put (cs := #[.int .i64 ((rd_T39 l0 x11_4).f0), .int .i64 0, .int .i64 0]) ?_ 1 _ rfl; (with_reducible repeat (first | refine blk_drewN ?_ _ | refine blk_drew ?_ | refine blk_alloc ?_ _)); refine blk_put (cs := #[.int .i64 0, .int .i64 0, .int .i64 0]) ?_ 0 _ rfl; (with_reducible repeat (first | refine blk_drewN ?_ _ | refine blk_drew ?_ | refine blk_alloc ?_ _)); refine blk_far ?_ NB399_398.out _; (with_reducible repeat (first | refine blk_drewN ?_ _ | refine blk_drew ?_ | refine blk_alloc ?_ _)); refine blk_far ?_ NB399_398.out _; (with_reducible repeat (first | refine blk_drewN ?_ _ | refine blk_drew ?_ | refine blk_alloc ?_ _)); refine blk_far ?_ NB399_398.out _; (with_reducible repeat (first | refine blk_drewN ?_ _ | refine blk_drew ?_ | refine blk_alloc ?_ _)); exact BK399.out⟩, ⟨by repeat (first | (with_reducible first | exact HB.out | apply below_alloc | apply pw_below_drewN | apply below_drew1 | refine below_set ?_ GE398.out | refine below_set ?_ GE399.out) | exact HB.out)⟩⟩
      rw [if_neg c63] at H
      have c63b0 : (((rd_T39 l0 x11_4).f0) == 1) = false := beq_eq_false_iff_ne.mpr c63
      have c63b1 : (((rd_T39 l0 x11_4).f0) != 1) = true := bne_iff_ne.mpr c63
      have H' := Aside0.mk H
      clear H
      obtain ⟨Ao68, co68, eo68⟩ := Kd.R_slice HO_4.out
      subst eo68
      have p400 : 0 ≤ ((ji54) : Int) := of_decide_eq_true (by first | (with_reducible assumption) | assumption)
      have q400 : (ji54) < (x4_4.length : Int) := of_decide_eq_true (by first | (with_reducible assumption) | assumption)
      obtain ⟨ad400, e400, hx400_0⟩ := Kd.at_bool (Kd.R_reads' HO_4.out).2.2 (ji54) p400 q400
      (try rw [← Nbq57.out] at hx400_0)
      cases e400
      have hn400_0 : ad400.block ≠ gb398 := Kd.own_blk (Kd.R_ne HO_4.out BK398.out (by decide))
      have hn400_1 : ad400.block ≠ gb398 := Kd.own_blk (Kd.R_ne HO_4.out BK398.out (by decide))
      have hn400_2 : ad400.block ≠ gb398 := Kd.own_blk (Kd.R_ne HO_4.out BK398.out (by decide))
      have hn400_3 : ad400.block ≠ gb399 := Kd.own_blk (Kd.R_ne HO_4.out BK399.out (by decide))
      have hn400_4 : ad400.block ≠ gb399 := Kd.own_blk (Kd.R_ne HO_4.out BK399.out (by decide))
      have hn400_5 : ad400.block ≠ gb399 := Kd.own_blk (Kd.R_ne HO_4.out BK399.out (by decide))
      replace hx400_0 := (cell_far (p := ⟨gb398, 0, none⟩) (by first | (rw [add_block]; exact hn400_0) | (show (Addr.add _ _).block ≠ _; rw [add_block]; exact hn400_0) | exact hn400_0) (.int .i64 ((rd_T39 l0 x10_3).f0))).trans hx400_0
      replace hx400_0 := (cell_far (p := ⟨gb398, 1, none⟩) (by first | (rw [add_block]; exact hn400_1) | (show (Addr.add _ _).block ≠ _; rw [add_block]; exact hn400_1) | exact hn400_1) (.int .i64 ((rd_T39 l0 x10_3).f1))).trans hx400_0
      replace hx400_0 := (cell_far (p := ⟨gb398, 2, none⟩) (by first | (rw [add_block]; exact hn400_2) | (show (Addr.add _ _).block ≠ _; rw [add_block]; exact hn400_2) | exact hn400_2) (.int .i64 ((rd_T39 l0 x10_3).f2))).trans hx400_0
      replace hx400_0 := (cell_far (p := ⟨gb399, 0, none⟩) (by first | (rw [add_block]; exact hn400_3) | (show (Addr.add _ _).block ≠ _; rw [add_block]; exact hn400_3) | exact hn400_3) (.int .i64 ((rd_T39 l0 x11_4).f0))).trans hx400_0
      replace hx400_0 := (cell_far (p := ⟨gb399, 1, none⟩) (by first | (rw [add_block]; exact hn400_4) | (show (Addr.add _ _).block ≠ _; rw [add_block]; exact hn400_4) | exact hn400_4) (.int .i64 ((rd_T39 l0 x11_4).f1))).trans hx400_0
      replace hx400_0 := (cell_far (p := ⟨gb399, 2, none⟩) (by first | (rw [add_block]; exact hn400_5) | (show (Addr.add _ _).block ≠ _; rw [add_block]; exact hn400_5) | exact hn400_5) (.int .i64 ((rd_T39 l0 x11_4).f2))).trans hx400_0
      clear hn400_0
      clear hn400_1
      clear hn400_2
      clear hn400_3
      clear hn400_4
      clear hn400_5
      replace p400 := eq_true p400
      replace q400 := eq_true q400
      have hnb69 := NB398_399.out
      have hnc69 := NB399_398.out
      have hcz70_0 : w47.cell? ⟨gb398, 0, none⟩ = some (.int .i64 0) := (blk_cell BK398.out 0).trans rfl
      have hcz70_1 : w47.cell? ⟨gb398, 1, none⟩ = some (.int .i64 0) := (blk_cell BK398.out 1).trans rfl
      have hcz70_2 : w47.cell? ⟨gb398, 2, none⟩ = some (.int .i64 0) := (blk_cell BK398.out 2).trans rfl
      have hfz70_0 := blk_frozen BK398.out 0
      have hfz70_1 := blk_frozen BK398.out 1
      have hfz70_2 := blk_frozen BK398.out 2
      have hcz71_0 : w47.cell? ⟨gb399, 0, none⟩ = some (.int .i64 0) := (blk_cell BK399.out 0).trans rfl
      have hcz71_1 : w47.cell? ⟨gb399, 1, none⟩ = some (.int .i64 0) := (blk_cell BK399.out 1).trans rfl
      have hcz71_2 : w47.cell? ⟨gb399, 2, none⟩ = some (.int .i64 0) := (blk_cell BK399.out 2).trans rfl
      have hfz71_0 := blk_frozen BK399.out 0
      have hfz71_1 := blk_frozen BK399.out 1
      have hfz71_2 := blk_frozen BK399.out 2
      go_wp2
      go_meet
      exact ⟨_, (decide (((rd_T39 l0 x10_3).f0) < 4)), (by first | rfl | (simp; done) | (simp [*]; done)), H', ⟨by have := HK1.out; have := HK2.out; have := HK3.out; have := HK4.out; first | omega | exact Nat.le_refl _⟩, ⟨by (with_reducible repeat (first | apply Kd.R_alloc | apply Kd.R_drewN | apply Kd.R_drew)); exact Kd.R_mono (Kd.R_far (p := ⟨gb399, 2, none⟩) (Kd.R_far (p := ⟨gb399, 1, none⟩) (Kd.R_far (p := ⟨gb399, 0, none⟩) (Kd.R_far (p := ⟨gb398, 2, none⟩) (Kd.R_far (p := ⟨gb398, 1, none⟩) (Kd.R_far (p := ⟨gb398, 0, none⟩) (Kd.R_types (Kd.R_types HO_4.out BK398.out (by decide)) BK399.out (by decide)) (fun _ hk => hk.1.2) (.int .i64 ((rd_T39 l0 x10_3).f0))) (fun _ hk => hk.1.2) (.int .i64 ((rd_T39 l0 x10_3).f1))) (fun _ hk => hk.1.2) (.int .i64 ((rd_T39 l0 x10_3).f2))) (fun _ hk => hk.2) (.int .i64 ((rd_T39 l0 x11_4).f0))) (fun _ hk => hk.2) (.int .i64 ((rd_T39 l0 x11_4).f1))) (fun _ hk => hk.2) (.int .i64 ((rd_T39 l0 x11_4).f2))) (fun _ hk => trivial)⟩, ⟨by (with_reducible repeat (first | refine blk_drewN ?_ _ | refine blk_drew ?_ | refine blk_alloc ?_ _)); refine blk_far ?_ NB398_399.out _; (with_reducible repeat (first | refine blk_drewN ?_ _ | refine blk_drew ?_ | refine blk_alloc ?_ _)); refine blk_far ?_ NB398_399.out _; (with_reducible repeat (first | refine blk_drewN ?_ _ | refine blk_drew ?_ | refine blk_alloc ?_ _)); refine blk_far ?_ NB398_399.out _; (with_reducible repeat (first | refine blk_drewN ?_ _ | refine blk_drew ?_ | refine blk_alloc ?_ _)); refine blk_put (cs := #[.int .i64 ((rd_T39 l0 x10_3).f0), .int .i64 ((rd_T39 l0 x10_3).f1), .int .i64 0]) ?_ 2 _ rfl; (with_reducible repeat (first | refine blk_drewN ?_ _ | refine blk_drew ?_ | refine blk_alloc ?_ _)); refine blk_put (cs := #[.int .i64 ((rd_T39 l0 x10_3).f0), .int .i64 0, .int .i64 0]) ?_ 1 _ rfl; (with_reducible repeat (first | refine blk_drewN ?_ _ | refine blk_drew ?_ | refine blk_alloc ?_ _)); refine blk_put (cs := #[.int .i64 0, .int .i64 0, .int .i64 0]) ?_ 0 _ rfl; (with_reducible repeat (first | refine blk_drewN ?_ _ | refine blk_drew ?_ | refine blk_alloc ?_ _)); exact BK398.out⟩, ⟨by (with_reducible repeat (first | refine blk_drewN ?_ _ | refine blk_drew ?_ | refine blk_alloc ?_ _)); refine blk_put (cs := #[.int .i64 ((rd_T39 l0 x11_4).f0), .int .i64 ((rd_T39 l0 x11_4).f1), .int .i64 0]) ?_ 2 _ rfl; (with_reducible repeat (first | refine blk_drewN ?_ _ | refine blk_drew ?_ | refine blk_alloc ?_ _)); refine blk_put (cs := #[.int .i64 ((rd_T39 l0 x11_4).f0), .int .i64 0, .int .i64 0]) ?_ 1 _ rfl; (with_reducible repeat (first | refine blk_drewN ?_ _ | refine blk_drew ?_ | refine blk_alloc ?_ _)); refine blk_put (cs := #[.int .i64 0, .int .i64 0, .int .i64 0]) ?_ 0 _ rfl; (with_reducible repeat (first | refine blk_drewN ?_ _ | refine blk_drew ?_ | refine blk_alloc ?_ _)); refine blk_far ?_ NB399_398.out _; (with_reducible repeat (first | refine blk_drewN ?_ _ | refine blk_drew ?_ | refine blk_alloc ?_ _)); refine blk_far ?_ NB399_398.out _; (with_reducible repeat (first | refine blk_drewN ?_ _ | refine blk_drew ?_ | refine blk_alloc ?_ _)); refine blk_far ?_ NB399_398.out _; (with_reducible repeat (first | refine blk_drewN ?_ _ | refine blk_drew ?_ | refine blk_alloc ?_ _)); exact BK399.out⟩, ⟨by repeat (first | (with_reducible first | exact HB.out | apply below_alloc | apply pw_below_drewN | apply below_drew1 | refine below_set ?_ GE398.out | refine below_set ?_ GE399.out) | exact HB.out)⟩⟩
     case rest =>
      clear HC43
      try clear c1
      try clear p1
      try clear q1
      try clear hx1
      try clear hf1
      try clear c2
      try clear p2
      try clear q2
      try clear hx2
      try clear hf2
      try clear c3
      try clear p3
      try clear q3
      try clear hx3
      try clear hf3
      try clear c4
      try clear p4
      try clear q4
      try clear hx4
      try clear c5
      try clear q5
      try clear c6
      try clear p6
      try clear c8
      try clear c8b0
      try clear c9
      try clear c9b0
      try clear c10
      try clear c10b0
      try clear c11
      try clear c11b0
      try clear c12
      try clear c12b0
      try clear c13
      try clear c13b0
      try clear c13b1
      try clear c15
      try clear c15b0
      try clear c16
      try clear c16b0
      try clear p17
      try clear q17
      try clear hx17
      try clear hf17
      try clear c21
      try clear c21b0
      try clear c21b1
      try clear c23
      try clear c23b0
      try clear c24
      try clear c24b0
      try clear p25
      try clear q25
      try clear hx25
      try clear hf25
      try clear c30
      try clear c30b0
      try clear c31
      try clear c31b0
      try clear p32
      try clear q32
      try clear hx32
      try clear hf32
      try clear c36
      try clear c37
      try clear c37b0
      try clear c38
      try clear c38b0
      try clear c39
      try clear c39b0
      try clear p39
      try clear q39
      try clear hx39
      try clear c40
      try clear c40b0
      try clear p40
      try clear q40
      try clear hx40
      try clear c41
      try clear c41b0
      try clear c42
      try clear c42b0
      try clear c55
      try clear c55b0
      try clear c56
      try clear c56b0
      try clear q57
      try clear c58
      try clear c59
      try clear c59b0
      try clear c59b1
      try clear c61
      try clear c63
      try clear c63b0
      try clear c63b1
      try clear p64
      try clear c65
      try clear c69
      try clear hcz62_0
      try clear hcz62_1
      try clear hcz62_2
      try clear hcz66_0
      try clear hcz66_1
      try clear hcz66_2
      try clear hcz67_0
      try clear hcz67_1
      try clear hcz67_2
      try clear hcz70_0
      try clear hcz70_1
      try clear hcz70_2
      try clear hcz71_0
      try clear hcz71_1
      try clear hcz71_2
      try clear hfz62_0
      try clear hfz62_1
      try clear hfz62_2
      try clear hfz66_0
      try clear hfz66_1
      try clear hfz66_2
      try clear hfz67_0
      try clear hfz67_1
      try clear hfz67_2
      try clear hfz70_0
      try clear hfz70_1
      try clear hfz70_2
      try clear hfz71_0
      try clear hfz71_1
      try clear hfz71_2
      try clear hx17_0
      try clear hx25_0
      try clear hx32_0
      try clear hx391_0
      try clear hx391_1
      try clear hx391_2
      try clear hx392_0
      try clear hx392_1
      try clear hx392_2
      try clear hx396_0
      try clear hx396_1
      try clear hx396_2
      try clear hx397_0
      try clear hx397_1
      try clear hx397_2
      try clear hx400_0
      try clear p1
      try clear p17
      try clear p2
      try clear p25
      try clear p3
      try clear p32
      try clear p391
      try clear p392
      try clear p396
      try clear p397
      try clear p400
      try clear p6
      try clear q1
      try clear q17
      try clear q2
      try clear q25
      try clear q3
      try clear q32
      try clear q391
      try clear q392
      try clear q396
      try clear q397
      try clear q400
      obtain ⟨kq, x101_42, rfl, HA, HJ42, HO_4, BK398, BK399, HB⟩ := hcut
      cases kq with
      | zero => exact absurd HA.out (by simp [tickingref06_Subtypes.j5])
      | succ kj42 =>
       have H := HA.out
       clear HA
       simp only [tickingref06_Subtypes.j5] at H
       by_cases c73 : x101_42 = true
       ·subst c73
        have H1 : (tickingref06_Subtypes.l4 kj42 l0 (l0.length : Int) x4_4 x9_4 x10_3 (wrap64 (x11_4 + 1))) = some r := by rw [if_pos rfl] at H; exact H
        clear H
        have H := H1
        clear H1
        have H' := Aside0.mk H
        clear H
        go_wp2
        go_roundg kj42
        case measure => have := HK1.out; have := HK2.out; have := HK3.out; have := HK4.out; have := HJ42.out; omega
        exact ⟨(x4_4), (x9_4), (wrap64 (x11_4 + 1)), (by first | rfl | (simp; done) | (simp [*]; done)), (by first | rfl | (simp; done) | (simp [*]; done)), H', ⟨by have := HK1.out; have := HK2.out; have := HK3.out; have := HK4.out; have := HJ42.out; omega⟩, ⟨by (with_reducible repeat (first | apply Kd.R_alloc | apply Kd.R_drewN | apply Kd.R_drew)); exact HO_4.out⟩, ⟨by repeat (first | (with_reducible first | exact HB.out | apply below_alloc | apply pw_below_drewN | apply below_drew1 | refine below_set ?_ GE398.out | refine below_set ?_ GE399.out) | exact HB.out)⟩⟩
       replace c73 := Bool.eq_false_iff.mpr c73
       subst c73
       have H1 : (if 0 ≤ (wrap64 ((wrap64 ((l0.length : Int) * ((rd_T39 l0 x10_3).f1))) + ((rd_T39 l0 x11_4).f1))) then (if (wrap64 ((wrap64 ((l0.length : Int) * ((rd_T39 l0 x10_3).f1))) + ((rd_T39 l0 x11_4).f1))) < (x4_4.length : Int) then (if ((rd_T39 l0 x10_3).f0) = 5 then (if 0 ≤ (wrap64 ((wrap64 ((l0.length : Int) * ((rd_T39 l0 x11_4).f1))) + ((rd_T39 l0 x10_3).f1))) then (if (wrap64 ((wrap64 ((l0.length : Int) * ((rd_T39 l0 x11_4).f1))) + ((rd_T39 l0 x10_3).f1))) < (x4_4.length : Int) then (if (rdOf false x4_4 (wrap64 ((wrap64 ((l0.length : Int) * ((rd_T39 l0 x11_4).f1))) + ((rd_T39 l0 x10_3).f1))) = true) then (if 0 ≤ (wrap64 ((wrap64 ((l0.length : Int) * ((rd_T39 l0 x10_3).f2))) + ((rd_T39 l0 x11_4).f2))) then (if (wrap64 ((wrap64 ((l0.length : Int) * ((rd_T39 l0 x10_3).f2))) + ((rd_T39 l0 x11_4).f2))) < (x4_4.length : Int) then (if (rdOf false x4_4 (wrap64 ((wrap64 ((l0.length : Int) * ((rd_T39 l0 x10_3).f2))) + ((rd_T39 l0 x11_4).f2))) = true) then (tickingref06_Subtypes.l4 kj42 l0 (l0.length : Int) x4_4 x9_4 x10_3 (wrap64 (x11_4 + 1))) else (if 0 ≤ (wrap64 ((wrap64 ((l0.length : Int) * x10_3)) + x11_4)) then (if (wrap64 ((wrap64 ((l0.length : Int) * x10_3)) + x11_4)) < (x4_4.length : Int) then (tickingref06_Subtypes.l4 kj42 l0 (l0.length : Int) (x4_4.set ((wrap64 ((wrap64 ((l0.length : Int) * x10_3)) + x11_4)) : Int).toNat false) true x10_3 (wrap64 (x11_4 + 1))) else (none)) else (none))) else (none)) else (none)) else (if 0 ≤ (wrap64 ((wrap64 ((l0.length : Int) * x10_3)) + x11_4)) then (if (wrap64 ((wrap64 ((l0.length : Int) * x10_3)) + x11_4)) < (x4_4.length : Int) then (tickingref06_Subtypes.l4 kj42 l0 (l0.length : Int) (x4_4.set ((wrap64 ((wrap64 ((l0.length : Int) * x10_3)) + x11_4)) : Int).toNat false) true x10_3 (wrap64 (x11_4 + 1))) else (none)) else (none))) else (none)) else (none)) else (if (rdOf false x4_4 (wrap64 ((wrap64 ((l0.length : Int) * ((rd_T39 l0 x10_3).f1))) + ((rd_T39 l0 x11_4).f1))) = true) then (if 0 ≤ (wrap64 ((wrap64 ((l0.length : Int) * ((rd_T39 l0 x10_3).f2))) + ((rd_T39 l0 x11_4).f2))) then (if (wrap64 ((wrap64 ((l0.length : Int) * ((rd_T39 l0 x10_3).f2))) + ((rd_T39 l0 x11_4).f2))) < (x4_4.length : Int) then (if (rdOf false x4_4 (wrap64 ((wrap64 ((l0.length : Int) * ((rd_T39 l0 x10_3).f2))) + ((rd_T39 l0 x11_4).f2))) = true) then (tickingref06_Subtypes.l4 kj42 l0 (l0.length : Int) x4_4 x9_4 x10_3 (wrap64 (x11_4 + 1))) else (if 0 ≤ (wrap64 ((wrap64 ((l0.length : Int) * x10_3)) + x11_4)) then (if (wrap64 ((wrap64 ((l0.length : Int) * x10_3)) + x11_4)) < (x4_4.length : Int) then (tickingref06_Subtypes.l4 kj42 l0 (l0.length : Int) (x4_4.set ((wrap64 ((wrap64 ((l0.length : Int) * x10_3)) + x11_4)) : Int).toNat false) true x10_3 (wrap64 (x11_4 + 1))) else (none)) else (none))) else (none)) else (none)) else (if 0 ≤ (wrap64 ((wrap64 ((l0.length : Int) * x10_3)) + x11_4)) then (if (wrap64 ((wrap64 ((l0.length : Int) * x10_3)) + x11_4)) < (x4_4.length : Int) then (tickingref06_Subtypes.l4 kj42 l0 (l0.length : Int) (x4_4.set ((wrap64 ((wrap64 ((l0.length : Int) * x10_3)) + x11_4)) : Int).toNat false) true x10_3 (wrap64 (x11_4 + 1))) else (none)) else (none)))) else (none)) else (none)) = some r := by rw [if_neg (show ¬ (false = true) by decide)] at H; exact H
       clear H
       have H := H1
       clear H1
       obtain ⟨ji74, hji74⟩ : ∃ j_ : Int, (wrap64 ((wrap64 ((l0.length : Int) * ((rd_T39 l0 x10_3).f1))) + ((rd_T39 l0 x11_4).f1))) = j_ := ⟨_, rfl⟩
       replace H : (if 0 ≤ (ji74) then (if (ji74) < (x4_4.length : Int) then (if ((rd_T39 l0 x10_3).f0) = 5 then (if 0 ≤ (wrap64 ((wrap64 ((l0.length : Int) * ((rd_T39 l0 x11_4).f1))) + ((rd_T39 l0 x10_3).f1))) then (if (wrap64 ((wrap64 ((l0.length : Int) * ((rd_T39 l0 x11_4).f1))) + ((rd_T39 l0 x10_3).f1))) < (x4_4.length : Int) then (if (rdOf false x4_4 (wrap64 ((wrap64 ((l0.length : Int) * ((rd_T39 l0 x11_4).f1))) + ((rd_T39 l0 x10_3).f1))) = true) then (if 0 ≤ (wrap64 ((wrap64 ((l0.length : Int) * ((rd_T39 l0 x10_3).f2))) + ((rd_T39 l0 x11_4).f2))) then (if (wrap64 ((wrap64 ((l0.length : Int) * ((rd_T39 l0 x10_3).f2))) + ((rd_T39 l0 x11_4).f2))) < (x4_4.length : Int) then (if (rdOf false x4_4 (wrap64 ((wrap64 ((l0.length : Int) * ((rd_T39 l0 x10_3).f2))) + ((rd_T39 l0 x11_4).f2))) = true) then (tickingref06_Subtypes.l4 kj42 l0 (l0.length : Int) x4_4 x9_4 x10_3 (wrap64 (x11_4 + 1))) else (if 0 ≤ (wrap64 ((wrap64 ((l0.length : Int) * x10_3)) + x11_4)) then (if (wrap64 ((wrap64 ((l0.length : Int) * x10_3)) + x11_4)) < (x4_4.length : Int) then (tickingref06_Subtypes.l4 kj42 l0 (l0.length : Int) (x4_4.set ((wrap64 ((wrap64 ((l0.length : Int) * x10_3)) + x11_4)) : Int).toNat false) true x10_3 (wrap64 (x11_4 + 1))) else (none)) else (none))) else (none)) else (none)) else (if 0 ≤ (wrap64 ((wrap64 ((l0.length : Int) * x10_3)) + x11_4)) then (if (wrap64 ((wrap64 ((l0.length : Int) * x10_3)) + x11_4)) < (x4_4.length : Int) then (tickingref06_Subtypes.l4 kj42 l0 (l0.length : Int) (x4_4.set ((wrap64 ((wrap64 ((l0.length : Int) * x10_3)) + x11_4)) : Int).toNat false) true x10_3 (wrap64 (x11_4 + 1))) else (none)) else (none))) else (none)) else (none)) else (if (rdOf false x4_4 (ji74) = true) then (if 0 ≤ (wrap64 ((wrap64 ((l0.length : Int) * ((rd_T39 l0 x10_3).f2))) + ((rd_T39 l0 x11_4).f2))) then (if (wrap64 ((wrap64 ((l0.length : Int) * ((rd_T39 l0 x10_3).f2))) + ((rd_T39 l0 x11_4).f2))) < (x4_4.length : Int) then (if (rdOf false x4_4 (wrap64 ((wrap64 ((l0.length : Int) * ((rd_T39 l0 x10_3).f2))) + ((rd_T39 l0 x11_4).f2))) = true) then (tickingref06_Subtypes.l4 kj42 l0 (l0.length : Int) x4_4 x9_4 x10_3 (wrap64 (x11_4 + 1))) else (if 0 ≤ (wrap64 ((wrap64 ((l0.length : Int) * x10_3)) + x11_4)) then (if (wrap64 ((wrap64 ((l0.length : Int) * x10_3)) + x11_4)) < (x4_4.length : Int) then (tickingref06_Subtypes.l4 kj42 l0 (l0.length : Int) (x4_4.set ((wrap64 ((wrap64 ((l0.length : Int) * x10_3)) + x11_4)) : Int).toNat false) true x10_3 (wrap64 (x11_4 + 1))) else (none)) else (none))) else (none)) else (none)) else (if 0 ≤ (wrap64 ((wrap64 ((l0.length : Int) * x10_3)) + x11_4)) then (if (wrap64 ((wrap64 ((l0.length : Int) * x10_3)) + x11_4)) < (x4_4.length : Int) then (tickingref06_Subtypes.l4 kj42 l0 (l0.length : Int) (x4_4.set ((wrap64 ((wrap64 ((l0.length : Int) * x10_3)) + x11_4)) : Int).toNat false) true x10_3 (wrap64 (x11_4 + 1))) else (none)) else (none)))) else (none)) else (none)) = some r := by first | (rw [hji74] at H; exact H) | (simp only [hji74] at H ⊢; exact H)
       have hji74w : (IntKind.i64.wrap ((wrap64 ((l0.length : Int) * ((rd_T39 l0 x10_3).f1))) + ((rd_T39 l0 x11_4).f1))) = ji74 := (i64_w _).trans hji74
       by_cases c75 : 0 ≤ (ji74)
       rotate_left
       ·rw [if_neg c75] at H
        exact absurd H (by simp)
       rw [if_pos c75] at H
       have c75b0 : decide (0 ≤ (ji74)) = true := decide_eq_true c75
       clear c75
       by_cases c76 : (ji74) < (x4_4.length : Int)
       rotate_left
       ·rw [if_neg c76] at H
        exact absurd H (by simp)
       rw [if_pos c76] at H
       have c76b0 : decide ((ji74) < (x4_4.length : Int)) = true := decide_eq_true c76
       clear c76
       by_cases c77 : ((rd_T39 l0 x10_3).f0) = 5
       rotate_left
       ·rw [if_neg c77] at H
        have c77b0 : (((rd_T39 l0 x10_3).f0) == 5) = false := beq_eq_false_iff_ne.mpr c77
        have c77b1 : (((rd_T39 l0 x10_3).f0) != 5) = true := bne_iff_ne.mpr c77
        obtain ⟨bq112, hbq112⟩ : ∃ b_ : Bool, b_ = (rdOf false x4_4 (ji74)) := ⟨_, rfl⟩
        replace H : (if (bq112 = true) then (if 0 ≤ (wrap64 ((wrap64 ((l0.length : Int) * ((rd_T39 l0 x10_3).f2))) + ((rd_T39 l0 x11_4).f2))) then (if (wrap64 ((wrap64 ((l0.length : Int) * ((rd_T39 l0 x10_3).f2))) + ((rd_T39 l0 x11_4).f2))) < (x4_4.length : Int) then (if (rdOf false x4_4 (wrap64 ((wrap64 ((l0.length : Int) * ((rd_T39 l0 x10_3).f2))) + ((rd_T39 l0 x11_4).f2))) = true) then (tickingref06_Subtypes.l4 kj42 l0 (l0.length : Int) x4_4 x9_4 x10_3 (wrap64 (x11_4 + 1))) else (if 0 ≤ (wrap64 ((wrap64 ((l0.length : Int) * x10_3)) + x11_4)) then (if (wrap64 ((wrap64 ((l0.length : Int) * x10_3)) + x11_4)) < (x4_4.length : Int) then (tickingref06_Subtypes.l4 kj42 l0 (l0.length : Int) (x4_4.set ((wrap64 ((wrap64 ((l0.length : Int) * x10_3)) + x11_4)) : Int).toNat false) true x10_3 (wrap64 (x11_4 + 1))) else (none)) else (none))) else (none)) else (none)) else (if 0 ≤ (wrap64 ((wrap64 ((l0.length : Int) * x10_3)) + x11_4)) then (if (wrap64 ((wrap64 ((l0.length : Int) * x10_3)) + x11_4)) < (x4_4.length : Int) then (tickingref06_Subtypes.l4 kj42 l0 (l0.length : Int) (x4_4.set ((wrap64 ((wrap64 ((l0.length : Int) * x10_3)) + x11_4)) : Int).toNat false) true x10_3 (wrap64 (x11_4 + 1))) else (none)) else (none))) = some r := by rw [← hbq112] at H; exact H
        have Nbq112 := Aside0.mk hbq112
        clear hbq112
        by_cases c113 : (bq112 = true)
        rotate_left
        ·replace c113 := Bool.eq_false_iff.mpr c113
         subst c113
         have H1 : (if 0 ≤ (wrap64 ((wrap64 ((l0.length : Int) * x10_3)) + x11_4)) then (if (wrap64 ((wrap64 ((l0.length : Int) * x10_3)) + x11_4)) < (x4_4.length : Int) then (tickingref06_Subtypes.l4 kj42 l0 (l0.length : Int) (x4_4.set ((wrap64 ((wrap64 ((l0.length : Int) * x10_3)) + x11_4)) : Int).toNat false) true x10_3 (wrap64 (x11_4 + 1))) else (none)) else (none)) = some r := by rw [if_neg (show ¬ (false = true) by decide)] at H; exact H
         clear H
         have H := H1
         clear H1
         obtain ⟨ji133, hji133⟩ : ∃ j_ : Int, (wrap64 ((wrap64 ((l0.length : Int) * x10_3)) + x11_4)) = j_ := ⟨_, rfl⟩
         replace H : (if 0 ≤ (ji133) then (if (ji133) < (x4_4.length : Int) then (tickingref06_Subtypes.l4 kj42 l0 (l0.length : Int) (x4_4.set ((ji133) : Int).toNat false) true x10_3 (wrap64 (x11_4 + 1))) else (none)) else (none)) = some r := by first | (rw [hji133] at H; exact H) | (simp only [hji133] at H ⊢; exact H)
         have hji133w : (IntKind.i64.wrap ((wrap64 ((l0.length : Int) * x10_3)) + x11_4)) = ji133 := (i64_w _).trans hji133
         by_cases c134 : 0 ≤ (ji133)
         rotate_left
         ·rw [if_neg c134] at H
          exact absurd H (by simp)
         rw [if_pos c134] at H
         have c134b0 : decide (0 ≤ (ji133)) = true := decide_eq_true c134
         clear c134
         by_cases c135 : (ji133) < (x4_4.length : Int)
         rotate_left
         ·rw [if_neg c135] at H
          exact absurd H (by simp)
         rw [if_pos c135] at H
         have c135b0 : decide ((ji133) < (x4_4.length : Int)) = true := decide_eq_true c135
         clear c135
         obtain ⟨y408, hy408⟩ : ∃ y_ : List Bool, y_ = (x4_4.set ((ji133) : Int).toNat false) := ⟨_, rfl⟩
         replace H : (tickingref06_Subtypes.l4 kj42 l0 (l0.length : Int) y408 true x10_3 (wrap64 (x11_4 + 1))) = some r := by first | (rw [hy408]; with_reducible exact H) | (have H2_ := (Option.bind_some _ _).symm.trans H; rw [hy408]; with_reducible exact H2_) | (have H2_ := (Option.bind_some _ _).symm.trans H; with_reducible exact H2_) | with_reducible exact H | (rw [hy408]; exact H) | exact H
         have Ny408 := Aside0.mk hy408
         clear hy408
         have H' := Aside0.mk H
         clear H
         have hnb137 := NB398_399.out
         have hnc137 := NB399_398.out
         have hcz138_0 : wc.cell? ⟨gb398, 0, none⟩ = some (.int .i64 ((rd_T39 l0 x10_3).f0)) := (blk_cell BK398.out 0).trans rfl
         have hcz138_1 : wc.cell? ⟨gb398, 1, none⟩ = some (.int .i64 ((rd_T39 l0 x10_3).f1)) := (blk_cell BK398.out 1).trans rfl
         have hcz138_2 : wc.cell? ⟨gb398, 2, none⟩ = some (.int .i64 ((rd_T39 l0 x10_3).f2)) := (blk_cell BK398.out 2).trans rfl
         have hfz138_0 := blk_frozen BK398.out 0
         have hfz138_1 := blk_frozen BK398.out 1
         have hfz138_2 := blk_frozen BK398.out 2
         have hcz139_0 : wc.cell? ⟨gb399, 0, none⟩ = some (.int .i64 ((rd_T39 l0 x11_4).f0)) := (blk_cell BK399.out 0).trans rfl
         have hcz139_1 : wc.cell? ⟨gb399, 1, none⟩ = some (.int .i64 ((rd_T39 l0 x11_4).f1)) := (blk_cell BK399.out 1).trans rfl
         have hcz139_2 : wc.cell? ⟨gb399, 2, none⟩ = some (.int .i64 ((rd_T39 l0 x11_4).f2)) := (blk_cell BK399.out 2).trans rfl
         have hfz139_0 := blk_frozen BK399.out 0
         have hfz139_1 := blk_frozen BK399.out 1
         have hfz139_2 := blk_frozen BK399.out 2
         obtain ⟨Ao140, co140, eo140⟩ := Kd.R_slice HO_4.out
         subst eo140
         have p401 : 0 ≤ ((ji74) : Int) := of_decide_eq_true (by first | (with_reducible assumption) | assumption)
         have q401 : (ji74) < (x4_4.length : Int) := of_decide_eq_true (by first | (with_reducible assumption) | assumption)
         obtain ⟨ad401, e401, hx401_0⟩ := Kd.at_bool (Kd.R_reads' HO_4.out).2.2 (ji74) p401 q401
         (try rw [← Nbq112.out] at hx401_0)
         cases e401
         replace p401 := eq_true p401
         replace q401 := eq_true q401
         have p136 : 0 ≤ ((ji133) : Int) := of_decide_eq_true (by first | (with_reducible assumption) | assumption)
         have q136 : ((ji133) : Int) < ((x4_4.length : Int) : Int) := of_decide_eq_true (by first | (with_reducible assumption) | assumption)
         obtain ⟨go136, co136, eo136, gb136, gl136, cl136, HG136⟩ := Kd.R_form HO_4.out (by omega)
         (first | cases eo136 | (injection eo136 with ea_ en_ ec_; (first | subst ea_ | (injection ea_ with ea_; subst ea_)); subst ec_; clear en_))
         have GB136 := Aside0.mk gb136
         have GG136 := Aside0.mk HG136
         clear gb136 gl136 HG136
         (first | simp only [add_plain] at hx401_0 | skip)
         obtain ⟨hx136_0, hf136_0⟩ := Kd.R_celln false HO_4.out ((ji133) : Int) p136 q136
         replace p136 := eq_true p136
         replace q136 := eq_true q136
         have HP141 := Kd.R_putg HO_4.out ((ji133) : Int) false
         go_wp2_with (first | ((with_reducible refine gate_store (t := 4) (p := 146) rfl ?_); refine store_event (t := 4) (p := 146) (v := ?vo_w142) (w1 := (wc.setCell ⟨go136, ((ji133) : Int).toNat, none⟩ (.bool false))) ?hg ?ho ?hn ?hr ?_; (case ho => rfl); (case hg => rfl); (case hn => rfl); (case hr => first | (go_simp; done) | (go_simp; rfl)); intro w142 hw; have hg : wc.grownBy w142 (some go136) := (by rw [hw]; exact HP141.2); have hp_ : Kd.R Kd.bool 4 w142 w.heap.size (fun _ => True) (.slice (some ⟨go136, 0, none⟩) x4_4.length co140) y408 := (by rw [hw, Ny408.out]; exact HP141.1); clear HP141; have n0_ := Aside0.mk (hp_); have n1_ := Aside0.mk (blk_grown (g := gb398) (o := .cells #[.int .i64 ((rd_T39 l0 x10_3).f0), .int .i64 ((rd_T39 l0 x10_3).f1), .int .i64 ((rd_T39 l0 x10_3).f2)] 39 (0, 0)) (by (with_reducible repeat (first | refine blk_drewN ?_ _ | refine blk_drew ?_ | refine blk_alloc ?_ _)); exact BK398.out) hg (Kd.R_ne HO_4.out BK398.out (by decide))); have n2_ := Aside0.mk (blk_grown (g := gb399) (o := .cells #[.int .i64 ((rd_T39 l0 x11_4).f0), .int .i64 ((rd_T39 l0 x11_4).f1), .int .i64 ((rd_T39 l0 x11_4).f2)] 39 (0, 0)) (by (with_reducible repeat (first | refine blk_drewN ?_ _ | refine blk_drew ?_ | refine blk_alloc ?_ _)); exact BK399.out) hg (Kd.R_ne HO_4.out BK399.out (by decide))); have n3_ := Aside0.mk ((by rw [hw]; exact below_set (HB.out) GB136.out : Below w.heap.size w w142)); clear HO_4; clear BK398; clear BK399; clear HB; have HO_4 := n0_; have BK398 := n1_; have BK399 := n2_; have HB := n3_; clear n0_ n1_ n2_ n3_; clear hg hw hp_))
         go_roundg kj42
         case measure => have := HK1.out; have := HK2.out; have := HK3.out; have := HK4.out; have := HJ42.out; omega
         exact ⟨(y408), (true), (wrap64 (x11_4 + 1)), (by first | rfl | (simp; done) | (simp [*]; done)), (by first | rfl | (simp; done) | (simp [*]; done)), H', ⟨by have := HK1.out; have := HK2.out; have := HK3.out; have := HK4.out; have := HJ42.out; omega⟩, ⟨by (with_reducible repeat (first | apply Kd.R_alloc | apply Kd.R_drewN | apply Kd.R_drew)); exact HO_4.out⟩, ⟨by repeat (first | (with_reducible first | exact HB.out | apply below_alloc | apply pw_below_drewN | apply below_drew1 | refine below_set ?_ GE398.out | refine below_set ?_ GE399.out) | exact HB.out)⟩⟩
        subst c113
        have H1 : (if 0 ≤ (wrap64 ((wrap64 ((l0.length : Int) * ((rd_T39 l0 x10_3).f2))) + ((rd_T39 l0 x11_4).f2))) then (if (wrap64 ((wrap64 ((l0.length : Int) * ((rd_T39 l0 x10_3).f2))) + ((rd_T39 l0 x11_4).f2))) < (x4_4.length : Int) then (if (rdOf false x4_4 (wrap64 ((wrap64 ((l0.length : Int) * ((rd_T39 l0 x10_3).f2))) + ((rd_T39 l0 x11_4).f2))) = true) then (tickingref06_Subtypes.l4 kj42 l0 (l0.length : Int) x4_4 x9_4 x10_3 (wrap64 (x11_4 + 1))) else (if 0 ≤ (wrap64 ((wrap64 ((l0.length : Int) * x10_3)) + x11_4)) then (if (wrap64 ((wrap64 ((l0.length : Int) * x10_3)) + x11_4)) < (x4_4.length : Int) then (tickingref06_Subtypes.l4 kj42 l0 (l0.length : Int) (x4_4.set ((wrap64 ((wrap64 ((l0.length : Int) * x10_3)) + x11_4)) : Int).toNat false) true x10_3 (wrap64 (x11_4 + 1))) else (none)) else (none))) else (none)) else (none)) = some r := by rw [if_pos rfl] at H; exact H
        clear H
        have H := H1
        clear H1
        obtain ⟨ji114, hji114⟩ : ∃ j_ : Int, (wrap64 ((wrap64 ((l0.length : Int) * ((rd_T39 l0 x10_3).f2))) + ((rd_T39 l0 x11_4).f2))) = j_ := ⟨_, rfl⟩
        replace H : (if 0 ≤ (ji114) then (if (ji114) < (x4_4.length : Int) then (if (rdOf false x4_4 (ji114) = true) then (tickingref06_Subtypes.l4 kj42 l0 (l0.length : Int) x4_4 x9_4 x10_3 (wrap64 (x11_4 + 1))) else (if 0 ≤ (wrap64 ((wrap64 ((l0.length : Int) * x10_3)) + x11_4)) then (if (wrap64 ((wrap64 ((l0.length : Int) * x10_3)) + x11_4)) < (x4_4.length : Int) then (tickingref06_Subtypes.l4 kj42 l0 (l0.length : Int) (x4_4.set ((wrap64 ((wrap64 ((l0.length : Int) * x10_3)) + x11_4)) : Int).toNat false) true x10_3 (wrap64 (x11_4 + 1))) else (none)) else (none))) else (none)) else (none)) = some r := by first | (rw [hji114] at H; exact H) | (simp only [hji114] at H ⊢; exact H)
        have hji114w : (IntKind.i64.wrap ((wrap64 ((l0.length : Int) * ((rd_T39 l0 x10_3).f2))) + ((rd_T39 l0 x11_4).f2))) = ji114 := (i64_w _).trans hji114
        by_cases c115 : 0 ≤ (ji114)
        rotate_left
        ·rw [if_neg c115] at H
         exact absurd H (by simp)
        rw [if_pos c115] at H
        have c115b0 : decide (0 ≤ (ji114)) = true := decide_eq_true c115
        clear c115
        by_cases c116 : (ji114) < (x4_4.length : Int)
        rotate_left
        ·rw [if_neg c116] at H
         exact absurd H (by simp)
        rw [if_pos c116] at H
        have c116b0 : decide ((ji114) < (x4_4.length : Int)) = true := decide_eq_true c116
        clear c116
        obtain ⟨bq117, hbq117⟩ : ∃ b_ : Bool, b_ = (rdOf false x4_4 (ji114)) := ⟨_, rfl⟩
        replace H : (if (bq117 = true) then (tickingref06_Subtypes.l4 kj42 l0 (l0.length : Int) x4_4 x9_4 x10_3 (wrap64 (x11_4 + 1))) else (if 0 ≤ (wrap64 ((wrap64 ((l0.length : Int) * x10_3)) + x11_4)) then (if (wrap64 ((wrap64 ((l0.length : Int) * x10_3)) + x11_4)) < (x4_4.length : Int) then (tickingref06_Subtypes.l4 kj42 l0 (l0.length : Int) (x4_4.set ((wrap64 ((wrap64 ((l0.length : Int) * x10_3)) + x11_4)) : Int).toNat false) true x10_3 (wrap64 (x11_4 + 1))) else (none)) else (none))) = some r := by rw [← hbq117] at H; exact H
        have Nbq117 := Aside0.mk hbq117
        clear hbq117
        by_cases c118 : (bq117 = true)
        ·subst c118
         have H1 : (tickingref06_Subtypes.l4 kj42 l0 (l0.length : Int) x4_4 x9_4 x10_3 (wrap64 (x11_4 + 1))) = some r := by rw [if_pos rfl] at H; exact H
         clear H
         have H := H1
         clear H1
         have H' := Aside0.mk H
         clear H
         have hnb119 := NB398_399.out
         have hnc119 := NB399_398.out
         have hcz120_0 : wc.cell? ⟨gb398, 0, none⟩ = some (.int .i64 ((rd_T39 l0 x10_3).f0)) := (blk_cell BK398.out 0).trans rfl
         have hcz120_1 : wc.cell? ⟨gb398, 1, none⟩ = some (.int .i64 ((rd_T39 l0 x10_3).f1)) := (blk_cell BK398.out 1).trans rfl
         have hcz120_2 : wc.cell? ⟨gb398, 2, none⟩ = some (.int .i64 ((rd_T39 l0 x10_3).f2)) := (blk_cell BK398.out 2).trans rfl
         have hfz120_0 := blk_frozen BK398.out 0
         have hfz120_1 := blk_frozen BK398.out 1
         have hfz120_2 := blk_frozen BK398.out 2
         have hcz121_0 : wc.cell? ⟨gb399, 0, none⟩ = some (.int .i64 ((rd_T39 l0 x11_4).f0)) := (blk_cell BK399.out 0).trans rfl
         have hcz121_1 : wc.cell? ⟨gb399, 1, none⟩ = some (.int .i64 ((rd_T39 l0 x11_4).f1)) := (blk_cell BK399.out 1).trans rfl
         have hcz121_2 : wc.cell? ⟨gb399, 2, none⟩ = some (.int .i64 ((rd_T39 l0 x11_4).f2)) := (blk_cell BK399.out 2).trans rfl
         have hfz121_0 := blk_frozen BK399.out 0
         have hfz121_1 := blk_frozen BK399.out 1
         have hfz121_2 := blk_frozen BK399.out 2
         obtain ⟨Ao122, co122, eo122⟩ := Kd.R_slice HO_4.out
         subst eo122
         have p401 : 0 ≤ ((ji74) : Int) := of_decide_eq_true (by first | (with_reducible assumption) | assumption)
         have q401 : (ji74) < (x4_4.length : Int) := of_decide_eq_true (by first | (with_reducible assumption) | assumption)
         obtain ⟨ad401, e401, hx401_0⟩ := Kd.at_bool (Kd.R_reads' HO_4.out).2.2 (ji74) p401 q401
         (try rw [← Nbq112.out] at hx401_0)
         (try rw [← Nbq117.out] at hx401_0)
         cases e401
         replace p401 := eq_true p401
         replace q401 := eq_true q401
         have p406 : 0 ≤ ((ji114) : Int) := of_decide_eq_true (by first | (with_reducible assumption) | assumption)
         have q406 : (ji114) < (x4_4.length : Int) := of_decide_eq_true (by first | (with_reducible assumption) | assumption)
         obtain ⟨ad406, e406, hx406_0⟩ := Kd.at_bool (Kd.R_reads' HO_4.out).2.2 (ji114) p406 q406
         (try rw [← Nbq112.out] at hx406_0)
         (try rw [← Nbq117.out] at hx406_0)
         obtain rfl : ad401 = ad406 := (by injection e406)
         replace p406 := eq_true p406
         replace q406 := eq_true q406
         go_wp2
         go_roundg kj42
         case measure => have := HK1.out; have := HK2.out; have := HK3.out; have := HK4.out; have := HJ42.out; omega
         exact ⟨(x4_4), (x9_4), (wrap64 (x11_4 + 1)), (by first | rfl | (simp; done) | (simp [*]; done)), (by first | rfl | (simp; done) | (simp [*]; done)), H', ⟨by have := HK1.out; have := HK2.out; have := HK3.out; have := HK4.out; have := HJ42.out; omega⟩, ⟨by (with_reducible repeat (first | apply Kd.R_alloc | apply Kd.R_drewN | apply Kd.R_drew)); exact HO_4.out⟩, ⟨by repeat (first | (with_reducible first | exact HB.out | apply below_alloc | apply pw_below_drewN | apply below_drew1 | refine below_set ?_ GE398.out | refine below_set ?_ GE399.out) | exact HB.out)⟩⟩
        replace c118 := Bool.eq_false_iff.mpr c118
        subst c118
        have H1 : (if 0 ≤ (wrap64 ((wrap64 ((l0.length : Int) * x10_3)) + x11_4)) then (if (wrap64 ((wrap64 ((l0.length : Int) * x10_3)) + x11_4)) < (x4_4.length : Int) then (tickingref06_Subtypes.l4 kj42 l0 (l0.length : Int) (x4_4.set ((wrap64 ((wrap64 ((l0.length : Int) * x10_3)) + x11_4)) : Int).toNat false) true x10_3 (wrap64 (x11_4 + 1))) else (none)) else (none)) = some r := by rw [if_neg (show ¬ (false = true) by decide)] at H; exact H
        clear H
        have H := H1
        clear H1
        obtain ⟨ji123, hji123⟩ : ∃ j_ : Int, (wrap64 ((wrap64 ((l0.length : Int) * x10_3)) + x11_4)) = j_ := ⟨_, rfl⟩
        replace H : (if 0 ≤ (ji123) then (if (ji123) < (x4_4.length : Int) then (tickingref06_Subtypes.l4 kj42 l0 (l0.length : Int) (x4_4.set ((ji123) : Int).toNat false) true x10_3 (wrap64 (x11_4 + 1))) else (none)) else (none)) = some r := by first | (rw [hji123] at H; exact H) | (simp only [hji123] at H ⊢; exact H)
        have hji123w : (IntKind.i64.wrap ((wrap64 ((l0.length : Int) * x10_3)) + x11_4)) = ji123 := (i64_w _).trans hji123
        by_cases c124 : 0 ≤ (ji123)
        rotate_left
        ·rw [if_neg c124] at H
         exact absurd H (by simp)
        rw [if_pos c124] at H
        have c124b0 : decide (0 ≤ (ji123)) = true := decide_eq_true c124
        clear c124
        by_cases c125 : (ji123) < (x4_4.length : Int)
        rotate_left
        ·rw [if_neg c125] at H
         exact absurd H (by simp)
        rw [if_pos c125] at H
        have c125b0 : decide ((ji123) < (x4_4.length : Int)) = true := decide_eq_true c125
        clear c125
        obtain ⟨y407, hy407⟩ : ∃ y_ : List Bool, y_ = (x4_4.set ((ji123) : Int).toNat false) := ⟨_, rfl⟩
        replace H : (tickingref06_Subtypes.l4 kj42 l0 (l0.length : Int) y407 true x10_3 (wrap64 (x11_4 + 1))) = some r := by first | (rw [hy407]; with_reducible exact H) | (have H2_ := (Option.bind_some _ _).symm.trans H; rw [hy407]; with_reducible exact H2_) | (have H2_ := (Option.bind_some _ _).symm.trans H; with_reducible exact H2_) | with_reducible exact H | (rw [hy407]; exact H) | exact H
        have Ny407 := Aside0.mk hy407
        clear hy407
        have H' := Aside0.mk H
        clear H
        have hnb127 := NB398_399.out
        have hnc127 := NB399_398.out
        have hcz128_0 : wc.cell? ⟨gb398, 0, none⟩ = some (.int .i64 ((rd_T39 l0 x10_3).f0)) := (blk_cell BK398.out 0).trans rfl
        have hcz128_1 : wc.cell? ⟨gb398, 1, none⟩ = some (.int .i64 ((rd_T39 l0 x10_3).f1)) := (blk_cell BK398.out 1).trans rfl
        have hcz128_2 : wc.cell? ⟨gb398, 2, none⟩ = some (.int .i64 ((rd_T39 l0 x10_3).f2)) := (blk_cell BK398.out 2).trans rfl
        have hfz128_0 := blk_frozen BK398.out 0
        have hfz128_1 := blk_frozen BK398.out 1
        have hfz128_2 := blk_frozen BK398.out 2
        have hcz129_0 : wc.cell? ⟨gb399, 0, none⟩ = some (.int .i64 ((rd_T39 l0 x11_4).f0)) := (blk_cell BK399.out 0).trans rfl
        have hcz129_1 : wc.cell? ⟨gb399, 1, none⟩ = some (.int .i64 ((rd_T39 l0 x11_4).f1)) := (blk_cell BK399.out 1).trans rfl
        have hcz129_2 : wc.cell? ⟨gb399, 2, none⟩ = some (.int .i64 ((rd_T39 l0 x11_4).f2)) := (blk_cell BK399.out 2).trans rfl
        have hfz129_0 := blk_frozen BK399.out 0
        have hfz129_1 := blk_frozen BK399.out 1
        have hfz129_2 := blk_frozen BK399.out 2
        obtain ⟨Ao130, co130, eo130⟩ := Kd.R_slice HO_4.out
        subst eo130
        have p401 : 0 ≤ ((ji74) : Int) := of_decide_eq_true (by first | (with_reducible assumption) | assumption)
        have q401 : (ji74) < (x4_4.length : Int) := of_decide_eq_true (by first | (with_reducible assumption) | assumption)
        obtain ⟨ad401, e401, hx401_0⟩ := Kd.at_bool (Kd.R_reads' HO_4.out).2.2 (ji74) p401 q401
        (try rw [← Nbq112.out] at hx401_0)
        (try rw [← Nbq117.out] at hx401_0)
        cases e401
        replace p401 := eq_true p401
        replace q401 := eq_true q401
        have p406 : 0 ≤ ((ji114) : Int) := of_decide_eq_true (by first | (with_reducible assumption) | assumption)
        have q406 : (ji114) < (x4_4.length : Int) := of_decide_eq_true (by first | (with_reducible assumption) | assumption)
        obtain ⟨ad406, e406, hx406_0⟩ := Kd.at_bool (Kd.R_reads' HO_4.out).2.2 (ji114) p406 q406
        (try rw [← Nbq112.out] at hx406_0)
        (try rw [← Nbq117.out] at hx406_0)
        obtain rfl : ad401 = ad406 := (by injection e406)
        replace p406 := eq_true p406
        replace q406 := eq_true q406
        have p126 : 0 ≤ ((ji123) : Int) := of_decide_eq_true (by first | (with_reducible assumption) | assumption)
        have q126 : ((ji123) : Int) < ((x4_4.length : Int) : Int) := of_decide_eq_true (by first | (with_reducible assumption) | assumption)
        obtain ⟨go126, co126, eo126, gb126, gl126, cl126, HG126⟩ := Kd.R_form HO_4.out (by omega)
        (first | cases eo126 | (injection eo126 with ea_ en_ ec_; (first | subst ea_ | (injection ea_ with ea_; subst ea_)); subst ec_; clear en_))
        have GB126 := Aside0.mk gb126
        have GG126 := Aside0.mk HG126
        clear gb126 gl126 HG126
        (first | simp only [add_plain] at hx401_0 | skip)
        (first | simp only [add_plain] at hx406_0 | skip)
        obtain ⟨hx126_0, hf126_0⟩ := Kd.R_celln false HO_4.out ((ji123) : Int) p126 q126
        replace p126 := eq_true p126
        replace q126 := eq_true q126
        have HP131 := Kd.R_putg HO_4.out ((ji123) : Int) false
        go_wp2_with (first | ((with_reducible refine gate_store (t := 4) (p := 146) rfl ?_); refine store_event (t := 4) (p := 146) (v := ?vo_w132) (w1 := (wc.setCell ⟨go126, ((ji123) : Int).toNat, none⟩ (.bool false))) ?hg ?ho ?hn ?hr ?_; (case ho => rfl); (case hg => rfl); (case hn => rfl); (case hr => first | (go_simp; done) | (go_simp; rfl)); intro w132 hw; have hg : wc.grownBy w132 (some go126) := (by rw [hw]; exact HP131.2); have hp_ : Kd.R Kd.bool 4 w132 w.heap.size (fun _ => True) (.slice (some ⟨go126, 0, none⟩) x4_4.length co130) y407 := (by rw [hw, Ny407.out]; exact HP131.1); clear HP131; have n0_ := Aside0.mk (hp_); have n1_ := Aside0.mk (blk_grown (g := gb398) (o := .cells #[.int .i64 ((rd_T39 l0 x10_3).f0), .int .i64 ((rd_T39 l0 x10_3).f1), .int .i64 ((rd_T39 l0 x10_3).f2)] 39 (0, 0)) (by (with_reducible repeat (first | refine blk_drewN ?_ _ | refine blk_drew ?_ | refine blk_alloc ?_ _)); exact BK398.out) hg (Kd.R_ne HO_4.out BK398.out (by decide))); have n2_ := Aside0.mk (blk_grown (g := gb399) (o := .cells #[.int .i64 ((rd_T39 l0 x11_4).f0), .int .i64 ((rd_T39 l0 x11_4).f1), .int .i64 ((rd_T39 l0 x11_4).f2)] 39 (0, 0)) (by (with_reducible repeat (first | refine blk_drewN ?_ _ | refine blk_drew ?_ | refine blk_alloc ?_ _)); exact BK399.out) hg (Kd.R_ne HO_4.out BK399.out (by decide))); have n3_ := Aside0.mk ((by rw [hw]; exact below_set (HB.out) GB126.out : Below w.heap.size w w132)); clear HO_4; clear BK398; clear BK399; clear HB; have HO_4 := n0_; have BK398 := n1_; have BK399 := n2_; have HB := n3_; clear n0_ n1_ n2_ n3_; clear hg hw hp_))
        go_roundg kj42
        case measure => have := HK1.out; have := HK2.out; have := HK3.out; have := HK4.out; have := HJ42.out; omega
        exact ⟨(y407), (true), (wrap64 (x11_4 + 1)), (by first | rfl | (simp; done) | (simp [*]; done)), (by first | rfl | (simp; done) | (simp [*]; done)), H', ⟨by have := HK1.out; have := HK2.out; have := HK3.out; have := HK4.out; have := HJ42.out; omega⟩, ⟨by (with_reducible repeat (first | apply Kd.R_alloc | apply Kd.R_drewN | apply Kd.R_drew)); exact HO_4.out⟩, ⟨by repeat (first | (with_reducible first | exact HB.out | apply below_alloc | apply pw_below_drewN | apply below_drew1 | refine below_set ?_ GE398.out | refine below_set ?_ GE399.out) | exact HB.out)⟩⟩
       rw [if_pos c77] at H
       have c77b0 : (((rd_T39 l0 x10_3).f0) == 5) = true := beq_iff_eq.mpr c77
       have c77b1 : (((rd_T39 l0 x10_3).f0) != 5) = false := bne_eq_false_iff_eq.mpr c77
       clear c77
       obtain ⟨ji78, hji78⟩ : ∃ j_ : Int, (wrap64 ((wrap64 ((l0.length : Int) * ((rd_T39 l0 x11_4).f1))) + ((rd_T39 l0 x10_3).f1))) = j_ := ⟨_, rfl⟩
       replace H : (if 0 ≤ (ji78) then (if (ji78) < (x4_4.length : Int) then (if (rdOf false x4_4 (ji78) = true) then (if 0 ≤ (wrap64 ((wrap64 ((l0.length : Int) * ((rd_T39 l0 x10_3).f2))) + ((rd_T39 l0 x11_4).f2))) then (if (wrap64 ((wrap64 ((l0.length : Int) * ((rd_T39 l0 x10_3).f2))) + ((rd_T39 l0 x11_4).f2))) < (x4_4.length : Int) then (if (rdOf false x4_4 (wrap64 ((wrap64 ((l0.length : Int) * ((rd_T39 l0 x10_3).f2))) + ((rd_T39 l0 x11_4).f2))) = true) then (tickingref06_Subtypes.l4 kj42 l0 (l0.length : Int) x4_4 x9_4 x10_3 (wrap64 (x11_4 + 1))) else (if 0 ≤ (wrap64 ((wrap64 ((l0.length : Int) * x10_3)) + x11_4)) then (if (wrap64 ((wrap64 ((l0.length : Int) * x10_3)) + x11_4)) < (x4_4.length : Int) then (tickingref06_Subtypes.l4 kj42 l0 (l0.length : Int) (x4_4.set ((wrap64 ((wrap64 ((l0.length : Int) * x10_3)) + x11_4)) : Int).toNat false) true x10_3 (wrap64 (x11_4 + 1))) else (none)) else (none))) else (none)) else (none)) else (if 0 ≤ (wrap64 ((wrap64 ((l0.length : Int) * x10_3)) + x11_4)) then (if (wrap64 ((wrap64 ((l0.length : Int) * x10_3)) + x11_4)) < (x4_4.length : Int) then (tickingref06_Subtypes.l4 kj42 l0 (l0.length : Int) (x4_4.set ((wrap64 ((wrap64 ((l0.length : Int) * x10_3)) + x11_4)) : Int).toNat false) true x10_3 (wrap64 (x11_4 + 1))) else (none)) else (none))) else (none)) else (none)) = some r := by first | (rw [hji78] at H; exact H) | (simp only [hji78] at H ⊢; exact H)
       have hji78w : (IntKind.i64.wrap ((wrap64 ((l0.length : Int) * ((rd_T39 l0 x11_4).f1))) + ((rd_T39 l0 x10_3).f1))) = ji78 := (i64_w _).trans hji78
       by_cases c79 : 0 ≤ (ji78)
       rotate_left
       ·rw [if_neg c79] at H
        exact absurd H (by simp)
       rw [if_pos c79] at H
       have c79b0 : decide (0 ≤ (ji78)) = true := decide_eq_true c79
       clear c79
       by_cases c80 : (ji78) < (x4_4.length : Int)
       rotate_left
       ·rw [if_neg c80] at H
        exact absurd H (by simp)
       rw [if_pos c80] at H
       have c80b0 : decide ((ji78) < (x4_4.length : Int)) = true := decide_eq_true c80
       clear c80
       obtain ⟨bq81, hbq81⟩ : ∃ b_ : Bool, b_ = (rdOf false x4_4 (ji78)) := ⟨_, rfl⟩
       replace H : (if (bq81 = true) then (if 0 ≤ (wrap64 ((wrap64 ((l0.length : Int) * ((rd_T39 l0 x10_3).f2))) + ((rd_T39 l0 x11_4).f2))) then (if (wrap64 ((wrap64 ((l0.length : Int) * ((rd_T39 l0 x10_3).f2))) + ((rd_T39 l0 x11_4).f2))) < (x4_4.length : Int) then (if (rdOf false x4_4 (wrap64 ((wrap64 ((l0.length : Int) * ((rd_T39 l0 x10_3).f2))) + ((rd_T39 l0 x11_4).f2))) = true) then (tickingref06_Subtypes.l4 kj42 l0 (l0.length : Int) x4_4 x9_4 x10_3 (wrap64 (x11_4 + 1))) else (if 0 ≤ (wrap64 ((wrap64 ((l0.length : Int) * x10_3)) + x11_4)) then (if (wrap64 ((wrap64 ((l0.length : Int) * x10_3)) + x11_4)) < (x4_4.length : Int) then (tickingref06_Subtypes.l4 kj42 l0 (l0.length : Int) (x4_4.set ((wrap64 ((wrap64 ((l0.length : Int) * x10_3)) + x11_4)) : Int).toNat false) true x10_3 (wrap64 (x11_4 + 1))) else (none)) else (none))) else (none)) else (none)) else (if 0 ≤ (wrap64 ((wrap64 ((l0.length : Int) * x10_3)) + x11_4)) then (if (wrap64 ((wrap64 ((l0.length : Int) * x10_3)) + x11_4)) < (x4_4.length : Int) then (tickingref06_Subtypes.l4 kj42 l0 (l0.length : Int) (x4_4.set ((wrap64 ((wrap64 ((l0.length : Int) * x10_3)) + x11_4)) : Int).toNat false) true x10_3 (wrap64 (x11_4 + 1))) else (none)) else (none))) = some r := by rw [← hbq81] at H; exact H
       have Nbq81 := Aside0.mk hbq81
       clear hbq81
       by_cases c82 : (bq81 = true)
       rotate_left
       ·replace c82 := Bool.eq_false_iff.mpr c82
        subst c82
        have H1 : (if 0 ≤ (wrap64 ((wrap64 ((l0.length : Int) * x10_3)) + x11_4)) then (if (wrap64 ((wrap64 ((l0.length : Int) * x10_3)) + x11_4)) < (x4_4.length : Int) then (tickingref06_Subtypes.l4 kj42 l0 (l0.length : Int) (x4_4.set ((wrap64 ((wrap64 ((l0.length : Int) * x10_3)) + x11_4)) : Int).toNat false) true x10_3 (wrap64 (x11_4 + 1))) else (none)) else (none)) = some r := by rw [if_neg (show ¬ (false = true) by decide)] at H; exact H
        clear H
        have H := H1
        clear H1
        obtain ⟨ji102, hji102⟩ : ∃ j_ : Int, (wrap64 ((wrap64 ((l0.length : Int) * x10_3)) + x11_4)) = j_ := ⟨_, rfl⟩
        replace H : (if 0 ≤ (ji102) then (if (ji102) < (x4_4.length : Int) then (tickingref06_Subtypes.l4 kj42 l0 (l0.length : Int) (x4_4.set ((ji102) : Int).toNat false) true x10_3 (wrap64 (x11_4 + 1))) else (none)) else (none)) = some r := by first | (rw [hji102] at H; exact H) | (simp only [hji102] at H ⊢; exact H)
        have hji102w : (IntKind.i64.wrap ((wrap64 ((l0.length : Int) * x10_3)) + x11_4)) = ji102 := (i64_w _).trans hji102
        by_cases c103 : 0 ≤ (ji102)
        rotate_left
        ·rw [if_neg c103] at H
         exact absurd H (by simp)
        rw [if_pos c103] at H
        have c103b0 : decide (0 ≤ (ji102)) = true := decide_eq_true c103
        clear c103
        by_cases c104 : (ji102) < (x4_4.length : Int)
        rotate_left
        ·rw [if_neg c104] at H
         exact absurd H (by simp)
        rw [if_pos c104] at H
        have c104b0 : decide ((ji102) < (x4_4.length : Int)) = true := decide_eq_true c104
        clear c104
        obtain ⟨y405, hy405⟩ : ∃ y_ : List Bool, y_ = (x4_4.set ((ji102) : Int).toNat false) := ⟨_, rfl⟩
        replace H : (tickingref06_Subtypes.l4 kj42 l0 (l0.length : Int) y405 true x10_3 (wrap64 (x11_4 + 1))) = some r := by first | (rw [hy405]; with_reducible exact H) | (have H2_ := (Option.bind_some _ _).symm.trans H; rw [hy405]; with_reducible exact H2_) | (have H2_ := (Option.bind_some _ _).symm.trans H; with_reducible exact H2_) | with_reducible exact H | (rw [hy405]; exact H) | exact H
        have Ny405 := Aside0.mk hy405
        clear hy405
        have H' := Aside0.mk H
        clear H
        have hnb106 := NB398_399.out
        have hnc106 := NB399_398.out
        have hcz107_0 : wc.cell? ⟨gb398, 0, none⟩ = some (.int .i64 ((rd_T39 l0 x10_3).f0)) := (blk_cell BK398.out 0).trans rfl
        have hcz107_1 : wc.cell? ⟨gb398, 1, none⟩ = some (.int .i64 ((rd_T39 l0 x10_3).f1)) := (blk_cell BK398.out 1).trans rfl
        have hcz107_2 : wc.cell? ⟨gb398, 2, none⟩ = some (.int .i64 ((rd_T39 l0 x10_3).f2)) := (blk_cell BK398.out 2).trans rfl
        have hfz107_0 := blk_frozen BK398.out 0
        have hfz107_1 := blk_frozen BK398.out 1
        have hfz107_2 := blk_frozen BK398.out 2
        have hcz108_0 : wc.cell? ⟨gb399, 0, none⟩ = some (.int .i64 ((rd_T39 l0 x11_4).f0)) := (blk_cell BK399.out 0).trans rfl
        have hcz108_1 : wc.cell? ⟨gb399, 1, none⟩ = some (.int .i64 ((rd_T39 l0 x11_4).f1)) := (blk_cell BK399.out 1).trans rfl
        have hcz108_2 : wc.cell? ⟨gb399, 2, none⟩ = some (.int .i64 ((rd_T39 l0 x11_4).f2)) := (blk_cell BK399.out 2).trans rfl
        have hfz108_0 := blk_frozen BK399.out 0
        have hfz108_1 := blk_frozen BK399.out 1
        have hfz108_2 := blk_frozen BK399.out 2
        obtain ⟨Ao109, co109, eo109⟩ := Kd.R_slice HO_4.out
        subst eo109
        have p401 : 0 ≤ ((ji74) : Int) := of_decide_eq_true (by first | (with_reducible assumption) | assumption)
        have q401 : (ji74) < (x4_4.length : Int) := of_decide_eq_true (by first | (with_reducible assumption) | assumption)
        obtain ⟨ad401, e401, hx401_0⟩ := Kd.at_bool (Kd.R_reads' HO_4.out).2.2 (ji74) p401 q401
        (try rw [← Nbq81.out] at hx401_0)
        cases e401
        replace p401 := eq_true p401
        replace q401 := eq_true q401
        have p402 : 0 ≤ ((ji78) : Int) := of_decide_eq_true (by first | (with_reducible assumption) | assumption)
        have q402 : (ji78) < (x4_4.length : Int) := of_decide_eq_true (by first | (with_reducible assumption) | assumption)
        obtain ⟨ad402, e402, hx402_0⟩ := Kd.at_bool (Kd.R_reads' HO_4.out).2.2 (ji78) p402 q402
        (try rw [← Nbq81.out] at hx402_0)
        obtain rfl : ad401 = ad402 := (by injection e402)
        replace p402 := eq_true p402
        replace q402 := eq_true q402
        have p105 : 0 ≤ ((ji102) : Int) := of_decide_eq_true (by first | (with_reducible assumption) | assumption)
        have q105 : ((ji102) : Int) < ((x4_4.length : Int) : Int) := of_decide_eq_true (by first | (with_reducible assumption) | assumption)
        obtain ⟨go105, co105, eo105, gb105, gl105, cl105, HG105⟩ := Kd.R_form HO_4.out (by omega)
        (first | cases eo105 | (injection eo105 with ea_ en_ ec_; (first | subst ea_ | (injection ea_ with ea_; subst ea_)); subst ec_; clear en_))
        have GB105 := Aside0.mk gb105
        have GG105 := Aside0.mk HG105
        clear gb105 gl105 HG105
        (first | simp only [add_plain] at hx401_0 | skip)
        (first | simp only [add_plain] at hx402_0 | skip)
        obtain ⟨hx105_0, hf105_0⟩ := Kd.R_celln false HO_4.out ((ji102) : Int) p105 q105
        replace p105 := eq_true p105
        replace q105 := eq_true q105
        have HP110 := Kd.R_putg HO_4.out ((ji102) : Int) false
        go_wp2_with (first | ((with_reducible refine gate_store (t := 4) (p := 146) rfl ?_); refine store_event (t := 4) (p := 146) (v := ?vo_w111) (w1 := (wc.setCell ⟨go105, ((ji102) : Int).toNat, none⟩ (.bool false))) ?hg ?ho ?hn ?hr ?_; (case ho => rfl); (case hg => rfl); (case hn => rfl); (case hr => first | (go_simp; done) | (go_simp; rfl)); intro w111 hw; have hg : wc.grownBy w111 (some go105) := (by rw [hw]; exact HP110.2); have hp_ : Kd.R Kd.bool 4 w111 w.heap.size (fun _ => True) (.slice (some ⟨go105, 0, none⟩) x4_4.length co109) y405 := (by rw [hw, Ny405.out]; exact HP110.1); clear HP110; have n0_ := Aside0.mk (hp_); have n1_ := Aside0.mk (blk_grown (g := gb398) (o := .cells #[.int .i64 ((rd_T39 l0 x10_3).f0), .int .i64 ((rd_T39 l0 x10_3).f1), .int .i64 ((rd_T39 l0 x10_3).f2)] 39 (0, 0)) (by (with_reducible repeat (first | refine blk_drewN ?_ _ | refine blk_drew ?_ | refine blk_alloc ?_ _)); exact BK398.out) hg (Kd.R_ne HO_4.out BK398.out (by decide))); have n2_ := Aside0.mk (blk_grown (g := gb399) (o := .cells #[.int .i64 ((rd_T39 l0 x11_4).f0), .int .i64 ((rd_T39 l0 x11_4).f1), .int .i64 ((rd_T39 l0 x11_4).f2)] 39 (0, 0)) (by (with_reducible repeat (first | refine blk_drewN ?_ _ | refine blk_drew ?_ | refine blk_alloc ?_ _)); exact BK399.out) hg (Kd.R_ne HO_4.out BK399.out (by decide))); have n3_ := Aside0.mk ((by rw [hw]; exact below_set (HB.out) GB105.out : Below w.heap.size w w111)); clear HO_4; clear BK398; clear BK399; clear HB; have HO_4 := n0_; have BK398 := n1_; have BK399 := n2_; have HB := n3_; clear n0_ n1_ n2_ n3_; clear hg hw hp_))
        go_roundg kj42
        case measure => have := HK1.out; have := HK2.out; have := HK3.out; have := HK4.out; have := HJ42.out; omega
        exact ⟨(y405), (true), (wrap64 (x11_4 + 1)), (by first | rfl | (simp; done) | (simp [*]; done)), (by first | rfl | (simp; done) | (simp [*]; done)), H', ⟨by have := HK1.out; have := HK2.out; have := HK3.out; have := HK4.out; have := HJ42.out; omega⟩, ⟨by (with_reducible repeat (first | apply Kd.R_alloc | apply Kd.R_drewN | apply Kd.R_drew)); exact HO_4.out⟩, ⟨by repeat (first | (with_reducible first | exact HB.out | apply below_alloc | apply pw_below_drewN | apply below_drew1 | refine below_set ?_ GE398.out | refine below_set ?_ GE399.out) | exact HB.out)⟩⟩
       subst c82
       have H1 : (if 0 ≤ (wrap64 ((wrap64 ((l0.length : Int) * ((rd_T39 l0 x10_3).f2))) + ((rd_T39 l0 x11_4).f2))) then (if (wrap64 ((wrap64 ((l0.length : Int) * ((rd_T39 l0 x10_3).f2))) + ((rd_T39 l0 x11_4).f2))) < (x4_4.length : Int) then (if (rdOf false x4_4 (wrap64 ((wrap64 ((l0.length : Int) * ((rd_T39 l0 x10_3).f2))) + ((rd_T39 l0 x11_4).f2))) = true) then (tickingref06_Subtypes.l4 kj42 l0 (l0.length : Int) x4_4 x9_4 x10_3 (wrap64 (x11_4 + 1))) else (if 0 ≤ (wrap64 ((wrap64 ((l0.length : Int) * x10_3)) + x11_4)) then (if (wrap64 ((wrap64 ((l0.length : Int) * x10_3)) + x11_4)) < (x4_4.length : Int) then (tickingref06_Subtypes.l4 kj42 l0 (l0.length : Int) (x4_4.set ((wrap64 ((wrap64 ((l0.length : Int) * x10_3)) + x11_4)) : Int).toNat false) true x10_3 (wrap64 (x11_4 + 1))) else (none)) else (none))) else (none)) else (none)) = some r := by rw [if_pos rfl] at H; exact H
       clear H
       have H := H1
       clear H1
       obtain ⟨ji83, hji83⟩ : ∃ j_ : Int, (wrap64 ((wrap64 ((l0.length : Int) * ((rd_T39 l0 x10_3).f2))) + ((rd_T39 l0 x11_4).f2))) = j_ := ⟨_, rfl⟩
       replace H : (if 0 ≤ (ji83) then (if (ji83) < (x4_4.length : Int) then (if (rdOf false x4_4 (ji83) = true) then (tickingref06_Subtypes.l4 kj42 l0 (l0.length : Int) x4_4 x9_4 x10_3 (wrap64 (x11_4 + 1))) else (if 0 ≤ (wrap64 ((wrap64 ((l0.length : Int) * x10_3)) + x11_4)) then (if (wrap64 ((wrap64 ((l0.length : Int) * x10_3)) + x11_4)) < (x4_4.length : Int) then (tickingref06_Subtypes.l4 kj42 l0 (l0.length : Int) (x4_4.set ((wrap64 ((wrap64 ((l0.length : Int) * x10_3)) + x11_4)) : Int).toNat false) true x10_3 (wrap64 (x11_4 + 1))) else (none)) else (none))) else (none)) else (none)) = some r := by first | (rw [hji83] at H; exact H) | (simp only [hji83] at H ⊢; exact H)
       have hji83w : (IntKind.i64.wrap ((wrap64 ((l0.length : Int) * ((rd_T39 l0 x10_3).f2))) + ((rd_T39 l0 x11_4).f2))) = ji83 := (i64_w _).trans hji83
       by_cases c84 : 0 ≤ (ji83)
       rotate_left
       ·rw [if_neg c84] at H
        exact absurd H (by simp)
       rw [if_pos c84] at H
       have c84b0 : decide (0 ≤ (ji83)) = true := decide_eq_true c84
       clear c84
       by_cases c85 : (ji83) < (x4_4.length : Int)
       rotate_left
       ·rw [if_neg c85] at H
        exact absurd H (by simp)
       rw [if_pos c85] at H
       have c85b0 : decide ((ji83) < (x4_4.length : Int)) = true := decide_eq_true c85
       clear c85
       obtain ⟨bq86, hbq86⟩ : ∃ b_ : Bool, b_ = (rdOf false x4_4 (ji83)) := ⟨_, rfl⟩
       replace H : (if (bq86 = true) then (tickingref06_Subtypes.l4 kj42 l0 (l0.length : Int) x4_4 x9_4 x10_3 (wrap64 (x11_4 + 1))) else (if 0 ≤ (wrap64 ((wrap64 ((l0.length : Int) * x10_3)) + x11_4)) then (if (wrap64 ((wrap64 ((l0.length : Int) * x10_3)) + x11_4)) < (x4_4.length : Int) then (tickingref06_Subtypes.l4 kj42 l0 (l0.length : Int) (x4_4.set ((wrap64 ((wrap64 ((l0.length : Int) * x10_3)) + x11_4)) : Int).toNat false) true x10_3 (wrap64 (x11_4 + 1))) else (none)) else (none))) = some r := by rw [← hbq86] at H; exact H
       have Nbq86 := Aside0.mk hbq86
       clear hbq86
       by_cases c87 : (bq86 = true)
       ·subst c87
        have H1 : (tickingref06_Subtypes.l4 kj42 l0 (l0.length : Int) x4_4 x9_4 x10_3 (wrap64 (x11_4 + 1))) = some r := by rw [if_pos rfl] at H; exact H
        clear H
        have H := H1
        clear H1
        have H' := Aside0.mk H
        clear H
        have hnb88 := NB398_399.out
        have hnc88 := NB399_398.out
        have hcz89_0 : wc.cell? ⟨gb398, 0, none⟩ = some (.int .i64 ((rd_T39 l0 x10_3).f0)) := (blk_cell BK398.out 0).trans rfl
        have hcz89_1 : wc.cell? ⟨gb398, 1, none⟩ = some (.int .i64 ((rd_T39 l0 x10_3).f1)) := (blk_cell BK398.out 1).trans rfl
        have hcz89_2 : wc.cell? ⟨gb398, 2, none⟩ = some (.int .i64 ((rd_T39 l0 x10_3).f2)) := (blk_cell BK398.out 2).trans rfl
        have hfz89_0 := blk_frozen BK398.out 0
        have hfz89_1 := blk_frozen BK398.out 1
        have hfz89_2 := blk_frozen BK398.out 2
        have hcz90_0 : wc.cell? ⟨gb399, 0, none⟩ = some (.int .i64 ((rd_T39 l0 x11_4).f0)) := (blk_cell BK399.out 0).trans rfl
        have hcz90_1 : wc.cell? ⟨gb399, 1, none⟩ = some (.int .i64 ((rd_T39 l0 x11_4).f1)) := (blk_cell BK399.out 1).trans rfl
        have hcz90_2 : wc.cell? ⟨gb399, 2, none⟩ = some (.int .i64 ((rd_T39 l0 x11_4).f2)) := (blk_cell BK399.out 2).trans rfl
        have hfz90_0 := blk_frozen BK399.out 0
        have hfz90_1 := blk_frozen BK399.out 1
        have hfz90_2 := blk_frozen BK399.out 2
        obtain ⟨Ao91, co91, eo91⟩ := Kd.R_slice HO_4.out
        subst eo91
        have p401 : 0 ≤ ((ji74) : Int) := of_decide_eq_true (by first | (with_reducible assumption) | assumption)
        have q401 : (ji74) < (x4_4.length : Int) := of_decide_eq_true (by first | (with_reducible assumption) | assumption)
        obtain ⟨ad401, e401, hx401_0⟩ := Kd.at_bool (Kd.R_reads' HO_4.out).2.2 (ji74) p401 q401
        (try rw [← Nbq81.out] at hx401_0)
        (try rw [← Nbq86.out] at hx401_0)
        cases e401
        replace p401 := eq_true p401
        replace q401 := eq_true q401
        have p402 : 0 ≤ ((ji78) : Int) := of_decide_eq_true (by first | (with_reducible assumption) | assumption)
        have q402 : (ji78) < (x4_4.length : Int) := of_decide_eq_true (by first | (with_reducible assumption) | assumption)
        obtain ⟨ad402, e402, hx402_0⟩ := Kd.at_bool (Kd.R_reads' HO_4.out).2.2 (ji78) p402 q402
        (try rw [← Nbq81.out] at hx402_0)
        (try rw [← Nbq86.out] at hx402_0)
        obtain rfl : ad401 = ad402 := (by injection e402)
        replace p402 := eq_true p402
        replace q402 := eq_true q402
        have p403 : 0 ≤ ((ji83) : Int) := of_decide_eq_true (by first | (with_reducible assumption) | assumption)
        have q403 : (ji83) < (x4_4.length : Int) := of_decide_eq_true (by first | (with_reducible assumption) | assumption)
        obtain ⟨ad403, e403, hx403_0⟩ := Kd.at_bool (Kd.R_reads' HO_4.out).2.2 (ji83) p403 q403
        (try rw [← Nbq81.out] at hx403_0)
        (try rw [← Nbq86.out] at hx403_0)
        obtain rfl : ad401 = ad403 := (by injection e403)
        replace p403 := eq_true p403
        replace q403 := eq_true q403
        go_wp2
        go_roundg kj42
        case measure => have := HK1.out; have := HK2.out; have := HK3.out; have := HK4.out; have := HJ42.out; omega
        exact ⟨(x4_4), (x9_4), (wrap64 (x11_4 + 1)), (by first | rfl | (simp; done) | (simp [*]; done)), (by first | rfl | (simp; done) | (simp [*]; done)), H', ⟨by have := HK1.out; have := HK2.out; have := HK3.out; have := HK4.out; have := HJ42.out; omega⟩, ⟨by (with_reducible repeat (first | apply Kd.R_alloc | apply Kd.R_drewN | apply Kd.R_drew)); exact HO_4.out⟩, ⟨by repeat (first | (with_reducible first | exact HB.out | apply below_alloc | apply pw_below_drewN | apply below_drew1 | refine below_set ?_ GE398.out | refine below_set ?_ GE399.out) | exact HB.out)⟩⟩
       replace c87 := Bool.eq_false_iff.mpr c87
       subst c87
       have H1 : (if 0 ≤ (wrap64 ((wrap64 ((l0.length : Int) * x10_3)) + x11_4)) then (if (wrap64 ((wrap64 ((l0.length : Int) * x10_3)) + x11_4)) < (x4_4.length : Int) then (tickingref06_Subtypes.l4 kj42 l0 (l0.length : Int) (x4_4.set ((wrap64 ((wrap64 ((l0.length : Int) * x10_3)) + x11_4)) : Int).toNat false) true x10_3 (wrap64 (x11_4 + 1))) else (none)) else (none)) = some r := by rw [if_neg (show ¬ (false = true) by decide)] at H; exact H
       clear H
       have H := H1
       clear H1
       obtain ⟨ji92, hji92⟩ : ∃ j_ : Int, (wrap64 ((wrap64 ((l0.length : Int) * x10_3)) + x11_4)) = j_ := ⟨_, rfl⟩
       replace H : (if 0 ≤ (ji92) then (if (ji92) < (x4_4.length : Int) then (tickingref06_Subtypes.l4 kj42 l0 (l0.length : Int) (x4_4.set ((ji92) : Int).toNat false) true x10_3 (wrap64 (x11_4 + 1))) else (none)) else (none)) = some r := by first | (rw [hji92] at H; exact H) | (simp only [hji92] at H ⊢; exact H)
       have hji92w : (IntKind.i64.wrap ((wrap64 ((l0.length : Int) * x10_3)) + x11_4)) = ji92 := (i64_w _).trans hji92
       by_cases c93 : 0 ≤ (ji92)
       rotate_left
       ·rw [if_neg c93] at H
        exact absurd H (by simp)
       rw [if_pos c93] at H
       have c93b0 : decide (0 ≤ (ji92)) = true := decide_eq_true c93
       clear c93
       by_cases c94 : (ji92) < (x4_4.length : Int)
       rotate_left
       ·rw [if_neg c94] at H
        exact absurd H (by simp)
       rw [if_pos c94] at H
       have c94b0 : decide ((ji92) < (x4_4.length : Int)) = true := decide_eq_true c94
       clear c94
       obtain ⟨y404, hy404⟩ : ∃ y_ : List Bool, y_ = (x4_4.set ((ji92) : Int).toNat false) := ⟨_, rfl⟩
       replace H : (tickingref06_Subtypes.l4 kj42 l0 (l0.length : Int) y404 true x10_3 (wrap64 (x11_4 + 1))) = some r := by first | (rw [hy404]; with_reducible exact H) | (have H2_ := (Option.bind_some _ _).symm.trans H; rw [hy404]; with_reducible exact H2_) | (have H2_ := (Option.bind_some _ _).symm.trans H; with_reducible exact H2_) | with_reducible exact H | (rw [hy404]; exact H) | exact H
       have Ny404 := Aside0.mk hy404
       clear hy404
       have H' := Aside0.mk H
       clear H
       have hnb96 := NB398_399.out
       have hnc96 := NB399_398.out
       have hcz97_0 : wc.cell? ⟨gb398, 0, none⟩ = some (.int .i64 ((rd_T39 l0 x10_3).f0)) := (blk_cell BK398.out 0).trans rfl
       have hcz97_1 : wc.cell? ⟨gb398, 1, none⟩ = some (.int .i64 ((rd_T39 l0 x10_3).f1)) := (blk_cell BK398.out 1).trans rfl
       have hcz97_2 : wc.cell? ⟨gb398, 2, none⟩ = some (.int .i64 ((rd_T39 l0 x10_3).f2)) := (blk_cell BK398.out 2).trans rfl
       have hfz97_0 := blk_frozen BK398.out 0
       have hfz97_1 := blk_frozen BK398.out 1
       have hfz97_2 := blk_frozen BK398.out 2
       have hcz98_0 : wc.cell? ⟨gb399, 0, none⟩ = some (.int .i64 ((rd_T39 l0 x11_4).f0)) := (blk_cell BK399.out 0).trans rfl
       have hcz98_1 : wc.cell? ⟨gb399, 1, none⟩ = some (.int .i64 ((rd_T39 l0 x11_4).f1)) := (blk_cell BK399.out 1).trans rfl
       have hcz98_2 : wc.cell? ⟨gb399, 2, none⟩ = some (.int .i64 ((rd_T39 l0 x11_4).f2)) := (blk_cell BK399.out 2).trans rfl
       have hfz98_0 := blk_frozen BK399.out 0
       have hfz98_1 := blk_frozen BK399.out 1
       have hfz98_2 := blk_frozen BK399.out 2
       obtain ⟨Ao99, co99, eo99⟩ := Kd.R_slice HO_4.out
       subst eo99
       have p401 : 0 ≤ ((ji74) : Int) := of_decide_eq_true (by first | (with_reducible assumption) | assumption)
       have q401 : (ji74) < (x4_4.length : Int) := of_decide_eq_true (by first | (with_reducible assumption) | assumption)
       obtain ⟨ad401, e401, hx401_0⟩ := Kd.at_bool (Kd.R_reads' HO_4.out).2.2 (ji74) p401 q401
       (try rw [← Nbq81.out] at hx401_0)
       (try rw [← Nbq86.out] at hx401_0)
       cases e401
       replace p401 := eq_true p401
       replace q401 := eq_true q401
       have p402 : 0 ≤ ((ji78) : Int) := of_decide_eq_true (by first | (with_reducible assumption) | assumption)
       have q402 : (ji78) < (x4_4.length : Int) := of_decide_eq_true (by first | (with_reducible assumption) | assumption)
       obtain ⟨ad402, e402, hx402_0⟩ := Kd.at_bool (Kd.R_reads' HO_4.out).2.2 (ji78) p402 q402
       (try rw [← Nbq81.out] at hx402_0)
       (try rw [← Nbq86.out] at hx402_0)
       obtain rfl : ad401 = ad402 := (by injection e402)
       replace p402 := eq_true p402
       replace q402 := eq_true q402
       have p403 : 0 ≤ ((ji83) : Int) := of_decide_eq_true (by first | (with_reducible assumption) | assumption)
       have q403 : (ji83) < (x4_4.length : Int) := of_decide_eq_true (by first | (with_reducible assumption) | assumption)
       obtain ⟨ad403, e403, hx403_0⟩ := Kd.at_bool (Kd.R_reads' HO_4.out).2.2 (ji83) p403 q403
       (try rw [← Nbq81.out] at hx403_0)
       (try rw [← Nbq86.out] at hx403_0)
       obtain rfl : ad401 = ad403 := (by injection e403)
       replace p403 := eq_true p403
       replace q403 := eq_true q403
       have p95 : 0 ≤ ((ji92) : Int) := of_decide_eq_true (by first | (with_reducible assumption) | assumption)
       have q95 : ((ji92) : Int) < ((x4_4.length : Int) : Int) := of_decide_eq_true (by first | (with_reducible assumption) | assumption)
       obtain ⟨go95, co95, eo95, gb95, gl95, cl95, HG95⟩ := Kd.R_form HO_4.out (by omega)
       (first | cases eo95 | (injection eo95 with ea_ en_ ec_; (first | subst ea_ | (injection ea_ with ea_; subst ea_)); subst ec_; clear en_))
       have GB95 := Aside0.mk gb95
       have GG95 := Aside0.mk HG95
       clear gb95 gl95 HG95
       (first | simp only [add_plain] at hx401_0 | skip)
       (first | simp only [add_plain] at hx402_0 | skip)
       (first | simp only [add_plain] at hx403_0 | skip)
       obtain ⟨hx95_0, hf95_0⟩ := Kd.R_celln false HO_4.out ((ji92) : Int) p95 q95
       replace p95 := eq_true p95
       replace q95 := eq_true q95
       have HP100 := Kd.R_putg HO_4.out ((ji92) : Int) false
       go_wp2_with (first | ((with_reducible refine gate_store (t := 4) (p := 146) rfl ?_); refine store_event (t := 4) (p := 146) (v := ?vo_w101) (w1 := (wc.setCell ⟨go95, ((ji92) : Int).toNat, none⟩ (.bool false))) ?hg ?ho ?hn ?hr ?_; (case ho => rfl); (case hg => rfl); (case hn => rfl); (case hr => first | (go_simp; done) | (go_simp; rfl)); intro w101 hw; have hg : wc.grownBy w101 (some go95) := (by rw [hw]; exact HP100.2); have hp_ : Kd.R Kd.bool 4 w101 w.heap.size (fun _ => True) (.slice (some ⟨go95, 0, none⟩) x4_4.length co99) y404 := (by rw [hw, Ny404.out]; exact HP100.1); clear HP100; have n0_ := Aside0.mk (hp_); have n1_ := Aside0.mk (blk_grown (g := gb398) (o := .cells #[.int .i64 ((rd_T39 l0 x10_3).f0), .int .i64 ((rd_T39 l0 x10_3).f1), .int .i64 ((rd_T39 l0 x10_3).f2)] 39 (0, 0)) (by (with_reducible repeat (first | refine blk_drewN ?_ _ | refine blk_drew ?_ | refine blk_alloc ?_ _)); exact BK398.out) hg (Kd.R_ne HO_4.out BK398.out (by decide))); have n2_ := Aside0.mk (blk_grown (g := gb399) (o := .cells #[.int .i64 ((rd_T39 l0 x11_4).f0), .int .i64 ((rd_T39 l0 x11_4).f1), .int .i64 ((rd_T39 l0 x11_4).f2)] 39 (0, 0)) (by (with_reducible repeat (first | refine blk_drewN ?_ _ | refine blk_drew ?_ | refine blk_alloc ?_ _)); exact BK399.out) hg (Kd.R_ne HO_4.out BK399.out (by decide))); have n3_ := Aside0.mk ((by rw [hw]; exact below_set (HB.out) GB95.out : Below w.heap.size w w101)); clear HO_4; clear BK398; clear BK399; clear HB; have HO_4 := n0_; have BK398 := n1_; have BK399 := n2_; have HB := n3_; clear n0_ n1_ n2_ n3_; clear hg hw hp_))
       go_roundg kj42
       case measure => have := HK1.out; have := HK2.out; have := HK3.out; have := HK4.out; have := HJ42.out; omega
       exact ⟨(y404), (true), (wrap64 (x11_4 + 1)), (by first | rfl | (simp; done) | (simp [*]; done)), (by first | rfl | (simp; done) | (simp [*]; done)), H', ⟨by have := HK1.out; have := HK2.out; have := HK3.out; have := HK4.out; have := HJ42.out; omega⟩, ⟨by (with_reducible repeat (first | apply Kd.R_alloc | apply Kd.R_drewN | apply Kd.R_drew)); exact HO_4.out⟩, ⟨by repeat (first | (with_reducible first | exact HB.out | apply below_alloc | apply pw_below_drewN | apply below_drew1 | refine below_set ?_ GE398.out | refine below_set ?_ GE399.out) | exact HB.out)⟩⟩

def tickingref06_has.l0 : Nat → List (S23) → Int → Int → Int → Option (Bool)
 | 0, _, _, _, _ => none
 | k + 1, x0, x1, x2, x7 => if x7 < (x0.length : Int) then (if 0 ≤ x7 then (if ((rd_T23 x0 x7).f0) = x1 then (if ((rd_T23 x0 x7).f1) = x2 then (some true) else (tickingref06_has.l0 k x0 x1 x2 (wrap64 (x7 + 1)))) else (tickingref06_has.l0 k x0 x1 x2 (wrap64 (x7 + 1)))) else (none)) else (some false)
def tickingref06_has.f (k : Nat) (l0 : List (S23)) (a1 : Int) (a2 : Int) : Option (Bool) := tickingref06_has.l0 k l0 a1 a2 0
set_option maxHeartbeats 8000000 in
set_option maxRecDepth 100000 in
theorem tickingref06_has.calls (k : Nat) (A0 : Option Addr) (c0 : Nat) (l0 : List (S23)) (a1 : Int) (a2 : Int) (r : Bool) (w : World) (hr0 : Kd.C k23 w A0 l0.length l0) (hc0 : l0.length ≤ c0) (h : tickingref06_has.f k l0 a1 a2 = some r) :
  Calls Try.prog 53 #[.slice A0 l0.length c0, .int .i64 a1, .int .i64 a2] w fun e w' => e = .returned (.bool r) ∧ Drawn0 w w' := by
 have HR0 := Aside0.mk hr0
 have HC0 := Aside0.mk hc0
 clear hr0 hc0
 have H : (tickingref06_has.l0 k l0 a1 a2 0) = some r := h
 clear h
 have H' := Aside0.mk H
 clear H
 go_enter Try.func53, Try.ntmps53
 go_wp2
 go_loopg [7] k (fun kq v7 w' => ∃ (x7_1 : Int), v7 = .int .i64 x7_1 ∧ Aside0 (tickingref06_has.l0 kq l0 a1 a2 x7_1 = some r) ∧ Aside0 (kq ≤ k) ∧ Drawn0 w w')
 case atStart => exact ⟨(0), (by first | rfl | (simp; done) | (simp [*]; done)), H', ⟨Nat.le_refl _⟩, by repeat (first | exact Drawn0.refl _ | apply Drawn0.step)⟩
 clear H'
 try clear p2
 obtain ⟨x7_1, rfl, HA, HK1, ⟨m1, rfl⟩⟩ := hrel
 cases gk with
 | zero => exact absurd HA.out (by simp [tickingref06_has.l0])
 | succ k1 =>
  have H := HA.out
  clear HA
  simp only [tickingref06_has.l0] at H
  by_cases c4 : x7_1 < (l0.length : Int)
  rotate_left
  ·rw [if_neg c4] at H
   have c4b0 : decide (x7_1 < (l0.length : Int)) = false := decide_eq_false c4
   clear c4
   obtain rfl := Option.some.inj H
   go_wp2
   go_ret
   exact ⟨by first | rfl | (simp; done) | (simp [*]; done), by repeat (first | exact Drawn0.refl _ | apply Drawn0.step)⟩
  rw [if_pos c4] at H
  have c4b0 : decide (x7_1 < (l0.length : Int)) = true := decide_eq_true c4
  clear c4
  by_cases c5 : 0 ≤ x7_1
  rotate_left
  ·rw [if_neg c5] at H
   exact absurd H (by simp)
  rw [if_pos c5] at H
  have c5b0 : decide (0 ≤ x7_1) = true := decide_eq_true c5
  clear c5
  by_cases c6 : ((rd_T23 l0 x7_1).f0) = a1
  rotate_left
  ·rw [if_neg c6] at H
   have c6b0 : (((rd_T23 l0 x7_1).f0) == a1) = false := beq_eq_false_iff_ne.mpr c6
   have c6b1 : (((rd_T23 l0 x7_1).f0) != a1) = true := bne_iff_ne.mpr c6
   have H' := Aside0.mk H
   clear H
   have p452 : 0 ≤ (x7_1 : Int) := of_decide_eq_true (by first | (with_reducible assumption) | assumption)
   have q452 : x7_1 < (l0.length : Int) := of_decide_eq_true (by first | (with_reducible assumption) | assumption)
   obtain ⟨ad452, e452, hx452_0, hx452_1⟩ := at_T23 HR0.out x7_1 p452 q452
   cases e452
   replace p452 := eq_true p452
   replace q452 := eq_true q452
   go_wp2
   go_roundg k1
   case measure => have := HK1.out; omega
   exact ⟨(wrap64 (x7_1 + 1)), (by first | rfl | (simp; done) | (simp [*]; done)), H', ⟨by have := HK1.out; omega⟩, by repeat (first | exact Drawn0.refl _ | apply Drawn0.step)⟩
  rw [if_pos c6] at H
  have c6b0 : (((rd_T23 l0 x7_1).f0) == a1) = true := beq_iff_eq.mpr c6
  have c6b1 : (((rd_T23 l0 x7_1).f0) != a1) = false := bne_eq_false_iff_eq.mpr c6
  clear c6
  by_cases c7 : ((rd_T23 l0 x7_1).f1) = a2
  ·rw [if_pos c7] at H
   have c7b0 : (((rd_T23 l0 x7_1).f1) == a2) = true := beq_iff_eq.mpr c7
   have c7b1 : (((rd_T23 l0 x7_1).f1) != a2) = false := bne_eq_false_iff_eq.mpr c7
   clear c7
   obtain rfl := Option.some.inj H
   have p452 : 0 ≤ (x7_1 : Int) := of_decide_eq_true (by first | (with_reducible assumption) | assumption)
   have q452 : x7_1 < (l0.length : Int) := of_decide_eq_true (by first | (with_reducible assumption) | assumption)
   obtain ⟨ad452, e452, hx452_0, hx452_1⟩ := at_T23 HR0.out x7_1 p452 q452
   cases e452
   replace p452 := eq_true p452
   replace q452 := eq_true q452
   have p453 : 0 ≤ (x7_1 : Int) := of_decide_eq_true (by first | (with_reducible assumption) | assumption)
   have q453 : x7_1 < (l0.length : Int) := of_decide_eq_true (by first | (with_reducible assumption) | assumption)
   obtain ⟨ad453, e453, hx453_0, hx453_1⟩ := at_T23 HR0.out x7_1 p453 q453
   obtain rfl : ad452 = ad453 := (by injection e453)
   replace p453 := eq_true p453
   replace q453 := eq_true q453
   go_wp2
   go_ret
   exact ⟨by first | rfl | (simp; done) | (simp [*]; done), by repeat (first | exact Drawn0.refl _ | apply Drawn0.step)⟩
  rw [if_neg c7] at H
  have c7b0 : (((rd_T23 l0 x7_1).f1) == a2) = false := beq_eq_false_iff_ne.mpr c7
  have c7b1 : (((rd_T23 l0 x7_1).f1) != a2) = true := bne_iff_ne.mpr c7
  have H' := Aside0.mk H
  clear H
  have p452 : 0 ≤ (x7_1 : Int) := of_decide_eq_true (by first | (with_reducible assumption) | assumption)
  have q452 : x7_1 < (l0.length : Int) := of_decide_eq_true (by first | (with_reducible assumption) | assumption)
  obtain ⟨ad452, e452, hx452_0, hx452_1⟩ := at_T23 HR0.out x7_1 p452 q452
  cases e452
  replace p452 := eq_true p452
  replace q452 := eq_true q452
  have p453 : 0 ≤ (x7_1 : Int) := of_decide_eq_true (by first | (with_reducible assumption) | assumption)
  have q453 : x7_1 < (l0.length : Int) := of_decide_eq_true (by first | (with_reducible assumption) | assumption)
  obtain ⟨ad453, e453, hx453_0, hx453_1⟩ := at_T23 HR0.out x7_1 p453 q453
  obtain rfl : ad452 = ad453 := (by injection e453)
  replace p453 := eq_true p453
  replace q453 := eq_true q453
  go_wp2
  go_roundg k1
  case measure => have := HK1.out; omega
  exact ⟨(wrap64 (x7_1 + 1)), (by first | rfl | (simp; done) | (simp [*]; done)), H', ⟨by have := HK1.out; omega⟩, by repeat (first | exact Drawn0.refl _ | apply Drawn0.step)⟩
end Go.Proofs.Ytnfmeafiaipplaa.S
