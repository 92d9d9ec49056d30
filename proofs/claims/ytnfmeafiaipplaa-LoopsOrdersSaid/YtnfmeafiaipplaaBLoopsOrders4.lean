-- Written by wip/bundle2.py: texts of this claim, one behind the other.
import Derived.Test.YtnfmeafiaipplaaBLoopsOrders3
import Derived.RowKit
import Derived.Test.YtnfmeafiaipplaaVLoopsOrdersWords
import Derived.KernelRfl
import Derived.WalkKit
import Derived.ProofKit
import Derived.OpenShut
import Derived.ShutString
import Derived.ChangeOld
import Derived.Below
import Derived.SizedLaws
import Derived.Deep.Slices
import Derived.Laws.IdiomArrays
set_option linter.unusedVariables false
set_option linter.unusedSimpArgs false

namespace Go.Proofs.Ytnfmeafiaipplaa.S
open Go.Proofs.Ytnfmeafiaipplaa.Lib
open Go.Maps (Keyed)
open Go.RowKit Go.Proofs.YtnfmeafiaipplaaW.PrintWords Go.Proofs.YtnfmeafiaipplaaW.PrintLast Go.Proofs.YtnfmeafiaipplaaW.PrintMore
attribute [local go_sem] max2_int min2_int max_two min_two max_three min_three max_four min_four
set_option linter.unusedVariables false
set_option linter.unusedSimpArgs false

mutual
def tickingref06_depth.l0 : Nat → List (S39) → Int → Int → List Int → Int → Option (Int × Bool)
 | 0, _, _, _, _, _ => none
 | k + 1, x0, x1, x2, x8, x9 => if x9 ≤ x2 then (if 0 ≤ (x0.length : Int) then (if ((x0.length : Int) : Int).toNat ≤ 35184372088832 then (tickingref06_depth.l1 k x0 x1 x2 x8 x9 (List.replicate ((x0.length : Int) : Int).toNat 0) 0) else (none)) else (none)) else (if 0 ≤ x1 then (if x1 < (x8.length : Int) then (some (rd x8 x1, decide ((rd x8 x1) ≤ x2))) else (none)) else (none))
def tickingref06_depth.l1 : Nat → List (S39) → Int → Int → List Int → Int → List Int → Int → Option (Int × Bool)
 | 0, _, _, _, _, _, _, _ => none
 | k + 1, x0, x1, x2, x8, x9, x10, x11 => if x11 < (x0.length : Int) then (if 0 ≤ x11 then (if ((rd_T39 x0 x11).f0) ≥ 4 then (if 0 ≤ ((rd_T39 x0 x11).f1) then (if ((rd_T39 x0 x11).f1) < (x8.length : Int) then (if 0 ≤ ((rd_T39 x0 x11).f2) then (if ((rd_T39 x0 x11).f2) < (x8.length : Int) then (if x11 < (x10.length : Int) then (tickingref06_depth.l1 k x0 x1 x2 x8 x9 (x10.set (x11 : Int).toNat (wrap64 (1 + (mx (rd x8 ((rd_T39 x0 x11).f1)) (rd x8 ((rd_T39 x0 x11).f2)))))) (wrap64 (x11 + 1))) else (none)) else (none)) else (none)) else (none)) else (none)) else (tickingref06_depth.l1 k x0 x1 x2 x8 x9 x10 (wrap64 (x11 + 1)))) else (none)) else (tickingref06_depth.l0 k x0 x1 x2 x10 (wrap64 (x9 + 1)))
end
def tickingref06_depth.f (k : Nat) (l0 : List (S39)) (a1 : Int) (a2 : Int) : Option (Int × Bool) := if 0 ≤ (l0.length : Int) then (if ((l0.length : Int) : Int).toNat ≤ 35184372088832 then (tickingref06_depth.l0 k l0 a1 a2 (List.replicate ((l0.length : Int) : Int).toNat 0) 0) else (none)) else (none)
def tickingref06_depth.T10 : Bool × List (List Nat × List Nat) := (true, [([], []), ([], []), ([], []), ([], []), ([], []), ([3, 4], [3, 4]), ([5], [5]), ([6], [6]), ([2, 7], [2, 7]), ([8], [8]), ([], []), ([], []), ([], []), ([11, 12], [11, 12]), ([13], [13]), ([14], [14]), ([10, 15], [10, 15]), ([16], [16]), ([9, 17], [9, 17]), ([18], [18]), ([0, 1, 0, 1, 2, 3, 4, 5, 6, 7, 8, 9, 10, 11, 12, 13, 14, 15, 16, 17, 18, 19], [0, 1]), ([20, 19, 0, 1, 2, 3, 4, 5, 6, 7, 8, 9, 10, 11, 12, 13, 14, 15, 16, 17, 18, 19], [19, 20])])
def tickingref06_depth.B10 : List Nat := [0, 0, 0, 0, 0, 24, 56, 120, 252, 508, 0, 0, 0, 6144, 14336, 30720, 64512, 130048, 262140, 524284, 1048575, 2097151]
theorem tickingref06_depth.tab10 : rtab .any (opsOf Try.f49 10) = tickingref06_depth.T10 := by kernel_rfl
theorem tickingref06_depth.bits10 : waitsOk tickingref06_depth.T10.2 tickingref06_depth.B10 = true := by kernel_rfl
def tickingref06_depth.T12 : Bool × List (List Nat × List Nat) := (true, [([], []), ([], []), ([0, 1], [0, 1]), ([2], [2]), ([], []), ([], []), ([4, 5], [4, 5]), ([6], [6]), ([], []), ([7, 8], [7, 8]), ([3, 0, 1, 2, 3], [3]), ([9, 10, 0, 1, 2, 3, 4, 5, 6, 7, 8, 9, 10], [9])])
def tickingref06_depth.B12 : List Nat := [0, 0, 3, 7, 0, 0, 48, 112, 0, 496, 15, 2047]
theorem tickingref06_depth.tab12 : rtab .any (opsOf Try.f49 12) = tickingref06_depth.T12 := by kernel_rfl
theorem tickingref06_depth.bits12 : waitsOk tickingref06_depth.T12.2 tickingref06_depth.B12 = true := by kernel_rfl
set_option maxHeartbeats 8000000 in
set_option maxRecDepth 100000 in
theorem tickingref06_depth.calls (k : Nat) (A0 : Option Addr) (c0 : Nat) (l0 : List (S39)) (a1 : Int) (a2 : Int) (r1 : Int) (r2 : Bool) (w : World) (hr0 : Kd.C k39 w A0 l0.length l0) (hc0 : l0.length ≤ c0) (h : tickingref06_depth.f k l0 a1 a2 = some (r1, r2)) :
  Calls Try.prog 49 #[.slice A0 l0.length c0, .int .i64 a1, .int .i64 a2] w fun e w' => e = .returned (.tuple #[.int .i64 r1, .bool r2]) ∧ Below w.heap.size w w' := by
 have HR0 := Aside0.mk hr0
 have HC0 := Aside0.mk hc0
 clear hr0 hc0
 have HB := Aside0.mk (Below.refl w.heap.size w)
 have H : (if 0 ≤ (l0.length : Int) then (if ((l0.length : Int) : Int).toNat ≤ 35184372088832 then (tickingref06_depth.l0 k l0 a1 a2 (List.replicate ((l0.length : Int) : Int).toNat 0) 0) else (none)) else (none)) = some (r1, r2) := h
 clear h
 by_cases c4 : 0 ≤ (l0.length : Int)
 ·rw [if_pos c4] at H
  have c4b0 := eq_true c4
  have c4b1 : decide (0 ≤ (l0.length : Int)) = true := decide_eq_true c4
  clear c4
  by_cases c5 : ((l0.length : Int) : Int).toNat ≤ 35184372088832
  ·rw [if_pos c5] at H
   have c5b0 := eq_true c5
   have c5b1 : decide (((l0.length : Int) : Int).toNat ≤ 35184372088832) = true := decide_eq_true c5
   clear c5
   obtain ⟨y411, hy411⟩ : ∃ y_ : List Int, y_ = (List.replicate ((l0.length : Int) : Int).toNat 0) := ⟨_, rfl⟩
   replace H : (tickingref06_depth.l0 k l0 a1 a2 y411 0) = some (r1, r2) := by first | (rw [hy411]; with_reducible exact H) | (have H2_ := (Option.bind_some _ _).symm.trans H; rw [hy411]; with_reducible exact H2_) | (have H2_ := (Option.bind_some _ _).symm.trans H; with_reducible exact H2_) | with_reducible exact H | (rw [hy411]; exact H) | exact H
   have Ny411 := Aside0.mk hy411
   clear hy411
   have H' := Aside0.mk H
   clear H
   go_enter Try.func49, Try.ntmps49
   go_wp2_with (first | ((with_reducible refine gate_dst (N := 14) rfl ?_); refine Kd.R_make (Kd.int .i64) _ 3 rfl (N := 14) rfl 65 _ _ rfl (l0.length : Int) rfl rfl Try.underlying65 (.int .i64 0) 8 info3 rfl (by decide) (by omega) 0 (ok := fun _ => True) (okp := fun _ => True) rfl (fun _ hk => hk) trivial (of_decide_eq_true (by first | (with_reducible assumption) | assumption)) (Nat.le_trans (Nat.mul_le_mul_right _ (of_decide_eq_true (by first | (with_reducible assumption) | assumption) : (l0.length : Int).toNat ≤ 35184372088832)) (by omega)) (Below.refl _ _) (Nat.le_refl _) ?_; intro v412 w6 ho7 hb hg_ hnew_; clear hg_ hnew_; (first | rw [← Ny411.out] at ho7 | (simp only [Int.reduceToNat] at ho7; rw [← Ny411.out] at ho7)); have n0_ := Aside0.mk (Kd.R_lower ho7 (below_size (by repeat (first | (with_reducible first | exact HB.out | apply below_alloc | apply pw_below_drewN | apply below_drew1) | exact HB.out)))); have n1_ := Aside0.mk (below_step (by repeat (first | (with_reducible first | exact HB.out | apply below_alloc | apply pw_below_drewN | apply below_drew1) | exact HB.out)) hb); clear HB; have HO413 := n0_; have HB := n1_; clear n0_ n1_; clear hb ho7))
   go_loopg [8, 9] k (fun kq v8 v9 w' => ∃ (x8_1 : List Int) (x9_1 : Int), v9 = .int .i64 x9_1 ∧ Aside0 (tickingref06_depth.l0 kq l0 a1 a2 x8_1 x9_1 = some (r1, r2)) ∧ Aside0 (kq ≤ k) ∧ Aside0 (Kd.R (Kd.int .i64) 3 w' w.heap.size (fun _ => True) v8 x8_1) ∧ Aside0 (Below w.heap.size w w'))
   case atStart => exact ⟨(y411), (0), (by first | rfl | (simp; done) | (simp [*]; done)), H', ⟨Nat.le_refl _⟩, ⟨by (with_reducible repeat (first | apply Kd.R_alloc | apply Kd.R_drewN | apply Kd.R_drew)); exact HO413.out⟩, ⟨by repeat (first | (with_reducible first | exact HB.out | apply below_alloc | apply pw_below_drewN | apply below_drew1) | exact HB.out)⟩⟩
   case round =>
    clear H'
    try clear p2
    try clear c4
    try clear c4b0
    try clear c4b1
    try clear c5
    try clear c5b0
    try clear c5b1
    obtain ⟨x8_1, x9_1, rfl, HA, HK1, HO_8, HB⟩ := hrel
    cases gk with
    | zero => exact absurd HA.out (by simp [tickingref06_depth.l0])
    | succ k1 =>
     have H := HA.out
     clear HA
     simp only [tickingref06_depth.l0] at H
     by_cases c8 : x9_1 ≤ a2
     ·rw [if_pos c8] at H
      have c8b0 : decide (x9_1 ≤ a2) = true := decide_eq_true c8
      clear c8
      by_cases c9 : 0 ≤ (l0.length : Int)
      ·rw [if_pos c9] at H
       have c9b0 := eq_true c9
       have c9b1 : decide (0 ≤ (l0.length : Int)) = true := decide_eq_true c9
       clear c9
       by_cases c10 : ((l0.length : Int) : Int).toNat ≤ 35184372088832
       ·rw [if_pos c10] at H
        have c10b0 := eq_true c10
        have c10b1 : decide (((l0.length : Int) : Int).toNat ≤ 35184372088832) = true := decide_eq_true c10
        clear c10
        obtain ⟨y416, hy416⟩ : ∃ y_ : List Int, y_ = (List.replicate ((l0.length : Int) : Int).toNat 0) := ⟨_, rfl⟩
        replace H : (tickingref06_depth.l1 k1 l0 a1 a2 x8_1 x9_1 y416 0) = some (r1, r2) := by first | (rw [hy416]; with_reducible exact H) | (have H2_ := (Option.bind_some _ _).symm.trans H; rw [hy416]; with_reducible exact H2_) | (have H2_ := (Option.bind_some _ _).symm.trans H; with_reducible exact H2_) | with_reducible exact H | (rw [hy416]; exact H) | exact H
        have Ny416 := Aside0.mk hy416
        clear hy416
        have H' := Aside0.mk H
        clear H
        go_wp2_with (first | ((with_reducible refine gate_dst (N := 22) rfl ?_); refine Kd.R_make (Kd.int .i64) _ 3 rfl (N := 22) rfl 65 _ _ rfl (l0.length : Int) rfl rfl Try.underlying65 (.int .i64 0) 8 info3 rfl (by decide) (by omega) 0 (ok := fun _ => True) (okp := fun _ => True) rfl (fun _ hk => hk) trivial (of_decide_eq_true (by first | (with_reducible assumption) | assumption)) (Nat.le_trans (Nat.mul_le_mul_right _ (of_decide_eq_true (by first | (with_reducible assumption) | assumption) : (l0.length : Int).toNat ≤ 35184372088832)) (by omega)) (Below.refl _ _) (Nat.le_refl _) ?_; intro v417 w11 ho12 hb hg_ hnew_; clear hg_ hnew_; (first | rw [← Ny416.out] at ho12 | (simp only [Int.reduceToNat] at ho12; rw [← Ny416.out] at ho12)); have n0_ := Aside0.mk (Kd.R_elder' (by (with_reducible repeat (first | apply Kd.R_alloc | apply Kd.R_drewN | apply Kd.R_drew)); exact HO_8.out) (Kd.R_base ho12) hb); have n1_ := Aside0.mk (Kd.R_lower (Kd.R_new' ho12 (Kd.R_lt (by (with_reducible repeat (first | apply Kd.R_alloc | apply Kd.R_drewN | apply Kd.R_drew)); exact HO_8.out))) (below_size (by repeat (first | (with_reducible first | exact HB.out | apply below_alloc | apply pw_below_drewN | apply below_drew1) | exact HB.out)))); have n2_ := Aside0.mk (below_step (by repeat (first | (with_reducible first | exact HB.out | apply below_alloc | apply pw_below_drewN | apply below_drew1) | exact HB.out)) hb); clear HO_8; clear HB; have HO_8 := n0_; have HO418 := n1_; have HB := n2_; clear n0_ n1_ n2_; clear hb ho12))
        go_loopg [11] k1 (fun kq v11 w' => ∃ (x10_2 : List Int) (x11_2 : Int), v11 = .int .i64 x11_2 ∧ Aside0 (tickingref06_depth.l1 kq l0 a1 a2 x8_1 x9_1 x10_2 x11_2 = some (r1, r2)) ∧ Aside0 (kq ≤ k1) ∧ Aside0 (Kd.R (Kd.int .i64) 3 w' w.heap.size (fun k_ => some k_ ≠ (v417 : Value).ownBlock) u8 x8_1) ∧ Aside0 (Kd.R (Kd.int .i64) 3 w' w.heap.size (fun k_ => some k_ ≠ (u8 : Value).ownBlock) v417 x10_2) ∧ Aside0 (Below w.heap.size w w'))
        case atStart => exact ⟨(y416), (0), (by first | rfl | (simp; done) | (simp [*]; done)), H', ⟨Nat.le_refl _⟩, ⟨by (with_reducible repeat (first | apply Kd.R_alloc | apply Kd.R_drewN | apply Kd.R_drew)); exact Kd.R_mono HO_8.out (fun _ hk => hk.2)⟩, ⟨by (with_reducible repeat (first | apply Kd.R_alloc | apply Kd.R_drewN | apply Kd.R_drew)); exact Kd.R_mono HO418.out (fun _ hk => hk.2)⟩, ⟨by repeat (first | (with_reducible first | exact HB.out | apply below_alloc | apply pw_below_drewN | apply below_drew1) | exact HB.out)⟩⟩
        case round =>
         clear H'
         try clear c1
         try clear p2
         try clear c4
         try clear c4b0
         try clear c4b1
         try clear c5
         try clear c5b0
         try clear c5b1
         try clear c8
         try clear c8b0
         try clear c9
         try clear c9b0
         try clear c9b1
         try clear c10
         try clear c10b0
         try clear c10b1
         try clear p2
         obtain ⟨x10_2, x11_2, rfl, HA, HK2, HO_8, HO_10, HB⟩ := hrel
         cases gk with
         | zero => exact absurd HA.out (by simp [tickingref06_depth.l1])
         | succ k2 =>
          have H := HA.out
          clear HA
          simp only [tickingref06_depth.l1] at H
          by_cases c13 : x11_2 < (l0.length : Int)
          ·rw [if_pos c13] at H
           have c13b0 : decide (x11_2 < (l0.length : Int)) = true := decide_eq_true c13
           clear c13
           by_cases c14 : 0 ≤ x11_2
           ·rw [if_pos c14] at H
            have c14b0 : decide (0 ≤ x11_2) = true := decide_eq_true c14
            clear c14
            by_cases c15 : ((rd_T39 l0 x11_2).f0) ≥ 4
            ·rw [if_pos c15] at H
             have c15b0 : decide (4 ≤ ((rd_T39 l0 x11_2).f0)) = true := decide_eq_true c15
             clear c15
             by_cases c16 : 0 ≤ ((rd_T39 l0 x11_2).f1)
             ·rw [if_pos c16] at H
              have c16b0 : decide (0 ≤ ((rd_T39 l0 x11_2).f1)) = true := decide_eq_true c16
              clear c16
              by_cases c17 : ((rd_T39 l0 x11_2).f1) < (x8_1.length : Int)
              ·rw [if_pos c17] at H
               have c17b0 : decide (((rd_T39 l0 x11_2).f1) < (x8_1.length : Int)) = true := decide_eq_true c17
               clear c17
               by_cases c18 : 0 ≤ ((rd_T39 l0 x11_2).f2)
               ·rw [if_pos c18] at H
                have c18b0 : decide (0 ≤ ((rd_T39 l0 x11_2).f2)) = true := decide_eq_true c18
                clear c18
                by_cases c19 : ((rd_T39 l0 x11_2).f2) < (x8_1.length : Int)
                ·rw [if_pos c19] at H
                 have c19b0 : decide (((rd_T39 l0 x11_2).f2) < (x8_1.length : Int)) = true := decide_eq_true c19
                 clear c19
                 obtain ⟨ji20, hji20⟩ : ∃ j_ : Int, (mx (rd x8_1 ((rd_T39 l0 x11_2).f1)) (rd x8_1 ((rd_T39 l0 x11_2).f2))) = j_ := ⟨_, rfl⟩
                 replace H : (if x11_2 < (x10_2.length : Int) then (tickingref06_depth.l1 k2 l0 a1 a2 x8_1 x9_1 (x10_2.set (x11_2 : Int).toNat (wrap64 (1 + (ji20)))) (wrap64 (x11_2 + 1))) else (none)) = some (r1, r2) := by first | (rw [hji20] at H; exact H) | (simp only [hji20] at H ⊢; exact H)
                 have hji20_ : (if (rd x8_1 ((rd_T39 l0 x11_2).f1)) < (rd x8_1 ((rd_T39 l0 x11_2).f2)) then (rd x8_1 ((rd_T39 l0 x11_2).f2)) else (rd x8_1 ((rd_T39 l0 x11_2).f1))) = ji20 := hji20
                 by_cases c21 : x11_2 < (x10_2.length : Int)
                 ·rw [if_pos c21] at H
                  have c21b0 : decide (x11_2 < (x10_2.length : Int)) = true := decide_eq_true c21
                  clear c21
                  obtain ⟨y424, hy424⟩ : ∃ y_ : List Int, y_ = (x10_2.set (x11_2 : Int).toNat (wrap64 (1 + (ji20)))) := ⟨_, rfl⟩
                  replace H : (tickingref06_depth.l1 k2 l0 a1 a2 x8_1 x9_1 y424 (wrap64 (x11_2 + 1))) = some (r1, r2) := by first | (rw [hy424]; with_reducible exact H) | (have H2_ := (Option.bind_some _ _).symm.trans H; rw [hy424]; with_reducible exact H2_) | (have H2_ := (Option.bind_some _ _).symm.trans H; with_reducible exact H2_) | with_reducible exact H | (rw [hy424]; exact H) | exact H
                  have Ny424 := Aside0.mk hy424
                  clear hy424
                  have H' := Aside0.mk H
                  clear H
                  have p419 : 0 ≤ (x11_2 : Int) := of_decide_eq_true (by first | (with_reducible assumption) | assumption)
                  have q419 : x11_2 < (l0.length : Int) := of_decide_eq_true (by first | (with_reducible assumption) | assumption)
                  obtain ⟨ad419, e419, hx419_0, hx419_1, hx419_2⟩ := at_T39 HR0.out x11_2 p419 q419
                  cases e419
                  replace hx419_0 := (HB.out.cell (World.block_lt_of_cell? w _ hx419_0)).trans hx419_0
                  replace hx419_1 := (HB.out.cell (World.block_lt_of_cell? w _ hx419_1)).trans hx419_1
                  replace hx419_2 := (HB.out.cell (World.block_lt_of_cell? w _ hx419_2)).trans hx419_2
                  replace p419 := eq_true p419
                  replace q419 := eq_true q419
                  try go_wp2
                  have n0_ := Aside0.mk (Kd.R_drew HO_8.out)
                  have n1_ := Aside0.mk (Kd.R_drew HO_10.out)
                  have n2_ := Aside0.mk (below_drew1 HB.out)
                  clear HO_8
                  clear HO_10
                  clear HB
                  have HO_8 := n0_
                  have HO_10 := n1_
                  have HB := n2_
                  clear n0_ n1_ n2_
                  have p420 : 0 ≤ (x11_2 : Int) := of_decide_eq_true (by first | (with_reducible assumption) | assumption)
                  have q420 : x11_2 < (l0.length : Int) := of_decide_eq_true (by first | (with_reducible assumption) | assumption)
                  obtain ⟨ad420, e420, hx420_0, hx420_1, hx420_2⟩ := at_T39 HR0.out x11_2 p420 q420
                  have hw420_2 := hx420_2
                  have hw420_1 := hx420_1
                  have hw420_0 := hx420_0
                  obtain rfl : ad419 = ad420 := (by injection e420)
                  replace hx420_0 := (HB.out.cell (World.block_lt_of_cell? w _ hx420_0)).trans hx420_0
                  replace hx420_1 := (HB.out.cell (World.block_lt_of_cell? w _ hx420_1)).trans hx420_1
                  replace hx420_2 := (HB.out.cell (World.block_lt_of_cell? w _ hx420_2)).trans hx420_2
                  replace p420 := eq_true p420
                  replace q420 := eq_true q420
                  obtain ⟨Ao24, co24, eo24⟩ := Kd.R_slice HO_8.out
                  (first | subst eo24 | (injection eo24 with f1_ f2_ f3_; have f4_ := f1_.symm; have f5_ := f3_.symm; clear f1_ f2_ f3_; subst f4_; subst f5_))
                  have p421 : 0 ≤ (((rd_T39 l0 x11_2).f1) : Int) := of_decide_eq_true (by first | (with_reducible assumption) | assumption)
                  have q421 : ((rd_T39 l0 x11_2).f1) < (x8_1.length : Int) := of_decide_eq_true (by first | (with_reducible assumption) | assumption)
                  obtain ⟨ad421, e421, hx421_0⟩ := Kd.at_int (Kd.R_reads' HO_8.out).2.2 ((rd_T39 l0 x11_2).f1) p421 q421
                  cases e421
                  replace p421 := eq_true p421
                  replace q421 := eq_true q421
                  have p422 : 0 ≤ (x11_2 : Int) := of_decide_eq_true (by first | (with_reducible assumption) | assumption)
                  have q422 : x11_2 < (l0.length : Int) := of_decide_eq_true (by first | (with_reducible assumption) | assumption)
                  obtain ⟨ad422, e422, hx422_0, hx422_1, hx422_2⟩ := at_T39 HR0.out x11_2 p422 q422
                  have hw422_2 := hx422_2
                  have hw422_1 := hx422_1
                  have hw422_0 := hx422_0
                  obtain rfl : ad419 = ad422 := (by injection e422)
                  replace hx422_0 := (HB.out.cell (World.block_lt_of_cell? w _ hx422_0)).trans hx422_0
                  replace hx422_1 := (HB.out.cell (World.block_lt_of_cell? w _ hx422_1)).trans hx422_1
                  replace hx422_2 := (HB.out.cell (World.block_lt_of_cell? w _ hx422_2)).trans hx422_2
                  replace p422 := eq_true p422
                  replace q422 := eq_true q422
                  have p423 : 0 ≤ (((rd_T39 l0 x11_2).f2) : Int) := of_decide_eq_true (by first | (with_reducible assumption) | assumption)
                  have q423 : ((rd_T39 l0 x11_2).f2) < (x8_1.length : Int) := of_decide_eq_true (by first | (with_reducible assumption) | assumption)
                  obtain ⟨ad423, e423, hx423_0⟩ := Kd.at_int (Kd.R_reads' HO_8.out).2.2 ((rd_T39 l0 x11_2).f2) p423 q423
                  obtain rfl : ad421 = ad423 := (by injection e423)
                  replace p423 := eq_true p423
                  replace q423 := eq_true q423
                  have p22 : 0 ≤ (x11_2 : Int) := of_decide_eq_true (by first | (with_reducible assumption) | assumption)
                  have q22 : (x11_2 : Int) < ((x10_2.length : Int) : Int) := of_decide_eq_true (by first | (with_reducible assumption) | assumption)
                  obtain ⟨go22, co22, eo22, gb22, gl22, cl22, HG22⟩ := Kd.R_form HO_10.out (by omega)
                  (first | cases eo22 | (injection eo22 with ea_ en_ ec_; (first | subst ea_ | (injection ea_ with ea_; subst ea_)); subst ec_; clear en_))
                  have GB22 := Aside0.mk gb22
                  have GG22 := Aside0.mk HG22
                  clear gb22 gl22 HG22
                  obtain ⟨hx22_0, hf22_0⟩ := Kd.R_celln 0 HO_10.out (x11_2 : Int) p22 q22
                  replace p22 := eq_true p22
                  replace q22 := eq_true q22
                  have HP25 := Kd.R_putn HO_10.out (x11_2 : Int) (wrap64 (1 + (ji20)))
                  rw [← Ny424.out] at HP25
                  have HQ25 := Aside0.mk HP25
                  clear HP25
                  refine start_ (n := 22) (S := fun w' => w'.cell? (ad419.add ((x11_2).toNat * 3)) = some (.int .i64 ((rd_T39 l0 x11_2).f0)) ∧ w'.cell? ⟨(ad419.add ((x11_2).toNat * 3)).block, (ad419.add ((x11_2).toNat * 3)).off + 1, none⟩ = some (.int .i64 ((rd_T39 l0 x11_2).f1)) ∧ w'.cell? ⟨(ad419.add ((x11_2).toNat * 3)).block, (ad419.add ((x11_2).toNat * 3)).off + 2, none⟩ = some (.int .i64 ((rd_T39 l0 x11_2).f2)) ∧ w'.cell? (ad421.add (((rd_T39 l0 x11_2).f1)).toNat) = some (.int .i64 (rd x8_1 ((rd_T39 l0 x11_2).f1))) ∧ w'.cell? (ad419.add ((x11_2).toNat * 3)) = some (.int .i64 ((rd_T39 l0 x11_2).f0)) ∧ w'.cell? ⟨(ad419.add ((x11_2).toNat * 3)).block, (ad419.add ((x11_2).toNat * 3)).off + 1, none⟩ = some (.int .i64 ((rd_T39 l0 x11_2).f1)) ∧ w'.cell? ⟨(ad419.add ((x11_2).toNat * 3)).block, (ad419.add ((x11_2).toNat * 3)).off + 2, none⟩ = some (.int .i64 ((rd_T39 l0 x11_2).f2)) ∧ w'.cell? (ad421.add (((rd_T39 l0 x11_2).f2)).toNat) = some (.int .i64 (rd x8_1 ((rd_T39 l0 x11_2).f2)))) (ds := [21]) #[false, false, false, false, false, false, false, false, false, false, false, false, false, false, false, false, false, false, false, false, false, false] (by kernel_rfl) rfl rfl ⟨((HB.out.cell (World.block_lt_of_cell? w _ hw420_0)).trans hw420_0), ((HB.out.cell (World.block_lt_of_cell? w _ hw420_1)).trans hw420_1), ((HB.out.cell (World.block_lt_of_cell? w _ hw420_2)).trans hw420_2), hx421_0, ((HB.out.cell (World.block_lt_of_cell? w _ hw422_0)).trans hw422_0), ((HB.out.cell (World.block_lt_of_cell? w _ hw422_1)).trans hw422_1), ((HB.out.cell (World.block_lt_of_cell? w _ hw422_2)).trans hw422_2), hx423_0⟩ (fun hHeld => ?_); refine with_tabW tickingref06_depth.tab10 tickingref06_depth.bits10 (fun HT_ HW_ => ?_)
                  generalize wr.drew = w23 at HO_8 HO_10 HB GG22 HQ25 hf22_0 hx22_0 hx420_0 hx420_1 hx420_2 hx421_0 hx422_0 hx422_1 hx422_2 hx423_0 hHeld ⊢
                  refine pure_ (i := 0) (N := some 35) (v := ?_) (a' := ?_) #[true, false, false, false, false, false, false, false, false, false, false, false, false, false, false, false, false, false, false, false, false, false] rfl rfl (any_of HT_.out (by kernel_rfl)) (fun _ _ _ h => h) (Or.inl ⟨by rfl, ?_⟩) ?_ ?_
                  rotate_left
                  ·intro w'
                   go_simp
                   with_reducible rfl
                  rotate_left
                  ·simp only [Act.put, List.setIfInBounds_toArray, List.set_cons_zero, List.set_cons_succ, i64_w, i32_w]
                   rfl
                  refine pure_ (i := 1) (N := some 36) (v := ?_) (a' := ?_) #[true, true, false, false, false, false, false, false, false, false, false, false, false, false, false, false, false, false, false, false, false, false] rfl rfl (any_of HT_.out (by kernel_rfl)) (fun _ _ _ h => h) (Or.inl ⟨by rfl, ?_⟩) ?_ ?_
                  rotate_left
                  ·intro w'
                   go_simp
                   with_reducible rfl
                  rotate_left
                  ·simp only [Act.put, List.setIfInBounds_toArray, List.set_cons_zero, List.set_cons_succ, i64_w, i32_w]
                   rfl
                  refine pure_ (i := 2) (N := some 37) (v := ?_) (a' := ?_) #[true, true, true, false, false, false, false, false, false, false, false, false, false, false, false, false, false, false, false, false, false, false] rfl rfl (any_of HT_.out (by kernel_rfl)) (fun _ _ _ h => h) (Or.inl ⟨by rfl, ?_⟩) ?_ ?_
                  rotate_left
                  ·intro w'
                   go_simp
                   with_reducible rfl
                  rotate_left
                  ·simp only [Act.put, List.setIfInBounds_toArray, List.set_cons_zero, List.set_cons_succ, i64_w, i32_w]
                   rfl
                  refine pure_ (i := 3) (N := some 38) (v := ?_) (a' := ?_) #[true, true, true, true, false, false, false, false, false, false, false, false, false, false, false, false, false, false, false, false, false, false] rfl rfl (any_of HT_.out (by kernel_rfl)) (fun _ _ _ h => h) (Or.inl ⟨by rfl, ?_⟩) ?_ ?_
                  rotate_left
                  ·intro w'
                   go_simp
                   with_reducible rfl
                  rotate_left
                  ·simp only [Act.put, List.setIfInBounds_toArray, List.set_cons_zero, List.set_cons_succ, i64_w, i32_w]
                   rfl
                  refine pure_ (i := 4) (N := some 39) (v := ?_) (a' := ?_) #[true, true, true, true, true, false, false, false, false, false, false, false, false, false, false, false, false, false, false, false, false, false] rfl rfl (any_of HT_.out (by kernel_rfl)) (fun _ _ _ h => h) (Or.inl ⟨by rfl, ?_⟩) ?_ ?_
                  rotate_left
                  ·intro w'
                   go_simp
                   with_reducible rfl
                  rotate_left
                  ·simp only [Act.put, List.setIfInBounds_toArray, List.set_cons_zero, List.set_cons_succ, i64_w, i32_w]
                   rfl
                  refine pure_ (i := 5) (N := some 40) (v := ?_) (a' := ?_) #[true, true, true, true, true, true, false, false, false, false, false, false, false, false, false, false, false, false, false, false, false, false] rfl rfl (any_of HT_.out (by kernel_rfl)) (fun _ _ _ h => h) (Or.inl ⟨by rfl, ?_⟩) ?_ ?_
                  rotate_left
                  ·intro w'
                   go_simp
                   with_reducible rfl
                  rotate_left
                  ·simp only [Act.put, List.setIfInBounds_toArray, List.set_cons_zero, List.set_cons_succ, i64_w, i32_w]
                   rfl
                  refine pure_ (i := 6) (N := some 41) (v := ?_) (a' := ?_) #[true, true, true, true, true, true, true, false, false, false, false, false, false, false, false, false, false, false, false, false, false, false] rfl rfl (any_of HT_.out (by kernel_rfl)) (fun _ _ _ h => h) (Or.inl ⟨by rfl, ?_⟩) ?_ ?_
                  rotate_left
                  ·intro w'
                   go_simp
                   with_reducible rfl
                  rotate_left
                  ·simp only [Act.put, List.setIfInBounds_toArray, List.set_cons_zero, List.set_cons_succ, i64_w, i32_w]
                   rfl
                  refine pure_ (i := 10) (N := some 45) (v := ?_) (a' := ?_) #[true, true, true, true, true, true, true, false, false, false, true, false, false, false, false, false, false, false, false, false, false, false] rfl rfl (any_of HT_.out (by kernel_rfl)) (fun _ _ _ h => h) (Or.inl ⟨by rfl, ?_⟩) ?_ ?_
                  rotate_left
                  ·intro w'
                   go_simp
                   with_reducible rfl
                  rotate_left
                  ·simp only [Act.put, List.setIfInBounds_toArray, List.set_cons_zero, List.set_cons_succ, i64_w, i32_w]
                   rfl
                  refine pure_ (i := 11) (N := some 46) (v := ?_) (a' := ?_) #[true, true, true, true, true, true, true, false, false, false, true, true, false, false, false, false, false, false, false, false, false, false] rfl rfl (any_of HT_.out (by kernel_rfl)) (fun _ _ _ h => h) (Or.inl ⟨by rfl, ?_⟩) ?_ ?_
                  rotate_left
                  ·intro w'
                   go_simp
                   with_reducible rfl
                  rotate_left
                  ·simp only [Act.put, List.setIfInBounds_toArray, List.set_cons_zero, List.set_cons_succ, i64_w, i32_w]
                   rfl
                  refine pure_ (i := 12) (N := some 47) (v := ?_) (a' := ?_) #[true, true, true, true, true, true, true, false, false, false, true, true, true, false, false, false, false, false, false, false, false, false] rfl rfl (any_of HT_.out (by kernel_rfl)) (fun _ _ _ h => h) (Or.inl ⟨by rfl, ?_⟩) ?_ ?_
                  rotate_left
                  ·intro w'
                   go_simp
                   with_reducible rfl
                  rotate_left
                  ·simp only [Act.put, List.setIfInBounds_toArray, List.set_cons_zero, List.set_cons_succ, i64_w, i32_w]
                   rfl
                  refine pure_ (i := 13) (N := some 48) (v := ?_) (a' := ?_) #[true, true, true, true, true, true, true, false, false, false, true, true, true, true, false, false, false, false, false, false, false, false] rfl rfl (any_of HT_.out (by kernel_rfl)) (fun _ _ _ h => h) (Or.inl ⟨by rfl, ?_⟩) ?_ ?_
                  rotate_left
                  ·intro w'
                   go_simp
                   with_reducible rfl
                  rotate_left
                  ·simp only [Act.put, List.setIfInBounds_toArray, List.set_cons_zero, List.set_cons_succ, i64_w, i32_w]
                   rfl
                  refine pure_ (i := 14) (N := some 49) (v := ?_) (a' := ?_) #[true, true, true, true, true, true, true, false, false, false, true, true, true, true, true, false, false, false, false, false, false, false] rfl rfl (any_of HT_.out (by kernel_rfl)) (fun _ _ _ h => h) (Or.inl ⟨by rfl, ?_⟩) ?_ ?_
                  rotate_left
                  ·intro w'
                   go_simp
                   with_reducible rfl
                  rotate_left
                  ·simp only [Act.put, List.setIfInBounds_toArray, List.set_cons_zero, List.set_cons_succ, i64_w, i32_w]
                   rfl
                  refine take_ (i := 7) (N := some 42) (v := ?_) (a' := ?_) #[true, true, true, true, true, true, true, true, false, false, true, true, true, true, true, false, false, false, false, false, false, false] rfl rfl (take_ofW HT_.out HW_.out (by kernel_rfl)) (fun _ _ _ h => h) (Or.inl ⟨by rfl, ?_⟩) hHeld ?_ ?_
                  rotate_left
                  ·rintro w' ⟨s0, s1, s2, s3, s4, s5, s6, s7⟩
                   go_simp
                   with_reducible rfl
                  rotate_left
                  ·simp only [Act.put, List.setIfInBounds_toArray, List.set_cons_zero, List.set_cons_succ, i64_w, i32_w]
                   rfl
                  refine pure_ (i := 8) (N := some 43) (v := ?_) (a' := ?_) #[true, true, true, true, true, true, true, true, true, false, true, true, true, true, true, false, false, false, false, false, false, false] rfl rfl (any_of HT_.out (by kernel_rfl)) (fun _ _ _ h => h) (Or.inl ⟨by rfl, ?_⟩) ?_ ?_
                  rotate_left
                  ·intro w'
                   go_simp
                   with_reducible rfl
                  rotate_left
                  ·simp only [Act.put, List.setIfInBounds_toArray, List.set_cons_zero, List.set_cons_succ, i64_w, i32_w]
                   rfl
                  refine take_ (i := 9) (N := some 44) (v := ?_) (a' := ?_) #[true, true, true, true, true, true, true, true, true, true, true, true, true, true, true, false, false, false, false, false, false, false] rfl rfl (take_ofW HT_.out HW_.out (by kernel_rfl)) (fun _ _ _ h => h) (Or.inl ⟨by rfl, ?_⟩) hHeld ?_ ?_
                  rotate_left
                  ·rintro w' ⟨s0, s1, s2, s3, s4, s5, s6, s7⟩
                   go_simp
                   with_reducible rfl
                  rotate_left
                  ·simp only [Act.put, List.setIfInBounds_toArray, List.set_cons_zero, List.set_cons_succ, i64_w, i32_w]
                   rfl
                  refine take_ (i := 15) (N := some 50) (v := ?_) (a' := ?_) #[true, true, true, true, true, true, true, true, true, true, true, true, true, true, true, true, false, false, false, false, false, false] rfl rfl (take_ofW HT_.out HW_.out (by kernel_rfl)) (fun _ _ _ h => h) (Or.inl ⟨by rfl, ?_⟩) hHeld ?_ ?_
                  rotate_left
                  ·rintro w' ⟨s0, s1, s2, s3, s4, s5, s6, s7⟩
                   go_simp
                   with_reducible rfl
                  rotate_left
                  ·simp only [Act.put, List.setIfInBounds_toArray, List.set_cons_zero, List.set_cons_succ, i64_w, i32_w]
                   rfl
                  refine pure_ (i := 16) (N := some 51) (v := ?_) (a' := ?_) #[true, true, true, true, true, true, true, true, true, true, true, true, true, true, true, true, true, false, false, false, false, false] rfl rfl (any_of HT_.out (by kernel_rfl)) (fun _ _ _ h => h) (Or.inl ⟨by rfl, ?_⟩) ?_ ?_
                  rotate_left
                  ·intro w'
                   go_simp
                   with_reducible rfl
                  rotate_left
                  ·simp only [Act.put, List.setIfInBounds_toArray, List.set_cons_zero, List.set_cons_succ, i64_w, i32_w]
                   rfl
                  refine take_ (i := 17) (N := some 52) (v := ?_) (a' := ?_) #[true, true, true, true, true, true, true, true, true, true, true, true, true, true, true, true, true, true, false, false, false, false] rfl rfl (take_ofW HT_.out HW_.out (by kernel_rfl)) (fun _ _ _ h => h) (Or.inl ⟨by rfl, ?_⟩) hHeld ?_ ?_
                  rotate_left
                  ·rintro w' ⟨s0, s1, s2, s3, s4, s5, s6, s7⟩
                   go_simp
                   with_reducible rfl
                  rotate_left
                  ·simp only [Act.put, List.setIfInBounds_toArray, List.set_cons_zero, List.set_cons_succ, i64_w, i32_w]
                   rfl
                  refine pure_ (i := 18) (N := some 53) (v := ?_) (a' := ?_) #[true, true, true, true, true, true, true, true, true, true, true, true, true, true, true, true, true, true, true, false, false, false] rfl rfl (any_of HT_.out (by kernel_rfl)) (fun _ _ _ h => h) (Or.inl ⟨by rfl, ?_⟩) ?_ ?_
                  rotate_left
                  ·intro w'
                   go_simp
                   with_reducible rfl
                  rotate_left
                  ·simp only [Act.put, List.setIfInBounds_toArray, List.set_cons_zero, List.set_cons_succ, i64_w, i32_w]
                   rfl
                  refine pure_ (i := 19) (N := some 54) (v := ?_) (a' := ?_) #[true, true, true, true, true, true, true, true, true, true, true, true, true, true, true, true, true, true, true, true, false, false] rfl rfl (any_of HT_.out (by kernel_rfl)) (fun _ _ _ h => h) (Or.inl ⟨by rfl, ?_⟩) ?_ ?_
                  rotate_left
                  ·intro w'
                   go_simp
                   with_reducible rfl
                  rotate_left
                  ·simp only [Act.put, List.setIfInBounds_toArray, List.set_cons_zero, List.set_cons_succ, i64_w, i32_w]
                   rfl
                  refine pure_ (i := 20) (N := some 55) (v := ?_) (a' := ?_) #[true, true, true, true, true, true, true, true, true, true, true, true, true, true, true, true, true, true, true, true, true, false] rfl rfl (any_of HT_.out (by kernel_rfl)) (fun _ _ _ h => h) (Or.inl ⟨by rfl, ?_⟩) ?_ ?_
                  rotate_left
                  ·intro w'
                   go_simp
                   with_reducible rfl
                  rotate_left
                  ·simp only [Act.put, List.setIfInBounds_toArray, List.set_cons_zero, List.set_cons_succ, i64_w, i32_w]
                   rfl
                  refine last_ (i := 21) (N := none) #[true, true, true, true, true, true, true, true, true, true, true, true, true, true, true, true, true, true, true, true, true, true] rfl rfl (one_of HT_.out (by kernel_rfl)) (by decide) (fun K hK => ?_)
                  refine skip_ (w1 := ?_) (by rfl) rfl ?_ ?_
                  rotate_left
                  ·go_simp
                   rfl
                  refine hK.out _ _ ?_
                  clear hK K
                  refine done_ (done_of HT_.out (by kernel_rfl)) ?_
                  try go_wp2
                  go_roundg k2
                  case measure => have := HK1.out; have := HK2.out; omega
                  case rel => exact ⟨(y424), (wrap64 (x11_2 + 1)), (by first | rfl | (simp; done) | (simp [*]; done)), H', ⟨by have := HK1.out; have := HK2.out; omega⟩, ⟨by (with_reducible repeat (first | apply Kd.R_alloc | apply Kd.R_drewN | apply Kd.R_drew)); exact Kd.R_mono (Kd.R_far (p := ⟨go22, (x11_2 : Int).toNat, none⟩) (Kd.R_mono HO_8.out (fun k_ hk => (⟨hk, fun e_ => hk (by rw [e_]; rfl)⟩ : _ ∧ k_ ≠ go22))) (fun _ hk => hk.2) (.int .i64 (wrap64 (1 + (ji20))))) (fun _ hk => hk.1)⟩, ⟨by (with_reducible repeat (first | apply Kd.R_alloc | apply Kd.R_drewN | apply Kd.R_drew)); exact HQ25.out⟩, ⟨by repeat (first | (with_reducible first | exact HB.out | apply below_alloc | apply pw_below_drewN | apply below_drew1 | refine below_set ?_ GB22.out) | exact HB.out)⟩⟩
                 ·rw [if_neg c21] at H
                  exact absurd H (by simp)
                ·rw [if_neg c19] at H
                 exact absurd H (by simp)
               ·rw [if_neg c18] at H
                exact absurd H (by simp)
              ·rw [if_neg c17] at H
               exact absurd H (by simp)
             ·rw [if_neg c16] at H
              exact absurd H (by simp)
            ·rw [if_neg c15] at H
             have c15b0 : decide (4 ≤ ((rd_T39 l0 x11_2).f0)) = false := decide_eq_false c15
             clear c15
             have H' := Aside0.mk H
             clear H
             have p419 : 0 ≤ (x11_2 : Int) := of_decide_eq_true (by first | (with_reducible assumption) | assumption)
             have q419 : x11_2 < (l0.length : Int) := of_decide_eq_true (by first | (with_reducible assumption) | assumption)
             obtain ⟨ad419, e419, hx419_0, hx419_1, hx419_2⟩ := at_T39 HR0.out x11_2 p419 q419
             cases e419
             replace hx419_0 := (HB.out.cell (World.block_lt_of_cell? w _ hx419_0)).trans hx419_0
             replace hx419_1 := (HB.out.cell (World.block_lt_of_cell? w _ hx419_1)).trans hx419_1
             replace hx419_2 := (HB.out.cell (World.block_lt_of_cell? w _ hx419_2)).trans hx419_2
             replace p419 := eq_true p419
             replace q419 := eq_true q419
             go_wp2
             go_roundg k2
             case measure => have := HK1.out; have := HK2.out; omega
             case rel => exact ⟨(x10_2), (wrap64 (x11_2 + 1)), (by first | rfl | (simp; done) | (simp [*]; done)), H', ⟨by have := HK1.out; have := HK2.out; omega⟩, ⟨by (with_reducible repeat (first | apply Kd.R_alloc | apply Kd.R_drewN | apply Kd.R_drew)); exact HO_8.out⟩, ⟨by (with_reducible repeat (first | apply Kd.R_alloc | apply Kd.R_drewN | apply Kd.R_drew)); exact HO_10.out⟩, ⟨by repeat (first | (with_reducible first | exact HB.out | apply below_alloc | apply pw_below_drewN | apply below_drew1) | exact HB.out)⟩⟩
           ·rw [if_neg c14] at H
            exact absurd H (by simp)
          ·rw [if_neg c13] at H
           have c13b0 : decide (x11_2 < (l0.length : Int)) = false := decide_eq_false c13
           clear c13
           have H' := Aside0.mk H
           clear H
           go_wp2
           go_roundg k2
           case measure => have := HK1.out; have := HK2.out; omega
           case rel => exact ⟨(x10_2), (wrap64 (x9_1 + 1)), (by first | rfl | (simp; done) | (simp [*]; done)), H', ⟨by have := HK1.out; have := HK2.out; omega⟩, ⟨by (with_reducible repeat (first | apply Kd.R_alloc | apply Kd.R_drewN | apply Kd.R_drew)); exact Kd.R_mono HO_10.out (fun _ hk => trivial)⟩, ⟨by repeat (first | (with_reducible first | exact HB.out | apply below_alloc | apply pw_below_drewN | apply below_drew1) | exact HB.out)⟩⟩
       ·rw [if_neg c10] at H
        exact absurd H (by simp)
      ·rw [if_neg c9] at H
       exact absurd H (by simp)
     ·rw [if_neg c8] at H
      have c8b0 : decide (x9_1 ≤ a2) = false := decide_eq_false c8
      clear c8
      by_cases c26 : 0 ≤ a1
      ·rw [if_pos c26] at H
       have c26b0 : decide (0 ≤ a1) = true := decide_eq_true c26
       clear c26
       by_cases c27 : a1 < (x8_1.length : Int)
       ·rw [if_pos c27] at H
        have c27b0 : decide (a1 < (x8_1.length : Int)) = true := decide_eq_true c27
        clear c27
        simp only [Option.some.injEq, Prod.mk.injEq] at H
        obtain ⟨rfl, rfl⟩ := H
        try go_wp2
        have n0_ := Aside0.mk (Kd.R_drew HO_8.out)
        have n1_ := Aside0.mk (below_drew1 HB.out)
        clear HO_8
        clear HB
        have HO_8 := n0_
        have HB := n1_
        clear n0_ n1_
        obtain ⟨Ao29, co29, eo29⟩ := Kd.R_slice HO_8.out
        (first | subst eo29 | (injection eo29 with f1_ f2_ f3_; have f4_ := f1_.symm; have f5_ := f3_.symm; clear f1_ f2_ f3_; subst f4_; subst f5_))
        have p414 : 0 ≤ (a1 : Int) := of_decide_eq_true (by first | (with_reducible assumption) | assumption)
        have q414 : a1 < (x8_1.length : Int) := of_decide_eq_true (by first | (with_reducible assumption) | assumption)
        obtain ⟨ad414, e414, hx414_0⟩ := Kd.at_int (Kd.R_reads' HO_8.out).2.2 a1 p414 q414
        cases e414
        replace p414 := eq_true p414
        replace q414 := eq_true q414
        have p415 : 0 ≤ (a1 : Int) := of_decide_eq_true (by first | (with_reducible assumption) | assumption)
        have q415 : a1 < (x8_1.length : Int) := of_decide_eq_true (by first | (with_reducible assumption) | assumption)
        obtain ⟨ad415, e415, hx415_0⟩ := Kd.at_int (Kd.R_reads' HO_8.out).2.2 a1 p415 q415
        obtain rfl : ad414 = ad415 := (by injection e415)
        replace p415 := eq_true p415
        replace q415 := eq_true q415
        refine start_ (n := 12) (S := fun w' => w'.cell? (ad414.add (a1).toNat) = some (.int .i64 (rd x8_1 a1)) ∧ w'.cell? (ad414.add (a1).toNat) = some (.int .i64 (rd x8_1 a1))) (ds := []) #[false, false, false, false, false, false, false, false, false, false, false, false] (by kernel_rfl) rfl rfl ⟨hx414_0, hx415_0⟩ (fun hHeld => ?_); refine with_tabW tickingref06_depth.tab12 tickingref06_depth.bits12 (fun HT_ HW_ => ?_)
        generalize wr.drew = w28 at HO_8 HB hx414_0 hx415_0 hHeld ⊢
        refine pure_ (i := 0) (N := some 57) (v := ?_) (a' := ?_) #[true, false, false, false, false, false, false, false, false, false, false, false] rfl rfl (any_of HT_.out (by kernel_rfl)) (fun _ _ _ h => h) (Or.inl ⟨by rfl, ?_⟩) ?_ ?_
        rotate_left
        ·intro w'
         go_simp
         with_reducible rfl
        rotate_left
        ·simp only [Act.put, List.setIfInBounds_toArray, List.set_cons_zero, List.set_cons_succ, i64_w, i32_w]
         rfl
        refine pure_ (i := 1) (N := some 58) (v := ?_) (a' := ?_) #[true, true, false, false, false, false, false, false, false, false, false, false] rfl rfl (any_of HT_.out (by kernel_rfl)) (fun _ _ _ h => h) (Or.inl ⟨by rfl, ?_⟩) ?_ ?_
        rotate_left
        ·intro w'
         go_simp
         with_reducible rfl
        rotate_left
        ·simp only [Act.put, List.setIfInBounds_toArray, List.set_cons_zero, List.set_cons_succ, i64_w, i32_w]
         rfl
        refine pure_ (i := 2) (N := some 59) (v := ?_) (a' := ?_) #[true, true, true, false, false, false, false, false, false, false, false, false] rfl rfl (any_of HT_.out (by kernel_rfl)) (fun _ _ _ h => h) (Or.inl ⟨by rfl, ?_⟩) ?_ ?_
        rotate_left
        ·intro w'
         go_simp
         with_reducible rfl
        rotate_left
        ·simp only [Act.put, List.setIfInBounds_toArray, List.set_cons_zero, List.set_cons_succ, i64_w, i32_w]
         rfl
        refine pure_ (i := 4) (N := some 61) (v := ?_) (a' := ?_) #[true, true, true, false, true, false, false, false, false, false, false, false] rfl rfl (any_of HT_.out (by kernel_rfl)) (fun _ _ _ h => h) (Or.inl ⟨by rfl, ?_⟩) ?_ ?_
        rotate_left
        ·intro w'
         go_simp
         with_reducible rfl
        rotate_left
        ·simp only [Act.put, List.setIfInBounds_toArray, List.set_cons_zero, List.set_cons_succ, i64_w, i32_w]
         rfl
        refine pure_ (i := 5) (N := some 62) (v := ?_) (a' := ?_) #[true, true, true, false, true, true, false, false, false, false, false, false] rfl rfl (any_of HT_.out (by kernel_rfl)) (fun _ _ _ h => h) (Or.inl ⟨by rfl, ?_⟩) ?_ ?_
        rotate_left
        ·intro w'
         go_simp
         with_reducible rfl
        rotate_left
        ·simp only [Act.put, List.setIfInBounds_toArray, List.set_cons_zero, List.set_cons_succ, i64_w, i32_w]
         rfl
        refine pure_ (i := 6) (N := some 63) (v := ?_) (a' := ?_) #[true, true, true, false, true, true, true, false, false, false, false, false] rfl rfl (any_of HT_.out (by kernel_rfl)) (fun _ _ _ h => h) (Or.inl ⟨by rfl, ?_⟩) ?_ ?_
        rotate_left
        ·intro w'
         go_simp
         with_reducible rfl
        rotate_left
        ·simp only [Act.put, List.setIfInBounds_toArray, List.set_cons_zero, List.set_cons_succ, i64_w, i32_w]
         rfl
        refine pure_ (i := 8) (N := some 65) (v := ?_) (a' := ?_) #[true, true, true, false, true, true, true, false, true, false, false, false] rfl rfl (any_of HT_.out (by kernel_rfl)) (fun _ _ _ h => h) (Or.inl ⟨by rfl, ?_⟩) ?_ ?_
        rotate_left
        ·intro w'
         go_simp
         with_reducible rfl
        rotate_left
        ·simp only [Act.put, List.setIfInBounds_toArray, List.set_cons_zero, List.set_cons_succ, i64_w, i32_w]
         rfl
        refine take_ (i := 3) (N := some 60) (v := ?_) (a' := ?_) #[true, true, true, true, true, true, true, false, true, false, false, false] rfl rfl (take_ofW HT_.out HW_.out (by kernel_rfl)) (fun _ _ _ h => h) (Or.inl ⟨by rfl, ?_⟩) hHeld ?_ ?_
        rotate_left
        ·rintro w' ⟨s0, s1⟩
         go_simp
         with_reducible rfl
        rotate_left
        ·simp only [Act.put, List.setIfInBounds_toArray, List.set_cons_zero, List.set_cons_succ, i64_w, i32_w]
         rfl
        refine pure_ (i := 10) (N := some 6) (v := ?_) (a' := ?_) #[true, true, true, true, true, true, true, false, true, false, true, false] rfl rfl (any_of HT_.out (by kernel_rfl)) (fun _ _ _ h => h) (Or.inl ⟨by rfl, ?_⟩) ?_ ?_
        rotate_left
        ·intro w'
         go_simp
         with_reducible rfl
        rotate_left
        ·simp only [Act.put, List.setIfInBounds_toArray, List.set_cons_zero, List.set_cons_succ, i64_w, i32_w]
         rfl
        refine take_ (i := 7) (N := some 64) (v := ?_) (a' := ?_) #[true, true, true, true, true, true, true, true, true, false, true, false] rfl rfl (take_ofW HT_.out HW_.out (by kernel_rfl)) (fun _ _ _ h => h) (Or.inl ⟨by rfl, ?_⟩) hHeld ?_ ?_
        rotate_left
        ·rintro w' ⟨s0, s1⟩
         go_simp
         with_reducible rfl
        rotate_left
        ·simp only [Act.put, List.setIfInBounds_toArray, List.set_cons_zero, List.set_cons_succ, i64_w, i32_w]
         rfl
        refine pure_ (i := 9) (N := some 66) (v := ?_) (a' := ?_) #[true, true, true, true, true, true, true, true, true, true, true, false] rfl rfl (any_of HT_.out (by kernel_rfl)) (fun _ _ _ h => h) (Or.inl ⟨by rfl, ?_⟩) ?_ ?_
        rotate_left
        ·intro w'
         go_simp
         with_reducible rfl
        rotate_left
        ·simp only [Act.put, List.setIfInBounds_toArray, List.set_cons_zero, List.set_cons_succ, i64_w, i32_w]
         rfl
        refine pure_ (i := 11) (N := some 7) (v := ?_) (a' := ?_) #[true, true, true, true, true, true, true, true, true, true, true, true] rfl rfl (any_of HT_.out (by kernel_rfl)) (fun _ _ _ h => h) (Or.inl ⟨by rfl, ?_⟩) ?_ ?_
        rotate_left
        ·intro w'
         go_simp
         with_reducible rfl
        rotate_left
        ·simp only [Act.put, List.setIfInBounds_toArray, List.set_cons_zero, List.set_cons_succ, i64_w, i32_w]
         rfl
        refine done_ (done_of HT_.out (by kernel_rfl)) ?_
        try go_wp2
        go_ret2
        exact ⟨by first | rfl | (simp [errW_none, errW_some] <;> rfl) | (simp [*, errW_none, errW_some] <;> rfl), by repeat (first | (with_reducible first | exact HB.out | apply below_alloc | apply pw_below_drewN | apply below_drew1) | exact HB.out)⟩
       ·rw [if_neg c27] at H
        exact absurd H (by simp)
      ·rw [if_neg c26] at H
       exact absurd H (by simp)
  ·rw [if_neg c5] at H
   exact absurd H (by simp)
 ·rw [if_neg c4] at H
  exact absurd H (by simp)

def tickingref06_Depth.f (k : Nat) (l0 : List (S39)) (a1 : Int) : Option (Int × Bool) := (tickingref06_depth.f k l0 a1 (l0.length : Int)).bind fun bt425 => (some (bt425.1, bt425.2))
set_option maxHeartbeats 8000000 in
set_option maxRecDepth 100000 in
theorem tickingref06_Depth.calls (k : Nat) (A0 : Option Addr) (c0 : Nat) (l0 : List (S39)) (a1 : Int) (r1 : Int) (r2 : Bool) (w : World) (hr0 : Kd.C k39 w A0 l0.length l0) (hc0 : l0.length ≤ c0) (h : tickingref06_Depth.f k l0 a1 = some (r1, r2)) :
  Calls Try.prog 32 #[.slice A0 l0.length c0, .int .i64 a1] w fun e w' => e = .returned (.tuple #[.int .i64 r1, .bool r2]) ∧ Below w.heap.size w w' := by
 have HR0 := Aside0.mk hr0
 have HC0 := Aside0.mk hc0
 clear hr0 hc0
 have HB := Aside0.mk (Below.refl w.heap.size w)
 have H : ((tickingref06_depth.f k l0 a1 (l0.length : Int)).bind fun bt425 => (some (bt425.1, bt425.2))) = some (r1, r2) := h
 clear h
 replace H := Option.bind_eq_some_iff.mp H
 obtain ⟨⟨t425, t426⟩, A30, H⟩ := H
 replace H : (some (t425, t426)) = some (r1, r2) := H
 have A3 := Aside0.mk A30
 clear A30
 simp only [Option.some.injEq, Prod.mk.injEq] at H
 obtain ⟨rfl, rfl⟩ := H
 go_enter Try.func32, Try.ntmps32
 go_wp2_with (first | ((with_reducible refine gate_callee (f := 49) rfl ?_); refine goesL_ (some 10) rfl rfl Try.func49 (by kernel_rfl) rfl #[.slice A0 l0.length c0, .int .i64 a1, .int .i64 (l0.length : Int)] rfl (by (try simp only [List.map_toArray, List.map_cons, List.map_nil]); first | done | rfl | (simp only [List.length_drop, List.length_take]; rfl)) ?_; (with_reducible refine (tickingref06_depth.calls k _ _ l0 a1 (l0.length : Int) t425 t426 _ ?side1 ?side2 A3.out).mono ?_); (case side1 => repeat (first | exact HR0.out | (with_reducible refine Kd.C_alloc ?_ _) | (with_reducible refine Kd.C_drewN ?_ _) | (with_reducible refine Kd.C_drew ?_))); (case side2 => exact HC0.out); rintro e w4 ⟨rfl, hb⟩; refine ⟨_, rfl, ?_⟩; have n0_ := Aside0.mk (below_step (by repeat (first | (with_reducible first | exact HB.out | apply below_alloc | apply pw_below_drewN | apply below_drew1) | exact HB.out)) hb); clear HB; have HB := n0_; clear n0_; (try clear hb); (try clear hb2); (try clear hk); (try clear hi)))
 go_ret2
 exact ⟨by first | rfl | (simp [errW_none, errW_some] <;> rfl) | (simp [*, errW_none, errW_some] <;> rfl), by repeat (first | (with_reducible first | exact HB.out | apply below_alloc | apply pw_below_drewN | apply below_drew1) | exact HB.out)⟩

mutual
def tickinglaw06_LoopsOrders.l0 : Nat → Int → List (S39) → Int → Int → List (S23) → Int → List Bool → List (S23) → Int → Option (Bool)
 | 0, _, _, _, _, _, _, _, _, _ => none
 | k + 1, x1, x5, x6, x7, x8, x9, x10, x11, x12 => if x12 < (x5.length : Int) then (tickinglaw06_LoopsOrders.l1 k x1 x5 x6 x7 x8 x9 x10 x11 x12 0) else ((tickinglaw06_pairs.f k x8 x11).bind fun t445 => (if t445 = true then (tickinglaw06_LoopsOrders.j2 k x1 x5 x6 x7 (x9 != 0)) else (tickinglaw06_LoopsOrders.j2 k x1 x5 x6 x7 true)))
def tickinglaw06_LoopsOrders.l1 : Nat → Int → List (S39) → Int → Int → List (S23) → Int → List Bool → List (S23) → Int → Int → Option (Bool)
 | 0, _, _, _, _, _, _, _, _, _, _ => none
 | k + 1, x1, x5, x6, x7, x8, x9, x10, x11, x12, x13 => if x13 < (x5.length : Int) then (if x12 = x13 then (tickinglaw06_LoopsOrders.l1 k x1 x5 x6 x7 x8 x9 x10 x11 x12 (wrap64 (x13 + 1))) else (if 0 ≤ (wrap64 ((wrap64 ((x5.length : Int) * x12)) + x13)) then (if (wrap64 ((wrap64 ((x5.length : Int) * x12)) + x13)) < (x10.length : Int) then (if rdOf false x10 (wrap64 ((wrap64 ((x5.length : Int) * x12)) + x13)) = true then (if x11.length < 8796093022208 then (tickinglaw06_LoopsOrders.l1 k x1 x5 x6 x7 x8 x9 x10 (x11 ++ [(⟨x12, x13⟩ : S23)]) x12 (wrap64 (x13 + 1))) else (none)) else (tickinglaw06_LoopsOrders.l1 k x1 x5 x6 x7 x8 x9 x10 x11 x12 (wrap64 (x13 + 1)))) else (none)) else (none))) else (tickinglaw06_LoopsOrders.l0 k x1 x5 x6 x7 x8 x9 x10 x11 (wrap64 (x12 + 1)))
def tickinglaw06_LoopsOrders.j2 : Nat → Int → List (S39) → Int → Int → Bool → Option (Bool)
 | 0, _, _, _, _, _ => none
 | k + 1, x1, x5, x6, x7, x91 => if x91 = true then (some false) else ((tickinglaw06_bad.f k x5 x1 x1).bind fun t446 => (if t446 = true then (if x6 = 0 then (if x7 = 2 then ((tickinglaw06_awake.f k).bind fun t447 => (some t447)) else (some false)) else (some false)) else ((tickingref06_Depth.f k x5 x1).bind fun bt448 => (if bt448.2 = true then (if x6 = bt448.1 then (if x7 = 0 then ((tickinglaw06_awake.f k).bind fun t450 => (some t450)) else (some false)) else (some false)) else (if x6 = 0 then (if x7 = 6 then ((tickinglaw06_awake.f k).bind fun t451 => (some t451)) else (some false)) else (some false))))))
end
def tickinglaw06_LoopsOrders.f (k : Nat) (l0 : List (S39)) (a1 : Int) : Option (Bool) := (tickinglaw06_own.f l0).bind fun t427 => ((loops_Depth.f k t427 a1).bind fun bt430 => ((loops_Order.f k t427).bind fun bt432 => ((tickingref06_Types.f k t427 24).bind fun t436 => (if t436 = true then ((tickingref06_Subtypes.f k t427).bind fun t438 => (tickinglaw06_LoopsOrders.l0 k a1 t427 bt430.1 bt430.2 bt432.1 bt432.2 t438 ([] : List (S23)) 0)) else (if bt430.1 = 0 then (if bt430.2 = 2 then (if (bt432.1.length : Int) = 0 then (if bt432.2 = 2 then ((tickinglaw06_awake.f k).bind fun t437 => (some t437)) else (some false)) else (some false)) else (some false)) else (some false))))))
set_option maxHeartbeats 8000000 in
set_option maxRecDepth 100000 in
theorem tickinglaw06_LoopsOrders.calls (k : Nat) (A0 : Option Addr) (c0 : Nat) (l0 : List (S39)) (a1 : Int) (r : Bool) (w : World) (hr0 : Kd.C k39 w A0 l0.length l0) (hc0 : l0.length ≤ c0) (h : tickinglaw06_LoopsOrders.f k l0 a1 = some r) :
  Calls Try.prog 7 #[.slice A0 l0.length c0, .int .i64 a1] w fun e w' => e = .returned (.bool r) ∧ Below w.heap.size w w' := by
 have hu23 := Try.underlying23
 have HR0 := Aside0.mk hr0
 have HC0 := Aside0.mk hc0
 clear hr0 hc0
 have HB := Aside0.mk (Below.refl w.heap.size w)
 have H : ((tickinglaw06_own.f l0).bind fun t427 => ((loops_Depth.f k t427 a1).bind fun bt430 => ((loops_Order.f k t427).bind fun bt432 => ((tickingref06_Types.f k t427 24).bind fun t436 => (if t436 = true then ((tickingref06_Subtypes.f k t427).bind fun t438 => (tickinglaw06_LoopsOrders.l0 k a1 t427 bt430.1 bt430.2 bt432.1 bt432.2 t438 ([] : List (S23)) 0)) else (if bt430.1 = 0 then (if bt430.2 = 2 then (if (bt432.1.length : Int) = 0 then (if bt432.2 = 2 then ((tickinglaw06_awake.f k).bind fun t437 => (some t437)) else (some false)) else (some false)) else (some false)) else (some false))))))) = some r := h
 clear h
 replace H := Option.bind_eq_some_iff.mp H
 obtain ⟨t427, A30, H⟩ := H
 replace H : ((loops_Depth.f k t427 a1).bind fun bt430 => ((loops_Order.f k t427).bind fun bt432 => ((tickingref06_Types.f k t427 24).bind fun t436 => (if t436 = true then ((tickingref06_Subtypes.f k t427).bind fun t438 => (tickinglaw06_LoopsOrders.l0 k a1 t427 bt430.1 bt430.2 bt432.1 bt432.2 t438 ([] : List (S23)) 0)) else (if bt430.1 = 0 then (if bt430.2 = 2 then (if (bt432.1.length : Int) = 0 then (if bt432.2 = 2 then ((tickinglaw06_awake.f k).bind fun t437 => (some t437)) else (some false)) else (some false)) else (some false)) else (some false)))))) = some r := H
 have A3 := Aside0.mk A30
 clear A30
 replace H := Option.bind_eq_some_iff.mp H
 obtain ⟨⟨t430, t431⟩, A40, H⟩ := H
 replace H : ((loops_Order.f k t427).bind fun bt432 => ((tickingref06_Types.f k t427 24).bind fun t436 => (if t436 = true then ((tickingref06_Subtypes.f k t427).bind fun t438 => (tickinglaw06_LoopsOrders.l0 k a1 t427 t430 t431 bt432.1 bt432.2 t438 ([] : List (S23)) 0)) else (if t430 = 0 then (if t431 = 2 then (if (bt432.1.length : Int) = 0 then (if bt432.2 = 2 then ((tickinglaw06_awake.f k).bind fun t437 => (some t437)) else (some false)) else (some false)) else (some false)) else (some false))))) = some r := H
 have A4 := Aside0.mk A40
 clear A40
 replace H := Option.bind_eq_some_iff.mp H
 obtain ⟨⟨t432, t433⟩, A50, H⟩ := H
 replace H : ((tickingref06_Types.f k t427 24).bind fun t436 => (if t436 = true then ((tickingref06_Subtypes.f k t427).bind fun t438 => (tickinglaw06_LoopsOrders.l0 k a1 t427 t430 t431 t432 t433 t438 ([] : List (S23)) 0)) else (if t430 = 0 then (if t431 = 2 then (if (t432.length : Int) = 0 then (if t433 = 2 then ((tickinglaw06_awake.f k).bind fun t437 => (some t437)) else (some false)) else (some false)) else (some false)) else (some false)))) = some r := H
 have A5 := Aside0.mk A50
 clear A50
 replace H := Option.bind_eq_some_iff.mp H
 obtain ⟨t436, A60, H⟩ := H
 replace H : (if t436 = true then ((tickingref06_Subtypes.f k t427).bind fun t438 => (tickinglaw06_LoopsOrders.l0 k a1 t427 t430 t431 t432 t433 t438 ([] : List (S23)) 0)) else (if t430 = 0 then (if t431 = 2 then (if (t432.length : Int) = 0 then (if t433 = 2 then ((tickinglaw06_awake.f k).bind fun t437 => (some t437)) else (some false)) else (some false)) else (some false)) else (some false))) = some r := H
 have A6 := Aside0.mk A60
 clear A60
 by_cases c7 : t436 = true
 ·subst c7
  have H1 : ((tickingref06_Subtypes.f k t427).bind fun t438 => (tickinglaw06_LoopsOrders.l0 k a1 t427 t430 t431 t432 t433 t438 ([] : List (S23)) 0)) = some r := by rw [if_pos rfl] at H; exact H
  clear H
  have H := H1
  clear H1
  replace H := Option.bind_eq_some_iff.mp H
  obtain ⟨t438, A80, H⟩ := H
  replace H : (tickinglaw06_LoopsOrders.l0 k a1 t427 t430 t431 t432 t433 t438 ([] : List (S23)) 0) = some r := H
  have A8 := Aside0.mk A80
  clear A80
  have H' := Aside0.mk H
  clear H
  go_enter Try.func7, Try.ntmps7
  go_wp2_with (first | ((with_reducible refine gate_callee (f := 15) rfl ?_); refine goesL_ (some 17) rfl rfl Try.func15 (by kernel_rfl) rfl #[.slice A0 l0.length c0] rfl (by (try simp only [List.map_toArray, List.map_cons, List.map_nil]); first | done | rfl | (simp only [List.length_drop, List.length_take]; rfl)) ?_; (with_reducible refine (tickinglaw06_own.calls _ _ l0 t427 _ ?side1 ?side2 A3.out).mono ?_); (case side1 => repeat (first | exact HR0.out | (with_reducible refine Kd.C_alloc ?_ _) | (with_reducible refine Kd.C_drewN ?_ _) | (with_reducible refine Kd.C_drew ?_))); (case side2 => exact HC0.out); rintro e w9 ⟨v428, rfl, ho0, hb⟩; refine ⟨_, rfl, ?_⟩; have n0_ := Aside0.mk (Kd.R_lower ho0 (below_size (by repeat (first | (with_reducible first | exact HB.out | apply below_alloc | apply pw_below_drewN | apply below_drew1) | exact HB.out)))); have n1_ := Aside0.mk (below_step (by repeat (first | (with_reducible first | exact HB.out | apply below_alloc | apply pw_below_drewN | apply below_drew1) | exact HB.out)) hb); clear HB; have HO429 := n0_; have HB := n1_; clear n0_ n1_; (try clear hb); (try clear hb2); (try clear hk); (try clear hi); (try clear ho0); obtain ⟨Ao10, co10, eo10⟩ := Kd.R_slice HO429.out; subst eo10) | ((with_reducible refine gate_callee (f := 28) rfl ?_); refine goesL_ (some 21) rfl rfl Try.func28 (by kernel_rfl) rfl #[.slice Ao10 t427.length co10, .int .i64 a1] rfl (by (try simp only [List.map_toArray, List.map_cons, List.map_nil]); first | done | rfl | (simp only [List.length_drop, List.length_take]; rfl)) ?_; (with_reducible refine (loops_Depth.calls k _ _ t427 a1 t430 t431 _ ?side1 ?side2 A4.out).mono ?_); (case side1 => repeat (first | exact (Kd.R_reads' HO429.out).2.2 | (with_reducible refine Kd.C_alloc ?_ _) | (with_reducible refine Kd.C_drewN ?_ _) | (with_reducible refine Kd.C_drew ?_))); (case side2 => exact (Kd.R_reads' HO429.out).2.1); rintro e w11 ⟨rfl, hb⟩; refine ⟨_, rfl, ?_⟩; have n0_ := Aside0.mk (Kd.R_below (by (with_reducible repeat (first | apply Kd.R_alloc | apply Kd.R_drewN | apply Kd.R_drew)); exact HO429.out) hb); have n1_ := Aside0.mk (below_step (by repeat (first | (with_reducible first | exact HB.out | apply below_alloc | apply pw_below_drewN | apply below_drew1) | exact HB.out)) hb); clear HO429; clear HB; have HO429 := n0_; have HB := n1_; clear n0_ n1_; (try clear hb); (try clear hb2); (try clear hk); (try clear hi)) | ((with_reducible refine gate_callee (f := 29) rfl ?_); refine goesL_ (some 26) rfl rfl Try.func29 (by kernel_rfl) rfl #[.slice Ao10 t427.length co10] rfl (by (try simp only [List.map_toArray, List.map_cons, List.map_nil]); first | done | rfl | (simp only [List.length_drop, List.length_take]; rfl)) ?_; (with_reducible refine (loops_Order.calls k _ _ t427 t432 t433 _ ?side1 ?side2 A5.out).mono ?_); (case side1 => repeat (first | exact (Kd.R_reads' HO429.out).2.2 | (with_reducible refine Kd.C_alloc ?_ _) | (with_reducible refine Kd.C_drewN ?_ _) | (with_reducible refine Kd.C_drew ?_))); (case side2 => exact (Kd.R_reads' HO429.out).2.1); rintro e w12 ⟨v434, rfl, ho0, hb⟩; refine ⟨_, rfl, ?_⟩; have n0_ := Aside0.mk (Kd.R_below (by (with_reducible repeat (first | apply Kd.R_alloc | apply Kd.R_drewN | apply Kd.R_drew)); exact HO429.out) hb); have n1_ := Aside0.mk (Kd.R_lower ho0 (below_size (by repeat (first | (with_reducible first | exact HB.out | apply below_alloc | apply pw_below_drewN | apply below_drew1) | exact HB.out)))); have n2_ := Aside0.mk (below_step (by repeat (first | (with_reducible first | exact HB.out | apply below_alloc | apply pw_below_drewN | apply below_drew1) | exact HB.out)) hb); clear HO429; clear HB; have HO429 := n0_; have HO435 := n1_; have HB := n2_; clear n0_ n1_ n2_; (try clear hb); (try clear hb2); (try clear hk); (try clear hi); (try clear ho0)) | ((with_reducible refine gate_callee (f := 26) rfl ?_); refine goesL_ (some 30) rfl rfl Try.func26 (by kernel_rfl) rfl #[.slice Ao10 t427.length co10, .int .i64 24] rfl (by (try simp only [List.map_toArray, List.map_cons, List.map_nil]); first | done | rfl | (simp only [List.length_drop, List.length_take]; rfl)) ?_; (with_reducible refine (tickingref06_Types.calls k _ _ t427 24 true _ ?side1 ?side2 A6.out).mono ?_); (case side1 => repeat (first | exact (Kd.R_reads' HO429.out).2.2 | (with_reducible refine Kd.C_alloc ?_ _) | (with_reducible refine Kd.C_drewN ?_ _) | (with_reducible refine Kd.C_drew ?_))); (case side2 => exact (Kd.R_reads' HO429.out).2.1); rintro e w13 ⟨rfl, hb⟩; refine ⟨_, rfl, ?_⟩; have n0_ := Aside0.mk (Kd.R_below (by (with_reducible repeat (first | apply Kd.R_alloc | apply Kd.R_drewN | apply Kd.R_drew)); exact HO429.out) hb); have n1_ := Aside0.mk (Kd.R_below (by (with_reducible repeat (first | apply Kd.R_alloc | apply Kd.R_drewN | apply Kd.R_drew)); exact HO435.out) hb); have n2_ := Aside0.mk (below_step (by repeat (first | (with_reducible first | exact HB.out | apply below_alloc | apply pw_below_drewN | apply below_drew1) | exact HB.out)) hb); clear HO429; clear HO435; clear HB; have HO429 := n0_; have HO435 := n1_; have HB := n2_; clear n0_ n1_ n2_; (try clear hb); (try clear hb2); (try clear hk); (try clear hi)) | ((with_reducible refine gate_callee (f := 30) rfl ?_); refine goesL_ (some 51) rfl rfl Try.func30 (by kernel_rfl) rfl #[.slice Ao10 t427.length co10] rfl (by (try simp only [List.map_toArray, List.map_cons, List.map_nil]); first | done | rfl | (simp only [List.length_drop, List.length_take]; rfl)) ?_; (with_reducible refine (tickingref06_Subtypes.calls k _ _ t427 t438 _ ?side1 ?side2 A8.out).mono ?_); (case side1 => repeat (first | exact (Kd.R_reads' HO429.out).2.2 | (with_reducible refine Kd.C_alloc ?_ _) | (with_reducible refine Kd.C_drewN ?_ _) | (with_reducible refine Kd.C_drew ?_))); (case side2 => exact (Kd.R_reads' HO429.out).2.1); rintro e w14 ⟨v439, rfl, ho0, hb⟩; refine ⟨_, rfl, ?_⟩; have n0_ := Aside0.mk (Kd.R_below (by (with_reducible repeat (first | apply Kd.R_alloc | apply Kd.R_drewN | apply Kd.R_drew)); exact HO429.out) hb); have n1_ := Aside0.mk (Kd.R_below (by (with_reducible repeat (first | apply Kd.R_alloc | apply Kd.R_drewN | apply Kd.R_drew)); exact HO435.out) hb); have n2_ := Aside0.mk (Kd.R_lower ho0 (below_size (by repeat (first | (with_reducible first | exact HB.out | apply below_alloc | apply pw_below_drewN | apply below_drew1) | exact HB.out)))); have n3_ := Aside0.mk (below_step (by repeat (first | (with_reducible first | exact HB.out | apply below_alloc | apply pw_below_drewN | apply below_drew1) | exact HB.out)) hb); clear HO429; clear HO435; clear HB; have HO429 := n0_; have HO435 := n1_; have HO440 := n2_; have HB := n3_; clear n0_ n1_ n2_ n3_; (try clear hb); (try clear hb2); (try clear hk); (try clear hi); (try clear ho0)))
  go_loopg [11, 12] k (fun kq v11 v12 w' => ∃ (x11_1 : List (S23)) (x12_1 : Int), v12 = .int .i64 x12_1 ∧ Aside0 (tickinglaw06_LoopsOrders.l0 kq a1 t427 t430 t431 t432 t433 t438 x11_1 x12_1 = some r) ∧ Aside0 (kq ≤ k) ∧ Aside0 (Kd.R k39 39 w' w.heap.size (fun _ => True) (.slice Ao10 t427.length co10) t427) ∧ Aside0 (Kd.R k23 23 w' w.heap.size (fun k_ => some k_ ≠ (v11 : Value).ownBlock) v434 t432) ∧ Aside0 (Kd.R Kd.bool 4 w' w.heap.size (fun _ => True) v439 t438) ∧ Aside0 (Kd.R k23 23 w' w.heap.size (fun k_ => some k_ ≠ (v434 : Value).ownBlock) v11 x11_1) ∧ Aside0 (Below w.heap.size w w'))
  case atStart => exact ⟨(([] : List (S23))), (0), (by first | rfl | (simp; done) | (simp [*]; done)), H', ⟨Nat.le_refl _⟩, ⟨by (with_reducible repeat (first | apply Kd.R_alloc | apply Kd.R_drewN | apply Kd.R_drew)); exact HO429.out⟩, ⟨by (with_reducible repeat (first | apply Kd.R_alloc | apply Kd.R_drewN | apply Kd.R_drew)); exact Kd.R_mono HO435.out (fun _ hk => (by simp [Value.ownBlock]))⟩, ⟨by (with_reducible repeat (first | apply Kd.R_alloc | apply Kd.R_drewN | apply Kd.R_drew)); exact HO440.out⟩, ⟨by first | exact Kd.R_nil _ _ _ _ _ | exact Kd.N_nil _ _ _ _ _ | exact Kd.V_nil _ _ _ _ _ | exact Kd.Q_nil _ _ _ _ _ | exact Kd.S_nil _ _ _ _ _⟩, ⟨by repeat (first | (with_reducible first | exact HB.out | apply below_alloc | apply pw_below_drewN | apply below_drew1) | exact HB.out)⟩⟩
  case round =>
   clear H'
   try clear c1
   try clear c2
   try clear p2
   try clear c3
   try clear c7
   obtain ⟨x11_1, x12_1, rfl, HA, HK1, HO_5, HO_8, HO_10, HO_11, HB⟩ := hrel
   cases gk with
   | zero => exact absurd HA.out (by simp [tickinglaw06_LoopsOrders.l0])
   | succ k1 =>
    have H := HA.out
    clear HA
    simp only [tickinglaw06_LoopsOrders.l0] at H
    by_cases c15 : x12_1 < (t427.length : Int)
    ·rw [if_pos c15] at H
     have c15b0 : decide (x12_1 < (t427.length : Int)) = true := decide_eq_true c15
     clear c15
     have H' := Aside0.mk H
     clear H
     go_wp2
     go_loopg [11, 13] k1 (fun kq v11 v13 w' => ∃ (x11_2 : List (S23)) (x13_2 : Int), v13 = .int .i64 x13_2 ∧ Aside0 (tickinglaw06_LoopsOrders.l1 kq a1 t427 t430 t431 t432 t433 t438 x11_2 x12_1 x13_2 = some r) ∧ Aside0 (kq ≤ k1) ∧ Aside0 (Kd.R k39 39 w' w.heap.size (fun _ => True) (.slice Ao10 t427.length co10) t427) ∧ Aside0 (Kd.R k23 23 w' w.heap.size (fun k_ => some k_ ≠ (v11 : Value).ownBlock) v434 t432) ∧ Aside0 (Kd.R Kd.bool 4 w' w.heap.size (fun _ => True) v439 t438) ∧ Aside0 (Kd.R k23 23 w' w.heap.size (fun k_ => some k_ ≠ (v434 : Value).ownBlock) v11 x11_2) ∧ Aside0 (Below w.heap.size w w'))
     case atStart => exact ⟨(x11_1), (0), (by first | rfl | (simp; done) | (simp [*]; done)), H', ⟨Nat.le_refl _⟩, ⟨by (with_reducible repeat (first | apply Kd.R_alloc | apply Kd.R_drewN | apply Kd.R_drew)); exact HO_5.out⟩, ⟨by (with_reducible repeat (first | apply Kd.R_alloc | apply Kd.R_drewN | apply Kd.R_drew)); exact HO_8.out⟩, ⟨by (with_reducible repeat (first | apply Kd.R_alloc | apply Kd.R_drewN | apply Kd.R_drew)); exact HO_10.out⟩, ⟨by (with_reducible repeat (first | apply Kd.R_alloc | apply Kd.R_drewN | apply Kd.R_drew)); exact HO_11.out⟩, ⟨by repeat (first | (with_reducible first | exact HB.out | apply below_alloc | apply pw_below_drewN | apply below_drew1) | exact HB.out)⟩⟩
     case round =>
      clear H'
      try clear c1
      try clear c2
      try clear p2
      try clear c3
      try clear c7
      try clear c15
      try clear c15b0
      try clear p2
      obtain ⟨x11_2, x13_2, rfl, HA, HK2, HO_5, HO_8, HO_10, HO_11, HB⟩ := hrel
      cases gk with
      | zero => exact absurd HA.out (by simp [tickinglaw06_LoopsOrders.l1])
      | succ k2 =>
       have H := HA.out
       clear HA
       simp only [tickinglaw06_LoopsOrders.l1] at H
       by_cases c16 : x13_2 < (t427.length : Int)
       ·rw [if_pos c16] at H
        have c16b0 : decide (x13_2 < (t427.length : Int)) = true := decide_eq_true c16
        clear c16
        by_cases c17 : x12_1 = x13_2
        ·rw [if_pos c17] at H
         have c17b0 : (x12_1 == x13_2) = true := beq_iff_eq.mpr c17
         have c17b1 : (x12_1 != x13_2) = false := bne_eq_false_iff_eq.mpr c17
         clear c17
         have H' := Aside0.mk H
         clear H
         go_wp2
         go_roundg k2
         case measure => have := HK1.out; have := HK2.out; omega
         case rel => exact ⟨(x11_2), (wrap64 (x13_2 + 1)), (by first | rfl | (simp; done) | (simp [*]; done)), H', ⟨by have := HK1.out; have := HK2.out; omega⟩, ⟨by (with_reducible repeat (first | apply Kd.R_alloc | apply Kd.R_drewN | apply Kd.R_drew)); exact HO_5.out⟩, ⟨by (with_reducible repeat (first | apply Kd.R_alloc | apply Kd.R_drewN | apply Kd.R_drew)); exact HO_8.out⟩, ⟨by (with_reducible repeat (first | apply Kd.R_alloc | apply Kd.R_drewN | apply Kd.R_drew)); exact HO_10.out⟩, ⟨by (with_reducible repeat (first | apply Kd.R_alloc | apply Kd.R_drewN | apply Kd.R_drew)); exact HO_11.out⟩, ⟨by repeat (first | (with_reducible first | exact HB.out | apply below_alloc | apply pw_below_drewN | apply below_drew1) | exact HB.out)⟩⟩
        ·rw [if_neg c17] at H
         have c17b0 : (x12_1 == x13_2) = false := beq_eq_false_iff_ne.mpr c17
         have c17b1 : (x12_1 != x13_2) = true := bne_iff_ne.mpr c17
         obtain ⟨ji18, hji18⟩ : ∃ j_ : Int, (wrap64 ((wrap64 ((t427.length : Int) * x12_1)) + x13_2)) = j_ := ⟨_, rfl⟩
         replace H : (if 0 ≤ (ji18) then (if (ji18) < (t438.length : Int) then (if rdOf false t438 (ji18) = true then (if x11_2.length < 8796093022208 then (tickinglaw06_LoopsOrders.l1 k2 a1 t427 t430 t431 t432 t433 t438 (x11_2 ++ [(⟨x12_1, x13_2⟩ : S23)]) x12_1 (wrap64 (x13_2 + 1))) else (none)) else (tickinglaw06_LoopsOrders.l1 k2 a1 t427 t430 t431 t432 t433 t438 x11_2 x12_1 (wrap64 (x13_2 + 1)))) else (none)) else (none)) = some r := by first | (rw [hji18] at H; exact H) | (simp only [hji18] at H ⊢; exact H)
         have hji18w : (IntKind.i64.wrap ((wrap64 ((t427.length : Int) * x12_1)) + x13_2)) = ji18 := (i64_w _).trans hji18
         by_cases c19 : 0 ≤ (ji18)
         ·rw [if_pos c19] at H
          have c19b0 : decide (0 ≤ (ji18)) = true := decide_eq_true c19
          clear c19
          by_cases c20 : (ji18) < (t438.length : Int)
          ·rw [if_pos c20] at H
           have c20b0 : decide ((ji18) < (t438.length : Int)) = true := decide_eq_true c20
           clear c20
           obtain ⟨bq21, hbq21⟩ : ∃ b_ : Bool, b_ = (rdOf false t438 (ji18)) := ⟨_, rfl⟩
           replace H : (if bq21 = true then (if x11_2.length < 8796093022208 then (tickinglaw06_LoopsOrders.l1 k2 a1 t427 t430 t431 t432 t433 t438 (x11_2 ++ [(⟨x12_1, x13_2⟩ : S23)]) x12_1 (wrap64 (x13_2 + 1))) else (none)) else (tickinglaw06_LoopsOrders.l1 k2 a1 t427 t430 t431 t432 t433 t438 x11_2 x12_1 (wrap64 (x13_2 + 1)))) = some r := by rw [← hbq21] at H; exact H
           have Nbq21 := Aside0.mk hbq21
           clear hbq21
           by_cases c22 : bq21 = true
           ·subst c22
            have H1 : (if x11_2.length < 8796093022208 then (tickinglaw06_LoopsOrders.l1 k2 a1 t427 t430 t431 t432 t433 t438 (x11_2 ++ [(⟨x12_1, x13_2⟩ : S23)]) x12_1 (wrap64 (x13_2 + 1))) else (none)) = some r := by rw [if_pos rfl] at H; exact H
            clear H
            have H := H1
            clear H1
            by_cases c23 : x11_2.length < 8796093022208
            ·rw [if_pos c23] at H
             have LMc23 := Aside0.mk c23
             clear c23
             obtain ⟨y442, hy442⟩ : ∃ y_ : List (S23), y_ = (x11_2 ++ [(⟨x12_1, x13_2⟩ : S23)]) := ⟨_, rfl⟩
             replace H : (tickinglaw06_LoopsOrders.l1 k2 a1 t427 t430 t431 t432 t433 t438 y442 x12_1 (wrap64 (x13_2 + 1))) = some r := by first | (rw [hy442]; with_reducible exact H) | (have H2_ := (Option.bind_some _ _).symm.trans H; rw [hy442]; with_reducible exact H2_) | (have H2_ := (Option.bind_some _ _).symm.trans H; with_reducible exact H2_) | with_reducible exact H | (rw [hy442]; exact H) | exact H
             have Ny442 := Aside0.mk hy442
             clear hy442
             have H' := Aside0.mk H
             clear H
             obtain ⟨Ao24, co24, eo24⟩ := Kd.R_slice HO_10.out
             subst eo24
             have p441 : 0 ≤ ((ji18) : Int) := of_decide_eq_true (by first | (with_reducible assumption) | assumption)
             have q441 : (ji18) < (t438.length : Int) := of_decide_eq_true (by first | (with_reducible assumption) | assumption)
             obtain ⟨ad441, e441, hx441_0⟩ := Kd.at_bool (Kd.R_reads' HO_10.out).2.2 (ji18) p441 q441
             (try rw [← Nbq21.out] at hx441_0)
             cases e441
             replace p441 := eq_true p441
             replace q441 := eq_true q441
             go_wp2_with (first | ((with_reducible refine gate_builtin (b := .append) (xs := #[.tmp 78, .tmp 82]) rfl ?_); (try (refine gate_guard (by rfl) ?_; dsimp only)); at_builtin; refine Kd.R_append k23 (w0 := w) w.heap.size rfl (.tmp 78) (.tmp 82) 48 23 (.agg #[(.int .i64 0), (.int .i64 0)]) 16 rfl Try.underlying48 info23 rfl (by decide) (by omega) u11 x11_2 (⟨x12_1, x13_2⟩ : S23) [.int .i64 x12_1, .int .i64 x13_2] (fun k_ => some k_ ≠ (v434 : Value).ownBlock) (fun _ => False) rfl rfl ?aP (fun _ hk => hk.elim) ?aF ?aO ?aB ?aS ?aL ?_; (case aP => exact k23_mkM _ _ _ (⟨x12_1, x13_2⟩ : S23)); (case aB => exact (by repeat (first | (with_reducible first | exact HB.out | apply below_alloc | apply pw_below_drewN | apply below_drew1) | exact HB.out))); (case aF => exact (fun k_ hk => Kd.fresh' (Kd.R_lt (by (with_reducible repeat (first | apply Kd.R_alloc | apply Kd.R_drewN | apply Kd.R_drew)); exact HO_8.out)) k_ hk)); (case aO => exact (by (with_reducible repeat (first | apply Kd.R_alloc | apply Kd.R_drewN | apply Kd.R_drew)); exact HO_11.out)); (case aS => exact (below_size (by repeat (first | (with_reducible first | exact HB.out | apply below_alloc | apply pw_below_drewN | apply below_drew1) | exact HB.out)))); (case aL => have := LMc23.out; omega); intro v443 w25 ho hb hg hat; rw [← Ny442.out] at ho; have n0_ := Aside0.mk (Kd.R_over' (by (with_reducible repeat (first | apply Kd.R_alloc | apply Kd.R_drewN | apply Kd.R_drew)); exact HO_5.out) (Kd.R_typed (by (with_reducible repeat (first | apply Kd.R_alloc | apply Kd.R_drewN | apply Kd.R_drew)); exact HO_11.out)) (by decide) hg); have n1_ := Aside0.mk (Kd.R_after (ok := (fun _ => True)) (by (with_reducible repeat (first | apply Kd.R_alloc | apply Kd.R_drewN | apply Kd.R_drew)); exact Kd.R_mono HO_8.out (fun _ hk => ⟨trivial, hk⟩)) hg hat); have n2_ := Aside0.mk (Kd.R_over' (by (with_reducible repeat (first | apply Kd.R_alloc | apply Kd.R_drewN | apply Kd.R_drew)); exact HO_10.out) (Kd.R_typed (by (with_reducible repeat (first | apply Kd.R_alloc | apply Kd.R_drewN | apply Kd.R_drew)); exact HO_11.out)) (by decide) hg); have n3_ := Aside0.mk (hb); have n4_ := Aside0.mk (ho); clear HO_5; clear HO_8; clear HO_10; clear HB; clear HO_11; have HO_5 := n0_; have HO_8 := n1_; have HO_10 := n2_; have HB := n3_; have HO444 := n4_; clear n0_ n1_ n2_ n3_ n4_; clear ho hb hg hat))
             go_roundg k2
             case measure => have := HK1.out; have := HK2.out; omega
             case rel => exact ⟨(y442), (wrap64 (x13_2 + 1)), (by first | rfl | (simp; done) | (simp [*]; done)), H', ⟨by have := HK1.out; have := HK2.out; omega⟩, ⟨by (with_reducible repeat (first | apply Kd.R_alloc | apply Kd.R_drewN | apply Kd.R_drew)); exact HO_5.out⟩, ⟨by (with_reducible repeat (first | apply Kd.R_alloc | apply Kd.R_drewN | apply Kd.R_drew)); exact Kd.R_mono HO_8.out (fun _ hk => hk.2)⟩, ⟨by (with_reducible repeat (first | apply Kd.R_alloc | apply Kd.R_drewN | apply Kd.R_drew)); exact HO_10.out⟩, ⟨by (with_reducible repeat (first | apply Kd.R_alloc | apply Kd.R_drewN | apply Kd.R_drew)); exact HO444.out⟩, ⟨by repeat (first | (with_reducible first | exact HB.out | apply below_alloc | apply pw_below_drewN | apply below_drew1) | exact HB.out)⟩⟩
            ·rw [if_neg c23] at H
             exact absurd H (by simp)
           ·replace c22 := Bool.eq_false_iff.mpr c22
            subst c22
            have H1 : (tickinglaw06_LoopsOrders.l1 k2 a1 t427 t430 t431 t432 t433 t438 x11_2 x12_1 (wrap64 (x13_2 + 1))) = some r := by rw [if_neg (show ¬ (false = true) by decide)] at H; exact H
            clear H
            have H := H1
            clear H1
            have H' := Aside0.mk H
            clear H
            obtain ⟨Ao26, co26, eo26⟩ := Kd.R_slice HO_10.out
            subst eo26
            have p441 : 0 ≤ ((ji18) : Int) := of_decide_eq_true (by first | (with_reducible assumption) | assumption)
            have q441 : (ji18) < (t438.length : Int) := of_decide_eq_true (by first | (with_reducible assumption) | assumption)
            obtain ⟨ad441, e441, hx441_0⟩ := Kd.at_bool (Kd.R_reads' HO_10.out).2.2 (ji18) p441 q441
            (try rw [← Nbq21.out] at hx441_0)
            cases e441
            replace p441 := eq_true p441
            replace q441 := eq_true q441
            go_wp2
            go_roundg k2
            case measure => have := HK1.out; have := HK2.out; omega
            case rel => exact ⟨(x11_2), (wrap64 (x13_2 + 1)), (by first | rfl | (simp; done) | (simp [*]; done)), H', ⟨by have := HK1.out; have := HK2.out; omega⟩, ⟨by (with_reducible repeat (first | apply Kd.R_alloc | apply Kd.R_drewN | apply Kd.R_drew)); exact HO_5.out⟩, ⟨by (with_reducible repeat (first | apply Kd.R_alloc | apply Kd.R_drewN | apply Kd.R_drew)); exact HO_8.out⟩, ⟨by (with_reducible repeat (first | apply Kd.R_alloc | apply Kd.R_drewN | apply Kd.R_drew)); exact HO_10.out⟩, ⟨by (with_reducible repeat (first | apply Kd.R_alloc | apply Kd.R_drewN | apply Kd.R_drew)); exact HO_11.out⟩, ⟨by repeat (first | (with_reducible first | exact HB.out | apply below_alloc | apply pw_below_drewN | apply below_drew1) | exact HB.out)⟩⟩
          ·rw [if_neg c20] at H
           exact absurd H (by simp)
         ·rw [if_neg c19] at H
          exact absurd H (by simp)
       ·rw [if_neg c16] at H
        have c16b0 : decide (x13_2 < (t427.length : Int)) = false := decide_eq_false c16
        clear c16
        have H' := Aside0.mk H
        clear H
        go_wp2
        go_roundg k2
        case measure => have := HK1.out; have := HK2.out; omega
        case rel => exact ⟨(x11_2), (wrap64 (x12_1 + 1)), (by first | rfl | (simp; done) | (simp [*]; done)), H', ⟨by have := HK1.out; have := HK2.out; omega⟩, ⟨by (with_reducible repeat (first | apply Kd.R_alloc | apply Kd.R_drewN | apply Kd.R_drew)); exact HO_5.out⟩, ⟨by (with_reducible repeat (first | apply Kd.R_alloc | apply Kd.R_drewN | apply Kd.R_drew)); exact HO_8.out⟩, ⟨by (with_reducible repeat (first | apply Kd.R_alloc | apply Kd.R_drewN | apply Kd.R_drew)); exact HO_10.out⟩, ⟨by (with_reducible repeat (first | apply Kd.R_alloc | apply Kd.R_drewN | apply Kd.R_drew)); exact HO_11.out⟩, ⟨by repeat (first | (with_reducible first | exact HB.out | apply below_alloc | apply pw_below_drewN | apply below_drew1) | exact HB.out)⟩⟩
    ·rw [if_neg c15] at H
     have c15b0 : decide (x12_1 < (t427.length : Int)) = false := decide_eq_false c15
     clear c15
     have HC27 := Aside0.mk H
     clear H
     go_upto_region 16 with (fail)
     go_cut [91] (fun v91 wc => ∃ (kq : Nat) (x91_26 : Bool), v91 = .bool x91_26 ∧ Aside0 (tickinglaw06_LoopsOrders.j2 kq a1 t427 t430 t431 x91_26 = some r) ∧ Aside0 (kq ≤ k1) ∧ Aside0 (Kd.R k39 39 wc w.heap.size (fun _ => True) (.slice Ao10 t427.length co10) t427) ∧ Aside0 (Below w.heap.size w wc))
     case first =>
      have H := HC27.out
      clear HC27
      replace H := Option.bind_eq_some_iff.mp H
      obtain ⟨t445, A280, H⟩ := H
      replace H : (if t445 = true then (tickinglaw06_LoopsOrders.j2 k1 a1 t427 t430 t431 (t433 != 0)) else (tickinglaw06_LoopsOrders.j2 k1 a1 t427 t430 t431 true)) = some r := H
      have A28 := Aside0.mk A280
      clear A280
      by_cases c29 : t445 = true
      ·subst c29
       have H1 : (tickinglaw06_LoopsOrders.j2 k1 a1 t427 t430 t431 (t433 != 0)) = some r := by rw [if_pos rfl] at H; exact H
       clear H
       have H := H1
       clear H1
       have H' := Aside0.mk H
       clear H
       obtain ⟨Ao30, co30, eo30⟩ := Kd.R_slice HO_8.out
       subst eo30
       obtain ⟨Ao31, co31, eo31⟩ := Kd.R_slice HO_11.out
       subst eo31
       go_wp2_with (first | ((with_reducible refine gate_callee (f := 31) rfl ?_); refine goesL_ (some 86) rfl rfl Try.func31 (by kernel_rfl) rfl #[.slice Ao30 t432.length co30, .slice Ao31 x11_1.length co31] rfl (by (try simp only [List.map_toArray, List.map_cons, List.map_nil]); first | done | rfl | (simp only [List.length_drop, List.length_take]; rfl)) ?_; (with_reducible refine (tickinglaw06_pairs.calls k1 _ _ t432 _ _ x11_1 true _ ?side1 ?side2 ?side3 ?side4 A28.out).mono ?_); (case side1 => repeat (first | exact (Kd.R_reads' HO_8.out).2.2 | (with_reducible refine Kd.C_alloc ?_ _) | (with_reducible refine Kd.C_drewN ?_ _) | (with_reducible refine Kd.C_drew ?_))); (case side2 => exact (Kd.R_reads' HO_8.out).2.1); (case side3 => repeat (first | exact (Kd.R_reads' HO_11.out).2.2 | (with_reducible refine Kd.C_alloc ?_ _) | (with_reducible refine Kd.C_drewN ?_ _) | (with_reducible refine Kd.C_drew ?_))); (case side4 => exact (Kd.R_reads' HO_11.out).2.1); rintro e w' ⟨rfl, ⟨nd, rfl⟩⟩; refine ⟨_, rfl, ?_⟩))
       go_meet
       case rel => exact ⟨_, ((t433 != 0)), (by first | rfl | (simp; done) | (simp [*]; done)), H', ⟨by have := HK1.out; first | omega | exact Nat.le_refl _⟩, ⟨by (with_reducible repeat (first | apply Kd.R_alloc | apply Kd.R_drewN | apply Kd.R_drew)); exact HO_5.out⟩, ⟨by repeat (first | (with_reducible first | exact HB.out | apply below_alloc | apply pw_below_drewN | apply below_drew1) | exact HB.out)⟩⟩
      ·replace c29 := Bool.eq_false_iff.mpr c29
       subst c29
       have H1 : (tickinglaw06_LoopsOrders.j2 k1 a1 t427 t430 t431 true) = some r := by rw [if_neg (show ¬ (false = true) by decide)] at H; exact H
       clear H
       have H := H1
       clear H1
       have H' := Aside0.mk H
       clear H
       obtain ⟨Ao32, co32, eo32⟩ := Kd.R_slice HO_8.out
       subst eo32
       obtain ⟨Ao33, co33, eo33⟩ := Kd.R_slice HO_11.out
       subst eo33
       go_wp2_with (first | ((with_reducible refine gate_callee (f := 31) rfl ?_); refine goesL_ (some 86) rfl rfl Try.func31 (by kernel_rfl) rfl #[.slice Ao32 t432.length co32, .slice Ao33 x11_1.length co33] rfl (by (try simp only [List.map_toArray, List.map_cons, List.map_nil]); first | done | rfl | (simp only [List.length_drop, List.length_take]; rfl)) ?_; (with_reducible refine (tickinglaw06_pairs.calls k1 _ _ t432 _ _ x11_1 false _ ?side1 ?side2 ?side3 ?side4 A28.out).mono ?_); (case side1 => repeat (first | exact (Kd.R_reads' HO_8.out).2.2 | (with_reducible refine Kd.C_alloc ?_ _) | (with_reducible refine Kd.C_drewN ?_ _) | (with_reducible refine Kd.C_drew ?_))); (case side2 => exact (Kd.R_reads' HO_8.out).2.1); (case side3 => repeat (first | exact (Kd.R_reads' HO_11.out).2.2 | (with_reducible refine Kd.C_alloc ?_ _) | (with_reducible refine Kd.C_drewN ?_ _) | (with_reducible refine Kd.C_drew ?_))); (case side4 => exact (Kd.R_reads' HO_11.out).2.1); rintro e w' ⟨rfl, ⟨nd, rfl⟩⟩; refine ⟨_, rfl, ?_⟩))
       go_meet
       case rel => exact ⟨_, (true), (by first | rfl | (simp; done) | (simp [*]; done)), H', ⟨by have := HK1.out; first | omega | exact Nat.le_refl _⟩, ⟨by (with_reducible repeat (first | apply Kd.R_alloc | apply Kd.R_drewN | apply Kd.R_drew)); exact HO_5.out⟩, ⟨by repeat (first | (with_reducible first | exact HB.out | apply below_alloc | apply pw_below_drewN | apply below_drew1) | exact HB.out)⟩⟩
     case rest =>
      clear HC27
      try clear c1
      try clear c2
      try clear p2
      try clear q2
      try clear c3
      try clear p4
      try clear q4
      try clear hx4
      try clear p6
      try clear c7
      try clear c15
      try clear c15b0
      try clear c16
      try clear c16b0
      try clear c17
      try clear c17b0
      try clear c17b1
      try clear c19
      try clear c19b0
      try clear c20
      try clear c20b0
      try clear q21
      try clear c22
      try clear c23
      try clear c26
      try clear c28
      try clear c29
      try clear c30
      try clear c31
      try clear hx441_0
      try clear p2
      try clear p441
      try clear q441
      obtain ⟨kq, x91_26, rfl, HA, HJ26, HO_5, HB⟩ := hcut
      cases kq with
      | zero => exact absurd HA.out (by simp [tickinglaw06_LoopsOrders.j2])
      | succ kj26 =>
       have H := HA.out
       clear HA
       simp only [tickinglaw06_LoopsOrders.j2] at H
       by_cases c34 : x91_26 = true
       ·subst c34
        have H1 : (some false) = some r := by rw [if_pos rfl] at H; exact H
        clear H
        have H := H1
        clear H1
        obtain rfl := Option.some.inj H
        go_wp2
        go_ret
        exact ⟨by first | rfl | (simp [errW_none, errW_some] <;> rfl) | (simp [*, errW_none, errW_some] <;> rfl), by repeat (first | (with_reducible first | exact HB.out | apply below_alloc | apply pw_below_drewN | apply below_drew1) | exact HB.out)⟩
       ·replace c34 := Bool.eq_false_iff.mpr c34
        subst c34
        have H1 : ((tickinglaw06_bad.f kj26 t427 a1 a1).bind fun t446 => (if t446 = true then (if t430 = 0 then (if t431 = 2 then ((tickinglaw06_awake.f kj26).bind fun t447 => (some t447)) else (some false)) else (some false)) else ((tickingref06_Depth.f kj26 t427 a1).bind fun bt448 => (if bt448.2 = true then (if t430 = bt448.1 then (if t431 = 0 then ((tickinglaw06_awake.f kj26).bind fun t450 => (some t450)) else (some false)) else (some false)) else (if t430 = 0 then (if t431 = 6 then ((tickinglaw06_awake.f kj26).bind fun t451 => (some t451)) else (some false)) else (some false)))))) = some r := by rw [if_neg (show ¬ (false = true) by decide)] at H; exact H
        clear H
        have H := H1
        clear H1
        replace H := Option.bind_eq_some_iff.mp H
        obtain ⟨t446, A350, H⟩ := H
        replace H : (if t446 = true then (if t430 = 0 then (if t431 = 2 then ((tickinglaw06_awake.f kj26).bind fun t447 => (some t447)) else (some false)) else (some false)) else ((tickingref06_Depth.f kj26 t427 a1).bind fun bt448 => (if bt448.2 = true then (if t430 = bt448.1 then (if t431 = 0 then ((tickinglaw06_awake.f kj26).bind fun t450 => (some t450)) else (some false)) else (some false)) else (if t430 = 0 then (if t431 = 6 then ((tickinglaw06_awake.f kj26).bind fun t451 => (some t451)) else (some false)) else (some false))))) = some r := H
        have A35 := Aside0.mk A350
        clear A350
        by_cases c36 : t446 = true
        ·subst c36
         have H1 : (if t430 = 0 then (if t431 = 2 then ((tickinglaw06_awake.f kj26).bind fun t447 => (some t447)) else (some false)) else (some false)) = some r := by rw [if_pos rfl] at H; exact H
         clear H
         have H := H1
         clear H1
         by_cases c37 : t430 = 0
         ·rw [if_pos c37] at H
          have c37b0 : (t430 == 0) = true := beq_iff_eq.mpr c37
          have c37b1 : (t430 != 0) = false := bne_eq_false_iff_eq.mpr c37
          clear c37
          by_cases c38 : t431 = 2
          ·rw [if_pos c38] at H
           have c38b0 : (t431 == 2) = true := beq_iff_eq.mpr c38
           have c38b1 : (t431 != 2) = false := bne_eq_false_iff_eq.mpr c38
           clear c38
           replace H := Option.bind_eq_some_iff.mp H
           obtain ⟨t447, A390, H⟩ := H
           replace H : (some t447) = some r := H
           have A39 := Aside0.mk A390
           clear A390
           obtain rfl := Option.some.inj H
           go_wp2_with (first | ((with_reducible refine gate_callee (f := 18) rfl ?_); refine goesL_ (some 95) rfl rfl Try.func18 (by kernel_rfl) rfl #[.slice Ao10 t427.length co10, .int .i64 a1, .int .i64 a1] rfl (by (try simp only [List.map_toArray, List.map_cons, List.map_nil]); first | done | rfl | (simp only [List.length_drop, List.length_take]; rfl)) ?_; (with_reducible refine (tickinglaw06_bad.calls kj26 _ _ t427 a1 a1 true _ ?side1 ?side2 A35.out).mono ?_); (case side1 => repeat (first | exact (Kd.R_reads' HO_5.out).2.2 | (with_reducible refine Kd.C_alloc ?_ _) | (with_reducible refine Kd.C_drewN ?_ _) | (with_reducible refine Kd.C_drew ?_))); (case side2 => exact (Kd.R_reads' HO_5.out).2.1); rintro e w40 ⟨rfl, hb⟩; refine ⟨_, rfl, ?_⟩; have n0_ := Aside0.mk (Kd.R_below (by (with_reducible repeat (first | apply Kd.R_alloc | apply Kd.R_drewN | apply Kd.R_drew)); exact HO_5.out) hb); have n1_ := Aside0.mk (below_step (by repeat (first | (with_reducible first | exact HB.out | apply below_alloc | apply pw_below_drewN | apply below_drew1) | exact HB.out)) hb); clear HO_5; clear HB; have HO_5 := n0_; have HB := n1_; clear n0_ n1_; (try clear hb); (try clear hb2); (try clear hk); (try clear hi)) | (go_at_call 19; (with_reducible refine (tickinglaw06_awake.calls kj26  t447 _ A39.out).mono ?_); rintro e w41 ⟨rfl, hb⟩; have n0_ := Aside0.mk (Kd.R_below (by (with_reducible repeat (first | apply Kd.R_alloc | apply Kd.R_drewN | apply Kd.R_drew)); exact HO_5.out) hb); have n1_ := Aside0.mk (below_step (by repeat (first | (with_reducible first | exact HB.out | apply below_alloc | apply pw_below_drewN | apply below_drew1) | exact HB.out)) hb); clear HO_5; clear HB; have HO_5 := n0_; have HB := n1_; clear n0_ n1_; (try clear hb); (try clear hb2); (try clear hk); (try clear hi)))
           go_ret
           exact ⟨by first | rfl | (simp [errW_none, errW_some] <;> rfl) | (simp [*, errW_none, errW_some] <;> rfl), by repeat (first | (with_reducible first | exact HB.out | apply below_alloc | apply pw_below_drewN | apply below_drew1) | exact HB.out)⟩
          ·rw [if_neg c38] at H
           have c38b0 : (t431 == 2) = false := beq_eq_false_iff_ne.mpr c38
           have c38b1 : (t431 != 2) = true := bne_iff_ne.mpr c38
           obtain rfl := Option.some.inj H
           go_wp2_with (first | ((with_reducible refine gate_callee (f := 18) rfl ?_); refine goesL_ (some 95) rfl rfl Try.func18 (by kernel_rfl) rfl #[.slice Ao10 t427.length co10, .int .i64 a1, .int .i64 a1] rfl (by (try simp only [List.map_toArray, List.map_cons, List.map_nil]); first | done | rfl | (simp only [List.length_drop, List.length_take]; rfl)) ?_; (with_reducible refine (tickinglaw06_bad.calls kj26 _ _ t427 a1 a1 true _ ?side1 ?side2 A35.out).mono ?_); (case side1 => repeat (first | exact (Kd.R_reads' HO_5.out).2.2 | (with_reducible refine Kd.C_alloc ?_ _) | (with_reducible refine Kd.C_drewN ?_ _) | (with_reducible refine Kd.C_drew ?_))); (case side2 => exact (Kd.R_reads' HO_5.out).2.1); rintro e w42 ⟨rfl, hb⟩; refine ⟨_, rfl, ?_⟩; have n0_ := Aside0.mk (Kd.R_below (by (with_reducible repeat (first | apply Kd.R_alloc | apply Kd.R_drewN | apply Kd.R_drew)); exact HO_5.out) hb); have n1_ := Aside0.mk (below_step (by repeat (first | (with_reducible first | exact HB.out | apply below_alloc | apply pw_below_drewN | apply below_drew1) | exact HB.out)) hb); clear HO_5; clear HB; have HO_5 := n0_; have HB := n1_; clear n0_ n1_; (try clear hb); (try clear hb2); (try clear hk); (try clear hi)))
           go_ret
           exact ⟨by first | rfl | (simp [errW_none, errW_some] <;> rfl) | (simp [*, errW_none, errW_some] <;> rfl), by repeat (first | (with_reducible first | exact HB.out | apply below_alloc | apply pw_below_drewN | apply below_drew1) | exact HB.out)⟩
         ·rw [if_neg c37] at H
          have c37b0 : (t430 == 0) = false := beq_eq_false_iff_ne.mpr c37
          have c37b1 : (t430 != 0) = true := bne_iff_ne.mpr c37
          obtain rfl := Option.some.inj H
          go_wp2_with (first | ((with_reducible refine gate_callee (f := 18) rfl ?_); refine goesL_ (some 95) rfl rfl Try.func18 (by kernel_rfl) rfl #[.slice Ao10 t427.length co10, .int .i64 a1, .int .i64 a1] rfl (by (try simp only [List.map_toArray, List.map_cons, List.map_nil]); first | done | rfl | (simp only [List.length_drop, List.length_take]; rfl)) ?_; (with_reducible refine (tickinglaw06_bad.calls kj26 _ _ t427 a1 a1 true _ ?side1 ?side2 A35.out).mono ?_); (case side1 => repeat (first | exact (Kd.R_reads' HO_5.out).2.2 | (with_reducible refine Kd.C_alloc ?_ _) | (with_reducible refine Kd.C_drewN ?_ _) | (with_reducible refine Kd.C_drew ?_))); (case side2 => exact (Kd.R_reads' HO_5.out).2.1); rintro e w43 ⟨rfl, hb⟩; refine ⟨_, rfl, ?_⟩; have n0_ := Aside0.mk (Kd.R_below (by (with_reducible repeat (first | apply Kd.R_alloc | apply Kd.R_drewN | apply Kd.R_drew)); exact HO_5.out) hb); have n1_ := Aside0.mk (below_step (by repeat (first | (with_reducible first | exact HB.out | apply below_alloc | apply pw_below_drewN | apply below_drew1) | exact HB.out)) hb); clear HO_5; clear HB; have HO_5 := n0_; have HB := n1_; clear n0_ n1_; (try clear hb); (try clear hb2); (try clear hk); (try clear hi)))
          go_ret
          exact ⟨by first | rfl | (simp [errW_none, errW_some] <;> rfl) | (simp [*, errW_none, errW_some] <;> rfl), by repeat (first | (with_reducible first | exact HB.out | apply below_alloc | apply pw_below_drewN | apply below_drew1) | exact HB.out)⟩
        ·replace c36 := Bool.eq_false_iff.mpr c36
         subst c36
         have H1 : ((tickingref06_Depth.f kj26 t427 a1).bind fun bt448 => (if bt448.2 = true then (if t430 = bt448.1 then (if t431 = 0 then ((tickinglaw06_awake.f kj26).bind fun t450 => (some t450)) else (some false)) else (some false)) else (if t430 = 0 then (if t431 = 6 then ((tickinglaw06_awake.f kj26).bind fun t451 => (some t451)) else (some false)) else (some false)))) = some r := by rw [if_neg (show ¬ (false = true) by decide)] at H; exact H
         clear H
         have H := H1
         clear H1
         replace H := Option.bind_eq_some_iff.mp H
         obtain ⟨⟨t448, t449⟩, A440, H⟩ := H
         replace H : (if t449 = true then (if t430 = t448 then (if t431 = 0 then ((tickinglaw06_awake.f kj26).bind fun t450 => (some t450)) else (some false)) else (some false)) else (if t430 = 0 then (if t431 = 6 then ((tickinglaw06_awake.f kj26).bind fun t451 => (some t451)) else (some false)) else (some false))) = some r := H
         have A44 := Aside0.mk A440
         clear A440
         by_cases c45 : t449 = true
         ·subst c45
          have H1 : (if t430 = t448 then (if t431 = 0 then ((tickinglaw06_awake.f kj26).bind fun t450 => (some t450)) else (some false)) else (some false)) = some r := by rw [if_pos rfl] at H; exact H
          clear H
          have H := H1
          clear H1
          by_cases c46 : t430 = t448
          ·rw [if_pos c46] at H
           have c46b0 : (t430 == t448) = true := beq_iff_eq.mpr c46
           have c46b1 : (t430 != t448) = false := bne_eq_false_iff_eq.mpr c46
           clear c46
           by_cases c47 : t431 = 0
           ·rw [if_pos c47] at H
            have c47b0 : (t431 == 0) = true := beq_iff_eq.mpr c47
            have c47b1 : (t431 != 0) = false := bne_eq_false_iff_eq.mpr c47
            clear c47
            replace H := Option.bind_eq_some_iff.mp H
            obtain ⟨t450, A480, H⟩ := H
            replace H : (some t450) = some r := H
            have A48 := Aside0.mk A480
            clear A480
            obtain rfl := Option.some.inj H
            go_wp2_with (first | ((with_reducible refine gate_callee (f := 18) rfl ?_); refine goesL_ (some 95) rfl rfl Try.func18 (by kernel_rfl) rfl #[.slice Ao10 t427.length co10, .int .i64 a1, .int .i64 a1] rfl (by (try simp only [List.map_toArray, List.map_cons, List.map_nil]); first | done | rfl | (simp only [List.length_drop, List.length_take]; rfl)) ?_; (with_reducible refine (tickinglaw06_bad.calls kj26 _ _ t427 a1 a1 false _ ?side1 ?side2 A35.out).mono ?_); (case side1 => repeat (first | exact (Kd.R_reads' HO_5.out).2.2 | (with_reducible refine Kd.C_alloc ?_ _) | (with_reducible refine Kd.C_drewN ?_ _) | (with_reducible refine Kd.C_drew ?_))); (case side2 => exact (Kd.R_reads' HO_5.out).2.1); rintro e w49 ⟨rfl, hb⟩; refine ⟨_, rfl, ?_⟩; have n0_ := Aside0.mk (Kd.R_below (by (with_reducible repeat (first | apply Kd.R_alloc | apply Kd.R_drewN | apply Kd.R_drew)); exact HO_5.out) hb); have n1_ := Aside0.mk (below_step (by repeat (first | (with_reducible first | exact HB.out | apply below_alloc | apply pw_below_drewN | apply below_drew1) | exact HB.out)) hb); clear HO_5; clear HB; have HO_5 := n0_; have HB := n1_; clear n0_ n1_; (try clear hb); (try clear hb2); (try clear hk); (try clear hi)) | ((with_reducible refine gate_callee (f := 32) rfl ?_); refine goesL_ (some 108) rfl rfl Try.func32 (by kernel_rfl) rfl #[.slice Ao10 t427.length co10, .int .i64 a1] rfl (by (try simp only [List.map_toArray, List.map_cons, List.map_nil]); first | done | rfl | (simp only [List.length_drop, List.length_take]; rfl)) ?_; (with_reducible refine (tickingref06_Depth.calls kj26 _ _ t427 a1 t448 true _ ?side1 ?side2 A44.out).mono ?_); (case side1 => repeat (first | exact (Kd.R_reads' HO_5.out).2.2 | (with_reducible refine Kd.C_alloc ?_ _) | (with_reducible refine Kd.C_drewN ?_ _) | (with_reducible refine Kd.C_drew ?_))); (case side2 => exact (Kd.R_reads' HO_5.out).2.1); rintro e w50 ⟨rfl, hb⟩; refine ⟨_, rfl, ?_⟩; have n0_ := Aside0.mk (Kd.R_below (by (with_reducible repeat (first | apply Kd.R_alloc | apply Kd.R_drewN | apply Kd.R_drew)); exact HO_5.out) hb); have n1_ := Aside0.mk (below_step (by repeat (first | (with_reducible first | exact HB.out | apply below_alloc | apply pw_below_drewN | apply below_drew1) | exact HB.out)) hb); clear HO_5; clear HB; have HO_5 := n0_; have HB := n1_; clear n0_ n1_; (try clear hb); (try clear hb2); (try clear hk); (try clear hi)) | (go_at_call 19; (with_reducible refine (tickinglaw06_awake.calls kj26  t450 _ A48.out).mono ?_); rintro e w51 ⟨rfl, hb⟩; have n0_ := Aside0.mk (Kd.R_below (by (with_reducible repeat (first | apply Kd.R_alloc | apply Kd.R_drewN | apply Kd.R_drew)); exact HO_5.out) hb); have n1_ := Aside0.mk (below_step (by repeat (first | (with_reducible first | exact HB.out | apply below_alloc | apply pw_below_drewN | apply below_drew1) | exact HB.out)) hb); clear HO_5; clear HB; have HO_5 := n0_; have HB := n1_; clear n0_ n1_; (try clear hb); (try clear hb2); (try clear hk); (try clear hi)))
            go_ret
            exact ⟨by first | rfl | (simp [errW_none, errW_some] <;> rfl) | (simp [*, errW_none, errW_some] <;> rfl), by repeat (first | (with_reducible first | exact HB.out | apply below_alloc | apply pw_below_drewN | apply below_drew1) | exact HB.out)⟩
           ·rw [if_neg c47] at H
            have c47b0 : (t431 == 0) = false := beq_eq_false_iff_ne.mpr c47
            have c47b1 : (t431 != 0) = true := bne_iff_ne.mpr c47
            obtain rfl := Option.some.inj H
            go_wp2_with (first | ((with_reducible refine gate_callee (f := 18) rfl ?_); refine goesL_ (some 95) rfl rfl Try.func18 (by kernel_rfl) rfl #[.slice Ao10 t427.length co10, .int .i64 a1, .int .i64 a1] rfl (by (try simp only [List.map_toArray, List.map_cons, List.map_nil]); first | done | rfl | (simp only [List.length_drop, List.length_take]; rfl)) ?_; (with_reducible refine (tickinglaw06_bad.calls kj26 _ _ t427 a1 a1 false _ ?side1 ?side2 A35.out).mono ?_); (case side1 => repeat (first | exact (Kd.R_reads' HO_5.out).2.2 | (with_reducible refine Kd.C_alloc ?_ _) | (with_reducible refine Kd.C_drewN ?_ _) | (with_reducible refine Kd.C_drew ?_))); (case side2 => exact (Kd.R_reads' HO_5.out).2.1); rintro e w52 ⟨rfl, hb⟩; refine ⟨_, rfl, ?_⟩; have n0_ := Aside0.mk (Kd.R_below (by (with_reducible repeat (first | apply Kd.R_alloc | apply Kd.R_drewN | apply Kd.R_drew)); exact HO_5.out) hb); have n1_ := Aside0.mk (below_step (by repeat (first | (with_reducible first | exact HB.out | apply below_alloc | apply pw_below_drewN | apply below_drew1) | exact HB.out)) hb); clear HO_5; clear HB; have HO_5 := n0_; have HB := n1_; clear n0_ n1_; (try clear hb); (try clear hb2); (try clear hk); (try clear hi)) | ((with_reducible refine gate_callee (f := 32) rfl ?_); refine goesL_ (some 108) rfl rfl Try.func32 (by kernel_rfl) rfl #[.slice Ao10 t427.length co10, .int .i64 a1] rfl (by (try simp only [List.map_toArray, List.map_cons, List.map_nil]); first | done | rfl | (simp only [List.length_drop, List.length_take]; rfl)) ?_; (with_reducible refine (tickingref06_Depth.calls kj26 _ _ t427 a1 t448 true _ ?side1 ?side2 A44.out).mono ?_); (case side1 => repeat (first | exact (Kd.R_reads' HO_5.out).2.2 | (with_reducible refine Kd.C_alloc ?_ _) | (with_reducible refine Kd.C_drewN ?_ _) | (with_reducible refine Kd.C_drew ?_))); (case side2 => exact (Kd.R_reads' HO_5.out).2.1); rintro e w53 ⟨rfl, hb⟩; refine ⟨_, rfl, ?_⟩; have n0_ := Aside0.mk (Kd.R_below (by (with_reducible repeat (first | apply Kd.R_alloc | apply Kd.R_drewN | apply Kd.R_drew)); exact HO_5.out) hb); have n1_ := Aside0.mk (below_step (by repeat (first | (with_reducible first | exact HB.out | apply below_alloc | apply pw_below_drewN | apply below_drew1) | exact HB.out)) hb); clear HO_5; clear HB; have HO_5 := n0_; have HB := n1_; clear n0_ n1_; (try clear hb); (try clear hb2); (try clear hk); (try clear hi)))
            go_ret
            exact ⟨by first | rfl | (simp [errW_none, errW_some] <;> rfl) | (simp [*, errW_none, errW_some] <;> rfl), by repeat (first | (with_reducible first | exact HB.out | apply below_alloc | apply pw_below_drewN | apply below_drew1) | exact HB.out)⟩
          ·rw [if_neg c46] at H
           have c46b0 : (t430 == t448) = false := beq_eq_false_iff_ne.mpr c46
           have c46b1 : (t430 != t448) = true := bne_iff_ne.mpr c46
           obtain rfl := Option.some.inj H
           go_wp2_with (first | ((with_reducible refine gate_callee (f := 18) rfl ?_); refine goesL_ (some 95) rfl rfl Try.func18 (by kernel_rfl) rfl #[.slice Ao10 t427.length co10, .int .i64 a1, .int .i64 a1] rfl (by (try simp only [List.map_toArray, List.map_cons, List.map_nil]); first | done | rfl | (simp only [List.length_drop, List.length_take]; rfl)) ?_; (with_reducible refine (tickinglaw06_bad.calls kj26 _ _ t427 a1 a1 false _ ?side1 ?side2 A35.out).mono ?_); (case side1 => repeat (first | exact (Kd.R_reads' HO_5.out).2.2 | (with_reducible refine Kd.C_alloc ?_ _) | (with_reducible refine Kd.C_drewN ?_ _) | (with_reducible refine Kd.C_drew ?_))); (case side2 => exact (Kd.R_reads' HO_5.out).2.1); rintro e w54 ⟨rfl, hb⟩; refine ⟨_, rfl, ?_⟩; have n0_ := Aside0.mk (Kd.R_below (by (with_reducible repeat (first | apply Kd.R_alloc | apply Kd.R_drewN | apply Kd.R_drew)); exact HO_5.out) hb); have n1_ := Aside0.mk (below_step (by repeat (first | (with_reducible first | exact HB.out | apply below_alloc | apply pw_below_drewN | apply below_drew1) | exact HB.out)) hb); clear HO_5; clear HB; have HO_5 := n0_; have HB := n1_; clear n0_ n1_; (try clear hb); (try clear hb2); (try clear hk); (try clear hi)) | ((with_reducible refine gate_callee (f := 32) rfl ?_); refine goesL_ (some 108) rfl rfl Try.func32 (by kernel_rfl) rfl #[.slice Ao10 t427.length co10, .int .i64 a1] rfl (by (try simp only [List.map_toArray, List.map_cons, List.map_nil]); first | done | rfl | (simp only [List.length_drop, List.length_take]; rfl)) ?_; (with_reducible refine (tickingref06_Depth.calls kj26 _ _ t427 a1 t448 true _ ?side1 ?side2 A44.out).mono ?_); (case side1 => repeat (first | exact (Kd.R_reads' HO_5.out).2.2 | (with_reducible refine Kd.C_alloc ?_ _) | (with_reducible refine Kd.C_drewN ?_ _) | (with_reducible refine Kd.C_drew ?_))); (case side2 => exact (Kd.R_reads' HO_5.out).2.1); rintro e w55 ⟨rfl, hb⟩; refine ⟨_, rfl, ?_⟩; have n0_ := Aside0.mk (Kd.R_below (by (with_reducible repeat (first | apply Kd.R_alloc | apply Kd.R_drewN | apply Kd.R_drew)); exact HO_5.out) hb); have n1_ := Aside0.mk (below_step (by repeat (first | (with_reducible first | exact HB.out | apply below_alloc | apply pw_below_drewN | apply below_drew1) | exact HB.out)) hb); clear HO_5; clear HB; have HO_5 := n0_; have HB := n1_; clear n0_ n1_; (try clear hb); (try clear hb2); (try clear hk); (try clear hi)))
           go_ret
           exact ⟨by first | rfl | (simp [errW_none, errW_some] <;> rfl) | (simp [*, errW_none, errW_some] <;> rfl), by repeat (first | (with_reducible first | exact HB.out | apply below_alloc | apply pw_below_drewN | apply below_drew1) | exact HB.out)⟩
         ·replace c45 := Bool.eq_false_iff.mpr c45
          subst c45
          have H1 : (if t430 = 0 then (if t431 = 6 then ((tickinglaw06_awake.f kj26).bind fun t451 => (some t451)) else (some false)) else (some false)) = some r := by rw [if_neg (show ¬ (false = true) by decide)] at H; exact H
          clear H
          have H := H1
          clear H1
          by_cases c56 : t430 = 0
          ·rw [if_pos c56] at H
           have c56b0 : (t430 == 0) = true := beq_iff_eq.mpr c56
           have c56b1 : (t430 != 0) = false := bne_eq_false_iff_eq.mpr c56
           clear c56
           by_cases c57 : t431 = 6
           ·rw [if_pos c57] at H
            have c57b0 : (t431 == 6) = true := beq_iff_eq.mpr c57
            have c57b1 : (t431 != 6) = false := bne_eq_false_iff_eq.mpr c57
            clear c57
            replace H := Option.bind_eq_some_iff.mp H
            obtain ⟨t451, A580, H⟩ := H
            replace H : (some t451) = some r := H
            have A58 := Aside0.mk A580
            clear A580
            obtain rfl := Option.some.inj H
            go_wp2_with (first | ((with_reducible refine gate_callee (f := 18) rfl ?_); refine goesL_ (some 95) rfl rfl Try.func18 (by kernel_rfl) rfl #[.slice Ao10 t427.length co10, .int .i64 a1, .int .i64 a1] rfl (by (try simp only [List.map_toArray, List.map_cons, List.map_nil]); first | done | rfl | (simp only [List.length_drop, List.length_take]; rfl)) ?_; (with_reducible refine (tickinglaw06_bad.calls kj26 _ _ t427 a1 a1 false _ ?side1 ?side2 A35.out).mono ?_); (case side1 => repeat (first | exact (Kd.R_reads' HO_5.out).2.2 | (with_reducible refine Kd.C_alloc ?_ _) | (with_reducible refine Kd.C_drewN ?_ _) | (with_reducible refine Kd.C_drew ?_))); (case side2 => exact (Kd.R_reads' HO_5.out).2.1); rintro e w59 ⟨rfl, hb⟩; refine ⟨_, rfl, ?_⟩; have n0_ := Aside0.mk (Kd.R_below (by (with_reducible repeat (first | apply Kd.R_alloc | apply Kd.R_drewN | apply Kd.R_drew)); exact HO_5.out) hb); have n1_ := Aside0.mk (below_step (by repeat (first | (with_reducible first | exact HB.out | apply below_alloc | apply pw_below_drewN | apply below_drew1) | exact HB.out)) hb); clear HO_5; clear HB; have HO_5 := n0_; have HB := n1_; clear n0_ n1_; (try clear hb); (try clear hb2); (try clear hk); (try clear hi)) | ((with_reducible refine gate_callee (f := 32) rfl ?_); refine goesL_ (some 108) rfl rfl Try.func32 (by kernel_rfl) rfl #[.slice Ao10 t427.length co10, .int .i64 a1] rfl (by (try simp only [List.map_toArray, List.map_cons, List.map_nil]); first | done | rfl | (simp only [List.length_drop, List.length_take]; rfl)) ?_; (with_reducible refine (tickingref06_Depth.calls kj26 _ _ t427 a1 t448 false _ ?side1 ?side2 A44.out).mono ?_); (case side1 => repeat (first | exact (Kd.R_reads' HO_5.out).2.2 | (with_reducible refine Kd.C_alloc ?_ _) | (with_reducible refine Kd.C_drewN ?_ _) | (with_reducible refine Kd.C_drew ?_))); (case side2 => exact (Kd.R_reads' HO_5.out).2.1); rintro e w60 ⟨rfl, hb⟩; refine ⟨_, rfl, ?_⟩; have n0_ := Aside0.mk (Kd.R_below (by (with_reducible repeat (first | apply Kd.R_alloc | apply Kd.R_drewN | apply Kd.R_drew)); exact HO_5.out) hb); have n1_ := Aside0.mk (below_step (by repeat (first | (with_reducible first | exact HB.out | apply below_alloc | apply pw_below_drewN | apply below_drew1) | exact HB.out)) hb); clear HO_5; clear HB; have HO_5 := n0_; have HB := n1_; clear n0_ n1_; (try clear hb); (try clear hb2); (try clear hk); (try clear hi)) | (go_at_call 19; (with_reducible refine (tickinglaw06_awake.calls kj26  t451 _ A58.out).mono ?_); rintro e w61 ⟨rfl, hb⟩; have n0_ := Aside0.mk (Kd.R_below (by (with_reducible repeat (first | apply Kd.R_alloc | apply Kd.R_drewN | apply Kd.R_drew)); exact HO_5.out) hb); have n1_ := Aside0.mk (below_step (by repeat (first | (with_reducible first | exact HB.out | apply below_alloc | apply pw_below_drewN | apply below_drew1) | exact HB.out)) hb); clear HO_5; clear HB; have HO_5 := n0_; have HB := n1_; clear n0_ n1_; (try clear hb); (try clear hb2); (try clear hk); (try clear hi)))
            go_ret
            exact ⟨by first | rfl | (simp [errW_none, errW_some] <;> rfl) | (simp [*, errW_none, errW_some] <;> rfl), by repeat (first | (with_reducible first | exact HB.out | apply below_alloc | apply pw_below_drewN | apply below_drew1) | exact HB.out)⟩
           ·rw [if_neg c57] at H
            have c57b0 : (t431 == 6) = false := beq_eq_false_iff_ne.mpr c57
            have c57b1 : (t431 != 6) = true := bne_iff_ne.mpr c57
            obtain rfl := Option.some.inj H
            go_wp2_with (first | ((with_reducible refine gate_callee (f := 18) rfl ?_); refine goesL_ (some 95) rfl rfl Try.func18 (by kernel_rfl) rfl #[.slice Ao10 t427.length co10, .int .i64 a1, .int .i64 a1] rfl (by (try simp only [List.map_toArray, List.map_cons, List.map_nil]); first | done | rfl | (simp only [List.length_drop, List.length_take]; rfl)) ?_; (with_reducible refine (tickinglaw06_bad.calls kj26 _ _ t427 a1 a1 false _ ?side1 ?side2 A35.out).mono ?_); (case side1 => repeat (first | exact (Kd.R_reads' HO_5.out).2.2 | (with_reducible refine Kd.C_alloc ?_ _) | (with_reducible refine Kd.C_drewN ?_ _) | (with_reducible refine Kd.C_drew ?_))); (case side2 => exact (Kd.R_reads' HO_5.out).2.1); rintro e w62 ⟨rfl, hb⟩; refine ⟨_, rfl, ?_⟩; have n0_ := Aside0.mk (Kd.R_below (by (with_reducible repeat (first | apply Kd.R_alloc | apply Kd.R_drewN | apply Kd.R_drew)); exact HO_5.out) hb); have n1_ := Aside0.mk (below_step (by repeat (first | (with_reducible first | exact HB.out | apply below_alloc | apply pw_below_drewN | apply below_drew1) | exact HB.out)) hb); clear HO_5; clear HB; have HO_5 := n0_; have HB := n1_; clear n0_ n1_; (try clear hb); (try clear hb2); (try clear hk); (try clear hi)) | ((with_reducible refine gate_callee (f := 32) rfl ?_); refine goesL_ (some 108) rfl rfl Try.func32 (by kernel_rfl) rfl #[.slice Ao10 t427.length co10, .int .i64 a1] rfl (by (try simp only [List.map_toArray, List.map_cons, List.map_nil]); first | done | rfl | (simp only [List.length_drop, List.length_take]; rfl)) ?_; (with_reducible refine (tickingref06_Depth.calls kj26 _ _ t427 a1 t448 false _ ?side1 ?side2 A44.out).mono ?_); (case side1 => repeat (first | exact (Kd.R_reads' HO_5.out).2.2 | (with_reducible refine Kd.C_alloc ?_ _) | (with_reducible refine Kd.C_drewN ?_ _) | (with_reducible refine Kd.C_drew ?_))); (case side2 => exact (Kd.R_reads' HO_5.out).2.1); rintro e w63 ⟨rfl, hb⟩; refine ⟨_, rfl, ?_⟩; have n0_ := Aside0.mk (Kd.R_below (by (with_reducible repeat (first | apply Kd.R_alloc | apply Kd.R_drewN | apply Kd.R_drew)); exact HO_5.out) hb); have n1_ := Aside0.mk (below_step (by repeat (first | (with_reducible first | exact HB.out | apply below_alloc | apply pw_below_drewN | apply below_drew1) | exact HB.out)) hb); clear HO_5; clear HB; have HO_5 := n0_; have HB := n1_; clear n0_ n1_; (try clear hb); (try clear hb2); (try clear hk); (try clear hi)))
            go_ret
            exact ⟨by first | rfl | (simp [errW_none, errW_some] <;> rfl) | (simp [*, errW_none, errW_some] <;> rfl), by repeat (first | (with_reducible first | exact HB.out | apply below_alloc | apply pw_below_drewN | apply below_drew1) | exact HB.out)⟩
          ·rw [if_neg c56] at H
           have c56b0 : (t430 == 0) = false := beq_eq_false_iff_ne.mpr c56
           have c56b1 : (t430 != 0) = true := bne_iff_ne.mpr c56
           obtain rfl := Option.some.inj H
           go_wp2_with (first | ((with_reducible refine gate_callee (f := 18) rfl ?_); refine goesL_ (some 95) rfl rfl Try.func18 (by kernel_rfl) rfl #[.slice Ao10 t427.length co10, .int .i64 a1, .int .i64 a1] rfl (by (try simp only [List.map_toArray, List.map_cons, List.map_nil]); first | done | rfl | (simp only [List.length_drop, List.length_take]; rfl)) ?_; (with_reducible refine (tickinglaw06_bad.calls kj26 _ _ t427 a1 a1 false _ ?side1 ?side2 A35.out).mono ?_); (case side1 => repeat (first | exact (Kd.R_reads' HO_5.out).2.2 | (with_reducible refine Kd.C_alloc ?_ _) | (with_reducible refine Kd.C_drewN ?_ _) | (with_reducible refine Kd.C_drew ?_))); (case side2 => exact (Kd.R_reads' HO_5.out).2.1); rintro e w64 ⟨rfl, hb⟩; refine ⟨_, rfl, ?_⟩; have n0_ := Aside0.mk (Kd.R_below (by (with_reducible repeat (first | apply Kd.R_alloc | apply Kd.R_drewN | apply Kd.R_drew)); exact HO_5.out) hb); have n1_ := Aside0.mk (below_step (by repeat (first | (with_reducible first | exact HB.out | apply below_alloc | apply pw_below_drewN | apply below_drew1) | exact HB.out)) hb); clear HO_5; clear HB; have HO_5 := n0_; have HB := n1_; clear n0_ n1_; (try clear hb); (try clear hb2); (try clear hk); (try clear hi)) | ((with_reducible refine gate_callee (f := 32) rfl ?_); refine goesL_ (some 108) rfl rfl Try.func32 (by kernel_rfl) rfl #[.slice Ao10 t427.length co10, .int .i64 a1] rfl (by (try simp only [List.map_toArray, List.map_cons, List.map_nil]); first | done | rfl | (simp only [List.length_drop, List.length_take]; rfl)) ?_; (with_reducible refine (tickingref06_Depth.calls kj26 _ _ t427 a1 t448 false _ ?side1 ?side2 A44.out).mono ?_); (case side1 => repeat (first | exact (Kd.R_reads' HO_5.out).2.2 | (with_reducible refine Kd.C_alloc ?_ _) | (with_reducible refine Kd.C_drewN ?_ _) | (with_reducible refine Kd.C_drew ?_))); (case side2 => exact (Kd.R_reads' HO_5.out).2.1); rintro e w65 ⟨rfl, hb⟩; refine ⟨_, rfl, ?_⟩; have n0_ := Aside0.mk (Kd.R_below (by (with_reducible repeat (first | apply Kd.R_alloc | apply Kd.R_drewN | apply Kd.R_drew)); exact HO_5.out) hb); have n1_ := Aside0.mk (below_step (by repeat (first | (with_reducible first | exact HB.out | apply below_alloc | apply pw_below_drewN | apply below_drew1) | exact HB.out)) hb); clear HO_5; clear HB; have HO_5 := n0_; have HB := n1_; clear n0_ n1_; (try clear hb); (try clear hb2); (try clear hk); (try clear hi)))
           go_ret
           exact ⟨by first | rfl | (simp [errW_none, errW_some] <;> rfl) | (simp [*, errW_none, errW_some] <;> rfl), by repeat (first | (with_reducible first | exact HB.out | apply below_alloc | apply pw_below_drewN | apply below_drew1) | exact HB.out)⟩
 ·replace c7 := Bool.eq_false_iff.mpr c7
  subst c7
  have H1 : (if t430 = 0 then (if t431 = 2 then (if (t432.length : Int) = 0 then (if t433 = 2 then ((tickinglaw06_awake.f k).bind fun t437 => (some t437)) else (some false)) else (some false)) else (some false)) else (some false)) = some r := by rw [if_neg (show ¬ (false = true) by decide)] at H; exact H
  clear H
  have H := H1
  clear H1
  by_cases c66 : t430 = 0
  ·rw [if_pos c66] at H
   have c66b0 : (t430 == 0) = true := beq_iff_eq.mpr c66
   have c66b1 : (t430 != 0) = false := bne_eq_false_iff_eq.mpr c66
   clear c66
   by_cases c67 : t431 = 2
   ·rw [if_pos c67] at H
    have c67b0 : (t431 == 2) = true := beq_iff_eq.mpr c67
    have c67b1 : (t431 != 2) = false := bne_eq_false_iff_eq.mpr c67
    clear c67
    by_cases c68 : (t432.length : Int) = 0
    ·rw [if_pos c68] at H
     have c68b0 : ((t432.length : Int) == 0) = true := beq_iff_eq.mpr c68
     have c68b1 : ((t432.length : Int) != 0) = false := bne_eq_false_iff_eq.mpr c68
     clear c68
     by_cases c69 : t433 = 2
     ·rw [if_pos c69] at H
      have c69b0 : (t433 == 2) = true := beq_iff_eq.mpr c69
      have c69b1 : (t433 != 2) = false := bne_eq_false_iff_eq.mpr c69
      clear c69
      replace H := Option.bind_eq_some_iff.mp H
      obtain ⟨t437, A700, H⟩ := H
      replace H : (some t437) = some r := H
      have A70 := Aside0.mk A700
      clear A700
      obtain rfl := Option.some.inj H
      go_enter Try.func7, Try.ntmps7
      go_wp2_with (first | ((with_reducible refine gate_callee (f := 15) rfl ?_); refine goesL_ (some 17) rfl rfl Try.func15 (by kernel_rfl) rfl #[.slice A0 l0.length c0] rfl (by (try simp only [List.map_toArray, List.map_cons, List.map_nil]); first | done | rfl | (simp only [List.length_drop, List.length_take]; rfl)) ?_; (with_reducible refine (tickinglaw06_own.calls _ _ l0 t427 _ ?side1 ?side2 A3.out).mono ?_); (case side1 => repeat (first | exact HR0.out | (with_reducible refine Kd.C_alloc ?_ _) | (with_reducible refine Kd.C_drewN ?_ _) | (with_reducible refine Kd.C_drew ?_))); (case side2 => exact HC0.out); rintro e w71 ⟨v428, rfl, ho0, hb⟩; refine ⟨_, rfl, ?_⟩; have n0_ := Aside0.mk (Kd.R_lower ho0 (below_size (by repeat (first | (with_reducible first | exact HB.out | apply below_alloc | apply pw_below_drewN | apply below_drew1) | exact HB.out)))); have n1_ := Aside0.mk (below_step (by repeat (first | (with_reducible first | exact HB.out | apply below_alloc | apply pw_below_drewN | apply below_drew1) | exact HB.out)) hb); clear HB; have HO429 := n0_; have HB := n1_; clear n0_ n1_; (try clear hb); (try clear hb2); (try clear hk); (try clear hi); (try clear ho0); obtain ⟨Ao72, co72, eo72⟩ := Kd.R_slice HO429.out; subst eo72) | ((with_reducible refine gate_callee (f := 28) rfl ?_); refine goesL_ (some 21) rfl rfl Try.func28 (by kernel_rfl) rfl #[.slice Ao72 t427.length co72, .int .i64 a1] rfl (by (try simp only [List.map_toArray, List.map_cons, List.map_nil]); first | done | rfl | (simp only [List.length_drop, List.length_take]; rfl)) ?_; (with_reducible refine (loops_Depth.calls k _ _ t427 a1 t430 t431 _ ?side1 ?side2 A4.out).mono ?_); (case side1 => repeat (first | exact (Kd.R_reads' HO429.out).2.2 | (with_reducible refine Kd.C_alloc ?_ _) | (with_reducible refine Kd.C_drewN ?_ _) | (with_reducible refine Kd.C_drew ?_))); (case side2 => exact (Kd.R_reads' HO429.out).2.1); rintro e w73 ⟨rfl, hb⟩; refine ⟨_, rfl, ?_⟩; have n0_ := Aside0.mk (Kd.R_below (by (with_reducible repeat (first | apply Kd.R_alloc | apply Kd.R_drewN | apply Kd.R_drew)); exact HO429.out) hb); have n1_ := Aside0.mk (below_step (by repeat (first | (with_reducible first | exact HB.out | apply below_alloc | apply pw_below_drewN | apply below_drew1) | exact HB.out)) hb); clear HO429; clear HB; have HO429 := n0_; have HB := n1_; clear n0_ n1_; (try clear hb); (try clear hb2); (try clear hk); (try clear hi)) | ((with_reducible refine gate_callee (f := 29) rfl ?_); refine goesL_ (some 26) rfl rfl Try.func29 (by kernel_rfl) rfl #[.slice Ao72 t427.length co72] rfl (by (try simp only [List.map_toArray, List.map_cons, List.map_nil]); first | done | rfl | (simp only [List.length_drop, List.length_take]; rfl)) ?_; (with_reducible refine (loops_Order.calls k _ _ t427 t432 t433 _ ?side1 ?side2 A5.out).mono ?_); (case side1 => repeat (first | exact (Kd.R_reads' HO429.out).2.2 | (with_reducible refine Kd.C_alloc ?_ _) | (with_reducible refine Kd.C_drewN ?_ _) | (with_reducible refine Kd.C_drew ?_))); (case side2 => exact (Kd.R_reads' HO429.out).2.1); rintro e w74 ⟨v434, rfl, ho0, hb⟩; refine ⟨_, rfl, ?_⟩; have n0_ := Aside0.mk (Kd.R_below (by (with_reducible repeat (first | apply Kd.R_alloc | apply Kd.R_drewN | apply Kd.R_drew)); exact HO429.out) hb); have n1_ := Aside0.mk (Kd.R_lower ho0 (below_size (by repeat (first | (with_reducible first | exact HB.out | apply below_alloc | apply pw_below_drewN | apply below_drew1) | exact HB.out)))); have n2_ := Aside0.mk (below_step (by repeat (first | (with_reducible first | exact HB.out | apply below_alloc | apply pw_below_drewN | apply below_drew1) | exact HB.out)) hb); clear HO429; clear HB; have HO429 := n0_; have HO435 := n1_; have HB := n2_; clear n0_ n1_ n2_; (try clear hb); (try clear hb2); (try clear hk); (try clear hi); (try clear ho0)) | ((with_reducible refine gate_callee (f := 26) rfl ?_); refine goesL_ (some 30) rfl rfl Try.func26 (by kernel_rfl) rfl #[.slice Ao72 t427.length co72, .int .i64 24] rfl (by (try simp only [List.map_toArray, List.map_cons, List.map_nil]); first | done | rfl | (simp only [List.length_drop, List.length_take]; rfl)) ?_; (with_reducible refine (tickingref06_Types.calls k _ _ t427 24 false _ ?side1 ?side2 A6.out).mono ?_); (case side1 => repeat (first | exact (Kd.R_reads' HO429.out).2.2 | (with_reducible refine Kd.C_alloc ?_ _) | (with_reducible refine Kd.C_drewN ?_ _) | (with_reducible refine Kd.C_drew ?_))); (case side2 => exact (Kd.R_reads' HO429.out).2.1); rintro e w75 ⟨rfl, hb⟩; refine ⟨_, rfl, ?_⟩; have n0_ := Aside0.mk (Kd.R_below (by (with_reducible repeat (first | apply Kd.R_alloc | apply Kd.R_drewN | apply Kd.R_drew)); exact HO429.out) hb); have n1_ := Aside0.mk (Kd.R_below (by (with_reducible repeat (first | apply Kd.R_alloc | apply Kd.R_drewN | apply Kd.R_drew)); exact HO435.out) hb); have n2_ := Aside0.mk (below_step (by repeat (first | (with_reducible first | exact HB.out | apply below_alloc | apply pw_below_drewN | apply below_drew1) | exact HB.out)) hb); clear HO429; clear HO435; clear HB; have HO429 := n0_; have HO435 := n1_; have HB := n2_; clear n0_ n1_ n2_; (try clear hb); (try clear hb2); (try clear hk); (try clear hi); obtain ⟨Ao76, co76, eo76⟩ := Kd.R_slice HO435.out; subst eo76) | (go_at_call 19; (with_reducible refine (tickinglaw06_awake.calls k  t437 _ A70.out).mono ?_); rintro e w77 ⟨rfl, hb⟩; have n0_ := Aside0.mk (Kd.R_below (by (with_reducible repeat (first | apply Kd.R_alloc | apply Kd.R_drewN | apply Kd.R_drew)); exact HO429.out) hb); have n1_ := Aside0.mk (Kd.R_below (by (with_reducible repeat (first | apply Kd.R_alloc | apply Kd.R_drewN | apply Kd.R_drew)); exact HO435.out) hb); have n2_ := Aside0.mk (below_step (by repeat (first | (with_reducible first | exact HB.out | apply below_alloc | apply pw_below_drewN | apply below_drew1) | exact HB.out)) hb); clear HO429; clear HO435; clear HB; have HO429 := n0_; have HO435 := n1_; have HB := n2_; clear n0_ n1_ n2_; (try clear hb); (try clear hb2); (try clear hk); (try clear hi)))
      go_ret
      exact ⟨by first | rfl | (simp [errW_none, errW_some] <;> rfl) | (simp [*, errW_none, errW_some] <;> rfl), by repeat (first | (with_reducible first | exact HB.out | apply below_alloc | apply pw_below_drewN | apply below_drew1) | exact HB.out)⟩
     ·rw [if_neg c69] at H
      have c69b0 : (t433 == 2) = false := beq_eq_false_iff_ne.mpr c69
      have c69b1 : (t433 != 2) = true := bne_iff_ne.mpr c69
      obtain rfl := Option.some.inj H
      go_enter Try.func7, Try.ntmps7
      go_wp2_with (first | ((with_reducible refine gate_callee (f := 15) rfl ?_); refine goesL_ (some 17) rfl rfl Try.func15 (by kernel_rfl) rfl #[.slice A0 l0.length c0] rfl (by (try simp only [List.map_toArray, List.map_cons, List.map_nil]); first | done | rfl | (simp only [List.length_drop, List.length_take]; rfl)) ?_; (with_reducible refine (tickinglaw06_own.calls _ _ l0 t427 _ ?side1 ?side2 A3.out).mono ?_); (case side1 => repeat (first | exact HR0.out | (with_reducible refine Kd.C_alloc ?_ _) | (with_reducible refine Kd.C_drewN ?_ _) | (with_reducible refine Kd.C_drew ?_))); (case side2 => exact HC0.out); rintro e w78 ⟨v428, rfl, ho0, hb⟩; refine ⟨_, rfl, ?_⟩; have n0_ := Aside0.mk (Kd.R_lower ho0 (below_size (by repeat (first | (with_reducible first | exact HB.out | apply below_alloc | apply pw_below_drewN | apply below_drew1) | exact HB.out)))); have n1_ := Aside0.mk (below_step (by repeat (first | (with_reducible first | exact HB.out | apply below_alloc | apply pw_below_drewN | apply below_drew1) | exact HB.out)) hb); clear HB; have HO429 := n0_; have HB := n1_; clear n0_ n1_; (try clear hb); (try clear hb2); (try clear hk); (try clear hi); (try clear ho0); obtain ⟨Ao79, co79, eo79⟩ := Kd.R_slice HO429.out; subst eo79) | ((with_reducible refine gate_callee (f := 28) rfl ?_); refine goesL_ (some 21) rfl rfl Try.func28 (by kernel_rfl) rfl #[.slice Ao79 t427.length co79, .int .i64 a1] rfl (by (try simp only [List.map_toArray, List.map_cons, List.map_nil]); first | done | rfl | (simp only [List.length_drop, List.length_take]; rfl)) ?_; (with_reducible refine (loops_Depth.calls k _ _ t427 a1 t430 t431 _ ?side1 ?side2 A4.out).mono ?_); (case side1 => repeat (first | exact (Kd.R_reads' HO429.out).2.2 | (with_reducible refine Kd.C_alloc ?_ _) | (with_reducible refine Kd.C_drewN ?_ _) | (with_reducible refine Kd.C_drew ?_))); (case side2 => exact (Kd.R_reads' HO429.out).2.1); rintro e w80 ⟨rfl, hb⟩; refine ⟨_, rfl, ?_⟩; have n0_ := Aside0.mk (Kd.R_below (by (with_reducible repeat (first | apply Kd.R_alloc | apply Kd.R_drewN | apply Kd.R_drew)); exact HO429.out) hb); have n1_ := Aside0.mk (below_step (by repeat (first | (with_reducible first | exact HB.out | apply below_alloc | apply pw_below_drewN | apply below_drew1) | exact HB.out)) hb); clear HO429; clear HB; have HO429 := n0_; have HB := n1_; clear n0_ n1_; (try clear hb); (try clear hb2); (try clear hk); (try clear hi)) | ((with_reducible refine gate_callee (f := 29) rfl ?_); refine goesL_ (some 26) rfl rfl Try.func29 (by kernel_rfl) rfl #[.slice Ao79 t427.length co79] rfl (by (try simp only [List.map_toArray, List.map_cons, List.map_nil]); first | done | rfl | (simp only [List.length_drop, List.length_take]; rfl)) ?_; (with_reducible refine (loops_Order.calls k _ _ t427 t432 t433 _ ?side1 ?side2 A5.out).mono ?_); (case side1 => repeat (first | exact (Kd.R_reads' HO429.out).2.2 | (with_reducible refine Kd.C_alloc ?_ _) | (with_reducible refine Kd.C_drewN ?_ _) | (with_reducible refine Kd.C_drew ?_))); (case side2 => exact (Kd.R_reads' HO429.out).2.1); rintro e w81 ⟨v434, rfl, ho0, hb⟩; refine ⟨_, rfl, ?_⟩; have n0_ := Aside0.mk (Kd.R_below (by (with_reducible repeat (first | apply Kd.R_alloc | apply Kd.R_drewN | apply Kd.R_drew)); exact HO429.out) hb); have n1_ := Aside0.mk (Kd.R_lower ho0 (below_size (by repeat (first | (with_reducible first | exact HB.out | apply below_alloc | apply pw_below_drewN | apply below_drew1) | exact HB.out)))); have n2_ := Aside0.mk (below_step (by repeat (first | (with_reducible first | exact HB.out | apply below_alloc | apply pw_below_drewN | apply below_drew1) | exact HB.out)) hb); clear HO429; clear HB; have HO429 := n0_; have HO435 := n1_; have HB := n2_; clear n0_ n1_ n2_; (try clear hb); (try clear hb2); (try clear hk); (try clear hi); (try clear ho0)) | ((with_reducible refine gate_callee (f := 26) rfl ?_); refine goesL_ (some 30) rfl rfl Try.func26 (by kernel_rfl) rfl #[.slice Ao79 t427.length co79, .int .i64 24] rfl (by (try simp only [List.map_toArray, List.map_cons, List.map_nil]); first | done | rfl | (simp only [List.length_drop, List.length_take]; rfl)) ?_; (with_reducible refine (tickingref06_Types.calls k _ _ t427 24 false _ ?side1 ?side2 A6.out).mono ?_); (case side1 => repeat (first | exact (Kd.R_reads' HO429.out).2.2 | (with_reducible refine Kd.C_alloc ?_ _) | (with_reducible refine Kd.C_drewN ?_ _) | (with_reducible refine Kd.C_drew ?_))); (case side2 => exact (Kd.R_reads' HO429.out).2.1); rintro e w82 ⟨rfl, hb⟩; refine ⟨_, rfl, ?_⟩; have n0_ := Aside0.mk (Kd.R_below (by (with_reducible repeat (first | apply Kd.R_alloc | apply Kd.R_drewN | apply Kd.R_drew)); exact HO429.out) hb); have n1_ := Aside0.mk (Kd.R_below (by (with_reducible repeat (first | apply Kd.R_alloc | apply Kd.R_drewN | apply Kd.R_drew)); exact HO435.out) hb); have n2_ := Aside0.mk (below_step (by repeat (first | (with_reducible first | exact HB.out | apply below_alloc | apply pw_below_drewN | apply below_drew1) | exact HB.out)) hb); clear HO429; clear HO435; clear HB; have HO429 := n0_; have HO435 := n1_; have HB := n2_; clear n0_ n1_ n2_; (try clear hb); (try clear hb2); (try clear hk); (try clear hi); obtain ⟨Ao83, co83, eo83⟩ := Kd.R_slice HO435.out; subst eo83))
      go_ret
      exact ⟨by first | rfl | (simp [errW_none, errW_some] <;> rfl) | (simp [*, errW_none, errW_some] <;> rfl), by repeat (first | (with_reducible first | exact HB.out | apply below_alloc | apply pw_below_drewN | apply below_drew1) | exact HB.out)⟩
    ·rw [if_neg c68] at H
     have c68b0 : ((t432.length : Int) == 0) = false := beq_eq_false_iff_ne.mpr c68
     have c68b1 : ((t432.length : Int) != 0) = true := bne_iff_ne.mpr c68
     have c68b2 : ¬ (t432 = []) := fun h_ => c68 (by rw [h_]; rfl)
     obtain rfl := Option.some.inj H
     go_enter Try.func7, Try.ntmps7
     go_wp2_with (first | ((with_reducible refine gate_callee (f := 15) rfl ?_); refine goesL_ (some 17) rfl rfl Try.func15 (by kernel_rfl) rfl #[.slice A0 l0.length c0] rfl (by (try simp only [List.map_toArray, List.map_cons, List.map_nil]); first | done | rfl | (simp only [List.length_drop, List.length_take]; rfl)) ?_; (with_reducible refine (tickinglaw06_own.calls _ _ l0 t427 _ ?side1 ?side2 A3.out).mono ?_); (case side1 => repeat (first | exact HR0.out | (with_reducible refine Kd.C_alloc ?_ _) | (with_reducible refine Kd.C_drewN ?_ _) | (with_reducible refine Kd.C_drew ?_))); (case side2 => exact HC0.out); rintro e w84 ⟨v428, rfl, ho0, hb⟩; refine ⟨_, rfl, ?_⟩; have n0_ := Aside0.mk (Kd.R_lower ho0 (below_size (by repeat (first | (with_reducible first | exact HB.out | apply below_alloc | apply pw_below_drewN | apply below_drew1) | exact HB.out)))); have n1_ := Aside0.mk (below_step (by repeat (first | (with_reducible first | exact HB.out | apply below_alloc | apply pw_below_drewN | apply below_drew1) | exact HB.out)) hb); clear HB; have HO429 := n0_; have HB := n1_; clear n0_ n1_; (try clear hb); (try clear hb2); (try clear hk); (try clear hi); (try clear ho0); obtain ⟨Ao85, co85, eo85⟩ := Kd.R_slice HO429.out; subst eo85) | ((with_reducible refine gate_callee (f := 28) rfl ?_); refine goesL_ (some 21) rfl rfl Try.func28 (by kernel_rfl) rfl #[.slice Ao85 t427.length co85, .int .i64 a1] rfl (by (try simp only [List.map_toArray, List.map_cons, List.map_nil]); first | done | rfl | (simp only [List.length_drop, List.length_take]; rfl)) ?_; (with_reducible refine (loops_Depth.calls k _ _ t427 a1 t430 t431 _ ?side1 ?side2 A4.out).mono ?_); (case side1 => repeat (first | exact (Kd.R_reads' HO429.out).2.2 | (with_reducible refine Kd.C_alloc ?_ _) | (with_reducible refine Kd.C_drewN ?_ _) | (with_reducible refine Kd.C_drew ?_))); (case side2 => exact (Kd.R_reads' HO429.out).2.1); rintro e w86 ⟨rfl, hb⟩; refine ⟨_, rfl, ?_⟩; have n0_ := Aside0.mk (Kd.R_below (by (with_reducible repeat (first | apply Kd.R_alloc | apply Kd.R_drewN | apply Kd.R_drew)); exact HO429.out) hb); have n1_ := Aside0.mk (below_step (by repeat (first | (with_reducible first | exact HB.out | apply below_alloc | apply pw_below_drewN | apply below_drew1) | exact HB.out)) hb); clear HO429; clear HB; have HO429 := n0_; have HB := n1_; clear n0_ n1_; (try clear hb); (try clear hb2); (try clear hk); (try clear hi)) | ((with_reducible refine gate_callee (f := 29) rfl ?_); refine goesL_ (some 26) rfl rfl Try.func29 (by kernel_rfl) rfl #[.slice Ao85 t427.length co85] rfl (by (try simp only [List.map_toArray, List.map_cons, List.map_nil]); first | done | rfl | (simp only [List.length_drop, List.length_take]; rfl)) ?_; (with_reducible refine (loops_Order.calls k _ _ t427 t432 t433 _ ?side1 ?side2 A5.out).mono ?_); (case side1 => repeat (first | exact (Kd.R_reads' HO429.out).2.2 | (with_reducible refine Kd.C_alloc ?_ _) | (with_reducible refine Kd.C_drewN ?_ _) | (with_reducible refine Kd.C_drew ?_))); (case side2 => exact (Kd.R_reads' HO429.out).2.1); rintro e w87 ⟨v434, rfl, ho0, hb⟩; refine ⟨_, rfl, ?_⟩; have n0_ := Aside0.mk (Kd.R_below (by (with_reducible repeat (first | apply Kd.R_alloc | apply Kd.R_drewN | apply Kd.R_drew)); exact HO429.out) hb); have n1_ := Aside0.mk (Kd.R_lower ho0 (below_size (by repeat (first | (with_reducible first | exact HB.out | apply below_alloc | apply pw_below_drewN | apply below_drew1) | exact HB.out)))); have n2_ := Aside0.mk (below_step (by repeat (first | (with_reducible first | exact HB.out | apply below_alloc | apply pw_below_drewN | apply below_drew1) | exact HB.out)) hb); clear HO429; clear HB; have HO429 := n0_; have HO435 := n1_; have HB := n2_; clear n0_ n1_ n2_; (try clear hb); (try clear hb2); (try clear hk); (try clear hi); (try clear ho0)) | ((with_reducible refine gate_callee (f := 26) rfl ?_); refine goesL_ (some 30) rfl rfl Try.func26 (by kernel_rfl) rfl #[.slice Ao85 t427.length co85, .int .i64 24] rfl (by (try simp only [List.map_toArray, List.map_cons, List.map_nil]); first | done | rfl | (simp only [List.length_drop, List.length_take]; rfl)) ?_; (with_reducible refine (tickingref06_Types.calls k _ _ t427 24 false _ ?side1 ?side2 A6.out).mono ?_); (case side1 => repeat (first | exact (Kd.R_reads' HO429.out).2.2 | (with_reducible refine Kd.C_alloc ?_ _) | (with_reducible refine Kd.C_drewN ?_ _) | (with_reducible refine Kd.C_drew ?_))); (case side2 => exact (Kd.R_reads' HO429.out).2.1); rintro e w88 ⟨rfl, hb⟩; refine ⟨_, rfl, ?_⟩; have n0_ := Aside0.mk (Kd.R_below (by (with_reducible repeat (first | apply Kd.R_alloc | apply Kd.R_drewN | apply Kd.R_drew)); exact HO429.out) hb); have n1_ := Aside0.mk (Kd.R_below (by (with_reducible repeat (first | apply Kd.R_alloc | apply Kd.R_drewN | apply Kd.R_drew)); exact HO435.out) hb); have n2_ := Aside0.mk (below_step (by repeat (first | (with_reducible first | exact HB.out | apply below_alloc | apply pw_below_drewN | apply below_drew1) | exact HB.out)) hb); clear HO429; clear HO435; clear HB; have HO429 := n0_; have HO435 := n1_; have HB := n2_; clear n0_ n1_ n2_; (try clear hb); (try clear hb2); (try clear hk); (try clear hi); obtain ⟨Ao89, co89, eo89⟩ := Kd.R_slice HO435.out; subst eo89))
     go_ret
     exact ⟨by first | rfl | (simp [errW_none, errW_some] <;> rfl) | (simp [*, errW_none, errW_some] <;> rfl), by repeat (first | (with_reducible first | exact HB.out | apply below_alloc | apply pw_below_drewN | apply below_drew1) | exact HB.out)⟩
   ·rw [if_neg c67] at H
    have c67b0 : (t431 == 2) = false := beq_eq_false_iff_ne.mpr c67
    have c67b1 : (t431 != 2) = true := bne_iff_ne.mpr c67
    obtain rfl := Option.some.inj H
    go_enter Try.func7, Try.ntmps7
    go_wp2_with (first | ((with_reducible refine gate_callee (f := 15) rfl ?_); refine goesL_ (some 17) rfl rfl Try.func15 (by kernel_rfl) rfl #[.slice A0 l0.length c0] rfl (by (try simp only [List.map_toArray, List.map_cons, List.map_nil]); first | done | rfl | (simp only [List.length_drop, List.length_take]; rfl)) ?_; (with_reducible refine (tickinglaw06_own.calls _ _ l0 t427 _ ?side1 ?side2 A3.out).mono ?_); (case side1 => repeat (first | exact HR0.out | (with_reducible refine Kd.C_alloc ?_ _) | (with_reducible refine Kd.C_drewN ?_ _) | (with_reducible refine Kd.C_drew ?_))); (case side2 => exact HC0.out); rintro e w90 ⟨v428, rfl, ho0, hb⟩; refine ⟨_, rfl, ?_⟩; have n0_ := Aside0.mk (Kd.R_lower ho0 (below_size (by repeat (first | (with_reducible first | exact HB.out | apply below_alloc | apply pw_below_drewN | apply below_drew1) | exact HB.out)))); have n1_ := Aside0.mk (below_step (by repeat (first | (with_reducible first | exact HB.out | apply below_alloc | apply pw_below_drewN | apply below_drew1) | exact HB.out)) hb); clear HB; have HO429 := n0_; have HB := n1_; clear n0_ n1_; (try clear hb); (try clear hb2); (try clear hk); (try clear hi); (try clear ho0); obtain ⟨Ao91, co91, eo91⟩ := Kd.R_slice HO429.out; subst eo91) | ((with_reducible refine gate_callee (f := 28) rfl ?_); refine goesL_ (some 21) rfl rfl Try.func28 (by kernel_rfl) rfl #[.slice Ao91 t427.length co91, .int .i64 a1] rfl (by (try simp only [List.map_toArray, List.map_cons, List.map_nil]); first | done | rfl | (simp only [List.length_drop, List.length_take]; rfl)) ?_; (with_reducible refine (loops_Depth.calls k _ _ t427 a1 t430 t431 _ ?side1 ?side2 A4.out).mono ?_); (case side1 => repeat (first | exact (Kd.R_reads' HO429.out).2.2 | (with_reducible refine Kd.C_alloc ?_ _) | (with_reducible refine Kd.C_drewN ?_ _) | (with_reducible refine Kd.C_drew ?_))); (case side2 => exact (Kd.R_reads' HO429.out).2.1); rintro e w92 ⟨rfl, hb⟩; refine ⟨_, rfl, ?_⟩; have n0_ := Aside0.mk (Kd.R_below (by (with_reducible repeat (first | apply Kd.R_alloc | apply Kd.R_drewN | apply Kd.R_drew)); exact HO429.out) hb); have n1_ := Aside0.mk (below_step (by repeat (first | (with_reducible first | exact HB.out | apply below_alloc | apply pw_below_drewN | apply below_drew1) | exact HB.out)) hb); clear HO429; clear HB; have HO429 := n0_; have HB := n1_; clear n0_ n1_; (try clear hb); (try clear hb2); (try clear hk); (try clear hi)) | ((with_reducible refine gate_callee (f := 29) rfl ?_); refine goesL_ (some 26) rfl rfl Try.func29 (by kernel_rfl) rfl #[.slice Ao91 t427.length co91] rfl (by (try simp only [List.map_toArray, List.map_cons, List.map_nil]); first | done | rfl | (simp only [List.length_drop, List.length_take]; rfl)) ?_; (with_reducible refine (loops_Order.calls k _ _ t427 t432 t433 _ ?side1 ?side2 A5.out).mono ?_); (case side1 => repeat (first | exact (Kd.R_reads' HO429.out).2.2 | (with_reducible refine Kd.C_alloc ?_ _) | (with_reducible refine Kd.C_drewN ?_ _) | (with_reducible refine Kd.C_drew ?_))); (case side2 => exact (Kd.R_reads' HO429.out).2.1); rintro e w93 ⟨v434, rfl, ho0, hb⟩; refine ⟨_, rfl, ?_⟩; have n0_ := Aside0.mk (Kd.R_below (by (with_reducible repeat (first | apply Kd.R_alloc | apply Kd.R_drewN | apply Kd.R_drew)); exact HO429.out) hb); have n1_ := Aside0.mk (Kd.R_lower ho0 (below_size (by repeat (first | (with_reducible first | exact HB.out | apply below_alloc | apply pw_below_drewN | apply below_drew1) | exact HB.out)))); have n2_ := Aside0.mk (below_step (by repeat (first | (with_reducible first | exact HB.out | apply below_alloc | apply pw_below_drewN | apply below_drew1) | exact HB.out)) hb); clear HO429; clear HB; have HO429 := n0_; have HO435 := n1_; have HB := n2_; clear n0_ n1_ n2_; (try clear hb); (try clear hb2); (try clear hk); (try clear hi); (try clear ho0)) | ((with_reducible refine gate_callee (f := 26) rfl ?_); refine goesL_ (some 30) rfl rfl Try.func26 (by kernel_rfl) rfl #[.slice Ao91 t427.length co91, .int .i64 24] rfl (by (try simp only [List.map_toArray, List.map_cons, List.map_nil]); first | done | rfl | (simp only [List.length_drop, List.length_take]; rfl)) ?_; (with_reducible refine (tickingref06_Types.calls k _ _ t427 24 false _ ?side1 ?side2 A6.out).mono ?_); (case side1 => repeat (first | exact (Kd.R_reads' HO429.out).2.2 | (with_reducible refine Kd.C_alloc ?_ _) | (with_reducible refine Kd.C_drewN ?_ _) | (with_reducible refine Kd.C_drew ?_))); (case side2 => exact (Kd.R_reads' HO429.out).2.1); rintro e w94 ⟨rfl, hb⟩; refine ⟨_, rfl, ?_⟩; have n0_ := Aside0.mk (Kd.R_below (by (with_reducible repeat (first | apply Kd.R_alloc | apply Kd.R_drewN | apply Kd.R_drew)); exact HO429.out) hb); have n1_ := Aside0.mk (Kd.R_below (by (with_reducible repeat (first | apply Kd.R_alloc | apply Kd.R_drewN | apply Kd.R_drew)); exact HO435.out) hb); have n2_ := Aside0.mk (below_step (by repeat (first | (with_reducible first | exact HB.out | apply below_alloc | apply pw_below_drewN | apply below_drew1) | exact HB.out)) hb); clear HO429; clear HO435; clear HB; have HO429 := n0_; have HO435 := n1_; have HB := n2_; clear n0_ n1_ n2_; (try clear hb); (try clear hb2); (try clear hk); (try clear hi)))
    go_ret
    exact ⟨by first | rfl | (simp [errW_none, errW_some] <;> rfl) | (simp [*, errW_none, errW_some] <;> rfl), by repeat (first | (with_reducible first | exact HB.out | apply below_alloc | apply pw_below_drewN | apply below_drew1) | exact HB.out)⟩
  ·rw [if_neg c66] at H
   have c66b0 : (t430 == 0) = false := beq_eq_false_iff_ne.mpr c66
   have c66b1 : (t430 != 0) = true := bne_iff_ne.mpr c66
   obtain rfl := Option.some.inj H
   go_enter Try.func7, Try.ntmps7
   go_wp2_with (first | ((with_reducible refine gate_callee (f := 15) rfl ?_); refine goesL_ (some 17) rfl rfl Try.func15 (by kernel_rfl) rfl #[.slice A0 l0.length c0] rfl (by (try simp only [List.map_toArray, List.map_cons, List.map_nil]); first | done | rfl | (simp only [List.length_drop, List.length_take]; rfl)) ?_; (with_reducible refine (tickinglaw06_own.calls _ _ l0 t427 _ ?side1 ?side2 A3.out).mono ?_); (case side1 => repeat (first | exact HR0.out | (with_reducible refine Kd.C_alloc ?_ _) | (with_reducible refine Kd.C_drewN ?_ _) | (with_reducible refine Kd.C_drew ?_))); (case side2 => exact HC0.out); rintro e w95 ⟨v428, rfl, ho0, hb⟩; refine ⟨_, rfl, ?_⟩; have n0_ := Aside0.mk (Kd.R_lower ho0 (below_size (by repeat (first | (with_reducible first | exact HB.out | apply below_alloc | apply pw_below_drewN | apply below_drew1) | exact HB.out)))); have n1_ := Aside0.mk (below_step (by repeat (first | (with_reducible first | exact HB.out | apply below_alloc | apply pw_below_drewN | apply below_drew1) | exact HB.out)) hb); clear HB; have HO429 := n0_; have HB := n1_; clear n0_ n1_; (try clear hb); (try clear hb2); (try clear hk); (try clear hi); (try clear ho0); obtain ⟨Ao96, co96, eo96⟩ := Kd.R_slice HO429.out; subst eo96) | ((with_reducible refine gate_callee (f := 28) rfl ?_); refine goesL_ (some 21) rfl rfl Try.func28 (by kernel_rfl) rfl #[.slice Ao96 t427.length co96, .int .i64 a1] rfl (by (try simp only [List.map_toArray, List.map_cons, List.map_nil]); first | done | rfl | (simp only [List.length_drop, List.length_take]; rfl)) ?_; (with_reducible refine (loops_Depth.calls k _ _ t427 a1 t430 t431 _ ?side1 ?side2 A4.out).mono ?_); (case side1 => repeat (first | exact (Kd.R_reads' HO429.out).2.2 | (with_reducible refine Kd.C_alloc ?_ _) | (with_reducible refine Kd.C_drewN ?_ _) | (with_reducible refine Kd.C_drew ?_))); (case side2 => exact (Kd.R_reads' HO429.out).2.1); rintro e w97 ⟨rfl, hb⟩; refine ⟨_, rfl, ?_⟩; have n0_ := Aside0.mk (Kd.R_below (by (with_reducible repeat (first | apply Kd.R_alloc | apply Kd.R_drewN | apply Kd.R_drew)); exact HO429.out) hb); have n1_ := Aside0.mk (below_step (by repeat (first | (with_reducible first | exact HB.out | apply below_alloc | apply pw_below_drewN | apply below_drew1) | exact HB.out)) hb); clear HO429; clear HB; have HO429 := n0_; have HB := n1_; clear n0_ n1_; (try clear hb); (try clear hb2); (try clear hk); (try clear hi)) | ((with_reducible refine gate_callee (f := 29) rfl ?_); refine goesL_ (some 26) rfl rfl Try.func29 (by kernel_rfl) rfl #[.slice Ao96 t427.length co96] rfl (by (try simp only [List.map_toArray, List.map_cons, List.map_nil]); first | done | rfl | (simp only [List.length_drop, List.length_take]; rfl)) ?_; (with_reducible refine (loops_Order.calls k _ _ t427 t432 t433 _ ?side1 ?side2 A5.out).mono ?_); (case side1 => repeat (first | exact (Kd.R_reads' HO429.out).2.2 | (with_reducible refine Kd.C_alloc ?_ _) | (with_reducible refine Kd.C_drewN ?_ _) | (with_reducible refine Kd.C_drew ?_))); (case side2 => exact (Kd.R_reads' HO429.out).2.1); rintro e w98 ⟨v434, rfl, ho0, hb⟩; refine ⟨_, rfl, ?_⟩; have n0_ := Aside0.mk (Kd.R_below (by (with_reducible repeat (first | apply Kd.R_alloc | apply Kd.R_drewN | apply Kd.R_drew)); exact HO429.out) hb); have n1_ := Aside0.mk (Kd.R_lower ho0 (below_size (by repeat (first | (with_reducible first | exact HB.out | apply below_alloc | apply pw_below_drewN | apply below_drew1) | exact HB.out)))); have n2_ := Aside0.mk (below_step (by repeat (first | (with_reducible first | exact HB.out | apply below_alloc | apply pw_below_drewN | apply below_drew1) | exact HB.out)) hb); clear HO429; clear HB; have HO429 := n0_; have HO435 := n1_; have HB := n2_; clear n0_ n1_ n2_; (try clear hb); (try clear hb2); (try clear hk); (try clear hi); (try clear ho0)) | ((with_reducible refine gate_callee (f := 26) rfl ?_); refine goesL_ (some 30) rfl rfl Try.func26 (by kernel_rfl) rfl #[.slice Ao96 t427.length co96, .int .i64 24] rfl (by (try simp only [List.map_toArray, List.map_cons, List.map_nil]); first | done | rfl | (simp only [List.length_drop, List.length_take]; rfl)) ?_; (with_reducible refine (tickingref06_Types.calls k _ _ t427 24 false _ ?side1 ?side2 A6.out).mono ?_); (case side1 => repeat (first | exact (Kd.R_reads' HO429.out).2.2 | (with_reducible refine Kd.C_alloc ?_ _) | (with_reducible refine Kd.C_drewN ?_ _) | (with_reducible refine Kd.C_drew ?_))); (case side2 => exact (Kd.R_reads' HO429.out).2.1); rintro e w99 ⟨rfl, hb⟩; refine ⟨_, rfl, ?_⟩; have n0_ := Aside0.mk (Kd.R_below (by (with_reducible repeat (first | apply Kd.R_alloc | apply Kd.R_drewN | apply Kd.R_drew)); exact HO429.out) hb); have n1_ := Aside0.mk (Kd.R_below (by (with_reducible repeat (first | apply Kd.R_alloc | apply Kd.R_drewN | apply Kd.R_drew)); exact HO435.out) hb); have n2_ := Aside0.mk (below_step (by repeat (first | (with_reducible first | exact HB.out | apply below_alloc | apply pw_below_drewN | apply below_drew1) | exact HB.out)) hb); clear HO429; clear HO435; clear HB; have HO429 := n0_; have HO435 := n1_; have HB := n2_; clear n0_ n1_ n2_; (try clear hb); (try clear hb2); (try clear hk); (try clear hi)))
   go_ret
   exact ⟨by first | rfl | (simp [errW_none, errW_some] <;> rfl) | (simp [*, errW_none, errW_some] <;> rfl), by repeat (first | (with_reducible first | exact HB.out | apply below_alloc | apply pw_below_drewN | apply below_drew1) | exact HB.out)⟩
end Go.Proofs.Ytnfmeafiaipplaa.S

namespace Go.Proofs.Ytnfmeafiaipplaa.P
open Go.RowKit Go.Proofs.YtnfmeafiaipplaaW.PrintWords

theorem w64 {x : Int} (h0 : -9223372036854775808 ≤ x) (h1 : x ≤ 9223372036854775807) : wrap64 x = x := by
 unfold wrap64
 omega
theorem nodup_len : ∀ (n : Nat) (l : List Int) (lo : Int), l.Nodup → (∀ a ∈ l, lo < a ∧ a ≤ lo + n) → l.length ≤ n
 | 0, l, lo, _, h => by
  cases l with
  | nil => simp
  | cons a t => have := h a (by simp); omega
 | n + 1, l, lo, hd, h => by
  have h1 := nodup_len n (l.erase (lo + 1)) (lo + 1) (hd.erase _) (fun a ha => by
   have hm := List.mem_of_mem_erase ha
   have hne : a ≠ lo + 1 := fun e => by
    subst e
    exact (List.Nodup.not_mem_erase hd) ha
   have := h a hm
   omega)
  have h2 : l.length ≤ (l.erase (lo + 1)).length + 1 := by
   rw [List.length_erase]
   split <;> omega
  omega
end Go.Proofs.Ytnfmeafiaipplaa.P

namespace Go.Proofs.Ytnfmeafiaipplaa.P
open Go.RowKit Go.Proofs.Ytnfmeafiaipplaa.S Go.Proofs.YtnfmeafiaipplaaW.PrintWords
set_option linter.unusedVariables false

/-- A node of a list, by its position. -/
abbrev nd (t : List S39) (i : Int) : S39 := rd_T39 t i
inductive T where
 | leaf (k : Int)
 | node (k : Int) (a b : T)
 deriving DecidableEq
/-- What a node shows down to a depth. -/
def tr (t : List S39) : Nat → Int → T
 | 0, i => .leaf (nd t i).f0
 | d + 1, i => if 4 ≤ (nd t i).f0 then .node (nd t i).f0 (tr t d (nd t i).f1) (tr t d (nd t i).f2) else .leaf (nd t i).f0
def okN (t : List S39) (i : Int) : Prop :=
 (0 ≤ (nd t i).f0 ∧ (nd t i).f0 ≤ 5) ∧ ((nd t i).f0 < 4 → (nd t i).f1 = 0 ∧ (nd t i).f2 = 0) ∧ (0 ≤ (nd t i).f1 ∧ (nd t i).f1 < t.length) ∧ (0 ≤ (nd t i).f2 ∧ (nd t i).f2 < t.length)
instance (t : List S39) (i : Int) : Decidable (okN t i) := by unfold okN; infer_instance
/-- Types: not empty, every node in order. -/
def IsTy (t : List S39) : Prop := 1 ≤ t.length ∧ ∀ i : Int, 0 ≤ i → i < t.length → okN t i
theorem T.kind_node {k k' : Int} {a b a' b' : T} (h : T.node k a b = T.node k' a' b') : k = k' ∧ a = a' ∧ b = b' := by
 injection h with h1 h2 h3
 exact ⟨h1, h2, h3⟩
theorem tr_kind {t t' : List S39} {d : Nat} {i j : Int} (h : tr t d i = tr t' d j) : (nd t i).f0 = (nd t' j).f0 := by
 cases d with
 | zero => injection h
 | succ d =>
  unfold tr at h
  split at h <;> split at h
  ·exact (T.kind_node h).1
  ·cases h
  ·cases h
  ·injection h
/-- Two nodes stand for the same tree. -/
def Same (t : List S39) (i : Int) (t' : List S39) (j : Int) : Prop := ∀ d, tr t d i = tr t' d j
theorem Same.refl (t : List S39) (i : Int) : Same t i t i := fun _ => rfl
theorem Same.symm {t t' : List S39} {i j : Int} (h : Same t i t' j) : Same t' j t i := fun d => (h d).symm
theorem Same.trans {t t' t'' : List S39} {i j k : Int} (h : Same t i t' j) (h' : Same t' j t'' k) : Same t i t'' k := fun d => (h d).trans (h' d)
theorem same_iff {t t' : List S39} {i j : Int} : Same t i t' j ↔ (nd t i).f0 = (nd t' j).f0 ∧ (4 ≤ (nd t i).f0 → Same t (nd t i).f1 t' (nd t' j).f1 ∧ Same t (nd t i).f2 t' (nd t' j).f2) := by
 constructor
 ·intro h
  have hk := tr_kind (h 0)
  refine ⟨hk, fun c => ?_⟩
  have hh : ∀ d, tr t d (nd t i).f1 = tr t' d (nd t' j).f1 ∧ tr t d (nd t i).f2 = tr t' d (nd t' j).f2 := fun d => by
   have := h (d + 1)
   rw [show tr t (d + 1) i = .node (nd t i).f0 (tr t d (nd t i).f1) (tr t d (nd t i).f2) from if_pos c, show tr t' (d + 1) j = .node (nd t' j).f0 (tr t' d (nd t' j).f1) (tr t' d (nd t' j).f2) from if_pos (by rw [← hk]; exact c)] at this
   exact (T.kind_node this).2
  exact ⟨fun d => (hh d).1, fun d => (hh d).2⟩
 ·rintro ⟨hk, h⟩ d
  cases d with
  | zero => unfold tr; rw [hk]
  | succ d =>
   unfold tr
   by_cases c : 4 ≤ (nd t i).f0
   ·rw [if_pos c, if_pos (by rw [← hk]; exact c), hk, (h c).1 d, (h c).2 d]
   ·rw [if_neg c, if_neg (by rw [← hk]; exact c), hk]
noncomputable def sameB (t : List S39) (i j : Int) : Bool := @decide (Same t i t j) (Classical.propDecidable _)
theorem idx_lt {n i j : Nat} (hi : i < n) (hj : j < n) : n * i + j < n * n := by
 have h1 : n * i + n ≤ n * n := by
  have : n * (i + 1) ≤ n * n := Nat.mul_le_mul_left n hi
  rwa [Nat.mul_add, Nat.mul_one] at this
 omega
theorem idx_inj {n i j i' j' : Nat} (hj : j < n) (hj' : j' < n) (h : n * i + j = n * i' + j') : i = i' ∧ j = j' := by
 have h1 : (n * i + j) / n = i := by rw [Nat.add_comm, Nat.add_mul_div_left _ _ (by omega), Nat.div_eq_of_lt hj, Nat.zero_add]
 have h2 : (n * i' + j') / n = i' := by rw [Nat.add_comm, Nat.add_mul_div_left _ _ (by omega), Nat.div_eq_of_lt hj', Nat.zero_add]
 rw [h] at h1
 have : i = i' := h1.symm.trans h2
 subst this
 exact ⟨rfl, by omega⟩
/-- What a table tells of a pair. -/
def tb (n : Nat) (x : List Bool) (i j : Nat) : Bool := x.getD (n * i + j) false
theorem tb_set {n i j i' j' : Nat} {x : List Bool} (hx : x.length = n * n) (hi : i < n) (hj : j < n) (hj' : j' < n) (v : Bool) : tb n (x.set (n * i + j) v) i' j' = if i' = i ∧ j' = j then v else tb n x i' j' := by
 unfold tb
 have hlt := idx_lt hi hj
 by_cases h : i' = i ∧ j' = j
 ·rw [if_pos h, h.1, h.2, List.getD_eq_getElem?_getD, List.getElem?_set_self (by omega)]
  rfl
 ·rw [if_neg h, List.getD_eq_getElem?_getD, List.getD_eq_getElem?_getD, List.getElem?_set_ne (fun e => h ?_)]
  have := idx_inj hj hj' e
  exact ⟨this.1.symm, this.2.symm⟩
theorem count_set {x : List Bool} : ∀ {k : Nat}, x.getD k false = true → (x.set k false).count true + 1 = x.count true := by
 induction x with
 | nil => intro k h; simp at h
 | cons a x ih =>
  intro k h
  cases k with
  | zero =>
   have : a = true := by simpa using h
   subst this
   simp
  | succ k =>
   have := ih (k := k) (by simpa using h)
   simp only [List.set_cons_succ, List.count_cons]
   omega

theorem ixw {n i j : Nat} (hn : n ≤ 1000) (hi : i < n) (hj : j < n) : wrap64 (wrap64 ((n : Int) * (i : Int)) + (j : Int)) = ((n * i + j : Nat) : Int) := by
 have h1 : n * i ≤ 1000 * 1000 := Nat.mul_le_mul hn (by omega)
 have h2 : ((n : Int) * (i : Int)) = ((n * i : Nat) : Int) := by push_cast; rfl
 have h3 : wrap64 ((n * i : Nat) : Int) = ((n * i : Nat) : Int) := w64 (by omega) (by omega)
 rw [h2, h3, w64 (by omega) (by omega)]
 push_cast
 rfl
theorem w64s {j : Nat} (h : j ≤ 1000000) : wrap64 ((j : Int) + 1) = ((j + 1 : Nat) : Int) := by
 rw [w64 (by omega) (by omega)]
 rfl
/-- A node's parts as indexes of a table. -/
theorem ixp {n : Nat} {a b : Int} (hn : n ≤ 1000) (a0 : 0 ≤ a) (a1 : a < n) (b0 : 0 ≤ b) (b1 : b < n) : wrap64 (wrap64 ((n : Int) * a) + b) = ((n * a.toNat + b.toNat : Nat) : Int) := by
 have := ixw hn (i := a.toNat) (j := b.toNat) (by omega) (by omega)
 rwa [Int.toNat_of_nonneg a0, Int.toNat_of_nonneg b0] at this
theorem cast0 (k : Nat) : (0 : Int) ≤ (k : Int) := Int.natCast_nonneg k
theorem castlt {a b : Nat} (h : a < b) : (a : Int) < (b : Int) := Int.ofNat_lt.2 h
theorem rdOf_tb (n i j : Nat) (x : List Bool) : rdOf false x ((n * i + j : Nat) : Int) = tb n x i j := by
 unfold rdOf tb
 rw [show (((n * i + j : Nat) : Int)).toNat = n * i + j by omega]
section
variable {t : List S39} (hv : ∀ i : Int, 0 ≤ i → i < t.length → okN t i) (hn : t.length ≤ 1000)
include hv hn

omit hv hn in
omit hv in
omit hv in
end
end Go.Proofs.Ytnfmeafiaipplaa.P

namespace Go.Proofs.Ytnfmeafiaipplaa.P
open Go.RowKit Go.Proofs.Ytnfmeafiaipplaa.S Go.Proofs.Ytnfmeafiaipplaa.Lib Go.Proofs.YtnfmeafiaipplaaW.PrintWords
set_option linter.unusedVariables false
set_option linter.unusedSectionVars false

section
variable {α : Type} [DecidableEq α]
theorem nodup_sub_len : ∀ {R L : List α}, R.Nodup → (∀ x ∈ R, x ∈ L) → R.length ≤ L.length
 | [], _, _, _ => by simp
 | a :: R, L, hn, hs => by
  have ha : a ∈ L := hs a (by simp)
  have h1 := nodup_sub_len (R := R) (L := L.erase a) (List.nodup_cons.1 hn).2 (fun x hx => by
   have hxa : x ≠ a := fun e => (List.nodup_cons.1 hn).1 (e ▸ hx)
   exact (List.mem_erase_of_ne hxa).2 (hs x (by simp [hx])))
  rw [List.length_erase_of_mem ha] at h1
  have : 0 < L.length := List.length_pos_of_mem ha
  simp
  omega
end
theorem nodup_range_int (m : Nat) : ((List.range m).map (fun c : Nat => (c : Int))).Nodup := by
 rw [List.Nodup, List.pairwise_map]
 exact List.nodup_range.imp (fun h e => h (by omega))
theorem full_len {L : List Int} {m : Nat} (hf : ∀ c : Nat, c < m → (c : Int) ∈ L) : m ≤ L.length := by
 have := nodup_sub_len (R := (List.range m).map (fun c : Nat => (c : Int))) (L := L) (nodup_range_int m) (fun y hy => by
  obtain ⟨c, hc, rfl⟩ := List.mem_map.1 hy
  exact hf c (List.mem_range.1 hc))
 simpa using this
section
variable {t : List S39} (hv : ∀ i : Int, 0 ≤ i → i < t.length → okN t i) (hn : t.length ≤ 1000)
include hv hn

omit hv hn in
omit hn in
omit hn in
omit hv in
end

/-- Where a list has a node that is equal to x first. -/
noncomputable def ixS (t : List S39) (ns : List Int) (x : Int) : Nat := ns.findIdx (fun y => sameB t y x)
noncomputable def reS (t : List S39) (ns : List Int) (x : Int) : List Int := if ixS t ns x < ns.length then ns else ns ++ [x]
noncomputable def canS (t : List S39) : Nat → List Int → Nat → List S39 → Option (List S39)
  | 0, _, _, _ => none
  | f + 1, ns, k, out =>
    if k < ns.length then
      (if 4 ≤ (nd t (rd ns k)).f0 then canS t f (reS t (reS t ns (nd t (rd ns k)).f1) (nd t (rd ns k)).f2) (k + 1)
        (out ++ [⟨(nd t (rd ns k)).f0, (ixS t (reS t ns (nd t (rd ns k)).f1) (nd t (rd ns k)).f1 : Int), (ixS t (reS t (reS t ns (nd t (rd ns k)).f1) (nd t (rd ns k)).f2) (nd t (rd ns k)).f2 : Int)⟩])
       else canS t f ns (k + 1) (out ++ [nd t (rd ns k)]))
    else some out
/-- Nodes of the list, no two equal. -/
def Apart (t : List S39) (ns : List Int) : Prop := (∀ x ∈ ns, 0 ≤ x ∧ x < t.length) ∧ ns.Pairwise (fun x y => ¬ Same t x t y)
theorem Apart.nodup {t : List S39} {ns : List Int} (h : Apart t ns) : ns.Nodup := h.2.imp (fun hs e => hs (by rw [e]; exact Same.refl _ _))
theorem Apart.len {t : List S39} {ns : List Int} (h : Apart t ns) : ns.length ≤ t.length := nodup_len t.length ns (-1) h.nodup (fun a ha => by have := h.1 a ha; omega)
section
variable {t : List S39} (hv : ∀ i : Int, 0 ≤ i → i < t.length → okN t i) (hn : t.length ≤ 100)
include hv hn
omit hv hn in
end

noncomputable def tyB (t : List S39) (m : Int) : Bool := @decide (IsTy t ∧ (t.length : Int) ≤ m) (Classical.propDecidable _)
theorem tyB_iff {t : List S39} {m : Int} : tyB t m = true ↔ IsTy t ∧ (t.length : Int) ≤ m := by
  unfold tyB
  exact @decide_eq_true_iff _ (Classical.propDecidable _)
theorem tyB_false {t : List S39} {m : Int} (h : ¬ (IsTy t ∧ (t.length : Int) ≤ m)) : tyB t m = false := by
  cases e : tyB t m with
  | false => rfl
  | true => exact absurd (tyB_iff.1 e) h
theorem tyB_not {t : List S39} {m : Int} {i : Nat} (hi : i < t.length) (h : ¬ okN t i) : tyB t m = false := tyB_false (fun hh => h (hh.1.2 i (by omega) (by omega)))
theorem types_l0 {t : List S39} (hn : t.length ≤ 1000) (m : Int) : ∀ (d i : Nat), i + d = t.length → (∀ j : Nat, j < i → okN t j) → Ev (fun k => tickingref06_Types.l0 k t m (i : Int)) (tyB t m)
  | 0, i, h, ho => by
    refine Ev.step (fun k => ?_) (Ev.now (tyB t m))
    have hty : 1 ≤ t.length → IsTy t := fun h1 => ⟨h1, fun j j0 j1 => by
      have := ho j.toNat (by omega)
      rwa [Int.toNat_of_nonneg j0] at this⟩
    simp only [tickingref06_Types.l0]
    rw [if_neg (by omega)]
    by_cases c : (t.length : Int) ≥ 1
    · rw [if_pos c]
      by_cases c2 : (t.length : Int) ≤ m
      · rw [tyB_iff.2 ⟨hty (by omega), c2⟩, decide_eq_true c2]
      · rw [tyB_false (fun hh => c2 hh.2), decide_eq_false c2]
    · rw [if_neg c, tyB_false (fun hh => c (by have := hh.1.1; omega))]
  | d + 1, i, h, ho => by
    have hi : i < t.length := by omega
    have z := cast0 i
    have hlt := castlt hi
    by_cases hok : okN t i
    · have ih := types_l0 hn m d (i + 1) (by omega) (fun j hj => by
        by_cases e : j = i
        · rw [e]; exact hok
        · exact ho j (by omega))
      refine Ev.step (f := fun k => tickingref06_Types.l0 k t m ((i + 1 : Nat) : Int)) (fun k => ?_) ih
      unfold okN nd at hok
      obtain ⟨⟨k0, k1⟩, k2, ⟨a0, a1⟩, ⟨b0, b1⟩⟩ := hok
      have e2 := w64s (j := i) (by omega)
      simp only [tickingref06_Types.l0]
      rw [if_pos hlt, if_pos z, e2]
      clear e2 ih
      repeat' split
      all_goals first | rfl | (exfalso; omega)
    · rw [tyB_not hi hok]
      refine Ev.step (fun k => ?_) (Ev.now false)
      simp only [tickingref06_Types.l0]
      rw [if_pos hlt, if_pos z]
      repeat' split
      all_goals first | rfl | (refine absurd ?_ hok; unfold okN nd; refine ⟨⟨?_, ?_⟩, fun h => ⟨?_, ?_⟩, ⟨?_, ?_⟩, ⟨?_, ?_⟩⟩ <;> omega)
theorem Types_ev {t : List S39} (hn : t.length ≤ 1000) (m : Int) : Ev (fun k => tickingref06_Types.f k t m) (tyB t m) := types_l0 hn m t.length 0 (by omega) (fun j hj => by omega)
theorem within_eq (a b c : Int) : loops_within.f a b c = some (decide (b ≤ a ∧ a ≤ c)) := by
  unfold loops_within.f
  by_cases h : a ≥ b
  · rw [if_pos h]
    by_cases h2 : a ≤ c
    · rw [decide_eq_true h2, decide_eq_true ⟨h, h2⟩]
    · rw [decide_eq_false h2, decide_eq_false (fun hh => h2 hh.2)]
  · rw [if_neg h, decide_eq_false (fun hh => h hh.1)]
theorem areTypes_l0 {t : List S39} (h1 : 1 ≤ t.length) (hn : t.length ≤ 24) : ∀ (d i : Nat), i + d = t.length → (∀ j : Nat, j < i → okN t j) → Ev (fun k => loops_areTypes.l0 k t t t.length (i : Int)) (tyB t 24)
  | 0, i, h, ho => by
    refine Ev.step (fun k => ?_) (Ev.now (tyB t 24))
    simp only [loops_areTypes.l0]
    rw [if_neg (by omega), tyB_iff.2 ⟨⟨h1, fun j j0 j1 => by
      have := ho j.toNat (by omega)
      rwa [Int.toNat_of_nonneg j0] at this⟩, by omega⟩]
  | d + 1, i, h, ho => by
    have hi : i < t.length := by omega
    have z := cast0 i
    have hlt := castlt hi
    have hw : wrap64 ((t.length : Int) - 1) = (t.length : Int) - 1 := w64 (by omega) (by omega)
    obtain ⟨x5, hx5⟩ : ∃ x5, x5 = if 4 ≤ (nd t i).f0 then (t.length : Int) - 1 else 0 := ⟨_, rfl⟩
    have go : ∀ r, Ev (fun k => loops_areTypes.j1 k t x5 t t.length (i : Int) (nd t i).f0 (nd t i).f1 (nd t i).f2) r → (0 ≤ (nd t i).f0 → (nd t i).f0 ≤ 5 → Ev (fun k => loops_areTypes.l0 k t t t.length (i : Int)) r) := fun r hr f0 f5 => by
      refine Ev.step (fun k => ?_) hr
      simp only [loops_areTypes.l0]
      rw [if_pos hlt, if_pos z, if_pos hlt, hw]
      by_cases c : 4 ≤ (nd t i).f0
      · rw [if_pos c] at hx5
        have : loops_hasParts.f (rd_T39 t i).f0 (rd_T39 t i).f1 (rd_T39 t i).f2 = some true := by
          unfold loops_hasParts.f
          by_cases c4 : (nd t i).f0 = 4
          · rw [if_pos c4]
          · have c5 : (nd t i).f0 = 5 := by omega
            rw [if_neg c4, beq_iff_eq.2 c5]
        rw [this, Option.bind_some, if_pos rfl, hx5]
      · rw [if_neg c] at hx5
        have : loops_hasParts.f (rd_T39 t i).f0 (rd_T39 t i).f1 (rd_T39 t i).f2 = some false := by
          unfold loops_hasParts.f
          have c4 : ¬ (rd_T39 t i).f0 = 4 := fun e => c (by rw [e]; decide)
          have c5 : ¬ (rd_T39 t i).f0 = 5 := fun e => c (by rw [e]; decide)
          rw [if_neg c4, beq_eq_false_iff_ne.2 c5]
        rw [this, Option.bind_some, if_neg (by decide), hx5]
    have z5 : 0 ≤ x5 := by rw [hx5]; split <;> omega
    by_cases hok : okN t i
    · have ih := areTypes_l0 h1 hn d (i + 1) (by omega) (fun j hj => by
        by_cases e : j = i
        · rw [e]; exact hok
        · exact ho j (by omega))
      obtain ⟨⟨k0, k1⟩, k2, ⟨a0, a1⟩, ⟨b0, b1⟩⟩ := hok
      refine go _ ?_ k0 k1
      refine Ev.step (f := fun k => loops_areTypes.l0 k t t t.length ((i + 1 : Nat) : Int)) (fun k => ?_) ih
      have e2 := w64s (j := i) (by omega)
      have q1 : (nd t i).f1 ≤ x5 := by rw [hx5]; split <;> omega
      have q2 : (nd t i).f2 ≤ x5 := by rw [hx5]; split <;> omega
      simp only [loops_areTypes.j1]
      rw [within_eq, decide_eq_true ⟨k0, k1⟩, within_eq, decide_eq_true ⟨a0, q1⟩, within_eq, decide_eq_true ⟨b0, q2⟩, e2]
      rfl
    · rw [tyB_not hi hok]
      by_cases hk : 0 ≤ (nd t i).f0 ∧ (nd t i).f0 ≤ 5
      · refine go _ ?_ hk.1 hk.2
        refine Ev.step (fun k => ?_) (Ev.now false)
        simp only [loops_areTypes.j1]
        rw [within_eq, decide_eq_true hk, Option.bind_some, if_pos rfl, within_eq]
        by_cases c1 : 0 ≤ (nd t i).f1 ∧ (nd t i).f1 ≤ x5
        · rw [decide_eq_true c1, Option.bind_some, if_pos rfl, within_eq]
          by_cases c2 : 0 ≤ (nd t i).f2 ∧ (nd t i).f2 ≤ x5
          · exfalso
            apply hok
            have q : ¬ 4 ≤ (nd t i).f0 → x5 = 0 := fun c => by rw [hx5, if_neg c]
            have q' : x5 ≤ (t.length : Int) - 1 := by rw [hx5]; split <;> omega
            refine ⟨hk, fun h => ⟨?_, ?_⟩, ⟨?_, ?_⟩, ⟨?_, ?_⟩⟩ <;> omega
          · rw [decide_eq_false c2]
            rfl
        · rw [decide_eq_false c1]
          rfl
      · -- a kind that is none: both ways end so
        refine Ev.step (f := fun k => loops_areTypes.j1 k t (if (nd t i).f0 = 4 ∨ (nd t i).f0 = 5 then (t.length : Int) - 1 else 0) t t.length (i : Int) (nd t i).f0 (nd t i).f1 (nd t i).f2) (fun k => ?_) (Ev.step (fun k => ?_) (Ev.now false))
        · simp only [loops_areTypes.l0]
          have c4 : ¬ (rd_T39 t i).f0 = 4 := fun e => hk ⟨by show 0 ≤ (rd_T39 t i).f0; omega, by show (rd_T39 t i).f0 ≤ 5; omega⟩
          have c5 : ¬ (rd_T39 t i).f0 = 5 := fun e => hk ⟨by show 0 ≤ (rd_T39 t i).f0; omega, by show (rd_T39 t i).f0 ≤ 5; omega⟩
          have : loops_hasParts.f (rd_T39 t i).f0 (rd_T39 t i).f1 (rd_T39 t i).f2 = some false := by
            unfold loops_hasParts.f
            rw [if_neg c4, beq_eq_false_iff_ne.2 c5]
          rw [if_pos hlt, if_pos z, if_pos hlt, this, Option.bind_some, if_neg (by decide), if_neg (show ¬ ((nd t i).f0 = 4 ∨ (nd t i).f0 = 5) from fun h => h.elim c4 c5)]
        · simp only [loops_areTypes.j1]
          rw [within_eq, decide_eq_false hk]
          rfl
theorem areTypes_ev {t : List S39} (hn : t.length ≤ 1000) : Ev (fun k => loops_areTypes.f k t) (tyB t 24) := by
  unfold loops_areTypes.f
  simp only [within_eq]
  by_cases c : 1 ≤ (t.length : Int) ∧ (t.length : Int) ≤ 24
  · refine Ev.congr (fun k => ?_) (areTypes_l0 (by omega) (by omega) t.length 0 (by omega) (fun j hj => by omega))
    rw [decide_eq_true c]
    rfl
  · rw [tyB_false (fun hh => c ⟨by have := hh.1.1; omega, hh.2⟩)]
    refine Ev.congr (fun k => ?_) (Ev.now false)
    rw [decide_eq_false c]
    rfl
/-- All of some nodes lie in a list. -/
def inB (t : List S39) (is : List Int) : Bool := is.all (fun i => decide (0 ≤ i ∧ i < t.length))
theorem areNodes_ev {t : List S39} (hn : t.length ≤ 1000) (is : List Int) : Ev (fun k => loops_areNodes.f k t is) (tyB t 24 && inB t is) := by
  unfold loops_areNodes.f
  refine Ev.bind (f := fun k (b : Bool) => if b = true then some (!(is.any (badNode t.length))) else some false) (areTypes_ev hn) ?_
  refine Ev.congr (fun k => ?_) (Ev.now _)
  cases tyB t 24 with
  | false => rfl
  | true =>
    rw [if_pos rfl, Bool.true_and]
    congr 1
    unfold inB
    rw [List.not_any_eq_all_not]
    congr 1
    funext i
    unfold badNode
    rw [Bool.not_not]
    apply decide_eq_decide.2
    omega
theorem bad_ev {t : List S39} (hn : t.length ≤ 1000) (a b : Int) : Ev (fun k => tickinglaw06_bad.f k t a b) (!(tyB t 24 && inB t [a, b])) := by
  unfold tickinglaw06_bad.f
  refine Ev.bind (f := fun k (x : Bool) => if x = true then (if a < 0 then (some true) else (if a ≥ (t.length : Int) then (some true) else (if b < 0 then (some true) else (some (decide (b ≥ (t.length : Int))))))) else (some true)) (Types_ev hn 24) ?_
  refine Ev.congr (fun k => ?_) (Ev.now _)
  cases tyB t 24 with
  | false => rfl
  | true =>
    rw [if_pos rfl, Bool.true_and]
    unfold inB
    simp only [List.all_cons, List.all_nil, Bool.and_true]
    repeat' split
    all_goals first
      | (have hd : decide (0 ≤ a ∧ a < t.length) = false := decide_eq_false (by omega); rw [hd]; rfl)
      | (have hd : decide (0 ≤ b ∧ b < t.length) = false := decide_eq_false (by omega); rw [hd, Bool.and_false]; rfl)
      | (have hd : decide (0 ≤ a ∧ a < t.length) = true := decide_eq_true (by omega)
         rw [hd, Bool.true_and]
         congr 1
         by_cases c : b < t.length
         · rw [decide_eq_true (p := 0 ≤ b ∧ b < t.length) (by omega), decide_eq_false (by omega)]
           rfl
         · rw [decide_eq_false (p := 0 ≤ b ∧ b < t.length) (by omega), decide_eq_true (by omega)]
           rfl)
theorem own_eq (t : List S39) : tickinglaw06_own.f t = some (t.take 25) := by
  unfold tickinglaw06_own.f
  have hm : mn (t.length : Int) 25 = ((min t.length 25 : Nat) : Int) := by
    unfold mn
    split <;> omega
  rw [hm, if_pos (by omega), if_pos (by omega), Option.bind_some, if_pos (by simp; omega), List.nil_append, Int.toNat_natCast]
  congr 1
  rw [List.take_eq_take_iff]
  omega
theorem own_len (t : List S39) : (t.take 25).length ≤ 25 := by simp; omega
/-- The canonical list. -/
noncomputable def canL (t : List S39) (i : Int) : List S39 := (canS t 200 [i] 0 []).getD []
theorem inB_one {t : List S39} {i : Int} : inB t [i] = true ↔ 0 ≤ i ∧ i < t.length := by simp [inB]
end Go.Proofs.Ytnfmeafiaipplaa.P

namespace Go.Proofs.Ytnfmeafiaipplaa.P
open Go.RowKit Go.Proofs.Ytnfmeafiaipplaa.S Go.Proofs.Ytnfmeafiaipplaa.Lib Go.Proofs.YtnfmeafiaipplaaW.PrintWords
set_option linter.unusedVariables false
def awT : List S39 := [(⟨4, 1, 0⟩ : S39), (⟨2, 0, 0⟩ : S39), (⟨3, 0, 0⟩ : S39), (⟨5, 4, 1⟩ : S39), (⟨1, 0, 0⟩ : S39), (⟨5, 1, 4⟩ : S39)]
theorem aw_can : loops_Canonical.f 40 awT 0 = some ([⟨4, 1, 0⟩, ⟨2, 0, 0⟩], 0) := by kernel_rfl
theorem aw_dep3 : loops_Depth.f 40 awT 3 = some (1, 0) := by kernel_rfl
theorem aw_dep0 : loops_Depth.f 40 awT 0 = some (0, 6) := by kernel_rfl
theorem aw_sub12 : (loops_Sub.f 40 awT 1 2).map (fun x => (x.1, x.2.2)) = some (false, ByteArray.empty, 0) := by kernel_rfl
theorem aw_sub35 : (loops_Sub.f 40 awT 3 5).map (fun x => (x.1, x.2.2.2)) = some (true, 0) := by kernel_rfl
theorem aw_types : tickinglaw06_types.f 40 [(⟨4, 1, 0⟩ : S39), ⟨2, 0, 0⟩] [(⟨4, 1, 0⟩ : S39), ⟨2, 0, 0⟩] = some true := by kernel_rfl
theorem aw_empty : ByteArray.empty.toList = ([] : List UInt8) := by
 unfold ByteArray.toList ByteArray.toList.loop
 rfl
theorem awake_40 : tickinglaw06_awake.f 40 = some true := by
 obtain ⟨x, hx, ex⟩ := Option.map_eq_some_iff.1 aw_sub12
 obtain ⟨y, hy, ey⟩ := Option.map_eq_some_iff.1 aw_sub35
 obtain ⟨x1, x2⟩ := Prod.mk.inj ex
 obtain ⟨x3, x4⟩ := Prod.mk.inj x2
 obtain ⟨y1, y2⟩ := Prod.mk.inj ey
 unfold tickinglaw06_awake.f
 rw [Option.bind_some]
 show ((loops_Sub.f 40 awT 1 2).bind fun bt170 => ((loops_Sub.f 40 awT 3 5).bind fun bt177 => ((loops_Canonical.f 40 awT 0).bind fun bt184 => ((loops_Depth.f 40 awT 3).bind fun bt188 => ((loops_Depth.f 40 awT 0).bind fun bt190 => _))))) = some true
 rw [hx, hy, aw_can, aw_dep3, aw_dep0]
 simp only [Option.bind_some]
 rw [if_pos x4, if_neg (by rw [x1]; decide), if_pos (by rw [x3]; exact aw_empty), if_pos y2, if_pos y1]
 simp only [if_true, aw_types, Option.bind_some]
 rfl
theorem awake_ev : Ev (fun k => tickinglaw06_awake.f k) true := Ev.of (fun k => tickinglaw06_awake.mono k) awake_40
end Go.Proofs.Ytnfmeafiaipplaa.P

namespace Go.Proofs.Ytnfmeafiaipplaa.S
open Go.Proofs.Ytnfmeafiaipplaa.Lib
open Go.RowKit Go.Proofs.YtnfmeafiaipplaaW.PrintWords Go.Proofs.YtnfmeafiaipplaaW.PrintLast Go.Proofs.YtnfmeafiaipplaaW.PrintMore
set_option linter.unusedVariables false

structure Box (w : World) (g : Nat) (v : Value) (xs : List S39) (x y z : Int) (W : World) : Prop where
 low : w.heap.size ≤ g
 below : Below w.heap.size w W
 blk : W.heap[g]? = some (.cells #[.int .i64 x, .int .i64 y, .int .i64 z] 39 (0, 0))
 row : Kd.R k39 39 W w.heap.size (fun k => k ≠ g) v xs
section
variable {w W W0 : World} {g : Nat} {v : Value} {xs : List S39} {x y z : Int}
theorem Box.drewN (h : Box w g v xs x y z W) (n : Nat) : Box w g v xs x y z (W.drewN n) := ⟨h.low, pw_below_drewN h.below n, h.blk, Kd.R_drewN h.row n⟩
theorem Box.drew (h : Box w g v xs x y z W) : Box w g v xs x y z W.drew := ⟨h.low, below_drew1 h.below, h.blk, Kd.R_drew h.row⟩
theorem Box.made {ok : Nat → Prop} (hB : Below w.heap.size w W0) (hR : Kd.R k39 39 W0 w.heap.size ok v xs) (hg : g = W0.heap.size) (hbox : W.heap[g]? = some (.cells #[.int .i64 0, .int .i64 0, .int .i64 0] 39 (0, 0))) (hb : Below W0.heap.size W0 W) : Box w g v xs 0 0 0 W :=
 ⟨by rw [hg]; exact hB.size, below_step hB hb, hbox, Kd.R_mono (Kd.R_below (Kd.R_elderB hR g (Nat.le_of_eq hg.symm)) hb) (fun _ hk => hk.2)⟩
end
section
variable {P : Program} {ops : Array Oper} {rest : List Oper} {o : Oper} {a : Act} {Q : Exit → Act → World → Prop}
end
end Go.Proofs.Ytnfmeafiaipplaa.S

namespace Go.Proofs.Ytnfmeafiaipplaa.P
open Go.RowKit Go.Proofs.Ytnfmeafiaipplaa.S Go.Proofs.Ytnfmeafiaipplaa.Lib Go.Proofs.YtnfmeafiaipplaaW.PrintWords
set_option linter.unusedVariables false
set_option linter.unusedSectionVars false

/-- What a relation of subtypes must bear, at two nodes. -/
def Stp (t : List S39) (R : Int → Int → Prop) (i j : Int) : Prop :=
  ((nd t i).f0 = 0 ∨ (nd t j).f0 = 1) ∨ ((nd t i).f0 = (nd t j).f0 ∧ ((nd t i).f0 = 4 → R (nd t i).f1 (nd t j).f1 ∧ R (nd t i).f2 (nd t j).f2) ∧ ((nd t i).f0 = 5 → R (nd t j).f1 (nd t i).f1 ∧ R (nd t i).f2 (nd t j).f2))
theorem Stp.mono {t : List S39} {R R' : Int → Int → Prop} {i j : Int} (h : Stp t R i j) (hR : ∀ a b, R a b → R' a b) : Stp t R' i j := by
  rcases h with h | ⟨h1, h2, h3⟩
  · exact .inl h
  · exact .inr ⟨h1, fun c => ⟨hR _ _ (h2 c).1, hR _ _ (h2 c).2⟩, fun c => ⟨hR _ _ (h3 c).1, hR _ _ (h3 c).2⟩⟩
def SubC (t : List S39) (i j : Int) : Prop := ∃ R : Int → Int → Prop, (∀ a b, R a b → Stp t R a b) ∧ R i j
theorem SubC.step {t : List S39} {i j : Int} (h : SubC t i j) : Stp t (SubC t) i j := by
  obtain ⟨R, h1, h2⟩ := h
  exact (h1 i j h2).mono (fun a b hab => ⟨R, h1, hab⟩)
theorem SubC.of_same {t : List S39} {i j : Int} (h : Same t i t j) : SubC t i j :=
  ⟨fun a b => Same t a t b, fun a b hab => .inr ⟨(same_iff.1 hab).1, fun c => (same_iff.1 hab).2 (by omega), fun c => ⟨((same_iff.1 hab).2 (by omega)).1.symm, ((same_iff.1 hab).2 (by omega)).2⟩⟩, h⟩
theorem SubC.refl (t : List S39) (i : Int) : SubC t i i := .of_same (Same.refl t i)
theorem SubC.trans {t : List S39} {i j k : Int} (h : SubC t i j) (h' : SubC t j k) : SubC t i k := by
  refine ⟨fun a c => ∃ b, SubC t a b ∧ SubC t b c, ?_, j, h, h'⟩
  rintro a c ⟨b, h1, h2⟩
  rcases h1.step with (p | p) | ⟨p1, p2, p3⟩
  · exact .inl (.inl p)
  · rcases h2.step with (q | q) | ⟨q1, _, _⟩
    · omega
    · exact .inl (.inr q)
    · exact .inl (.inr (by omega))
  · rcases h2.step with (q | q) | ⟨q1, q2, q3⟩
    · exact .inl (.inl (by omega))
    · exact .inl (.inr q)
    · exact .inr ⟨by omega, fun c => ⟨⟨_, (p2 c).1, (q2 (by omega)).1⟩, ⟨_, (p2 c).2, (q2 (by omega)).2⟩⟩, fun c => ⟨⟨_, (q3 (by omega)).1, (p3 c).1⟩, ⟨_, (p3 c).2, (q3 (by omega)).2⟩⟩⟩
theorem stp_needs {t : List S39} (hv : ∀ i : Int, 0 ≤ i → i < t.length → okN t i) {i j : Int} (i0 : 0 ≤ i) (i1 : i < t.length) {R : Int → Int → Prop} : Stp t R i j ↔ ∃ m, needsF (nd t i) (nd t j) = some m ∧ ∀ c q, needGet m c = some q → R (s23 q).f0 (s23 q).f1 := by
  obtain ⟨⟨k0, k1⟩, _⟩ := hv i i0 i1
  unfold needsF Stp
  by_cases c0 : (nd t i).f0 = 0 ∨ (nd t j).f0 = 1
  · rw [if_pos c0]
    exact ⟨fun _ => ⟨none, rfl, fun c q h => by cases h⟩, fun _ => .inl c0⟩
  · rw [if_neg c0]
    by_cases c1 : (nd t i).f0 = (nd t j).f0
    · rw [if_neg (by simpa using c1)]
      by_cases c4 : (nd t i).f0 = 4
      · rw [if_pos c4]
        constructor
        · rintro (h | ⟨_, h, _⟩)
          · exact absurd h c0
          · refine ⟨_, rfl, fun c q hq => ?_⟩
            simp only [needGet] at hq
            split at hq
            · cases hq; exact (h c4).1
            · split at hq
              · cases hq; exact (h c4).2
              · cases hq
        · rintro ⟨m, hm, h⟩
          cases hm
          exact .inr ⟨c1, fun _ => ⟨h 97 _ rfl, h 98 _ rfl⟩, fun c5 => by omega⟩
      · rw [if_neg c4]
        by_cases c5 : (nd t i).f0 = 5
        · rw [if_pos c5]
          constructor
          · rintro (h | ⟨_, _, h⟩)
            · exact absurd h c0
            · refine ⟨_, rfl, fun c q hq => ?_⟩
              simp only [needGet] at hq
              split at hq
              · cases hq; exact (h c5).1
              · split at hq
                · cases hq; exact (h c5).2
                · cases hq
          · rintro ⟨m, hm, h⟩
            cases hm
            exact .inr ⟨c1, fun c4' => absurd c4' c4, fun _ => ⟨h 97 _ rfl, h 98 _ rfl⟩⟩
        · rw [if_neg c5]
          exact ⟨fun _ => ⟨none, rfl, fun c q h => by cases h⟩, fun _ => .inr ⟨c1, fun c => absurd c c4, fun c => absurd c c5⟩⟩
    · rw [if_pos c1]
      constructor
      · rintro (h | ⟨h, _⟩)
        · exact absurd h c0
        · exact absurd h c1
      · rintro ⟨m, hm, _⟩
        cases hm
def inP (t : List S39) (p : S23) : Prop := (0 ≤ p.f0 ∧ p.f0 < t.length) ∧ (0 ≤ p.f1 ∧ p.f1 < t.length)
theorem l23_inj {p q : S23} (h : l23 p = l23 q) : p = q := by
  obtain ⟨a, b⟩ := p
  obtain ⟨c, d⟩ := q
  simp [l23] at h
  rw [h.1, h.2]
theorem hasK_cons (bs : Bad) (k : List Int) (c : Int) (q : List Int) : hasK ((k, c) :: bs) q = (q == k || hasK bs q) := by
  unfold hasK
  rw [List.lookup_cons]
  cases h : q == k <;> simp
theorem letOf_cons (bs : Bad) (k : List Int) (c : Int) (q : List Int) : letOf ((k, c) :: bs) q = if q = k then c else letOf bs q := by
  unfold letOf
  rw [List.lookup_cons]
  by_cases h : q = k
  · rw [if_pos h, h]
    simp
  · rw [if_neg h, beq_eq_false_iff_ne.2 h]
/-- Why a pair is refuted, by a list. -/
def Why (t : List S39) (bs : Bad) (p : S23) (c : Int) : Prop :=
  (c = 0 ∧ needsF (nd t p.f0) (nd t p.f1) = none) ∨ ((c = 97 ∨ c = 98) ∧ ∃ m q, needsF (nd t p.f0) (nd t p.f1) = some m ∧ needGet m c = some q ∧ hasK bs q = true)
inductive Rk (t : List S39) : Bad → Prop where
  | nil : Rk t []
  | cons (p : S23) (c : Int) (bs : Bad) : Rk t bs → inP t p → hasK bs (l23 p) = false → Why t bs p c → Rk t ((l23 p, c) :: bs)
theorem need_inP {t : List S39} (hv : ∀ i : Int, 0 ≤ i → i < t.length → okN t i) {p : S23} (hp : inP t p) {m : Option (List Int × List Int)} (hm : needsF (nd t p.f0) (nd t p.f1) = some m) {c : Int} {q : List Int} (hq : needGet m c = some q) : q = l23 (s23 q) ∧ inP t (s23 q) := by
  obtain ⟨_, _, a1, b1⟩ := hv _ hp.1.1 hp.1.2
  obtain ⟨_, _, a2, b2⟩ := hv _ hp.2.1 hp.2.2
  unfold needsF at hm
  repeat' split at hm
  all_goals first
    | (cases hm; done)
    | (cases hm; cases hq; done)
    | (cases hm; simp only [needGet] at hq; split at hq
       · cases hq; exact ⟨rfl, by first | exact ⟨a1, a2⟩ | exact ⟨a2, a1⟩⟩
       · split at hq
         · cases hq; exact ⟨rfl, ⟨b1, b2⟩⟩
         · cases hq)
theorem Rk.sound {t : List S39} (hv : ∀ i : Int, 0 ≤ i → i < t.length → okN t i) {bs : Bad} (h : Rk t bs) : ∀ p : S23, hasK bs (l23 p) = true → ¬ SubC t p.f0 p.f1 := by
  induction h with
  | nil => intro p hp; cases hp
  | cons p c bs hr hin hno hw ih =>
    intro x hx hs
    rw [hasK_cons, Bool.or_eq_true] at hx
    rcases hx with hx | hx
    · have e := l23_inj (beq_iff_eq.1 hx)
      subst e
      obtain ⟨m, hm, hall⟩ := (stp_needs hv hin.1.1 hin.1.2).1 hs.step
      rcases hw with ⟨_, hn⟩ | ⟨_, m', q, hm', hq, hb⟩
      · rw [hn] at hm; cases hm
      · rw [hm] at hm'
        cases hm'
        have := (need_inP hv hin hm hq).1
        exact ih (s23 q) (by rw [← this]; exact hb) (hall c q hq)
    · exact ih x hx hs
/-- All pairs of nodes. -/
def allP (t : List S39) : List (List Int) := (List.range t.length).flatMap (fun i : Nat => (List.range t.length).map (fun j : Nat => [(i : Int), (j : Int)]))
theorem sum_const (n : Nat) : ∀ l : List Nat, (l.map (fun _ => n)).sum = l.length * n
  | [] => by simp
  | a :: l => by rw [List.map_cons, List.sum_cons, sum_const n l, List.length_cons, Nat.succ_mul, Nat.add_comm]
theorem allP_len (t : List S39) : (allP t).length = t.length * t.length := by
  unfold allP
  rw [List.length_flatMap]
  simp only [List.length_map, List.length_range]
  rw [sum_const, List.length_range]
theorem allP_mem {t : List S39} {p : S23} (h : inP t p) : l23 p ∈ allP t := by
  unfold allP
  refine List.mem_flatMap.2 ⟨p.f0.toNat, List.mem_range.2 (by have := h.1; omega), List.mem_map.2 ⟨p.f1.toNat, List.mem_range.2 (by have := h.2; omega), ?_⟩⟩
  unfold l23
  rw [Int.toNat_of_nonneg h.1.1, Int.toNat_of_nonneg h.2.1]
theorem Rk.keys {t : List S39} {bs : Bad} (h : Rk t bs) : (bs.map (·.1)).Nodup ∧ (∀ k ∈ bs.map (·.1), k ∈ allP t) ∧ ∀ k, k ∈ bs.map (·.1) ↔ hasK bs k = true := by
  induction h with
  | nil => exact ⟨List.nodup_nil, fun k hk => by simp at hk, fun k => ⟨fun hk => by simp at hk, fun hk => by cases hk⟩⟩
  | cons p c bs hr hin hno hw ih =>
    refine ⟨?_, fun k hk => ?_, fun k => ?_⟩
    · rw [List.map_cons, List.nodup_cons]
      exact ⟨(fun hm => by rw [(ih.2.2 _).1 hm] at hno; cases hno), ih.1⟩
    · rcases List.mem_cons.1 hk with rfl | hk
      · exact allP_mem hin
      · exact ih.2.1 k hk
    · rw [List.map_cons, List.mem_cons, hasK_cons, Bool.or_eq_true, ih.2.2 k, beq_iff_eq]
theorem Rk.len {t : List S39} {bs : Bad} (h : Rk t bs) : bs.length ≤ t.length * t.length := by
  have := nodup_sub_len h.keys.1 h.keys.2.1
  rwa [List.length_map, allP_len] at this

/-- A pair that a stage leaves: nothing that it needs is refuted. -/
def Fine (t : List S39) (bs : Bad) (p : S23) : Prop := ∃ m, needsF (nd t p.f0) (nd t p.f1) = some m ∧ ∀ c q, needGet m c = some q → hasK bs q = false
/-- A stage under way: the pairs that it has been at are told by D. -/
structure Stg (t : List S39) (bs : Bad) (D : S23 → Prop) (st : List S23 × Bad) : Prop where
 dup : st.1.Nodup
 what : ∀ p ∈ st.1, inP t p ∧ D p ∧ hasK bs (l23 p) = false ∧ Why t bs p (letOf st.2 (l23 p))
 rest : ∀ p, inP t p → D p → hasK bs (l23 p) = false → p ∈ st.1 ∨ Fine t bs p
 new : ∀ p, ¬ D p → letOf st.2 (l23 p) = 0
 len : st.2.length ≤ st.1.length
theorem Stg.size {t : List S39} {bs : Bad} {D : S23 → Prop} {st : List S23 × Bad} (h : Stg t bs D st) : st.1.length ≤ t.length * t.length := by
 have hnd : (st.1.map l23).Nodup := by
  rw [List.Nodup, List.pairwise_map]
  exact h.dup.imp (fun hne e => hne (l23_inj e))
 have := nodup_sub_len hnd (fun k hk => by
  obtain ⟨p, hp, rfl⟩ := List.mem_map.1 hk
  exact allP_mem (h.what p hp).1)
 rwa [List.length_map, allP_len] at this
theorem Stg.iff {t : List S39} {bs : Bad} {D D' : S23 → Prop} {st : List S23 × Bad} (h : Stg t bs D st) (e : ∀ p, inP t p → (D p ↔ D' p)) (e' : ∀ p, ¬ D' p → ¬ D p) : Stg t bs D' st :=
 ⟨h.dup, fun p hp => by
  obtain ⟨a, b, c, d⟩ := h.what p hp
  exact ⟨a, (e p a).1 b, c, d⟩, fun p hp hd => h.rest p hp ((e p hp).2 hd), fun p hd => h.new p (e' p hd), h.len⟩
theorem Stg.cell {t : List S39} {bs : Bad} {D : S23 → Prop} {st : List S23 × Bad} (h : Stg t bs D st) {i j : Int} (hp : inP t ⟨i, j⟩) (hD : ¬ D ⟨i, j⟩) : Stg t bs (fun p => D p ∨ p = ⟨i, j⟩) (cellStep t bs i j st) := by
 have hn : (⟨i, j⟩ : S23) ∉ st.1 := fun hm => hD (h.what _ hm).2.1
 have hlet := h.new _ hD
 -- a pair that is taken
 have take : ∀ (ls : Bad), (∀ q, q ≠ l23 ⟨i, j⟩ → letOf ls q = letOf st.2 q) → ls.length ≤ st.2.length + 1 → hasK bs (l23 ⟨i, j⟩) = false → Why t bs ⟨i, j⟩ (letOf ls (l23 ⟨i, j⟩)) → Stg t bs (fun p => D p ∨ p = ⟨i, j⟩) (st.1 ++ [⟨i, j⟩], ls) := fun ls h1 h2 h3 h4 => by
  refine ⟨?_, fun p hpp => ?_, fun p hpp hd hk => ?_, fun p hd => ?_, ?_⟩
  ·exact List.nodup_append.2 ⟨h.dup, by simp, fun a ha b hb => by simp at hb; subst hb; exact fun e => hn (e ▸ ha)⟩
  ·rcases List.mem_append.1 hpp with hpp | hpp
   ·obtain ⟨a, b, c, d⟩ := h.what p hpp
    refine ⟨a, .inl b, c, ?_⟩
    rw [show letOf (st.1 ++ [(⟨i, j⟩ : S23)], ls).2 (l23 p) = letOf st.2 (l23 p) from h1 _ (fun e => hn (l23_inj e ▸ hpp))]
    exact d
   ·simp at hpp
    subst hpp
    exact ⟨hp, .inr rfl, h3, h4⟩
  ·rcases hd with hd | rfl
   ·rcases h.rest p hpp hd hk with hm | hf
    ·exact .inl (List.mem_append_left _ hm)
    ·exact .inr hf
   ·exact .inl (by simp)
  ·have hne : p ≠ ⟨i, j⟩ := fun e => hd (.inr e)
   rw [show letOf (st.1 ++ [(⟨i, j⟩ : S23)], ls).2 (l23 p) = letOf st.2 (l23 p) from h1 _ (fun e => hne (l23_inj e))]
   exact h.new p (fun hh => hd (.inl hh))
  ·have := h.len
   simp
   omega
 -- a pair that is left
 have leave : (hasK bs (l23 ⟨i, j⟩) = false → Fine t bs ⟨i, j⟩) → Stg t bs (fun p => D p ∨ p = ⟨i, j⟩) st := fun h1 => by
  refine ⟨h.dup, fun p hpp => ?_, fun p hpp hd hk => ?_, fun p hd => h.new p (fun hh => hd (.inl hh)), h.len⟩
  ·obtain ⟨a, b, c, d⟩ := h.what p hpp
   exact ⟨a, .inl b, c, d⟩
  ·rcases hd with hd | rfl
   ·exact h.rest p hpp hd hk
   ·exact .inr (h1 hk)
 have letc : ∀ c : Int, (∀ q, q ≠ l23 ⟨i, j⟩ → letOf ((l23 ⟨i, j⟩, c) :: st.2) q = letOf st.2 q) := fun c q hq => by rw [letOf_cons, if_neg hq]
 unfold cellStep
 by_cases hk : hasK bs [i, j] = true
 ·rw [if_pos hk]
  exact leave (fun hf => by have hf' : hasK bs [i, j] = false := hf; rw [hk] at hf'; cases hf')
 ·rw [if_neg hk]
  have hkf : hasK bs (l23 ⟨i, j⟩) = false := by
   cases e : hasK bs (l23 ⟨i, j⟩) with
   | false => rfl
   | true => exact absurd e hk
  cases hm : needsF (rd_T39 t i) (rd_T39 t j) with
  | none => exact take st.2 (fun q _ => rfl) (by omega) hkf (.inl ⟨hlet, hm⟩)
  | some m =>
   have hm' : needsF (nd t i) (nd t j) = some m := hm
   show Stg t bs _ (abIn bs ⟨i, j⟩ m 0 st)
   unfold abIn
   rw [if_pos rfl]
   have hfine : (∀ c q, (c = 97 ∨ c = 98) → needGet m c = some q → hasK bs q = false) → Fine t bs ⟨i, j⟩ := fun hh => ⟨m, hm', fun c q hq => by
    refine hh c q ?_ hq
    unfold needGet at hq
    split at hq
    ·cases hq
    ·split at hq
     ·exact .inl ‹_›
     ·split at hq
      ·exact .inr ‹_›
      ·cases hq⟩
   have s98 : (∀ q, needGet m 97 = some q → hasK bs q = false) → Stg t bs (fun p => D p ∨ p = ⟨i, j⟩) (abStep bs ⟨i, j⟩ (needGet m 98) 98 st) := fun h97 => by
    unfold abStep
    cases h98 : needGet m 98 with
    | none =>
     exact leave (fun _ => hfine (fun c q hc hq => by
      rcases hc with rfl | rfl
      ·exact h97 q hq
      ·rw [h98] at hq; cases hq))
    | some q =>
     simp only []
     by_cases hb : hasK bs q = true
     ·rw [if_pos ⟨hlet, hb⟩]
      exact take _ (letc 98) (by simp) hkf (by
       rw [letOf_cons, if_pos rfl]
       exact .inr ⟨.inr rfl, m, q, hm', h98, hb⟩)
     ·rw [if_neg (fun hh => hb hh.2)]
      exact leave (fun _ => hfine (fun c q' hc hq => by
       rcases hc with rfl | rfl
       ·exact h97 q' hq
       ·rw [h98] at hq
        cases hq
        simpa using hb))
   have e97 : abStep bs ⟨i, j⟩ (needGet m 97) 97 st = st ∧ (∀ q, needGet m 97 = some q → hasK bs q = false) ∨ (∃ q, needGet m 97 = some q ∧ hasK bs q = true) ∧ abStep bs ⟨i, j⟩ (needGet m 97) 97 st = (st.1 ++ [⟨i, j⟩], (l23 ⟨i, j⟩, 97) :: st.2) := by
    unfold abStep
    cases h97 : needGet m 97 with
    | none => exact .inl ⟨rfl, fun q hq => by cases hq⟩
    | some q =>
     simp only []
     by_cases hb : hasK bs q = true
     ·exact .inr ⟨⟨q, rfl, hb⟩, if_pos ⟨hlet, hb⟩⟩
     ·exact .inl ⟨if_neg (fun hh => hb hh.2), fun q' hq => by cases hq; simpa using hb⟩
   rcases e97 with ⟨e, h97⟩ | ⟨⟨q, hq, hb⟩, e⟩
   ·rw [e]
    exact s98 h97
   ·rw [e]
    have hl97 : letOf ((l23 ⟨i, j⟩, 97) :: st.2) (l23 ⟨i, j⟩) = 97 := by rw [letOf_cons, if_pos rfl]
    have : abStep bs ⟨i, j⟩ (needGet m 98) 98 (st.1 ++ [⟨i, j⟩], (l23 ⟨i, j⟩, 97) :: st.2) = (st.1 ++ [⟨i, j⟩], (l23 ⟨i, j⟩, 97) :: st.2) := by
     unfold abStep
     cases needGet m 98 with
     | none => rfl
     | some q' =>
      simp only []
      rw [if_neg (fun hh => by rw [hl97] at hh; exact absurd hh.1 (by decide))]
    rw [this]
    exact take _ (letc 97) (by simp) hkf (by
     rw [hl97]
     exact .inr ⟨.inl rfl, m, q, hm', hq, hb⟩)
section
variable {t : List S39} (hv : ∀ i : Int, 0 ≤ i → i < t.length → okN t i) (hn : t.length ≤ 24) {bs : Bad}
include hv hn
theorem sq_le : t.length * t.length ≤ 576 := Nat.mul_le_mul hn hn
theorem jGo_ok {i : Int} (i0 : 0 ≤ i) (i1 : i < t.length) : ∀ (d j f : Nat) (st : List S23 × Bad), j + d = t.length → d < f → Stg t bs (fun p => p.f0 < i ∨ (p.f0 = i ∧ p.f1 < j)) st → ∃ st', jGo t bs i f j st = some st' ∧ Stg t bs (fun p => p.f0 < i + 1) st'
 | 0, j, f, st, h, hf, hS => by
  obtain ⟨f, rfl⟩ : ∃ g, f = g + 1 := ⟨f - 1, by omega⟩
  refine ⟨st, ?_, hS.iff (fun p hp => ?_) (fun p hd hh => hd ?_)⟩
  ·unfold jGo
   rw [if_neg (by omega)]
  ·have := hp.2.2
   omega
  ·omega
 | d + 1, j, f, st, h, hf, hS => by
  obtain ⟨f, rfl⟩ : ∃ g, f = g + 1 := ⟨f - 1, by omega⟩
  have hsz := hS.size
  have hl := hS.len
  have hsq := sq_le hv hn
  have hin : inP t ⟨i, (j : Int)⟩ := ⟨⟨i0, i1⟩, ⟨by show (0 : Int) ≤ (j : Int); omega, by show (j : Int) < _; omega⟩⟩
  have hc := hS.cell hin (fun hd => by
   rcases hd with hd | ⟨_, hd⟩
   ·have hd : i < i := hd; omega
   ·have hd : (j : Int) < (j : Int) := hd; omega)
  obtain ⟨st', e, hS'⟩ := jGo_ok i0 i1 d (j + 1) f (cellStep t bs i j st) (by omega) (by omega) (hc.iff (fun p _ => by
   constructor
   ·rintro (h | h)
    ·omega
    ·rw [h]; right; exact ⟨rfl, by show (j : Int) < _; omega⟩
   ·intro h
    by_cases e : p.f0 = i ∧ p.f1 = j
    ·right
     obtain ⟨a, b⟩ := p
     simp only at e
     rw [e.1, e.2]
    ·left; omega) (fun p hd hh => hd (by
   rcases hh with h | h
   ·omega
   ·rw [h]; right; exact ⟨rfl, by show (j : Int) < _; omega⟩)))
  refine ⟨st', ?_, hS'⟩
  unfold jGo
  rw [if_pos (by omega), if_pos ⟨by omega, by omega, by omega⟩]
  exact e
theorem iGo_ok : ∀ (d i f : Nat) (st : List S23 × Bad), i + d = t.length → d < f → Stg t bs (fun p => p.f0 < i) st → ∃ st', iGo t bs f i st = some st' ∧ Stg t bs (fun p => p.f0 < t.length) st'
 | 0, i, f, st, h, hf, hS => by
  obtain ⟨f, rfl⟩ : ∃ g, f = g + 1 := ⟨f - 1, by omega⟩
  have : i = t.length := by omega
  subst this
  refine ⟨st, ?_, hS⟩
  unfold iGo
  rw [if_neg (by omega)]
 | d + 1, i, f, st, h, hf, hS => by
  obtain ⟨f, rfl⟩ : ∃ g, f = g + 1 := ⟨f - 1, by omega⟩
  obtain ⟨st1, e1, hS1⟩ := jGo_ok hv hn (bs := bs) (i := i) (by omega) (by omega) t.length 0 200 st (by omega) (by omega) (by
   refine hS.iff (fun p hp => ?_) (fun p hd hh => hd (.inl hh))
   have := hp.2.1
   omega)
  obtain ⟨st2, e2, hS2⟩ := iGo_ok d (i + 1) f st1 (by omega) (by omega) hS1
  refine ⟨st2, ?_, hS2⟩
  unfold iGo
  rw [if_pos (by omega), if_pos (by omega)]
  show ((jGo t bs i 200 ((0 : Nat) : Int) st).bind _) = _
  rw [e1]
  exact e2
omit hv in
theorem addGo_ok {fs : List S23} {ls : Bad} (hnd : fs.Nodup) (hw : ∀ p ∈ fs, inP t p ∧ hasK bs (l23 p) = false ∧ Why t bs p (letOf ls (l23 p))) (hfl : fs.length ≤ 20000) : ∀ (d k f : Nat) (cur : Bad), k + d = fs.length → d < f → Rk t cur → (∀ q, hasK bs q = true → hasK cur q = true) → (∀ q, hasK cur q = true → hasK bs q = true ∨ ∃ m, ∃ h : m < fs.length, m < k ∧ q = l23 fs[m]) → cur.length = bs.length + k →
  ∃ r, addGo fs ls f k cur = some r ∧ Rk t r ∧ (∀ q, hasK bs q = true → hasK r q = true) ∧ r.length = bs.length + fs.length
 | 0, k, f, cur, h, hf, hR, h1, h2, hl => by
  obtain ⟨f, rfl⟩ : ∃ g, f = g + 1 := ⟨f - 1, by omega⟩
  refine ⟨cur, ?_, hR, h1, by omega⟩
  unfold addGo
  rw [if_neg (by omega)]
 | d + 1, k, f, cur, h, hf, hR, h1, h2, hl => by
  obtain ⟨f, rfl⟩ : ∃ g, f = g + 1 := ⟨f - 1, by omega⟩
  have hk : k < fs.length := by omega
  obtain ⟨w1, w2, w3⟩ := hw _ (List.getElem_mem hk)
  have e : rd_T23 fs (k : Int) = fs[k] := by
   unfold rd_T23
   rw [List.getD_eq_getElem?_getD, Int.toNat_natCast, List.getElem?_eq_getElem hk, Option.getD_some]
  have hno : hasK cur (l23 fs[k]) = false := by
   cases ec : hasK cur (l23 fs[k]) with
   | false => rfl
   | true =>
    rcases h2 _ ec with h | ⟨m, hm, hmk, hq⟩
    ·rw [w2] at h; cases h
    ·have := l23_inj hq
     have := (List.getElem_inj hnd).1 this
     omega
  have hwhy : Why t cur fs[k] (letOf ls (l23 fs[k])) := by
   rcases w3 with h | ⟨hc, m, q, a, b, c⟩
   ·exact .inl h
   ·exact .inr ⟨hc, m, q, a, b, h1 q c⟩
  have hcl := hR.len
  have hsq : t.length * t.length ≤ 576 := Nat.mul_le_mul hn hn
  obtain ⟨r, r1, r2, r3, r4⟩ := addGo_ok hnd hw hfl d (k + 1) f ((l23 fs[k], letOf ls (l23 fs[k])) :: cur) (by omega) (by omega) (.cons _ _ _ hR w1 hno hwhy) (fun q hq => by
   rw [hasK_cons, h1 q hq, Bool.or_true]) (fun q hq => by
   rw [hasK_cons, Bool.or_eq_true] at hq
   rcases hq with hq | hq
   ·exact .inr ⟨k, hk, by omega, beq_iff_eq.1 hq⟩
   ·rcases h2 q hq with h | ⟨m, hm, hmk, hq⟩
    ·exact .inl h
    ·exact .inr ⟨m, hm, by omega, hq⟩) (by simp; omega)
  refine ⟨r, ?_, r2, r3, r4⟩
  unfold addGo
  rw [if_pos (by omega), e, if_pos]
  ·exact r1
  ·have a1 := w1.1; have a2 := w1.2
   refine ⟨by omega, by omega, ?_, ?_⟩
   ·unfold i64B; exact decide_eq_true ⟨by omega, by omega⟩
   ·unfold i64B; exact decide_eq_true ⟨by omega, by omega⟩
/-- The refuted pairs: those that no closed relation has. -/
theorem refGo_ok : ∀ (d f : Nat) (bs : Bad), t.length * t.length ≤ bs.length + d → d + 1 < f → Rk t bs → ∃ r, refGo t f true bs = some r ∧ Rk t r ∧ ∀ p, inP t p → hasK r (l23 p) = false → Fine t r p := by
 intro d
 induction d using Nat.strongRecOn with
 | _ d ih =>
  intro f bs hd hf hR
  obtain ⟨f, rfl⟩ : ∃ g, f = g + 2 := ⟨f - 2, by omega⟩
  have hbl := hR.len
  have hsq := sq_le hv hn
  obtain ⟨st, e1, hS⟩ := iGo_ok hv hn (bs := bs) t.length 0 200 ([], []) (by omega) (by omega) ⟨List.nodup_nil, fun p hp => (by cases hp), fun p hp hd => by have := hp.1.1; omega, fun p _ => rfl, Nat.le_refl _⟩
  have hsz := hS.size
  obtain ⟨r, r1, r2, r3, r4⟩ := addGo_ok hn (bs := bs) (fs := st.1) (ls := st.2) hS.dup (fun p hp => by
   obtain ⟨a, _, c, d⟩ := hS.what p hp
   exact ⟨a, c, d⟩) (by omega) st.1.length 0 30000 bs (by omega) (by omega) hR (fun q h => h) (fun q h => .inl h) (by omega)
  have hgo : refGo t (f + 2) true bs = refGo t (f + 1) (decide (0 < st.1.length)) r := by
   conv => lhs; unfold refGo
   rw [if_pos rfl, if_pos ⟨by omega, by omega⟩]
   show ((iGo t bs 200 ((0 : Nat) : Int) ([], [])).bind _) = _
   rw [e1, Option.bind_some, if_pos (by omega)]
   show ((addGo st.1 st.2 30000 ((0 : Nat) : Int) bs).bind _) = _
   rw [r1]
   rfl
  rw [hgo]
  by_cases hfr : 0 < st.1.length
  ·rw [decide_eq_true hfr]
   have hrl := r2.len
   exact ih (d - st.1.length) (by omega) (f + 1) r (by omega) (by omega) r2
  ·rw [decide_eq_false hfr]
   have hnil : st.1 = [] := List.length_eq_zero_iff.1 (by omega)
   have hrb : r = bs := by
    unfold addGo at r1
    rw [if_neg (by omega)] at r1
    exact (Option.some.inj r1).symm
   subst hrb
   refine ⟨r, ?_, r2, fun p hp hk => ?_⟩
   ·unfold refGo
    rw [if_neg (by decide)]
   ·rcases hS.rest p hp hp.1.2 hk with h | h
    ·rw [hnil] at h; cases h
    ·exact h
end
noncomputable def subB (t : List S39) (i j : Int) : Bool := @decide (SubC t i j) (Classical.propDecidable _)
theorem subB_iff {t : List S39} {i j : Int} : subB t i j = true ↔ SubC t i j := by
 unfold subB
 exact @decide_eq_true_iff _ (Classical.propDecidable _)
end Go.Proofs.Ytnfmeafiaipplaa.P

namespace Go.Proofs.Ytnfmeafiaipplaa.P
open Go.RowKit Go.Proofs.Ytnfmeafiaipplaa.S Go.Proofs.YtnfmeafiaipplaaW.PrintWords
set_option linter.unusedVariables false
set_option linter.unusedSectionVars false
section
variable {t : List S39} (hv : ∀ i : Int, 0 ≤ i → i < t.length → okN t i) (hn : t.length ≤ 1000)
include hv hn
/-- What is laid of a pair. -/
def laid (t : List S39) (i j : Int) : Bool := decide (((nd t i).f0 = 0 ∨ (nd t j).f0 = 1) ∨ (nd t i).f0 = (nd t j).f0)
/-- The table says nothing false, and tells kinds apart. -/
def SbI (t : List S39) (x : List Bool) : Prop := x.length = t.length * t.length ∧ (∀ i j : Nat, i < t.length → j < t.length → SubC t i j → tb t.length x i j = true) ∧ (∀ i j : Nat, i < t.length → j < t.length → tb t.length x i j = true → ((nd t i).f0 = 0 ∨ (nd t j).f0 = 1) ∨ (nd t i).f0 = (nd t j).f0)
def SbC (t : List S39) (x : List Bool) (i j : Nat) : Prop := tb t.length x i j = true → Stp t (fun a b => tb t.length x a.toNat b.toNat = true) i j
omit hv hn in
theorem sbI_clear {x : List Bool} (h : SbI t x) {i j : Nat} (hi : i < t.length) (hj : j < t.length) (hs : ¬ SubC t i j) : SbI t (x.set (t.length * i + j) false) := by
 obtain ⟨h1, h2, h3⟩ := h
 refine ⟨by rw [List.length_set]; exact h1, fun a b ha hb hab => ?_, fun a b ha hb hab => ?_⟩
 ·rw [tb_set h1 hi hj hb]
  by_cases e : a = i ∧ b = j
  ·rw [e.1, e.2] at hab
   exact absurd hab hs
  ·rw [if_neg e]
   exact h2 a b ha hb hab
 ·rw [tb_set h1 hi hj hb] at hab
  by_cases e : a = i ∧ b = j
  ·rw [if_pos e] at hab; cases hab
  ·rw [if_neg e] at hab
   exact h3 a b ha hb hab
def SbL4 (t : List S39) (x : List Bool) (again : Bool) (i j : Nat) : Prop :=
  ∃ (x' : List Bool) (again' : Bool), SbI t x' ∧ (again' = false → again = false ∧ x' = x ∧ ∀ b, j ≤ b → b < t.length → SbC t x i b) ∧ x'.count true ≤ x.count true ∧ (again = false → again' = true → x'.count true < x.count true) ∧
   ∀ r, Ev (fun k => tickingref06_Subtypes.l3 k t t.length x' again' ((i + 1 : Nat) : Int)) r → Ev (fun k => tickingref06_Subtypes.l4 k t t.length x again (i : Int) (j : Int)) r
theorem sb_l4 : ∀ (d j : Nat) (i : Nat) (x : List Bool) (again : Bool), j + d = t.length → i < t.length → SbI t x → SbL4 t x again i j
 | 0, j, i, x, again, h, hi, hI => by
  refine ⟨x, again, hI, fun h' => ⟨h', rfl, fun b hb1 hb2 => by omega⟩, Nat.le_refl _, (fun h1 h2 => by rw [h1] at h2; cases h2), fun r hr => ?_⟩
  refine Ev.step (fun k => ?_) hr
  simp only [tickingref06_Subtypes.l4]
  rw [if_neg (by omega), w64 (by omega) (by omega)]
  rfl
 | d + 1, j, i, x, again, h, hi, hI => by
  have hj : j < t.length := by omega
  have hlen := hI.1
  have hlt := idx_lt hi hj
  obtain ⟨⟨k0, k1⟩, _, ⟨a0, a1⟩, ⟨a2, a3⟩⟩ := hv i (by omega) (by omega)
  obtain ⟨⟨n0, n1⟩, _, ⟨b0, b1⟩, ⟨b2, b3⟩⟩ := hv j (by omega) (by omega)
  have mid : ∀ (q : Bool) r, Ev (fun k => tickingref06_Subtypes.j5 k t t.length x again (i : Int) (j : Int) q (nd t i).f0 (nd t i).f1 (nd t i).f2 (nd t j).f0 (nd t j).f1 (nd t j).f2) r → (∀ k, tickingref06_Subtypes.l4 (k + 1) t t.length x again (i : Int) (j : Int) = tickingref06_Subtypes.j5 k t t.length x again (i : Int) (j : Int) q (nd t i).f0 (nd t i).f1 (nd t i).f2 (nd t j).f0 (nd t j).f1 (nd t j).f2) → Ev (fun k => tickingref06_Subtypes.l4 k t t.length x again (i : Int) (j : Int)) r := fun q r hr hk => Ev.step hk hr
  have goOn : ∀ q : Bool, SbC t x i j → (∀ k, tickingref06_Subtypes.l4 (k + 1) t t.length x again (i : Int) (j : Int) = tickingref06_Subtypes.j5 k t t.length x again (i : Int) (j : Int) q (nd t i).f0 (nd t i).f1 (nd t i).f2 (nd t j).f0 (nd t j).f1 (nd t j).f2) →
    (∀ k, tickingref06_Subtypes.j5 (k + 1) t t.length x again (i : Int) (j : Int) q (nd t i).f0 (nd t i).f1 (nd t i).f2 (nd t j).f0 (nd t j).f1 (nd t j).f2 = tickingref06_Subtypes.l4 k t t.length x again (i : Int) ((j + 1 : Nat) : Int)) → SbL4 t x again i j := fun q hc hk1 hk => by
   obtain ⟨x', again', r1, r2, r3, r4, r5⟩ := sb_l4 d (j + 1) i x again (by omega) hi hI
   refine ⟨x', again', r1, fun h' => ?_, r3, r4, fun r hr => Ev.step hk1 (Ev.step hk (r5 r hr))⟩
   obtain ⟨s1, s2, s3⟩ := r2 h'
   refine ⟨s1, s2, fun b hb1 hb2 => ?_⟩
   by_cases e : b = j
   ·rw [e]; exact hc
   ·exact s3 b (by omega) hb2
  have clr : tb t.length x i j = true → ¬ SubC t i j → (∀ k, tickingref06_Subtypes.l4 (k + 1) t t.length x again (i : Int) (j : Int) = tickingref06_Subtypes.j5 k t t.length x again (i : Int) (j : Int) false (nd t i).f0 (nd t i).f1 (nd t i).f2 (nd t j).f0 (nd t j).f1 (nd t j).f2) → (∀ k, tickingref06_Subtypes.j5 (k + 1) t t.length x again (i : Int) (j : Int) false (nd t i).f0 (nd t i).f1 (nd t i).f2 (nd t j).f0 (nd t j).f1 (nd t j).f2 = tickingref06_Subtypes.l4 k t t.length (x.set (t.length * i + j) false) true (i : Int) ((j + 1 : Nat) : Int)) → SbL4 t x again i j := fun ht hs hk1 hk => by
   obtain ⟨x', again', r1, r2, r3, r4, r5⟩ := sb_l4 d (j + 1) i (x.set (t.length * i + j) false) true (by omega) hi (sbI_clear hI hi hj hs)
   have hcnt : (x.set (t.length * i + j) false).count true + 1 = x.count true := count_set ht
   refine ⟨x', again', r1, fun h' => ?_, by omega, fun _ _ => by omega, fun r hr => Ev.step hk1 (Ev.step hk (r5 r hr))⟩
   have := (r2 h').1
   cases this
  have a4 : (nd t i).f1.toNat < t.length := by omega
  have a5 : (nd t i).f2.toNat < t.length := by omega
  have b4 : (nd t j).f1.toNat < t.length := by omega
  have b5 : (nd t j).f2.toNat < t.length := by omega
  have l3 := castlt (idx_lt a4 b4)
  have l4 := castlt (idx_lt a5 b5)
  have l5 := castlt (idx_lt b4 a4)
  have c1 : (j : Int) < (t.length : Int) := castlt hj
  have c2 : (i : Int) < (t.length : Int) := castlt hi
  have l1 := castlt hlt
  rw [← hlen] at l1 l3 l4 l5
  have say : ∀ {p q : Int}, 0 ≤ p → p < t.length → 0 ≤ q → q < t.length → SubC t p q → tb t.length x p.toNat q.toNat = true := fun p0 p1 r0 r1 hs => hI.2.1 _ _ (by omega) (by omega) (by rw [Int.toNat_of_nonneg p0, Int.toNat_of_nonneg r0]; exact hs)
  have kk : ¬ (nd t i).f0 < 4 → (nd t i).f0 ≠ 5 → (nd t i).f0 = 4 := fun _ _ => by omega
  have lo : (nd t i).f0 < 4 → (nd t i).f0 ≠ 4 ∧ (nd t i).f0 ≠ 5 := fun _ => by omega
  have e2 := w64s (j := j) (by omega)
  have e1 := ixw hn hi hj
  have e3 := ixp hn a0 a1 b0 b1
  have e4 := ixp hn a2 a3 b2 b3
  have e5 := ixp hn b0 b1 a0 a1
  have z := cast0
  have on : ∀ k, tickingref06_Subtypes.j5 (k + 1) t t.length x again (i : Int) (j : Int) true (nd t i).f0 (nd t i).f1 (nd t i).f2 (nd t j).f0 (nd t j).f1 (nd t j).f2 = tickingref06_Subtypes.l4 k t t.length x again (i : Int) ((j + 1 : Nat) : Int) := fun k => by
   simp only [tickingref06_Subtypes.j5]
   rw [if_pos trivial, e2]
  cases ht : tb t.length x i j with
  | false =>
   refine goOn true (fun h => by rw [ht] at h; cases h) (fun k => ?_) on
   simp only [tickingref06_Subtypes.l4]
   rw [if_pos c1, if_pos (z _), if_pos c2, if_pos (z _), if_pos c1, e1, if_pos (z _), if_pos l1, rdOf_tb, ht, if_neg (by decide)]
  | true =>
   by_cases q0 : (nd t i).f0 = 0
   ·refine goOn true (fun _ => .inl (.inl q0)) (fun k => ?_) on
    simp only [tickingref06_Subtypes.l4]
    rw [if_pos c1, if_pos (z _), if_pos c2, if_pos (z _), if_pos c1, e1, if_pos (z _), if_pos l1, rdOf_tb, ht, if_pos rfl, if_pos q0]
   ·by_cases q1 : (nd t j).f0 = 1
    ·refine goOn true (fun _ => .inl (.inr q1)) (fun k => ?_) on
     simp only [tickingref06_Subtypes.l4]
     rw [if_pos c1, if_pos (z _), if_pos c2, if_pos (z _), if_pos c1, e1, if_pos (z _), if_pos l1, rdOf_tb, ht, if_pos rfl, if_neg q0, if_pos q1]
    ·have hkk : (nd t i).f0 = (nd t j).f0 := by
      rcases hI.2.2 i j hi hj ht with hh | hh
      ·exact absurd hh (fun hh => hh.elim q0 q1)
      ·exact hh
     by_cases hk : (nd t i).f0 < 4
     ·refine goOn true (fun _ => .inr ⟨hkk, fun h4 => absurd h4 (lo hk).1, fun h5 => absurd h5 (lo hk).2⟩) (fun k => ?_) on
      simp only [tickingref06_Subtypes.l4]
      rw [if_pos c1, if_pos (z _), if_pos c2, if_pos (z _), if_pos c1, e1, if_pos (z _), if_pos l1, rdOf_tb, ht, if_pos rfl, if_neg q0, if_neg q1, decide_eq_true (show (rd_T39 t i).f0 < 4 from hk)]
     ·have st1 : ∀ k, tickingref06_Subtypes.l4 (k + 1) t t.length x again (i : Int) (j : Int) = tickingref06_Subtypes.j5 k t t.length x again (i : Int) (j : Int) false (nd t i).f0 (nd t i).f1 (nd t i).f2 (nd t j).f0 (nd t j).f1 (nd t j).f2 := fun k => by
       simp only [tickingref06_Subtypes.l4]
       rw [if_pos c1, if_pos (z _), if_pos c2, if_pos (z _), if_pos c1, e1, if_pos (z _), if_pos l1, rdOf_tb, ht, if_pos rfl, if_neg q0, if_neg q1, decide_eq_false (show ¬ (rd_T39 t i).f0 < 4 from hk)]
      have parts : SubC t i j → ((nd t i).f0 = 4 → SubC t (nd t i).f1 (nd t j).f1 ∧ SubC t (nd t i).f2 (nd t j).f2) ∧ ((nd t i).f0 = 5 → SubC t (nd t j).f1 (nd t i).f1 ∧ SubC t (nd t i).f2 (nd t j).f2) := fun hs => by
       rcases hs.step with hh | ⟨_, p4, p5⟩
       ·exact absurd hh (fun hh => hh.elim q0 q1)
       ·exact ⟨p4, p5⟩
      by_cases k5 : (nd t i).f0 = 5
      ·cases hA : tb t.length x (nd t j).f1.toNat (nd t i).f1.toNat with
       | false =>
        refine clr ht (fun hs => ?_) st1 (fun k => ?_)
        ·rw [say b0 b1 a0 a1 ((parts hs).2 k5).1] at hA
         cases hA
        ·simp only [tickingref06_Subtypes.j5]
         rw [if_neg (by decide), e3, if_pos (z _), if_pos l3, if_pos k5, e5, if_pos (z _), if_pos l5, rdOf_tb, hA, if_neg (by decide), e1, if_pos (z _), if_pos l1, e2]
         rfl
       | true =>
        cases hB : tb t.length x (nd t i).f2.toNat (nd t j).f2.toNat with
        | false =>
         refine clr ht (fun hs => ?_) st1 (fun k => ?_)
         ·rw [say a2 a3 b2 b3 ((parts hs).2 k5).2] at hB
          cases hB
         ·simp only [tickingref06_Subtypes.j5]
          rw [if_neg (by decide), e3, if_pos (z _), if_pos l3, if_pos k5, e5, if_pos (z _), if_pos l5, rdOf_tb, hA, if_pos rfl, e4, if_pos (z _), if_pos l4, rdOf_tb, hB, if_neg (by decide), e1, if_pos (z _), if_pos l1, e2]
          rfl
        | true =>
         refine goOn false (fun _ => .inr ⟨hkk, fun h4 => absurd (k5.symm.trans h4) (by decide), fun _ => ⟨hA, hB⟩⟩) st1 (fun k => ?_)
         simp only [tickingref06_Subtypes.j5]
         rw [if_neg (by decide), e3, if_pos (z _), if_pos l3, if_pos k5, e5, if_pos (z _), if_pos l5, rdOf_tb, hA, if_pos rfl, e4, if_pos (z _), if_pos l4, rdOf_tb, hB, if_pos rfl, e2]
      ·have k4 : (nd t i).f0 = 4 := kk hk k5
       cases hA : tb t.length x (nd t i).f1.toNat (nd t j).f1.toNat with
       | false =>
        refine clr ht (fun hs => ?_) st1 (fun k => ?_)
        ·rw [say a0 a1 b0 b1 ((parts hs).1 k4).1] at hA
         cases hA
        ·simp only [tickingref06_Subtypes.j5]
         rw [if_neg (by decide), e3, if_pos (z _), if_pos l3, if_neg k5, rdOf_tb, hA, if_neg (by decide), e1, if_pos (z _), if_pos l1, e2]
         rfl
       | true =>
        cases hB : tb t.length x (nd t i).f2.toNat (nd t j).f2.toNat with
        | false =>
         refine clr ht (fun hs => ?_) st1 (fun k => ?_)
         ·rw [say a2 a3 b2 b3 ((parts hs).1 k4).2] at hB
          cases hB
         ·simp only [tickingref06_Subtypes.j5]
          rw [if_neg (by decide), e3, if_pos (z _), if_pos l3, if_neg k5, rdOf_tb, hA, if_pos rfl, e4, if_pos (z _), if_pos l4, rdOf_tb, hB, if_neg (by decide), e1, if_pos (z _), if_pos l1, e2]
          rfl
        | true =>
         refine goOn false (fun _ => .inr ⟨hkk, fun _ => ⟨hA, hB⟩, fun h5 => absurd h5 k5⟩) st1 (fun k => ?_)
         simp only [tickingref06_Subtypes.j5]
         rw [if_neg (by decide), e3, if_pos (z _), if_pos l3, if_neg k5, rdOf_tb, hA, if_pos rfl, e4, if_pos (z _), if_pos l4, rdOf_tb, hB, if_pos rfl, e2]
theorem sb_l3 : ∀ (d i : Nat) (x : List Bool) (again : Bool), i + d = t.length → SbI t x →
  ∃ (x' : List Bool) (again' : Bool), SbI t x' ∧ (again' = false → again = false ∧ x' = x ∧ ∀ a b, i ≤ a → a < t.length → b < t.length → SbC t x a b) ∧ x'.count true ≤ x.count true ∧ (again = false → again' = true → x'.count true < x.count true) ∧
   ∀ r, Ev (fun k => tickingref06_Subtypes.l2 k t t.length x' again') r → Ev (fun k => tickingref06_Subtypes.l3 k t t.length x again (i : Int)) r
 | 0, i, x, again, h, hI => by
  refine ⟨x, again, hI, fun h' => ⟨h', rfl, fun a b hb1 hb2 => by omega⟩, Nat.le_refl _, (fun h1 h2 => by rw [h1] at h2; cases h2), fun r hr => ?_⟩
  refine Ev.step (fun k => ?_) hr
  simp only [tickingref06_Subtypes.l3]
  rw [if_neg (by omega)]
 | d + 1, i, x, again, h, hI => by
  have hi : i < t.length := by omega
  obtain ⟨x1, again1, r1, r2, r3, r4, r5⟩ := sb_l4 hv hn t.length 0 i x again (by omega) hi hI
  obtain ⟨x2, again2, s1, s2, s3, s4, s5⟩ := sb_l3 d (i + 1) x1 again1 (by omega) r1
  refine ⟨x2, again2, s1, fun h' => ?_, by omega, fun h1 h2 => ?_, fun r hr => ?_⟩
  ·obtain ⟨q1, q2, q3⟩ := s2 h'
   obtain ⟨p1, p2, p3⟩ := r2 q1
   refine ⟨p1, q2.trans p2, fun a b ha1 ha2 hb => ?_⟩
   by_cases e : a = i
   ·rw [e]; exact p3 b (by omega) hb
   ·have := q3 a b (by omega) ha2 hb
    rwa [p2] at this
  ·cases e : again1 with
   | true => have := r4 h1 e; omega
   | false => have := s4 e h2; omega
  ·refine Ev.step (f := fun k => tickingref06_Subtypes.l4 k t t.length x again (i : Int) ((0 : Nat) : Int)) (fun k => ?_) (r5 r (s5 r hr))
   simp only [tickingref06_Subtypes.l3]
   rw [if_pos (castlt hi)]
   rfl
theorem sb_l2 : ∀ (c : Nat) (x : List Bool), x.count true = c → SbI t x →
  ∃ r, Ev (fun k => tickingref06_Subtypes.l2 k t t.length x true) r ∧ SbI t r ∧ ∀ a b, a < t.length → b < t.length → SbC t r a b := by
 intro c
 induction c using Nat.strongRecOn with
 | _ c ih =>
  intro x hc hI
  obtain ⟨x1, again1, r1, r2, r3, r4, r5⟩ := sb_l3 hv hn t.length 0 x false (by omega) hI
  cases e : again1 with
  | false =>
   obtain ⟨_, q2, q3⟩ := r2 e
   subst q2
   refine ⟨x1, ?_, hI, fun a b ha hb => q3 a b (by omega) ha hb⟩
   refine Ev.step (f := fun k => tickingref06_Subtypes.l3 k t t.length x1 false ((0 : Nat) : Int)) (fun k => ?_) (r5 x1 ?_)
   ·simp only [tickingref06_Subtypes.l2]
    rfl
   ·rw [e]
    refine Ev.step (fun k => ?_) (Ev.now _)
    simp only [tickingref06_Subtypes.l2]
    rfl
  | true =>
   obtain ⟨r, s1, s2, s3⟩ := ih (x1.count true) (by have := r4 rfl e; omega) x1 rfl r1
   refine ⟨r, ?_, s2, s3⟩
   refine Ev.step (f := fun k => tickingref06_Subtypes.l3 k t t.length x false ((0 : Nat) : Int)) (fun k => ?_) (r5 r (by rw [e]; exact s1))
   simp only [tickingref06_Subtypes.l2]
   rfl
/-- While the table is laid. -/
def SbZ (t : List S39) (x : List Bool) (i j : Nat) : Prop := x.length = t.length * t.length ∧ ∀ a b : Nat, a < t.length → b < t.length → (a < i ∨ (a = i ∧ b < j)) → tb t.length x a b = laid t a b
omit hv in
theorem sb_l1 : ∀ (d j i : Nat) (x : List Bool), j + d = t.length → i < t.length → SbZ t x i j →
  ∃ x', SbZ t x' (i + 1) 0 ∧ ∀ r, Ev (fun k => tickingref06_Subtypes.l0 k t t.length x' ((i + 1 : Nat) : Int)) r → Ev (fun k => tickingref06_Subtypes.l1 k t t.length x (i : Int) (j : Int)) r
 | 0, j, i, x, h, hi, hZ => by
  refine ⟨x, ⟨hZ.1, fun a b ha hb hab => hZ.2 a b ha hb (by omega)⟩, fun r hr => Ev.step (fun k => ?_) hr⟩
  simp only [tickingref06_Subtypes.l1]
  rw [if_neg (by omega), w64s (by omega)]
 | d + 1, j, i, x, h, hi, hZ => by
  have hj : j < t.length := by omega
  have hlt := castlt (idx_lt hi hj)
  have hlen := hZ.1
  obtain ⟨x', r1, r2⟩ := sb_l1 d (j + 1) i (x.set (t.length * i + j) (laid t i j)) (by omega) hi ⟨by rw [List.length_set]; exact hZ.1, fun a b ha hb hab => by
   rw [tb_set hZ.1 hi hj hb]
   by_cases e : a = i ∧ b = j
   ·rw [if_pos e, e.1, e.2]
   ·rw [if_neg e]
    exact hZ.2 a b ha hb (by omega)⟩
  refine ⟨x', r1, fun r hr => Ev.step (fun k => ?_) (r2 r hr)⟩
  have c1 := castlt hi
  have c2 := castlt hj
  rw [← hlen] at hlt
  have e2 := w64s (j := j) (by omega)
  have e1 := ixw hn hi hj
  have z := cast0
  have q2 : (((t.length * i + j : Nat) : Int)).toNat = t.length * i + j := Int.toNat_natCast _
  simp only [tickingref06_Subtypes.l1]
  rw [if_pos c2, if_pos (z _), if_pos c1, if_pos (z _), if_pos c2]
  by_cases q0 : (nd t i).f0 = 0
  ·rw [if_pos q0, e1, if_pos (z _), if_pos hlt, e2, q2, show laid t i j = true from decide_eq_true (.inl (.inl q0))]
  ·by_cases q1 : (nd t j).f0 = 1
   ·rw [if_neg q0, if_pos q1, e1, if_pos (z _), if_pos hlt, e2, q2, show laid t i j = true from decide_eq_true (.inl (.inr q1))]
   ·have hl : laid t i j = ((nd t i).f0 == (nd t j).f0) := by
     unfold laid
     cases hb : ((nd t i).f0 == (nd t j).f0) with
     | true => exact decide_eq_true (.inr (beq_iff_eq.1 hb))
     | false => exact decide_eq_false (fun hh => hh.elim (fun h => h.elim q0 q1) (fun h => (beq_eq_false_iff_ne.1 hb) h))
    rw [if_neg q0, if_neg q1, e1, if_pos (z _), if_pos hlt, e2, q2, hl]
omit hv in
theorem sb_l0 : ∀ (d i : Nat) (x : List Bool), i + d = t.length → SbZ t x i 0 →
  ∃ x', SbZ t x' t.length 0 ∧ ∀ r, Ev (fun k => tickingref06_Subtypes.l2 k t t.length x' true) r → Ev (fun k => tickingref06_Subtypes.l0 k t t.length x (i : Int)) r
 | 0, i, x, h, hZ => by
  have : i = t.length := by omega
  subst this
  refine ⟨x, hZ, fun r hr => Ev.step (fun k => ?_) hr⟩
  simp only [tickingref06_Subtypes.l0]
  rw [if_neg (by omega)]
 | d + 1, i, x, h, hZ => by
  obtain ⟨x1, r1, r2⟩ := sb_l1 hn t.length 0 i x (by omega) (by omega) hZ
  obtain ⟨x2, s1, s2⟩ := sb_l0 d (i + 1) x1 (by omega) r1
  refine ⟨x2, s1, fun r hr => Ev.step (f := fun k => tickingref06_Subtypes.l1 k t t.length x (i : Int) ((0 : Nat) : Int)) (fun k => ?_) (r2 r (s2 r hr))⟩
  simp only [tickingref06_Subtypes.l0]
  rw [if_pos (castlt (by omega))]
  rfl
/-- The reference's table of subtypes. -/
theorem Subtypes_ev : ∃ r, Ev (fun k => tickingref06_Subtypes.f k t) r ∧ r.length = t.length * t.length ∧ ∀ i j : Nat, i < t.length → j < t.length → (tb t.length r i j = true ↔ SubC t i j) := by
 have hnn : t.length * t.length ≤ 1000 * 1000 := Nat.mul_le_mul hn hn
 have hw : wrap64 ((t.length : Int) * (t.length : Int)) = ((t.length * t.length : Nat) : Int) := by
  rw [show ((t.length : Int) * (t.length : Int)) = ((t.length * t.length : Nat) : Int) by push_cast; rfl, w64 (by omega) (by omega)]
 obtain ⟨x1, r1, r2⟩ := sb_l0 hn t.length 0 (List.replicate (t.length * t.length) false) (by omega) ⟨by simp, fun a b ha hb hab => by omega⟩
 have hI : SbI t x1 := ⟨r1.1, fun i j hi hj hs => by
  rw [r1.2 i j hi hj (.inl hi)]
  refine decide_eq_true ?_
  rcases hs.step with h | ⟨h, _, _⟩
  ·exact .inl h
  ·exact .inr h, fun i j hi hj hb => by
  rw [r1.2 i j hi hj (.inl hi)] at hb
  exact of_decide_eq_true hb⟩
 obtain ⟨r, s1, s2, s3⟩ := sb_l2 hv hn _ x1 rfl hI
 refine ⟨r, ?_, s2.1, fun i j hi hj => ⟨fun hb => ?_, s2.2.1 i j hi hj⟩⟩
 ·refine Ev.congr (f := fun k => tickingref06_Subtypes.l0 k t t.length (List.replicate (t.length * t.length) false) ((0 : Nat) : Int)) (fun k => ?_) (r2 r s1)
  unfold tickingref06_Subtypes.f
  rw [hw, if_pos (cast0 _), show (((t.length * t.length : Nat) : Int)).toNat = t.length * t.length from Int.toNat_natCast _, if_pos (by omega)]
  rfl
 ·refine ⟨fun a b => (0 ≤ a ∧ a < t.length) ∧ (0 ≤ b ∧ b < t.length) ∧ tb t.length r a.toNat b.toNat = true, ?_, ⟨by omega, by omega⟩, ⟨by omega, by omega⟩, by simpa using hb⟩
  rintro a b ⟨ha, hb, hab⟩
  have := s3 a.toNat b.toNat (by omega) (by omega) hab
  rw [Int.toNat_of_nonneg ha.1, Int.toNat_of_nonneg hb.1] at this
  obtain ⟨_, _, p1, p2⟩ := hv a ha.1 ha.2
  obtain ⟨_, _, p3, p4⟩ := hv b hb.1 hb.2
  rcases this with h | ⟨h, h4, h5⟩
  ·exact .inl h
  ·exact .inr ⟨h, fun c => ⟨⟨p1, p3, (h4 c).1⟩, ⟨p2, p4, (h4 c).2⟩⟩, fun c => ⟨⟨p3, p1, (h5 c).1⟩, ⟨p2, p4, (h5 c).2⟩⟩⟩
end
end Go.Proofs.Ytnfmeafiaipplaa.P

namespace Go.Proofs.Ytnfmeafiaipplaa.P
open Go.RowKit Go.Proofs.Ytnfmeafiaipplaa.S Go.Proofs.Ytnfmeafiaipplaa.Lib Go.Proofs.YtnfmeafiaipplaaW.PrintWords
set_option linter.unusedVariables false
set_option linter.unusedSectionVars false

/-- A node's tree ends, and so deep it is. -/
inductive Fn (t : List S39) : Int → Nat → Prop where
 | leaf (i : Int) : ¬ 4 ≤ (nd t i).f0 → Fn t i 0
 | node (i : Int) (x y : Nat) : 4 ≤ (nd t i).f0 → Fn t (nd t i).f1 x → Fn t (nd t i).f2 y → Fn t i (1 + max x y)
theorem Fn.uniq {t : List S39} {i : Int} {x : Nat} (h : Fn t i x) : ∀ {y : Nat}, Fn t i y → x = y := by
 induction h with
 | leaf i hk =>
  intro y h'
  cases h' with
  | leaf _ _ => rfl
  | node _ _ _ hk' _ _ => exact absurd hk' hk
 | node i x y hk h1 h2 ih1 ih2 =>
  intro z h'
  cases h' with
  | leaf _ hk' => exact absurd hk hk'
  | node _ x' y' _ h1' h2' => rw [ih1 h1', ih2 h2']
/-- A node lies in another's tree. -/
inductive Rch (t : List S39) : Int → Int → Prop where
 | here (i : Int) : Rch t i i
 | left (i j : Int) : 4 ≤ (nd t i).f0 → Rch t (nd t i).f1 j → Rch t i j
 | right (i j : Int) : 4 ≤ (nd t i).f0 → Rch t (nd t i).f2 j → Rch t i j
theorem Rch.fin {t : List S39} {i j : Int} (h : Rch t i j) : ∀ {x : Nat}, Fn t i x → ∃ y, Fn t j y ∧ y ≤ x := by
 induction h with
 | here i => exact fun {x} hf => ⟨x, hf, Nat.le_refl _⟩
 | left i j hk _ ih =>
  intro x hf
  cases hf with
  | leaf _ hk' => exact absurd hk hk'
  | node _ a b _ h1 h2 =>
   obtain ⟨y, y1, y2⟩ := ih h1
   exact ⟨y, y1, by omega⟩
 | right i j hk _ ih =>
  intro x hf
  cases hf with
  | leaf _ hk' => exact absurd hk hk'
  | node _ a b _ h1 h2 =>
   obtain ⟨y, y1, y2⟩ := ih h2
   exact ⟨y, y1, by omega⟩
theorem no_loop {t : List S39} {i : Int} (hk : 4 ≤ (nd t i).f0) (h : Rch t (nd t i).f1 i ∨ Rch t (nd t i).f2 i) : ¬ ∃ x, Fn t i x := by
 rintro ⟨x, hf⟩
 cases hf with
 | leaf _ hk' => exact absurd hk hk'
 | node _ a b _ h1 h2 =>
  have hf : Fn t i (1 + max a b) := .node i a b hk h1 h2
  rcases h with h | h
  ·obtain ⟨y, y1, y2⟩ := h.fin h1
   have := hf.uniq y1
   omega
  ·obtain ⟨y, y1, y2⟩ := h.fin h2
   have := hf.uniq y1
   omega
section
variable {t : List S39} (hv : ∀ i : Int, 0 ≤ i → i < t.length → okN t i) (hn : t.length ≤ 90)
include hv hn
/-- Every depth below a node's own is some node's. -/
theorem fn_all {i : Int} {x : Nat} (h : Fn t i x) : 0 ≤ i → i < t.length → ∀ c, c ≤ x → ∃ j : Nat, j < t.length ∧ Fn t j c := by
 induction h with
 | leaf i hk =>
  intro i0 i1 c hc
  refine ⟨i.toNat, by omega, ?_⟩
  rw [Int.toNat_of_nonneg i0, show c = 0 by omega]
  exact .leaf i hk
 | node i x y hk h1 h2 ih1 ih2 =>
  intro i0 i1 c hc
  obtain ⟨_, _, ⟨a0, a1⟩, ⟨b0, b1⟩⟩ := hv i i0 i1
  by_cases e : c = 1 + max x y
  ·refine ⟨i.toNat, by omega, ?_⟩
   rw [Int.toNat_of_nonneg i0, e]
   exact .node i x y hk h1 h2
  ·by_cases e1 : c ≤ x
   ·exact ih1 a0 a1 c e1
   ·exact ih2 b0 b1 c (by omega)
theorem fn_lt {i : Int} {x : Nat} (h : Fn t i x) (i0 : 0 ≤ i) (i1 : i < t.length) : x < t.length := by
 classical
 let dep : Nat → Int := fun j => if hj : ∃ y, Fn t j y then (hj.choose : Int) else 0
 have := full_len (L := (List.range t.length).map dep) (m := x + 1) (fun c hc => by
  obtain ⟨j, hj, hf⟩ := fn_all hv hn h i0 i1 c (by omega)
  refine List.mem_map.2 ⟨j, List.mem_range.2 hj, ?_⟩
  have hex : ∃ y, Fn t j y := ⟨c, hf⟩
  show (if hj : ∃ y, Fn t j y then (hj.choose : Int) else 0) = c
  rw [dif_pos hex, hex.choose_spec.uniq hf])
 simp at this
 omega
theorem depF_fn {i : Int} {x : Nat} (h : Fn t i x) : 0 ≤ i → i < t.length → ∀ (f : Nat) (left : Int), x < f → x ≤ left → left ≤ 1000 → depF t f i left = some (x : Int) := by
 induction h with
 | leaf i hk =>
  intro i0 i1 f left hf hl h1000
  obtain ⟨f, rfl⟩ : ∃ g, f = g + 1 := ⟨f - 1, by omega⟩
  unfold depF
  rw [if_pos ⟨⟨i0, i1⟩, by omega, by omega, h1000⟩, if_neg (by show ¬ ((nd t i).f0 = 4 ∨ (nd t i).f0 = 5); omega)]
  rfl
 | node i x y hk h1 h2 ih1 ih2 =>
  intro i0 i1 f left hf hl h1000
  obtain ⟨⟨k0, k1⟩, _, ⟨a0, a1⟩, ⟨b0, b1⟩⟩ := hv i i0 i1
  obtain ⟨f, rfl⟩ : ∃ g, f = g + 1 := ⟨f - 1, by omega⟩
  have hlt := fn_lt hv hn (.node i x y hk h1 h2) i0 i1
  have hx := fn_lt hv hn h1 a0 a1
  have hy := fn_lt hv hn h2 b0 b1
  have e1 := ih1 a0 a1 f (left - 1) (by omega) (by omega) (by omega)
  have e2 := ih2 b0 b1 f (left - 1) (by omega) (by omega) (by omega)
  unfold depF
  rw [if_pos ⟨⟨i0, i1⟩, by omega, by omega, h1000⟩, if_pos (by show ((nd t i).f0 = 4 ∨ (nd t i).f0 = 5); omega), if_neg (by omega)]
  show (depF t f (nd t i).f1 (left - 1)).bind _ = _
  rw [e1, Option.bind_some, if_pos ⟨by omega, by omega⟩, if_pos (by omega)]
  show (depF t f (nd t i).f2 (left - 1)).bind _ = _
  rw [e2, Option.bind_some, if_pos ⟨by omega, by omega⟩]
  congr 1
  unfold mn mx
  split <;> split <;> omega
/-- Nodes that nobody has come to. -/
def wh (t : List S39) (sl : SL) : Nat := (List.range t.length).countP (fun i : Nat => stOf sl i == 0)
omit hv hn in
theorem stOf_cons (sl : SL) (i c x : Int) : stOf ((i, c) :: sl) x = if x = i then c else stOf sl x := by
 unfold stOf
 rw [List.lookup_cons]
 by_cases h : x = i
 ·rw [if_pos h, h]
  simp
 ·rw [if_neg h]
  have : (x == i) = false := beq_eq_false_iff_ne.2 h
  rw [this]
omit hv hn in
theorem countP_lt {p q : Nat → Bool} : ∀ (l : List Nat) (a : Nat), a ∈ l → p a = false → q a = true → (∀ x, p x = true → q x = true) → l.countP p < l.countP q
 | [], a, h, _, _, _ => by simp at h
 | b :: l, a, h, h1, h2, h3 => by
  rw [List.countP_cons, List.countP_cons]
  have hle : l.countP p ≤ l.countP q := List.countP_mono_left (fun x _ hx => h3 x hx)
  rcases List.mem_cons.1 h with rfl | h
  ·rw [if_neg (by rw [h1]; decide), if_pos h2]
   omega
  ·have := countP_lt l a h h1 h2 h3
   by_cases hb : p b = true
   ·rw [if_pos hb, if_pos (h3 b hb)]; omega
   ·rw [if_neg hb]; split <;> omega
omit hv hn in
theorem wh_put {sl : SL} {i c : Int} (i0 : 0 ≤ i) (i1 : i < t.length) (h : stOf sl i = 0) (hc : c ≠ 0) : wh t ((i, c) :: sl) < wh t sl := by
 unfold wh
 refine countP_lt _ i.toNat (List.mem_range.2 (by omega)) ?_ ?_ (fun x hx => ?_)
 ·rw [Int.toNat_of_nonneg i0, stOf_cons, if_pos rfl]
  exact beq_eq_false_iff_ne.2 hc
 ·rw [Int.toNat_of_nonneg i0, h]
  rfl
 ·rw [stOf_cons] at hx
  by_cases e : (x : Int) = i
  ·rw [if_pos e] at hx
   exact absurd (beq_iff_eq.1 hx) hc
  ·rw [if_neg e] at hx
   exact hx
omit hv hn in
theorem wh_put2 {sl : SL} {i c : Int} (hc : c ≠ 0) : wh t ((i, c) :: sl) ≤ wh t sl := by
 unfold wh
 refine List.countP_mono_left (fun x _ hx => ?_)
 rw [stOf_cons] at hx
 by_cases e : (x : Int) = i
 ·rw [if_pos e] at hx
  exact absurd (beq_iff_eq.1 hx) hc
 ·rw [if_neg e] at hx
  exact hx
/-- States are none, begun, done; what is done ends. -/
def CyI (t : List S39) (sl : SL) : Prop := ∀ x, (stOf sl x = 0 ∨ stOf sl x = 1 ∨ stOf sl x = 2) ∧ (stOf sl x = 2 → ∃ y, Fn t x y)
theorem vis_ok : ∀ (f : Nat) (i : Int) (sl : SL), 0 ≤ i → i < t.length → wh t sl < f → sl.length + 2 * wh t sl ≤ 1000 → CyI t sl →
  ∃ b sl', visF t f i sl = some (b, sl') ∧ sl'.length + 2 * wh t sl' ≤ sl.length + 2 * wh t sl ∧ wh t sl' ≤ wh t sl ∧
   (b = false → CyI t sl' ∧ (∃ y, Fn t i y) ∧ ∀ x, stOf sl' x = 1 ↔ stOf sl x = 1) ∧ (b = true → (∃ g, stOf sl g = 1 ∧ Rch t i g) ∨ ¬ ∃ y, Fn t i y)
 | 0, i, sl, _, _, h, _, _ => by omega
 | f + 1, i, sl, i0, i1, hw, hl, hI => by
  unfold visF
  by_cases c : stOf sl i > 0
  ·rw [if_pos c]
   refine ⟨_, _, rfl, Nat.le_refl _, Nat.le_refl _, fun hb => ⟨hI, ?_, fun x => Iff.rfl⟩, fun hb => .inl ⟨i, beq_iff_eq.1 hb, .here i⟩⟩
   have := beq_eq_false_iff_ne.1 hb
   exact (hI i).2 (by have := (hI i).1; omega)
  ·have hst : stOf sl i = 0 := by have := (hI i).1; omega
   obtain ⟨⟨k0, k1⟩, _, ⟨a0, a1⟩, ⟨b0, b1⟩⟩ := hv i i0 i1
   have hw1 := wh_put (c := 1) i0 i1 hst (by decide)
   rw [if_neg c, if_pos ⟨⟨i0, i1⟩, by omega⟩]
   have hI1 : CyI t ((i, 1) :: sl) := fun x => by
    rw [stOf_cons]
    by_cases e : x = i
    ·rw [if_pos e]
     exact ⟨.inr (.inl rfl), fun h => by omega⟩
    ·rw [if_neg e]
     exact hI x
   by_cases hk : 4 ≤ (nd t i).f0
   ·rw [if_pos (show (nd t i).f0 = 4 ∨ (nd t i).f0 = 5 by omega)]
    obtain ⟨ba, sa, e1, e2, e3, e4, e5⟩ := vis_ok f (nd t i).f1 ((i, 1) :: sl) a0 a1 (by omega) (by simp only [List.length_cons]; omega) hI1
    simp only [List.length_cons] at e2
    have w2 := wh_put2 (t := t) (sl := sa) (i := i) (c := 2) (by decide)
    show ∃ b sl', ((visF t f (nd t i).f1 ((i, 1) :: sl)).bind _) = some (b, sl') ∧ _
    rw [e1, Option.bind_some, if_pos (show sa.length ≤ 1000000 by omega)]
    cases ba with
    | true =>
     rw [if_pos rfl]
     refine ⟨true, (i, 2) :: sa, rfl, by simp only [List.length_cons]; omega, by omega, fun h => (by cases h), fun _ => ?_⟩
     rcases e5 rfl with ⟨g, g1, g2⟩ | hinf
     ·rw [stOf_cons] at g1
      by_cases e : g = i
      ·rw [e] at g2
       exact .inr (no_loop hk (.inl g2))
      ·rw [if_neg e] at g1
       exact .inl ⟨g, g1, .left i g hk g2⟩
     ·refine .inr (fun hf => hinf ?_)
      obtain ⟨y, hf⟩ := hf
      cases hf with
      | leaf _ hk' => exact absurd hk hk'
      | node _ x y _ h1 h2 => exact ⟨x, h1⟩
    | false =>
     obtain ⟨hIa, ⟨ya, hya⟩, hga⟩ := e4 rfl
     rw [if_neg (show ¬ (false : Bool) = true by decide)]
     obtain ⟨bb, sb, d1, d2, d3, d4, d5⟩ := vis_ok f (nd t i).f2 sa b0 b1 (by omega) (by omega) hIa
     have w3 := wh_put2 (t := t) (sl := sb) (i := i) (c := 2) (by decide)
     show ∃ b sl', ((visF t f (nd t i).f2 sa).bind _) = some (b, sl') ∧ _
     rw [d1, Option.bind_some, if_pos (show sb.length ≤ 1000000 by omega)]
     refine ⟨bb, (i, 2) :: sb, rfl, by simp only [List.length_cons]; omega, by omega, fun hb => ?_, fun hb => ?_⟩
     ·have hb : bb = false := hb
      obtain ⟨hIb, ⟨yb, hyb⟩, hgb⟩ := d4 hb
      have hfi : Fn t i (1 + max ya yb) := .node i ya yb hk hya hyb
      refine ⟨fun x => ?_, ⟨_, hfi⟩, fun x => ?_⟩
      ·rw [stOf_cons]
       by_cases e : x = i
       ·rw [if_pos e, e]
        exact ⟨.inr (.inr rfl), fun _ => ⟨_, hfi⟩⟩
       ·rw [if_neg e]
        exact hIb x
      ·rw [stOf_cons]
       by_cases e : x = i
       ·rw [if_pos e, e, hst]
        constructor <;> intro h <;> omega
       ·rw [if_neg e, hgb x, hga x, stOf_cons, if_neg e]
     ·have hb : bb = true := hb
      rcases d5 hb with ⟨g, g1, g2⟩ | hinf
      ·rw [hga g, stOf_cons] at g1
       by_cases e : g = i
       ·rw [e] at g2
        exact .inr (no_loop hk (.inr g2))
       ·rw [if_neg e] at g1
        exact .inl ⟨g, g1, .right i g hk g2⟩
      ·refine .inr (fun hf => hinf ?_)
       obtain ⟨y, hf⟩ := hf
       cases hf with
       | leaf _ hk' => exact absurd hk hk'
       | node _ x y _ h1 h2 => exact ⟨y, h2⟩
   ·rw [if_neg (show ¬ ((nd t i).f0 = 4 ∨ (nd t i).f0 = 5) by omega)]
    have w2 := wh_put2 (t := t) (sl := ((i, 1) :: sl)) (i := i) (c := 2) (by decide)
    refine ⟨_, _, rfl, by simp only [List.length_cons]; omega, by omega, fun _ => ⟨fun x => ?_, ⟨0, .leaf i hk⟩, fun x => ?_⟩, fun h => (by cases h)⟩
    ·rw [stOf_cons]
     by_cases e : x = i
     ·rw [if_pos e, e]
      exact ⟨.inr (.inr rfl), fun _ => ⟨0, .leaf i hk⟩⟩
     ·rw [if_neg e]
      exact hI1 x
    ·rw [stOf_cons, stOf_cons]
     by_cases e : x = i
     ·rw [if_pos e, e, hst]
      constructor <;> intro h <;> omega
     ·rw [if_neg e, if_neg e]
theorem onCycle_ok {i : Int} (i0 : 0 ≤ i) (i1 : i < t.length) : ∃ b, loops_onCycle.f t i = some b ∧ (b = true ↔ ¬ ∃ x, Fn t i x) := by
 have hw : wh t [] ≤ t.length := by
  unfold wh
  have := List.countP_le_length (p := fun i : Nat => stOf [] i == 0) (l := List.range t.length)
  simpa using this
 obtain ⟨b, sl, h1, _, _, h4, h5⟩ := vis_ok hv hn 100 i [] i0 i1 (by omega) (by simp; omega) (fun x => ⟨.inl rfl, fun h => by cases h⟩)
 refine ⟨b, ?_, fun hb => ?_, fun hb => ?_⟩
 ·unfold loops_onCycle.f
  rw [if_pos, h1]
  ·rfl
  ·refine ⟨by omega, by unfold i64B; exact decide_eq_true ⟨by omega, by omega⟩, List.all_eq_true.2 (fun x hx => ?_)⟩
   obtain ⟨j, hj, rfl⟩ := List.getElem_of_mem hx
   have := hv j (by omega) (by omega)
   have e : nd t (j : Int) = t[j] := by
    unfold nd rd_T39
    rw [List.getD_eq_getElem?_getD, Int.toNat_natCast, List.getElem?_eq_getElem hj, Option.getD_some]
   unfold okN at this
   rw [e] at this
   obtain ⟨_, _, ⟨a0, a1⟩, ⟨b0, b1⟩⟩ := this
   unfold i64B
   rw [Bool.and_eq_true]
   exact ⟨decide_eq_true ⟨by omega, by omega⟩, decide_eq_true ⟨by omega, by omega⟩⟩
 ·rcases h5 hb with ⟨g, g1, _⟩ | h
  ·cases g1
  ·exact h
 ·cases b with
  | true => rfl
  | false => exact absurd (h4 rfl).2.1 hb
end
theorem Depth_fin {t : List S39} (ht : tyB t 24 = true) {i : Int} (i0 : 0 ≤ i) (i1 : i < t.length) {x : Nat} (h : Fn t i x) : Ev (fun k => loops_Depth.f k t i) ((x : Int), 0) := by
 obtain ⟨⟨h1, hv⟩, hl⟩ := tyB_iff.1 ht
 obtain ⟨b, b1, b2⟩ := onCycle_ok hv (by omega) i0 i1
 have hb : b = false := by
  cases b with
  | false => rfl
  | true => exact absurd ⟨x, h⟩ (b2.1 rfl)
 have hx := fn_lt hv (by omega) h i0 i1
 unfold loops_Depth.f
 refine Ev.bind (f := fun k (ok : Bool) => if ok = true then (loops_onCycle.f t i).bind fun cy => if cy = true then some ((0 : Int), (6 : Int)) else (depF t 100 i t.length).bind fun d => some (d, (0 : Int)) else some ((0 : Int), (2 : Int))) (areNodes_ev (by omega) [i]) ?_
 rw [ht, inB_one.2 ⟨i0, i1⟩, b1, hb]
 refine Ev.congr (fun k => ?_) (Ev.now _)
 rw [if_pos (show (true && true) = true from rfl), Option.bind_some, if_neg (by decide), depF_fn hv (by omega) h i0 i1 100 t.length (by omega) (by omega) (by omega)]
 rfl
theorem Depth_inf {t : List S39} (ht : tyB t 24 = true) {i : Int} (i0 : 0 ≤ i) (i1 : i < t.length) (h : ¬ ∃ x, Fn t i x) : Ev (fun k => loops_Depth.f k t i) ((0 : Int), 6) := by
 obtain ⟨⟨h1, hv⟩, hl⟩ := tyB_iff.1 ht
 obtain ⟨b, b1, b2⟩ := onCycle_ok hv (by omega) i0 i1
 unfold loops_Depth.f
 refine Ev.bind (f := fun k (ok : Bool) => if ok = true then (loops_onCycle.f t i).bind fun cy => if cy = true then some ((0 : Int), (6 : Int)) else (depF t 100 i t.length).bind fun d => some (d, (0 : Int)) else some ((0 : Int), (2 : Int))) (areNodes_ev (by omega) [i]) ?_
 rw [ht, inB_one.2 ⟨i0, i1⟩, b1, b2.2 h]
 exact Ev.now _
end Go.Proofs.Ytnfmeafiaipplaa.P

namespace Go.Proofs.Ytnfmeafiaipplaa.P
open Go.RowKit Go.Proofs.Ytnfmeafiaipplaa.S Go.Proofs.Ytnfmeafiaipplaa.Lib Go.Proofs.YtnfmeafiaipplaaW.PrintWords
set_option linter.unusedVariables false
set_option linter.unusedSectionVars false
open Classical in
/-- The pairs of a row, of all rows. -/
noncomputable def rowP (t : List S39) (i : Nat) : Nat → Nat → List S23
 | 0, _ => []
 | d + 1, j => (if subB t i j = true ∧ i ≠ j then [⟨(i : Int), (j : Int)⟩] else []) ++ rowP t i d (j + 1)
noncomputable def allO (t : List S39) : Nat → Nat → List S23
 | 0, _ => []
 | d + 1, i => rowP t i t.length 0 ++ allO t d (i + 1)
theorem rowP_len (t : List S39) (i : Nat) : ∀ d j, (rowP t i d j).length ≤ d
 | 0, _ => by simp [rowP]
 | d + 1, j => by
  have := rowP_len t i d (j + 1)
  unfold rowP
  split <;> simp <;> omega
theorem allO_len (t : List S39) : ∀ d i, (allO t d i).length ≤ d * t.length
 | 0, _ => by simp [allO]
 | d + 1, i => by
  have h1 := allO_len t d (i + 1)
  have h2 := rowP_len t i t.length 0
  unfold allO
  rw [List.length_append, Nat.succ_mul]
  omega
section
variable {t : List S39} {bad : Bad} (hb : ∀ i j : Nat, i < t.length → j < t.length → hasK bad [(i : Int), (j : Int)] = !(subB t i j))
include hb
theorem ordJ_ok {i : Nat} (hi : i < t.length) (hn : t.length ≤ 24) : ∀ (d j f : Nat) (out : List S23), j + d = t.length → d < f → out.length + d ≤ 1000 → ordJ t.length bad i f j out = some (out ++ rowP t i d j)
 | 0, j, f, out, h, hf, hl => by
  obtain ⟨f, rfl⟩ : ∃ g, f = g + 1 := ⟨f - 1, by omega⟩
  unfold ordJ
  rw [if_neg (by omega)]
  simp [rowP]
 | d + 1, j, f, out, h, hf, hl => by
  obtain ⟨f, rfl⟩ : ∃ g, f = g + 1 := ⟨f - 1, by omega⟩
  unfold ordJ
  rw [if_pos (by omega), if_pos ⟨by omega, by omega⟩, hb i j hi (by omega)]
  unfold rowP
  by_cases c : subB t i j = true ∧ i ≠ j
  ·rw [if_pos c, if_pos ⟨by rw [c.1]; rfl, by have := c.2; omega⟩]
   have := ordJ_ok hi hn d (j + 1) f (out ++ [⟨(i : Int), (j : Int)⟩]) (by omega) (by omega) (by simp; omega)
   rw [List.append_assoc] at this
   exact this
  ·rw [if_neg c, if_neg (fun hh => c ⟨by simpa using hh.1, by have := hh.2; omega⟩)]
   exact ordJ_ok hi hn d (j + 1) f out (by omega) (by omega) (by omega)
theorem ordI_ok (hn : t.length ≤ 24) : ∀ (d i f : Nat) (out : List S23), i + d = t.length → d < f → out.length ≤ i * 24 → ordI t.length bad f i out = some (out ++ allO t d i)
 | 0, i, f, out, h, hf, hl => by
  obtain ⟨f, rfl⟩ : ∃ g, f = g + 1 := ⟨f - 1, by omega⟩
  unfold ordI
  rw [if_neg (by omega)]
  simp [allO]
 | d + 1, i, f, out, h, hf, hl => by
  obtain ⟨f, rfl⟩ : ∃ g, f = g + 1 := ⟨f - 1, by omega⟩
  have hj := ordJ_ok hb (i := i) (by omega) hn t.length 0 200 out (by omega) (by omega) (by omega)
  have hlen := rowP_len t i t.length 0
  unfold ordI
  rw [if_pos (by omega), if_pos (by omega)]
  show ((ordJ t.length bad i 200 ((0 : Nat) : Int) out).bind _) = _
  rw [hj, Option.bind_some]
  have := ordI_ok hn d (i + 1) f (out ++ rowP t i t.length 0) (by omega) (by omega) (by simp; omega)
  unfold allO
  rw [List.append_assoc] at this
  exact this
end
theorem t39_all {t : List S39} (hv : ∀ i : Int, 0 ≤ i → i < t.length → okN t i) (hn : t.length ≤ 24) : t.all t39B = true := List.all_eq_true.2 (fun x hx => by
  obtain ⟨k, hk, rfl⟩ := List.getElem_of_mem hx
  have := hv k (by omega) (by omega)
  have e : nd t (k : Int) = t[k] := by
   unfold nd rd_T39
   rw [List.getD_eq_getElem?_getD, Int.toNat_natCast, List.getElem?_eq_getElem hk, Option.getD_some]
  unfold okN at this
  rw [e] at this
  obtain ⟨⟨k0, k1⟩, _, ⟨a0, a1⟩, ⟨c0, c1⟩⟩ := this
  unfold t39B i64B
  rw [Bool.and_eq_true, Bool.and_eq_true]
  exact ⟨decide_eq_true ⟨by omega, by omega⟩, decide_eq_true ⟨by omega, by omega⟩, decide_eq_true ⟨by omega, by omega⟩⟩)
/-- The refuted pairs, as a list of stages tells them. -/
theorem bad_ex {t : List S39} (hv : ∀ i : Int, 0 ≤ i → i < t.length → okN t i) (hn : t.length ≤ 24) : ∃ bad, refGo t 1000 true [] = some bad ∧ ∀ i j : Nat, i < t.length → j < t.length → hasK bad [(i : Int), (j : Int)] = !(subB t i j) := by
 obtain ⟨bad, b1, b2, b3⟩ := refGo_ok hv hn 576 1000 [] (by have : t.length * t.length ≤ 576 := Nat.mul_le_mul hn hn; simp; omega) (by omega) .nil
 refine ⟨bad, b1, fun i j hi hj => ?_⟩
 have hin : inP t ⟨(i : Int), (j : Int)⟩ := ⟨⟨by show (0 : Int) ≤ i; omega, by show (i : Int) < _; omega⟩, ⟨by show (0 : Int) ≤ j; omega, by show (j : Int) < _; omega⟩⟩
 cases e : hasK bad [(i : Int), (j : Int)] with
 | true =>
  have := b2.sound hv ⟨i, j⟩ e
  cases e2 : subB t i j with
  | false => rfl
  | true => exact absurd (subB_iff.1 e2) this
 | false =>
  have hs : subB t i j = true := subB_iff.2 ⟨fun a b => inP t ⟨a, b⟩ ∧ hasK bad [a, b] = false, fun a b hab => by
   obtain ⟨m, hm, hall2⟩ := b3 ⟨a, b⟩ hab.1 hab.2
   refine (stp_needs hv hab.1.1.1 hab.1.1.2).2 ⟨m, hm, fun c q hq => ?_⟩
   obtain ⟨q1, q2⟩ := need_inP hv hab.1 hm hq
   refine ⟨q2, ?_⟩
   have := hall2 c q hq
   rw [q1] at this
   exact this, hin, e⟩
  rw [hs]
  rfl
theorem Order_ev {t : List S39} (hn : t.length ≤ 1000) : Ev (fun k => loops_Order.f k t) (if tyB t 24 = true then (allO t t.length 0, 0) else ([], 2)) := by
 unfold loops_Order.f
 refine Ev.bind (f := fun k (ok : Bool) => if ok = true then
   (if t.all t39B = true ∧ t.length ≤ 100 then (refGo t 1000 true []).bind fun bad => (ordI t.length bad 200 0 []).bind fun r => some (r, (0 : Int)) else none)
  else some ([], 2)) (areTypes_ev hn) ?_
 cases h : tyB t 24 with
 | false => exact Ev.now _
 | true =>
  obtain ⟨⟨h1, hv⟩, hl⟩ := tyB_iff.1 h
  have hn24 : t.length ≤ 24 := by omega
  obtain ⟨bad, b1, b2⟩ := bad_ex hv hn24
  have := ordI_ok b2 hn24 t.length 0 200 [] (by omega) (by omega) (by simp)
  refine Ev.congr (fun k => ?_) (Ev.now _)
  rw [if_pos rfl, if_pos ⟨t39_all hv hn24, by omega⟩, b1, Option.bind_some]
  show ((ordI t.length bad 200 ((0 : Nat) : Int) []).bind _) = _
  rw [this]
  rfl
/-- Heights, cut at a depth. -/
def hh (t : List S39) : Nat → Int → Nat
 | 0, _ => 0
 | d + 1, i => if 4 ≤ (nd t i).f0 then 1 + max (hh t d (nd t i).f1) (hh t d (nd t i).f2) else 0
theorem hh_le (t : List S39) : ∀ d i, hh t d i ≤ d
 | 0, _ => Nat.le_refl _
 | d + 1, i => by
  have h1 := hh_le t d (nd t i).f1
  have h2 := hh_le t d (nd t i).f2
  unfold hh
  split <;> omega
theorem hh_fn {t : List S39} {i : Int} {x : Nat} (h : Fn t i x) : ∀ d, x ≤ d → hh t d i = x := by
 induction h with
 | leaf i hk =>
  intro d _
  cases d with
  | zero => rfl
  | succ d => exact if_neg hk
 | node i x y hk h1 h2 ih1 ih2 =>
  intro d hd
  cases d with
  | zero => omega
  | succ d =>
   unfold hh
   rw [if_pos hk, ih1 d (by omega), ih2 d (by omega)]
theorem hh_inf {t : List S39} : ∀ (d : Nat) (i : Int), (¬ ∃ x, Fn t i x) → hh t d i = d
 | 0, _, _ => rfl
 | d + 1, i, h => by
  have hk : 4 ≤ (nd t i).f0 := Classical.byContradiction (fun hk => h ⟨0, .leaf i hk⟩)
  have h1 := hh_le t d (nd t i).f1
  have h2 := hh_le t d (nd t i).f2
  unfold hh
  rw [if_pos hk]
  by_cases ha : ∃ x, Fn t (nd t i).f1 x
  ·by_cases hb : ∃ x, Fn t (nd t i).f2 x
   ·obtain ⟨x, hx⟩ := ha
    obtain ⟨y, hy⟩ := hb
    exact absurd ⟨_, .node i x y hk hx hy⟩ h
   ·have := hh_inf d _ hb
    omega
  ·have := hh_inf d _ ha
   omega
section
variable {t : List S39} (hv : ∀ i : Int, 0 ≤ i → i < t.length → okN t i) (hn : t.length ≤ 90)
include hv hn
def isH (t : List S39) (d : Nat) (xs : List Int) : Prop := xs.length = t.length ∧ ∀ i : Nat, i < t.length → rd xs (i : Int) = (hh t d i : Int)
theorem rd_int {d : Nat} {xs : List Int} (h : isH t d xs) {a : Int} (a0 : 0 ≤ a) (a1 : a < t.length) : rd xs a = (hh t d a : Int) := by
 have := h.2 a.toNat (by omega)
 rwa [Int.toNat_of_nonneg a0] at this
omit hv hn in
theorem rd_set (xs : List Int) (v : Int) {i j : Nat} (hi : i < xs.length) : rd (xs.set i v) (j : Int) = if j = i then v else rd xs (j : Int) := by
 unfold rd
 rw [Int.toNat_natCast, List.getD_eq_getElem?_getD, List.getD_eq_getElem?_getD]
 by_cases e : j = i
 ·rw [if_pos e, e, List.getElem?_set_self hi]
  rfl
 ·rw [if_neg e, List.getElem?_set_ne (fun h => e h.symm)]
theorem dep_l1 (x1 x2 : Int) {r : Nat} (hr : r ≤ 200) {xs : List Int} (h : isH t r xs) : ∀ (d i : Nat) (ys : List Int), i + d = t.length → ys.length = t.length → (∀ j : Nat, j < t.length → rd ys (j : Int) = if j < i then (hh t (r + 1) j : Int) else 0) →
  ∃ zs, isH t (r + 1) zs ∧ ∀ q, Ev (fun k => tickingref06_depth.l0 k t x1 x2 zs ((r + 1 : Nat) : Int)) q → Ev (fun k => tickingref06_depth.l1 k t x1 x2 xs (r : Int) ys (i : Int)) q
 | 0, i, ys, hd, hl, hy => by
  refine ⟨ys, ⟨hl, fun j hj => by rw [hy j hj, if_pos (by omega)]⟩, fun q hq => Ev.step (fun k => ?_) hq⟩
  have e := w64s (j := r) (by omega)
  simp only [tickingref06_depth.l1]
  rw [if_neg (by omega), e]
 | d + 1, i, ys, hd, hl, hy => by
  have hi : i < t.length := by omega
  obtain ⟨⟨k0, k1⟩, _, ⟨a0, a1⟩, ⟨b0, b1⟩⟩ := hv i (by omega) (by omega)
  have ea := rd_int hv hn h a0 a1
  have eb := rd_int hv hn h b0 b1
  have la := hh_le t r (nd t i).f1
  have lb := hh_le t r (nd t i).f2
  have a1' : (nd t i).f1 < (xs.length : Int) := by rw [h.1]; exact a1
  have b1' : (nd t i).f2 < (xs.length : Int) := by rw [h.1]; exact b1
  have hiy : (i : Int) < (ys.length : Int) := by rw [hl]; exact castlt hi
  have hw : wrap64 (1 + mx ((hh t r (nd t i).f1 : Nat) : Int) ((hh t r (nd t i).f2 : Nat) : Int)) = ((1 + max (hh t r (nd t i).f1) (hh t r (nd t i).f2) : Nat) : Int) := by
   have e1 : mx ((hh t r (nd t i).f1 : Nat) : Int) ((hh t r (nd t i).f2 : Nat) : Int) = ((max (hh t r (nd t i).f1) (hh t r (nd t i).f2) : Nat) : Int) := by unfold mx; split <;> omega
   rw [e1, w64 (by omega) (by omega)]
   omega
  by_cases hk : 4 ≤ (nd t i).f0
  ·obtain ⟨zs, z1, z2⟩ := dep_l1 x1 x2 hr h d (i + 1) (ys.set i ((1 + max (hh t r (nd t i).f1) (hh t r (nd t i).f2) : Nat) : Int)) (by omega) (by rw [List.length_set]; exact hl) (fun j hj => by
    rw [rd_set ys _ (by omega)]
    by_cases e : j = i
    ·rw [if_pos e, if_pos (by omega), e]
     show _ = ((if 4 ≤ (nd t i).f0 then 1 + max (hh t r (nd t i).f1) (hh t r (nd t i).f2) else 0 : Nat) : Int)
     rw [if_pos hk]
    ·rw [if_neg e, hy j hj]
     by_cases e2 : j < i
     ·rw [if_pos e2, if_pos (by omega)]
     ·rw [if_neg e2, if_neg (by omega)])
   refine ⟨zs, z1, fun q hq => Ev.step (f := fun k => tickingref06_depth.l1 k t x1 x2 xs (r : Int) (ys.set i ((1 + max (hh t r (nd t i).f1) (hh t r (nd t i).f2) : Nat) : Int)) ((i + 1 : Nat) : Int)) (fun k => ?_) (z2 q hq)⟩
   have e := w64s (j := i) (by omega)
   simp only [tickingref06_depth.l1]
   rw [if_pos (castlt hi), if_pos (cast0 _), if_pos (show (rd_T39 t i).f0 ≥ 4 from hk), if_pos a0, if_pos a1', if_pos b0, if_pos b1', if_pos hiy, ea, eb, hw, e, Int.toNat_natCast]
  ·obtain ⟨zs, z1, z2⟩ := dep_l1 x1 x2 hr h d (i + 1) ys (by omega) hl (fun j hj => by
    rw [hy j hj]
    by_cases e : j = i
    ·rw [if_neg (by omega), if_pos (by omega), e]
     show _ = ((if 4 ≤ (nd t i).f0 then 1 + max (hh t r (nd t i).f1) (hh t r (nd t i).f2) else 0 : Nat) : Int)
     rw [if_neg hk]
     rfl
    ·by_cases e2 : j < i
     ·rw [if_pos e2, if_pos (by omega)]
     ·rw [if_neg e2, if_neg (by omega)])
   refine ⟨zs, z1, fun q hq => Ev.step (f := fun k => tickingref06_depth.l1 k t x1 x2 xs (r : Int) ys ((i + 1 : Nat) : Int)) (fun k => ?_) (z2 q hq)⟩
   have e := w64s (j := i) (by omega)
   simp only [tickingref06_depth.l1]
   rw [if_pos (castlt hi), if_pos (cast0 _), if_neg (show ¬ (rd_T39 t i).f0 ≥ 4 from hk), e]
omit hv in
theorem zeros_rd (n : Nat) (j : Nat) (hj : j < n) : rd (List.replicate n (0 : Int)) (j : Int) = 0 := by
 unfold rd
 rw [Int.toNat_natCast, List.getD_eq_getElem?_getD, List.getElem?_replicate, if_pos hj]
 rfl
theorem dep_l0 {i : Int} (i0 : 0 ≤ i) (i1 : i < t.length) (m : Nat) (hm : m ≤ 100) : ∀ (d r : Nat) (xs : List Int), r + d = m + 1 → isH t r xs → Ev (fun k => tickingref06_depth.l0 k t i (m : Int) xs (r : Int)) ((hh t (m + 1) i : Int), decide ((hh t (m + 1) i : Int) ≤ (m : Int)))
 | 0, r, xs, h, hx => by
  have hr : r = m + 1 := by omega
  subst hr
  have e := rd_int hv hn hx i0 i1
  refine Ev.step (fun k => ?_) (Ev.now _)
  simp only [tickingref06_depth.l0]
  rw [if_neg (by omega), if_pos i0, if_pos (by rw [hx.1]; exact i1), e]
 | d + 1, r, xs, h, hx => by
  obtain ⟨zs, z1, z2⟩ := dep_l1 hv hn i m (r := r) (by omega) hx t.length 0 (List.replicate t.length 0) (by omega) (by simp) (fun j hj => by
   rw [zeros_rd hn t.length j hj, if_neg (by omega)])
  refine Ev.step (f := fun k => tickingref06_depth.l1 k t i m xs (r : Int) (List.replicate t.length 0) ((0 : Nat) : Int)) (fun k => ?_) (z2 _ (dep_l0 i0 i1 m hm d (r + 1) zs (by omega) z1))
  simp only [tickingref06_depth.l0]
  rw [if_pos (by omega), if_pos (cast0 _), if_pos (by rw [Int.toNat_natCast]; omega), Int.toNat_natCast]
  rfl
theorem refDepth_ev {i : Int} (i0 : 0 ≤ i) (i1 : i < t.length) : Ev (fun k => tickingref06_Depth.f k t i) ((hh t (t.length + 1) i : Int), decide ((hh t (t.length + 1) i : Int) ≤ (t.length : Int))) := by
 unfold tickingref06_Depth.f tickingref06_depth.f
 refine Ev.bind (f := fun k (b : Int × Bool) => some (b.1, b.2)) (Ev.congr (fun k => ?_) (dep_l0 hv hn i0 i1 t.length (by omega) (t.length + 1) 0 (List.replicate t.length 0) (by omega) ⟨by simp, fun j hj => by rw [zeros_rd hn t.length j hj]; rfl⟩)) (Ev.now _)
 rw [if_pos (cast0 _), if_pos (by rw [Int.toNat_natCast]; omega), Int.toNat_natCast]
 rfl
end
end Go.Proofs.Ytnfmeafiaipplaa.P

namespace Go.Proofs.Ytnfmeafiaipplaa.P
open Go.RowKit Go.Proofs.Ytnfmeafiaipplaa.S Go.Proofs.Ytnfmeafiaipplaa.Lib Go.Proofs.YtnfmeafiaipplaaW.PrintWords
set_option linter.unusedVariables false
set_option linter.unusedSectionVars false
theorem pairs_go (t : List S23) (hn : t.length ≤ 1000) : ∀ (d i : Nat), i + d = t.length → Ev (fun k => tickinglaw06_pairs.l0 k t t (i : Int)) true
 | 0, i, h => by
  refine Ev.step (fun k => ?_) (Ev.now true)
  simp only [tickinglaw06_pairs.l0]
  rw [if_neg (by omega)]
 | d + 1, i, h => by
  refine Ev.step (f := fun k => tickinglaw06_pairs.l0 k t t ((i + 1 : Nat) : Int)) (fun k => ?_) (pairs_go t hn d (i + 1) (by omega))
  have hlt := castlt (a := i) (b := t.length) (by omega)
  have e2 := w64s (j := i) (by omega)
  simp only [tickinglaw06_pairs.l0]
  rw [if_pos hlt, if_pos (cast0 _), if_pos hlt, e2, if_neg (by simp)]
theorem pairs_self (t : List S23) (hn : t.length ≤ 1000) : Ev (fun k => tickinglaw06_pairs.f k t t) true := by
 unfold tickinglaw06_pairs.f
 refine Ev.congr (fun k => ?_) (pairs_go t hn t.length 0 (by omega))
 rw [if_pos rfl]
 rfl
theorem Depth_bad {t : List S39} (hn : t.length ≤ 1000) {i : Int} (h : (tyB t 24 && inB t [i]) = false) : Ev (fun k => loops_Depth.f k t i) ((0 : Int), 2) := by
 unfold loops_Depth.f
 refine Ev.bind (f := fun k (ok : Bool) => if ok = true then (loops_onCycle.f t i).bind fun cy => if cy = true then some ((0 : Int), (6 : Int)) else (depF t 100 i t.length).bind fun d => some (d, (0 : Int)) else some ((0 : Int), (2 : Int))) (areNodes_ev hn [i]) ?_
 rw [h]
 exact Ev.now _
section
variable {t : List S39} (hv : ∀ i : Int, 0 ≤ i → i < t.length → okN t i) (hn : t.length ≤ 24) {sm : List Bool} (hs : sm.length = t.length * t.length) (hsm : ∀ i j : Nat, i < t.length → j < t.length → (tb t.length sm i j = true ↔ SubC t i j))
include hv hn hs hsm
theorem ord_l1 (x1 x6 x7 : Int) (L : List S23) (x9 : Int) {i : Nat} (hi : i < t.length) : ∀ (d j : Nat) (out : List S23), j + d = t.length → out.length + d ≤ 1000 → ∀ r, Ev (fun k => tickinglaw06_LoopsOrders.l0 k x1 t x6 x7 L x9 sm (out ++ rowP t i d j) ((i + 1 : Nat) : Int)) r → Ev (fun k => tickinglaw06_LoopsOrders.l1 k x1 t x6 x7 L x9 sm out (i : Int) (j : Int)) r
 | 0, j, out, h, hl, r, hr => by
  have e2 := w64s (j := i) (by omega)
  refine Ev.step (fun k => ?_) hr
  simp only [tickinglaw06_LoopsOrders.l1]
  rw [if_neg (by omega), e2, show rowP t i 0 j = [] from rfl, List.append_nil]
 | d + 1, j, out, h, hl, r, hr => by
  have hj : j < t.length := by omega
  have c2 := castlt hj
  have hlt := castlt (idx_lt hi hj)
  rw [← hs] at hlt
  have hob : out.length < 8796093022208 := by omega
  have hrow : rowP t i (d + 1) j = (if subB t i j = true ∧ i ≠ j then [⟨(i : Int), (j : Int)⟩] else []) ++ rowP t i d (j + 1) := by
   conv => lhs; unfold rowP
  have skip : ¬ (subB t i j = true ∧ i ≠ j) → Ev (fun k => tickinglaw06_LoopsOrders.l1 k x1 t x6 x7 L x9 sm out (i : Int) ((j + 1 : Nat) : Int)) r := fun c => by
   rw [hrow, if_neg c, List.nil_append] at hr
   exact ord_l1 x1 x6 x7 L x9 hi d (j + 1) out (by omega) (by omega) r hr
  have put : (subB t i j = true ∧ i ≠ j) → Ev (fun k => tickinglaw06_LoopsOrders.l1 k x1 t x6 x7 L x9 sm (out ++ [⟨(i : Int), (j : Int)⟩]) (i : Int) ((j + 1 : Nat) : Int)) r := fun c => by
   rw [hrow, if_pos c, ← List.append_assoc] at hr
   exact ord_l1 x1 x6 x7 L x9 hi d (j + 1) (out ++ [⟨(i : Int), (j : Int)⟩]) (by omega) (by simp; omega) r hr
  have e1 := ixw (n := t.length) (by omega) hi hj
  by_cases ce : i = j
  ·have ce' : (i : Int) = (j : Int) := by rw [ce]
   have e2 := w64s (j := j) (by omega)
   refine Ev.step (fun k => ?_) (skip (fun h => h.2 ce))
   simp only [tickinglaw06_LoopsOrders.l1]
   rw [if_pos c2, if_pos ce', e2]
  ·have ce' : ¬ (i : Int) = (j : Int) := by omega
   have e2 := w64s (j := j) (by omega)
   cases hb : subB t i j with
   | true =>
    have ht := (hsm i j hi hj).2 (subB_iff.1 hb)
    refine Ev.step (fun k => ?_) (put ⟨hb, ce⟩)
    simp only [tickinglaw06_LoopsOrders.l1]
    rw [if_pos c2, if_neg ce', e1, if_pos (cast0 _), if_pos hlt, rdOf_tb, ht, if_pos rfl, if_pos hob, e2]
   | false =>
    have ht : tb t.length sm i j = false := by
     cases e : tb t.length sm i j with
     | false => rfl
     | true => rw [subB_iff.2 ((hsm i j hi hj).1 e)] at hb; cases hb
    refine Ev.step (fun k => ?_) (skip (fun h => by rw [hb] at h; cases h.1))
    simp only [tickinglaw06_LoopsOrders.l1]
    rw [if_pos c2, if_neg ce', e1, if_pos (cast0 _), if_pos hlt, rdOf_tb, ht, if_neg (by decide), e2]
theorem ord_l0 (x1 x6 x7 : Int) (hw : Ev (fun k => tickinglaw06_LoopsOrders.j2 k x1 t x6 x7 false) true) : ∀ (d i : Nat) (out : List S23), i + d = t.length → out.length ≤ i * 24 → out ++ allO t d i = allO t t.length 0 → Ev (fun k => tickinglaw06_LoopsOrders.l0 k x1 t x6 x7 (allO t t.length 0) 0 sm out (i : Int)) true
 | 0, i, out, h, hl, ho => by
  have ho' : out = allO t t.length 0 := by rw [← ho]; simp [allO]
  subst ho'
  have hlen := allO_len t t.length 0
  have hsq : t.length * t.length ≤ 576 := Nat.mul_le_mul hn hn
  refine Ev.step (f := fun k => (tickinglaw06_pairs.f k (allO t t.length 0) (allO t t.length 0)).bind fun t445 => (if t445 = true then (tickinglaw06_LoopsOrders.j2 k x1 t x6 x7 ((0 : Int) != 0)) else (tickinglaw06_LoopsOrders.j2 k x1 t x6 x7 true))) (fun k => ?_) ?_
  ·simp only [tickinglaw06_LoopsOrders.l0]
   rw [if_neg (by omega)]
  ·refine Ev.bind (f := fun k (z : Bool) => _) (pairs_self _ (by omega)) ?_
   simp only [if_true]
   exact hw
 | d + 1, i, out, h, hl, ho => by
  have hlen := rowP_len t i t.length 0
  have ho2 : (out ++ rowP t i t.length 0) ++ allO t d (i + 1) = allO t t.length 0 := by
   rw [List.append_assoc, ← ho]
   congr 1
  have ih := ord_l0 x1 x6 x7 hw d (i + 1) (out ++ rowP t i t.length 0) (by omega) (by simp; omega) ho2
  refine Ev.step (f := fun k => tickinglaw06_LoopsOrders.l1 k x1 t x6 x7 (allO t t.length 0) 0 sm out (i : Int) ((0 : Nat) : Int)) (fun k => ?_) (ord_l1 hv hn hs hsm x1 x6 x7 _ 0 (by omega) t.length 0 out (by omega) (by omega) true ih)
  simp only [tickinglaw06_LoopsOrders.l0]
  rw [if_pos (by omega)]
  rfl
end
theorem LoopsOrders_ev (l : List S39) (a : Int) : Ev (fun k => tickinglaw06_LoopsOrders.f k l a) true := by
 unfold tickinglaw06_LoopsOrders.f
 have hlen := own_len l
 rw [own_eq]
 generalize l.take 25 = t at *
 have hn : t.length ≤ 1000 := by omega
 have hw : Ev (fun k => (tickinglaw06_awake.f k).bind fun z => some z) true := Ev.congr (fun k => by cases tickinglaw06_awake.f k <;> rfl) awake_ev
 simp only [Option.bind_some]
 cases hT : tyB t 24 with
 | false =>
  have e2 := Order_ev hn
  rw [hT, if_neg (by decide)] at e2
  have e3 := Types_ev hn 24
  rw [hT] at e3
  refine Ev.bind (f := fun k (z : Int × Int) => _) (Depth_bad hn (i := a) (by rw [hT]; rfl)) ?_
  refine Ev.bind (f := fun k (z : List S23 × Int) => _) e2 ?_
  refine Ev.bind (f := fun k (z : Bool) => _) e3 ?_
  simp only [Bool.false_eq_true, if_false, if_true]
  refine Ev.congr (fun k => ?_) hw
  rw [show ((([] : List S23).length : Nat) : Int) = 0 from rfl, if_pos rfl]
 | true =>
  obtain ⟨⟨t1, hv⟩, hl⟩ := tyB_iff.1 hT
  have hn24 : t.length ≤ 24 := by omega
  have e2 := Order_ev hn
  rw [hT, if_pos rfl] at e2
  have e3 := Types_ev hn 24
  rw [hT] at e3
  obtain ⟨sm, s1, s2, s3⟩ := Subtypes_ev hv hn
  have fin : ∀ d c : Int, Ev (fun k => loops_Depth.f k t a) (d, c) → Ev (fun k => tickinglaw06_LoopsOrders.j2 k a t d c false) true → Ev (fun k => (loops_Depth.f k t a).bind fun bt430 => ((loops_Order.f k t).bind fun bt432 => ((tickingref06_Types.f k t 24).bind fun t436 => (if t436 = true then ((tickingref06_Subtypes.f k t).bind fun t438 => (tickinglaw06_LoopsOrders.l0 k a t bt430.1 bt430.2 bt432.1 bt432.2 t438 ([] : List (S23)) 0)) else (if bt430.1 = 0 then (if bt430.2 = 2 then (if (bt432.1.length : Int) = 0 then (if bt432.2 = 2 then ((tickinglaw06_awake.f k).bind fun t437 => (some t437)) else (some false)) else (some false)) else (some false)) else (some false)))))) true := fun d c h1 h2 => by
   refine Ev.bind (f := fun k (z : Int × Int) => _) h1 ?_
   refine Ev.bind (f := fun k (z : List S23 × Int) => _) e2 ?_
   refine Ev.bind (f := fun k (z : Bool) => _) e3 ?_
   simp only [if_true]
   refine Ev.bind (f := fun k (z : List Bool) => _) s1 ?_
   exact ord_l0 hv hn24 s2 s3 a d c h2 t.length 0 [] (by omega) (by simp) (by simp)
  have hbad := bad_ev hn a a
  have haa : inB t [a, a] = inB t [a] := by simp [inB]
  rw [hT, haa, Bool.true_and] at hbad
  have j2 : ∀ d c : Int, Ev (fun k => (tickinglaw06_bad.f k t a a).bind fun t446 => (if t446 = true then (if d = 0 then (if c = 2 then ((tickinglaw06_awake.f k).bind fun t447 => (some t447)) else (some false)) else (some false)) else ((tickingref06_Depth.f k t a).bind fun bt448 => (if bt448.2 = true then (if d = bt448.1 then (if c = 0 then ((tickinglaw06_awake.f k).bind fun t450 => (some t450)) else (some false)) else (some false)) else (if d = 0 then (if c = 6 then ((tickinglaw06_awake.f k).bind fun t451 => (some t451)) else (some false)) else (some false)))))) true → Ev (fun k => tickinglaw06_LoopsOrders.j2 k a t d c false) true := fun d c h => Ev.step (fun k => by
   simp only [tickinglaw06_LoopsOrders.j2]
   rw [if_neg (by decide)]) h
  cases hA : inB t [a] with
  | false =>
   rw [hA] at hbad
   refine fin 0 2 (Depth_bad hn (by rw [hT, hA]; rfl)) ?_
   refine j2 0 2 ?_
   refine Ev.bind (f := fun k (z : Bool) => _) hbad ?_
   simp only [Bool.not_false, if_true]
   exact hw
  | true =>
   obtain ⟨a0, a1⟩ := inB_one.1 hA
   rw [hA] at hbad
   have hrd := refDepth_ev hv (by omega) a0 a1
   by_cases hf : ∃ x, Fn t a x
   ·obtain ⟨x, hx⟩ := hf
    have hlt := fn_lt hv (by omega) hx a0 a1
    rw [hh_fn hx _ (by omega), decide_eq_true (show (x : Int) ≤ (t.length : Int) by omega)] at hrd
    refine fin x 0 (Depth_fin hT a0 a1 hx) (j2 x 0 ?_)
    refine Ev.bind (f := fun k (z : Bool) => _) hbad ?_
    simp only [Bool.not_true, Bool.false_eq_true, if_false]
    refine Ev.bind (f := fun k (z : Int × Bool) => _) hrd ?_
    simp only [if_true]
    exact hw
   ·rw [hh_inf _ _ hf, decide_eq_false (show ¬ ((t.length + 1 : Nat) : Int) ≤ (t.length : Int) by omega)] at hrd
    refine fin 0 6 (Depth_inf hT a0 a1 hf) (j2 0 6 ?_)
    refine Ev.bind (f := fun k (z : Bool) => _) hbad ?_
    simp only [Bool.not_true, Bool.false_eq_true, if_false]
    refine Ev.bind (f := fun k (z : Int × Bool) => _) hrd ?_
    simp only [Bool.false_eq_true, if_false, if_true]
    exact hw
theorem LoopsOrders (l : List S39) (a : Int) : ∃ k, tickinglaw06_LoopsOrders.f k l a = some true := (LoopsOrders_ev l a).rounds
end Go.Proofs.Ytnfmeafiaipplaa.P

namespace Go.Proofs.Ytnfmeafiaipplaa.Open
instance : Inhabited Go.Proofs.Ytnfmeafiaipplaa.S.S39 := ⟨⟨0, 0, 0⟩⟩
open Go.ChangeShapes Go.WideShapes Go.ChangeAt Go.RowKit
open Go.Proofs.Ytnfmeafiaipplaa.S Go.Proofs.Ytnfmeafiaipplaa.Lib Go.Proofs.YtnfmeafiaipplaaW.PrintWords Go.Proofs.YtnfmeafiaipplaaW.PrintLast Go.Proofs.YtnfmeafiaipplaaW.PrintMore
set_option linter.unusedVariables false
set_option maxRecDepth 100000

theorem add_add (a : Addr) (i j : Nat) : (a.add i).add j = a.add (i + j) := by
 unfold Addr.add
 by_cases hi : i = 0
 ·subst hi
  simp
 ·by_cases hj : j = 0
  ·subst hj
   simp [hi]
  ·simp [hi, hj, Nat.add_assoc]
theorem cells3 : Try.prog.cellsOf 39 = 3 := by kernel_rfl
theorem cells1 : Try.prog.cellsOf 3 = 1 := by kernel_rfl
section
variable {H : Type} {enc : TypeId × Value → H} {W : World} {base : Nat} {spare : Nat → Bool} {held : Bool}
/-- A node's cells. -/
theorem open_node {fuel : Nat} {cs : List Value} {x : DataW H × List MemPlace} (h : DataW.trod enc Try.prog W base spare held fuel 39 cs = some x) : ∃ n : S39, cs = [.int .i64 n.f0, .int .i64 n.f1, .int .i64 n.f2] := by
 obtain ⟨xs, n, _, _, hl, hxl, hf⟩ := DataW.trod_struct Try.underlying39 h
 rw [cells3] at hl
 obtain ⟨c0, c1, c2, rfl⟩ : ∃ c0 c1 c2, cs = [c0, c1, c2] := by
  match cs, hl with
  | [a, b, c], _ => exact ⟨a, b, c, rfl⟩
 have f0 : DataW.trod enc Try.prog W base spare held n 3 (([c0, c1, c2].drop 0).take (Try.prog.cellsOf 3)) = xs[0]? := hf 0 _ rfl
 have f1 : DataW.trod enc Try.prog W base spare held n 3 (([c0, c1, c2].drop 1).take (Try.prog.cellsOf 3)) = xs[1]? := hf 1 _ rfl
 have f2 : DataW.trod enc Try.prog W base spare held n 3 (([c0, c1, c2].drop 2).take (Try.prog.cellsOf 3)) = xs[2]? := hf 2 _ rfl
 rw [cells1] at f0 f1 f2
 have hxl3 : xs.length = 3 := hxl
 rw [List.getElem?_eq_getElem (by omega)] at f0 f1 f2
 obtain ⟨n0, h0, _⟩ := DataW.trod_int Try.underlying3 f0
 obtain ⟨n1, h1, _⟩ := DataW.trod_int Try.underlying3 f1
 obtain ⟨n2, h2, _⟩ := DataW.trod_int Try.underlying3 f2
 refine ⟨⟨n0, n1, n2⟩, ?_⟩
 simp at h0 h1 h2
 rw [h0, h1, h2]
theorem open_types {a : Option Addr} {len cap : Nat} {d : DataW H} {ps : List MemPlace} (h : DataW.Trod enc Try.prog W base spare held 22 (.slice a len cap) d ps) :
  ∃ zs : List S39, zs.length = len ∧ Kd.C k39 W a zs.length zs ∧ zs.length ≤ cap := by
 obtain ⟨fuel, hf⟩ := h
 rcases Go.Deep.open_slice Try.underlying22 hf with ⟨hcs, _⟩ | ⟨x, l, c, m, n, D, Pl, hcs, _, hl, hm, hmm, _, hx⟩
 ·simp [Value.cells] at hcs
  obtain ⟨rfl, rfl, rfl⟩ := hcs
  exact ⟨[], rfl, ⟨rfl, by simp, fun hp => absurd hp (by simp)⟩, by simp⟩
 ·simp [Value.cells] at hcs
  obtain ⟨rfl, rfl, rfl⟩ := hcs
  have hlm : len ≤ m := by rw [hmm]; split <;> omega
  obtain ⟨Z, hZ⟩ := Go.Deep.choose_lt (α := S39) (n := len) (p := fun i z => ∀ j u, [Value.int .i64 z.f0, .int .i64 z.f1, .int .i64 z.f2][j]? = some u → W.cell? (x.add (i * 3 + j)) = some u) (fun i hi => by
   obtain ⟨cs', h1, h2⟩ := hx i (by omega)
   obtain ⟨z, rfl⟩ := open_node h2
   obtain ⟨_, _, h3⟩ := World.cells?_some h1
   rw [cells3] at h3
   refine ⟨z, fun j u hu => ?_⟩
   have hj : j < 3 := by
    have := (List.getElem?_eq_some_iff.1 hu).1
    simpa using this
   rw [← add_add, h3 j hj, hu])
  have hml : len ≤ 9223372036854775807 := by simp only [maxLen] at hm; omega
  refine ⟨(List.range len).map Z, by simp, ⟨by simp, by simpa using hml, fun _ => ⟨x, rfl, fun j p hj => ?_⟩⟩, by simpa using hl⟩
  obtain ⟨hj1, hj2⟩ := List.getElem?_eq_some_iff.1 hj
  simp at hj1 hj2
  refine ⟨_, rfl, k39_mk W p, fun i u hu => ?_⟩
  rw [← hj2] at hu
  exact hZ j hj1 i u hu
end
end Go.Proofs.Ytnfmeafiaipplaa.Open
