-- Written by wip/bundle2.py: texts of this claim, one behind the other.
import Derived.Test.YtnfmeafiaipplaaBLoopsSubs4
import Derived.RowKit
import Derived.Test.YtnfmeafiaipplaaVLoopsSubsWords
import Derived.KernelRfl
import Derived.WalkKit
import Derived.ProofKit
import Derived.OpenShut
import Derived.ShutString
import Derived.ChangeOld
import Derived.Below
import Derived.SizedLaws
import Derived.Deep.Slices
import Derived.Laws.IdiomArrays
set_option linter.unusedVariables false
set_option linter.unusedSimpArgs false

namespace Go.Proofs.Ytnfmeafiaipplaa.S
open Go.Proofs.Ytnfmeafiaipplaa.Lib
open Go.Maps (Keyed)
open Go.RowKit Go.Proofs.YtnfmeafiaipplaaW.PrintWords Go.Proofs.YtnfmeafiaipplaaW.PrintLast Go.Proofs.YtnfmeafiaipplaaW.PrintMore
attribute [local go_sem] max2_int min2_int max_two min_two max_three min_three max_four min_four
set_option linter.unusedVariables false
set_option linter.unusedSimpArgs false

def loops_Check.j0 : Nat → List (S39) → Bool → Bool → List (S23) → ByteArray → Int → Int → Option (Int)
 | 0, _, _, _, _, _, _, _ => none
 | k + 1, x0, x10, x518000, x518001, x518002, x523000, x523001 => if x518000 = true then (if x10 = true then (some 0) else (some 10)) else (if (x518001.length : Int) = 0 then ((loops_refutes.f x0 x518002 x523000 x523001).bind fun t524 => (if t524 = true then (some 0) else (some 10))) else (some 10))
def loops_Check.f (k : Nat) (l0 : List (S39)) (a1 : Int) (a2 : Int) (a3_0 : Bool) (l3_1 : List (S23)) (a3_2 : ByteArray) : Option (Int) := (loops_areNodes.f k l0 (([a1, a2] : List Int))).bind fun t521 => (if t521 = true then (if a3_2.toList = ([] : List UInt8) then ((loops_isClosed.f l0 l3_1 a1 a2).bind fun t523 => (loops_Check.j0 k l0 t523 a3_0 l3_1 a3_2 a1 a2)) else (loops_Check.j0 k l0 false a3_0 l3_1 a3_2 a1 a2)) else (some 2))
set_option maxHeartbeats 8000000 in
set_option maxRecDepth 100000 in
theorem loops_Check.calls (k : Nat) (A0 : Option Addr) (c0 : Nat) (l0 : List (S39)) (a1 : Int) (a2 : Int) (a3_0 : Bool) (A3_1 : Option Addr) (c3_1 : Nat) (l3_1 : List (S23)) (a3_2 : ByteArray) (r : Int) (w : World) (hr0 : Kd.C k39 w A0 l0.length l0) (hc0 : l0.length ≤ c0) (hr3_1 : Kd.C k23 w A3_1 l3_1.length l3_1) (hc3_1 : l3_1.length ≤ c3_1) (h : loops_Check.f k l0 a1 a2 a3_0 l3_1 a3_2 = some r) :
  Calls Try.prog 35 #[.slice A0 l0.length c0, .int .i64 a1, .int .i64 a2, .agg #[.bool a3_0, .slice A3_1 l3_1.length c3_1, .string a3_2]] w fun e w' => e = .returned (.int .i64 r) ∧ Below w.heap.size w w' := by
 have hu55 := Try.underlying55
 have hu23 := Try.underlying23
 have HR0 := Aside0.mk hr0
 have HC0 := Aside0.mk hc0
 clear hr0 hc0
 have HR3_1 := Aside0.mk hr3_1
 have HC3_1 := Aside0.mk hc3_1
 clear hr3_1 hc3_1
 have HB := Aside0.mk (Below.refl w.heap.size w)
 have H : ((loops_areNodes.f k l0 (([a1, a2] : List Int))).bind fun t521 => (if t521 = true then (if a3_2.toList = ([] : List UInt8) then ((loops_isClosed.f l0 l3_1 a1 a2).bind fun t523 => (loops_Check.j0 k l0 t523 a3_0 l3_1 a3_2 a1 a2)) else (loops_Check.j0 k l0 false a3_0 l3_1 a3_2 a1 a2)) else (some 2))) = some r := h
 clear h
 obtain ⟨y518, hy518⟩ : ∃ y_ : List Int, y_ = (([a1, a2] : List Int)) := ⟨_, rfl⟩
 replace H : ((loops_areNodes.f k l0 y518).bind fun t521 => (if t521 = true then (if a3_2.toList = ([] : List UInt8) then ((loops_isClosed.f l0 l3_1 a1 a2).bind fun t523 => (loops_Check.j0 k l0 t523 a3_0 l3_1 a3_2 a1 a2)) else (loops_Check.j0 k l0 false a3_0 l3_1 a3_2 a1 a2)) else (some 2))) = some r := by first | (rw [hy518]; with_reducible exact H) | (have H2_ := (Option.bind_some _ _).symm.trans H; rw [hy518]; with_reducible exact H2_) | (have H2_ := (Option.bind_some _ _).symm.trans H; with_reducible exact H2_) | with_reducible exact H | (rw [hy518]; exact H) | exact H
 have Ny518 := Aside0.mk hy518
 clear hy518
 replace H := Option.bind_eq_some_iff.mp H
 obtain ⟨t521, A50, H⟩ := H
 replace H : (if t521 = true then (if a3_2.toList = ([] : List UInt8) then ((loops_isClosed.f l0 l3_1 a1 a2).bind fun t523 => (loops_Check.j0 k l0 t523 a3_0 l3_1 a3_2 a1 a2)) else (loops_Check.j0 k l0 false a3_0 l3_1 a3_2 a1 a2)) else (some 2)) = some r := H
 have A5 := Aside0.mk A50
 clear A50
 by_cases c6 : t521 = true
 rotate_left
 ·replace c6 := Bool.eq_false_iff.mpr c6
  subst c6
  have H1 : (some 2) = some r := by rw [if_neg (show ¬ (false = true) by decide)] at H; exact H
  clear H
  have H := H1
  clear H1
  obtain rfl := Option.some.inj H
  go_enter Try.func35, Try.ntmps35
  go_wp2_with (first | ((with_reducible refine gate_dst (N := 7) rfl ?_); refine box_event ?hg (N := 7) ?hd (cs := #[.bool a3_0, .slice A3_1 l3_1.length c3_1, .string a3_2]) (t := 55) ?hr ?_; (case hd => rfl); (case hg => rfl); (case hr => first | (go_simp; done) | (go_simp; rfl)); intro gb517 hg w43 hbox hb; have n0_ := Aside0.mk (below_step (by repeat (first | (with_reducible first | exact HB.out | apply below_alloc | apply pw_below_drewN | apply below_drew1) | exact HB.out)) hb); have n1_ := Aside0.mk (hbox); have n2_ := Aside0.mk ((by rw [hg]; exact (below_size (by repeat (first | (with_reducible first | exact HB.out | apply below_alloc | apply pw_below_drewN | apply below_drew1) | exact HB.out))) : w.heap.size ≤ gb517)); have n3_ := Aside0.mk ((by rw [hg]; exact (below_size (by repeat (first | (with_reducible first | exact HB.out | apply below_alloc | apply pw_below_drewN | apply below_drew1) | exact HB.out))) : w.heap.size ≤ gb517)); clear HB; have HB := n0_; have BK517 := n1_; have GW517 := n2_; have GE517 := n3_; clear n0_ n1_ n2_ n3_; clear hb hbox hg) | ((with_reducible refine gate_dst (N := 14) rfl ?_); refine Kd.R_lit (Kd.int .i64) _ 3 ?hg (N := 14) ?hd (xs := ([a1, a2] : List Int)) (inner := [.int .i64 a1, .int .i64 a2]) (ok := fun _ => True) (okp := fun _ => True) ?hr ?hp (fun _ hk => hk) trivial (Below.refl _ _) (Nat.le_refl _) (by simp) ?_; (case hd => rfl); (case hg => rfl); (case hr => first | (go_simp; done) | (go_simp; rfl)); (case hp => exact (Reps.one (show Kd.M (Kd.int .i64) _ _ _ a1 [.int .i64 a1] from rfl) (Reps.one (show Kd.M (Kd.int .i64) _ _ _ a2 [.int .i64 a2] from rfl) (Reps.none _ _)))); intro v519 w44 ho45 hb hg_ hnew_; clear hg_ hnew_; (first | rw [← Ny518.out] at ho45 | (simp only [Int.reduceToNat] at ho45; rw [← Ny518.out] at ho45)); have n0_ := Aside0.mk (Kd.R_lower ho45 (below_size (by repeat (first | (with_reducible first | exact HB.out | apply below_alloc | apply pw_below_drewN | apply below_drew1 | refine below_set ?_ GE517.out) | exact HB.out)))); have n1_ := Aside0.mk (blk_below (g := gb517) (o := .cells #[.bool a3_0, .slice A3_1 l3_1.length c3_1, .string a3_2] 55 (0, 0)) (by (with_reducible repeat (first | refine blk_drewN ?_ _ | refine blk_drew ?_ | refine blk_alloc ?_ _)); exact BK517.out) hb); have n2_ := Aside0.mk (below_step (by repeat (first | (with_reducible first | exact HB.out | apply below_alloc | apply pw_below_drewN | apply below_drew1 | refine below_set ?_ GE517.out) | exact HB.out)) hb); clear BK517; clear HB; have HO520 := n0_; have BK517 := n1_; have HB := n2_; clear n0_ n1_ n2_; clear hb ho45; obtain ⟨Ao46, co46, eo46⟩ := Kd.R_slice HO520.out; subst eo46) | ((with_reducible refine gate_callee (f := 40) rfl ?_); refine goesL_ (some 15) rfl rfl Try.func40 (by kernel_rfl) rfl #[.slice A0 l0.length c0, .slice Ao46 y518.length co46] rfl (by (try simp only [List.map_toArray, List.map_cons, List.map_nil]); first | done | rfl | (simp only [List.length_drop, List.length_take]; rfl)) ?_; (with_reducible refine (loops_areNodes.calls k _ _ l0 _ _ y518 false _ ?side1 ?side2 ?side3 ?side4 A5.out).mono ?_); (case side1 => repeat (first | exact (Kd.C_below HR0.out HB.out) | (with_reducible refine Kd.C_alloc ?_ _) | (with_reducible refine Kd.C_drewN ?_ _) | (with_reducible refine Kd.C_drew ?_))); (case side2 => exact HC0.out); (case side3 => repeat (first | exact (Kd.R_reads' HO520.out).2.2 | (with_reducible refine Kd.C_alloc ?_ _) | (with_reducible refine Kd.C_drewN ?_ _) | (with_reducible refine Kd.C_drew ?_))); (case side4 => exact (Kd.R_reads' HO520.out).2.1); rintro e w47 ⟨rfl, hb⟩; refine ⟨_, rfl, ?_⟩; have n0_ := Aside0.mk (Kd.R_below (by (with_reducible repeat (first | apply Kd.R_alloc | apply Kd.R_drewN | apply Kd.R_drew)); exact HO520.out) hb); have n1_ := Aside0.mk (blk_below (g := gb517) (o := .cells #[.bool a3_0, .slice A3_1 l3_1.length c3_1, .string a3_2] 55 (0, 0)) (by (with_reducible repeat (first | refine blk_drewN ?_ _ | refine blk_drew ?_ | refine blk_alloc ?_ _)); exact BK517.out) hb); have n2_ := Aside0.mk (below_step (by repeat (first | (with_reducible first | exact HB.out | apply below_alloc | apply pw_below_drewN | apply below_drew1 | refine below_set ?_ GE517.out) | exact HB.out)) hb); clear HO520; clear BK517; clear HB; have HO520 := n0_; have BK517 := n1_; have HB := n2_; clear n0_ n1_ n2_; (try clear hb); (try clear hb2); (try clear hk); (try clear hi)))
  go_ret
  exact ⟨by first | rfl | (simp [errW_none, errW_some] <;> rfl) | (simp [*, errW_none, errW_some] <;> rfl), by repeat (first | (with_reducible first | exact HB.out | apply below_alloc | apply pw_below_drewN | apply below_drew1 | refine below_set ?_ GE517.out) | exact HB.out)⟩
 subst c6
 have H1 : (if a3_2.toList = ([] : List UInt8) then ((loops_isClosed.f l0 l3_1 a1 a2).bind fun t523 => (loops_Check.j0 k l0 t523 a3_0 l3_1 a3_2 a1 a2)) else (loops_Check.j0 k l0 false a3_0 l3_1 a3_2 a1 a2)) = some r := by rw [if_pos rfl] at H; exact H
 clear H
 have H := H1
 clear H1
 have HC7 := Aside0.mk H
 clear H
 go_enter Try.func35, Try.ntmps35
 go_upto_region 4 with (first | ((with_reducible refine gate_dst (N := 7) rfl ?_); refine box_event ?hg (N := 7) ?hd (cs := #[.bool a3_0, .slice A3_1 l3_1.length c3_1, .string a3_2]) (t := 55) ?hr ?_; (case hd => rfl); (case hg => rfl); (case hr => first | (go_simp; done) | (go_simp; rfl)); intro gb517 hg w8 hbox hb; have n0_ := Aside0.mk (below_step (by repeat (first | (with_reducible first | exact HB.out | apply below_alloc | apply pw_below_drewN | apply below_drew1) | exact HB.out)) hb); have n1_ := Aside0.mk (hbox); have n2_ := Aside0.mk ((by rw [hg]; exact (below_size (by repeat (first | (with_reducible first | exact HB.out | apply below_alloc | apply pw_below_drewN | apply below_drew1) | exact HB.out))) : w.heap.size ≤ gb517)); have n3_ := Aside0.mk ((by rw [hg]; exact (below_size (by repeat (first | (with_reducible first | exact HB.out | apply below_alloc | apply pw_below_drewN | apply below_drew1) | exact HB.out))) : w.heap.size ≤ gb517)); clear HB; have HB := n0_; have BK517 := n1_; have GW517 := n2_; have GE517 := n3_; clear n0_ n1_ n2_ n3_; clear hb hbox hg) | ((with_reducible refine gate_dst (N := 14) rfl ?_); refine Kd.R_lit (Kd.int .i64) _ 3 ?hg (N := 14) ?hd (xs := ([a1, a2] : List Int)) (inner := [.int .i64 a1, .int .i64 a2]) (ok := fun _ => True) (okp := fun _ => True) ?hr ?hp (fun _ hk => hk) trivial (Below.refl _ _) (Nat.le_refl _) (by simp) ?_; (case hd => rfl); (case hg => rfl); (case hr => first | (go_simp; done) | (go_simp; rfl)); (case hp => exact (Reps.one (show Kd.M (Kd.int .i64) _ _ _ a1 [.int .i64 a1] from rfl) (Reps.one (show Kd.M (Kd.int .i64) _ _ _ a2 [.int .i64 a2] from rfl) (Reps.none _ _)))); intro v519 w9 ho10 hb hg_ hnew_; clear hg_ hnew_; (first | rw [← Ny518.out] at ho10 | (simp only [Int.reduceToNat] at ho10; rw [← Ny518.out] at ho10)); have n0_ := Aside0.mk (Kd.R_lower ho10 (below_size (by repeat (first | (with_reducible first | exact HB.out | apply below_alloc | apply pw_below_drewN | apply below_drew1 | refine below_set ?_ GE517.out) | exact HB.out)))); have n1_ := Aside0.mk (blk_below (g := gb517) (o := .cells #[.bool a3_0, .slice A3_1 l3_1.length c3_1, .string a3_2] 55 (0, 0)) (by (with_reducible repeat (first | refine blk_drewN ?_ _ | refine blk_drew ?_ | refine blk_alloc ?_ _)); exact BK517.out) hb); have n2_ := Aside0.mk (below_step (by repeat (first | (with_reducible first | exact HB.out | apply below_alloc | apply pw_below_drewN | apply below_drew1 | refine below_set ?_ GE517.out) | exact HB.out)) hb); clear BK517; clear HB; have HO520 := n0_; have BK517 := n1_; have HB := n2_; clear n0_ n1_ n2_; clear hb ho10; obtain ⟨Ao11, co11, eo11⟩ := Kd.R_slice HO520.out; subst eo11) | ((with_reducible refine gate_callee (f := 40) rfl ?_); refine goesL_ (some 15) rfl rfl Try.func40 (by kernel_rfl) rfl #[.slice A0 l0.length c0, .slice Ao11 y518.length co11] rfl (by (try simp only [List.map_toArray, List.map_cons, List.map_nil]); first | done | rfl | (simp only [List.length_drop, List.length_take]; rfl)) ?_; (with_reducible refine (loops_areNodes.calls k _ _ l0 _ _ y518 true _ ?side1 ?side2 ?side3 ?side4 A5.out).mono ?_); (case side1 => repeat (first | exact (Kd.C_below HR0.out HB.out) | (with_reducible refine Kd.C_alloc ?_ _) | (with_reducible refine Kd.C_drewN ?_ _) | (with_reducible refine Kd.C_drew ?_))); (case side2 => exact HC0.out); (case side3 => repeat (first | exact (Kd.R_reads' HO520.out).2.2 | (with_reducible refine Kd.C_alloc ?_ _) | (with_reducible refine Kd.C_drewN ?_ _) | (with_reducible refine Kd.C_drew ?_))); (case side4 => exact (Kd.R_reads' HO520.out).2.1); rintro e w12 ⟨rfl, hb⟩; refine ⟨_, rfl, ?_⟩; have n0_ := Aside0.mk (Kd.R_below (by (with_reducible repeat (first | apply Kd.R_alloc | apply Kd.R_drewN | apply Kd.R_drew)); exact HO520.out) hb); have n1_ := Aside0.mk (blk_below (g := gb517) (o := .cells #[.bool a3_0, .slice A3_1 l3_1.length c3_1, .string a3_2] 55 (0, 0)) (by (with_reducible repeat (first | refine blk_drewN ?_ _ | refine blk_drew ?_ | refine blk_alloc ?_ _)); exact BK517.out) hb); have n2_ := Aside0.mk (below_step (by repeat (first | (with_reducible first | exact HB.out | apply below_alloc | apply pw_below_drewN | apply below_drew1 | refine below_set ?_ GE517.out) | exact HB.out)) hb); clear HO520; clear BK517; clear HB; have HO520 := n0_; have BK517 := n1_; have HB := n2_; clear n0_ n1_ n2_; (try clear hb); (try clear hb2); (try clear hk); (try clear hi)) | ((with_reducible refine gate_dst (N := 9) rfl ?_); refine box_event ?hg (N := 9) ?hd (cs := #[.int .i64 0, .int .i64 0]) (t := 23) ?hr ?_; (case hd => rfl); (case hg => rfl); (case hr => first | (go_simp; done) | (go_simp; rfl)); intro gb522 hg w13 hbox hb; have n0_ := Aside0.mk (Kd.R_below (by (with_reducible repeat (first | apply Kd.R_alloc | apply Kd.R_drewN | apply Kd.R_drew)); exact HO520.out) hb); have n1_ := Aside0.mk (blk_below (g := gb517) (o := .cells #[.bool a3_0, .slice A3_1 l3_1.length c3_1, .string a3_2] 55 (0, 0)) (by (with_reducible repeat (first | refine blk_drewN ?_ _ | refine blk_drew ?_ | refine blk_alloc ?_ _)); exact BK517.out) hb); have n2_ := Aside0.mk (below_step (by repeat (first | (with_reducible first | exact HB.out | apply below_alloc | apply pw_below_drewN | apply below_drew1 | refine below_set ?_ GE517.out) | exact HB.out)) hb); have n3_ := Aside0.mk (hbox); have n4_ := Aside0.mk ((by rw [hg]; exact (below_size (by repeat (first | (with_reducible first | exact HB.out | apply below_alloc | apply pw_below_drewN | apply below_drew1 | refine below_set ?_ GE517.out) | exact HB.out))) : w.heap.size ≤ gb522)); have n5_ := Aside0.mk ((by rw [hg]; exact (below_size (by repeat (first | (with_reducible first | exact HB.out | apply below_alloc | apply pw_below_drewN | apply below_drew1 | refine below_set ?_ GE517.out) | exact HB.out))) : w.heap.size ≤ gb522)); have n6_ := Aside0.mk ((by rw [hg]; exact Nat.ne_of_lt (blk_lt (g := gb517) (o := .cells #[.bool a3_0, .slice A3_1 l3_1.length c3_1, .string a3_2] 55 (0, 0)) (by (with_reducible repeat (first | refine blk_drewN ?_ _ | refine blk_drew ?_ | refine blk_alloc ?_ _)); exact BK517.out)) : gb517 ≠ gb522)); have n7_ := Aside0.mk ((by rw [hg]; exact Nat.ne_of_gt (blk_lt (g := gb517) (o := .cells #[.bool a3_0, .slice A3_1 l3_1.length c3_1, .string a3_2] 55 (0, 0)) (by (with_reducible repeat (first | refine blk_drewN ?_ _ | refine blk_drew ?_ | refine blk_alloc ?_ _)); exact BK517.out)) : gb522 ≠ gb517)); clear HO520; clear BK517; clear HB; have HO520 := n0_; have BK517 := n1_; have HB := n2_; have BK522 := n3_; have GW522 := n4_; have GE522 := n5_; have NB517_522 := n6_; have NB522_517 := n7_; clear n0_ n1_ n2_ n3_ n4_ n5_ n6_ n7_; clear hb hbox hg; have hnb14 := NB522_517.out; have hnc14 := NB517_522.out; have hcz15_0 : w13.cell? ⟨gb522, 0, none⟩ = some (.int .i64 0) := (blk_cell BK522.out 0).trans rfl; have hcz15_1 : w13.cell? ⟨gb522, 1, none⟩ = some (.int .i64 0) := (blk_cell BK522.out 1).trans rfl; have hfz15_0 := blk_frozen BK522.out 0; have hfz15_1 := blk_frozen BK522.out 1))
 (try simp only [Act.put, List.setIfInBounds_toArray, List.set_cons_zero, List.set_cons_succ])
 go_cut [10] (fun v10 wc => ∃ (kq : Nat) (x10_6 : Bool), v10 = .bool x10_6 ∧ Aside0 (loops_Check.j0 kq l0 x10_6 a3_0 l3_1 a3_2 a1 a2 = some r) ∧ Aside0 (kq ≤ k) ∧ Aside0 (wc.heap[gb517]? = some (.cells #[.bool a3_0, (.slice A3_1 l3_1.length c3_1), .string a3_2] 55 (0, 0))) ∧ Aside0 (wc.heap[gb522]? = some (.cells #[.int .i64 a1, .int .i64 a2] 23 (0, 0))) ∧ Aside0 (Below w.heap.size w wc))
 case first =>
  have H := HC7.out
  clear HC7
  by_cases c16 : a3_2.toList = ([] : List UInt8)
  rotate_left
  ·rw [if_neg c16] at H
   have c16b0 : (a3_2.toList == ([] : List UInt8)) = false := beq_eq_false_iff_ne.mpr c16
   have c16b1 : (a3_2.toList != ([] : List UInt8)) = true := bne_iff_ne.mpr c16
   (first | rw [c16b0] | (simp only [i64_w, i32_w]; rw [c16b0]) | skip)
   have H' := Aside0.mk H
   clear H
   have hnb22 := NB517_522.out
   have hnc22 := NB522_517.out
   have hcz23_0 : w13.cell? ⟨gb517, 0, none⟩ = some (.bool a3_0) := (blk_cell BK517.out 0).trans rfl
   have hcz23_1 : w13.cell? ⟨gb517, 1, none⟩ = some (.slice A3_1 l3_1.length c3_1) := (blk_cell BK517.out 1).trans rfl
   have hcz23_2 : w13.cell? ⟨gb517, 2, none⟩ = some (.string a3_2) := (blk_cell BK517.out 2).trans rfl
   have hfz23_0 := blk_frozen BK517.out 0
   have hfz23_1 := blk_frozen BK517.out 1
   have hfz23_2 := blk_frozen BK517.out 2
   go_wp2
   go_meet
   exact ⟨_, (false), (by first | rfl | (simp; done) | (simp [*]; done)), H', ⟨by first | omega | exact Nat.le_refl _⟩, ⟨by (with_reducible repeat (first | refine blk_drewN ?_ _ | refine blk_drew ?_ | refine blk_alloc ?_ _)); refine blk_far ?_ NB517_522.out _; (with_reducible repeat (first | refine blk_drewN ?_ _ | refine blk_drew ?_ | refine blk_alloc ?_ _)); refine blk_far ?_ NB517_522.out _; (with_reducible repeat (first | refine blk_drewN ?_ _ | refine blk_drew ?_ | refine blk_alloc ?_ _)); exact BK517.out⟩, ⟨by (with_reducible repeat (first | refine blk_drewN ?_ _ | refine blk_drew ?_ | refine blk_alloc ?_ _)); refine blk_put (cs := #[.int .i64 a1, .int .i64 0]) ?_ 1 _ rfl; (with_reducible repeat (first | refine blk_drewN ?_ _ | refine blk_drew ?_ | refine blk_alloc ?_ _)); refine blk_put (cs := #[.int .i64 0, .int .i64 0]) ?_ 0 _ rfl; (with_reducible repeat (first | refine blk_drewN ?_ _ | refine blk_drew ?_ | refine blk_alloc ?_ _)); exact BK522.out⟩, ⟨by repeat (first | (with_reducible first | exact HB.out | apply below_alloc | apply pw_below_drewN | apply below_drew1 | refine below_set ?_ GE517.out | refine below_set ?_ GE522.out) | exact HB.out)⟩⟩
  rw [if_pos c16] at H
  have c16b0 : (a3_2.toList == ([] : List UInt8)) = true := beq_iff_eq.mpr c16
  have c16b1 : (a3_2.toList != ([] : List UInt8)) = false := bne_eq_false_iff_eq.mpr c16
  clear c16
  (first | rw [c16b0] | (simp only [i64_w, i32_w]; rw [c16b0]) | skip)
  replace H := Option.bind_eq_some_iff.mp H
  obtain ⟨t523, A170, H⟩ := H
  replace H : (loops_Check.j0 k l0 t523 a3_0 l3_1 a3_2 a1 a2) = some r := H
  have A17 := Aside0.mk A170
  clear A170
  have H' := Aside0.mk H
  clear H
  have hnb18 := NB517_522.out
  have hnc18 := NB522_517.out
  have hcz19_0 : w13.cell? ⟨gb517, 0, none⟩ = some (.bool a3_0) := (blk_cell BK517.out 0).trans rfl
  have hcz19_1 : w13.cell? ⟨gb517, 1, none⟩ = some (.slice A3_1 l3_1.length c3_1) := (blk_cell BK517.out 1).trans rfl
  have hcz19_2 : w13.cell? ⟨gb517, 2, none⟩ = some (.string a3_2) := (blk_cell BK517.out 2).trans rfl
  have hfz19_0 := blk_frozen BK517.out 0
  have hfz19_1 := blk_frozen BK517.out 1
  have hfz19_2 := blk_frozen BK517.out 2
  have hcz20_0 : w13.cell? ⟨gb522, 0, none⟩ = some (.int .i64 0) := (blk_cell BK522.out 0).trans rfl
  have hcz20_1 : w13.cell? ⟨gb522, 1, none⟩ = some (.int .i64 0) := (blk_cell BK522.out 1).trans rfl
  have hfz20_0 := blk_frozen BK522.out 0
  have hfz20_1 := blk_frozen BK522.out 1
  go_wp2_with (first | (go_at_call 55; (with_reducible refine (loops_isClosed.calls _ _ l0 _ _ l3_1 a1 a2 t523 _ ?side1 ?side2 ?side3 ?side4 A17.out).mono ?_); (case side1 => exact Kd.C_below HR0.out (by repeat (first | (with_reducible first | exact HB.out | apply below_alloc | apply pw_below_drewN | apply below_drew1 | refine below_set ?_ GE517.out | refine below_set ?_ GE522.out) | exact HB.out))); (case side2 => exact HC0.out); (case side3 => exact Kd.C_below HR3_1.out (by repeat (first | (with_reducible first | exact HB.out | apply below_alloc | apply pw_below_drewN | apply below_drew1 | refine below_set ?_ GE517.out | refine below_set ?_ GE522.out) | exact HB.out))); (case side4 => exact HC3_1.out); rintro e w21 ⟨rfl, hb⟩; have n0_ := Aside0.mk (Kd.R_below (by (with_reducible repeat (first | apply Kd.R_alloc | apply Kd.R_drewN | apply Kd.R_drew)); exact (Kd.R_mono (Kd.R_far (p := ⟨gb522, 1, none⟩) (Kd.R_far (p := ⟨gb522, 0, none⟩) (Kd.R_types HO520.out BK522.out (by decide)) (fun _ hk => hk.2) (.int .i64 a1)) (fun _ hk => hk.2) (.int .i64 a2)) (fun _ h_ => h_.1))) hb); have n1_ := Aside0.mk (blk_below (g := gb517) (o := .cells #[.bool a3_0, .slice A3_1 l3_1.length c3_1, .string a3_2] 55 (0, 0)) (by (with_reducible repeat (first | refine blk_drewN ?_ _ | refine blk_drew ?_ | refine blk_alloc ?_ _)); refine blk_far ?_ NB517_522.out _; (with_reducible repeat (first | refine blk_drewN ?_ _ | refine blk_drew ?_ | refine blk_alloc ?_ _)); refine blk_far ?_ NB517_522.out _; (with_reducible repeat (first | refine blk_drewN ?_ _ | refine blk_drew ?_ | refine blk_alloc ?_ _)); exact BK517.out) hb); have n2_ := Aside0.mk (blk_below (g := gb522) (o := .cells #[.int .i64 a1, .int .i64 a2] 23 (0, 0)) (by (with_reducible repeat (first | refine blk_drewN ?_ _ | refine blk_drew ?_ | refine blk_alloc ?_ _)); refine blk_put (cs := #[.int .i64 a1, .int .i64 0]) ?_ 1 _ rfl; (with_reducible repeat (first | refine blk_drewN ?_ _ | refine blk_drew ?_ | refine blk_alloc ?_ _)); refine blk_put (cs := #[.int .i64 0, .int .i64 0]) ?_ 0 _ rfl; (with_reducible repeat (first | refine blk_drewN ?_ _ | refine blk_drew ?_ | refine blk_alloc ?_ _)); exact BK522.out) hb); have n3_ := Aside0.mk (below_step (by repeat (first | (with_reducible first | exact HB.out | apply below_alloc | apply pw_below_drewN | apply below_drew1 | refine below_set ?_ GE517.out | refine below_set ?_ GE522.out) | exact HB.out)) hb); clear HO520; clear BK517; clear BK522; clear HB; have HO520 := n0_; have BK517 := n1_; have BK522 := n2_; have HB := n3_; clear n0_ n1_ n2_ n3_; (try clear hb); (try clear hb2); (try clear hk); (try clear hi)))
  go_meet
  exact ⟨_, (t523), (by first | rfl | (simp; done) | (simp [*]; done)), H', ⟨by first | omega | exact Nat.le_refl _⟩, ⟨by (with_reducible repeat (first | refine blk_drewN ?_ _ | refine blk_drew ?_ | refine blk_alloc ?_ _)); exact BK517.out⟩, ⟨by (with_reducible repeat (first | refine blk_drewN ?_ _ | refine blk_drew ?_ | refine blk_alloc ?_ _)); exact BK522.out⟩, ⟨by repeat (first | (with_reducible first | exact HB.out | apply below_alloc | apply pw_below_drewN | apply below_drew1 | refine below_set ?_ GE517.out | refine below_set ?_ GE522.out) | exact HB.out)⟩⟩
 case rest =>
  clear HC7
  try clear c1
  try clear c2
  try clear p2
  try clear c3
  try clear c4
  try clear c6
  try clear c14
  try clear c16
  try clear c16b0
  try clear c16b1
  try clear c18
  try clear c22
  try clear hcz15_0
  try clear hcz15_1
  try clear hcz19_0
  try clear hcz19_1
  try clear hcz19_2
  try clear hcz20_0
  try clear hcz20_1
  try clear hcz23_0
  try clear hcz23_1
  try clear hcz23_2
  try clear hfz15_0
  try clear hfz15_1
  try clear hfz19_0
  try clear hfz19_1
  try clear hfz19_2
  try clear hfz20_0
  try clear hfz20_1
  try clear hfz23_0
  try clear hfz23_1
  try clear hfz23_2
  obtain ⟨kq, x10_6, rfl, HA, HJ6, BK517, BK522, HB⟩ := hcut
  cases kq with
  | zero => exact absurd HA.out (by simp [loops_Check.j0])
  | succ kj6 =>
   have H := HA.out
   clear HA
   simp only [loops_Check.j0] at H
   by_cases c24 : a3_0 = true
   ·subst c24
    have H1 : (if x10_6 = true then (some 0) else (some 10)) = some r := by rw [if_pos rfl] at H; exact H
    clear H
    have H := H1
    clear H1
    by_cases c25 : x10_6 = true
    ·subst c25
     have H1 : (some 0) = some r := by rw [if_pos rfl] at H; exact H
     clear H
     have H := H1
     clear H1
     obtain rfl := Option.some.inj H
     have hnb26 := NB517_522.out
     have hnc26 := NB522_517.out
     have hcz27_0 : wc.cell? ⟨gb517, 0, none⟩ = some (.bool true) := (blk_cell BK517.out 0).trans rfl
     have hcz27_1 : wc.cell? ⟨gb517, 1, none⟩ = some (.slice A3_1 l3_1.length c3_1) := (blk_cell BK517.out 1).trans rfl
     have hcz27_2 : wc.cell? ⟨gb517, 2, none⟩ = some (.string a3_2) := (blk_cell BK517.out 2).trans rfl
     have hfz27_0 := blk_frozen BK517.out 0
     have hfz27_1 := blk_frozen BK517.out 1
     have hfz27_2 := blk_frozen BK517.out 2
     go_wp2
     go_ret
     exact ⟨by first | rfl | (simp [errW_none, errW_some] <;> rfl) | (simp [*, errW_none, errW_some] <;> rfl), by repeat (first | (with_reducible first | exact HB.out | apply below_alloc | apply pw_below_drewN | apply below_drew1 | refine below_set ?_ GE517.out | refine below_set ?_ GE522.out) | exact HB.out)⟩
    replace c25 := Bool.eq_false_iff.mpr c25
    subst c25
    have H1 : (some 10) = some r := by rw [if_neg (show ¬ (false = true) by decide)] at H; exact H
    clear H
    have H := H1
    clear H1
    obtain rfl := Option.some.inj H
    have hnb28 := NB517_522.out
    have hnc28 := NB522_517.out
    have hcz29_0 : wc.cell? ⟨gb517, 0, none⟩ = some (.bool true) := (blk_cell BK517.out 0).trans rfl
    have hcz29_1 : wc.cell? ⟨gb517, 1, none⟩ = some (.slice A3_1 l3_1.length c3_1) := (blk_cell BK517.out 1).trans rfl
    have hcz29_2 : wc.cell? ⟨gb517, 2, none⟩ = some (.string a3_2) := (blk_cell BK517.out 2).trans rfl
    have hfz29_0 := blk_frozen BK517.out 0
    have hfz29_1 := blk_frozen BK517.out 1
    have hfz29_2 := blk_frozen BK517.out 2
    go_wp2
    go_ret
    exact ⟨by first | rfl | (simp [errW_none, errW_some] <;> rfl) | (simp [*, errW_none, errW_some] <;> rfl), by repeat (first | (with_reducible first | exact HB.out | apply below_alloc | apply pw_below_drewN | apply below_drew1 | refine below_set ?_ GE517.out | refine below_set ?_ GE522.out) | exact HB.out)⟩
   replace c24 := Bool.eq_false_iff.mpr c24
   subst c24
   have H1 : (if (l3_1.length : Int) = 0 then ((loops_refutes.f l0 a3_2 a1 a2).bind fun t524 => (if t524 = true then (some 0) else (some 10))) else (some 10)) = some r := by rw [if_neg (show ¬ (false = true) by decide)] at H; exact H
   clear H
   have H := H1
   clear H1
   by_cases c30 : (l3_1.length : Int) = 0
   rotate_left
   ·rw [if_neg c30] at H
    have c30b0 : ((l3_1.length : Int) == 0) = false := beq_eq_false_iff_ne.mpr c30
    have c30b1 : ((l3_1.length : Int) != 0) = true := bne_iff_ne.mpr c30
    have c30b2 : ¬ (l3_1 = []) := fun h_ => c30 (by rw [h_]; rfl)
    obtain rfl := Option.some.inj H
    have hnb41 := NB517_522.out
    have hnc41 := NB522_517.out
    have hcz42_0 : wc.cell? ⟨gb517, 0, none⟩ = some (.bool false) := (blk_cell BK517.out 0).trans rfl
    have hcz42_1 : wc.cell? ⟨gb517, 1, none⟩ = some (.slice A3_1 l3_1.length c3_1) := (blk_cell BK517.out 1).trans rfl
    have hcz42_2 : wc.cell? ⟨gb517, 2, none⟩ = some (.string a3_2) := (blk_cell BK517.out 2).trans rfl
    have hfz42_0 := blk_frozen BK517.out 0
    have hfz42_1 := blk_frozen BK517.out 1
    have hfz42_2 := blk_frozen BK517.out 2
    go_wp2
    go_ret
    exact ⟨by first | rfl | (simp [errW_none, errW_some] <;> rfl) | (simp [*, errW_none, errW_some] <;> rfl), by repeat (first | (with_reducible first | exact HB.out | apply below_alloc | apply pw_below_drewN | apply below_drew1 | refine below_set ?_ GE517.out | refine below_set ?_ GE522.out) | exact HB.out)⟩
   rw [if_pos c30] at H
   have c30b0 : ((l3_1.length : Int) == 0) = true := beq_iff_eq.mpr c30
   have c30b1 : ((l3_1.length : Int) != 0) = false := bne_eq_false_iff_eq.mpr c30
   clear c30
   replace H := Option.bind_eq_some_iff.mp H
   obtain ⟨t524, A310, H⟩ := H
   replace H : (if t524 = true then (some 0) else (some 10)) = some r := H
   have A31 := Aside0.mk A310
   clear A310
   by_cases c32 : t524 = true
   ·subst c32
    have H1 : (some 0) = some r := by rw [if_pos rfl] at H; exact H
    clear H
    have H := H1
    clear H1
    obtain rfl := Option.some.inj H
    have hnb33 := NB517_522.out
    have hnc33 := NB522_517.out
    have hcz34_0 : wc.cell? ⟨gb517, 0, none⟩ = some (.bool false) := (blk_cell BK517.out 0).trans rfl
    have hcz34_1 : wc.cell? ⟨gb517, 1, none⟩ = some (.slice A3_1 l3_1.length c3_1) := (blk_cell BK517.out 1).trans rfl
    have hcz34_2 : wc.cell? ⟨gb517, 2, none⟩ = some (.string a3_2) := (blk_cell BK517.out 2).trans rfl
    have hfz34_0 := blk_frozen BK517.out 0
    have hfz34_1 := blk_frozen BK517.out 1
    have hfz34_2 := blk_frozen BK517.out 2
    have hcz35_0 : wc.cell? ⟨gb522, 0, none⟩ = some (.int .i64 a1) := (blk_cell BK522.out 0).trans rfl
    have hcz35_1 : wc.cell? ⟨gb522, 1, none⟩ = some (.int .i64 a2) := (blk_cell BK522.out 1).trans rfl
    have hfz35_0 := blk_frozen BK522.out 0
    have hfz35_1 := blk_frozen BK522.out 1
    go_wp2_with (first | (go_at_call 56; (with_reducible refine (loops_refutes.calls _ _ l0 a3_2 a1 a2 true _ ?side1 ?side2 A31.out).mono ?_); (case side1 => repeat (first | exact (Kd.C_below HR0.out HB.out) | (with_reducible refine Kd.C_alloc ?_ _) | (with_reducible refine Kd.C_drewN ?_ _) | (with_reducible refine Kd.C_drew ?_))); (case side2 => exact HC0.out); rintro e w36 ⟨rfl, hb⟩; have n0_ := Aside0.mk (blk_below (g := gb517) (o := .cells #[.bool false, .slice A3_1 l3_1.length c3_1, .string a3_2] 55 (0, 0)) (by (with_reducible repeat (first | refine blk_drewN ?_ _ | refine blk_drew ?_ | refine blk_alloc ?_ _)); exact BK517.out) hb); have n1_ := Aside0.mk (blk_below (g := gb522) (o := .cells #[.int .i64 a1, .int .i64 a2] 23 (0, 0)) (by (with_reducible repeat (first | refine blk_drewN ?_ _ | refine blk_drew ?_ | refine blk_alloc ?_ _)); exact BK522.out) hb); have n2_ := Aside0.mk (below_step (by repeat (first | (with_reducible first | exact HB.out | apply below_alloc | apply pw_below_drewN | apply below_drew1 | refine below_set ?_ GE517.out | refine below_set ?_ GE522.out) | exact HB.out)) hb); clear BK517; clear BK522; clear HB; have BK517 := n0_; have BK522 := n1_; have HB := n2_; clear n0_ n1_ n2_; (try clear hb); (try clear hb2); (try clear hk); (try clear hi)))
    go_ret
    exact ⟨by first | rfl | (simp [errW_none, errW_some] <;> rfl) | (simp [*, errW_none, errW_some] <;> rfl), by repeat (first | (with_reducible first | exact HB.out | apply below_alloc | apply pw_below_drewN | apply below_drew1 | refine below_set ?_ GE517.out | refine below_set ?_ GE522.out) | exact HB.out)⟩
   replace c32 := Bool.eq_false_iff.mpr c32
   subst c32
   have H1 : (some 10) = some r := by rw [if_neg (show ¬ (false = true) by decide)] at H; exact H
   clear H
   have H := H1
   clear H1
   obtain rfl := Option.some.inj H
   have hnb37 := NB517_522.out
   have hnc37 := NB522_517.out
   have hcz38_0 : wc.cell? ⟨gb517, 0, none⟩ = some (.bool false) := (blk_cell BK517.out 0).trans rfl
   have hcz38_1 : wc.cell? ⟨gb517, 1, none⟩ = some (.slice A3_1 l3_1.length c3_1) := (blk_cell BK517.out 1).trans rfl
   have hcz38_2 : wc.cell? ⟨gb517, 2, none⟩ = some (.string a3_2) := (blk_cell BK517.out 2).trans rfl
   have hfz38_0 := blk_frozen BK517.out 0
   have hfz38_1 := blk_frozen BK517.out 1
   have hfz38_2 := blk_frozen BK517.out 2
   have hcz39_0 : wc.cell? ⟨gb522, 0, none⟩ = some (.int .i64 a1) := (blk_cell BK522.out 0).trans rfl
   have hcz39_1 : wc.cell? ⟨gb522, 1, none⟩ = some (.int .i64 a2) := (blk_cell BK522.out 1).trans rfl
   have hfz39_0 := blk_frozen BK522.out 0
   have hfz39_1 := blk_frozen BK522.out 1
   go_wp2_with (first | (go_at_call 56; (with_reducible refine (loops_refutes.calls _ _ l0 a3_2 a1 a2 false _ ?side1 ?side2 A31.out).mono ?_); (case side1 => repeat (first | exact (Kd.C_below HR0.out HB.out) | (with_reducible refine Kd.C_alloc ?_ _) | (with_reducible refine Kd.C_drewN ?_ _) | (with_reducible refine Kd.C_drew ?_))); (case side2 => exact HC0.out); rintro e w40 ⟨rfl, hb⟩; have n0_ := Aside0.mk (blk_below (g := gb517) (o := .cells #[.bool false, .slice A3_1 l3_1.length c3_1, .string a3_2] 55 (0, 0)) (by (with_reducible repeat (first | refine blk_drewN ?_ _ | refine blk_drew ?_ | refine blk_alloc ?_ _)); exact BK517.out) hb); have n1_ := Aside0.mk (blk_below (g := gb522) (o := .cells #[.int .i64 a1, .int .i64 a2] 23 (0, 0)) (by (with_reducible repeat (first | refine blk_drewN ?_ _ | refine blk_drew ?_ | refine blk_alloc ?_ _)); exact BK522.out) hb); have n2_ := Aside0.mk (below_step (by repeat (first | (with_reducible first | exact HB.out | apply below_alloc | apply pw_below_drewN | apply below_drew1 | refine below_set ?_ GE517.out | refine below_set ?_ GE522.out) | exact HB.out)) hb); clear BK517; clear BK522; clear HB; have BK517 := n0_; have BK522 := n1_; have HB := n2_; clear n0_ n1_ n2_; (try clear hb); (try clear hb2); (try clear hk); (try clear hi)))
   go_ret
   exact ⟨by first | rfl | (simp [errW_none, errW_some] <;> rfl) | (simp [*, errW_none, errW_some] <;> rfl), by repeat (first | (with_reducible first | exact HB.out | apply below_alloc | apply pw_below_drewN | apply below_drew1 | refine below_set ?_ GE517.out | refine below_set ?_ GE522.out) | exact HB.out)⟩

def tickinglaw06_LoopsSubs.f (k : Nat) (l0 : List (S39)) (a1_0 : Int) (a1_1 : Int) : Option (Bool) := (tickinglaw06_own.f l0).bind fun t526 => ((loops_Sub.f k t526 a1_0 a1_1).bind fun bt529 => ((tickinglaw06_bad.f k t526 a1_0 a1_1).bind fun t536 => (if t536 = true then (if bt529.1 = true then (some false) else (if (bt529.2.1.length : Int) = 0 then (if bt529.2.2.1.toList = ([] : List UInt8) then (if bt529.2.2.2 = 2 then ((loops_Check.f k t526 a1_0 a1_1 bt529.1 bt529.2.1 bt529.2.2.1).bind fun t537 => (if t537 = 2 then ((tickinglaw06_awake.f k).bind fun t538 => (some t538)) else (some false))) else (some false)) else (some false)) else (some false))) else (if bt529.2.2.2 = 0 then ((tickingref06_Subtypes.f k t526).bind fun t539 => (if 0 ≤ (wrap64 ((wrap64 ((t526.length : Int) * a1_0)) + a1_1)) then (if (wrap64 ((wrap64 ((t526.length : Int) * a1_0)) + a1_1)) < (t539.length : Int) then (if (bt529.1 == (rdOf false t539 (wrap64 ((wrap64 ((t526.length : Int) * a1_0)) + a1_1)))) = true then ((tickingref06_Right.f k t526 a1_0 a1_1 bt529.1 bt529.2.1 bt529.2.2.1).bind fun t543 => (if t543 = true then ((loops_Check.f k t526 a1_0 a1_1 bt529.1 bt529.2.1 bt529.2.2.1).bind fun t544 => (if t544 = 0 then ((tickinglaw06_awake.f k).bind fun t545 => (some t545)) else (some false))) else (some false))) else (some false)) else (none)) else (none))) else (some false)))))
def tickinglaw06_LoopsSubs.T6 : Bool × List (List Nat × List Nat) := (true, [([], []), ([0], [0]), ([1], [1]), ([2], [2]), ([3, 2], [2, 3]), ([2], [2]), ([5, 2, 2], [2, 5]), ([2], [2]), ([7, 2], [2, 7]), ([2], [2]), ([8, 9, 2], [2, 8, 9]), ([2], [2]), ([10, 11, 2], [2, 10, 11]), ([6, 12, 2], [2, 6, 12]), ([13, 2], [2, 13]), ([4, 14, 2], [2, 4, 14]), ([2, 15], [2, 15]), ([16, 6], [16]), ([17], [17]), ([17], [17]), ([17], [17]), ([17], [17]), ([18, 19, 20, 21, 17, 17], [17, 18, 19, 20, 21]), ([17, 22], [17, 22]), ([23, 22], [23]), ([24], [24]), ([24], [24]), ([24], [24]), ([24], [24]), ([25, 26, 27, 28, 24, 24], [24, 25, 26, 27, 28]), ([29, 24], [24, 29]), ([24, 30], [24, 30]), ([31, 29], [31]), ([32, 32], [32]), ([32, 33], [32, 33]), ([34, 33, 0, 1, 2, 3, 4, 5, 6, 7, 8, 9, 10, 11, 12, 13, 14, 15, 16, 17, 18, 19, 20, 21, 22, 23, 24, 25, 26, 27, 28, 29, 30, 31, 32, 33, 34], [34])])
def tickinglaw06_LoopsSubs.B6 : List Nat := [0, 1, 3, 7, 15, 7, 39, 7, 135, 7, 903, 7, 3975, 8167, 16359, 32767, 65535, 131071, 262143, 262143, 262143, 262143, 4194303, 8388607, 16777215, 33554431, 33554431, 33554431, 33554431, 536870911, 1073741823, 2147483647, 4294967295, 8589934591, 17179869183, 34359738367]
theorem tickinglaw06_LoopsSubs.tab6 : rtab .any (opsOf Try.f9 6) = tickinglaw06_LoopsSubs.T6 := by kernel_rfl
theorem tickinglaw06_LoopsSubs.bits6 : waitsOk tickinglaw06_LoopsSubs.T6.2 tickinglaw06_LoopsSubs.B6 = true := by kernel_rfl
set_option maxHeartbeats 8000000 in
set_option maxRecDepth 100000 in
theorem tickinglaw06_LoopsSubs.calls (k : Nat) (A0 : Option Addr) (c0 : Nat) (l0 : List (S39)) (a1_0 : Int) (a1_1 : Int) (r : Bool) (w : World) (hr0 : Kd.C k39 w A0 l0.length l0) (hc0 : l0.length ≤ c0) (h : tickinglaw06_LoopsSubs.f k l0 a1_0 a1_1 = some r) (htrue : r = true) :
  Calls Try.prog 9 #[.slice A0 l0.length c0, .agg #[.int .i64 a1_0, .int .i64 a1_1]] w fun e w' => e = .returned (.bool r) ∧ Below w.heap.size w w' := by
 have HTR := Aside0.mk htrue
 clear htrue
 have hu23 := Try.underlying23
 have hu55 := Try.underlying55
 have HR0 := Aside0.mk hr0
 have HC0 := Aside0.mk hc0
 clear hr0 hc0
 have HB := Aside0.mk (Below.refl w.heap.size w)
 have H : ((tickinglaw06_own.f l0).bind fun t526 => ((loops_Sub.f k t526 a1_0 a1_1).bind fun bt529 => ((tickinglaw06_bad.f k t526 a1_0 a1_1).bind fun t536 => (if t536 = true then (if bt529.1 = true then (some false) else (if (bt529.2.1.length : Int) = 0 then (if bt529.2.2.1.toList = ([] : List UInt8) then (if bt529.2.2.2 = 2 then ((loops_Check.f k t526 a1_0 a1_1 bt529.1 bt529.2.1 bt529.2.2.1).bind fun t537 => (if t537 = 2 then ((tickinglaw06_awake.f k).bind fun t538 => (some t538)) else (some false))) else (some false)) else (some false)) else (some false))) else (if bt529.2.2.2 = 0 then ((tickingref06_Subtypes.f k t526).bind fun t539 => (if 0 ≤ (wrap64 ((wrap64 ((t526.length : Int) * a1_0)) + a1_1)) then (if (wrap64 ((wrap64 ((t526.length : Int) * a1_0)) + a1_1)) < (t539.length : Int) then (if (bt529.1 == (rdOf false t539 (wrap64 ((wrap64 ((t526.length : Int) * a1_0)) + a1_1)))) = true then ((tickingref06_Right.f k t526 a1_0 a1_1 bt529.1 bt529.2.1 bt529.2.2.1).bind fun t543 => (if t543 = true then ((loops_Check.f k t526 a1_0 a1_1 bt529.1 bt529.2.1 bt529.2.2.1).bind fun t544 => (if t544 = 0 then ((tickinglaw06_awake.f k).bind fun t545 => (some t545)) else (some false))) else (some false))) else (some false)) else (none)) else (none))) else (some false)))))) = some r := h
 clear h
 replace H := Option.bind_eq_some_iff.mp H
 obtain ⟨t526, A30, H⟩ := H
 replace H : ((loops_Sub.f k t526 a1_0 a1_1).bind fun bt529 => ((tickinglaw06_bad.f k t526 a1_0 a1_1).bind fun t536 => (if t536 = true then (if bt529.1 = true then (some false) else (if (bt529.2.1.length : Int) = 0 then (if bt529.2.2.1.toList = ([] : List UInt8) then (if bt529.2.2.2 = 2 then ((loops_Check.f k t526 a1_0 a1_1 bt529.1 bt529.2.1 bt529.2.2.1).bind fun t537 => (if t537 = 2 then ((tickinglaw06_awake.f k).bind fun t538 => (some t538)) else (some false))) else (some false)) else (some false)) else (some false))) else (if bt529.2.2.2 = 0 then ((tickingref06_Subtypes.f k t526).bind fun t539 => (if 0 ≤ (wrap64 ((wrap64 ((t526.length : Int) * a1_0)) + a1_1)) then (if (wrap64 ((wrap64 ((t526.length : Int) * a1_0)) + a1_1)) < (t539.length : Int) then (if (bt529.1 == (rdOf false t539 (wrap64 ((wrap64 ((t526.length : Int) * a1_0)) + a1_1)))) = true then ((tickingref06_Right.f k t526 a1_0 a1_1 bt529.1 bt529.2.1 bt529.2.2.1).bind fun t543 => (if t543 = true then ((loops_Check.f k t526 a1_0 a1_1 bt529.1 bt529.2.1 bt529.2.2.1).bind fun t544 => (if t544 = 0 then ((tickinglaw06_awake.f k).bind fun t545 => (some t545)) else (some false))) else (some false))) else (some false)) else (none)) else (none))) else (some false))))) = some r := H
 have A3 := Aside0.mk A30
 clear A30
 replace H := Option.bind_eq_some_iff.mp H
 obtain ⟨⟨t529, t530, t533, t534⟩, A40, H⟩ := H
 replace H : ((tickinglaw06_bad.f k t526 a1_0 a1_1).bind fun t536 => (if t536 = true then (if t529 = true then (some false) else (if (t530.length : Int) = 0 then (if t533.toList = ([] : List UInt8) then (if t534 = 2 then ((loops_Check.f k t526 a1_0 a1_1 t529 t530 t533).bind fun t537 => (if t537 = 2 then ((tickinglaw06_awake.f k).bind fun t538 => (some t538)) else (some false))) else (some false)) else (some false)) else (some false))) else (if t534 = 0 then ((tickingref06_Subtypes.f k t526).bind fun t539 => (if 0 ≤ (wrap64 ((wrap64 ((t526.length : Int) * a1_0)) + a1_1)) then (if (wrap64 ((wrap64 ((t526.length : Int) * a1_0)) + a1_1)) < (t539.length : Int) then (if (t529 == (rdOf false t539 (wrap64 ((wrap64 ((t526.length : Int) * a1_0)) + a1_1)))) = true then ((tickingref06_Right.f k t526 a1_0 a1_1 t529 t530 t533).bind fun t543 => (if t543 = true then ((loops_Check.f k t526 a1_0 a1_1 t529 t530 t533).bind fun t544 => (if t544 = 0 then ((tickinglaw06_awake.f k).bind fun t545 => (some t545)) else (some false))) else (some false))) else (some false)) else (none)) else (none))) else (some false)))) = some r := H
 have A4 := Aside0.mk A40
 clear A40
 replace H := Option.bind_eq_some_iff.mp H
 obtain ⟨t536, A50, H⟩ := H
 replace H : (if t536 = true then (if t529 = true then (some false) else (if (t530.length : Int) = 0 then (if t533.toList = ([] : List UInt8) then (if t534 = 2 then ((loops_Check.f k t526 a1_0 a1_1 t529 t530 t533).bind fun t537 => (if t537 = 2 then ((tickinglaw06_awake.f k).bind fun t538 => (some t538)) else (some false))) else (some false)) else (some false)) else (some false))) else (if t534 = 0 then ((tickingref06_Subtypes.f k t526).bind fun t539 => (if 0 ≤ (wrap64 ((wrap64 ((t526.length : Int) * a1_0)) + a1_1)) then (if (wrap64 ((wrap64 ((t526.length : Int) * a1_0)) + a1_1)) < (t539.length : Int) then (if (t529 == (rdOf false t539 (wrap64 ((wrap64 ((t526.length : Int) * a1_0)) + a1_1)))) = true then ((tickingref06_Right.f k t526 a1_0 a1_1 t529 t530 t533).bind fun t543 => (if t543 = true then ((loops_Check.f k t526 a1_0 a1_1 t529 t530 t533).bind fun t544 => (if t544 = 0 then ((tickinglaw06_awake.f k).bind fun t545 => (some t545)) else (some false))) else (some false))) else (some false)) else (none)) else (none))) else (some false))) = some r := H
 have A5 := Aside0.mk A50
 clear A50
 by_cases c6 : t536 = true
 ·subst c6
  have H1 : (if t529 = true then (some false) else (if (t530.length : Int) = 0 then (if t533.toList = ([] : List UInt8) then (if t534 = 2 then ((loops_Check.f k t526 a1_0 a1_1 t529 t530 t533).bind fun t537 => (if t537 = 2 then ((tickinglaw06_awake.f k).bind fun t538 => (some t538)) else (some false))) else (some false)) else (some false)) else (some false))) = some r := by rw [if_pos rfl] at H; exact H
  clear H
  have H := H1
  clear H1
  by_cases c7 : t529 = true
  ·subst c7
   have H1 : (some false) = some r := by rw [if_pos rfl] at H; exact H
   clear H
   have H := H1
   clear H1
   exact absurd ((Option.some.inj H).trans HTR.out) (by decide)
  replace c7 := Bool.eq_false_iff.mpr c7
  subst c7
  have H1 : (if (t530.length : Int) = 0 then (if t533.toList = ([] : List UInt8) then (if t534 = 2 then ((loops_Check.f k t526 a1_0 a1_1 false t530 t533).bind fun t537 => (if t537 = 2 then ((tickinglaw06_awake.f k).bind fun t538 => (some t538)) else (some false))) else (some false)) else (some false)) else (some false)) = some r := by rw [if_neg (show ¬ (false = true) by decide)] at H; exact H
  clear H
  have H := H1
  clear H1
  by_cases c19 : (t530.length : Int) = 0
  rotate_left
  ·rw [if_neg c19] at H
   have c19b0 : ((t530.length : Int) == 0) = false := beq_eq_false_iff_ne.mpr c19
   have c19b1 : ((t530.length : Int) != 0) = true := bne_iff_ne.mpr c19
   have c19b2 : ¬ (t530 = []) := fun h_ => c19 (by rw [h_]; rfl)
   exact absurd ((Option.some.inj H).trans HTR.out) (by decide)
  rw [if_pos c19] at H
  have c19b0 : ((t530.length : Int) == 0) = true := beq_iff_eq.mpr c19
  have c19b1 : ((t530.length : Int) != 0) = false := bne_eq_false_iff_eq.mpr c19
  clear c19
  by_cases c20 : t533.toList = ([] : List UInt8)
  rotate_left
  ·rw [if_neg c20] at H
   have c20b0 : (t533.toList == ([] : List UInt8)) = false := beq_eq_false_iff_ne.mpr c20
   have c20b1 : (t533.toList != ([] : List UInt8)) = true := bne_iff_ne.mpr c20
   exact absurd ((Option.some.inj H).trans HTR.out) (by decide)
  rw [if_pos c20] at H
  have c20b0 : (t533.toList == ([] : List UInt8)) = true := beq_iff_eq.mpr c20
  have c20b1 : (t533.toList != ([] : List UInt8)) = false := bne_eq_false_iff_eq.mpr c20
  clear c20
  by_cases c21 : t534 = 2
  rotate_left
  ·rw [if_neg c21] at H
   have c21b0 : (t534 == 2) = false := beq_eq_false_iff_ne.mpr c21
   have c21b1 : (t534 != 2) = true := bne_iff_ne.mpr c21
   exact absurd ((Option.some.inj H).trans HTR.out) (by decide)
  rw [if_pos c21] at H
  have c21b0 : (t534 == 2) = true := beq_iff_eq.mpr c21
  have c21b1 : (t534 != 2) = false := bne_eq_false_iff_eq.mpr c21
  clear c21
  replace H := Option.bind_eq_some_iff.mp H
  obtain ⟨t537, A220, H⟩ := H
  replace H : (if t537 = 2 then ((tickinglaw06_awake.f k).bind fun t538 => (some t538)) else (some false)) = some r := H
  have A22 := Aside0.mk A220
  clear A220
  by_cases c23 : t537 = 2
  rotate_left
  ·rw [if_neg c23] at H
   have c23b0 : (t537 == 2) = false := beq_eq_false_iff_ne.mpr c23
   have c23b1 : (t537 != 2) = true := bne_iff_ne.mpr c23
   exact absurd ((Option.some.inj H).trans HTR.out) (by decide)
  rw [if_pos c23] at H
  have c23b0 : (t537 == 2) = true := beq_iff_eq.mpr c23
  have c23b1 : (t537 != 2) = false := bne_eq_false_iff_eq.mpr c23
  clear c23
  replace H := Option.bind_eq_some_iff.mp H
  obtain ⟨t538, A240, H⟩ := H
  replace H : (some t538) = some r := H
  have A24 := Aside0.mk A240
  clear A240
  obtain rfl := Option.some.inj H
  go_enter Try.func9, Try.ntmps9
  try go_wp2_with (first | ((with_reducible refine gate_dst (N := 3) rfl ?_); (try (refine gate_guard (by rfl) ?_; dsimp only)); refine box_event ?hg (N := 3) ?hd (cs := #[.int .i64 a1_0, .int .i64 a1_1]) (t := 23) ?hr ?_; (case hd => rfl); (case hg => rfl); (case hr => first | (go_simp; done) | (go_simp; rfl)); intro gb525 hg w25 hbox hb; have n0_ := Aside0.mk (below_step (by repeat (first | (with_reducible first | exact HB.out | apply below_alloc | apply pw_below_drewN | apply below_drew1) | exact HB.out)) hb); have n1_ := Aside0.mk (hbox); have n2_ := Aside0.mk ((by rw [hg]; exact (below_size (by repeat (first | (with_reducible first | exact HB.out | apply below_alloc | apply pw_below_drewN | apply below_drew1) | exact HB.out))) : w.heap.size ≤ gb525)); have n3_ := Aside0.mk ((by rw [hg]; exact (below_size (by repeat (first | (with_reducible first | exact HB.out | apply below_alloc | apply pw_below_drewN | apply below_drew1) | exact HB.out))) : w.heap.size ≤ gb525)); clear HB; have HB := n0_; have BK525 := n1_; have GW525 := n2_; have GE525 := n3_; clear n0_ n1_ n2_ n3_; clear hb hbox hg) | ((with_reducible refine gate_callee (f := 15) rfl ?_); refine goesL_ (some 11) rfl rfl Try.func15 (by kernel_rfl) rfl #[.slice A0 l0.length c0] rfl (by (try simp only [List.map_toArray, List.map_cons, List.map_nil]); first | done | rfl | (simp only [List.length_drop, List.length_take]; rfl)) ?_; (with_reducible refine (tickinglaw06_own.calls _ _ l0 t526 _ ?side1 ?side2 A3.out).mono ?_); (case side1 => repeat (first | exact (Kd.C_below HR0.out HB.out) | (with_reducible refine Kd.C_alloc ?_ _) | (with_reducible refine Kd.C_drewN ?_ _) | (with_reducible refine Kd.C_drew ?_))); (case side2 => exact HC0.out); rintro e w26 ⟨v527, rfl, ho0, hb⟩; refine ⟨_, rfl, ?_⟩; have n0_ := Aside0.mk (Kd.R_lower ho0 (below_size (by repeat (first | (with_reducible first | exact HB.out | apply below_alloc | apply pw_below_drewN | apply below_drew1 | refine below_set ?_ GE525.out) | exact HB.out)))); have n1_ := Aside0.mk (blk_below (g := gb525) (o := .cells #[.int .i64 a1_0, .int .i64 a1_1] 23 (0, 0)) (by (with_reducible repeat (first | refine blk_drewN ?_ _ | refine blk_drew ?_ | refine blk_alloc ?_ _)); exact BK525.out) hb); have n2_ := Aside0.mk (below_step (by repeat (first | (with_reducible first | exact HB.out | apply below_alloc | apply pw_below_drewN | apply below_drew1 | refine below_set ?_ GE525.out) | exact HB.out)) hb); clear BK525; clear HB; have HO528 := n0_; have BK525 := n1_; have HB := n2_; clear n0_ n1_ n2_; (try clear hb); (try clear hb2); (try clear hk); (try clear hi); (try clear ho0)))
  have n0_ := Aside0.mk (Kd.R_drew HO528.out)
  have n1_ := Aside0.mk (blk_drew BK525.out)
  have n2_ := Aside0.mk (below_drew1 HB.out)
  clear HO528
  clear BK525
  clear HB
  have HO528 := n0_
  have BK525 := n1_
  have HB := n2_
  clear n0_ n1_ n2_
  refine start_ (n := 6) (S := fun w' => w'.cell? ⟨gb525, 0, none⟩ = some (.int .i64 a1_0) ∧ w'.cell? ⟨gb525, 1, none⟩ = some (.int .i64 a1_1)) (ds := []) #[false, false, false, false, false, false] (by kernel_rfl) rfl rfl ⟨(blk_cell BK525.out 0).trans rfl, (blk_cell BK525.out 1).trans rfl⟩ (fun hHeld => ?_)
  generalize w26.drew = w27 at HO528 BK525 HB hHeld ⊢
  refine pure_ (i := 0) (N := some 12) (v := ?_) (a' := ?_) #[true, false, false, false, false, false] rfl rfl (by kernel_rfl) (fun _ _ _ h => h) (Or.inl ⟨by rfl, ?_⟩) ?_ ?_
  rotate_left
  ·intro w'
   go_simp
   with_reducible rfl
  rotate_left
  ·simp only [Act.put, List.setIfInBounds_toArray, List.set_cons_zero, List.set_cons_succ, i64_w, i32_w]
   rfl
  refine pure_ (i := 2) (N := some 14) (v := ?_) (a' := ?_) #[true, false, true, false, false, false] rfl rfl (by kernel_rfl) (fun _ _ _ h => h) (Or.inl ⟨by rfl, ?_⟩) ?_ ?_
  rotate_left
  ·intro w'
   go_simp
   with_reducible rfl
  rotate_left
  ·simp only [Act.put, List.setIfInBounds_toArray, List.set_cons_zero, List.set_cons_succ, i64_w, i32_w]
   rfl
  refine take_ (i := 1) (N := some 13) (v := ?_) (a' := ?_) #[true, true, true, false, false, false] rfl rfl (by kernel_rfl) (fun _ _ _ h => h) (Or.inl ⟨by rfl, ?_⟩) hHeld ?_ ?_
  rotate_left
  ·rintro w' ⟨s0, s1⟩
   go_simp
   with_reducible rfl
  rotate_left
  ·simp only [Act.put, List.setIfInBounds_toArray, List.set_cons_zero, List.set_cons_succ, i64_w, i32_w]
   rfl
  refine pure_ (i := 4) (N := some 6) (v := ?_) (a' := ?_) #[true, true, true, false, true, false] rfl rfl (by kernel_rfl) (fun _ _ _ h => h) (Or.inl ⟨by rfl, ?_⟩) ?_ ?_
  rotate_left
  ·intro w'
   go_simp
   with_reducible rfl
  rotate_left
  ·simp only [Act.put, List.setIfInBounds_toArray, List.set_cons_zero, List.set_cons_succ, i64_w, i32_w]
   rfl
  refine take_ (i := 3) (N := some 15) (v := ?_) (a' := ?_) #[true, true, true, true, true, false] rfl rfl (by kernel_rfl) (fun _ _ _ h => h) (Or.inl ⟨by rfl, ?_⟩) hHeld ?_ ?_
  rotate_left
  ·rintro w' ⟨s0, s1⟩
   go_simp
   with_reducible rfl
  rotate_left
  ·simp only [Act.put, List.setIfInBounds_toArray, List.set_cons_zero, List.set_cons_succ, i64_w, i32_w]
   rfl
  refine pure_ (i := 5) (N := some 7) (v := ?_) (a' := ?_) #[true, true, true, true, true, true] rfl rfl (by kernel_rfl) (fun _ _ _ h => h) (Or.inl ⟨by rfl, ?_⟩) ?_ ?_
  rotate_left
  ·intro w'
   go_simp
   with_reducible rfl
  rotate_left
  ·simp only [Act.put, List.setIfInBounds_toArray, List.set_cons_zero, List.set_cons_succ, i64_w, i32_w]
   rfl
  refine done_ (by kernel_rfl) ?_
  obtain ⟨Ao28, co28, eo28⟩ := Kd.R_slice HO528.out
  subst eo28
  try go_wp2_with (first | ((with_reducible refine gate_callee (f := 33) rfl ?_); refine goesL_ (some 20) rfl rfl Try.func33 (by kernel_rfl) rfl #[.slice Ao28 t526.length co28, .int .i64 a1_0, .int .i64 a1_1] rfl (by (try simp only [List.map_toArray, List.map_cons, List.map_nil]); first | done | rfl | (simp only [List.length_drop, List.length_take]; rfl)) ?_; (with_reducible refine (loops_Sub.calls k _ _ t526 a1_0 a1_1 false t530 t533 t534 _ ?side1 ?side2 A4.out).mono ?_); (case side1 => repeat (first | exact (Kd.R_reads' HO528.out).2.2 | (with_reducible refine Kd.C_alloc ?_ _) | (with_reducible refine Kd.C_drewN ?_ _) | (with_reducible refine Kd.C_drew ?_))); (case side2 => exact (Kd.R_reads' HO528.out).2.1); rintro e w29 ⟨v531, rfl, ho0, hb⟩; refine ⟨_, rfl, ?_⟩; have n0_ := Aside0.mk (Kd.R_below (by (with_reducible repeat (first | apply Kd.R_alloc | apply Kd.R_drewN | apply Kd.R_drew)); exact HO528.out) hb); have n1_ := Aside0.mk (Kd.R_lower (Kd.R_newB ho0 (g := gb525) (o := .cells #[.int .i64 a1_0, .int .i64 a1_1] 23 (0, 0)) (by (with_reducible repeat (first | refine blk_drewN ?_ _ | refine blk_drew ?_ | refine blk_alloc ?_ _)); exact BK525.out)) (below_size (by repeat (first | (with_reducible first | exact HB.out | apply below_alloc | apply pw_below_drewN | apply below_drew1 | refine below_set ?_ GE525.out) | exact HB.out)))); have n2_ := Aside0.mk (blk_below (g := gb525) (o := .cells #[.int .i64 a1_0, .int .i64 a1_1] 23 (0, 0)) (by (with_reducible repeat (first | refine blk_drewN ?_ _ | refine blk_drew ?_ | refine blk_alloc ?_ _)); exact BK525.out) hb); have n3_ := Aside0.mk (below_step (by repeat (first | (with_reducible first | exact HB.out | apply below_alloc | apply pw_below_drewN | apply below_drew1 | refine below_set ?_ GE525.out) | exact HB.out)) hb); clear HO528; clear BK525; clear HB; have HO528 := n0_; have HO532 := n1_; have BK525 := n2_; have HB := n3_; clear n0_ n1_ n2_ n3_; (try clear hb); (try clear hb2); (try clear hk); (try clear hi); (try clear ho0)) | ((with_reducible refine gate_dst (N := 8) rfl ?_); (try (refine gate_guard (by rfl) ?_; dsimp only)); refine box_event ?hg (N := 8) ?hd (cs := #[.bool false, .slice none 0 0, .string (⟨#[]⟩ : ByteArray)]) (t := 55) ?hr ?_; (case hd => rfl); (case hg => rfl); (case hr => first | (go_simp; done) | (go_simp; rfl)); intro gb535 hg w30 hbox hb; have n0_ := Aside0.mk (Kd.R_below (by (with_reducible repeat (first | apply Kd.R_alloc | apply Kd.R_drewN | apply Kd.R_drew)); exact HO528.out) hb); have n1_ := Aside0.mk (Kd.R_below (by (with_reducible repeat (first | apply Kd.R_alloc | apply Kd.R_drewN | apply Kd.R_drew)); exact HO532.out) hb); have n2_ := Aside0.mk (blk_below (g := gb525) (o := .cells #[.int .i64 a1_0, .int .i64 a1_1] 23 (0, 0)) (by (with_reducible repeat (first | refine blk_drewN ?_ _ | refine blk_drew ?_ | refine blk_alloc ?_ _)); exact BK525.out) hb); have n3_ := Aside0.mk (below_step (by repeat (first | (with_reducible first | exact HB.out | apply below_alloc | apply pw_below_drewN | apply below_drew1 | refine below_set ?_ GE525.out) | exact HB.out)) hb); have n4_ := Aside0.mk (hbox); have n5_ := Aside0.mk ((by rw [hg]; exact (below_size (by repeat (first | (with_reducible first | exact HB.out | apply below_alloc | apply pw_below_drewN | apply below_drew1 | refine below_set ?_ GE525.out) | exact HB.out))) : w.heap.size ≤ gb535)); have n6_ := Aside0.mk ((by rw [hg]; exact (below_size (by repeat (first | (with_reducible first | exact HB.out | apply below_alloc | apply pw_below_drewN | apply below_drew1 | refine below_set ?_ GE525.out) | exact HB.out))) : w.heap.size ≤ gb535)); have n7_ := Aside0.mk ((by rw [hg]; exact Nat.ne_of_lt (blk_lt (g := gb525) (o := .cells #[.int .i64 a1_0, .int .i64 a1_1] 23 (0, 0)) (by (with_reducible repeat (first | refine blk_drewN ?_ _ | refine blk_drew ?_ | refine blk_alloc ?_ _)); exact BK525.out)) : gb525 ≠ gb535)); have n8_ := Aside0.mk ((by rw [hg]; exact Nat.ne_of_gt (blk_lt (g := gb525) (o := .cells #[.int .i64 a1_0, .int .i64 a1_1] 23 (0, 0)) (by (with_reducible repeat (first | refine blk_drewN ?_ _ | refine blk_drew ?_ | refine blk_alloc ?_ _)); exact BK525.out)) : gb535 ≠ gb525)); clear HO528; clear HO532; clear BK525; clear HB; have HO528 := n0_; have HO532 := n1_; have BK525 := n2_; have HB := n3_; have BK535 := n4_; have GW535 := n5_; have GE535 := n6_; have NB525_535 := n7_; have NB535_525 := n8_; clear n0_ n1_ n2_ n3_ n4_ n5_ n6_ n7_ n8_; clear hb hbox hg; have hnb31 := NB535_525.out; have hnc31 := NB525_535.out; have hcz32_0 : w30.cell? ⟨gb535, 0, none⟩ = some (.bool false) := (blk_cell BK535.out 0).trans rfl; have hcz32_1 : w30.cell? ⟨gb535, 1, none⟩ = some (.slice none 0 0) := (blk_cell BK535.out 1).trans rfl; have hcz32_2 : w30.cell? ⟨gb535, 2, none⟩ = some (.string (⟨#[]⟩ : ByteArray)) := (blk_cell BK535.out 2).trans rfl; have hfz32_0 := blk_frozen BK535.out 0; have hfz32_1 := blk_frozen BK535.out 1; have hfz32_2 := blk_frozen BK535.out 2; obtain ⟨Ao33, co33, eo33⟩ := Kd.R_slice HO532.out; subst eo33) | ((with_reducible refine gate_callee (f := 18) rfl ?_); refine goesL_ (some 26) rfl rfl Try.func18 (by kernel_rfl) rfl #[.slice Ao28 t526.length co28, .int .i64 a1_0, .int .i64 a1_1] rfl (by (try simp only [List.map_toArray, List.map_cons, List.map_nil]); first | done | rfl | (simp only [List.length_drop, List.length_take]; rfl)) ?_; (with_reducible refine (tickinglaw06_bad.calls k _ _ t526 a1_0 a1_1 true _ ?side1 ?side2 A5.out).mono ?_); (case side1 => refine (Kd.R_reads' (e := 39) (base := w.heap.size) (ok := fun k_ => True) (n := t526.length) (c := co28) ?_).2.2; exact (by (with_reducible repeat (first | apply Kd.R_alloc | apply Kd.R_drewN | apply Kd.R_drew)); exact (Kd.R_mono (Kd.R_far (p := ⟨gb535, 2, none⟩) (Kd.R_far (p := ⟨gb535, 1, none⟩) (Kd.R_far (p := ⟨gb535, 0, none⟩) (Kd.R_types HO528.out BK535.out (by decide)) (fun _ hk => hk.2) (.bool false)) (fun _ hk => hk.2) (.slice Ao33 t530.length co33)) (fun _ hk => hk.2) (.string t533)) (fun _ h_ => h_.1)))); (case side2 => exact (Kd.R_reads' HO528.out).2.1); rintro e w34 ⟨rfl, hb⟩; refine ⟨_, rfl, ?_⟩; have n0_ := Aside0.mk (Kd.R_below (by (with_reducible repeat (first | apply Kd.R_alloc | apply Kd.R_drewN | apply Kd.R_drew)); exact (Kd.R_mono (Kd.R_far (p := ⟨gb535, 2, none⟩) (Kd.R_far (p := ⟨gb535, 1, none⟩) (Kd.R_far (p := ⟨gb535, 0, none⟩) (Kd.R_types HO528.out BK535.out (by decide)) (fun _ hk => hk.2) (.bool false)) (fun _ hk => hk.2) (.slice Ao33 t530.length co33)) (fun _ hk => hk.2) (.string t533)) (fun _ h_ => h_.1))) hb); have n1_ := Aside0.mk (Kd.R_below (by (with_reducible repeat (first | apply Kd.R_alloc | apply Kd.R_drewN | apply Kd.R_drew)); exact (Kd.R_mono (Kd.R_far (p := ⟨gb535, 2, none⟩) (Kd.R_far (p := ⟨gb535, 1, none⟩) (Kd.R_far (p := ⟨gb535, 0, none⟩) (Kd.R_types HO532.out BK535.out (by decide)) (fun _ hk => hk.2) (.bool false)) (fun _ hk => hk.2) (.slice Ao33 t530.length co33)) (fun _ hk => hk.2) (.string t533)) (fun _ h_ => h_.1))) hb); have n2_ := Aside0.mk (blk_below (g := gb525) (o := .cells #[.int .i64 a1_0, .int .i64 a1_1] 23 (0, 0)) (by (with_reducible repeat (first | refine blk_drewN ?_ _ | refine blk_drew ?_ | refine blk_alloc ?_ _)); refine blk_far ?_ NB525_535.out _; (with_reducible repeat (first | refine blk_drewN ?_ _ | refine blk_drew ?_ | refine blk_alloc ?_ _)); refine blk_far ?_ NB525_535.out _; (with_reducible repeat (first | refine blk_drewN ?_ _ | refine blk_drew ?_ | refine blk_alloc ?_ _)); refine blk_far ?_ NB525_535.out _; (with_reducible repeat (first | refine blk_drewN ?_ _ | refine blk_drew ?_ | refine blk_alloc ?_ _)); exact BK525.out) hb); have n3_ := Aside0.mk (blk_below (g := gb535) (o := .cells #[.bool false, .slice Ao33 t530.length co33, .string t533] 55 (0, 0)) (by (with_reducible repeat (first | refine blk_drewN ?_ _ | refine blk_drew ?_ | refine blk_alloc ?_ _)); refine blk_put (cs := #[.bool false, .slice Ao33 t530.length co33, .string (⟨#[]⟩ : ByteArray)]) ?_ 2 _ rfl; (with_reducible repeat (first | refine blk_drewN ?_ _ | refine blk_drew ?_ | refine blk_alloc ?_ _)); refine blk_put (cs := #[.bool false, .slice none 0 0, .string (⟨#[]⟩ : ByteArray)]) ?_ 1 _ rfl; (with_reducible repeat (first | refine blk_drewN ?_ _ | refine blk_drew ?_ | refine blk_alloc ?_ _)); refine blk_put (cs := #[.bool false, .slice none 0 0, .string (⟨#[]⟩ : ByteArray)]) ?_ 0 _ rfl; (with_reducible repeat (first | refine blk_drewN ?_ _ | refine blk_drew ?_ | refine blk_alloc ?_ _)); exact BK535.out) hb); have n4_ := Aside0.mk (below_step (by repeat (first | (with_reducible first | exact HB.out | apply below_alloc | apply pw_below_drewN | apply below_drew1 | refine below_set ?_ GE525.out | refine below_set ?_ GE535.out) | exact HB.out)) hb); clear HO528; clear HO532; clear BK525; clear BK535; clear HB; have HO528 := n0_; have HO532 := n1_; have BK525 := n2_; have BK535 := n3_; have HB := n4_; clear n0_ n1_ n2_ n3_ n4_; (try clear hb); (try clear hb2); (try clear hk); (try clear hi); have hcz35_0 : w34.cell? ⟨gb535, 0, none⟩ = some (.bool false) := (blk_cell BK535.out 0).trans rfl; have hcz35_1 : w34.cell? ⟨gb535, 1, none⟩ = some (.slice Ao33 t530.length co33) := (blk_cell BK535.out 1).trans rfl; have hcz35_2 : w34.cell? ⟨gb535, 2, none⟩ = some (.string t533) := (blk_cell BK535.out 2).trans rfl; have hfz35_0 := blk_frozen BK535.out 0; have hfz35_1 := blk_frozen BK535.out 1; have hfz35_2 := blk_frozen BK535.out 2) | (go_at_call 35; (with_reducible refine (loops_Check.calls k _ _ t526 a1_0 a1_1 false _ _ t530 t533 t537 _ ?side1 ?side2 ?side3 ?side4 A22.out).mono ?_); (case side1 => repeat (first | exact (Kd.R_reads' HO528.out).2.2 | (with_reducible refine Kd.C_alloc ?_ _) | (with_reducible refine Kd.C_drewN ?_ _) | (with_reducible refine Kd.C_drew ?_))); (case side2 => exact (Kd.R_reads' HO528.out).2.1); (case side3 => repeat (first | exact (Kd.R_reads' HO532.out).2.2 | (with_reducible refine Kd.C_alloc ?_ _) | (with_reducible refine Kd.C_drewN ?_ _) | (with_reducible refine Kd.C_drew ?_))); (case side4 => exact (Kd.R_reads' HO532.out).2.1); rintro e w36 ⟨rfl, hb⟩; have n0_ := Aside0.mk (Kd.R_below (by (with_reducible repeat (first | apply Kd.R_alloc | apply Kd.R_drewN | apply Kd.R_drew)); exact HO528.out) hb); have n1_ := Aside0.mk (Kd.R_below (by (with_reducible repeat (first | apply Kd.R_alloc | apply Kd.R_drewN | apply Kd.R_drew)); exact HO532.out) hb); have n2_ := Aside0.mk (blk_below (g := gb525) (o := .cells #[.int .i64 a1_0, .int .i64 a1_1] 23 (0, 0)) (by (with_reducible repeat (first | refine blk_drewN ?_ _ | refine blk_drew ?_ | refine blk_alloc ?_ _)); exact BK525.out) hb); have n3_ := Aside0.mk (blk_below (g := gb535) (o := .cells #[.bool false, .slice Ao33 t530.length co33, .string t533] 55 (0, 0)) (by (with_reducible repeat (first | refine blk_drewN ?_ _ | refine blk_drew ?_ | refine blk_alloc ?_ _)); exact BK535.out) hb); have n4_ := Aside0.mk (below_step (by repeat (first | (with_reducible first | exact HB.out | apply below_alloc | apply pw_below_drewN | apply below_drew1 | refine below_set ?_ GE525.out | refine below_set ?_ GE535.out) | exact HB.out)) hb); clear HO528; clear HO532; clear BK525; clear BK535; clear HB; have HO528 := n0_; have HO532 := n1_; have BK525 := n2_; have BK535 := n3_; have HB := n4_; clear n0_ n1_ n2_ n3_ n4_; (try clear hb); (try clear hb2); (try clear hk); (try clear hi)) | (go_at_call 19; (with_reducible refine (tickinglaw06_awake.calls k  t538 _ A24.out).mono ?_); rintro e w37 ⟨rfl, hb⟩; have n0_ := Aside0.mk (Kd.R_below (by (with_reducible repeat (first | apply Kd.R_alloc | apply Kd.R_drewN | apply Kd.R_drew)); exact HO528.out) hb); have n1_ := Aside0.mk (Kd.R_below (by (with_reducible repeat (first | apply Kd.R_alloc | apply Kd.R_drewN | apply Kd.R_drew)); exact HO532.out) hb); have n2_ := Aside0.mk (blk_below (g := gb525) (o := .cells #[.int .i64 a1_0, .int .i64 a1_1] 23 (0, 0)) (by (with_reducible repeat (first | refine blk_drewN ?_ _ | refine blk_drew ?_ | refine blk_alloc ?_ _)); exact BK525.out) hb); have n3_ := Aside0.mk (blk_below (g := gb535) (o := .cells #[.bool false, .slice Ao33 t530.length co33, .string t533] 55 (0, 0)) (by (with_reducible repeat (first | refine blk_drewN ?_ _ | refine blk_drew ?_ | refine blk_alloc ?_ _)); exact BK535.out) hb); have n4_ := Aside0.mk (below_step (by repeat (first | (with_reducible first | exact HB.out | apply below_alloc | apply pw_below_drewN | apply below_drew1 | refine below_set ?_ GE525.out | refine below_set ?_ GE535.out) | exact HB.out)) hb); clear HO528; clear HO532; clear BK525; clear BK535; clear HB; have HO528 := n0_; have HO532 := n1_; have BK525 := n2_; have BK535 := n3_; have HB := n4_; clear n0_ n1_ n2_ n3_ n4_; (try clear hb); (try clear hb2); (try clear hk); (try clear hi)))
  go_ret
  exact ⟨by first | rfl | (simp [errW_none, errW_some] <;> rfl) | (simp [*, errW_none, errW_some] <;> rfl), by repeat (first | (with_reducible first | exact HB.out | apply below_alloc | apply pw_below_drewN | apply below_drew1 | refine below_set ?_ GE525.out | refine below_set ?_ GE535.out) | exact HB.out)⟩
 replace c6 := Bool.eq_false_iff.mpr c6
 subst c6
 have H1 : (if t534 = 0 then ((tickingref06_Subtypes.f k t526).bind fun t539 => (if 0 ≤ (wrap64 ((wrap64 ((t526.length : Int) * a1_0)) + a1_1)) then (if (wrap64 ((wrap64 ((t526.length : Int) * a1_0)) + a1_1)) < (t539.length : Int) then (if (t529 == (rdOf false t539 (wrap64 ((wrap64 ((t526.length : Int) * a1_0)) + a1_1)))) = true then ((tickingref06_Right.f k t526 a1_0 a1_1 t529 t530 t533).bind fun t543 => (if t543 = true then ((loops_Check.f k t526 a1_0 a1_1 t529 t530 t533).bind fun t544 => (if t544 = 0 then ((tickinglaw06_awake.f k).bind fun t545 => (some t545)) else (some false))) else (some false))) else (some false)) else (none)) else (none))) else (some false)) = some r := by rw [if_neg (show ¬ (false = true) by decide)] at H; exact H
 clear H
 have H := H1
 clear H1
 by_cases c83 : t534 = 0
 rotate_left
 ·rw [if_neg c83] at H
  have c83b0 : (t534 == 0) = false := beq_eq_false_iff_ne.mpr c83
  have c83b1 : (t534 != 0) = true := bne_iff_ne.mpr c83
  exact absurd ((Option.some.inj H).trans HTR.out) (by decide)
 rw [if_pos c83] at H
 have c83b0 : (t534 == 0) = true := beq_iff_eq.mpr c83
 have c83b1 : (t534 != 0) = false := bne_eq_false_iff_eq.mpr c83
 clear c83
 replace H := Option.bind_eq_some_iff.mp H
 obtain ⟨t539, A840, H⟩ := H
 replace H : (if 0 ≤ (wrap64 ((wrap64 ((t526.length : Int) * a1_0)) + a1_1)) then (if (wrap64 ((wrap64 ((t526.length : Int) * a1_0)) + a1_1)) < (t539.length : Int) then (if (t529 == (rdOf false t539 (wrap64 ((wrap64 ((t526.length : Int) * a1_0)) + a1_1)))) = true then ((tickingref06_Right.f k t526 a1_0 a1_1 t529 t530 t533).bind fun t543 => (if t543 = true then ((loops_Check.f k t526 a1_0 a1_1 t529 t530 t533).bind fun t544 => (if t544 = 0 then ((tickinglaw06_awake.f k).bind fun t545 => (some t545)) else (some false))) else (some false))) else (some false)) else (none)) else (none)) = some r := H
 have A84 := Aside0.mk A840
 clear A840
 obtain ⟨ji85, hji85⟩ : ∃ j_ : Int, (wrap64 ((wrap64 ((t526.length : Int) * a1_0)) + a1_1)) = j_ := ⟨_, rfl⟩
 replace H : (if 0 ≤ (ji85) then (if (ji85) < (t539.length : Int) then (if (t529 == (rdOf false t539 (ji85))) = true then ((tickingref06_Right.f k t526 a1_0 a1_1 t529 t530 t533).bind fun t543 => (if t543 = true then ((loops_Check.f k t526 a1_0 a1_1 t529 t530 t533).bind fun t544 => (if t544 = 0 then ((tickinglaw06_awake.f k).bind fun t545 => (some t545)) else (some false))) else (some false))) else (some false)) else (none)) else (none)) = some r := by first | (rw [hji85] at H; exact H) | (simp only [hji85] at H ⊢; exact H)
 (try rw [hji85] at A3)
 (try rw [hji85] at A4)
 (try rw [hji85] at A5)
 (try rw [hji85] at A84)
 have hji85w : (IntKind.i64.wrap ((wrap64 ((t526.length : Int) * a1_0)) + a1_1)) = ji85 := (i64_w _).trans hji85
 by_cases c86 : 0 ≤ (ji85)
 rotate_left
 ·rw [if_neg c86] at H
  exact absurd H (by simp)
 rw [if_pos c86] at H
 have c86b0 : decide (0 ≤ (ji85)) = true := decide_eq_true c86
 clear c86
 by_cases c87 : (ji85) < (t539.length : Int)
 rotate_left
 ·rw [if_neg c87] at H
  exact absurd H (by simp)
 rw [if_pos c87] at H
 have c87b0 : decide ((ji85) < (t539.length : Int)) = true := decide_eq_true c87
 clear c87
 by_cases c88 : (t529 == (rdOf false t539 (ji85))) = true
 rotate_left
 ·rw [if_neg c88] at H
  have c88b0 : (t529 == (rdOf false t539 (ji85))) = false := by simpa using c88
  (try (have c88b1 : decide (t529 = (rdOf false t539 (ji85))) = false := by simpa using c88))
  (try (have c88b2 : (t529 == (rdOf false t539 (ji85))) = false := by simpa using c88))
  (try (have c88b3 : ¬ (t529 = (rdOf false t539 (ji85))) := by simpa using c88))
  clear c88
  exact absurd ((Option.some.inj H).trans HTR.out) (by decide)
 rw [if_pos c88] at H
 have c88b0 : (t529 == (rdOf false t539 (ji85))) = true := c88
 (try (have c88b1 : decide (t529 = (rdOf false t539 (ji85))) = true := by simpa using c88))
 (try (have c88b2 : (t529 == (rdOf false t539 (ji85))) = true := by simpa using c88))
 clear c88
 replace H := Option.bind_eq_some_iff.mp H
 obtain ⟨t543, A890, H⟩ := H
 replace H : (if t543 = true then ((loops_Check.f k t526 a1_0 a1_1 t529 t530 t533).bind fun t544 => (if t544 = 0 then ((tickinglaw06_awake.f k).bind fun t545 => (some t545)) else (some false))) else (some false)) = some r := H
 have A89 := Aside0.mk A890
 clear A890
 by_cases c90 : t543 = true
 rotate_left
 ·replace c90 := Bool.eq_false_iff.mpr c90
  subst c90
  have H1 : (some false) = some r := by rw [if_neg (show ¬ (false = true) by decide)] at H; exact H
  clear H
  have H := H1
  clear H1
  exact absurd ((Option.some.inj H).trans HTR.out) (by decide)
 subst c90
 have H1 : ((loops_Check.f k t526 a1_0 a1_1 t529 t530 t533).bind fun t544 => (if t544 = 0 then ((tickinglaw06_awake.f k).bind fun t545 => (some t545)) else (some false))) = some r := by rw [if_pos rfl] at H; exact H
 clear H
 have H := H1
 clear H1
 replace H := Option.bind_eq_some_iff.mp H
 obtain ⟨t544, A910, H⟩ := H
 replace H : (if t544 = 0 then ((tickinglaw06_awake.f k).bind fun t545 => (some t545)) else (some false)) = some r := H
 have A91 := Aside0.mk A910
 clear A910
 by_cases c92 : t544 = 0
 rotate_left
 ·rw [if_neg c92] at H
  have c92b0 : (t544 == 0) = false := beq_eq_false_iff_ne.mpr c92
  have c92b1 : (t544 != 0) = true := bne_iff_ne.mpr c92
  exact absurd ((Option.some.inj H).trans HTR.out) (by decide)
 rw [if_pos c92] at H
 have c92b0 : (t544 == 0) = true := beq_iff_eq.mpr c92
 have c92b1 : (t544 != 0) = false := bne_eq_false_iff_eq.mpr c92
 clear c92
 replace H := Option.bind_eq_some_iff.mp H
 obtain ⟨t545, A930, H⟩ := H
 replace H : (some t545) = some r := H
 have A93 := Aside0.mk A930
 clear A930
 obtain rfl := Option.some.inj H
 go_enter Try.func9, Try.ntmps9
 try go_wp2_with (first | ((with_reducible refine gate_dst (N := 3) rfl ?_); (try (refine gate_guard (by rfl) ?_; dsimp only)); refine box_event ?hg (N := 3) ?hd (cs := #[.int .i64 a1_0, .int .i64 a1_1]) (t := 23) ?hr ?_; (case hd => rfl); (case hg => rfl); (case hr => first | (go_simp; done) | (go_simp; rfl)); intro gb525 hg w94 hbox hb; have n0_ := Aside0.mk (below_step (by repeat (first | (with_reducible first | exact HB.out | apply below_alloc | apply pw_below_drewN | apply below_drew1) | exact HB.out)) hb); have n1_ := Aside0.mk (hbox); have n2_ := Aside0.mk ((by rw [hg]; exact (below_size (by repeat (first | (with_reducible first | exact HB.out | apply below_alloc | apply pw_below_drewN | apply below_drew1) | exact HB.out))) : w.heap.size ≤ gb525)); have n3_ := Aside0.mk ((by rw [hg]; exact (below_size (by repeat (first | (with_reducible first | exact HB.out | apply below_alloc | apply pw_below_drewN | apply below_drew1) | exact HB.out))) : w.heap.size ≤ gb525)); clear HB; have HB := n0_; have BK525 := n1_; have GW525 := n2_; have GE525 := n3_; clear n0_ n1_ n2_ n3_; clear hb hbox hg) | ((with_reducible refine gate_callee (f := 15) rfl ?_); refine goesL_ (some 11) rfl rfl Try.func15 (by kernel_rfl) rfl #[.slice A0 l0.length c0] rfl (by (try simp only [List.map_toArray, List.map_cons, List.map_nil]); first | done | rfl | (simp only [List.length_drop, List.length_take]; rfl)) ?_; (with_reducible refine (tickinglaw06_own.calls _ _ l0 t526 _ ?side1 ?side2 A3.out).mono ?_); (case side1 => repeat (first | exact (Kd.C_below HR0.out HB.out) | (with_reducible refine Kd.C_alloc ?_ _) | (with_reducible refine Kd.C_drewN ?_ _) | (with_reducible refine Kd.C_drew ?_))); (case side2 => exact HC0.out); rintro e w95 ⟨v527, rfl, ho0, hb⟩; refine ⟨_, rfl, ?_⟩; have n0_ := Aside0.mk (Kd.R_lower ho0 (below_size (by repeat (first | (with_reducible first | exact HB.out | apply below_alloc | apply pw_below_drewN | apply below_drew1 | refine below_set ?_ GE525.out) | exact HB.out)))); have n1_ := Aside0.mk (blk_below (g := gb525) (o := .cells #[.int .i64 a1_0, .int .i64 a1_1] 23 (0, 0)) (by (with_reducible repeat (first | refine blk_drewN ?_ _ | refine blk_drew ?_ | refine blk_alloc ?_ _)); exact BK525.out) hb); have n2_ := Aside0.mk (below_step (by repeat (first | (with_reducible first | exact HB.out | apply below_alloc | apply pw_below_drewN | apply below_drew1 | refine below_set ?_ GE525.out) | exact HB.out)) hb); clear BK525; clear HB; have HO528 := n0_; have BK525 := n1_; have HB := n2_; clear n0_ n1_ n2_; (try clear hb); (try clear hb2); (try clear hk); (try clear hi); (try clear ho0)))
 have n0_ := Aside0.mk (Kd.R_drew HO528.out)
 have n1_ := Aside0.mk (blk_drew BK525.out)
 have n2_ := Aside0.mk (below_drew1 HB.out)
 clear HO528
 clear BK525
 clear HB
 have HO528 := n0_
 have BK525 := n1_
 have HB := n2_
 clear n0_ n1_ n2_
 refine start_ (n := 6) (S := fun w' => w'.cell? ⟨gb525, 0, none⟩ = some (.int .i64 a1_0) ∧ w'.cell? ⟨gb525, 1, none⟩ = some (.int .i64 a1_1)) (ds := []) #[false, false, false, false, false, false] (by kernel_rfl) rfl rfl ⟨(blk_cell BK525.out 0).trans rfl, (blk_cell BK525.out 1).trans rfl⟩ (fun hHeld => ?_)
 generalize w95.drew = w96 at HO528 BK525 HB hHeld ⊢
 refine pure_ (i := 0) (N := some 12) (v := ?_) (a' := ?_) #[true, false, false, false, false, false] rfl rfl (by kernel_rfl) (fun _ _ _ h => h) (Or.inl ⟨by rfl, ?_⟩) ?_ ?_
 rotate_left
 ·intro w'
  go_simp
  with_reducible rfl
 rotate_left
 ·simp only [Act.put, List.setIfInBounds_toArray, List.set_cons_zero, List.set_cons_succ, i64_w, i32_w]
  rfl
 refine pure_ (i := 2) (N := some 14) (v := ?_) (a' := ?_) #[true, false, true, false, false, false] rfl rfl (by kernel_rfl) (fun _ _ _ h => h) (Or.inl ⟨by rfl, ?_⟩) ?_ ?_
 rotate_left
 ·intro w'
  go_simp
  with_reducible rfl
 rotate_left
 ·simp only [Act.put, List.setIfInBounds_toArray, List.set_cons_zero, List.set_cons_succ, i64_w, i32_w]
  rfl
 refine take_ (i := 1) (N := some 13) (v := ?_) (a' := ?_) #[true, true, true, false, false, false] rfl rfl (by kernel_rfl) (fun _ _ _ h => h) (Or.inl ⟨by rfl, ?_⟩) hHeld ?_ ?_
 rotate_left
 ·rintro w' ⟨s0, s1⟩
  go_simp
  with_reducible rfl
 rotate_left
 ·simp only [Act.put, List.setIfInBounds_toArray, List.set_cons_zero, List.set_cons_succ, i64_w, i32_w]
  rfl
 refine pure_ (i := 4) (N := some 6) (v := ?_) (a' := ?_) #[true, true, true, false, true, false] rfl rfl (by kernel_rfl) (fun _ _ _ h => h) (Or.inl ⟨by rfl, ?_⟩) ?_ ?_
 rotate_left
 ·intro w'
  go_simp
  with_reducible rfl
 rotate_left
 ·simp only [Act.put, List.setIfInBounds_toArray, List.set_cons_zero, List.set_cons_succ, i64_w, i32_w]
  rfl
 refine take_ (i := 3) (N := some 15) (v := ?_) (a' := ?_) #[true, true, true, true, true, false] rfl rfl (by kernel_rfl) (fun _ _ _ h => h) (Or.inl ⟨by rfl, ?_⟩) hHeld ?_ ?_
 rotate_left
 ·rintro w' ⟨s0, s1⟩
  go_simp
  with_reducible rfl
 rotate_left
 ·simp only [Act.put, List.setIfInBounds_toArray, List.set_cons_zero, List.set_cons_succ, i64_w, i32_w]
  rfl
 refine pure_ (i := 5) (N := some 7) (v := ?_) (a' := ?_) #[true, true, true, true, true, true] rfl rfl (by kernel_rfl) (fun _ _ _ h => h) (Or.inl ⟨by rfl, ?_⟩) ?_ ?_
 rotate_left
 ·intro w'
  go_simp
  with_reducible rfl
 rotate_left
 ·simp only [Act.put, List.setIfInBounds_toArray, List.set_cons_zero, List.set_cons_succ, i64_w, i32_w]
  rfl
 refine done_ (by kernel_rfl) ?_
 obtain ⟨Ao97, co97, eo97⟩ := Kd.R_slice HO528.out
 subst eo97
 try go_wp2_with (first | ((with_reducible refine gate_callee (f := 33) rfl ?_); refine goesL_ (some 20) rfl rfl Try.func33 (by kernel_rfl) rfl #[.slice Ao97 t526.length co97, .int .i64 a1_0, .int .i64 a1_1] rfl (by (try simp only [List.map_toArray, List.map_cons, List.map_nil]); first | done | rfl | (simp only [List.length_drop, List.length_take]; rfl)) ?_; (with_reducible refine (loops_Sub.calls k _ _ t526 a1_0 a1_1 t529 t530 t533 t534 _ ?side1 ?side2 A4.out).mono ?_); (case side1 => repeat (first | exact (Kd.R_reads' HO528.out).2.2 | (with_reducible refine Kd.C_alloc ?_ _) | (with_reducible refine Kd.C_drewN ?_ _) | (with_reducible refine Kd.C_drew ?_))); (case side2 => exact (Kd.R_reads' HO528.out).2.1); rintro e w98 ⟨v531, rfl, ho0, hb⟩; refine ⟨_, rfl, ?_⟩; have n0_ := Aside0.mk (Kd.R_below (by (with_reducible repeat (first | apply Kd.R_alloc | apply Kd.R_drewN | apply Kd.R_drew)); exact HO528.out) hb); have n1_ := Aside0.mk (Kd.R_lower (Kd.R_newB ho0 (g := gb525) (o := .cells #[.int .i64 a1_0, .int .i64 a1_1] 23 (0, 0)) (by (with_reducible repeat (first | refine blk_drewN ?_ _ | refine blk_drew ?_ | refine blk_alloc ?_ _)); exact BK525.out)) (below_size (by repeat (first | (with_reducible first | exact HB.out | apply below_alloc | apply pw_below_drewN | apply below_drew1 | refine below_set ?_ GE525.out) | exact HB.out)))); have n2_ := Aside0.mk (blk_below (g := gb525) (o := .cells #[.int .i64 a1_0, .int .i64 a1_1] 23 (0, 0)) (by (with_reducible repeat (first | refine blk_drewN ?_ _ | refine blk_drew ?_ | refine blk_alloc ?_ _)); exact BK525.out) hb); have n3_ := Aside0.mk (below_step (by repeat (first | (with_reducible first | exact HB.out | apply below_alloc | apply pw_below_drewN | apply below_drew1 | refine below_set ?_ GE525.out) | exact HB.out)) hb); clear HO528; clear BK525; clear HB; have HO528 := n0_; have HO532 := n1_; have BK525 := n2_; have HB := n3_; clear n0_ n1_ n2_ n3_; (try clear hb); (try clear hb2); (try clear hk); (try clear hi); (try clear ho0)) | ((with_reducible refine gate_dst (N := 8) rfl ?_); (try (refine gate_guard (by rfl) ?_; dsimp only)); refine box_event ?hg (N := 8) ?hd (cs := #[.bool false, .slice none 0 0, .string (⟨#[]⟩ : ByteArray)]) (t := 55) ?hr ?_; (case hd => rfl); (case hg => rfl); (case hr => first | (go_simp; done) | (go_simp; rfl)); intro gb535 hg w99 hbox hb; have n0_ := Aside0.mk (Kd.R_below (by (with_reducible repeat (first | apply Kd.R_alloc | apply Kd.R_drewN | apply Kd.R_drew)); exact HO528.out) hb); have n1_ := Aside0.mk (Kd.R_below (by (with_reducible repeat (first | apply Kd.R_alloc | apply Kd.R_drewN | apply Kd.R_drew)); exact HO532.out) hb); have n2_ := Aside0.mk (blk_below (g := gb525) (o := .cells #[.int .i64 a1_0, .int .i64 a1_1] 23 (0, 0)) (by (with_reducible repeat (first | refine blk_drewN ?_ _ | refine blk_drew ?_ | refine blk_alloc ?_ _)); exact BK525.out) hb); have n3_ := Aside0.mk (below_step (by repeat (first | (with_reducible first | exact HB.out | apply below_alloc | apply pw_below_drewN | apply below_drew1 | refine below_set ?_ GE525.out) | exact HB.out)) hb); have n4_ := Aside0.mk (hbox); have n5_ := Aside0.mk ((by rw [hg]; exact (below_size (by repeat (first | (with_reducible first | exact HB.out | apply below_alloc | apply pw_below_drewN | apply below_drew1 | refine below_set ?_ GE525.out) | exact HB.out))) : w.heap.size ≤ gb535)); have n6_ := Aside0.mk ((by rw [hg]; exact (below_size (by repeat (first | (with_reducible first | exact HB.out | apply below_alloc | apply pw_below_drewN | apply below_drew1 | refine below_set ?_ GE525.out) | exact HB.out))) : w.heap.size ≤ gb535)); have n7_ := Aside0.mk ((by rw [hg]; exact Nat.ne_of_lt (blk_lt (g := gb525) (o := .cells #[.int .i64 a1_0, .int .i64 a1_1] 23 (0, 0)) (by (with_reducible repeat (first | refine blk_drewN ?_ _ | refine blk_drew ?_ | refine blk_alloc ?_ _)); exact BK525.out)) : gb525 ≠ gb535)); have n8_ := Aside0.mk ((by rw [hg]; exact Nat.ne_of_gt (blk_lt (g := gb525) (o := .cells #[.int .i64 a1_0, .int .i64 a1_1] 23 (0, 0)) (by (with_reducible repeat (first | refine blk_drewN ?_ _ | refine blk_drew ?_ | refine blk_alloc ?_ _)); exact BK525.out)) : gb535 ≠ gb525)); clear HO528; clear HO532; clear BK525; clear HB; have HO528 := n0_; have HO532 := n1_; have BK525 := n2_; have HB := n3_; have BK535 := n4_; have GW535 := n5_; have GE535 := n6_; have NB525_535 := n7_; have NB535_525 := n8_; clear n0_ n1_ n2_ n3_ n4_ n5_ n6_ n7_ n8_; clear hb hbox hg; have hnb100 := NB535_525.out; have hnc100 := NB525_535.out; have hcz101_0 : w99.cell? ⟨gb535, 0, none⟩ = some (.bool false) := (blk_cell BK535.out 0).trans rfl; have hcz101_1 : w99.cell? ⟨gb535, 1, none⟩ = some (.slice none 0 0) := (blk_cell BK535.out 1).trans rfl; have hcz101_2 : w99.cell? ⟨gb535, 2, none⟩ = some (.string (⟨#[]⟩ : ByteArray)) := (blk_cell BK535.out 2).trans rfl; have hfz101_0 := blk_frozen BK535.out 0; have hfz101_1 := blk_frozen BK535.out 1; have hfz101_2 := blk_frozen BK535.out 2; obtain ⟨Ao102, co102, eo102⟩ := Kd.R_slice HO532.out; subst eo102) | ((with_reducible refine gate_callee (f := 18) rfl ?_); refine goesL_ (some 26) rfl rfl Try.func18 (by kernel_rfl) rfl #[.slice Ao97 t526.length co97, .int .i64 a1_0, .int .i64 a1_1] rfl (by (try simp only [List.map_toArray, List.map_cons, List.map_nil]); first | done | rfl | (simp only [List.length_drop, List.length_take]; rfl)) ?_; (with_reducible refine (tickinglaw06_bad.calls k _ _ t526 a1_0 a1_1 false _ ?side1 ?side2 A5.out).mono ?_); (case side1 => refine (Kd.R_reads' (e := 39) (base := w.heap.size) (ok := fun k_ => True) (n := t526.length) (c := co97) ?_).2.2; exact (by (with_reducible repeat (first | apply Kd.R_alloc | apply Kd.R_drewN | apply Kd.R_drew)); exact (Kd.R_mono (Kd.R_far (p := ⟨gb535, 2, none⟩) (Kd.R_far (p := ⟨gb535, 1, none⟩) (Kd.R_far (p := ⟨gb535, 0, none⟩) (Kd.R_types HO528.out BK535.out (by decide)) (fun _ hk => hk.2) (.bool t529)) (fun _ hk => hk.2) (.slice Ao102 t530.length co102)) (fun _ hk => hk.2) (.string t533)) (fun _ h_ => h_.1)))); (case side2 => exact (Kd.R_reads' HO528.out).2.1); rintro e w103 ⟨rfl, hb⟩; refine ⟨_, rfl, ?_⟩; have n0_ := Aside0.mk (Kd.R_below (by (with_reducible repeat (first | apply Kd.R_alloc | apply Kd.R_drewN | apply Kd.R_drew)); exact (Kd.R_mono (Kd.R_far (p := ⟨gb535, 2, none⟩) (Kd.R_far (p := ⟨gb535, 1, none⟩) (Kd.R_far (p := ⟨gb535, 0, none⟩) (Kd.R_types HO528.out BK535.out (by decide)) (fun _ hk => hk.2) (.bool t529)) (fun _ hk => hk.2) (.slice Ao102 t530.length co102)) (fun _ hk => hk.2) (.string t533)) (fun _ h_ => h_.1))) hb); have n1_ := Aside0.mk (Kd.R_below (by (with_reducible repeat (first | apply Kd.R_alloc | apply Kd.R_drewN | apply Kd.R_drew)); exact (Kd.R_mono (Kd.R_far (p := ⟨gb535, 2, none⟩) (Kd.R_far (p := ⟨gb535, 1, none⟩) (Kd.R_far (p := ⟨gb535, 0, none⟩) (Kd.R_types HO532.out BK535.out (by decide)) (fun _ hk => hk.2) (.bool t529)) (fun _ hk => hk.2) (.slice Ao102 t530.length co102)) (fun _ hk => hk.2) (.string t533)) (fun _ h_ => h_.1))) hb); have n2_ := Aside0.mk (blk_below (g := gb525) (o := .cells #[.int .i64 a1_0, .int .i64 a1_1] 23 (0, 0)) (by (with_reducible repeat (first | refine blk_drewN ?_ _ | refine blk_drew ?_ | refine blk_alloc ?_ _)); refine blk_far ?_ NB525_535.out _; (with_reducible repeat (first | refine blk_drewN ?_ _ | refine blk_drew ?_ | refine blk_alloc ?_ _)); refine blk_far ?_ NB525_535.out _; (with_reducible repeat (first | refine blk_drewN ?_ _ | refine blk_drew ?_ | refine blk_alloc ?_ _)); refine blk_far ?_ NB525_535.out _; (with_reducible repeat (first | refine blk_drewN ?_ _ | refine blk_drew ?_ | refine blk_alloc ?_ _)); exact BK525.out) hb); have n3_ := Aside0.mk (blk_below (g := gb535) (o := .cells #[.bool t529, .slice Ao102 t530.length co102, .string t533] 55 (0, 0)) (by (with_reducible repeat (first | refine blk_drewN ?_ _ | refine blk_drew ?_ | refine blk_alloc ?_ _)); refine blk_put (cs := #[.bool t529, .slice Ao102 t530.length co102, .string (⟨#[]⟩ : ByteArray)]) ?_ 2 _ rfl; (with_reducible repeat (first | refine blk_drewN ?_ _ | refine blk_drew ?_ | refine blk_alloc ?_ _)); refine blk_put (cs := #[.bool t529, .slice none 0 0, .string (⟨#[]⟩ : ByteArray)]) ?_ 1 _ rfl; (with_reducible repeat (first | refine blk_drewN ?_ _ | refine blk_drew ?_ | refine blk_alloc ?_ _)); refine blk_put (cs := #[.bool false, .slice none 0 0, .string (⟨#[]⟩ : ByteArray)]) ?_ 0 _ rfl; (with_reducible repeat (first | refine blk_drewN ?_ _ | refine blk_drew ?_ | refine blk_alloc ?_ _)); exact BK535.out) hb); have n4_ := Aside0.mk (below_step (by repeat (first | (with_reducible first | exact HB.out | apply below_alloc | apply pw_below_drewN | apply below_drew1 | refine below_set ?_ GE525.out | refine below_set ?_ GE535.out) | exact HB.out)) hb); clear HO528; clear HO532; clear BK525; clear BK535; clear HB; have HO528 := n0_; have HO532 := n1_; have BK525 := n2_; have BK535 := n3_; have HB := n4_; clear n0_ n1_ n2_ n3_ n4_; (try clear hb); (try clear hb2); (try clear hk); (try clear hi)))
 have n0_ := Aside0.mk (Kd.R_drew HO528.out)
 have n1_ := Aside0.mk (Kd.R_drew HO532.out)
 have n2_ := Aside0.mk (blk_drew BK525.out)
 have n3_ := Aside0.mk (blk_drew BK535.out)
 have n4_ := Aside0.mk (below_drew1 HB.out)
 clear HO528
 clear HO532
 clear BK525
 clear BK535
 clear HB
 have HO528 := n0_
 have HO532 := n1_
 have BK525 := n2_
 have BK535 := n3_
 have HB := n4_
 clear n0_ n1_ n2_ n3_ n4_
 refine start_ (n := 36) (S := fun w' => w'.cell? ⟨gb535, 0, none⟩ = some (.bool t529) ∧ w'.cell? ⟨gb535, 1, none⟩ = some (.slice Ao102 t530.length co102) ∧ w'.cell? ⟨gb535, 2, none⟩ = some (.string t533)) (ds := []) #[false, false, false, false, false, false, false, false, false, false, false, false, false, false, false, false, false, false, false, false, false, false, false, false, false, false, false, false, false, false, false, false, false, false, false, false] (by kernel_rfl) rfl rfl ⟨(blk_cell BK535.out 0).trans rfl, (blk_cell BK535.out 1).trans rfl, (blk_cell BK535.out 2).trans rfl⟩ (fun hHeld => ?_); refine with_tabW tickinglaw06_LoopsSubs.tab6 tickinglaw06_LoopsSubs.bits6 (fun HT_ HW_ => ?_)
 generalize w103.drew = w104 at HO528 HO532 BK525 BK535 HB hHeld ⊢
 refine pure_ (i := 0) (N := some 56) (v := ?_) (a' := ?_) #[true, false, false, false, false, false, false, false, false, false, false, false, false, false, false, false, false, false, false, false, false, false, false, false, false, false, false, false, false, false, false, false, false, false, false, false] rfl rfl (any_of HT_.out (by kernel_rfl)) (fun _ _ _ h => h) (Or.inl ⟨by rfl, ?_⟩) ?_ ?_
 rotate_left
 ·intro w'
  go_simp
  with_reducible rfl
 rotate_left
 ·simp only [Act.put, List.setIfInBounds_toArray, List.set_cons_zero, List.set_cons_succ, i64_w, i32_w]
  rfl
 refine pure_ (i := 1) (N := some 57) (v := ?_) (a' := ?_) #[true, true, false, false, false, false, false, false, false, false, false, false, false, false, false, false, false, false, false, false, false, false, false, false, false, false, false, false, false, false, false, false, false, false, false, false] rfl rfl (any_of HT_.out (by kernel_rfl)) (fun _ _ _ h => h) (Or.inl ⟨by rfl, ?_⟩) ?_ ?_
 rotate_left
 ·intro w'
  go_simp
  with_reducible rfl
 rotate_left
 ·simp only [Act.put, List.setIfInBounds_toArray, List.set_cons_zero, List.set_cons_succ, i64_w, i32_w]
  rfl
 refine pure_ (i := 2) (N := some 58) (v := ?_) (a' := ?_) #[true, true, true, false, false, false, false, false, false, false, false, false, false, false, false, false, false, false, false, false, false, false, false, false, false, false, false, false, false, false, false, false, false, false, false, false] rfl rfl (any_of HT_.out (by kernel_rfl)) (fun _ _ _ h => h) (Or.inl ⟨by rfl, ?_⟩) ?_ ?_
 rotate_left
 ·intro w'
  go_simp
  with_reducible rfl
 rotate_left
 ·simp only [Act.put, List.setIfInBounds_toArray, List.set_cons_zero, List.set_cons_succ, i64_w, i32_w]
  rfl
 refine pure_ (i := 3) (N := some 59) (v := ?_) (a' := ?_) #[true, true, true, true, false, false, false, false, false, false, false, false, false, false, false, false, false, false, false, false, false, false, false, false, false, false, false, false, false, false, false, false, false, false, false, false] rfl rfl (any_of HT_.out (by kernel_rfl)) (fun _ _ _ h => h) (Or.inl ⟨by rfl, ?_⟩) ?_ ?_
 rotate_left
 ·intro w'
  go_simp
  with_reducible rfl
 rotate_left
 ·simp only [Act.put, List.setIfInBounds_toArray, List.set_cons_zero, List.set_cons_succ, i64_w, i32_w]
  rfl
 refine pure_ (i := 5) (N := some 61) (v := ?_) (a' := ?_) #[true, true, true, true, false, true, false, false, false, false, false, false, false, false, false, false, false, false, false, false, false, false, false, false, false, false, false, false, false, false, false, false, false, false, false, false] rfl rfl (any_of HT_.out (by kernel_rfl)) (fun _ _ _ h => h) (Or.inl ⟨by rfl, ?_⟩) ?_ ?_
 rotate_left
 ·intro w'
  go_simp
  with_reducible rfl
 rotate_left
 ·simp only [Act.put, List.setIfInBounds_toArray, List.set_cons_zero, List.set_cons_succ, i64_w, i32_w]
  rfl
 refine pure_ (i := 7) (N := some 63) (v := ?_) (a' := ?_) #[true, true, true, true, false, true, false, true, false, false, false, false, false, false, false, false, false, false, false, false, false, false, false, false, false, false, false, false, false, false, false, false, false, false, false, false] rfl rfl (any_of HT_.out (by kernel_rfl)) (fun _ _ _ h => h) (Or.inl ⟨by rfl, ?_⟩) ?_ ?_
 rotate_left
 ·intro w'
  go_simp
  with_reducible rfl
 rotate_left
 ·simp only [Act.put, List.setIfInBounds_toArray, List.set_cons_zero, List.set_cons_succ, i64_w, i32_w]
  rfl
 refine pure_ (i := 8) (N := some 64) (v := ?_) (a' := ?_) #[true, true, true, true, false, true, false, true, true, false, false, false, false, false, false, false, false, false, false, false, false, false, false, false, false, false, false, false, false, false, false, false, false, false, false, false] rfl rfl (any_of HT_.out (by kernel_rfl)) (fun _ _ _ h => h) (Or.inl ⟨by rfl, ?_⟩) ?_ ?_
 rotate_left
 ·intro w'
  go_simp
  with_reducible rfl
 rotate_left
 ·simp only [Act.put, List.setIfInBounds_toArray, List.set_cons_zero, List.set_cons_succ, i64_w, i32_w]
  rfl
 refine pure_ (i := 9) (N := some 65) (v := ?_) (a' := ?_) #[true, true, true, true, false, true, false, true, true, true, false, false, false, false, false, false, false, false, false, false, false, false, false, false, false, false, false, false, false, false, false, false, false, false, false, false] rfl rfl (any_of HT_.out (by kernel_rfl)) (fun _ _ _ h => h) (Or.inl ⟨by rfl, ?_⟩) ?_ ?_
 rotate_left
 ·intro w'
  go_simp
  with_reducible rfl
 rotate_left
 ·simp only [Act.put, List.setIfInBounds_toArray, List.set_cons_zero, List.set_cons_succ, i64_w, i32_w]
  rfl
 refine pure_ (i := 10) (N := some 66) (v := ?_) (a' := ?_) #[true, true, true, true, false, true, false, true, true, true, true, false, false, false, false, false, false, false, false, false, false, false, false, false, false, false, false, false, false, false, false, false, false, false, false, false] rfl rfl (any_of HT_.out (by kernel_rfl)) (fun _ _ _ h => h) (Or.inl ⟨by rfl, ?_⟩) ?_ ?_
 rotate_left
 ·intro w'
  go_simp
  with_reducible rfl
 rotate_left
 ·simp only [Act.put, List.setIfInBounds_toArray, List.set_cons_zero, List.set_cons_succ, i64_w, i32_w]
  rfl
 refine pure_ (i := 11) (N := some 67) (v := ?_) (a' := ?_) #[true, true, true, true, false, true, false, true, true, true, true, true, false, false, false, false, false, false, false, false, false, false, false, false, false, false, false, false, false, false, false, false, false, false, false, false] rfl rfl (any_of HT_.out (by kernel_rfl)) (fun _ _ _ h => h) (Or.inl ⟨by rfl, ?_⟩) ?_ ?_
 rotate_left
 ·intro w'
  go_simp
  with_reducible rfl
 rotate_left
 ·simp only [Act.put, List.setIfInBounds_toArray, List.set_cons_zero, List.set_cons_succ, i64_w, i32_w]
  rfl
 refine pure_ (i := 12) (N := some 68) (v := ?_) (a' := ?_) #[true, true, true, true, false, true, false, true, true, true, true, true, true, false, false, false, false, false, false, false, false, false, false, false, false, false, false, false, false, false, false, false, false, false, false, false] rfl rfl (any_of HT_.out (by kernel_rfl)) (fun _ _ _ h => h) (Or.inl ⟨by rfl, ?_⟩) ?_ ?_
 rotate_left
 ·intro w'
  go_simp
  with_reducible rfl
 rotate_left
 ·simp only [Act.put, List.setIfInBounds_toArray, List.set_cons_zero, List.set_cons_succ, i64_w, i32_w]
  rfl
 refine take_ (i := 4) (N := some 60) (v := ?_) (a' := ?_) #[true, true, true, true, true, true, false, true, true, true, true, true, true, false, false, false, false, false, false, false, false, false, false, false, false, false, false, false, false, false, false, false, false, false, false, false] rfl rfl (take_ofW HT_.out HW_.out (by kernel_rfl)) (fun _ _ _ h => h) (Or.inl ⟨by rfl, ?_⟩) hHeld ?_ ?_
 rotate_left
 ·rintro w' ⟨s0, s1, s2⟩
  go_simp
  with_reducible rfl
 rotate_left
 ·simp only [Act.put, List.setIfInBounds_toArray, List.set_cons_zero, List.set_cons_succ, i64_w, i32_w]
  rfl
 refine one_ (i := 6) (N := some 62) #[true, true, true, true, true, true, true, true, true, true, true, true, true, false, false, false, false, false, false, false, false, false, false, false, false, false, false, false, false, false, false, false, false, false, false, false] rfl rfl (one_of HT_.out (by kernel_rfl)) (by decide) (fun K hK => ?_)
 refine goes_ Try.func30 (by kernel_rfl) rfl #[.slice Ao97 t526.length co97] (by rfl) rfl rfl (by (try simp only [List.map_toArray, List.map_cons, List.map_nil]); first | done | rfl | (simp only [List.length_drop, List.length_take]; rfl)) ?_
 with_reducible refine (tickingref06_Subtypes.calls k _ _ t526 t539 _ ?side1 ?side2 A84.out).mono ?_
 (case side1 => repeat (first | exact (Kd.R_reads' HO528.out).2.2 | (with_reducible refine Kd.C_alloc ?_ _) | (with_reducible refine Kd.C_drewN ?_ _) | (with_reducible refine Kd.C_drew ?_)))
 (case side2 => exact (Kd.R_reads' HO528.out).2.1)
 rintro e w105 ⟨v540, rfl, ho0, hb⟩
 refine ⟨_, rfl, ?_⟩
 have n0_ := Aside0.mk (Kd.R_below (by (with_reducible repeat (first | apply Kd.R_alloc | apply Kd.R_drewN | apply Kd.R_drew)); exact HO528.out) hb)
 have n1_ := Aside0.mk (Kd.R_below (by (with_reducible repeat (first | apply Kd.R_alloc | apply Kd.R_drewN | apply Kd.R_drew)); exact HO532.out) hb)
 have n2_ := Aside0.mk (Kd.R_lower ho0 (below_size (by repeat (first | (with_reducible first | exact HB.out | apply below_alloc | apply pw_below_drewN | apply below_drew1 | refine below_set ?_ GE525.out | refine below_set ?_ GE535.out) | exact HB.out))))
 have n3_ := Aside0.mk (blk_below (g := gb525) (o := .cells #[.int .i64 a1_0, .int .i64 a1_1] 23 (0, 0)) (by (with_reducible repeat (first | refine blk_drewN ?_ _ | refine blk_drew ?_ | refine blk_alloc ?_ _)); exact BK525.out) hb)
 have n4_ := Aside0.mk (blk_below (g := gb535) (o := .cells #[.bool t529, .slice Ao102 t530.length co102, .string t533] 55 (0, 0)) (by (with_reducible repeat (first | refine blk_drewN ?_ _ | refine blk_drew ?_ | refine blk_alloc ?_ _)); exact BK535.out) hb)
 have n5_ := Aside0.mk (below_step (by repeat (first | (with_reducible first | exact HB.out | apply below_alloc | apply pw_below_drewN | apply below_drew1 | refine below_set ?_ GE525.out | refine below_set ?_ GE535.out) | exact HB.out)) hb)
 clear HO528
 clear HO532
 clear BK525
 clear BK535
 clear HB
 have HO528 := n0_
 have HO532 := n1_
 have HO541 := n2_
 have BK525 := n3_
 have BK535 := n4_
 have HB := n5_
 clear n0_ n1_ n2_ n3_ n4_ n5_
 (try clear hb)
 (try clear hb2)
 (try clear hk)
 (try clear hi)
 (try clear ho0)
 obtain ⟨Ao106, co106, eo106⟩ := Kd.R_slice HO541.out
 (first | subst eo106 | (injection eo106 with f1_ f2_ f3_; have f4_ := f1_.symm; have f5_ := f3_.symm; clear f1_ f2_ f3_; subst f4_; subst f5_))
 have p542 : 0 ≤ ((ji85) : Int) := of_decide_eq_true (by first | (with_reducible assumption) | assumption)
 have q542 : (ji85) < (t539.length : Int) := of_decide_eq_true (by first | (with_reducible assumption) | assumption)
 obtain ⟨ad542, e542, hx542_0⟩ := Kd.at_bool (Kd.R_reads' HO541.out).2.2 (ji85) p542 q542
 cases e542
 replace p542 := eq_true p542
 replace q542 := eq_true q542
 refine hK.out _ _ ⟨(blk_cell BK535.out 0).trans rfl, (blk_cell BK535.out 1).trans rfl, (blk_cell BK535.out 2).trans rfl⟩ (fun hHeld => ?_)
 clear hK K
 refine norm_ (a' := ?_) ?_ ?_
 rotate_left
 ·show Act.put _ (some 62) _ = _
  simp only [Act.put, List.setIfInBounds_toArray, List.set_cons_zero, List.set_cons_succ, i64_w, i32_w]
  rfl
 refine pure_ (i := 13) (N := some 69) (v := ?_) (a' := ?_) #[true, true, true, true, true, true, true, true, true, true, true, true, true, true, false, false, false, false, false, false, false, false, false, false, false, false, false, false, false, false, false, false, false, false, false, false] rfl rfl (any_of HT_.out (by kernel_rfl)) (fun _ _ _ h => h) (Or.inl ⟨by rfl, ?_⟩) ?_ ?_
 rotate_left
 ·intro w'
  go_simp
  with_reducible rfl
 rotate_left
 ·simp only [Act.put, List.setIfInBounds_toArray, List.set_cons_zero, List.set_cons_succ, i64_w, i32_w]
  rfl
 refine one_ (i := 14) (N := some 70) #[true, true, true, true, true, true, true, true, true, true, true, true, true, true, true, false, false, false, false, false, false, false, false, false, false, false, false, false, false, false, false, false, false, false, false, false] rfl rfl (one_of HT_.out (by kernel_rfl)) (by decide) (fun K hK => ?_)
 refine value_ (v := .bool (rdOf false t539 (ji85))) (by rfl) rfl (by go_simp; first | done | rfl) ?_
 refine hK.out _ _ hHeld (fun hHeld => ?_)
 clear hK K
 refine norm_ (a' := ?_) ?_ ?_
 rotate_left
 ·show Act.put _ (some 70) _ = _
  simp only [Act.put, List.setIfInBounds_toArray, List.set_cons_zero, List.set_cons_succ, i64_w, i32_w]
  rfl
 refine pure_ (i := 15) (N := some 71) (v := ?_) (a' := ?_) #[true, true, true, true, true, true, true, true, true, true, true, true, true, true, true, true, false, false, false, false, false, false, false, false, false, false, false, false, false, false, false, false, false, false, false, false] rfl rfl (any_of HT_.out (by kernel_rfl)) (fun _ _ _ h => h) (Or.inl ⟨by rfl, ?_⟩) ?_ ?_
 rotate_left
 ·intro w'
  go_simp
  with_reducible rfl
 rotate_left
 ·simp only [Act.put, List.setIfInBounds_toArray, List.set_cons_zero, List.set_cons_succ, i64_w, i32_w]
  rfl
 refine pure_ (i := 16) (N := some 72) (v := ?_) (a' := ?_) #[true, true, true, true, true, true, true, true, true, true, true, true, true, true, true, true, true, false, false, false, false, false, false, false, false, false, false, false, false, false, false, false, false, false, false, false] rfl rfl (any_of HT_.out (by kernel_rfl)) (fun _ _ _ h => h) (Or.inl ⟨by rfl, ?_⟩) ?_ ?_
 rotate_left
 ·intro w'
  go_simp
  with_reducible rfl
 rotate_left
 ·simp only [Act.put, List.setIfInBounds_toArray, List.set_cons_zero, List.set_cons_succ, i64_w, i32_w]
  rfl
 refine pure_ (i := 17) (N := some 73) (v := ?_) (a' := ?_) #[true, true, true, true, true, true, true, true, true, true, true, true, true, true, true, true, true, true, false, false, false, false, false, false, false, false, false, false, false, false, false, false, false, false, false, false] rfl rfl (any_of HT_.out (by kernel_rfl)) (fun _ _ _ h => h) (Or.inl ⟨by rfl, ?_⟩) ?_ ?_
 rotate_left
 ·intro w'
  go_simp
  with_reducible rfl
 rotate_left
 ·simp only [Act.put, List.setIfInBounds_toArray, List.set_cons_zero, List.set_cons_succ, i64_w, i32_w]
  rfl
 refine pure_ (i := 18) (N := some 74) (v := ?_) (a' := ?_) #[true, true, true, true, true, true, true, true, true, true, true, true, true, true, true, true, true, true, true, false, false, false, false, false, false, false, false, false, false, false, false, false, false, false, false, false] rfl rfl (any_of HT_.out (by kernel_rfl)) (fun _ _ _ h => h) (Or.inl ⟨by rfl, ?_⟩) ?_ ?_
 rotate_left
 ·intro w'
  go_simp
  with_reducible rfl
 rotate_left
 ·simp only [Act.put, List.setIfInBounds_toArray, List.set_cons_zero, List.set_cons_succ, i64_w, i32_w]
  rfl
 refine pure_ (i := 19) (N := some 75) (v := ?_) (a' := ?_) #[true, true, true, true, true, true, true, true, true, true, true, true, true, true, true, true, true, true, true, true, false, false, false, false, false, false, false, false, false, false, false, false, false, false, false, false] rfl rfl (any_of HT_.out (by kernel_rfl)) (fun _ _ _ h => h) (Or.inl ⟨by rfl, ?_⟩) ?_ ?_
 rotate_left
 ·intro w'
  go_simp
  with_reducible rfl
 rotate_left
 ·simp only [Act.put, List.setIfInBounds_toArray, List.set_cons_zero, List.set_cons_succ, i64_w, i32_w]
  rfl
 refine pure_ (i := 20) (N := some 76) (v := ?_) (a' := ?_) #[true, true, true, true, true, true, true, true, true, true, true, true, true, true, true, true, true, true, true, true, true, false, false, false, false, false, false, false, false, false, false, false, false, false, false, false] rfl rfl (any_of HT_.out (by kernel_rfl)) (fun _ _ _ h => h) (Or.inl ⟨by rfl, ?_⟩) ?_ ?_
 rotate_left
 ·intro w'
  go_simp
  with_reducible rfl
 rotate_left
 ·simp only [Act.put, List.setIfInBounds_toArray, List.set_cons_zero, List.set_cons_succ, i64_w, i32_w]
  rfl
 refine take_ (i := 21) (N := some 77) (v := ?_) (a' := ?_) #[true, true, true, true, true, true, true, true, true, true, true, true, true, true, true, true, true, true, true, true, true, true, false, false, false, false, false, false, false, false, false, false, false, false, false, false] rfl rfl (take_ofW HT_.out HW_.out (by kernel_rfl)) (fun _ _ _ h => h) (Or.inl ⟨by rfl, ?_⟩) hHeld ?_ ?_
 rotate_left
 ·rintro w' ⟨s0, s1, s2⟩
  go_simp
  with_reducible rfl
 rotate_left
 ·simp only [Act.put, List.setIfInBounds_toArray, List.set_cons_zero, List.set_cons_succ, i64_w, i32_w]
  rfl
 refine one_ (i := 22) (N := some 78) #[true, true, true, true, true, true, true, true, true, true, true, true, true, true, true, true, true, true, true, true, true, true, true, false, false, false, false, false, false, false, false, false, false, false, false, false] rfl rfl (one_of HT_.out (by kernel_rfl)) (by decide) (fun K hK => ?_)
 refine goes_ Try.func34 (by kernel_rfl) rfl #[.slice Ao97 t526.length co97, .int .i64 a1_0, .int .i64 a1_1, .agg #[.bool t529, .slice Ao102 t530.length co102, .string t533]] (by rfl) rfl rfl (by (try simp only [List.map_toArray, List.map_cons, List.map_nil]); first | done | rfl | (simp only [List.length_drop, List.length_take]; rfl)) ?_
 with_reducible refine (tickingref06_Right.calls k _ _ t526 a1_0 a1_1 t529 _ _ t530 t533 true _ ?side1 ?side2 ?side3 ?side4 A89.out).mono ?_
 (case side1 => repeat (first | exact (Kd.R_reads' HO528.out).2.2 | (with_reducible refine Kd.C_alloc ?_ _) | (with_reducible refine Kd.C_drewN ?_ _) | (with_reducible refine Kd.C_drew ?_)))
 (case side2 => exact (Kd.R_reads' HO528.out).2.1)
 (case side3 => repeat (first | exact (Kd.R_reads' HO532.out).2.2 | (with_reducible refine Kd.C_alloc ?_ _) | (with_reducible refine Kd.C_drewN ?_ _) | (with_reducible refine Kd.C_drew ?_)))
 (case side4 => exact (Kd.R_reads' HO532.out).2.1)
 rintro e w107 ⟨rfl, hb⟩
 refine ⟨_, rfl, ?_⟩
 have n0_ := Aside0.mk (Kd.R_below (by (with_reducible repeat (first | apply Kd.R_alloc | apply Kd.R_drewN | apply Kd.R_drew)); exact HO528.out) hb)
 have n1_ := Aside0.mk (Kd.R_below (by (with_reducible repeat (first | apply Kd.R_alloc | apply Kd.R_drewN | apply Kd.R_drew)); exact HO532.out) hb)
 have n2_ := Aside0.mk (Kd.R_below (by (with_reducible repeat (first | apply Kd.R_alloc | apply Kd.R_drewN | apply Kd.R_drew)); exact HO541.out) hb)
 have n3_ := Aside0.mk (blk_below (g := gb525) (o := .cells #[.int .i64 a1_0, .int .i64 a1_1] 23 (0, 0)) (by (with_reducible repeat (first | refine blk_drewN ?_ _ | refine blk_drew ?_ | refine blk_alloc ?_ _)); exact BK525.out) hb)
 have n4_ := Aside0.mk (blk_below (g := gb535) (o := .cells #[.bool t529, .slice Ao102 t530.length co102, .string t533] 55 (0, 0)) (by (with_reducible repeat (first | refine blk_drewN ?_ _ | refine blk_drew ?_ | refine blk_alloc ?_ _)); exact BK535.out) hb)
 have n5_ := Aside0.mk (below_step (by repeat (first | (with_reducible first | exact HB.out | apply below_alloc | apply pw_below_drewN | apply below_drew1 | refine below_set ?_ GE525.out | refine below_set ?_ GE535.out) | exact HB.out)) hb)
 clear HO528
 clear HO532
 clear HO541
 clear BK525
 clear BK535
 clear HB
 have HO528 := n0_
 have HO532 := n1_
 have HO541 := n2_
 have BK525 := n3_
 have BK535 := n4_
 have HB := n5_
 clear n0_ n1_ n2_ n3_ n4_ n5_
 (try clear hb)
 (try clear hb2)
 (try clear hk)
 (try clear hi)
 refine hK.out _ _ ⟨(blk_cell BK535.out 0).trans rfl, (blk_cell BK535.out 1).trans rfl, (blk_cell BK535.out 2).trans rfl⟩ (fun hHeld => ?_)
 clear hK K
 refine norm_ (a' := ?_) ?_ ?_
 rotate_left
 ·show Act.put _ (some 78) _ = _
  simp only [Act.put, List.setIfInBounds_toArray, List.set_cons_zero, List.set_cons_succ, i64_w, i32_w]
  rfl
 refine pure_ (i := 23) (N := some 79) (v := ?_) (a' := ?_) #[true, true, true, true, true, true, true, true, true, true, true, true, true, true, true, true, true, true, true, true, true, true, true, true, false, false, false, false, false, false, false, false, false, false, false, false] rfl rfl (any_of HT_.out (by kernel_rfl)) (fun _ _ _ h => h) (Or.inl ⟨by rfl, ?_⟩) ?_ ?_
 rotate_left
 ·intro w'
  go_simp
  with_reducible rfl
 rotate_left
 ·simp only [Act.put, List.setIfInBounds_toArray, List.set_cons_zero, List.set_cons_succ, i64_w, i32_w]
  rfl
 refine pure_ (i := 24) (N := some 80) (v := ?_) (a' := ?_) #[true, true, true, true, true, true, true, true, true, true, true, true, true, true, true, true, true, true, true, true, true, true, true, true, true, false, false, false, false, false, false, false, false, false, false, false] rfl rfl (any_of HT_.out (by kernel_rfl)) (fun _ _ _ h => h) (Or.inl ⟨by rfl, ?_⟩) ?_ ?_
 rotate_left
 ·intro w'
  go_simp
  with_reducible rfl
 rotate_left
 ·simp only [Act.put, List.setIfInBounds_toArray, List.set_cons_zero, List.set_cons_succ, i64_w, i32_w]
  rfl
 refine pure_ (i := 25) (N := some 81) (v := ?_) (a' := ?_) #[true, true, true, true, true, true, true, true, true, true, true, true, true, true, true, true, true, true, true, true, true, true, true, true, true, true, false, false, false, false, false, false, false, false, false, false] rfl rfl (any_of HT_.out (by kernel_rfl)) (fun _ _ _ h => h) (Or.inl ⟨by rfl, ?_⟩) ?_ ?_
 rotate_left
 ·intro w'
  go_simp
  with_reducible rfl
 rotate_left
 ·simp only [Act.put, List.setIfInBounds_toArray, List.set_cons_zero, List.set_cons_succ, i64_w, i32_w]
  rfl
 refine pure_ (i := 26) (N := some 82) (v := ?_) (a' := ?_) #[true, true, true, true, true, true, true, true, true, true, true, true, true, true, true, true, true, true, true, true, true, true, true, true, true, true, true, false, false, false, false, false, false, false, false, false] rfl rfl (any_of HT_.out (by kernel_rfl)) (fun _ _ _ h => h) (Or.inl ⟨by rfl, ?_⟩) ?_ ?_
 rotate_left
 ·intro w'
  go_simp
  with_reducible rfl
 rotate_left
 ·simp only [Act.put, List.setIfInBounds_toArray, List.set_cons_zero, List.set_cons_succ, i64_w, i32_w]
  rfl
 refine pure_ (i := 27) (N := some 83) (v := ?_) (a' := ?_) #[true, true, true, true, true, true, true, true, true, true, true, true, true, true, true, true, true, true, true, true, true, true, true, true, true, true, true, true, false, false, false, false, false, false, false, false] rfl rfl (any_of HT_.out (by kernel_rfl)) (fun _ _ _ h => h) (Or.inl ⟨by rfl, ?_⟩) ?_ ?_
 rotate_left
 ·intro w'
  go_simp
  with_reducible rfl
 rotate_left
 ·simp only [Act.put, List.setIfInBounds_toArray, List.set_cons_zero, List.set_cons_succ, i64_w, i32_w]
  rfl
 refine take_ (i := 28) (N := some 84) (v := ?_) (a' := ?_) #[true, true, true, true, true, true, true, true, true, true, true, true, true, true, true, true, true, true, true, true, true, true, true, true, true, true, true, true, true, false, false, false, false, false, false, false] rfl rfl (take_ofW HT_.out HW_.out (by kernel_rfl)) (fun _ _ _ h => h) (Or.inl ⟨by rfl, ?_⟩) hHeld ?_ ?_
 rotate_left
 ·rintro w' ⟨s0, s1, s2⟩
  go_simp
  with_reducible rfl
 rotate_left
 ·simp only [Act.put, List.setIfInBounds_toArray, List.set_cons_zero, List.set_cons_succ, i64_w, i32_w]
  rfl
 refine one_ (i := 29) (N := some 85) #[true, true, true, true, true, true, true, true, true, true, true, true, true, true, true, true, true, true, true, true, true, true, true, true, true, true, true, true, true, true, false, false, false, false, false, false] rfl rfl (one_of HT_.out (by kernel_rfl)) (by decide) (fun K hK => ?_)
 refine goes_ Try.func35 (by kernel_rfl) rfl #[.slice Ao97 t526.length co97, .int .i64 a1_0, .int .i64 a1_1, .agg #[.bool t529, .slice Ao102 t530.length co102, .string t533]] (by rfl) rfl rfl (by (try simp only [List.map_toArray, List.map_cons, List.map_nil]); first | done | rfl | (simp only [List.length_drop, List.length_take]; rfl)) ?_
 with_reducible refine (loops_Check.calls k _ _ t526 a1_0 a1_1 t529 _ _ t530 t533 t544 _ ?side1 ?side2 ?side3 ?side4 A91.out).mono ?_
 (case side1 => repeat (first | exact (Kd.R_reads' HO528.out).2.2 | (with_reducible refine Kd.C_alloc ?_ _) | (with_reducible refine Kd.C_drewN ?_ _) | (with_reducible refine Kd.C_drew ?_)))
 (case side2 => exact (Kd.R_reads' HO528.out).2.1)
 (case side3 => repeat (first | exact (Kd.R_reads' HO532.out).2.2 | (with_reducible refine Kd.C_alloc ?_ _) | (with_reducible refine Kd.C_drewN ?_ _) | (with_reducible refine Kd.C_drew ?_)))
 (case side4 => exact (Kd.R_reads' HO532.out).2.1)
 rintro e w108 ⟨rfl, hb⟩
 refine ⟨_, rfl, ?_⟩
 have n0_ := Aside0.mk (Kd.R_below (by (with_reducible repeat (first | apply Kd.R_alloc | apply Kd.R_drewN | apply Kd.R_drew)); exact HO528.out) hb)
 have n1_ := Aside0.mk (Kd.R_below (by (with_reducible repeat (first | apply Kd.R_alloc | apply Kd.R_drewN | apply Kd.R_drew)); exact HO532.out) hb)
 have n2_ := Aside0.mk (Kd.R_below (by (with_reducible repeat (first | apply Kd.R_alloc | apply Kd.R_drewN | apply Kd.R_drew)); exact HO541.out) hb)
 have n3_ := Aside0.mk (blk_below (g := gb525) (o := .cells #[.int .i64 a1_0, .int .i64 a1_1] 23 (0, 0)) (by (with_reducible repeat (first | refine blk_drewN ?_ _ | refine blk_drew ?_ | refine blk_alloc ?_ _)); exact BK525.out) hb)
 have n4_ := Aside0.mk (blk_below (g := gb535) (o := .cells #[.bool t529, .slice Ao102 t530.length co102, .string t533] 55 (0, 0)) (by (with_reducible repeat (first | refine blk_drewN ?_ _ | refine blk_drew ?_ | refine blk_alloc ?_ _)); exact BK535.out) hb)
 have n5_ := Aside0.mk (below_step (by repeat (first | (with_reducible first | exact HB.out | apply below_alloc | apply pw_below_drewN | apply below_drew1 | refine below_set ?_ GE525.out | refine below_set ?_ GE535.out) | exact HB.out)) hb)
 clear HO528
 clear HO532
 clear HO541
 clear BK525
 clear BK535
 clear HB
 have HO528 := n0_
 have HO532 := n1_
 have HO541 := n2_
 have BK525 := n3_
 have BK535 := n4_
 have HB := n5_
 clear n0_ n1_ n2_ n3_ n4_ n5_
 (try clear hb)
 (try clear hb2)
 (try clear hk)
 (try clear hi)
 refine hK.out _ _ ⟨(blk_cell BK535.out 0).trans rfl, (blk_cell BK535.out 1).trans rfl, (blk_cell BK535.out 2).trans rfl⟩ (fun hHeld => ?_)
 clear hK K
 refine norm_ (a' := ?_) ?_ ?_
 rotate_left
 ·show Act.put _ (some 85) _ = _
  simp only [Act.put, List.setIfInBounds_toArray, List.set_cons_zero, List.set_cons_succ, i64_w, i32_w]
  rfl
 refine pure_ (i := 30) (N := some 86) (v := ?_) (a' := ?_) #[true, true, true, true, true, true, true, true, true, true, true, true, true, true, true, true, true, true, true, true, true, true, true, true, true, true, true, true, true, true, true, false, false, false, false, false] rfl rfl (any_of HT_.out (by kernel_rfl)) (fun _ _ _ h => h) (Or.inl ⟨by rfl, ?_⟩) ?_ ?_
 rotate_left
 ·intro w'
  go_simp
  with_reducible rfl
 rotate_left
 ·simp only [Act.put, List.setIfInBounds_toArray, List.set_cons_zero, List.set_cons_succ, i64_w, i32_w]
  rfl
 refine pure_ (i := 31) (N := some 87) (v := ?_) (a' := ?_) #[true, true, true, true, true, true, true, true, true, true, true, true, true, true, true, true, true, true, true, true, true, true, true, true, true, true, true, true, true, true, true, true, false, false, false, false] rfl rfl (any_of HT_.out (by kernel_rfl)) (fun _ _ _ h => h) (Or.inl ⟨by rfl, ?_⟩) ?_ ?_
 rotate_left
 ·intro w'
  go_simp
  with_reducible rfl
 rotate_left
 ·simp only [Act.put, List.setIfInBounds_toArray, List.set_cons_zero, List.set_cons_succ, i64_w, i32_w]
  rfl
 refine pure_ (i := 32) (N := some 88) (v := ?_) (a' := ?_) #[true, true, true, true, true, true, true, true, true, true, true, true, true, true, true, true, true, true, true, true, true, true, true, true, true, true, true, true, true, true, true, true, true, false, false, false] rfl rfl (any_of HT_.out (by kernel_rfl)) (fun _ _ _ h => h) (Or.inl ⟨by rfl, ?_⟩) ?_ ?_
 rotate_left
 ·intro w'
  go_simp
  with_reducible rfl
 rotate_left
 ·simp only [Act.put, List.setIfInBounds_toArray, List.set_cons_zero, List.set_cons_succ, i64_w, i32_w]
  rfl
 refine one_ (i := 33) (N := some 89) #[true, true, true, true, true, true, true, true, true, true, true, true, true, true, true, true, true, true, true, true, true, true, true, true, true, true, true, true, true, true, true, true, true, true, false, false] rfl rfl (one_of HT_.out (by kernel_rfl)) (by decide) (fun K hK => ?_)
 refine goes_ Try.func19 (by kernel_rfl) rfl #[] (by rfl) rfl rfl (by (try simp only [List.map_toArray, List.map_cons, List.map_nil]); first | done | rfl | (simp only [List.length_drop, List.length_take]; rfl)) ?_
 with_reducible refine (tickinglaw06_awake.calls k  t545 _ A93.out).mono ?_
 rintro e w109 ⟨rfl, hb⟩
 refine ⟨_, rfl, ?_⟩
 have n0_ := Aside0.mk (Kd.R_below (by (with_reducible repeat (first | apply Kd.R_alloc | apply Kd.R_drewN | apply Kd.R_drew)); exact HO528.out) hb)
 have n1_ := Aside0.mk (Kd.R_below (by (with_reducible repeat (first | apply Kd.R_alloc | apply Kd.R_drewN | apply Kd.R_drew)); exact HO532.out) hb)
 have n2_ := Aside0.mk (Kd.R_below (by (with_reducible repeat (first | apply Kd.R_alloc | apply Kd.R_drewN | apply Kd.R_drew)); exact HO541.out) hb)
 have n3_ := Aside0.mk (blk_below (g := gb525) (o := .cells #[.int .i64 a1_0, .int .i64 a1_1] 23 (0, 0)) (by (with_reducible repeat (first | refine blk_drewN ?_ _ | refine blk_drew ?_ | refine blk_alloc ?_ _)); exact BK525.out) hb)
 have n4_ := Aside0.mk (blk_below (g := gb535) (o := .cells #[.bool t529, .slice Ao102 t530.length co102, .string t533] 55 (0, 0)) (by (with_reducible repeat (first | refine blk_drewN ?_ _ | refine blk_drew ?_ | refine blk_alloc ?_ _)); exact BK535.out) hb)
 have n5_ := Aside0.mk (below_step (by repeat (first | (with_reducible first | exact HB.out | apply below_alloc | apply pw_below_drewN | apply below_drew1 | refine below_set ?_ GE525.out | refine below_set ?_ GE535.out) | exact HB.out)) hb)
 clear HO528
 clear HO532
 clear HO541
 clear BK525
 clear BK535
 clear HB
 have HO528 := n0_
 have HO532 := n1_
 have HO541 := n2_
 have BK525 := n3_
 have BK535 := n4_
 have HB := n5_
 clear n0_ n1_ n2_ n3_ n4_ n5_
 (try clear hb)
 (try clear hb2)
 (try clear hk)
 (try clear hi)
 refine hK.out _ _ ⟨(blk_cell BK535.out 0).trans rfl, (blk_cell BK535.out 1).trans rfl, (blk_cell BK535.out 2).trans rfl⟩ (fun hHeld => ?_)
 clear hK K
 refine norm_ (a' := ?_) ?_ ?_
 rotate_left
 ·show Act.put _ (some 89) _ = _
  simp only [Act.put, List.setIfInBounds_toArray, List.set_cons_zero, List.set_cons_succ, i64_w, i32_w]
  rfl
 refine pure_ (i := 34) (N := some 90) (v := ?_) (a' := ?_) #[true, true, true, true, true, true, true, true, true, true, true, true, true, true, true, true, true, true, true, true, true, true, true, true, true, true, true, true, true, true, true, true, true, true, true, false] rfl rfl (any_of HT_.out (by kernel_rfl)) (fun _ _ _ h => h) (Or.inl ⟨by rfl, ?_⟩) ?_ ?_
 rotate_left
 ·intro w'
  go_simp
  with_reducible rfl
 rotate_left
 ·simp only [Act.put, List.setIfInBounds_toArray, List.set_cons_zero, List.set_cons_succ, i64_w, i32_w]
  rfl
 refine pure_ (i := 35) (N := some 4) (v := ?_) (a' := ?_) #[true, true, true, true, true, true, true, true, true, true, true, true, true, true, true, true, true, true, true, true, true, true, true, true, true, true, true, true, true, true, true, true, true, true, true, true] rfl rfl (any_of HT_.out (by kernel_rfl)) (fun _ _ _ h => h) (Or.inl ⟨by rfl, ?_⟩) ?_ ?_
 rotate_left
 ·intro w'
  go_simp
  with_reducible rfl
 rotate_left
 ·simp only [Act.put, List.setIfInBounds_toArray, List.set_cons_zero, List.set_cons_succ, i64_w, i32_w]
  rfl
 refine done_ (done_of HT_.out (by kernel_rfl)) ?_
 try go_wp2
 go_ret
 exact ⟨by first | rfl | (simp [errW_none, errW_some] <;> rfl) | (simp only [← hji85]; first | rfl | (simp [errW_none, errW_some] <;> rfl)) | (simp [*, errW_none, errW_some] <;> rfl), by repeat (first | (with_reducible first | exact HB.out | apply below_alloc | apply pw_below_drewN | apply below_drew1 | refine below_set ?_ GE525.out | refine below_set ?_ GE535.out) | exact HB.out)⟩
end Go.Proofs.Ytnfmeafiaipplaa.S

namespace Go.Proofs.Ytnfmeafiaipplaa.P
open Go.RowKit Go.Proofs.YtnfmeafiaipplaaW.PrintWords

theorem w64 {x : Int} (h0 : -9223372036854775808 ≤ x) (h1 : x ≤ 9223372036854775807) : wrap64 x = x := by
 unfold wrap64
 omega
theorem nodup_len : ∀ (n : Nat) (l : List Int) (lo : Int), l.Nodup → (∀ a ∈ l, lo < a ∧ a ≤ lo + n) → l.length ≤ n
 | 0, l, lo, _, h => by
  cases l with
  | nil => simp
  | cons a t => have := h a (by simp); omega
 | n + 1, l, lo, hd, h => by
  have h1 := nodup_len n (l.erase (lo + 1)) (lo + 1) (hd.erase _) (fun a ha => by
   have hm := List.mem_of_mem_erase ha
   have hne : a ≠ lo + 1 := fun e => by
    subst e
    exact (List.Nodup.not_mem_erase hd) ha
   have := h a hm
   omega)
  have h2 : l.length ≤ (l.erase (lo + 1)).length + 1 := by
   rw [List.length_erase]
   split <;> omega
  omega
end Go.Proofs.Ytnfmeafiaipplaa.P

namespace Go.Proofs.Ytnfmeafiaipplaa.P
open Go.RowKit Go.Proofs.Ytnfmeafiaipplaa.S Go.Proofs.YtnfmeafiaipplaaW.PrintWords
set_option linter.unusedVariables false

/-- A node of a list, by its position. -/
abbrev nd (t : List S39) (i : Int) : S39 := rd_T39 t i
inductive T where
 | leaf (k : Int)
 | node (k : Int) (a b : T)
 deriving DecidableEq
/-- What a node shows down to a depth. -/
def tr (t : List S39) : Nat → Int → T
 | 0, i => .leaf (nd t i).f0
 | d + 1, i => if 4 ≤ (nd t i).f0 then .node (nd t i).f0 (tr t d (nd t i).f1) (tr t d (nd t i).f2) else .leaf (nd t i).f0
def okN (t : List S39) (i : Int) : Prop :=
 (0 ≤ (nd t i).f0 ∧ (nd t i).f0 ≤ 5) ∧ ((nd t i).f0 < 4 → (nd t i).f1 = 0 ∧ (nd t i).f2 = 0) ∧ (0 ≤ (nd t i).f1 ∧ (nd t i).f1 < t.length) ∧ (0 ≤ (nd t i).f2 ∧ (nd t i).f2 < t.length)
instance (t : List S39) (i : Int) : Decidable (okN t i) := by unfold okN; infer_instance
/-- Types: not empty, every node in order. -/
def IsTy (t : List S39) : Prop := 1 ≤ t.length ∧ ∀ i : Int, 0 ≤ i → i < t.length → okN t i
theorem T.kind_node {k k' : Int} {a b a' b' : T} (h : T.node k a b = T.node k' a' b') : k = k' ∧ a = a' ∧ b = b' := by
 injection h with h1 h2 h3
 exact ⟨h1, h2, h3⟩
theorem tr_kind {t t' : List S39} {d : Nat} {i j : Int} (h : tr t d i = tr t' d j) : (nd t i).f0 = (nd t' j).f0 := by
 cases d with
 | zero => injection h
 | succ d =>
  unfold tr at h
  split at h <;> split at h
  ·exact (T.kind_node h).1
  ·cases h
  ·cases h
  injection h
/-- Two nodes stand for the same tree. -/
def Same (t : List S39) (i : Int) (t' : List S39) (j : Int) : Prop := ∀ d, tr t d i = tr t' d j
theorem Same.refl (t : List S39) (i : Int) : Same t i t i := fun _ => rfl
theorem Same.symm {t t' : List S39} {i j : Int} (h : Same t i t' j) : Same t' j t i := fun d => (h d).symm
theorem Same.trans {t t' t'' : List S39} {i j k : Int} (h : Same t i t' j) (h' : Same t' j t'' k) : Same t i t'' k := fun d => (h d).trans (h' d)
theorem same_iff {t t' : List S39} {i j : Int} : Same t i t' j ↔ (nd t i).f0 = (nd t' j).f0 ∧ (4 ≤ (nd t i).f0 → Same t (nd t i).f1 t' (nd t' j).f1 ∧ Same t (nd t i).f2 t' (nd t' j).f2) := by
 constructor
 ·intro h
  have hk := tr_kind (h 0)
  refine ⟨hk, fun c => ?_⟩
  have hh : ∀ d, tr t d (nd t i).f1 = tr t' d (nd t' j).f1 ∧ tr t d (nd t i).f2 = tr t' d (nd t' j).f2 := fun d => by
   have := h (d + 1)
   rw [show tr t (d + 1) i = .node (nd t i).f0 (tr t d (nd t i).f1) (tr t d (nd t i).f2) from if_pos c, show tr t' (d + 1) j = .node (nd t' j).f0 (tr t' d (nd t' j).f1) (tr t' d (nd t' j).f2) from if_pos (by rw [← hk]; exact c)] at this
   exact (T.kind_node this).2
  exact ⟨fun d => (hh d).1, fun d => (hh d).2⟩
 rintro ⟨hk, h⟩ d
 cases d with
 | zero => unfold tr; rw [hk]
 | succ d =>
  unfold tr
  by_cases c : 4 ≤ (nd t i).f0
  rotate_left
  ·rw [if_neg c, if_neg (by rw [← hk]; exact c), hk]
  rw [if_pos c, if_pos (by rw [← hk]; exact c), hk, (h c).1 d, (h c).2 d]
noncomputable def sameB (t : List S39) (i j : Int) : Bool := @decide (Same t i t j) (Classical.propDecidable _)
theorem idx_lt {n i j : Nat} (hi : i < n) (hj : j < n) : n * i + j < n * n := by
 have h1 : n * i + n ≤ n * n := by
  have : n * (i + 1) ≤ n * n := Nat.mul_le_mul_left n hi
  rwa [Nat.mul_add, Nat.mul_one] at this
 omega
theorem idx_inj {n i j i' j' : Nat} (hj : j < n) (hj' : j' < n) (h : n * i + j = n * i' + j') : i = i' ∧ j = j' := by
 have h1 : (n * i + j) / n = i := by rw [Nat.add_comm, Nat.add_mul_div_left _ _ (by omega), Nat.div_eq_of_lt hj, Nat.zero_add]
 have h2 : (n * i' + j') / n = i' := by rw [Nat.add_comm, Nat.add_mul_div_left _ _ (by omega), Nat.div_eq_of_lt hj', Nat.zero_add]
 rw [h] at h1
 have : i = i' := h1.symm.trans h2
 subst this
 exact ⟨rfl, by omega⟩
/-- What a table tells of a pair. -/
def tb (n : Nat) (x : List Bool) (i j : Nat) : Bool := x.getD (n * i + j) false
theorem tb_set {n i j i' j' : Nat} {x : List Bool} (hx : x.length = n * n) (hi : i < n) (hj : j < n) (hj' : j' < n) (v : Bool) : tb n (x.set (n * i + j) v) i' j' = if i' = i ∧ j' = j then v else tb n x i' j' := by
 unfold tb
 have hlt := idx_lt hi hj
 by_cases h : i' = i ∧ j' = j
 ·rw [if_pos h, h.1, h.2, List.getD_eq_getElem?_getD, List.getElem?_set_self (by omega)]
  rfl
 rw [if_neg h, List.getD_eq_getElem?_getD, List.getD_eq_getElem?_getD, List.getElem?_set_ne (fun e => h ?_)]
 have := idx_inj hj hj' e
 exact ⟨this.1.symm, this.2.symm⟩
theorem count_set {x : List Bool} : ∀ {k : Nat}, x.getD k false = true → (x.set k false).count true + 1 = x.count true := by
 induction x with
 | nil => intro k h; simp at h
 | cons a x ih =>
  intro k h
  cases k with
  | zero =>
   have : a = true := by simpa using h
   subst this
   simp
  | succ k =>
   have := ih (k := k) (by simpa using h)
   simp only [List.set_cons_succ, List.count_cons]
   omega

theorem ixw {n i j : Nat} (hn : n ≤ 1000) (hi : i < n) (hj : j < n) : wrap64 (wrap64 ((n : Int) * (i : Int)) + (j : Int)) = ((n * i + j : Nat) : Int) := by
 have h1 : n * i ≤ 1000 * 1000 := Nat.mul_le_mul hn (by omega)
 have h2 : ((n : Int) * (i : Int)) = ((n * i : Nat) : Int) := by push_cast; rfl
 have h3 : wrap64 ((n * i : Nat) : Int) = ((n * i : Nat) : Int) := w64 (by omega) (by omega)
 rw [h2, h3, w64 (by omega) (by omega)]
 push_cast
 rfl
theorem w64s {j : Nat} (h : j ≤ 1000000) : wrap64 ((j : Int) + 1) = ((j + 1 : Nat) : Int) := by
 rw [w64 (by omega) (by omega)]
 rfl
/-- A node's parts as indexes of a table. -/
theorem ixp {n : Nat} {a b : Int} (hn : n ≤ 1000) (a0 : 0 ≤ a) (a1 : a < n) (b0 : 0 ≤ b) (b1 : b < n) : wrap64 (wrap64 ((n : Int) * a) + b) = ((n * a.toNat + b.toNat : Nat) : Int) := by
 have := ixw hn (i := a.toNat) (j := b.toNat) (by omega) (by omega)
 rwa [Int.toNat_of_nonneg a0, Int.toNat_of_nonneg b0] at this
theorem cast0 (k : Nat) : (0 : Int) ≤ (k : Int) := Int.natCast_nonneg k
theorem castlt {a b : Nat} (h : a < b) : (a : Int) < (b : Int) := Int.ofNat_lt.2 h
theorem rdOf_tb (n i j : Nat) (x : List Bool) : rdOf false x ((n * i + j : Nat) : Int) = tb n x i j := by
 unfold rdOf tb
 rw [show (((n * i + j : Nat) : Int)).toNat = n * i + j by omega]
section
variable {t : List S39} (hv : ∀ i : Int, 0 ≤ i → i < t.length → okN t i) (hn : t.length ≤ 1000)
include hv hn

omit hv hn in
omit hv in
omit hv in
end
end Go.Proofs.Ytnfmeafiaipplaa.P

namespace Go.Proofs.Ytnfmeafiaipplaa.P
open Go.RowKit Go.Proofs.Ytnfmeafiaipplaa.S Go.Proofs.Ytnfmeafiaipplaa.Lib Go.Proofs.YtnfmeafiaipplaaW.PrintWords
set_option linter.unusedVariables false
set_option linter.unusedSectionVars false

section
variable {α : Type} [DecidableEq α]
theorem nodup_sub_len : ∀ {R L : List α}, R.Nodup → (∀ x ∈ R, x ∈ L) → R.length ≤ L.length
 | [], _, _, _ => by simp
 | a :: R, L, hn, hs => by
  have ha : a ∈ L := hs a (by simp)
  have h1 := nodup_sub_len (R := R) (L := L.erase a) (List.nodup_cons.1 hn).2 (fun x hx => by
   have hxa : x ≠ a := fun e => (List.nodup_cons.1 hn).1 (e ▸ hx)
   exact (List.mem_erase_of_ne hxa).2 (hs x (by simp [hx])))
  rw [List.length_erase_of_mem ha] at h1
  have : 0 < L.length := List.length_pos_of_mem ha
  simp
  omega
end
section
variable {t : List S39} (hv : ∀ i : Int, 0 ≤ i → i < t.length → okN t i) (hn : t.length ≤ 1000)
include hv hn

omit hv hn in
omit hn in
omit hn in
omit hv in
end

/-- Where a list has a node that is equal to x first. -/
noncomputable def ixS (t : List S39) (ns : List Int) (x : Int) : Nat := ns.findIdx (fun y => sameB t y x)
noncomputable def reS (t : List S39) (ns : List Int) (x : Int) : List Int := if ixS t ns x < ns.length then ns else ns ++ [x]
noncomputable def canS (t : List S39) : Nat → List Int → Nat → List S39 → Option (List S39)
  | 0, _, _, _ => none
  | f + 1, ns, k, out =>
    if k < ns.length then
      (if 4 ≤ (nd t (rd ns k)).f0 then canS t f (reS t (reS t ns (nd t (rd ns k)).f1) (nd t (rd ns k)).f2) (k + 1)
        (out ++ [⟨(nd t (rd ns k)).f0, (ixS t (reS t ns (nd t (rd ns k)).f1) (nd t (rd ns k)).f1 : Int), (ixS t (reS t (reS t ns (nd t (rd ns k)).f1) (nd t (rd ns k)).f2) (nd t (rd ns k)).f2 : Int)⟩])
       else canS t f ns (k + 1) (out ++ [nd t (rd ns k)]))
    else some out
/-- Nodes of the list, no two equal. -/
def Apart (t : List S39) (ns : List Int) : Prop := (∀ x ∈ ns, 0 ≤ x ∧ x < t.length) ∧ ns.Pairwise (fun x y => ¬ Same t x t y)
theorem Apart.nodup {t : List S39} {ns : List Int} (h : Apart t ns) : ns.Nodup := h.2.imp (fun hs e => hs (by rw [e]; exact Same.refl _ _))
theorem Apart.len {t : List S39} {ns : List Int} (h : Apart t ns) : ns.length ≤ t.length := nodup_len t.length ns (-1) h.nodup (fun a ha => by have := h.1 a ha; omega)
section
variable {t : List S39} (hv : ∀ i : Int, 0 ≤ i → i < t.length → okN t i) (hn : t.length ≤ 100)
include hv hn
omit hv hn in
end

noncomputable def tyB (t : List S39) (m : Int) : Bool := @decide (IsTy t ∧ (t.length : Int) ≤ m) (Classical.propDecidable _)
theorem tyB_iff {t : List S39} {m : Int} : tyB t m = true ↔ IsTy t ∧ (t.length : Int) ≤ m := by
  unfold tyB
  exact @decide_eq_true_iff _ (Classical.propDecidable _)
theorem tyB_false {t : List S39} {m : Int} (h : ¬ (IsTy t ∧ (t.length : Int) ≤ m)) : tyB t m = false := by
  cases e : tyB t m with
  | false => rfl
  | true => exact absurd (tyB_iff.1 e) h
theorem tyB_not {t : List S39} {m : Int} {i : Nat} (hi : i < t.length) (h : ¬ okN t i) : tyB t m = false := tyB_false (fun hh => h (hh.1.2 i (by omega) (by omega)))
theorem types_l0 {t : List S39} (hn : t.length ≤ 1000) (m : Int) : ∀ (d i : Nat), i + d = t.length → (∀ j : Nat, j < i → okN t j) → Ev (fun k => tickingref06_Types.l0 k t m (i : Int)) (tyB t m)
  | 0, i, h, ho => by
    refine Ev.step (fun k => ?_) (Ev.now (tyB t m))
    have hty : 1 ≤ t.length → IsTy t := fun h1 => ⟨h1, fun j j0 j1 => by
      have := ho j.toNat (by omega)
      rwa [Int.toNat_of_nonneg j0] at this⟩
    simp only [tickingref06_Types.l0]
    rw [if_neg (by omega)]
    by_cases c : (t.length : Int) ≥ 1
    · rw [if_pos c]
      by_cases c2 : (t.length : Int) ≤ m
      · rw [tyB_iff.2 ⟨hty (by omega), c2⟩, decide_eq_true c2]
      · rw [tyB_false (fun hh => c2 hh.2), decide_eq_false c2]
    · rw [if_neg c, tyB_false (fun hh => c (by have := hh.1.1; omega))]
  | d + 1, i, h, ho => by
    have hi : i < t.length := by omega
    have z := cast0 i
    have hlt := castlt hi
    by_cases hok : okN t i
    · have ih := types_l0 hn m d (i + 1) (by omega) (fun j hj => by
        by_cases e : j = i
        · rw [e]; exact hok
        · exact ho j (by omega))
      refine Ev.step (f := fun k => tickingref06_Types.l0 k t m ((i + 1 : Nat) : Int)) (fun k => ?_) ih
      unfold okN nd at hok
      obtain ⟨⟨k0, k1⟩, k2, ⟨a0, a1⟩, ⟨b0, b1⟩⟩ := hok
      have e2 := w64s (j := i) (by omega)
      simp only [tickingref06_Types.l0]
      rw [if_pos hlt, if_pos z, e2]
      clear e2 ih
      repeat' split
      all_goals first | rfl | (exfalso; omega)
    · rw [tyB_not hi hok]
      refine Ev.step (fun k => ?_) (Ev.now false)
      simp only [tickingref06_Types.l0]
      rw [if_pos hlt, if_pos z]
      repeat' split
      all_goals first | rfl | (refine absurd ?_ hok; unfold okN nd; refine ⟨⟨?_, ?_⟩, fun h => ⟨?_, ?_⟩, ⟨?_, ?_⟩, ⟨?_, ?_⟩⟩ <;> omega)
theorem Types_ev {t : List S39} (hn : t.length ≤ 1000) (m : Int) : Ev (fun k => tickingref06_Types.f k t m) (tyB t m) := types_l0 hn m t.length 0 (by omega) (fun j hj => by omega)
theorem within_eq (a b c : Int) : loops_within.f a b c = some (decide (b ≤ a ∧ a ≤ c)) := by
  unfold loops_within.f
  by_cases h : a ≥ b
  rotate_left
  · rw [if_neg h, decide_eq_false (fun hh => h hh.1)]
  rw [if_pos h]
  by_cases h2 : a ≤ c
  · rw [decide_eq_true h2, decide_eq_true ⟨h, h2⟩]
  rw [decide_eq_false h2, decide_eq_false (fun hh => h2 hh.2)]
theorem areTypes_l0 {t : List S39} (h1 : 1 ≤ t.length) (hn : t.length ≤ 24) : ∀ (d i : Nat), i + d = t.length → (∀ j : Nat, j < i → okN t j) → Ev (fun k => loops_areTypes.l0 k t t t.length (i : Int)) (tyB t 24)
  | 0, i, h, ho => by
    refine Ev.step (fun k => ?_) (Ev.now (tyB t 24))
    simp only [loops_areTypes.l0]
    rw [if_neg (by omega), tyB_iff.2 ⟨⟨h1, fun j j0 j1 => by
      have := ho j.toNat (by omega)
      rwa [Int.toNat_of_nonneg j0] at this⟩, by omega⟩]
  | d + 1, i, h, ho => by
    have hi : i < t.length := by omega
    have z := cast0 i
    have hlt := castlt hi
    have hw : wrap64 ((t.length : Int) - 1) = (t.length : Int) - 1 := w64 (by omega) (by omega)
    obtain ⟨x5, hx5⟩ : ∃ x5, x5 = if 4 ≤ (nd t i).f0 then (t.length : Int) - 1 else 0 := ⟨_, rfl⟩
    have go : ∀ r, Ev (fun k => loops_areTypes.j1 k t x5 t t.length (i : Int) (nd t i).f0 (nd t i).f1 (nd t i).f2) r → (0 ≤ (nd t i).f0 → (nd t i).f0 ≤ 5 → Ev (fun k => loops_areTypes.l0 k t t t.length (i : Int)) r) := fun r hr f0 f5 => by
      refine Ev.step (fun k => ?_) hr
      simp only [loops_areTypes.l0]
      rw [if_pos hlt, if_pos z, if_pos hlt, hw]
      by_cases c : 4 ≤ (nd t i).f0
      · rw [if_pos c] at hx5
        have : loops_hasParts.f (rd_T39 t i).f0 (rd_T39 t i).f1 (rd_T39 t i).f2 = some true := by
          unfold loops_hasParts.f
          by_cases c4 : (nd t i).f0 = 4
          · rw [if_pos c4]
          · have c5 : (nd t i).f0 = 5 := by omega
            rw [if_neg c4, beq_iff_eq.2 c5]
        rw [this, Option.bind_some, if_pos rfl, hx5]
      · rw [if_neg c] at hx5
        have : loops_hasParts.f (rd_T39 t i).f0 (rd_T39 t i).f1 (rd_T39 t i).f2 = some false := by
          unfold loops_hasParts.f
          have c4 : ¬ (rd_T39 t i).f0 = 4 := fun e => c (by rw [e]; decide)
          have c5 : ¬ (rd_T39 t i).f0 = 5 := fun e => c (by rw [e]; decide)
          rw [if_neg c4, beq_eq_false_iff_ne.2 c5]
        rw [this, Option.bind_some, if_neg (by decide), hx5]
    have z5 : 0 ≤ x5 := by rw [hx5]; split <;> omega
    by_cases hok : okN t i
    · have ih := areTypes_l0 h1 hn d (i + 1) (by omega) (fun j hj => by
        by_cases e : j = i
        · rw [e]; exact hok
        · exact ho j (by omega))
      obtain ⟨⟨k0, k1⟩, k2, ⟨a0, a1⟩, ⟨b0, b1⟩⟩ := hok
      refine go _ ?_ k0 k1
      refine Ev.step (f := fun k => loops_areTypes.l0 k t t t.length ((i + 1 : Nat) : Int)) (fun k => ?_) ih
      have e2 := w64s (j := i) (by omega)
      have q1 : (nd t i).f1 ≤ x5 := by rw [hx5]; split <;> omega
      have q2 : (nd t i).f2 ≤ x5 := by rw [hx5]; split <;> omega
      simp only [loops_areTypes.j1]
      rw [within_eq, decide_eq_true ⟨k0, k1⟩, within_eq, decide_eq_true ⟨a0, q1⟩, within_eq, decide_eq_true ⟨b0, q2⟩, e2]
      rfl
    rw [tyB_not hi hok]
    by_cases hk : 0 ≤ (nd t i).f0 ∧ (nd t i).f0 ≤ 5
    · refine go _ ?_ hk.1 hk.2
      refine Ev.step (fun k => ?_) (Ev.now false)
      simp only [loops_areTypes.j1]
      rw [within_eq, decide_eq_true hk, Option.bind_some, if_pos rfl, within_eq]
      by_cases c1 : 0 ≤ (nd t i).f1 ∧ (nd t i).f1 ≤ x5
      · rw [decide_eq_true c1, Option.bind_some, if_pos rfl, within_eq]
        by_cases c2 : 0 ≤ (nd t i).f2 ∧ (nd t i).f2 ≤ x5
        · exfalso
          apply hok
          have q : ¬ 4 ≤ (nd t i).f0 → x5 = 0 := fun c => by rw [hx5, if_neg c]
          have q' : x5 ≤ (t.length : Int) - 1 := by rw [hx5]; split <;> omega
          refine ⟨hk, fun h => ⟨?_, ?_⟩, ⟨?_, ?_⟩, ⟨?_, ?_⟩⟩ <;> omega
        · rw [decide_eq_false c2]
          rfl
      · rw [decide_eq_false c1]
        rfl
    -- a kind that is none: both ways end so
    refine Ev.step (f := fun k => loops_areTypes.j1 k t (if (nd t i).f0 = 4 ∨ (nd t i).f0 = 5 then (t.length : Int) - 1 else 0) t t.length (i : Int) (nd t i).f0 (nd t i).f1 (nd t i).f2) (fun k => ?_) (Ev.step (fun k => ?_) (Ev.now false))
    · simp only [loops_areTypes.l0]
      have c4 : ¬ (rd_T39 t i).f0 = 4 := fun e => hk ⟨by show 0 ≤ (rd_T39 t i).f0; omega, by show (rd_T39 t i).f0 ≤ 5; omega⟩
      have c5 : ¬ (rd_T39 t i).f0 = 5 := fun e => hk ⟨by show 0 ≤ (rd_T39 t i).f0; omega, by show (rd_T39 t i).f0 ≤ 5; omega⟩
      have : loops_hasParts.f (rd_T39 t i).f0 (rd_T39 t i).f1 (rd_T39 t i).f2 = some false := by
        unfold loops_hasParts.f
        rw [if_neg c4, beq_eq_false_iff_ne.2 c5]
      rw [if_pos hlt, if_pos z, if_pos hlt, this, Option.bind_some, if_neg (by decide), if_neg (show ¬ ((nd t i).f0 = 4 ∨ (nd t i).f0 = 5) from fun h => h.elim c4 c5)]
    simp only [loops_areTypes.j1]
    rw [within_eq, decide_eq_false hk]
    rfl
theorem areTypes_ev {t : List S39} (hn : t.length ≤ 1000) : Ev (fun k => loops_areTypes.f k t) (tyB t 24) := by
  unfold loops_areTypes.f
  simp only [within_eq]
  by_cases c : 1 ≤ (t.length : Int) ∧ (t.length : Int) ≤ 24
  · refine Ev.congr (fun k => ?_) (areTypes_l0 (by omega) (by omega) t.length 0 (by omega) (fun j hj => by omega))
    rw [decide_eq_true c]
    rfl
  rw [tyB_false (fun hh => c ⟨by have := hh.1.1; omega, hh.2⟩)]
  refine Ev.congr (fun k => ?_) (Ev.now false)
  rw [decide_eq_false c]
  rfl
/-- All of some nodes lie in a list. -/
def inB (t : List S39) (is : List Int) : Bool := is.all (fun i => decide (0 ≤ i ∧ i < t.length))
theorem areNodes_ev {t : List S39} (hn : t.length ≤ 1000) (is : List Int) : Ev (fun k => loops_areNodes.f k t is) (tyB t 24 && inB t is) := by
  unfold loops_areNodes.f
  refine Ev.bind (f := fun k (b : Bool) => if b = true then some (!(is.any (badNode t.length))) else some false) (areTypes_ev hn) ?_
  refine Ev.congr (fun k => ?_) (Ev.now _)
  cases tyB t 24 with
  | false => rfl
  | true =>
    rw [if_pos rfl, Bool.true_and]
    congr 1
    unfold inB
    rw [List.not_any_eq_all_not]
    congr 1
    funext i
    unfold badNode
    rw [Bool.not_not]
    apply decide_eq_decide.2
    omega
theorem bad_ev {t : List S39} (hn : t.length ≤ 1000) (a b : Int) : Ev (fun k => tickinglaw06_bad.f k t a b) (!(tyB t 24 && inB t [a, b])) := by
  unfold tickinglaw06_bad.f
  refine Ev.bind (f := fun k (x : Bool) => if x = true then (if a < 0 then (some true) else (if a ≥ (t.length : Int) then (some true) else (if b < 0 then (some true) else (some (decide (b ≥ (t.length : Int))))))) else (some true)) (Types_ev hn 24) ?_
  refine Ev.congr (fun k => ?_) (Ev.now _)
  cases tyB t 24 with
  | false => rfl
  | true =>
    rw [if_pos rfl, Bool.true_and]
    unfold inB
    simp only [List.all_cons, List.all_nil, Bool.and_true]
    repeat' split
    all_goals first
      | (have hd : decide (0 ≤ a ∧ a < t.length) = false := decide_eq_false (by omega); rw [hd]; rfl)
      | (have hd : decide (0 ≤ b ∧ b < t.length) = false := decide_eq_false (by omega); rw [hd, Bool.and_false]; rfl)
      | (have hd : decide (0 ≤ a ∧ a < t.length) = true := decide_eq_true (by omega)
         rw [hd, Bool.true_and]
         congr 1
         by_cases c : b < t.length
         · rw [decide_eq_true (p := 0 ≤ b ∧ b < t.length) (by omega), decide_eq_false (by omega)]
           rfl
         · rw [decide_eq_false (p := 0 ≤ b ∧ b < t.length) (by omega), decide_eq_true (by omega)]
           rfl)
theorem own_eq (t : List S39) : tickinglaw06_own.f t = some (t.take 25) := by
  unfold tickinglaw06_own.f
  have hm : mn (t.length : Int) 25 = ((min t.length 25 : Nat) : Int) := by
    unfold mn
    split <;> omega
  rw [hm, if_pos (by omega), if_pos (by omega), Option.bind_some, if_pos (by simp; omega), List.nil_append, Int.toNat_natCast]
  congr 1
  rw [List.take_eq_take_iff]
  omega
theorem own_len (t : List S39) : (t.take 25).length ≤ 25 := by simp; omega
/-- The canonical list. -/
noncomputable def canL (t : List S39) (i : Int) : List S39 := (canS t 200 [i] 0 []).getD []
theorem inB_two {t : List S39} {i j : Int} : inB t [i, j] = true ↔ (0 ≤ i ∧ i < t.length) ∧ (0 ≤ j ∧ j < t.length) := by simp [inB]
end Go.Proofs.Ytnfmeafiaipplaa.P

namespace Go.Proofs.Ytnfmeafiaipplaa.P
open Go.RowKit Go.Proofs.Ytnfmeafiaipplaa.S Go.Proofs.Ytnfmeafiaipplaa.Lib Go.Proofs.YtnfmeafiaipplaaW.PrintWords
set_option linter.unusedVariables false
def awT : List S39 := [(⟨4, 1, 0⟩ : S39), (⟨2, 0, 0⟩ : S39), (⟨3, 0, 0⟩ : S39), (⟨5, 4, 1⟩ : S39), (⟨1, 0, 0⟩ : S39), (⟨5, 1, 4⟩ : S39)]
theorem aw_can : loops_Canonical.f 40 awT 0 = some ([⟨4, 1, 0⟩, ⟨2, 0, 0⟩], 0) := by kernel_rfl
theorem aw_dep3 : loops_Depth.f 40 awT 3 = some (1, 0) := by kernel_rfl
theorem aw_dep0 : loops_Depth.f 40 awT 0 = some (0, 6) := by kernel_rfl
theorem aw_sub12 : (loops_Sub.f 40 awT 1 2).map (fun x => (x.1, x.2.2)) = some (false, ByteArray.empty, 0) := by kernel_rfl
theorem aw_sub35 : (loops_Sub.f 40 awT 3 5).map (fun x => (x.1, x.2.2.2)) = some (true, 0) := by kernel_rfl
theorem aw_types : tickinglaw06_types.f 40 [(⟨4, 1, 0⟩ : S39), ⟨2, 0, 0⟩] [(⟨4, 1, 0⟩ : S39), ⟨2, 0, 0⟩] = some true := by kernel_rfl
theorem aw_empty : ByteArray.empty.toList = ([] : List UInt8) := by
 unfold ByteArray.toList ByteArray.toList.loop
 rfl
theorem awake_40 : tickinglaw06_awake.f 40 = some true := by
 obtain ⟨x, hx, ex⟩ := Option.map_eq_some_iff.1 aw_sub12
 obtain ⟨y, hy, ey⟩ := Option.map_eq_some_iff.1 aw_sub35
 obtain ⟨x1, x2⟩ := Prod.mk.inj ex
 obtain ⟨x3, x4⟩ := Prod.mk.inj x2
 obtain ⟨y1, y2⟩ := Prod.mk.inj ey
 unfold tickinglaw06_awake.f
 rw [Option.bind_some]
 show ((loops_Sub.f 40 awT 1 2).bind fun bt170 => ((loops_Sub.f 40 awT 3 5).bind fun bt177 => ((loops_Canonical.f 40 awT 0).bind fun bt184 => ((loops_Depth.f 40 awT 3).bind fun bt188 => ((loops_Depth.f 40 awT 0).bind fun bt190 => _))))) = some true
 rw [hx, hy, aw_can, aw_dep3, aw_dep0]
 simp only [Option.bind_some]
 rw [if_pos x4, if_neg (by rw [x1]; decide), if_pos (by rw [x3]; exact aw_empty), if_pos y2, if_pos y1]
 simp only [if_true, aw_types, Option.bind_some]
 rfl
theorem awake_ev : Ev (fun k => tickinglaw06_awake.f k) true := Ev.of (fun k => tickinglaw06_awake.mono k) awake_40
end Go.Proofs.Ytnfmeafiaipplaa.P

namespace Go.Proofs.Ytnfmeafiaipplaa.P
open Go.RowKit Go.Proofs.Ytnfmeafiaipplaa.S Go.Proofs.Ytnfmeafiaipplaa.Lib Go.Proofs.YtnfmeafiaipplaaW.PrintWords
set_option linter.unusedVariables false
set_option linter.unusedSectionVars false

/-- What a relation of subtypes must bear, at two nodes. -/
def Stp (t : List S39) (R : Int → Int → Prop) (i j : Int) : Prop :=
  ((nd t i).f0 = 0 ∨ (nd t j).f0 = 1) ∨ ((nd t i).f0 = (nd t j).f0 ∧ ((nd t i).f0 = 4 → R (nd t i).f1 (nd t j).f1 ∧ R (nd t i).f2 (nd t j).f2) ∧ ((nd t i).f0 = 5 → R (nd t j).f1 (nd t i).f1 ∧ R (nd t i).f2 (nd t j).f2))
theorem Stp.mono {t : List S39} {R R' : Int → Int → Prop} {i j : Int} (h : Stp t R i j) (hR : ∀ a b, R a b → R' a b) : Stp t R' i j := by
  rcases h with h | ⟨h1, h2, h3⟩
  · exact .inl h
  exact .inr ⟨h1, fun c => ⟨hR _ _ (h2 c).1, hR _ _ (h2 c).2⟩, fun c => ⟨hR _ _ (h3 c).1, hR _ _ (h3 c).2⟩⟩
def SubC (t : List S39) (i j : Int) : Prop := ∃ R : Int → Int → Prop, (∀ a b, R a b → Stp t R a b) ∧ R i j
theorem SubC.step {t : List S39} {i j : Int} (h : SubC t i j) : Stp t (SubC t) i j := by
  obtain ⟨R, h1, h2⟩ := h
  exact (h1 i j h2).mono (fun a b hab => ⟨R, h1, hab⟩)
theorem SubC.of_same {t : List S39} {i j : Int} (h : Same t i t j) : SubC t i j :=
  ⟨fun a b => Same t a t b, fun a b hab => .inr ⟨(same_iff.1 hab).1, fun c => (same_iff.1 hab).2 (by omega), fun c => ⟨((same_iff.1 hab).2 (by omega)).1.symm, ((same_iff.1 hab).2 (by omega)).2⟩⟩, h⟩
theorem SubC.refl (t : List S39) (i : Int) : SubC t i i := .of_same (Same.refl t i)
theorem SubC.trans {t : List S39} {i j k : Int} (h : SubC t i j) (h' : SubC t j k) : SubC t i k := by
  refine ⟨fun a c => ∃ b, SubC t a b ∧ SubC t b c, ?_, j, h, h'⟩
  rintro a c ⟨b, h1, h2⟩
  rcases h1.step with (p | p) | ⟨p1, p2, p3⟩
  · exact .inl (.inl p)
  · rcases h2.step with (q | q) | ⟨q1, _, _⟩
    · omega
    · exact .inl (.inr q)
    · exact .inl (.inr (by omega))
  rcases h2.step with (q | q) | ⟨q1, q2, q3⟩
  · exact .inl (.inl (by omega))
  · exact .inl (.inr q)
  exact .inr ⟨by omega, fun c => ⟨⟨_, (p2 c).1, (q2 (by omega)).1⟩, ⟨_, (p2 c).2, (q2 (by omega)).2⟩⟩, fun c => ⟨⟨_, (q3 (by omega)).1, (p3 c).1⟩, ⟨_, (p3 c).2, (q3 (by omega)).2⟩⟩⟩
theorem stp_needs {t : List S39} (hv : ∀ i : Int, 0 ≤ i → i < t.length → okN t i) {i j : Int} (i0 : 0 ≤ i) (i1 : i < t.length) {R : Int → Int → Prop} : Stp t R i j ↔ ∃ m, needsF (nd t i) (nd t j) = some m ∧ ∀ c q, needGet m c = some q → R (s23 q).f0 (s23 q).f1 := by
  obtain ⟨⟨k0, k1⟩, _⟩ := hv i i0 i1
  unfold needsF Stp
  by_cases c0 : (nd t i).f0 = 0 ∨ (nd t j).f0 = 1
  · rw [if_pos c0]
    exact ⟨fun _ => ⟨none, rfl, fun c q h => by cases h⟩, fun _ => .inl c0⟩
  rw [if_neg c0]
  by_cases c1 : (nd t i).f0 = (nd t j).f0
  rotate_left
  · rw [if_pos c1]
    constructor
    · rintro (h | ⟨h, _⟩)
      · exact absurd h c0
      · exact absurd h c1
    · rintro ⟨m, hm, _⟩
      cases hm
  rw [if_neg (by simpa using c1)]
  by_cases c4 : (nd t i).f0 = 4
  · rw [if_pos c4]
    constructor
    · rintro (h | ⟨_, h, _⟩)
      · exact absurd h c0
      · refine ⟨_, rfl, fun c q hq => ?_⟩
        simp only [needGet] at hq
        split at hq
        · cases hq; exact (h c4).1
        · split at hq
          · cases hq; exact (h c4).2
          · cases hq
    · rintro ⟨m, hm, h⟩
      cases hm
      exact .inr ⟨c1, fun _ => ⟨h 97 _ rfl, h 98 _ rfl⟩, fun c5 => by omega⟩
  rw [if_neg c4]
  by_cases c5 : (nd t i).f0 = 5
  rotate_left
  · rw [if_neg c5]
    exact ⟨fun _ => ⟨none, rfl, fun c q h => by cases h⟩, fun _ => .inr ⟨c1, fun c => absurd c c4, fun c => absurd c c5⟩⟩
  rw [if_pos c5]
  constructor
  · rintro (h | ⟨_, _, h⟩)
    · exact absurd h c0
    · refine ⟨_, rfl, fun c q hq => ?_⟩
      simp only [needGet] at hq
      split at hq
      · cases hq; exact (h c5).1
      · split at hq
        · cases hq; exact (h c5).2
        · cases hq
  rintro ⟨m, hm, h⟩
  cases hm
  exact .inr ⟨c1, fun c4' => absurd c4' c4, fun _ => ⟨h 97 _ rfl, h 98 _ rfl⟩⟩
def inP (t : List S39) (p : S23) : Prop := (0 ≤ p.f0 ∧ p.f0 < t.length) ∧ (0 ≤ p.f1 ∧ p.f1 < t.length)
theorem l23_inj {p q : S23} (h : l23 p = l23 q) : p = q := by
  obtain ⟨a, b⟩ := p
  obtain ⟨c, d⟩ := q
  simp [l23] at h
  rw [h.1, h.2]
theorem hasK_cons (bs : Bad) (k : List Int) (c : Int) (q : List Int) : hasK ((k, c) :: bs) q = (q == k || hasK bs q) := by
  unfold hasK
  rw [List.lookup_cons]
  cases h : q == k <;> simp
theorem letOf_cons (bs : Bad) (k : List Int) (c : Int) (q : List Int) : letOf ((k, c) :: bs) q = if q = k then c else letOf bs q := by
  unfold letOf
  rw [List.lookup_cons]
  by_cases h : q = k
  · rw [if_pos h, h]
    simp
  rw [if_neg h, beq_eq_false_iff_ne.2 h]
/-- Why a pair is refuted, by a list. -/
def Why (t : List S39) (bs : Bad) (p : S23) (c : Int) : Prop :=
  (c = 0 ∧ needsF (nd t p.f0) (nd t p.f1) = none) ∨ ((c = 97 ∨ c = 98) ∧ ∃ m q, needsF (nd t p.f0) (nd t p.f1) = some m ∧ needGet m c = some q ∧ hasK bs q = true)
inductive Rk (t : List S39) : Bad → Prop where
  | nil : Rk t []
  | cons (p : S23) (c : Int) (bs : Bad) : Rk t bs → inP t p → hasK bs (l23 p) = false → Why t bs p c → Rk t ((l23 p, c) :: bs)
theorem need_inP {t : List S39} (hv : ∀ i : Int, 0 ≤ i → i < t.length → okN t i) {p : S23} (hp : inP t p) {m : Option (List Int × List Int)} (hm : needsF (nd t p.f0) (nd t p.f1) = some m) {c : Int} {q : List Int} (hq : needGet m c = some q) : q = l23 (s23 q) ∧ inP t (s23 q) := by
  obtain ⟨_, _, a1, b1⟩ := hv _ hp.1.1 hp.1.2
  obtain ⟨_, _, a2, b2⟩ := hv _ hp.2.1 hp.2.2
  unfold needsF at hm
  repeat' split at hm
  all_goals first
    | (cases hm; done)
    | (cases hm; cases hq; done)
    | (cases hm; simp only [needGet] at hq; split at hq
       · cases hq; exact ⟨rfl, by first | exact ⟨a1, a2⟩ | exact ⟨a2, a1⟩⟩
       · split at hq
         · cases hq; exact ⟨rfl, ⟨b1, b2⟩⟩
         · cases hq)
theorem Rk.sound {t : List S39} (hv : ∀ i : Int, 0 ≤ i → i < t.length → okN t i) {bs : Bad} (h : Rk t bs) : ∀ p : S23, hasK bs (l23 p) = true → ¬ SubC t p.f0 p.f1 := by
  induction h with
  | nil => intro p hp; cases hp
  | cons p c bs hr hin hno hw ih =>
    intro x hx hs
    rw [hasK_cons, Bool.or_eq_true] at hx
    rcases hx with hx | hx
    · have e := l23_inj (beq_iff_eq.1 hx)
      subst e
      obtain ⟨m, hm, hall⟩ := (stp_needs hv hin.1.1 hin.1.2).1 hs.step
      rcases hw with ⟨_, hn⟩ | ⟨_, m', q, hm', hq, hb⟩
      · rw [hn] at hm; cases hm
      · rw [hm] at hm'
        cases hm'
        have := (need_inP hv hin hm hq).1
        exact ih (s23 q) (by rw [← this]; exact hb) (hall c q hq)
    exact ih x hx hs
theorem Rk.let_suf {t : List S39} {suf : Bad} {k : List Int} (hk : hasK suf k = true) : ∀ {pre : Bad}, Rk t (pre ++ suf) → letOf (pre ++ suf) k = letOf suf k
  | [], _ => rfl
  | x :: pre, h => by
    cases h with
    | cons p c bs hr hin hno hw =>
      have hin2 : hasK (pre ++ suf) k = true := by
        clear hno hr hw
        induction pre with
        | nil => exact hk
        | cons y pre ih =>
          obtain ⟨a, b⟩ := y
          rw [List.cons_append, hasK_cons, ih, Bool.or_true]
      have hno' : hasK (pre ++ suf) (l23 p) = false := hno
      rw [List.cons_append, letOf_cons, if_neg (fun e => by rw [e, hno'] at hin2; cases hin2)]
      exact Rk.let_suf hk hr
theorem Rk.suf {t : List S39} {suf : Bad} : ∀ {pre : Bad}, Rk t (pre ++ suf) → Rk t suf
  | [], h => h
  | x :: pre, h => by
    cases h with
    | cons p c bs hr hin hno hw => exact Rk.suf hr
/-- All pairs of nodes. -/
def allP (t : List S39) : List (List Int) := (List.range t.length).flatMap (fun i : Nat => (List.range t.length).map (fun j : Nat => [(i : Int), (j : Int)]))
theorem sum_const (n : Nat) : ∀ l : List Nat, (l.map (fun _ => n)).sum = l.length * n
  | [] => by simp
  | a :: l => by rw [List.map_cons, List.sum_cons, sum_const n l, List.length_cons, Nat.succ_mul, Nat.add_comm]
theorem allP_len (t : List S39) : (allP t).length = t.length * t.length := by
  unfold allP
  rw [List.length_flatMap]
  simp only [List.length_map, List.length_range]
  rw [sum_const, List.length_range]
theorem allP_mem {t : List S39} {p : S23} (h : inP t p) : l23 p ∈ allP t := by
  unfold allP
  refine List.mem_flatMap.2 ⟨p.f0.toNat, List.mem_range.2 (by have := h.1; omega), List.mem_map.2 ⟨p.f1.toNat, List.mem_range.2 (by have := h.2; omega), ?_⟩⟩
  unfold l23
  rw [Int.toNat_of_nonneg h.1.1, Int.toNat_of_nonneg h.2.1]
theorem Rk.keys {t : List S39} {bs : Bad} (h : Rk t bs) : (bs.map (·.1)).Nodup ∧ (∀ k ∈ bs.map (·.1), k ∈ allP t) ∧ ∀ k, k ∈ bs.map (·.1) ↔ hasK bs k = true := by
  induction h with
  | nil => exact ⟨List.nodup_nil, fun k hk => by simp at hk, fun k => ⟨fun hk => by simp at hk, fun hk => by cases hk⟩⟩
  | cons p c bs hr hin hno hw ih =>
    refine ⟨?_, fun k hk => ?_, fun k => ?_⟩
    · rw [List.map_cons, List.nodup_cons]
      exact ⟨(fun hm => by rw [(ih.2.2 _).1 hm] at hno; cases hno), ih.1⟩
    · rcases List.mem_cons.1 hk with rfl | hk
      · exact allP_mem hin
      · exact ih.2.1 k hk
    rw [List.map_cons, List.mem_cons, hasK_cons, Bool.or_eq_true, ih.2.2 k, beq_iff_eq]
theorem Rk.len {t : List S39} {bs : Bad} (h : Rk t bs) : bs.length ≤ t.length * t.length := by
  have := nodup_sub_len h.keys.1 h.keys.2.1
  rwa [List.length_map, allP_len] at this

/-- A pair that a stage leaves: nothing that it needs is refuted. -/
def Fine (t : List S39) (bs : Bad) (p : S23) : Prop := ∃ m, needsF (nd t p.f0) (nd t p.f1) = some m ∧ ∀ c q, needGet m c = some q → hasK bs q = false
/-- A stage under way: the pairs that it has been at are told by D. -/
structure Stg (t : List S39) (bs : Bad) (D : S23 → Prop) (st : List S23 × Bad) : Prop where
 dup : st.1.Nodup
 what : ∀ p ∈ st.1, inP t p ∧ D p ∧ hasK bs (l23 p) = false ∧ Why t bs p (letOf st.2 (l23 p))
 rest : ∀ p, inP t p → D p → hasK bs (l23 p) = false → p ∈ st.1 ∨ Fine t bs p
 new : ∀ p, ¬ D p → letOf st.2 (l23 p) = 0
 len : st.2.length ≤ st.1.length
theorem Stg.size {t : List S39} {bs : Bad} {D : S23 → Prop} {st : List S23 × Bad} (h : Stg t bs D st) : st.1.length ≤ t.length * t.length := by
 have hnd : (st.1.map l23).Nodup := by
  rw [List.Nodup, List.pairwise_map]
  exact h.dup.imp (fun hne e => hne (l23_inj e))
 have := nodup_sub_len hnd (fun k hk => by
  obtain ⟨p, hp, rfl⟩ := List.mem_map.1 hk
  exact allP_mem (h.what p hp).1)
 rwa [List.length_map, allP_len] at this
theorem Stg.iff {t : List S39} {bs : Bad} {D D' : S23 → Prop} {st : List S23 × Bad} (h : Stg t bs D st) (e : ∀ p, inP t p → (D p ↔ D' p)) (e' : ∀ p, ¬ D' p → ¬ D p) : Stg t bs D' st :=
 ⟨h.dup, fun p hp => by
  obtain ⟨a, b, c, d⟩ := h.what p hp
  exact ⟨a, (e p a).1 b, c, d⟩, fun p hp hd => h.rest p hp ((e p hp).2 hd), fun p hd => h.new p (e' p hd), h.len⟩
theorem Stg.cell {t : List S39} {bs : Bad} {D : S23 → Prop} {st : List S23 × Bad} (h : Stg t bs D st) {i j : Int} (hp : inP t ⟨i, j⟩) (hD : ¬ D ⟨i, j⟩) : Stg t bs (fun p => D p ∨ p = ⟨i, j⟩) (cellStep t bs i j st) := by
 have hn : (⟨i, j⟩ : S23) ∉ st.1 := fun hm => hD (h.what _ hm).2.1
 have hlet := h.new _ hD
 -- a pair that is taken
 have take : ∀ (ls : Bad), (∀ q, q ≠ l23 ⟨i, j⟩ → letOf ls q = letOf st.2 q) → ls.length ≤ st.2.length + 1 → hasK bs (l23 ⟨i, j⟩) = false → Why t bs ⟨i, j⟩ (letOf ls (l23 ⟨i, j⟩)) → Stg t bs (fun p => D p ∨ p = ⟨i, j⟩) (st.1 ++ [⟨i, j⟩], ls) := fun ls h1 h2 h3 h4 => by
  refine ⟨?_, fun p hpp => ?_, fun p hpp hd hk => ?_, fun p hd => ?_, ?_⟩
  ·exact List.nodup_append.2 ⟨h.dup, by simp, fun a ha b hb => by simp at hb; subst hb; exact fun e => hn (e ▸ ha)⟩
  ·rcases List.mem_append.1 hpp with hpp | hpp
   ·obtain ⟨a, b, c, d⟩ := h.what p hpp
    refine ⟨a, .inl b, c, ?_⟩
    rw [show letOf (st.1 ++ [(⟨i, j⟩ : S23)], ls).2 (l23 p) = letOf st.2 (l23 p) from h1 _ (fun e => hn (l23_inj e ▸ hpp))]
    exact d
   ·simp at hpp
    subst hpp
    exact ⟨hp, .inr rfl, h3, h4⟩
  ·rcases hd with hd | rfl
   ·rcases h.rest p hpp hd hk with hm | hf
    ·exact .inl (List.mem_append_left _ hm)
    ·exact .inr hf
   ·exact .inl (by simp)
  ·have hne : p ≠ ⟨i, j⟩ := fun e => hd (.inr e)
   rw [show letOf (st.1 ++ [(⟨i, j⟩ : S23)], ls).2 (l23 p) = letOf st.2 (l23 p) from h1 _ (fun e => hne (l23_inj e))]
   exact h.new p (fun hh => hd (.inl hh))
  ·have := h.len
   simp
   omega
 -- a pair that is left
 have leave : (hasK bs (l23 ⟨i, j⟩) = false → Fine t bs ⟨i, j⟩) → Stg t bs (fun p => D p ∨ p = ⟨i, j⟩) st := fun h1 => by
  refine ⟨h.dup, fun p hpp => ?_, fun p hpp hd hk => ?_, fun p hd => h.new p (fun hh => hd (.inl hh)), h.len⟩
  ·obtain ⟨a, b, c, d⟩ := h.what p hpp
   exact ⟨a, .inl b, c, d⟩
  ·rcases hd with hd | rfl
   ·exact h.rest p hpp hd hk
   ·exact .inr (h1 hk)
 have letc : ∀ c : Int, (∀ q, q ≠ l23 ⟨i, j⟩ → letOf ((l23 ⟨i, j⟩, c) :: st.2) q = letOf st.2 q) := fun c q hq => by rw [letOf_cons, if_neg hq]
 unfold cellStep
 by_cases hk : hasK bs [i, j] = true
 ·rw [if_pos hk]
  exact leave (fun hf => by have hf' : hasK bs [i, j] = false := hf; rw [hk] at hf'; cases hf')
 rw [if_neg hk]
 have hkf : hasK bs (l23 ⟨i, j⟩) = false := by
  cases e : hasK bs (l23 ⟨i, j⟩) with
  | false => rfl
  | true => exact absurd e hk
 cases hm : needsF (rd_T39 t i) (rd_T39 t j) with
 | none => exact take st.2 (fun q _ => rfl) (by omega) hkf (.inl ⟨hlet, hm⟩)
 | some m =>
  have hm' : needsF (nd t i) (nd t j) = some m := hm
  show Stg t bs _ (abIn bs ⟨i, j⟩ m 0 st)
  unfold abIn
  rw [if_pos rfl]
  have hfine : (∀ c q, (c = 97 ∨ c = 98) → needGet m c = some q → hasK bs q = false) → Fine t bs ⟨i, j⟩ := fun hh => ⟨m, hm', fun c q hq => by
   refine hh c q ?_ hq
   unfold needGet at hq
   split at hq
   ·cases hq
   ·split at hq
    ·exact .inl ‹_›
    ·split at hq
     ·exact .inr ‹_›
     ·cases hq⟩
  have s98 : (∀ q, needGet m 97 = some q → hasK bs q = false) → Stg t bs (fun p => D p ∨ p = ⟨i, j⟩) (abStep bs ⟨i, j⟩ (needGet m 98) 98 st) := fun h97 => by
   unfold abStep
   cases h98 : needGet m 98 with
   | none =>
    exact leave (fun _ => hfine (fun c q hc hq => by
     rcases hc with rfl | rfl
     ·exact h97 q hq
     ·rw [h98] at hq; cases hq))
   | some q =>
    simp only []
    by_cases hb : hasK bs q = true
    ·rw [if_pos ⟨hlet, hb⟩]
     exact take _ (letc 98) (by simp) hkf (by
      rw [letOf_cons, if_pos rfl]
      exact .inr ⟨.inr rfl, m, q, hm', h98, hb⟩)
    ·rw [if_neg (fun hh => hb hh.2)]
     exact leave (fun _ => hfine (fun c q' hc hq => by
      rcases hc with rfl | rfl
      ·exact h97 q' hq
      ·rw [h98] at hq
       cases hq
       simpa using hb))
  have e97 : abStep bs ⟨i, j⟩ (needGet m 97) 97 st = st ∧ (∀ q, needGet m 97 = some q → hasK bs q = false) ∨ (∃ q, needGet m 97 = some q ∧ hasK bs q = true) ∧ abStep bs ⟨i, j⟩ (needGet m 97) 97 st = (st.1 ++ [⟨i, j⟩], (l23 ⟨i, j⟩, 97) :: st.2) := by
   unfold abStep
   cases h97 : needGet m 97 with
   | none => exact .inl ⟨rfl, fun q hq => by cases hq⟩
   | some q =>
    simp only []
    by_cases hb : hasK bs q = true
    ·exact .inr ⟨⟨q, rfl, hb⟩, if_pos ⟨hlet, hb⟩⟩
    ·exact .inl ⟨if_neg (fun hh => hb hh.2), fun q' hq => by cases hq; simpa using hb⟩
  rcases e97 with ⟨e, h97⟩ | ⟨⟨q, hq, hb⟩, e⟩
  ·rw [e]
   exact s98 h97
  rw [e]
  have hl97 : letOf ((l23 ⟨i, j⟩, 97) :: st.2) (l23 ⟨i, j⟩) = 97 := by rw [letOf_cons, if_pos rfl]
  have : abStep bs ⟨i, j⟩ (needGet m 98) 98 (st.1 ++ [⟨i, j⟩], (l23 ⟨i, j⟩, 97) :: st.2) = (st.1 ++ [⟨i, j⟩], (l23 ⟨i, j⟩, 97) :: st.2) := by
   unfold abStep
   cases needGet m 98 with
   | none => rfl
   | some q' =>
    simp only []
    rw [if_neg (fun hh => by rw [hl97] at hh; exact absurd hh.1 (by decide))]
  rw [this]
  exact take _ (letc 97) (by simp) hkf (by
   rw [hl97]
   exact .inr ⟨.inl rfl, m, q, hm', hq, hb⟩)
section
variable {t : List S39} (hv : ∀ i : Int, 0 ≤ i → i < t.length → okN t i) (hn : t.length ≤ 24) {bs : Bad}
include hv hn
theorem sq_le : t.length * t.length ≤ 576 := Nat.mul_le_mul hn hn
theorem jGo_ok {i : Int} (i0 : 0 ≤ i) (i1 : i < t.length) : ∀ (d j f : Nat) (st : List S23 × Bad), j + d = t.length → d < f → Stg t bs (fun p => p.f0 < i ∨ (p.f0 = i ∧ p.f1 < j)) st → ∃ st', jGo t bs i f j st = some st' ∧ Stg t bs (fun p => p.f0 < i + 1) st'
 | 0, j, f, st, h, hf, hS => by
  obtain ⟨f, rfl⟩ : ∃ g, f = g + 1 := ⟨f - 1, by omega⟩
  refine ⟨st, ?_, hS.iff (fun p hp => ?_) (fun p hd hh => hd ?_)⟩
  ·unfold jGo
   rw [if_neg (by omega)]
  ·have := hp.2.2
   omega
  ·omega
 | d + 1, j, f, st, h, hf, hS => by
  obtain ⟨f, rfl⟩ : ∃ g, f = g + 1 := ⟨f - 1, by omega⟩
  have hsz := hS.size
  have hl := hS.len
  have hsq := sq_le hv hn
  have hin : inP t ⟨i, (j : Int)⟩ := ⟨⟨i0, i1⟩, ⟨by show (0 : Int) ≤ (j : Int); omega, by show (j : Int) < _; omega⟩⟩
  have hc := hS.cell hin (fun hd => by
   rcases hd with hd | ⟨_, hd⟩
   ·have hd : i < i := hd; omega
   ·have hd : (j : Int) < (j : Int) := hd; omega)
  obtain ⟨st', e, hS'⟩ := jGo_ok i0 i1 d (j + 1) f (cellStep t bs i j st) (by omega) (by omega) (hc.iff (fun p _ => by
   constructor
   ·rintro (h | h)
    ·omega
    ·rw [h]; right; exact ⟨rfl, by show (j : Int) < _; omega⟩
   ·intro h
    by_cases e : p.f0 = i ∧ p.f1 = j
    ·right
     obtain ⟨a, b⟩ := p
     simp only at e
     rw [e.1, e.2]
    ·left; omega) (fun p hd hh => hd (by
   rcases hh with h | h
   ·omega
   ·rw [h]; right; exact ⟨rfl, by show (j : Int) < _; omega⟩)))
  refine ⟨st', ?_, hS'⟩
  unfold jGo
  rw [if_pos (by omega), if_pos ⟨by omega, by omega, by omega⟩]
  exact e
theorem iGo_ok : ∀ (d i f : Nat) (st : List S23 × Bad), i + d = t.length → d < f → Stg t bs (fun p => p.f0 < i) st → ∃ st', iGo t bs f i st = some st' ∧ Stg t bs (fun p => p.f0 < t.length) st'
 | 0, i, f, st, h, hf, hS => by
  obtain ⟨f, rfl⟩ : ∃ g, f = g + 1 := ⟨f - 1, by omega⟩
  have : i = t.length := by omega
  subst this
  refine ⟨st, ?_, hS⟩
  unfold iGo
  rw [if_neg (by omega)]
 | d + 1, i, f, st, h, hf, hS => by
  obtain ⟨f, rfl⟩ : ∃ g, f = g + 1 := ⟨f - 1, by omega⟩
  obtain ⟨st1, e1, hS1⟩ := jGo_ok hv hn (bs := bs) (i := i) (by omega) (by omega) t.length 0 200 st (by omega) (by omega) (by
   refine hS.iff (fun p hp => ?_) (fun p hd hh => hd (.inl hh))
   have := hp.2.1
   omega)
  obtain ⟨st2, e2, hS2⟩ := iGo_ok d (i + 1) f st1 (by omega) (by omega) hS1
  refine ⟨st2, ?_, hS2⟩
  unfold iGo
  rw [if_pos (by omega), if_pos (by omega)]
  show ((jGo t bs i 200 ((0 : Nat) : Int) st).bind _) = _
  rw [e1]
  exact e2
omit hv in
theorem addGo_ok {fs : List S23} {ls : Bad} (hnd : fs.Nodup) (hw : ∀ p ∈ fs, inP t p ∧ hasK bs (l23 p) = false ∧ Why t bs p (letOf ls (l23 p))) (hfl : fs.length ≤ 20000) : ∀ (d k f : Nat) (cur : Bad), k + d = fs.length → d < f → Rk t cur → (∀ q, hasK bs q = true → hasK cur q = true) → (∀ q, hasK cur q = true → hasK bs q = true ∨ ∃ m, ∃ h : m < fs.length, m < k ∧ q = l23 fs[m]) → cur.length = bs.length + k →
  ∃ r, addGo fs ls f k cur = some r ∧ Rk t r ∧ (∀ q, hasK bs q = true → hasK r q = true) ∧ r.length = bs.length + fs.length
 | 0, k, f, cur, h, hf, hR, h1, h2, hl => by
  obtain ⟨f, rfl⟩ : ∃ g, f = g + 1 := ⟨f - 1, by omega⟩
  refine ⟨cur, ?_, hR, h1, by omega⟩
  unfold addGo
  rw [if_neg (by omega)]
 | d + 1, k, f, cur, h, hf, hR, h1, h2, hl => by
  obtain ⟨f, rfl⟩ : ∃ g, f = g + 1 := ⟨f - 1, by omega⟩
  have hk : k < fs.length := by omega
  obtain ⟨w1, w2, w3⟩ := hw _ (List.getElem_mem hk)
  have e : rd_T23 fs (k : Int) = fs[k] := by
   unfold rd_T23
   rw [List.getD_eq_getElem?_getD, Int.toNat_natCast, List.getElem?_eq_getElem hk, Option.getD_some]
  have hno : hasK cur (l23 fs[k]) = false := by
   cases ec : hasK cur (l23 fs[k]) with
   | false => rfl
   | true =>
    rcases h2 _ ec with h | ⟨m, hm, hmk, hq⟩
    ·rw [w2] at h; cases h
    ·have := l23_inj hq
     have := (List.getElem_inj hnd).1 this
     omega
  have hwhy : Why t cur fs[k] (letOf ls (l23 fs[k])) := by
   rcases w3 with h | ⟨hc, m, q, a, b, c⟩
   ·exact .inl h
   ·exact .inr ⟨hc, m, q, a, b, h1 q c⟩
  have hcl := hR.len
  have hsq : t.length * t.length ≤ 576 := Nat.mul_le_mul hn hn
  obtain ⟨r, r1, r2, r3, r4⟩ := addGo_ok hnd hw hfl d (k + 1) f ((l23 fs[k], letOf ls (l23 fs[k])) :: cur) (by omega) (by omega) (.cons _ _ _ hR w1 hno hwhy) (fun q hq => by
   rw [hasK_cons, h1 q hq, Bool.or_true]) (fun q hq => by
   rw [hasK_cons, Bool.or_eq_true] at hq
   rcases hq with hq | hq
   ·exact .inr ⟨k, hk, by omega, beq_iff_eq.1 hq⟩
   ·rcases h2 q hq with h | ⟨m, hm, hmk, hq⟩
    ·exact .inl h
    ·exact .inr ⟨m, hm, by omega, hq⟩) (by simp; omega)
  refine ⟨r, ?_, r2, r3, r4⟩
  unfold addGo
  rw [if_pos (by omega), e, if_pos]
  ·exact r1
  have a1 := w1.1; have a2 := w1.2
  refine ⟨by omega, by omega, ?_, ?_⟩
  ·unfold i64B; exact decide_eq_true ⟨by omega, by omega⟩
  unfold i64B; exact decide_eq_true ⟨by omega, by omega⟩
/-- The refuted pairs: those that no closed relation has. -/
theorem refGo_ok : ∀ (d f : Nat) (bs : Bad), t.length * t.length ≤ bs.length + d → d + 1 < f → Rk t bs → ∃ r, refGo t f true bs = some r ∧ Rk t r ∧ ∀ p, inP t p → hasK r (l23 p) = false → Fine t r p := by
 intro d
 induction d using Nat.strongRecOn with
 | _ d ih =>
  intro f bs hd hf hR
  obtain ⟨f, rfl⟩ : ∃ g, f = g + 2 := ⟨f - 2, by omega⟩
  have hbl := hR.len
  have hsq := sq_le hv hn
  obtain ⟨st, e1, hS⟩ := iGo_ok hv hn (bs := bs) t.length 0 200 ([], []) (by omega) (by omega) ⟨List.nodup_nil, fun p hp => (by cases hp), fun p hp hd => by have := hp.1.1; omega, fun p _ => rfl, Nat.le_refl _⟩
  have hsz := hS.size
  obtain ⟨r, r1, r2, r3, r4⟩ := addGo_ok hn (bs := bs) (fs := st.1) (ls := st.2) hS.dup (fun p hp => by
   obtain ⟨a, _, c, d⟩ := hS.what p hp
   exact ⟨a, c, d⟩) (by omega) st.1.length 0 30000 bs (by omega) (by omega) hR (fun q h => h) (fun q h => .inl h) (by omega)
  have hgo : refGo t (f + 2) true bs = refGo t (f + 1) (decide (0 < st.1.length)) r := by
   conv => lhs; unfold refGo
   rw [if_pos rfl, if_pos ⟨by omega, by omega⟩]
   show ((iGo t bs 200 ((0 : Nat) : Int) ([], [])).bind _) = _
   rw [e1, Option.bind_some, if_pos (by omega)]
   show ((addGo st.1 st.2 30000 ((0 : Nat) : Int) bs).bind _) = _
   rw [r1]
   rfl
  rw [hgo]
  by_cases hfr : 0 < st.1.length
  ·rw [decide_eq_true hfr]
   have hrl := r2.len
   exact ih (d - st.1.length) (by omega) (f + 1) r (by omega) (by omega) r2
  rw [decide_eq_false hfr]
  have hnil : st.1 = [] := List.length_eq_zero_iff.1 (by omega)
  have hrb : r = bs := by
   unfold addGo at r1
   rw [if_neg (by omega)] at r1
   exact (Option.some.inj r1).symm
  subst hrb
  refine ⟨r, ?_, r2, fun p hp hk => ?_⟩
  ·unfold refGo
   rw [if_neg (by decide)]
  rcases hS.rest p hp hp.1.2 hk with h | h
  ·rw [hnil] at h; cases h
  exact h
end
noncomputable def subB (t : List S39) (i j : Int) : Bool := @decide (SubC t i j) (Classical.propDecidable _)
theorem subB_iff {t : List S39} {i j : Int} : subB t i j = true ↔ SubC t i j := by
 unfold subB
 exact @decide_eq_true_iff _ (Classical.propDecidable _)
end Go.Proofs.Ytnfmeafiaipplaa.P

namespace Go.Proofs.Ytnfmeafiaipplaa.P
open Go.RowKit Go.Proofs.Ytnfmeafiaipplaa.S Go.Proofs.YtnfmeafiaipplaaW.PrintWords
set_option linter.unusedVariables false
set_option linter.unusedSectionVars false
section
variable {t : List S39} (hv : ∀ i : Int, 0 ≤ i → i < t.length → okN t i) (hn : t.length ≤ 1000)
include hv hn
/-- What is laid of a pair. -/
def laid (t : List S39) (i j : Int) : Bool := decide (((nd t i).f0 = 0 ∨ (nd t j).f0 = 1) ∨ (nd t i).f0 = (nd t j).f0)
/-- The table says nothing false, and tells kinds apart. -/
def SbI (t : List S39) (x : List Bool) : Prop := x.length = t.length * t.length ∧ (∀ i j : Nat, i < t.length → j < t.length → SubC t i j → tb t.length x i j = true) ∧ (∀ i j : Nat, i < t.length → j < t.length → tb t.length x i j = true → ((nd t i).f0 = 0 ∨ (nd t j).f0 = 1) ∨ (nd t i).f0 = (nd t j).f0)
def SbC (t : List S39) (x : List Bool) (i j : Nat) : Prop := tb t.length x i j = true → Stp t (fun a b => tb t.length x a.toNat b.toNat = true) i j
omit hv hn in
theorem sbI_clear {x : List Bool} (h : SbI t x) {i j : Nat} (hi : i < t.length) (hj : j < t.length) (hs : ¬ SubC t i j) : SbI t (x.set (t.length * i + j) false) := by
 obtain ⟨h1, h2, h3⟩ := h
 refine ⟨by rw [List.length_set]; exact h1, fun a b ha hb hab => ?_, fun a b ha hb hab => ?_⟩
 ·rw [tb_set h1 hi hj hb]
  by_cases e : a = i ∧ b = j
  rotate_left
  ·rw [if_neg e]
   exact h2 a b ha hb hab
  rw [e.1, e.2] at hab
  exact absurd hab hs
 rw [tb_set h1 hi hj hb] at hab
 by_cases e : a = i ∧ b = j
 ·rw [if_pos e] at hab; cases hab
 rw [if_neg e] at hab
 exact h3 a b ha hb hab
def SbL4 (t : List S39) (x : List Bool) (again : Bool) (i j : Nat) : Prop :=
  ∃ (x' : List Bool) (again' : Bool), SbI t x' ∧ (again' = false → again = false ∧ x' = x ∧ ∀ b, j ≤ b → b < t.length → SbC t x i b) ∧ x'.count true ≤ x.count true ∧ (again = false → again' = true → x'.count true < x.count true) ∧
   ∀ r, Ev (fun k => tickingref06_Subtypes.l3 k t t.length x' again' ((i + 1 : Nat) : Int)) r → Ev (fun k => tickingref06_Subtypes.l4 k t t.length x again (i : Int) (j : Int)) r
theorem sb_l4 : ∀ (d j : Nat) (i : Nat) (x : List Bool) (again : Bool), j + d = t.length → i < t.length → SbI t x → SbL4 t x again i j
 | 0, j, i, x, again, h, hi, hI => by
  refine ⟨x, again, hI, fun h' => ⟨h', rfl, fun b hb1 hb2 => by omega⟩, Nat.le_refl _, (fun h1 h2 => by rw [h1] at h2; cases h2), fun r hr => ?_⟩
  refine Ev.step (fun k => ?_) hr
  simp only [tickingref06_Subtypes.l4]
  rw [if_neg (by omega), w64 (by omega) (by omega)]
  rfl
 | d + 1, j, i, x, again, h, hi, hI => by
  have hj : j < t.length := by omega
  have hlen := hI.1
  have hlt := idx_lt hi hj
  obtain ⟨⟨k0, k1⟩, _, ⟨a0, a1⟩, ⟨a2, a3⟩⟩ := hv i (by omega) (by omega)
  obtain ⟨⟨n0, n1⟩, _, ⟨b0, b1⟩, ⟨b2, b3⟩⟩ := hv j (by omega) (by omega)
  have mid : ∀ (q : Bool) r, Ev (fun k => tickingref06_Subtypes.j5 k t t.length x again (i : Int) (j : Int) q (nd t i).f0 (nd t i).f1 (nd t i).f2 (nd t j).f0 (nd t j).f1 (nd t j).f2) r → (∀ k, tickingref06_Subtypes.l4 (k + 1) t t.length x again (i : Int) (j : Int) = tickingref06_Subtypes.j5 k t t.length x again (i : Int) (j : Int) q (nd t i).f0 (nd t i).f1 (nd t i).f2 (nd t j).f0 (nd t j).f1 (nd t j).f2) → Ev (fun k => tickingref06_Subtypes.l4 k t t.length x again (i : Int) (j : Int)) r := fun q r hr hk => Ev.step hk hr
  have goOn : ∀ q : Bool, SbC t x i j → (∀ k, tickingref06_Subtypes.l4 (k + 1) t t.length x again (i : Int) (j : Int) = tickingref06_Subtypes.j5 k t t.length x again (i : Int) (j : Int) q (nd t i).f0 (nd t i).f1 (nd t i).f2 (nd t j).f0 (nd t j).f1 (nd t j).f2) →
    (∀ k, tickingref06_Subtypes.j5 (k + 1) t t.length x again (i : Int) (j : Int) q (nd t i).f0 (nd t i).f1 (nd t i).f2 (nd t j).f0 (nd t j).f1 (nd t j).f2 = tickingref06_Subtypes.l4 k t t.length x again (i : Int) ((j + 1 : Nat) : Int)) → SbL4 t x again i j := fun q hc hk1 hk => by
   obtain ⟨x', again', r1, r2, r3, r4, r5⟩ := sb_l4 d (j + 1) i x again (by omega) hi hI
   refine ⟨x', again', r1, fun h' => ?_, r3, r4, fun r hr => Ev.step hk1 (Ev.step hk (r5 r hr))⟩
   obtain ⟨s1, s2, s3⟩ := r2 h'
   refine ⟨s1, s2, fun b hb1 hb2 => ?_⟩
   by_cases e : b = j
   ·rw [e]; exact hc
   ·exact s3 b (by omega) hb2
  have clr : tb t.length x i j = true → ¬ SubC t i j → (∀ k, tickingref06_Subtypes.l4 (k + 1) t t.length x again (i : Int) (j : Int) = tickingref06_Subtypes.j5 k t t.length x again (i : Int) (j : Int) false (nd t i).f0 (nd t i).f1 (nd t i).f2 (nd t j).f0 (nd t j).f1 (nd t j).f2) → (∀ k, tickingref06_Subtypes.j5 (k + 1) t t.length x again (i : Int) (j : Int) false (nd t i).f0 (nd t i).f1 (nd t i).f2 (nd t j).f0 (nd t j).f1 (nd t j).f2 = tickingref06_Subtypes.l4 k t t.length (x.set (t.length * i + j) false) true (i : Int) ((j + 1 : Nat) : Int)) → SbL4 t x again i j := fun ht hs hk1 hk => by
   obtain ⟨x', again', r1, r2, r3, r4, r5⟩ := sb_l4 d (j + 1) i (x.set (t.length * i + j) false) true (by omega) hi (sbI_clear hI hi hj hs)
   have hcnt : (x.set (t.length * i + j) false).count true + 1 = x.count true := count_set ht
   refine ⟨x', again', r1, fun h' => ?_, by omega, fun _ _ => by omega, fun r hr => Ev.step hk1 (Ev.step hk (r5 r hr))⟩
   have := (r2 h').1
   cases this
  have a4 : (nd t i).f1.toNat < t.length := by omega
  have a5 : (nd t i).f2.toNat < t.length := by omega
  have b4 : (nd t j).f1.toNat < t.length := by omega
  have b5 : (nd t j).f2.toNat < t.length := by omega
  have l3 := castlt (idx_lt a4 b4)
  have l4 := castlt (idx_lt a5 b5)
  have l5 := castlt (idx_lt b4 a4)
  have c1 : (j : Int) < (t.length : Int) := castlt hj
  have c2 : (i : Int) < (t.length : Int) := castlt hi
  have l1 := castlt hlt
  rw [← hlen] at l1 l3 l4 l5
  have say : ∀ {p q : Int}, 0 ≤ p → p < t.length → 0 ≤ q → q < t.length → SubC t p q → tb t.length x p.toNat q.toNat = true := fun p0 p1 r0 r1 hs => hI.2.1 _ _ (by omega) (by omega) (by rw [Int.toNat_of_nonneg p0, Int.toNat_of_nonneg r0]; exact hs)
  have kk : ¬ (nd t i).f0 < 4 → (nd t i).f0 ≠ 5 → (nd t i).f0 = 4 := fun _ _ => by omega
  have lo : (nd t i).f0 < 4 → (nd t i).f0 ≠ 4 ∧ (nd t i).f0 ≠ 5 := fun _ => by omega
  have e2 := w64s (j := j) (by omega)
  have e1 := ixw hn hi hj
  have e3 := ixp hn a0 a1 b0 b1
  have e4 := ixp hn a2 a3 b2 b3
  have e5 := ixp hn b0 b1 a0 a1
  have z := cast0
  have on : ∀ k, tickingref06_Subtypes.j5 (k + 1) t t.length x again (i : Int) (j : Int) true (nd t i).f0 (nd t i).f1 (nd t i).f2 (nd t j).f0 (nd t j).f1 (nd t j).f2 = tickingref06_Subtypes.l4 k t t.length x again (i : Int) ((j + 1 : Nat) : Int) := fun k => by
   simp only [tickingref06_Subtypes.j5]
   rw [if_pos trivial, e2]
  cases ht : tb t.length x i j with
  | false =>
   refine goOn true (fun h => by rw [ht] at h; cases h) (fun k => ?_) on
   simp only [tickingref06_Subtypes.l4]
   rw [if_pos c1, if_pos (z _), if_pos c2, if_pos (z _), if_pos c1, e1, if_pos (z _), if_pos l1, rdOf_tb, ht, if_neg (by decide)]
  | true =>
   by_cases q0 : (nd t i).f0 = 0
   ·refine goOn true (fun _ => .inl (.inl q0)) (fun k => ?_) on
    simp only [tickingref06_Subtypes.l4]
    rw [if_pos c1, if_pos (z _), if_pos c2, if_pos (z _), if_pos c1, e1, if_pos (z _), if_pos l1, rdOf_tb, ht, if_pos rfl, if_pos q0]
   ·by_cases q1 : (nd t j).f0 = 1
    ·refine goOn true (fun _ => .inl (.inr q1)) (fun k => ?_) on
     simp only [tickingref06_Subtypes.l4]
     rw [if_pos c1, if_pos (z _), if_pos c2, if_pos (z _), if_pos c1, e1, if_pos (z _), if_pos l1, rdOf_tb, ht, if_pos rfl, if_neg q0, if_pos q1]
    ·have hkk : (nd t i).f0 = (nd t j).f0 := by
      rcases hI.2.2 i j hi hj ht with hh | hh
      ·exact absurd hh (fun hh => hh.elim q0 q1)
      ·exact hh
     by_cases hk : (nd t i).f0 < 4
     ·refine goOn true (fun _ => .inr ⟨hkk, fun h4 => absurd h4 (lo hk).1, fun h5 => absurd h5 (lo hk).2⟩) (fun k => ?_) on
      simp only [tickingref06_Subtypes.l4]
      rw [if_pos c1, if_pos (z _), if_pos c2, if_pos (z _), if_pos c1, e1, if_pos (z _), if_pos l1, rdOf_tb, ht, if_pos rfl, if_neg q0, if_neg q1, decide_eq_true (show (rd_T39 t i).f0 < 4 from hk)]
     have st1 : ∀ k, tickingref06_Subtypes.l4 (k + 1) t t.length x again (i : Int) (j : Int) = tickingref06_Subtypes.j5 k t t.length x again (i : Int) (j : Int) false (nd t i).f0 (nd t i).f1 (nd t i).f2 (nd t j).f0 (nd t j).f1 (nd t j).f2 := fun k => by
      simp only [tickingref06_Subtypes.l4]
      rw [if_pos c1, if_pos (z _), if_pos c2, if_pos (z _), if_pos c1, e1, if_pos (z _), if_pos l1, rdOf_tb, ht, if_pos rfl, if_neg q0, if_neg q1, decide_eq_false (show ¬ (rd_T39 t i).f0 < 4 from hk)]
     have parts : SubC t i j → ((nd t i).f0 = 4 → SubC t (nd t i).f1 (nd t j).f1 ∧ SubC t (nd t i).f2 (nd t j).f2) ∧ ((nd t i).f0 = 5 → SubC t (nd t j).f1 (nd t i).f1 ∧ SubC t (nd t i).f2 (nd t j).f2) := fun hs => by
      rcases hs.step with hh | ⟨_, p4, p5⟩
      ·exact absurd hh (fun hh => hh.elim q0 q1)
      ·exact ⟨p4, p5⟩
     by_cases k5 : (nd t i).f0 = 5
     rotate_left
     ·have k4 : (nd t i).f0 = 4 := kk hk k5
      cases hA : tb t.length x (nd t i).f1.toNat (nd t j).f1.toNat with
      | false =>
       refine clr ht (fun hs => ?_) st1 (fun k => ?_)
       ·rw [say a0 a1 b0 b1 ((parts hs).1 k4).1] at hA
        cases hA
       simp only [tickingref06_Subtypes.j5]
       rw [if_neg (by decide), e3, if_pos (z _), if_pos l3, if_neg k5, rdOf_tb, hA, if_neg (by decide), e1, if_pos (z _), if_pos l1, e2]
       rfl
      | true =>
       cases hB : tb t.length x (nd t i).f2.toNat (nd t j).f2.toNat with
       | false =>
        refine clr ht (fun hs => ?_) st1 (fun k => ?_)
        ·rw [say a2 a3 b2 b3 ((parts hs).1 k4).2] at hB
         cases hB
        simp only [tickingref06_Subtypes.j5]
        rw [if_neg (by decide), e3, if_pos (z _), if_pos l3, if_neg k5, rdOf_tb, hA, if_pos rfl, e4, if_pos (z _), if_pos l4, rdOf_tb, hB, if_neg (by decide), e1, if_pos (z _), if_pos l1, e2]
        rfl
       | true =>
        refine goOn false (fun _ => .inr ⟨hkk, fun _ => ⟨hA, hB⟩, fun h5 => absurd h5 k5⟩) st1 (fun k => ?_)
        simp only [tickingref06_Subtypes.j5]
        rw [if_neg (by decide), e3, if_pos (z _), if_pos l3, if_neg k5, rdOf_tb, hA, if_pos rfl, e4, if_pos (z _), if_pos l4, rdOf_tb, hB, if_pos rfl, e2]
     cases hA : tb t.length x (nd t j).f1.toNat (nd t i).f1.toNat with
     | false =>
      refine clr ht (fun hs => ?_) st1 (fun k => ?_)
      ·rw [say b0 b1 a0 a1 ((parts hs).2 k5).1] at hA
       cases hA
      simp only [tickingref06_Subtypes.j5]
      rw [if_neg (by decide), e3, if_pos (z _), if_pos l3, if_pos k5, e5, if_pos (z _), if_pos l5, rdOf_tb, hA, if_neg (by decide), e1, if_pos (z _), if_pos l1, e2]
      rfl
     | true =>
      cases hB : tb t.length x (nd t i).f2.toNat (nd t j).f2.toNat with
      | false =>
       refine clr ht (fun hs => ?_) st1 (fun k => ?_)
       ·rw [say a2 a3 b2 b3 ((parts hs).2 k5).2] at hB
        cases hB
       simp only [tickingref06_Subtypes.j5]
       rw [if_neg (by decide), e3, if_pos (z _), if_pos l3, if_pos k5, e5, if_pos (z _), if_pos l5, rdOf_tb, hA, if_pos rfl, e4, if_pos (z _), if_pos l4, rdOf_tb, hB, if_neg (by decide), e1, if_pos (z _), if_pos l1, e2]
       rfl
      | true =>
       refine goOn false (fun _ => .inr ⟨hkk, fun h4 => absurd (k5.symm.trans h4) (by decide), fun _ => ⟨hA, hB⟩⟩) st1 (fun k => ?_)
       simp only [tickingref06_Subtypes.j5]
       rw [if_neg (by decide), e3, if_pos (z _), if_pos l3, if_pos k5, e5, if_pos (z _), if_pos l5, rdOf_tb, hA, if_pos rfl, e4, if_pos (z _), if_pos l4, rdOf_tb, hB, if_pos rfl, e2]
theorem sb_l3 : ∀ (d i : Nat) (x : List Bool) (again : Bool), i + d = t.length → SbI t x →
  ∃ (x' : List Bool) (again' : Bool), SbI t x' ∧ (again' = false → again = false ∧ x' = x ∧ ∀ a b, i ≤ a → a < t.length → b < t.length → SbC t x a b) ∧ x'.count true ≤ x.count true ∧ (again = false → again' = true → x'.count true < x.count true) ∧
   ∀ r, Ev (fun k => tickingref06_Subtypes.l2 k t t.length x' again') r → Ev (fun k => tickingref06_Subtypes.l3 k t t.length x again (i : Int)) r
 | 0, i, x, again, h, hI => by
  refine ⟨x, again, hI, fun h' => ⟨h', rfl, fun a b hb1 hb2 => by omega⟩, Nat.le_refl _, (fun h1 h2 => by rw [h1] at h2; cases h2), fun r hr => ?_⟩
  refine Ev.step (fun k => ?_) hr
  simp only [tickingref06_Subtypes.l3]
  rw [if_neg (by omega)]
 | d + 1, i, x, again, h, hI => by
  have hi : i < t.length := by omega
  obtain ⟨x1, again1, r1, r2, r3, r4, r5⟩ := sb_l4 hv hn t.length 0 i x again (by omega) hi hI
  obtain ⟨x2, again2, s1, s2, s3, s4, s5⟩ := sb_l3 d (i + 1) x1 again1 (by omega) r1
  refine ⟨x2, again2, s1, fun h' => ?_, by omega, fun h1 h2 => ?_, fun r hr => ?_⟩
  ·obtain ⟨q1, q2, q3⟩ := s2 h'
   obtain ⟨p1, p2, p3⟩ := r2 q1
   refine ⟨p1, q2.trans p2, fun a b ha1 ha2 hb => ?_⟩
   by_cases e : a = i
   ·rw [e]; exact p3 b (by omega) hb
   ·have := q3 a b (by omega) ha2 hb
    rwa [p2] at this
  ·cases e : again1 with
   | true => have := r4 h1 e; omega
   | false => have := s4 e h2; omega
  ·refine Ev.step (f := fun k => tickingref06_Subtypes.l4 k t t.length x again (i : Int) ((0 : Nat) : Int)) (fun k => ?_) (r5 r (s5 r hr))
   simp only [tickingref06_Subtypes.l3]
   rw [if_pos (castlt hi)]
   rfl
theorem sb_l2 : ∀ (c : Nat) (x : List Bool), x.count true = c → SbI t x →
  ∃ r, Ev (fun k => tickingref06_Subtypes.l2 k t t.length x true) r ∧ SbI t r ∧ ∀ a b, a < t.length → b < t.length → SbC t r a b := by
 intro c
 induction c using Nat.strongRecOn with
 | _ c ih =>
  intro x hc hI
  obtain ⟨x1, again1, r1, r2, r3, r4, r5⟩ := sb_l3 hv hn t.length 0 x false (by omega) hI
  cases e : again1 with
  | false =>
   obtain ⟨_, q2, q3⟩ := r2 e
   subst q2
   refine ⟨x1, ?_, hI, fun a b ha hb => q3 a b (by omega) ha hb⟩
   refine Ev.step (f := fun k => tickingref06_Subtypes.l3 k t t.length x1 false ((0 : Nat) : Int)) (fun k => ?_) (r5 x1 ?_)
   ·simp only [tickingref06_Subtypes.l2]
    rfl
   rw [e]
   refine Ev.step (fun k => ?_) (Ev.now _)
   simp only [tickingref06_Subtypes.l2]
   rfl
  | true =>
   obtain ⟨r, s1, s2, s3⟩ := ih (x1.count true) (by have := r4 rfl e; omega) x1 rfl r1
   refine ⟨r, ?_, s2, s3⟩
   refine Ev.step (f := fun k => tickingref06_Subtypes.l3 k t t.length x false ((0 : Nat) : Int)) (fun k => ?_) (r5 r (by rw [e]; exact s1))
   simp only [tickingref06_Subtypes.l2]
   rfl
/-- While the table is laid. -/
def SbZ (t : List S39) (x : List Bool) (i j : Nat) : Prop := x.length = t.length * t.length ∧ ∀ a b : Nat, a < t.length → b < t.length → (a < i ∨ (a = i ∧ b < j)) → tb t.length x a b = laid t a b
omit hv in
theorem sb_l1 : ∀ (d j i : Nat) (x : List Bool), j + d = t.length → i < t.length → SbZ t x i j →
  ∃ x', SbZ t x' (i + 1) 0 ∧ ∀ r, Ev (fun k => tickingref06_Subtypes.l0 k t t.length x' ((i + 1 : Nat) : Int)) r → Ev (fun k => tickingref06_Subtypes.l1 k t t.length x (i : Int) (j : Int)) r
 | 0, j, i, x, h, hi, hZ => by
  refine ⟨x, ⟨hZ.1, fun a b ha hb hab => hZ.2 a b ha hb (by omega)⟩, fun r hr => Ev.step (fun k => ?_) hr⟩
  simp only [tickingref06_Subtypes.l1]
  rw [if_neg (by omega), w64s (by omega)]
 | d + 1, j, i, x, h, hi, hZ => by
  have hj : j < t.length := by omega
  have hlt := castlt (idx_lt hi hj)
  have hlen := hZ.1
  obtain ⟨x', r1, r2⟩ := sb_l1 d (j + 1) i (x.set (t.length * i + j) (laid t i j)) (by omega) hi ⟨by rw [List.length_set]; exact hZ.1, fun a b ha hb hab => by
   rw [tb_set hZ.1 hi hj hb]
   by_cases e : a = i ∧ b = j
   ·rw [if_pos e, e.1, e.2]
   ·rw [if_neg e]
    exact hZ.2 a b ha hb (by omega)⟩
  refine ⟨x', r1, fun r hr => Ev.step (fun k => ?_) (r2 r hr)⟩
  have c1 := castlt hi
  have c2 := castlt hj
  rw [← hlen] at hlt
  have e2 := w64s (j := j) (by omega)
  have e1 := ixw hn hi hj
  have z := cast0
  have q2 : (((t.length * i + j : Nat) : Int)).toNat = t.length * i + j := Int.toNat_natCast _
  simp only [tickingref06_Subtypes.l1]
  rw [if_pos c2, if_pos (z _), if_pos c1, if_pos (z _), if_pos c2]
  by_cases q0 : (nd t i).f0 = 0
  ·rw [if_pos q0, e1, if_pos (z _), if_pos hlt, e2, q2, show laid t i j = true from decide_eq_true (.inl (.inl q0))]
  ·by_cases q1 : (nd t j).f0 = 1
   ·rw [if_neg q0, if_pos q1, e1, if_pos (z _), if_pos hlt, e2, q2, show laid t i j = true from decide_eq_true (.inl (.inr q1))]
   ·have hl : laid t i j = ((nd t i).f0 == (nd t j).f0) := by
     unfold laid
     cases hb : ((nd t i).f0 == (nd t j).f0) with
     | true => exact decide_eq_true (.inr (beq_iff_eq.1 hb))
     | false => exact decide_eq_false (fun hh => hh.elim (fun h => h.elim q0 q1) (fun h => (beq_eq_false_iff_ne.1 hb) h))
    rw [if_neg q0, if_neg q1, e1, if_pos (z _), if_pos hlt, e2, q2, hl]
omit hv in
theorem sb_l0 : ∀ (d i : Nat) (x : List Bool), i + d = t.length → SbZ t x i 0 →
  ∃ x', SbZ t x' t.length 0 ∧ ∀ r, Ev (fun k => tickingref06_Subtypes.l2 k t t.length x' true) r → Ev (fun k => tickingref06_Subtypes.l0 k t t.length x (i : Int)) r
 | 0, i, x, h, hZ => by
  have : i = t.length := by omega
  subst this
  refine ⟨x, hZ, fun r hr => Ev.step (fun k => ?_) hr⟩
  simp only [tickingref06_Subtypes.l0]
  rw [if_neg (by omega)]
 | d + 1, i, x, h, hZ => by
  obtain ⟨x1, r1, r2⟩ := sb_l1 hn t.length 0 i x (by omega) (by omega) hZ
  obtain ⟨x2, s1, s2⟩ := sb_l0 d (i + 1) x1 (by omega) r1
  refine ⟨x2, s1, fun r hr => Ev.step (f := fun k => tickingref06_Subtypes.l1 k t t.length x (i : Int) ((0 : Nat) : Int)) (fun k => ?_) (r2 r (s2 r hr))⟩
  simp only [tickingref06_Subtypes.l0]
  rw [if_pos (castlt (by omega))]
  rfl
/-- The reference's table of subtypes. -/
theorem Subtypes_ev : ∃ r, Ev (fun k => tickingref06_Subtypes.f k t) r ∧ r.length = t.length * t.length ∧ ∀ i j : Nat, i < t.length → j < t.length → (tb t.length r i j = true ↔ SubC t i j) := by
 have hnn : t.length * t.length ≤ 1000 * 1000 := Nat.mul_le_mul hn hn
 have hw : wrap64 ((t.length : Int) * (t.length : Int)) = ((t.length * t.length : Nat) : Int) := by
  rw [show ((t.length : Int) * (t.length : Int)) = ((t.length * t.length : Nat) : Int) by push_cast; rfl, w64 (by omega) (by omega)]
 obtain ⟨x1, r1, r2⟩ := sb_l0 hn t.length 0 (List.replicate (t.length * t.length) false) (by omega) ⟨by simp, fun a b ha hb hab => by omega⟩
 have hI : SbI t x1 := ⟨r1.1, fun i j hi hj hs => by
  rw [r1.2 i j hi hj (.inl hi)]
  refine decide_eq_true ?_
  rcases hs.step with h | ⟨h, _, _⟩
  ·exact .inl h
  ·exact .inr h, fun i j hi hj hb => by
  rw [r1.2 i j hi hj (.inl hi)] at hb
  exact of_decide_eq_true hb⟩
 obtain ⟨r, s1, s2, s3⟩ := sb_l2 hv hn _ x1 rfl hI
 refine ⟨r, ?_, s2.1, fun i j hi hj => ⟨fun hb => ?_, s2.2.1 i j hi hj⟩⟩
 ·refine Ev.congr (f := fun k => tickingref06_Subtypes.l0 k t t.length (List.replicate (t.length * t.length) false) ((0 : Nat) : Int)) (fun k => ?_) (r2 r s1)
  unfold tickingref06_Subtypes.f
  rw [hw, if_pos (cast0 _), show (((t.length * t.length : Nat) : Int)).toNat = t.length * t.length from Int.toNat_natCast _, if_pos (by omega)]
  rfl
 refine ⟨fun a b => (0 ≤ a ∧ a < t.length) ∧ (0 ≤ b ∧ b < t.length) ∧ tb t.length r a.toNat b.toNat = true, ?_, ⟨by omega, by omega⟩, ⟨by omega, by omega⟩, by simpa using hb⟩
 rintro a b ⟨ha, hb, hab⟩
 have := s3 a.toNat b.toNat (by omega) (by omega) hab
 rw [Int.toNat_of_nonneg ha.1, Int.toNat_of_nonneg hb.1] at this
 obtain ⟨_, _, p1, p2⟩ := hv a ha.1 ha.2
 obtain ⟨_, _, p3, p4⟩ := hv b hb.1 hb.2
 rcases this with h | ⟨h, h4, h5⟩
 ·exact .inl h
 exact .inr ⟨h, fun c => ⟨⟨p1, p3, (h4 c).1⟩, ⟨p2, p4, (h4 c).2⟩⟩, fun c => ⟨⟨p3, p1, (h5 c).1⟩, ⟨p2, p4, (h5 c).2⟩⟩⟩
end
end Go.Proofs.Ytnfmeafiaipplaa.P

namespace Go.Proofs.Ytnfmeafiaipplaa.P
open Go.RowKit Go.Proofs.Ytnfmeafiaipplaa.S Go.Proofs.Ytnfmeafiaipplaa.Lib Go.Proofs.YtnfmeafiaipplaaW.PrintWords
set_option linter.unusedVariables false
set_option linter.unusedSectionVars false

theorem rd23_nat (L : List S23) {k : Nat} (h : k < L.length) : rd_T23 L (k : Int) = L[k] := by
 unfold rd_T23
 rw [List.getD_eq_getElem?_getD, Int.toNat_natCast, List.getElem?_eq_getElem h, Option.getD_some]
theorem has_go (L : List S23) (hn : L.length ≤ 1000) (a b : Int) : ∀ (d i : Nat), i + d = L.length → (⟨a, b⟩ : S23) ∈ L.drop i → Ev (fun k => tickingref06_has.l0 k L a b (i : Int)) true
 | 0, i, h, hm => by
  rw [List.drop_eq_nil_of_le (by omega)] at hm
  cases hm
 | d + 1, i, h, hm => by
  have hi : i < L.length := by omega
  have e := rd23_nat L hi
  rw [List.drop_eq_getElem_cons hi] at hm
  by_cases c : L[i] = ⟨a, b⟩
  ·refine Ev.step (fun k => ?_) (Ev.now true)
   simp only [tickingref06_has.l0]
   rw [if_pos (castlt hi), if_pos (cast0 _), e, c]
   simp
  ·have ih := has_go L hn a b d (i + 1) (by omega) ((List.mem_cons.1 hm).resolve_left (fun h => c h.symm))
   have e2 := w64s (j := i) (by omega)
   refine Ev.step (f := fun k => tickingref06_has.l0 k L a b ((i + 1 : Nat) : Int)) (fun k => ?_) ih
   simp only [tickingref06_has.l0]
   rw [if_pos (castlt hi), if_pos (cast0 _), e, e2]
   by_cases c1 : L[i].f0 = a
   ·rw [if_pos c1, if_neg (fun c2 => c (by
     rw [← c1, ← c2]))]
   ·rw [if_neg c1]
theorem has_ev {L : List S23} (hn : L.length ≤ 1000) {a b : Int} (h : (⟨a, b⟩ : S23) ∈ L) : Ev (fun k => tickingref06_has.f k L a b) true := has_go L hn a b L.length 0 (by omega) (by rwa [List.drop_zero])
section
variable {t : List S39} (hv : ∀ i : Int, 0 ≤ i → i < t.length → okN t i) (hn : t.length ≤ 24) {L : List S23} (hL : L.length ≤ 600) (hin : ∀ p ∈ L, inP t p) (hcl : ∀ p ∈ L, Stp t (fun a b => (⟨a, b⟩ : S23) ∈ L) p.f0 p.f1)
include hv hn hL hin hcl
theorem closed_go : ∀ (d i : Nat), i + d = L.length → Ev (fun k => tickingref06_Closed.l0 k t L (i : Int)) true
 | 0, i, h => by
  refine Ev.step (fun k => ?_) (Ev.now true)
  simp only [tickingref06_Closed.l0]
  rw [if_neg (by omega), decide_eq_true (by omega)]
 | d + 1, i, h => by
  have hi : i < L.length := by omega
  have ih := closed_go d (i + 1) (by omega)
  have e := rd23_nat L hi
  obtain ⟨⟨a0, a1⟩, ⟨b0, b1⟩⟩ := hin _ (List.getElem_mem hi)
  have hst := hcl _ (List.getElem_mem hi)
  obtain ⟨⟨k0, k1⟩, _⟩ := hv _ a0 a1
  have has : ∀ {x y : Int}, (⟨x, y⟩ : S23) ∈ L → Ev (fun k => tickingref06_has.f k L x y) true := fun h => has_ev (by omega) h
  generalize L[i] = p at *
  refine Ev.step (f := fun k => tickingref06_Closed.j1 k t L (i : Int) p.f0 p.f1 false) (fun k => ?_) ?_
  ·simp only [tickingref06_Closed.l0]
   rw [if_pos (castlt hi), if_pos (cast0 _), e, if_neg (by omega), if_neg (by omega), if_neg (by omega), decide_eq_false (by omega)]
  have next : Ev (fun k => tickingref06_Closed.l0 k t L (wrap64 ((i : Int) + 1))) true := by
   have e2 := w64s (j := i) (by omega)
   rw [e2]; exact ih
  have on : Ev (fun k => tickingref06_Closed.j2 k t L (i : Int) true (nd t p.f0).f0 (nd t p.f0).f1 (nd t p.f0).f2 (nd t p.f1).f0 (nd t p.f1).f1 (nd t p.f1).f2) true := Ev.step (fun k => by
   simp only [tickingref06_Closed.j2]
   rw [if_pos trivial]) next
  by_cases q0 : (nd t p.f0).f0 = 0
  ·refine Ev.step (fun k => ?_) on
   simp only [tickingref06_Closed.j1]
   rw [if_neg (by decide), if_pos a0, if_pos a1, if_pos b0, if_pos b1, if_pos q0]
  by_cases q1 : (nd t p.f1).f0 = 1
  ·refine Ev.step (fun k => ?_) on
   simp only [tickingref06_Closed.j1]
   rw [if_neg (by decide), if_pos a0, if_pos a1, if_pos b0, if_pos b1, if_neg q0, if_pos q1]
  rcases hst with hh | ⟨hk, h4, h5⟩
  ·exact absurd hh (fun hh => hh.elim q0 q1)
  by_cases c : (nd t p.f0).f0 < 4
  ·refine Ev.step (fun k => ?_) on
   simp only [tickingref06_Closed.j1]
   rw [if_neg (by decide), if_pos a0, if_pos a1, if_pos b0, if_pos b1, if_neg q0, if_neg q1, if_pos hk, decide_eq_true (show (rd_T39 t p.f0).f0 < 4 from c)]
  refine Ev.step (f := fun k => tickingref06_Closed.j2 k t L (i : Int) false (nd t p.f0).f0 (nd t p.f0).f1 (nd t p.f0).f2 (nd t p.f1).f0 (nd t p.f1).f1 (nd t p.f1).f2) (fun k => ?_) ?_
  ·simp only [tickingref06_Closed.j1]
   rw [if_neg (by decide), if_pos a0, if_pos a1, if_pos b0, if_pos b1, if_neg q0, if_neg q1, if_pos hk, decide_eq_false (show ¬ (rd_T39 t p.f0).f0 < 4 from c)]
  by_cases c4 : (nd t p.f0).f0 = 4
  ·obtain ⟨m1, m2⟩ := h4 c4
   refine Ev.step (f := fun k => (tickingref06_has.f k L (nd t p.f0).f2 (nd t p.f1).f2).bind fun t460 => (tickingref06_Closed.j3 k t L (i : Int) (!t460) (nd t p.f0).f0 (nd t p.f0).f1 (nd t p.f0).f2 (nd t p.f1).f0 (nd t p.f1).f1 (nd t p.f1).f2)) (fun k => ?_) ?_
   ·simp only [tickingref06_Closed.j2]
    rw [if_neg (by decide), if_pos hk]
   refine Ev.bind (f := fun k (z : Bool) => _) (has m2) ?_
   refine Ev.step (f := fun k => (tickingref06_has.f k L (nd t p.f0).f1 (nd t p.f1).f1).bind fun t461 => (if t461 = true then (tickingref06_Closed.l0 k t L (wrap64 ((i : Int) + 1))) else (some false))) (fun k => ?_) ?_
   ·simp only [tickingref06_Closed.j3]
    rw [if_neg (by decide), if_pos c4, if_neg (show ¬ (nd t p.f0).f0 = 5 by omega)]
   refine Ev.bind (f := fun k (z : Bool) => _) (has m1) ?_
   simp only [if_true]
   exact next
  have c5 : (nd t p.f0).f0 = 5 := by omega
  obtain ⟨m1, m2⟩ := h5 c5
  refine Ev.step (f := fun k => (tickingref06_has.f k L (nd t p.f0).f2 (nd t p.f1).f2).bind fun t460 => (tickingref06_Closed.j3 k t L (i : Int) (!t460) (nd t p.f0).f0 (nd t p.f0).f1 (nd t p.f0).f2 (nd t p.f1).f0 (nd t p.f1).f1 (nd t p.f1).f2)) (fun k => ?_) ?_
  ·simp only [tickingref06_Closed.j2]
   rw [if_neg (by decide), if_pos hk]
  refine Ev.bind (f := fun k (z : Bool) => _) (has m2) ?_
  refine Ev.step (f := fun k => (tickingref06_has.f k L (nd t p.f1).f1 (nd t p.f0).f1).bind fun t463 => (if t463 = true then (tickingref06_Closed.l0 k t L (wrap64 ((i : Int) + 1))) else (some false))) (fun k => ?_) ?_
  ·simp only [tickingref06_Closed.j3]
   rw [if_neg (by decide), if_neg c4, if_pos c5]
  refine Ev.bind (f := fun k (z : Bool) => _) (has m1) ?_
  simp only [if_true]
  exact next
theorem Closed_ev : Ev (fun k => tickingref06_Closed.f k t L) true := closed_go hv hn hL hin hcl L.length 0 (by omega)
end
theorem bytesOf_append (a b : ByteArray) : bytesOf (a ++ b) = bytesOf a ++ bytesOf b := by
 simp [bytesOf, ByteArray.data_append]
set_option maxHeartbeats 2000000 in
/-- A path that goes on behind another and refutes. -/
theorem refutes_ok {t : List S39} (hv : ∀ i : Int, 0 ≤ i → i < t.length → okN t i) {bad : Bad} (hR : Rk t bad) : ∀ (suf pre : Bad) (p : S23) (f : Nat) (path : ByteArray), bad = pre ++ suf → hasK suf (l23 p) = true → suf.length ≤ f → path.size + suf.length ≤ 2000 →
  ∃ r, pathGo t bad f p path = some r ∧ (∃ X, bytesOf r = bytesOf path ++ X) ∧ r.size + 1 ≤ path.size + suf.length ∧ Ev (fun k => tickingref06_Refutes.l0 k t p.f0 p.f1 r (path.size : Int)) true
 | [], _, _, _, _, _, h, _, _ => by cases h
 | (k, c) :: suf, pre, p, f, path, e, h, hf, hb => by
  obtain ⟨f, rfl⟩ : ∃ g, f = g + 1 := ⟨f - 1, by simp at hf; omega⟩
  have hf' : suf.length ≤ f := by simpa using hf
  have hps : path.size ≤ 1000000 := by omega
  have hb' : path.size + suf.length + 1 ≤ 2000 := by simpa [Nat.add_assoc] using hb
  by_cases hk : l23 p = k
  ·have hR' := hR
   rw [e] at hR'
   have hl : letOf bad (l23 p) = c := by
    rw [e, Rk.let_suf h hR', letOf_cons, if_pos hk]
   cases Rk.suf hR' with
   | cons p' c' bs hr hin hno hw =>
    have := l23_inj hk
    subst this
    obtain ⟨⟨a0, a1⟩, ⟨b0, b1⟩⟩ := hin
    obtain ⟨⟨k0, k1⟩, _⟩ := hv _ a0 a1
    unfold pathGo
    rw [hl]
    rcases hw with ⟨rfl, hnone⟩ | ⟨hc, m, q, hm, hq, hbq⟩
    ·refine ⟨path, if_pos rfl, ⟨[], by simp⟩, by simp, ?_⟩
     have hno' : ¬ ((nd t p.f0).f0 = 0 ∨ (nd t p.f1).f0 = 1) ∧ (nd t p.f0).f0 ≠ (nd t p.f1).f0 := by
      unfold needsF at hnone
      split at hnone
      ·cases hnone
      ·rename_i c1
       refine ⟨c1, fun c2 => ?_⟩
       rw [if_neg (by simpa using c2)] at hnone
       repeat' split at hnone
       all_goals cases hnone
     have q0 : ¬ (nd t p.f0).f0 = 0 := fun h => hno'.1 (.inl h)
     have q1 : ((nd t p.f1).f0 == 1) = false := beq_eq_false_iff_ne.2 (fun h => hno'.1 (.inr h))
     refine Ev.step (f := fun k => tickingref06_Refutes.j1 k t path (path.size : Int) false (nd t p.f0).f0 (nd t p.f0).f1 (nd t p.f0).f2 (nd t p.f1).f0 (nd t p.f1).f1 (nd t p.f1).f2) (fun k => ?_) (Ev.step (fun k => ?_) (Ev.now true))
     ·simp only [tickingref06_Refutes.l0]
      rw [if_pos (Int.le_refl _), if_pos a0, if_pos a1, if_pos b0, if_pos b1, if_neg q0, q1]
     simp only [tickingref06_Refutes.j1]
     rw [if_neg (by decide), if_pos trivial]
     simp [hno'.2]
    have hin' : inP t p := ⟨⟨a0, a1⟩, ⟨b0, b1⟩⟩
    rw [if_neg (by omega), if_pos ⟨hc, hin'⟩]
    obtain ⟨q1, q2⟩ := need_inP hv hin' hm hq
    have hm' : needsF (rd_T39 t p.f0) (rd_T39 t p.f1) = some m := hm
    rw [hm', Option.getD_some, hq]
    have hsz1 : (path ++ (⟨#[if c = 97 then 97 else 98]⟩ : ByteArray)).size = path.size + 1 := by rw [ByteArray.size_append]; rfl
    obtain ⟨r, r1, ⟨X, hX⟩, r3, r4⟩ := refutes_ok hv hR suf (pre ++ [(l23 p, c)]) (s23 q) f (path ++ (⟨#[if c = 97 then 97 else 98]⟩ : ByteArray)) (by rw [e]; simp) (by rw [← q1]; exact hbq) hf' (by rw [hsz1]; omega)
    rw [hsz1] at r3 r4
    rw [bytesOf_append] at hX
    refine ⟨r, r1, ⟨_, by rw [hX, List.append_assoc]⟩, by simp; omega, ?_⟩
    have hone : bytesOf (⟨#[if c = 97 then 97 else 98]⟩ : ByteArray) = [c] := by
     rcases hc with rfl | rfl <;> rfl
    have hrs : path.size < r.size := by
     have h1 : (bytesOf r).length = (bytesOf path ++ bytesOf (⟨#[if c = 97 then 97 else 98]⟩ : ByteArray) ++ X).length := by rw [hX]
     rw [bytesOf_length, hone] at h1
     simp [bytesOf_length] at h1
     omega
    have hbt : bt r (path.size : Int) = c := by
     rw [← rd_bytesOf, hX, hone]
     unfold rd
     rw [Int.toNat_natCast, List.getD_eq_getElem?_getD, List.append_assoc, List.getElem?_append_right (by rw [bytesOf_length]; omega), bytesOf_length, Nat.sub_self]
     rfl
    -- what the needs say of the two nodes
    have hnd : ¬ ((nd t p.f0).f0 = 0 ∨ (nd t p.f1).f0 = 1) ∧ (nd t p.f0).f0 = (nd t p.f1).f0 ∧ ¬ (nd t p.f0).f0 < 4 ∧ s23 q = (if c = 98 then ⟨(nd t p.f0).f2, (nd t p.f1).f2⟩ else if (nd t p.f0).f0 = 4 then ⟨(nd t p.f0).f1, (nd t p.f1).f1⟩ else ⟨(nd t p.f1).f1, (nd t p.f0).f1⟩) := by
     unfold needsF at hm
     split at hm
     ·cases hm; cases hq
     ·rename_i c1
      split at hm
      ·cases hm
      ·rename_i c2
       have c2' : (nd t p.f0).f0 = (nd t p.f1).f0 := by simpa using c2
       split at hm
       ·rename_i c4
        cases hm
        refine ⟨c1, c2', by omega, ?_⟩
        rcases hc with rfl | rfl
        ·cases hq
         rw [if_neg (by decide), if_pos c4]
         rfl
        ·cases hq
         rw [if_pos rfl]
         rfl
       ·rename_i c4
        split at hm
        ·rename_i c5
         cases hm
         refine ⟨c1, c2', by omega, ?_⟩
         rcases hc with rfl | rfl
         ·cases hq
          rw [if_neg (by decide), if_neg c4]
          rfl
         ·cases hq
          rw [if_pos rfl]
          rfl
        ·cases hm; cases hq
    obtain ⟨n1, n2, n3, n4⟩ := hnd
    have q0 : ¬ (nd t p.f0).f0 = 0 := fun h => n1 (.inl h)
    have q1 : ((nd t p.f1).f0 == 1) = false := beq_eq_false_iff_ne.2 (fun h => n1 (.inr h))
    have l2 : (path.size : Int) < (r.size : Int) := castlt hrs
    have l1 : (path.size : Int) ≤ (r.size : Int) := Int.le_of_lt l2
    have l3 : ¬ (path.size : Int) = (r.size : Int) := Int.ne_of_lt l2
    have w := w64s (j := path.size) hps
    refine Ev.step (f := fun k => tickingref06_Refutes.j1 k t r (path.size : Int) false (nd t p.f0).f0 (nd t p.f0).f1 (nd t p.f0).f2 (nd t p.f1).f0 (nd t p.f1).f1 (nd t p.f1).f2) (fun k => ?_) (Ev.step (f := fun k => tickingref06_Refutes.j2 k t r (path.size : Int) false (nd t p.f0).f0 (nd t p.f0).f1 (nd t p.f0).f2 (nd t p.f1).f0 (nd t p.f1).f1 (nd t p.f1).f2) (fun k => ?_) (Ev.step (f := fun k => tickingref06_Refutes.l0 k t (s23 q).f0 (s23 q).f1 r ((path.size + 1 : Nat) : Int)) (fun k => ?_) r4))
    ·simp only [tickingref06_Refutes.l0]
     rw [if_pos l1, if_pos a0, if_pos a1, if_pos b0, if_pos b1, if_neg q0, q1]
    ·simp only [tickingref06_Refutes.j1]
     rw [if_neg (by decide), if_neg l3, if_pos n2, if_neg n3, if_pos (cast0 _), if_pos l2, hbt]
     rcases hc with rfl | rfl
     ·rw [if_pos rfl]
     rw [if_neg (by decide)]
     rfl
    simp only [tickingref06_Refutes.j2]
    rw [if_neg (by decide), if_pos (cast0 _), if_pos l2, hbt, w, n4]
    by_cases c98 : c = 98
    ·rw [if_pos c98, if_pos c98]
    rw [if_neg c98, if_neg c98]
    by_cases c4 : (nd t p.f0).f0 = 4
    ·rw [if_pos c4, if_pos c4]
    rw [if_neg c4, if_neg c4]
  obtain ⟨r, r1, r2, r3, r4⟩ := refutes_ok hv hR suf (pre ++ [(k, c)]) p (f + 1) path (by rw [e]; simp) (by
   rw [hasK_cons, Bool.or_eq_true] at h
   exact h.resolve_left (fun hh => hk (beq_iff_eq.1 hh))) (by omega) (by omega)
  exact ⟨r, r1, r2, by simp; omega, r4⟩
section
variable {t : List S39} (hv : ∀ i : Int, 0 ≤ i → i < t.length → okN t i) (hn : t.length ≤ 24)
include hv hn
/-- What a pair needs lies in a list. -/
def NeedIn (t : List S39) (L : List S23) (p : S23) : Prop := ∀ c q, needGet ((needsF (nd t p.f0) (nd t p.f1)).getD none) c = some q → s23 q ∈ L
theorem rel2_ok : ∀ (d f i : Nat) (out : List S23), t.length * t.length ≤ i + d → d < f → i ≤ out.length → out.Nodup → (∀ p ∈ out, inP t p ∧ SubC t p.f0 p.f1) → (∀ k (h : k < out.length), k < i → NeedIn t out out[k]) →
    ∃ r, relGo t f i out = some r ∧ (∀ p ∈ out, p ∈ r) ∧ r.length ≤ 600 ∧ (∀ p ∈ r, inP t p ∧ SubC t p.f0 p.f1) ∧ ∀ p ∈ r, NeedIn t r p := by
  intro d
  induction d with
  | zero =>
    intro f i out h hf hi hnd hin hne
    obtain ⟨f, rfl⟩ : ∃ g, f = g + 1 := ⟨f - 1, by omega⟩
    have hsq := sq_le hv hn
    have hsz : out.length ≤ t.length * t.length := by
      have hnd' : (out.map l23).Nodup := by
        rw [List.Nodup, List.pairwise_map]
        exact hnd.imp (fun hne e => hne (l23_inj e))
      have := nodup_sub_len hnd' (fun k hk => by
        obtain ⟨p, hp, rfl⟩ := List.mem_map.1 hk
        exact allP_mem (hin p hp).1)
      rwa [List.length_map, allP_len] at this
    refine ⟨out, ?_, fun p hp => hp, by omega, hin, fun p hp => ?_⟩
    · unfold relGo
      rw [if_neg (by omega)]
    obtain ⟨k, hk, rfl⟩ := List.getElem_of_mem hp
    exact hne k hk (by omega)
  | succ d ih =>
    intro f i out h hf hi hnd hin hne
    obtain ⟨f, rfl⟩ : ∃ g, f = g + 1 := ⟨f - 1, by omega⟩
    have hsq := sq_le hv hn
    have hsz : out.length ≤ t.length * t.length := by
      have hnd' : (out.map l23).Nodup := by
        rw [List.Nodup, List.pairwise_map]
        exact hnd.imp (fun hne e => hne (l23_inj e))
      have := nodup_sub_len hnd' (fun k hk => by
        obtain ⟨p, hp, rfl⟩ := List.mem_map.1 hk
        exact allP_mem (hin p hp).1)
      rwa [List.length_map, allP_len] at this
    by_cases c : i < out.length
    rotate_left
    · refine ⟨out, ?_, fun p hp => hp, by omega, hin, fun p hp => ?_⟩
      · unfold relGo
        rw [if_neg (by omega)]
      · obtain ⟨k, hk, rfl⟩ := List.getElem_of_mem hp
        exact hne k hk (by omega)
    have e := rd23_nat out c
    obtain ⟨hp, hps⟩ := hin _ (List.getElem_mem c)
    have add : ∀ (o : List S23) (q : Option (List Int)), o.Nodup → (∀ p ∈ o, inP t p ∧ SubC t p.f0 p.f1) → (∀ x, q = some x → x = l23 (s23 x) ∧ inP t (s23 x) ∧ SubC t (s23 x).f0 (s23 x).f1) → (relAdd o q).Nodup ∧ (∀ p ∈ relAdd o q, inP t p ∧ SubC t p.f0 p.f1) ∧ (∃ M, relAdd o q = o ++ M) ∧ ∀ x, q = some x → s23 x ∈ relAdd o q := fun o q h1 h2 h3 => by
      unfold relAdd
      cases q with
      | none => exact ⟨h1, h2, ⟨[], by simp⟩, fun x hx => by cases hx⟩
      | some x =>
        simp only []
        obtain ⟨x1, x2, x3⟩ := h3 x rfl
        split
        · rename_i hx
          refine ⟨h1, h2, ⟨[], by simp⟩, fun y hy => ?_⟩
          cases hy
          obtain ⟨a, ha, hax⟩ := List.mem_map.1 hx
          have : a = s23 x := by rw [← hax]; rfl
          rw [← this]; exact ha
        · rename_i hx
          refine ⟨List.nodup_append.2 ⟨h1, by simp, fun a ha b hb => by
            simp at hb
            subst hb
            intro e
            exact hx (List.mem_map.2 ⟨a, ha, by rw [e]; exact x1.symm⟩)⟩, fun p hp => ?_, ⟨[s23 x], rfl⟩, fun y hy => by cases hy; simp⟩
          rcases List.mem_append.1 hp with hp | hp
          · exact h2 p hp
          · simp at hp
            rw [hp]; exact ⟨x2, x3⟩
    obtain ⟨m, hm, hms⟩ := (stp_needs hv hp.1.1 hp.1.2).1 hps.step
    have hneed : ∀ c x, needGet ((needsF (nd t out[i].f0) (nd t out[i].f1)).getD none) c = some x → x = l23 (s23 x) ∧ inP t (s23 x) ∧ SubC t (s23 x).f0 (s23 x).f1 := fun c x hx => by
      rw [hm] at hx
      obtain ⟨x1, x2⟩ := need_inP hv hp hm hx
      exact ⟨x1, x2, hms c x hx⟩
    obtain ⟨a1, a2, ⟨M1, a3⟩, a4⟩ := add out (needGet ((needsF (nd t out[i].f0) (nd t out[i].f1)).getD none) 97) hnd hin (hneed 97)
    obtain ⟨b1, b2, ⟨M2, b3⟩, b4⟩ := add _ (needGet ((needsF (nd t out[i].f0) (nd t out[i].f1)).getD none) 98) a1 a2 (hneed 98)
    have hext : ∀ p ∈ out, p ∈ relAdd (relAdd out (needGet ((needsF (nd t out[i].f0) (nd t out[i].f1)).getD none) 97)) (needGet ((needsF (nd t out[i].f0) (nd t out[i].f1)).getD none) 98) := fun p hp => by
      rw [b3, a3]; simp [hp]
    have hnew : NeedIn t (relAdd (relAdd out (needGet ((needsF (nd t out[i].f0) (nd t out[i].f1)).getD none) 97)) (needGet ((needsF (nd t out[i].f0) (nd t out[i].f1)).getD none) 98)) out[i] := fun c q hq => by
      have hc : c = 97 ∨ c = 98 := by
        have hq2 := hq
        unfold needGet at hq2
        split at hq2
        · cases hq2
        · split at hq2
          · exact .inl ‹_›
          · split at hq2
            · exact .inr ‹_›
            · cases hq2
      rcases hc with rfl | rfl
      · rw [b3]
        exact List.mem_append_left _ (a4 q hq)
      · exact b4 q hq
    have hlen : i + 1 ≤ (relAdd (relAdd out (needGet ((needsF (nd t out[i].f0) (nd t out[i].f1)).getD none) 97)) (needGet ((needsF (nd t out[i].f0) (nd t out[i].f1)).getD none) 98)).length := by
      rw [b3, a3]; simp; omega
    obtain ⟨r, hr, h1, h2, h3, h4⟩ := ih f (i + 1) _ (by omega) (by omega) hlen b1 b2 (fun k hk hki => by
      have hko : k < out.length := by omega
      have ek : (relAdd (relAdd out (needGet ((needsF (nd t out[i].f0) (nd t out[i].f1)).getD none) 97)) (needGet ((needsF (nd t out[i].f0) (nd t out[i].f1)).getD none) 98))[k] = out[k] := by
        have hE : relAdd (relAdd out (needGet ((needsF (nd t out[i].f0) (nd t out[i].f1)).getD none) 97)) (needGet ((needsF (nd t out[i].f0) (nd t out[i].f1)).getD none) 98) = out ++ (M1 ++ M2) := by rw [b3, a3, List.append_assoc]
        simp only [hE]
        rw [List.getElem_append_left hko]
      rw [ek]
      by_cases ei : k = i
      · subst ei; exact hnew
      · exact fun c q hq => hext _ (hne k hko (by omega) c q hq))
    refine ⟨r, ?_, fun p hp => h1 p (hext p hp), h2, h3, h4⟩
    unfold relGo
    rw [if_pos (by omega), e, if_pos ⟨by omega, by omega, hp.1, hp.2⟩]
    unfold relIn
    rw [if_pos rfl]
    exact hr
end
theorem empty_list : (⟨#[]⟩ : ByteArray).toList = ([] : List UInt8) := by
  unfold ByteArray.toList ByteArray.toList.loop
  rfl
/-- What Sub says of two nodes is right, as the reference says. -/
theorem Find_ev {t : List S39} (ht : tyB t 24 = true) {i j : Int} (i0 : 0 ≤ i) (i1 : i < t.length) (j0 : 0 ≤ j) (j1 : j < t.length) : ∃ (rel : List S23) (path : ByteArray), Ev (fun k => loops_Sub.f k t i j) (subB t i j, rel, path, 0) ∧ rel.length ≤ 600 ∧ path.size ≤ 600 ∧ Ev (fun k => tickingref06_Right.f k t i j (subB t i j) rel path) true := by
  obtain ⟨⟨h1, hv⟩, hl⟩ := tyB_iff.1 ht
  have hn : t.length ≤ 24 := by omega
  have hsq : t.length * t.length ≤ 576 := Nat.mul_le_mul hn hn
  obtain ⟨bad, b1, b2, b3⟩ := refGo_ok hv hn 576 1000 [] (by simp; omega) (by omega) .nil
  have hin : inP t ⟨i, j⟩ := ⟨⟨i0, i1⟩, ⟨j0, j1⟩⟩
  have hall : t.all t39B = true := List.all_eq_true.2 (fun x hx => by
    obtain ⟨k, hk, rfl⟩ := List.getElem_of_mem hx
    have := hv k (by omega) (by omega)
    have e : nd t (k : Int) = t[k] := by
      unfold nd rd_T39
      rw [List.getD_eq_getElem?_getD, Int.toNat_natCast, List.getElem?_eq_getElem hk, Option.getD_some]
    unfold okN at this
    rw [e] at this
    obtain ⟨⟨k0, k1⟩, _, ⟨a0, a1⟩, ⟨c0, c1⟩⟩ := this
    unfold t39B i64B
    rw [Bool.and_eq_true, Bool.and_eq_true]
    exact ⟨decide_eq_true ⟨by omega, by omega⟩, decide_eq_true ⟨by omega, by omega⟩, decide_eq_true ⟨by omega, by omega⟩⟩)
  have key : ∀ rel path, (if hasK bad [i, j] = true then (pathGo t bad 1000 ⟨i, j⟩ (⟨#[]⟩ : ByteArray)).bind fun p => some (false, [], p, (0 : Int)) else (relGo t 10000 0 [⟨i, j⟩]).bind fun r => some (true, r, (⟨#[]⟩ : ByteArray), 0)) = some (subB t i j, rel, path, (0 : Int)) → Ev (fun k => loops_Sub.f k t i j) (subB t i j, rel, path, 0) := fun rel path h => by
    unfold loops_Sub.f
    refine Ev.bind (f := fun k (ok : Bool) => if ok = true then
      (if t.all t39B = true ∧ (0 ≤ i ∧ i < t.length) ∧ (0 ≤ j ∧ j < t.length) ∧ t.length ≤ 100 then
        (refGo t 1000 true []).bind fun bad =>
          if hasK bad [i, j] = true then (pathGo t bad 1000 ⟨i, j⟩ (⟨#[]⟩ : ByteArray)).bind fun p => some (false, [], p, (0 : Int))
          else (relGo t 10000 0 [⟨i, j⟩]).bind fun r => some (true, r, (⟨#[]⟩ : ByteArray), 0)
       else none)
    else some (false, [], (⟨#[]⟩ : ByteArray), 2)) (areNodes_ev (by omega) [i, j]) ?_
    rw [ht, inB_two.2 ⟨⟨i0, i1⟩, ⟨j0, j1⟩⟩]
    refine Ev.congr (fun k => ?_) (Ev.now _)
    rw [if_pos (show (true && true) = true from rfl), if_pos ⟨hall, ⟨i0, i1⟩, ⟨j0, j1⟩, by omega⟩, b1, Option.bind_some]
    exact h
  by_cases hb : hasK bad [i, j] = true
  · have hns := b2.sound hv ⟨i, j⟩ hb
    have hs : subB t i j = false := by
      cases e : subB t i j with
      | false => rfl
      | true => exact absurd (subB_iff.1 e) hns
    have hbl := b2.len
    obtain ⟨p, hp, _, p3, p4⟩ := refutes_ok hv b2 bad [] ⟨i, j⟩ 1000 (⟨#[]⟩ : ByteArray) rfl hb (by omega) (by show 0 + bad.length ≤ 2000; omega)
    have p3' : p.size + 1 ≤ 0 + bad.length := p3
    refine ⟨[], p, key [] p (by rw [if_pos hb, hp, hs]; rfl), by simp, by omega, ?_⟩
    rw [hs]
    unfold tickingref06_Right.f tickingref06_Refutes.f
    refine Ev.congr (fun k => ?_) p4
    rw [if_neg (by decide), if_pos (show ((([] : List S23).length : Nat) : Int) = 0 from rfl)]
    show (tickingref06_Refutes.l0 k t i j p 0).bind (fun z => some z) = tickingref06_Refutes.l0 k t i j p 0
    cases tickingref06_Refutes.l0 k t i j p 0 <;> rfl
  have hs : SubC t i j := ⟨fun a b => inP t ⟨a, b⟩ ∧ hasK bad [a, b] = false, fun a b hab => by
    obtain ⟨m, hm, hall2⟩ := b3 ⟨a, b⟩ hab.1 hab.2
    refine (stp_needs hv hab.1.1.1 hab.1.1.2).2 ⟨m, hm, fun c q hq => ?_⟩
    obtain ⟨q1, q2⟩ := need_inP hv hab.1 hm hq
    refine ⟨q2, ?_⟩
    have := hall2 c q hq
    rw [q1] at this
    exact this, hin, by simpa using hb⟩
  have hsB : subB t i j = true := subB_iff.2 hs
  obtain ⟨r, hr, r1, r2, r3, r4⟩ := rel2_ok hv hn 576 10000 0 [⟨i, j⟩] (by omega) (by omega) (by simp) (by simp) (fun p hp => by simp at hp; rw [hp]; exact ⟨hin, hs⟩) (fun k hk h0 => by omega)
  have hr' : relGo t 10000 0 [⟨i, j⟩] = some r := hr
  refine ⟨r, (⟨#[]⟩ : ByteArray), key r (⟨#[]⟩ : ByteArray) (by rw [if_neg hb, hsB, hr']; rfl), r2, by show 0 ≤ 600; omega, ?_⟩
  rw [hsB]
  unfold tickingref06_Right.f
  have hc := Closed_ev hv hn (L := r) r2 (fun p hp => (r3 p hp).1) (fun p hp => by
    obtain ⟨hpi, hps⟩ := r3 p hp
    obtain ⟨m, hm, _⟩ := (stp_needs hv hpi.1.1 hpi.1.2).1 hps.step
    refine (stp_needs hv hpi.1.1 hpi.1.2).2 ⟨m, hm, fun c q hq => ?_⟩
    exact r4 p hp c q (by rw [hm]; exact hq))
  refine Ev.congr (f := fun k => (tickingref06_Closed.f k t r).bind fun t469 => (if t469 = true then ((tickingref06_has.f k r i j).bind fun t470 => (some t470)) else (some false))) (fun k => ?_) ?_
  · rw [if_pos rfl, if_pos empty_list]
  refine Ev.bind (f := fun k (z : Bool) => _) hc ?_
  simp only [if_true]
  refine Ev.congr (fun k => ?_) (has_ev (L := r) (by omega) (r1 ⟨i, j⟩ (by simp)))
  cases tickingref06_has.f k r i j <;> rfl

theorem mem_l23 {L : List S23} {a b : Int} : [a, b] ∈ L.map l23 ↔ (⟨a, b⟩ : S23) ∈ L := by
 constructor
 ·intro h
  obtain ⟨x, hx, e⟩ := List.mem_map.1 h
  have : x = ⟨a, b⟩ := by
   obtain ⟨x0, x1⟩ := x
   unfold l23 at e
   simp at e
   rw [e.1, e.2]
  rw [← this]; exact hx
 intro h
 exact List.mem_map.2 ⟨_, h, rfl⟩
theorem has_no (L : List S23) (hn : L.length ≤ 1000) (a b : Int) (hm : (⟨a, b⟩ : S23) ∉ L) : ∀ (d i : Nat), i + d = L.length → Ev (fun k => tickingref06_has.l0 k L a b (i : Int)) false
 | 0, i, h => by
  refine Ev.step (fun k => ?_) (Ev.now false)
  simp only [tickingref06_has.l0]
  rw [if_neg (by omega)]
 | d + 1, i, h => by
  have hi : i < L.length := by omega
  have e := rd23_nat L hi
  have c : L[i] ≠ ⟨a, b⟩ := fun c => hm (c ▸ List.getElem_mem hi)
  have ih := has_no L hn a b hm d (i + 1) (by omega)
  have e2 := w64s (j := i) (by omega)
  refine Ev.step (f := fun k => tickingref06_has.l0 k L a b ((i + 1 : Nat) : Int)) (fun k => ?_) ih
  simp only [tickingref06_has.l0]
  rw [if_pos (castlt hi), if_pos (cast0 _), e, e2]
  by_cases c1 : L[i].f0 = a
  ·rw [if_pos c1, if_neg (fun c2 => c (by rw [← c1, ← c2]))]
  ·rw [if_neg c1]
theorem has_all {L : List S23} (hn : L.length ≤ 1000) (a b : Int) : Ev (fun k => tickingref06_has.f k L a b) (decide ([a, b] ∈ L.map l23)) := by
 by_cases h : (⟨a, b⟩ : S23) ∈ L
 ·rw [decide_eq_true (mem_l23.2 h)]
  exact has_ev hn h
 rw [decide_eq_false (fun hh => h (mem_l23.1 hh))]
 exact has_no L hn a b h L.length 0 (by omega)
def okR (t : List S39) (L : List S23) (p : S23) : Bool := inR t.length p && needB t (L.map l23) p
section
variable {t : List S39} (hv : ∀ i : Int, 0 ≤ i → i < t.length → okN t i) (hn : t.length ≤ 24) {L : List S23} (hL : L.length ≤ 1000)
include hv hn hL
theorem closed_all : ∀ (d i : Nat), i + d = L.length → Ev (fun k => tickingref06_Closed.l0 k t L (i : Int)) ((L.drop i).all (okR t L) && decide (L.length ≤ 600))
 | 0, i, h => by
  refine Ev.step (fun k => ?_) (Ev.now _)
  simp only [tickingref06_Closed.l0]
  rw [if_neg (by omega), List.drop_eq_nil_of_le (by omega)]
  simp only [List.all_nil, Bool.true_and]
  congr 1
  simp only [decide_eq_decide]
  omega
 | d + 1, i, h => by
  have hi : i < L.length := by omega
  have ih := closed_all d (i + 1) (by omega)
  have e := rd23_nat L hi
  rw [List.drop_eq_getElem_cons hi, List.all_cons, Bool.and_assoc]
  generalize hB : ((L.drop (i + 1)).all (okR t L) && decide (L.length ≤ 600)) = B at *
  generalize L[i] = p at *
  have has : ∀ x y : Int, Ev (fun k => tickingref06_has.f k L x y) (decide ([x, y] ∈ L.map l23)) := fun x y => has_all hL x y
  by_cases hin : (0 ≤ p.f0 ∧ p.f0 < t.length) ∧ (0 ≤ p.f1 ∧ p.f1 < t.length)
  case neg =>
   have e0 : okR t L p = false := by
    unfold okR inR
    rw [Bool.and_eq_false_iff]
    left
    rw [Bool.and_eq_false_iff]
    by_cases h0 : 0 ≤ p.f0 ∧ p.f0 < t.length
    ·right; exact decide_eq_false (by omega)
    ·left; exact decide_eq_false (by omega)
   rw [e0, Bool.false_and]
   refine Ev.step (f := fun k => tickingref06_Closed.j1 k t L (i : Int) p.f0 p.f1 true) (fun k => ?_) (Ev.step (fun k => ?_) (Ev.now false))
   ·simp only [tickingref06_Closed.l0]
    rw [if_pos (castlt hi), if_pos (cast0 _), e]
    by_cases h0 : p.f0 < 0
    ·rw [if_pos h0]
    rw [if_neg h0]
    by_cases h1 : p.f0 ≥ t.length
    ·rw [if_pos h1]
    rw [if_neg h1]
    by_cases h2 : p.f1 < 0
    ·rw [if_pos h2]
    rw [if_neg h2, decide_eq_true (show p.f1 ≥ t.length by omega)]
   ·simp only [tickingref06_Closed.j1]
    rw [if_pos trivial]
  obtain ⟨⟨a0, a1⟩, ⟨b0, b1⟩⟩ := hin
  obtain ⟨⟨k0, k1⟩, _⟩ := hv _ a0 a1
  have eR : okR t L p = needB t (L.map l23) p := by
   unfold okR inR
   rw [decide_eq_true (by omega), decide_eq_true (by omega)]
   rfl
  rw [eR]
  unfold needB
  refine Ev.step (f := fun k => tickingref06_Closed.j1 k t L (i : Int) p.f0 p.f1 false) (fun k => ?_) ?_
  ·simp only [tickingref06_Closed.l0]
   rw [if_pos (castlt hi), if_pos (cast0 _), e, if_neg (by omega), if_neg (by omega), if_neg (by omega), decide_eq_false (by omega)]
  have next : Ev (fun k => tickingref06_Closed.l0 k t L (wrap64 ((i : Int) + 1))) B := by
   have e2 := w64s (j := i) (by omega)
   rw [e2]; exact ih
  have on : Ev (fun k => tickingref06_Closed.j2 k t L (i : Int) true (nd t p.f0).f0 (nd t p.f0).f1 (nd t p.f0).f2 (nd t p.f1).f0 (nd t p.f1).f1 (nd t p.f1).f2) B := Ev.step (fun k => by
   simp only [tickingref06_Closed.j2]
   rw [if_pos trivial]) next
  by_cases q0 : (nd t p.f0).f0 = 0
  ·rw [show needsF (rd_T39 t p.f0) (rd_T39 t p.f1) = some none from if_pos (.inl q0)]
   refine Ev.congr (fun _ => rfl) (f := fun k => tickingref06_Closed.j1 k t L (i : Int) p.f0 p.f1 false) (Ev.step (fun k => ?_) on)
   simp only [tickingref06_Closed.j1]
   rw [if_neg (by decide), if_pos a0, if_pos a1, if_pos b0, if_pos b1, if_pos q0]
  by_cases q1 : (nd t p.f1).f0 = 1
  ·rw [show needsF (rd_T39 t p.f0) (rd_T39 t p.f1) = some none from if_pos (.inr q1)]
   refine Ev.step (fun k => ?_) on
   simp only [tickingref06_Closed.j1]
   rw [if_neg (by decide), if_pos a0, if_pos a1, if_pos b0, if_pos b1, if_neg q0, if_pos q1]
  have q01 : ¬ ((rd_T39 t p.f0).f0 = 0 ∨ (rd_T39 t p.f1).f0 = 1) := fun h => h.elim q0 q1
  by_cases hk : (nd t p.f0).f0 = (nd t p.f1).f0
  case neg =>
   have hk' : (rd_T39 t p.f0).f0 ≠ (rd_T39 t p.f1).f0 := hk
   rw [show needsF (rd_T39 t p.f0) (rd_T39 t p.f1) = none by unfold needsF; rw [if_neg q01, if_pos hk']]
   refine Ev.step (f := fun k => tickingref06_Closed.j2 k t L (i : Int) false (nd t p.f0).f0 (nd t p.f0).f1 (nd t p.f0).f2 (nd t p.f1).f0 (nd t p.f1).f1 (nd t p.f1).f2) (fun k => ?_) (Ev.step (f := fun k => tickingref06_Closed.j3 k t L (i : Int) true (nd t p.f0).f0 (nd t p.f0).f1 (nd t p.f0).f2 (nd t p.f1).f0 (nd t p.f1).f1 (nd t p.f1).f2) (fun k => ?_) (Ev.step (fun k => ?_) (Ev.now false)))
   ·simp only [tickingref06_Closed.j1]
    rw [if_neg (by decide), if_pos a0, if_pos a1, if_pos b0, if_pos b1, if_neg q0, if_neg q1, if_neg hk]
   ·simp only [tickingref06_Closed.j2]
    rw [if_neg (by decide), if_neg hk]
   simp only [tickingref06_Closed.j3]
   rw [if_pos trivial]
  have hkk : ¬ (rd_T39 t p.f0).f0 ≠ (rd_T39 t p.f1).f0 := fun h => h hk
  by_cases c : (nd t p.f0).f0 < 4
  ·have c4 : ¬ (rd_T39 t p.f0).f0 = 4 := by have : (rd_T39 t p.f0).f0 < 4 := c; omega
   have c5 : ¬ (rd_T39 t p.f0).f0 = 5 := by have : (rd_T39 t p.f0).f0 < 4 := c; omega
   rw [show needsF (rd_T39 t p.f0) (rd_T39 t p.f1) = some none by unfold needsF; rw [if_neg q01, if_neg hkk, if_neg c4, if_neg c5]]
   refine Ev.step (fun k => ?_) on
   simp only [tickingref06_Closed.j1]
   rw [if_neg (by decide), if_pos a0, if_pos a1, if_pos b0, if_pos b1, if_neg q0, if_neg q1, if_pos hk, decide_eq_true (show (rd_T39 t p.f0).f0 < 4 from c)]
  refine Ev.step (f := fun k => tickingref06_Closed.j2 k t L (i : Int) false (nd t p.f0).f0 (nd t p.f0).f1 (nd t p.f0).f2 (nd t p.f1).f0 (nd t p.f1).f1 (nd t p.f1).f2) (fun k => ?_) ?_
  ·simp only [tickingref06_Closed.j1]
   rw [if_neg (by decide), if_pos a0, if_pos a1, if_pos b0, if_pos b1, if_neg q0, if_neg q1, if_pos hk, decide_eq_false (show ¬ (rd_T39 t p.f0).f0 < 4 from c)]
  refine Ev.step (f := fun k => (tickingref06_has.f k L (nd t p.f0).f2 (nd t p.f1).f2).bind fun t460 => (tickingref06_Closed.j3 k t L (i : Int) (!t460) (nd t p.f0).f0 (nd t p.f0).f1 (nd t p.f0).f2 (nd t p.f1).f0 (nd t p.f1).f1 (nd t p.f1).f2)) (fun k => ?_) ?_
  ·simp only [tickingref06_Closed.j2]
   rw [if_neg (by decide), if_pos hk]
  refine Ev.bind (f := fun k (z : Bool) => tickingref06_Closed.j3 k t L (i : Int) (!z) (nd t p.f0).f0 (nd t p.f0).f1 (nd t p.f0).f2 (nd t p.f1).f0 (nd t p.f1).f1 (nd t p.f1).f2) (has _ _) ?_
  by_cases c4 : (nd t p.f0).f0 = 4
  ·rw [show needsF (rd_T39 t p.f0) (rd_T39 t p.f1) = some (some ([(rd_T39 t p.f0).f1, (rd_T39 t p.f1).f1], [(rd_T39 t p.f0).f2, (rd_T39 t p.f1).f2])) by unfold needsF; rw [if_neg q01, if_neg hkk, if_pos (show (rd_T39 t p.f0).f0 = 4 from c4)]]
   show Ev _ ((decide ([(nd t p.f0).f1, (nd t p.f1).f1] ∈ L.map l23) && decide ([(nd t p.f0).f2, (nd t p.f1).f2] ∈ L.map l23)) && B)
   by_cases m2 : [(nd t p.f0).f2, (nd t p.f1).f2] ∈ L.map l23
   case neg =>
    rw [decide_eq_false m2, Bool.and_false, Bool.false_and]
    refine Ev.step (fun k => ?_) (Ev.now false)
    simp only [tickingref06_Closed.j3]
    rw [if_pos (show (!false) = true from rfl)]
   rw [decide_eq_true m2, Bool.and_true]
   refine Ev.step (f := fun k => (tickingref06_has.f k L (nd t p.f0).f1 (nd t p.f1).f1).bind fun t461 => (if t461 = true then (tickingref06_Closed.l0 k t L (wrap64 ((i : Int) + 1))) else (some false))) (fun k => ?_) ?_
   ·simp only [tickingref06_Closed.j3]
    rw [if_neg (by decide), if_pos c4, if_neg (show ¬ (nd t p.f0).f0 = 5 by omega)]
   refine Ev.bind (f := fun k (z : Bool) => if z = true then (tickingref06_Closed.l0 k t L (wrap64 ((i : Int) + 1))) else (some false)) (has _ _) ?_
   by_cases m1 : [(nd t p.f0).f1, (nd t p.f1).f1] ∈ L.map l23
   ·rw [decide_eq_true m1, Bool.true_and]
    exact Ev.congr (fun k => if_pos rfl) next
   rw [decide_eq_false m1, Bool.false_and]
   exact Ev.congr (fun k => if_neg (by decide)) (Ev.now false)
  have c5 : (nd t p.f0).f0 = 5 := by omega
  rw [show needsF (rd_T39 t p.f0) (rd_T39 t p.f1) = some (some ([(rd_T39 t p.f1).f1, (rd_T39 t p.f0).f1], [(rd_T39 t p.f0).f2, (rd_T39 t p.f1).f2])) by unfold needsF; rw [if_neg q01, if_neg hkk, if_neg (show ¬ (rd_T39 t p.f0).f0 = 4 from c4), if_pos (show (rd_T39 t p.f0).f0 = 5 from c5)]]
  show Ev _ ((decide ([(nd t p.f1).f1, (nd t p.f0).f1] ∈ L.map l23) && decide ([(nd t p.f0).f2, (nd t p.f1).f2] ∈ L.map l23)) && B)
  by_cases m2 : [(nd t p.f0).f2, (nd t p.f1).f2] ∈ L.map l23
  case neg =>
   rw [decide_eq_false m2, Bool.and_false, Bool.false_and]
   refine Ev.step (fun k => ?_) (Ev.now false)
   simp only [tickingref06_Closed.j3]
   rw [if_pos (show (!false) = true from rfl)]
  rw [decide_eq_true m2, Bool.and_true]
  refine Ev.step (f := fun k => (tickingref06_has.f k L (nd t p.f1).f1 (nd t p.f0).f1).bind fun t463 => (if t463 = true then (tickingref06_Closed.l0 k t L (wrap64 ((i : Int) + 1))) else (some false))) (fun k => ?_) ?_
  ·simp only [tickingref06_Closed.j3]
   rw [if_neg (by decide), if_neg c4, if_pos c5]
  refine Ev.bind (f := fun k (z : Bool) => if z = true then (tickingref06_Closed.l0 k t L (wrap64 ((i : Int) + 1))) else (some false)) (has _ _) ?_
  by_cases m1 : [(nd t p.f1).f1, (nd t p.f0).f1] ∈ L.map l23
  ·rw [decide_eq_true m1, Bool.true_and]
   exact Ev.congr (fun k => if_pos rfl) next
  rw [decide_eq_false m1, Bool.false_and]
  exact Ev.congr (fun k => if_neg (by decide)) (Ev.now false)
theorem Closed_all : Ev (fun k => tickingref06_Closed.f k t L) (L.all (okR t L) && decide (L.length ≤ 600)) := by
 have := closed_all hv hn hL L.length 0 (by omega)
 rwa [List.drop_zero] at this
omit hL in
theorem rf_all {path : ByteArray} (hp : path.size ≤ 1000000) : ∀ (d pos : Nat) (p : S23), pos + d = path.size → inP t p →
  ∃ b, rfGo t path (d + 1) pos p = some b ∧ Ev (fun k => tickingref06_Refutes.l0 k t p.f0 p.f1 path (pos : Int)) b := by
 intro d
 induction d with
 | zero =>
  intro pos p h hin
  obtain ⟨⟨a0, a1⟩, ⟨b0, b1⟩⟩ := hin
  have hnot : ¬ pos < path.data.size := by have : path.data.size = path.size := rfl; omega
  refine ⟨(needsF (rd_T39 t p.f0) (rd_T39 t p.f1)).isNone, ?_, ?_⟩
  ·unfold rfGo
   rw [if_pos ⟨⟨a0, a1⟩, ⟨b0, b1⟩⟩, dif_neg hnot]
  have l1 : (pos : Int) ≤ (path.size : Int) := by omega
  by_cases q : (nd t p.f0).f0 = 0 ∨ (nd t p.f1).f0 = 1
  ·rw [show needsF (rd_T39 t p.f0) (rd_T39 t p.f1) = some none from if_pos q]
   refine Ev.step (f := fun k => tickingref06_Refutes.j1 k t path (pos : Int) true (nd t p.f0).f0 (nd t p.f0).f1 (nd t p.f0).f2 (nd t p.f1).f0 (nd t p.f1).f1 (nd t p.f1).f2) (fun k => ?_) (Ev.step (fun k => ?_) (Ev.now false))
   ·simp only [tickingref06_Refutes.l0]
    rw [if_pos l1, if_pos a0, if_pos a1, if_pos b0, if_pos b1]
    by_cases q0 : (nd t p.f0).f0 = 0
    ·rw [if_pos q0]
    rw [if_neg q0]
    have q1 : ((nd t p.f1).f0 == 1) = true := beq_iff_eq.2 (q.resolve_left q0)
    rw [q1]
   simp only [tickingref06_Refutes.j1]
   rw [if_pos trivial]
  have q0 : ¬ (nd t p.f0).f0 = 0 := fun h => q (.inl h)
  have q1 : ((nd t p.f1).f0 == 1) = false := beq_eq_false_iff_ne.2 (fun h => q (.inr h))
  refine Ev.step (f := fun k => tickingref06_Refutes.j1 k t path (pos : Int) false (nd t p.f0).f0 (nd t p.f0).f1 (nd t p.f0).f2 (nd t p.f1).f0 (nd t p.f1).f1 (nd t p.f1).f2) (fun k => ?_) (Ev.step (fun k => ?_) (Ev.now _))
  ·simp only [tickingref06_Refutes.l0]
   rw [if_pos l1, if_pos a0, if_pos a1, if_pos b0, if_pos b1, if_neg q0, q1]
  simp only [tickingref06_Refutes.j1]
  rw [if_neg (by decide), if_pos (show (pos : Int) = (path.size : Int) by omega)]
  have q' : ¬ ((rd_T39 t p.f0).f0 = 0 ∨ (rd_T39 t p.f1).f0 = 1) := q
  by_cases hk : (nd t p.f0).f0 = (nd t p.f1).f0
  rotate_left
  ·have hk' : (rd_T39 t p.f0).f0 ≠ (rd_T39 t p.f1).f0 := hk
   rw [show needsF (rd_T39 t p.f0) (rd_T39 t p.f1) = none by unfold needsF; rw [if_neg q', if_pos hk']]
   simp [hk]
  have hk' : ¬ (rd_T39 t p.f0).f0 ≠ (rd_T39 t p.f1).f0 := fun h => h hk
  have : (needsF (rd_T39 t p.f0) (rd_T39 t p.f1)).isNone = false := by
   unfold needsF
   rw [if_neg q', if_neg hk']
   split
   ·rfl
   ·split <;> rfl
  rw [this, hk]
  simp
 | succ d ih =>
  intro pos p h hin
  have hin2 := hin
  obtain ⟨⟨a0, a1⟩, ⟨b0, b1⟩⟩ := hin
  obtain ⟨⟨k0, k1⟩, _⟩ := hv _ a0 a1
  have hlt : pos < path.data.size := by have : path.data.size = path.size := rfl; omega
  have l2 : (pos : Int) < (path.size : Int) := by omega
  have l1 : (pos : Int) ≤ (path.size : Int) := Int.le_of_lt l2
  have l3 : ¬ (pos : Int) = (path.size : Int) := Int.ne_of_lt l2
  have w := w64s (j := pos) (by omega)
  have hbt : bt path (pos : Int) = (path.data[pos].toNat : Int) := by
   rw [← rd_bytesOf]
   unfold rd bytesOf
   rw [Int.toNat_natCast, List.getD_eq_getElem?_getD, List.getElem?_map, Array.getElem?_toList, Array.getElem?_eq_getElem hlt]
   rfl
  obtain ⟨c, hc⟩ : ∃ c, c = (path.data[pos].toNat : Int) := ⟨_, rfl⟩
  rw [← hc] at hbt
  unfold rfGo
  rw [if_pos (show (0 ≤ p.f0 ∧ p.f0 < t.length) ∧ (0 ≤ p.f1 ∧ p.f1 < t.length) from hin2), dif_pos hlt, ← hc]
  -- ends that say no
  have no1 : ((nd t p.f0).f0 = 0 ∨ (nd t p.f1).f0 = 1) → Ev (fun k => tickingref06_Refutes.l0 k t p.f0 p.f1 path (pos : Int)) false := fun q => by
   refine Ev.step (f := fun k => tickingref06_Refutes.j1 k t path (pos : Int) true (nd t p.f0).f0 (nd t p.f0).f1 (nd t p.f0).f2 (nd t p.f1).f0 (nd t p.f1).f1 (nd t p.f1).f2) (fun k => ?_) (Ev.step (fun k => ?_) (Ev.now false))
   ·simp only [tickingref06_Refutes.l0]
    rw [if_pos l1, if_pos a0, if_pos a1, if_pos b0, if_pos b1]
    by_cases q0 : (nd t p.f0).f0 = 0
    ·rw [if_pos q0]
    ·rw [if_neg q0]
     have q1 : ((nd t p.f1).f0 == 1) = true := beq_iff_eq.2 (q.resolve_left q0)
     rw [q1]
   ·simp only [tickingref06_Refutes.j1]
    rw [if_pos trivial]
  have toJ2 : ¬ ((nd t p.f0).f0 = 0 ∨ (nd t p.f1).f0 = 1) → ∀ (z b : Bool), (z = (if (nd t p.f0).f0 = (nd t p.f1).f0 then (if (nd t p.f0).f0 < 4 then true else (if c = 97 then false else c != 98)) else true)) → Ev (fun k => tickingref06_Refutes.j2 k t path (pos : Int) z (nd t p.f0).f0 (nd t p.f0).f1 (nd t p.f0).f2 (nd t p.f1).f0 (nd t p.f1).f1 (nd t p.f1).f2) b → Ev (fun k => tickingref06_Refutes.l0 k t p.f0 p.f1 path (pos : Int)) b := fun q z b hz hb => by
   have q0 : ¬ (nd t p.f0).f0 = 0 := fun h => q (.inl h)
   have q1 : ((nd t p.f1).f0 == 1) = false := beq_eq_false_iff_ne.2 (fun h => q (.inr h))
   refine Ev.step (f := fun k => tickingref06_Refutes.j1 k t path (pos : Int) false (nd t p.f0).f0 (nd t p.f0).f1 (nd t p.f0).f2 (nd t p.f1).f0 (nd t p.f1).f1 (nd t p.f1).f2) (fun k => ?_) (Ev.step (f := fun k => tickingref06_Refutes.j2 k t path (pos : Int) z (nd t p.f0).f0 (nd t p.f0).f1 (nd t p.f0).f2 (nd t p.f1).f0 (nd t p.f1).f1 (nd t p.f1).f2) (fun k => ?_) hb)
   ·simp only [tickingref06_Refutes.l0]
    rw [if_pos l1, if_pos a0, if_pos a1, if_pos b0, if_pos b1, if_neg q0, q1]
   ·simp only [tickingref06_Refutes.j1]
    rw [if_neg (by decide), if_neg l3, hz]
    by_cases c1 : (nd t p.f0).f0 = (nd t p.f1).f0
    ·rw [if_pos c1, if_pos c1]
     by_cases c2 : (nd t p.f0).f0 < 4
     ·rw [if_pos c2, if_pos c2]
     ·rw [if_neg c2, if_neg c2, if_pos (cast0 _), if_pos l2, hbt]
      by_cases c3 : c = 97
      ·rw [if_pos c3, if_pos c3]
      ·rw [if_neg c3, if_neg c3]
    ·rw [if_neg c1, if_neg c1]
  have no2 : Ev (fun k => tickingref06_Refutes.j2 k t path (pos : Int) true (nd t p.f0).f0 (nd t p.f0).f1 (nd t p.f0).f2 (nd t p.f1).f0 (nd t p.f1).f1 (nd t p.f1).f2) false := Ev.step (fun k => by
   simp only [tickingref06_Refutes.j2]
   rw [if_pos trivial]) (Ev.now false)
  by_cases q : (nd t p.f0).f0 = 0 ∨ (nd t p.f1).f0 = 1
  ·rw [show needsF (rd_T39 t p.f0) (rd_T39 t p.f1) = some none from if_pos q]
   exact ⟨false, rfl, no1 q⟩
  have q' : ¬ ((rd_T39 t p.f0).f0 = 0 ∨ (rd_T39 t p.f1).f0 = 1) := q
  by_cases hk : (nd t p.f0).f0 = (nd t p.f1).f0
  case neg =>
   have hk' : (rd_T39 t p.f0).f0 ≠ (rd_T39 t p.f1).f0 := hk
   rw [show needsF (rd_T39 t p.f0) (rd_T39 t p.f1) = none by unfold needsF; rw [if_neg q', if_pos hk']]
   exact ⟨false, rfl, toJ2 q true false (by rw [if_neg hk]) no2⟩
  have hkk : ¬ (rd_T39 t p.f0).f0 ≠ (rd_T39 t p.f1).f0 := fun h => h hk
  by_cases c4 : (nd t p.f0).f0 < 4
  ·have d4 : ¬ (rd_T39 t p.f0).f0 = 4 := by have : (rd_T39 t p.f0).f0 < 4 := c4; omega
   have d5 : ¬ (rd_T39 t p.f0).f0 = 5 := by have : (rd_T39 t p.f0).f0 < 4 := c4; omega
   rw [show needsF (rd_T39 t p.f0) (rd_T39 t p.f1) = some none by unfold needsF; rw [if_neg q', if_neg hkk, if_neg d4, if_neg d5]]
   exact ⟨false, rfl, toJ2 q true false (by rw [if_pos hk, if_pos c4]) no2⟩
  -- two nodes with parts
  have go : ∀ (m : List Int × List Int), needsF (rd_T39 t p.f0) (rd_T39 t p.f1) = some (some m) → (∀ k, (if (nd t p.f0).f0 = 4 then (tickingref06_Refutes.l0 k t (nd t p.f0).f1 (nd t p.f1).f1 path (wrap64 ((pos : Int) + 1))) else (tickingref06_Refutes.l0 k t (nd t p.f1).f1 (nd t p.f0).f1 path (wrap64 ((pos : Int) + 1)))) = tickingref06_Refutes.l0 k t (s23 m.1).f0 (s23 m.1).f1 path (wrap64 ((pos : Int) + 1))) → m.2 = [(nd t p.f0).f2, (nd t p.f1).f2] →
    ∃ b, (match needGet ((some (some m) : Option (Option (List Int × List Int))).getD none) c with | none => some false | some q => rfGo t path (d + 1) (pos + 1) (s23 q)) = some b ∧ Ev (fun k => tickingref06_Refutes.l0 k t p.f0 p.f1 path (pos : Int)) b := fun m hm h1 h2 => by
   obtain ⟨m1, m2⟩ := m
   by_cases ca : c = 97
   ·subst ca
    obtain ⟨b, hb1, hb2⟩ := ih (pos + 1) (s23 m1) (by omega) (need_inP hv hin2 (c := 97) (q := m1) hm rfl).2
    refine ⟨b, hb1, toJ2 q false b (by rw [if_pos hk, if_neg c4, if_pos rfl]) (Ev.step (f := fun k => tickingref06_Refutes.l0 k t (s23 m1).f0 (s23 m1).f1 path ((pos + 1 : Nat) : Int)) (fun k => ?_) hb2)⟩
    simp only [tickingref06_Refutes.j2]
    rw [if_neg (by decide), if_pos (cast0 _), if_pos l2, hbt, if_neg (by decide), h1 k, w]
   ·by_cases cb : c = 98
    ·subst cb
     obtain ⟨b, hb1, hb2⟩ := ih (pos + 1) (s23 m2) (by omega) (need_inP hv hin2 (c := 98) (q := m2) hm rfl).2
     refine ⟨b, hb1, toJ2 q false b (by rw [if_pos hk, if_neg c4, if_neg (by decide)]; rfl) (Ev.step (f := fun k => tickingref06_Refutes.l0 k t (s23 m2).f0 (s23 m2).f1 path ((pos + 1 : Nat) : Int)) (fun k => ?_) hb2)⟩
     simp only [tickingref06_Refutes.j2]
     rw [if_neg (by decide), if_pos (cast0 _), if_pos l2, hbt, if_pos rfl, w]
     have h2' : m2 = [(nd t p.f0).f2, (nd t p.f1).f2] := h2
     rw [h2']
     rfl
    ·refine ⟨false, ?_, toJ2 q true false (by rw [if_pos hk, if_neg c4, if_neg ca]; simp [cb]) no2⟩
     simp [needGet, ca, cb]
  by_cases c5 : (nd t p.f0).f0 = 4
  ·have hm : needsF (rd_T39 t p.f0) (rd_T39 t p.f1) = some (some ([(nd t p.f0).f1, (nd t p.f1).f1], [(nd t p.f0).f2, (nd t p.f1).f2])) := by
    unfold needsF
    rw [if_neg q', if_neg hkk, if_pos (show (rd_T39 t p.f0).f0 = 4 from c5)]
   rw [hm]
   exact go _ hm (fun k => by rw [if_pos c5]; rfl) rfl
  have c6 : (rd_T39 t p.f0).f0 = 5 := by have h1 : ¬ (rd_T39 t p.f0).f0 < 4 := c4; have h2 : ¬ (rd_T39 t p.f0).f0 = 4 := c5; have h3 : (rd_T39 t p.f0).f0 ≤ 5 := k1; omega
  have hm : needsF (rd_T39 t p.f0) (rd_T39 t p.f1) = some (some ([(nd t p.f1).f1, (nd t p.f0).f1], [(nd t p.f0).f2, (nd t p.f1).f2])) := by
   unfold needsF
   rw [if_neg q', if_neg hkk, if_neg (show ¬ (rd_T39 t p.f0).f0 = 4 from c5), if_pos c6]
  rw [hm]
  exact go _ hm (fun k => by rw [if_neg c5]; rfl) rfl
end

theorem Ev.one {α : Type} {g : Nat → Option α} {a b : α} (h : Ev g a) (h' : Ev g b) : a = b := by
 obtain ⟨K, h⟩ := h
 obtain ⟨K', h'⟩ := h'
 have h1 := h (K + K') (by omega)
 have h2 := h' (K + K') (by omega)
 rw [h1] at h2
 exact Option.some.inj h2
def rfB (t : List S39) (path : ByteArray) (p : S23) : Bool := (rfGo t path (path.size + 1) 0 p).getD false
def rightB (t : List S39) (i j : Int) (holds : Bool) (L : List S23) (path : ByteArray) : Bool :=
 if holds = true then decide (path.toList = ([] : List UInt8)) && closedB t L ⟨i, j⟩ else decide (L.length = 0) && rfB t path ⟨i, j⟩
theorem all_t39 {t : List S39} (hv : ∀ i : Int, 0 ≤ i → i < t.length → okN t i) (hn : t.length ≤ 24) : t.all t39B = true := List.all_eq_true.2 (fun x hx => by
  obtain ⟨k, hk, rfl⟩ := List.getElem_of_mem hx
  have := hv k (by omega) (by omega)
  have e : nd t (k : Int) = t[k] := by
   unfold nd rd_T39
   rw [List.getD_eq_getElem?_getD, Int.toNat_natCast, List.getElem?_eq_getElem hk, Option.getD_some]
  unfold okN at this
  rw [e] at this
  obtain ⟨⟨k0, k1⟩, _, ⟨a0, a1⟩, ⟨c0, c1⟩⟩ := this
  unfold t39B i64B
  rw [Bool.and_eq_true, Bool.and_eq_true]
  exact ⟨decide_eq_true ⟨by omega, by omega⟩, decide_eq_true ⟨by omega, by omega⟩, decide_eq_true ⟨by omega, by omega⟩⟩)
section
variable {t : List S39} (ht : tyB t 24 = true) {i j : Int} (i0 : 0 ≤ i) (i1 : i < t.length) (j0 : 0 ≤ j) (j1 : j < t.length)
include ht i0 i1 j0 j1
theorem rf_eq {path : ByteArray} (hp : path.size ≤ 1000000) : rfGo t path (path.size + 1) 0 ⟨i, j⟩ = some (rfB t path ⟨i, j⟩) ∧ Ev (fun k => tickingref06_Refutes.f k t i j path) (rfB t path ⟨i, j⟩) := by
 obtain ⟨⟨h1, hv⟩, hl⟩ := tyB_iff.1 ht
 obtain ⟨b, h2, h3⟩ := rf_all hv (by omega) hp path.size 0 ⟨i, j⟩ (by omega) ⟨⟨i0, i1⟩, ⟨j0, j1⟩⟩
 have e : rfB t path ⟨i, j⟩ = b := by
  unfold rfB
  rw [h2]
  rfl
 rw [e]
 exact ⟨h2, h3⟩
theorem Check_ev (holds : Bool) (L : List S23) {path : ByteArray} (hp : path.size ≤ 1000000) : Ev (fun k => loops_Check.f k t i j holds L path) (if rightB t i j holds L path = true then 0 else 10) := by
 obtain ⟨⟨h1, hv⟩, hl⟩ := tyB_iff.1 ht
 have hall := all_t39 hv (by omega)
 obtain ⟨hr, _⟩ := rf_eq ht i0 i1 j0 j1 hp
 have hcl : loops_isClosed.f t L i j = some (closedB t L ⟨i, j⟩) := by
  unfold loops_isClosed.f
  rw [if_pos ⟨hall, by omega, by unfold i64B; exact decide_eq_true ⟨by omega, by omega⟩, by unfold i64B; exact decide_eq_true ⟨by omega, by omega⟩⟩]
 have hrf : loops_refutes.f t path i j = some (rfB t path ⟨i, j⟩) := by
  unfold loops_refutes.f
  rw [if_pos ⟨hall, hp⟩]
  exact hr
 have hj : ∀ z : Bool, Ev (fun k => loops_Check.j0 k t z holds L path i j) (if (if holds = true then z else (decide (L.length = 0) && rfB t path ⟨i, j⟩)) = true then 0 else 10) := fun z => by
  refine Ev.step (fun k => ?_) (Ev.now _)
  simp only [loops_Check.j0]
  by_cases hh : holds = true
  ·rw [if_pos hh, if_pos hh]
   by_cases hz : z = true
   ·rw [if_pos hz, if_pos hz]
   ·rw [if_neg hz, if_neg hz]
  ·rw [if_neg hh, if_neg hh]
   by_cases hL : L.length = 0
   ·rw [if_pos (show (L.length : Int) = 0 by omega), hrf, Option.bind_some, decide_eq_true hL, Bool.true_and]
    by_cases hb : rfB t path ⟨i, j⟩ = true
    ·rw [if_pos hb, if_pos hb]
    ·rw [if_neg hb, if_neg hb]
   ·rw [if_neg (show ¬ (L.length : Int) = 0 by omega), decide_eq_false hL, Bool.false_and, if_neg (by decide)]
 unfold loops_Check.f
 refine Ev.bind (f := fun k (z : Bool) => _) (areNodes_ev (by omega) [i, j]) ?_
 rw [ht, inB_two.2 ⟨⟨i0, i1⟩, ⟨j0, j1⟩⟩]
 by_cases he : path.toList = ([] : List UInt8)
 rotate_left
 ·refine Ev.congr (f := fun k => loops_Check.j0 k t false holds L path i j) (fun k => ?_) ?_
  ·rw [if_pos (show (true && true) = true from rfl), if_neg he]
  have := hj false
  unfold rightB
  rw [decide_eq_false he, Bool.false_and]
  exact this
 refine Ev.congr (f := fun k => loops_Check.j0 k t (closedB t L ⟨i, j⟩) holds L path i j) (fun k => ?_) ?_
 ·rw [if_pos (show (true && true) = true from rfl), if_pos he, hcl, Option.bind_some]
 have := hj (closedB t L ⟨i, j⟩)
 unfold rightB
 rw [decide_eq_true he, Bool.true_and]
 exact this
theorem closed_eq (L : List S23) : (L.all (okR t L) && decide (L.length ≤ 600)) = (decide (L.length ≤ 600) && (L.all (inR t.length) && L.all (needB t (L.map l23)))) := by
 have : L.all (okR t L) = (L.all (inR t.length) && L.all (needB t (L.map l23))) := by
  rw [Bool.eq_iff_iff, Bool.and_eq_true, List.all_eq_true, List.all_eq_true, List.all_eq_true]
  unfold okR
  constructor
  ·intro h
   exact ⟨fun x hx => (Bool.and_eq_true_iff.1 (h x hx)).1, fun x hx => (Bool.and_eq_true_iff.1 (h x hx)).2⟩
  ·rintro ⟨h1, h2⟩ x hx
   rw [h1 x hx, h2 x hx]
   rfl
 rw [this, Bool.and_comm]
theorem Right_ev (holds : Bool) {L : List S23} (hL : L.length ≤ 1000) {path : ByteArray} (hp : path.size ≤ 1000000) : Ev (fun k => tickingref06_Right.f k t i j holds L path) (rightB t i j holds L path) := by
 obtain ⟨⟨h1, hv⟩, hl⟩ := tyB_iff.1 ht
 obtain ⟨_, hr⟩ := rf_eq ht i0 i1 j0 j1 hp
 unfold tickingref06_Right.f rightB
 by_cases hh : holds = true
 rotate_left
 ·rw [if_neg hh]
  by_cases hz : L.length = 0
  rotate_left
  ·rw [decide_eq_false hz, Bool.false_and]
   exact Ev.congr (fun k => by rw [if_neg hh, if_neg (show ¬ (L.length : Int) = 0 by omega)]) (Ev.now false)
  rw [decide_eq_true hz, Bool.true_and]
  refine Ev.congr (fun k => ?_) hr
  rw [if_neg hh, if_pos (show (L.length : Int) = 0 by omega)]
  cases tickingref06_Refutes.f k t i j path <;> rfl
 rw [if_pos hh]
 by_cases he : path.toList = ([] : List UInt8)
 rotate_left
 ·rw [decide_eq_false he, Bool.false_and]
  exact Ev.congr (fun k => by rw [if_pos hh, if_neg he]) (Ev.now false)
 rw [decide_eq_true he, Bool.true_and]
 refine Ev.congr (f := fun k => (tickingref06_Closed.f k t L).bind fun t469 => (if t469 = true then ((tickingref06_has.f k L i j).bind fun t470 => (some t470)) else (some false))) (fun k => ?_) ?_
 ·rw [if_pos hh, if_pos he]
 refine Ev.bind (f := fun k (z : Bool) => if z = true then ((tickingref06_has.f k L i j).bind fun t470 => (some t470)) else (some false)) (Closed_all hv (by omega) hL) ?_
 rw [closed_eq ht i0 i1 j0 j1]
 unfold closedB
 rw [show (decide (L.length ≤ 600) && (L.all (inR t.length) && (L.all (needB t (L.map l23)) && decide (l23 ⟨i, j⟩ ∈ L.map l23)))) = ((decide (L.length ≤ 600) && (L.all (inR t.length) && L.all (needB t (L.map l23)))) && decide (l23 ⟨i, j⟩ ∈ L.map l23)) by simp only [Bool.and_assoc]]
 generalize (decide (L.length ≤ 600) && (L.all (inR t.length) && L.all (needB t (L.map l23)))) = B
 cases B with
 | true =>
  rw [Bool.true_and]
  refine Ev.congr (fun k => ?_) (has_all hL i j)
  simp only [if_true]
  cases tickingref06_has.f k L i j <;> rfl
 | false =>
  rw [Bool.false_and]
  exact Ev.congr (fun k => if_neg (by decide)) (Ev.now false)
end
theorem Check_bad {t : List S39} (hn : t.length ≤ 1000) {i j : Int} (hb : (tyB t 24 && inB t [i, j]) = false) (holds : Bool) (L : List S23) (path : ByteArray) : Ev (fun k => loops_Check.f k t i j holds L path) 2 := by
 unfold loops_Check.f
 refine Ev.bind (f := fun k (z : Bool) => _) (areNodes_ev hn [i, j]) ?_
 rw [hb]
 exact Ev.congr (fun k => if_neg (by decide)) (Ev.now 2)
theorem Sub_bad {t : List S39} (hn : t.length ≤ 1000) {i j : Int} (hb : (tyB t 24 && inB t [i, j]) = false) : Ev (fun k => loops_Sub.f k t i j) (false, [], (⟨#[]⟩ : ByteArray), 2) := by
 unfold loops_Sub.f
 refine Ev.bind (f := fun k (z : Bool) => _) (areNodes_ev hn [i, j]) ?_
 rw [hb]
 exact Ev.congr (fun k => if_neg (by decide)) (Ev.now _)
theorem LoopsSubs_ev (l : List S39) (i j : Int) : Ev (fun k => tickinglaw06_LoopsSubs.f k l i j) true := by
 unfold tickinglaw06_LoopsSubs.f
 rw [own_eq]
 simp only [Option.bind_some]
 have hl := own_len l
 generalize l.take 25 = t at *
 cases hb : (tyB t 24 && inB t [i, j]) with
 | false =>
  have hbad := bad_ev (t := t) (by omega) i j
  rw [hb] at hbad
  refine Ev.bind (f := fun k (z : Bool × List S23 × ByteArray × Int) => _) (Sub_bad (by omega) hb) ?_
  refine Ev.bind (f := fun k (z : Bool) => _) hbad ?_
  have e0 : (((false, ([] : List S23), (⟨#[]⟩ : ByteArray), (2 : Int)) : Bool × List S23 × ByteArray × Int).2.1.length : Int) = 0 := rfl
  refine Ev.congr (f := fun k => (loops_Check.f k t i j false [] (⟨#[]⟩ : ByteArray)).bind fun t537 => (if t537 = 2 then ((tickinglaw06_awake.f k).bind fun t538 => (some t538)) else (some false))) (fun k => ?_) ?_
  ·rw [if_pos (show (!false) = true from rfl), if_neg (show ¬ ((false, ([] : List S23), (⟨#[]⟩ : ByteArray), (2 : Int)) : Bool × List S23 × ByteArray × Int).1 = true by decide), if_pos e0, if_pos (show ((false, ([] : List S23), (⟨#[]⟩ : ByteArray), (2 : Int)) : Bool × List S23 × ByteArray × Int).2.2.1.toList = ([] : List UInt8) from empty_list), if_pos (show ((false, ([] : List S23), (⟨#[]⟩ : ByteArray), (2 : Int)) : Bool × List S23 × ByteArray × Int).2.2.2 = 2 from rfl)]
  refine Ev.bind (f := fun k (z : Int) => _) (Check_bad (by omega) hb _ _ _) ?_
  refine Ev.congr (fun k => ?_) awake_ev
  rw [if_pos rfl]
  cases tickinglaw06_awake.f k <;> rfl
 | true =>
  obtain ⟨ht, hin⟩ := Bool.and_eq_true_iff.1 hb
  obtain ⟨⟨i0, i1⟩, ⟨j0, j1⟩⟩ := inB_two.1 hin
  obtain ⟨⟨h1, hv⟩, hl24⟩ := tyB_iff.1 ht
  have hn : t.length ≤ 24 := by omega
  have hbad := bad_ev (t := t) (by omega) i j
  rw [hb] at hbad
  obtain ⟨rel, path, s1, s2, s3, s4⟩ := Find_ev ht i0 i1 j0 j1
  have hR : rightB t i j (subB t i j) rel path = true := Ev.one (Right_ev ht i0 i1 j0 j1 _ (by omega) (by omega)) s4
  have hC := Check_ev ht i0 i1 j0 j1 (subB t i j) rel (path := path) (by omega)
  rw [if_pos hR] at hC
  obtain ⟨tab, r1, r2, r3⟩ := Subtypes_ev hv (by omega)
  refine Ev.bind (f := fun k (z : Bool × List S23 × ByteArray × Int) => _) s1 ?_
  refine Ev.bind (f := fun k (z : Bool) => _) hbad ?_
  have hsq : t.length * t.length ≤ 576 := Nat.mul_le_mul hn hn
  obtain ⟨a, ha⟩ : ∃ a : Nat, i = (a : Int) := ⟨i.toNat, by omega⟩
  obtain ⟨b, hbb⟩ : ∃ b : Nat, j = (b : Int) := ⟨j.toNat, by omega⟩
  have hab : t.length * a + b < t.length * t.length := by
   have : t.length * (a + 1) ≤ t.length * t.length := Nat.mul_le_mul (Nat.le_refl _) (by omega)
   rw [Nat.mul_add, Nat.mul_one] at this
   omega
  have e1 : wrap64 ((t.length : Int) * i) = ((t.length * a : Nat) : Int) := by
   rw [ha]
   have : (t.length : Int) * (a : Int) = ((t.length * a : Nat) : Int) := by push_cast; rfl
   rw [this]
   unfold wrap64
   omega
  have e2 : wrap64 (wrap64 ((t.length : Int) * i) + j) = ((t.length * a + b : Nat) : Int) := by
   rw [e1, hbb]
   unfold wrap64
   omega
  refine Ev.congr (f := fun k => (tickingref06_Subtypes.f k t).bind fun t539 => (if 0 ≤ ((t.length * a + b : Nat) : Int) then (if ((t.length * a + b : Nat) : Int) < (t539.length : Int) then (if (subB t i j == (rdOf false t539 ((t.length * a + b : Nat) : Int))) = true then ((tickingref06_Right.f k t i j (subB t i j) rel path).bind fun t543 => (if t543 = true then ((loops_Check.f k t i j (subB t i j) rel path).bind fun t544 => (if t544 = 0 then ((tickinglaw06_awake.f k).bind fun t545 => (some t545)) else (some false))) else (some false))) else (some false)) else (none)) else (none))) (fun k => ?_) ?_
  ·rw [if_neg (show ¬ (!true) = true by decide), e2, if_pos (show ((subB t i j, rel, path, (0 : Int)) : Bool × List S23 × ByteArray × Int).2.2.2 = 0 from rfl)]
  refine Ev.bind (f := fun k (z : List Bool) => _) r1 ?_
  have e3 : rdOf false tab ((t.length * a + b : Nat) : Int) = subB t i j := by
   have h5 := r3 a b (by omega) (by omega)
   have h6 : tb t.length tab a b = rdOf false tab ((t.length * a + b : Nat) : Int) := rfl
   rw [← h6]
   cases hs : subB t i j with
   | true => exact h5.2 (by rw [← ha, ← hbb]; exact subB_iff.1 hs)
   | false =>
    cases ht2 : tb t.length tab a b with
    | false => rfl
    | true =>
     have := h5.1 ht2
     rw [← ha, ← hbb] at this
     rw [subB_iff.2 this] at hs
     cases hs
  refine Ev.congr (f := fun k => (tickingref06_Right.f k t i j (subB t i j) rel path).bind fun t543 => (if t543 = true then ((loops_Check.f k t i j (subB t i j) rel path).bind fun t544 => (if t544 = 0 then ((tickinglaw06_awake.f k).bind fun t545 => (some t545)) else (some false))) else (some false))) (fun k => ?_) ?_
  ·rw [if_pos (by omega), if_pos (by omega), e3, if_pos (by simp)]
  refine Ev.bind (f := fun k (z : Bool) => _) s4 ?_
  simp only [if_true]
  refine Ev.bind (f := fun k (z : Int) => _) hC ?_
  refine Ev.congr (fun k => ?_) awake_ev
  rw [if_pos rfl]
  cases tickinglaw06_awake.f k <;> rfl
theorem LoopsSubs (l : List S39) (a b : Int) : ∃ k, tickinglaw06_LoopsSubs.f k l a b = some true := (LoopsSubs_ev l a b).rounds
end Go.Proofs.Ytnfmeafiaipplaa.P

namespace Go.Proofs.Ytnfmeafiaipplaa.Open
instance : Inhabited Go.Proofs.Ytnfmeafiaipplaa.S.S39 := ⟨⟨0, 0, 0⟩⟩
open Go.ChangeShapes Go.WideShapes Go.ChangeAt Go.RowKit
open Go.Proofs.Ytnfmeafiaipplaa.S Go.Proofs.Ytnfmeafiaipplaa.Lib Go.Proofs.YtnfmeafiaipplaaW.PrintWords Go.Proofs.YtnfmeafiaipplaaW.PrintLast Go.Proofs.YtnfmeafiaipplaaW.PrintMore
set_option linter.unusedVariables false
set_option maxRecDepth 100000

theorem add_add (a : Addr) (i j : Nat) : (a.add i).add j = a.add (i + j) := by
 unfold Addr.add
 by_cases hi : i = 0
 ·subst hi
  simp
 by_cases hj : j = 0
 ·subst hj
  simp [hi]
 simp [hi, hj, Nat.add_assoc]
theorem cells3 : Try.prog.cellsOf 39 = 3 := by kernel_rfl
theorem cells1 : Try.prog.cellsOf 3 = 1 := by kernel_rfl
section
variable {H : Type} {enc : TypeId × Value → H} {W : World} {base : Nat} {spare : Nat → Bool} {held : Bool}
/-- A node's cells. -/
theorem open_node {fuel : Nat} {cs : List Value} {x : DataW H × List MemPlace} (h : DataW.trod enc Try.prog W base spare held fuel 39 cs = some x) : ∃ n : S39, cs = [.int .i64 n.f0, .int .i64 n.f1, .int .i64 n.f2] := by
 obtain ⟨xs, n, _, _, hl, hxl, hf⟩ := DataW.trod_struct Try.underlying39 h
 rw [cells3] at hl
 obtain ⟨c0, c1, c2, rfl⟩ : ∃ c0 c1 c2, cs = [c0, c1, c2] := by
  match cs, hl with
  | [a, b, c], _ => exact ⟨a, b, c, rfl⟩
 have f0 : DataW.trod enc Try.prog W base spare held n 3 (([c0, c1, c2].drop 0).take (Try.prog.cellsOf 3)) = xs[0]? := hf 0 _ rfl
 have f1 : DataW.trod enc Try.prog W base spare held n 3 (([c0, c1, c2].drop 1).take (Try.prog.cellsOf 3)) = xs[1]? := hf 1 _ rfl
 have f2 : DataW.trod enc Try.prog W base spare held n 3 (([c0, c1, c2].drop 2).take (Try.prog.cellsOf 3)) = xs[2]? := hf 2 _ rfl
 rw [cells1] at f0 f1 f2
 have hxl3 : xs.length = 3 := hxl
 rw [List.getElem?_eq_getElem (by omega)] at f0 f1 f2
 obtain ⟨n0, h0, _⟩ := DataW.trod_int Try.underlying3 f0
 obtain ⟨n1, h1, _⟩ := DataW.trod_int Try.underlying3 f1
 obtain ⟨n2, h2, _⟩ := DataW.trod_int Try.underlying3 f2
 refine ⟨⟨n0, n1, n2⟩, ?_⟩
 simp at h0 h1 h2
 rw [h0, h1, h2]
theorem open_types {a : Option Addr} {len cap : Nat} {d : DataW H} {ps : List MemPlace} (h : DataW.Trod enc Try.prog W base spare held 22 (.slice a len cap) d ps) :
  ∃ zs : List S39, zs.length = len ∧ Kd.C k39 W a zs.length zs ∧ zs.length ≤ cap := by
 obtain ⟨fuel, hf⟩ := h
 rcases Go.Deep.open_slice Try.underlying22 hf with ⟨hcs, _⟩ | ⟨x, l, c, m, n, D, Pl, hcs, _, hl, hm, hmm, _, hx⟩
 ·simp [Value.cells] at hcs
  obtain ⟨rfl, rfl, rfl⟩ := hcs
  exact ⟨[], rfl, ⟨rfl, by simp, fun hp => absurd hp (by simp)⟩, by simp⟩
 simp [Value.cells] at hcs
 obtain ⟨rfl, rfl, rfl⟩ := hcs
 have hlm : len ≤ m := by rw [hmm]; split <;> omega
 obtain ⟨Z, hZ⟩ := Go.Deep.choose_lt (α := S39) (n := len) (p := fun i z => ∀ j u, [Value.int .i64 z.f0, .int .i64 z.f1, .int .i64 z.f2][j]? = some u → W.cell? (x.add (i * 3 + j)) = some u) (fun i hi => by
  obtain ⟨cs', h1, h2⟩ := hx i (by omega)
  obtain ⟨z, rfl⟩ := open_node h2
  obtain ⟨_, _, h3⟩ := World.cells?_some h1
  rw [cells3] at h3
  refine ⟨z, fun j u hu => ?_⟩
  have hj : j < 3 := by
   have := (List.getElem?_eq_some_iff.1 hu).1
   simpa using this
  rw [← add_add, h3 j hj, hu])
 have hml : len ≤ 9223372036854775807 := by simp only [maxLen] at hm; omega
 refine ⟨(List.range len).map Z, by simp, ⟨by simp, by simpa using hml, fun _ => ⟨x, rfl, fun j p hj => ?_⟩⟩, by simpa using hl⟩
 obtain ⟨hj1, hj2⟩ := List.getElem?_eq_some_iff.1 hj
 simp at hj1 hj2
 refine ⟨_, rfl, k39_mk W p, fun i u hu => ?_⟩
 rw [← hj2] at hu
 exact hZ j hj1 i u hu
theorem okWide_array {P : Program} {w : World} {r : Reach} {b0 n : Nat} {t e : TypeId} {v : Value} (ht : P.underlying t = some (.array n e)) (h : Value.okWide P w r b0 t v) : ∃ cs, v = .agg cs ∧ cs.size = P.cellsOf t := by
 simp only [Value.okWide, ht] at h
 obtain ⟨cs, h1, h2, _⟩ := h
 exact ⟨cs, h1, h2⟩
theorem open_two {r : Reach} {b0 : Nat} {v : Value} {d : DataW H} {ps : List MemPlace} (hv : Value.okWide Try.prog W r b0 23 v) (h : DataW.Trod enc Try.prog W base spare held 23 v d ps) :
  ∃ a b : Int, v = .agg #[.int .i64 a, .int .i64 b] ∧ (Lit.int .i64 a).wf = true ∧ (Lit.int .i64 b).wf = true := by
 obtain ⟨cs, rfl, hsz⟩ := okWide_array Try.underlying23 hv
 obtain ⟨fuel, hf⟩ := h
 have hc : Try.prog.cellsOf 23 = 2 := by kernel_rfl
 rw [hc] at hsz
 obtain ⟨xs, m, _, _, _, hxl, hel⟩ := DataW.trod_array Try.underlying23 hf
 obtain ⟨c0, c1, rfl⟩ : ∃ c0 c1, cs = #[c0, c1] := by
  obtain ⟨l⟩ := cs
  match l, hsz with
  | [a, b], _ => exact ⟨a, b, rfl⟩
 have e0 := hel 0 (by omega)
 have e1 := hel 1 (by omega)
 simp only [cells1] at e0 e1
 rw [List.getElem?_eq_getElem (by omega)] at e0 e1
 obtain ⟨n0, h0, _, w0⟩ := DataW.trod_int Try.underlying3 e0
 obtain ⟨n1, h1, _, w1⟩ := DataW.trod_int Try.underlying3 e1
 refine ⟨n0, n1, ?_, w0, w1⟩
 simp [Value.cells] at h0 h1
 rw [h0, h1]
end
end Go.Proofs.Ytnfmeafiaipplaa.Open
