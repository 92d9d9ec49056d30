-- Written by wip/bundle2.py: texts of this claim, one behind the other.
import Derived.Test.YtjbjongahnocdaaBShuntOnce1
import Derived.WideKeyEntry
import Derived.Deep.RegionHeldLaw
set_option linter.unusedVariables false
set_option linter.unusedSimpArgs false

namespace Go.Proofs.Ytjbjongahnocdaa.S
open Go.Proofs.Ytjbjongahnocdaa.Lib
open Go.Proofs.Ytjbjongahnocdaa.Defs
open Go.Maps (Keyed)
open Go.RowKit Go.Proofs.YtjbjongahnocdaaW.PrintWords Go.Proofs.YtjbjongahnocdaaW.PrintLast Go.Proofs.YtjbjongahnocdaaW.PrintMore
attribute [local go_sem] max2_int min2_int max_two min_two max_three min_three max_four min_four
set_option linter.unusedVariables false
set_option linter.unusedSimpArgs false

mutual
def shunt_Queues.j0 : Nat → List Int → Int → Bool → Option (List Int × List Int × Int)
 | 0, _, _, _ => none
 | k + 1, x0, x1, x19 => if x19 = true then (some (([] : List Int), ([] : List Int), 2)) else ((shunt_places.f x0).bind fun t474 => (shunt_Queues.l0 k x1 t474 ([] : List Int) t474 (t474.length : Int) 0))
def shunt_Queues.l0 : Nat → Int → List (S82) → List Int → List (S82) → Int → Int → Option (List Int × List Int × Int)
 | 0, _, _, _, _, _, _ => none
 | k + 1, x1, x7, x8, x22, x23, x24 => if x24 < x23 then (if 0 ≤ x24 then (if x24 < (x22.length : Int) then (if ((rd_T82 x22 x24).f0) = x1 then (shunt_Queues.l1 k x7 x24 ([] : List Int)) else (if x8.length < 17592186044416 then (shunt_Queues.l0 k x1 x7 (x8 ++ [(rd_T82 x22 x24).f0]) x22 x23 (wrap64 (x24 + 1))) else (none))) else (none)) else (none)) else (some (x8, ([] : List Int), 0))
def shunt_Queues.l1 : Nat → List (S82) → Int → List Int → Option (List Int × List Int × Int)
 | 0, _, _, _ => none
 | k + 1, x7, x9, x11 => if x9 ≥ 0 then (if x11.length < 17592186044416 then (if 0 ≤ x9 then (if x9 < (x7.length : Int) then (shunt_Queues.l1 k x7 ((rd_T82 x7 x9).f1) (x11 ++ [x9])) else (none)) else (none)) else (none)) else ((slices_Reverse_int_int.f k x11).bind fun t483 => (some (([] : List Int), t483, 0)))
end
def shunt_Queues.f (k : Nat) (l0 : List Int) (a1 : Int) : Option (List Int × List Int × Int) := (shunt_isOrder.f l0).bind fun t472 => (if t472 = true then ((shunt_within.f a1 1 60).bind fun t473 => (shunt_Queues.j0 k l0 a1 (!t473))) else (shunt_Queues.j0 k l0 a1 true))
set_option maxHeartbeats 8000000 in
set_option maxRecDepth 100000 in
theorem shunt_Queues.calls (k : Nat) (A0 : Option Addr) (c0 : Nat) (l0 : List Int) (a1 : Int) (r1 : List Int) (r2 : List Int) (r3 : Int) (w : World) (hr0 : Kd.C (Kd.int .i64) w A0 l0.length l0) (hc0 : l0.length ≤ c0) (h : shunt_Queues.f k l0 a1 = some (r1, r2, r3)) :
  Calls Try.prog 43 #[.slice A0 l0.length c0, .int .i64 a1] w fun e w' => ∃ v0_ v1_ : Value, e = .returned (.tuple #[v0_, v1_, .int .i64 r3]) ∧ Kd.R (Kd.int .i64) 3 w' w.heap.size (fun k_ => some k_ ≠ (v1_ : Value).ownBlock) v0_ r1 ∧ Kd.R (Kd.int .i64) 3 w' w.heap.size (fun k_ => some k_ ≠ (v0_ : Value).ownBlock) v1_ r2 ∧ Below w.heap.size w w' := by
 have hu82 := Try.underlying82
 have HR0 := Aside0.mk hr0
 have HC0 := Aside0.mk hc0
 clear hr0 hc0
 have HB := Aside0.mk (Below.refl w.heap.size w)
 have H : ((shunt_isOrder.f l0).bind fun t472 => (if t472 = true then ((shunt_within.f a1 1 60).bind fun t473 => (shunt_Queues.j0 k l0 a1 (!t473))) else (shunt_Queues.j0 k l0 a1 true))) = some (r1, r2, r3) := h
 clear h
 have HC3 := Aside0.mk H
 clear H
 go_enter Try.func43, Try.ntmps43
 go_upto_region 1 with (fail)
 go_cut [19] (fun v19 wc => ∃ (kq : Nat) (x19_2 : Bool), v19 = .bool x19_2 ∧ Aside0 (shunt_Queues.j0 kq l0 a1 x19_2 = some (r1, r2, r3)) ∧ Aside0 (kq ≤ k) ∧ Aside0 (Below w.heap.size w wc))
 case first =>
  have H := HC3.out
  clear HC3
  replace H := Option.bind_eq_some_iff.mp H
  obtain ⟨t472, A40, H⟩ := H
  replace H : (if t472 = true then ((shunt_within.f a1 1 60).bind fun t473 => (shunt_Queues.j0 k l0 a1 (!t473))) else (shunt_Queues.j0 k l0 a1 true)) = some (r1, r2, r3) := H
  have A4 := Aside0.mk A40
  clear A40
  by_cases c5 : t472 = true
  ·subst c5
   have H1 : ((shunt_within.f a1 1 60).bind fun t473 => (shunt_Queues.j0 k l0 a1 (!t473))) = some (r1, r2, r3) := by rw [if_pos rfl] at H; exact H
   clear H
   have H := H1
   clear H1
   replace H := Option.bind_eq_some_iff.mp H
   obtain ⟨t473, A60, H⟩ := H
   replace H : (shunt_Queues.j0 k l0 a1 (!t473)) = some (r1, r2, r3) := H
   have A6 := Aside0.mk A60
   clear A60
   have H' := Aside0.mk H
   clear H
   go_wp2_with (first | ((with_reducible refine gate_callee (f := 52) rfl ?_); refine goesL_ (some 13) rfl rfl Try.func52 (by kernel_rfl) rfl #[.slice A0 l0.length c0] rfl (by (try simp only [List.map_toArray, List.map_cons, List.map_nil]); first | done | rfl | (simp only [List.length_drop, List.length_take]; rfl)) ?_; (with_reducible refine (shunt_isOrder.calls _ _ l0 true _ ?side1 ?side2 A4.out).mono ?_); (case side1 => repeat (first | exact (Kd.C_below HR0.out HB.out) | (with_reducible refine Kd.C_alloc ?_ _) | (with_reducible refine Kd.C_drewN ?_ _) | (with_reducible refine Kd.C_drew ?_))); (case side2 => exact HC0.out); rintro e w7 ⟨rfl, hb⟩; refine ⟨_, rfl, ?_⟩; have n0_ := Aside0.mk (below_step (by repeat (first | (with_reducible first | exact HB.out | apply below_alloc | apply pw_below_drewN | apply below_drew1) | exact HB.out)) hb); clear HB; have HB := n0_; clear n0_; (try clear hb); (try clear hb2); (try clear hk); (try clear hi)) | (go_at_call 64; (with_reducible refine (shunt_within.calls a1 1 60 t473 _ A6.out).mono ?_); rintro e w' ⟨rfl, ⟨nd, rfl⟩⟩))
   go_meet
   case rel => exact ⟨_, (!t473), (by first | rfl | (simp; done) | (simp [*]; done)), H', ⟨by first | omega | exact Nat.le_refl _⟩, ⟨by repeat (first | (with_reducible first | exact HB.out | apply below_alloc | apply pw_below_drewN | apply below_drew1) | exact HB.out)⟩⟩
  ·replace c5 := Bool.eq_false_iff.mpr c5
   subst c5
   have H1 : (shunt_Queues.j0 k l0 a1 true) = some (r1, r2, r3) := by rw [if_neg (show ¬ (false = true) by decide)] at H; exact H
   clear H
   have H := H1
   clear H1
   have H' := Aside0.mk H
   clear H
   go_wp2_with (first | ((with_reducible refine gate_callee (f := 52) rfl ?_); refine goesL_ (some 13) rfl rfl Try.func52 (by kernel_rfl) rfl #[.slice A0 l0.length c0] rfl (by (try simp only [List.map_toArray, List.map_cons, List.map_nil]); first | done | rfl | (simp only [List.length_drop, List.length_take]; rfl)) ?_; (with_reducible refine (shunt_isOrder.calls _ _ l0 false _ ?side1 ?side2 A4.out).mono ?_); (case side1 => repeat (first | exact (Kd.C_below HR0.out HB.out) | (with_reducible refine Kd.C_alloc ?_ _) | (with_reducible refine Kd.C_drewN ?_ _) | (with_reducible refine Kd.C_drew ?_))); (case side2 => exact HC0.out); rintro e w8 ⟨rfl, hb⟩; refine ⟨_, rfl, ?_⟩; have n0_ := Aside0.mk (below_step (by repeat (first | (with_reducible first | exact HB.out | apply below_alloc | apply pw_below_drewN | apply below_drew1) | exact HB.out)) hb); clear HB; have HB := n0_; clear n0_; (try clear hb); (try clear hb2); (try clear hk); (try clear hi)))
   go_meet
   case rel => exact ⟨_, (true), (by first | rfl | (simp; done) | (simp [*]; done)), H', ⟨by first | omega | exact Nat.le_refl _⟩, ⟨by repeat (first | (with_reducible first | exact HB.out | apply below_alloc | apply pw_below_drewN | apply below_drew1) | exact HB.out)⟩⟩
 case rest =>
  clear HC3
  try clear p2
  try clear c4
  try clear c5
  obtain ⟨kq, x19_2, rfl, HA, HJ2, HB⟩ := hcut
  cases kq with
  | zero => exact absurd HA.out (by simp [shunt_Queues.j0])
  | succ kj2 =>
   have H := HA.out
   clear HA
   simp only [shunt_Queues.j0] at H
   by_cases c9 : x19_2 = true
   ·subst c9
    have H1 : (some (([] : List Int), ([] : List Int), 2)) = some (r1, r2, r3) := by rw [if_pos rfl] at H; exact H
    clear H
    have H := H1
    clear H1
    simp only [Option.some.injEq, Prod.mk.injEq] at H
    obtain ⟨rfl, rfl, rfl⟩ := H
    go_wp2
    go_ret3
    exact ⟨_, _, by first | rfl | (simp [errW_none, errW_some] <;> rfl) | (simp [*, errW_none, errW_some] <;> rfl), by first | exact Kd.R_nil _ _ _ _ _ | exact Kd.N_nil _ _ _ _ _ | exact Kd.V_nil _ _ _ _ _ | exact Kd.Q_nil _ _ _ _ _ | exact Kd.S_nil _ _ _ _ _, by first | exact Kd.R_nil _ _ _ _ _ | exact Kd.N_nil _ _ _ _ _ | exact Kd.V_nil _ _ _ _ _ | exact Kd.Q_nil _ _ _ _ _ | exact Kd.S_nil _ _ _ _ _, by repeat (first | (with_reducible first | exact HB.out | apply below_alloc | apply pw_below_drewN | apply below_drew1) | exact HB.out)⟩
   ·replace c9 := Bool.eq_false_iff.mpr c9
    subst c9
    have H1 : ((shunt_places.f l0).bind fun t474 => (shunt_Queues.l0 kj2 a1 t474 ([] : List Int) t474 (t474.length : Int) 0)) = some (r1, r2, r3) := by rw [if_neg (show ¬ (false = true) by decide)] at H; exact H
    clear H
    have H := H1
    clear H1
    replace H := Option.bind_eq_some_iff.mp H
    obtain ⟨t474, A100, H⟩ := H
    replace H : (shunt_Queues.l0 kj2 a1 t474 ([] : List Int) t474 (t474.length : Int) 0) = some (r1, r2, r3) := H
    have A10 := Aside0.mk A100
    clear A100
    have H' := Aside0.mk H
    clear H
    go_wp2_with (first | ((with_reducible refine gate_callee (f := 63) rfl ?_); refine goesL_ (some 21) rfl rfl Try.func63 (by kernel_rfl) rfl #[.slice A0 l0.length c0] rfl (by (try simp only [List.map_toArray, List.map_cons, List.map_nil]); first | done | rfl | (simp only [List.length_drop, List.length_take]; rfl)) ?_; (with_reducible refine (shunt_places.calls _ _ l0 t474 _ ?side1 ?side2 A10.out).mono ?_); (case side1 => repeat (first | exact (Kd.C_below HR0.out HB.out) | (with_reducible refine Kd.C_alloc ?_ _) | (with_reducible refine Kd.C_drewN ?_ _) | (with_reducible refine Kd.C_drew ?_))); (case side2 => exact HC0.out); rintro e w11 ⟨v475, rfl, ho0, hb⟩; refine ⟨_, rfl, ?_⟩; have n0_ := Aside0.mk (Kd.R_lower ho0 (below_size (by repeat (first | (with_reducible first | exact HB.out | apply below_alloc | apply pw_below_drewN | apply below_drew1) | exact HB.out)))); have n1_ := Aside0.mk (below_step (by repeat (first | (with_reducible first | exact HB.out | apply below_alloc | apply pw_below_drewN | apply below_drew1) | exact HB.out)) hb); clear HB; have HO476 := n0_; have HB := n1_; clear n0_ n1_; (try clear hb); (try clear hb2); (try clear hk); (try clear hi); (try clear ho0); obtain ⟨Ao12, co12, eo12⟩ := Kd.R_slice HO476.out; subst eo12))
    go_loopg [8, 24] kj2 (fun kq v8 v24 w' => ∃ (x8_2 : List Int) (x24_2 : Int), v24 = .int .i64 x24_2 ∧ Aside0 (shunt_Queues.l0 kq a1 t474 x8_2 t474 (t474.length : Int) x24_2 = some (r1, r2, r3)) ∧ Aside0 (kq ≤ kj2) ∧ Aside0 (Kd.R k82 82 w' w.heap.size (fun _ => True) (.slice Ao12 t474.length co12) t474) ∧ Aside0 (Kd.R (Kd.int .i64) 3 w' w.heap.size (fun _ => True) v8 x8_2) ∧ Aside0 (Kd.R k82 82 w' w.heap.size (fun _ => True) (.slice Ao12 t474.length co12) t474) ∧ Aside0 (Below w.heap.size w w'))
    case atStart => exact ⟨(([] : List Int)), (0), (by first | rfl | (simp; done) | (simp [*]; done)), H', ⟨Nat.le_refl _⟩, ⟨by (with_reducible repeat (first | apply Kd.R_alloc | apply Kd.R_drewN | apply Kd.R_drew)); exact HO476.out⟩, ⟨by first | exact Kd.R_nil _ _ _ _ _ | exact Kd.N_nil _ _ _ _ _ | exact Kd.V_nil _ _ _ _ _ | exact Kd.Q_nil _ _ _ _ _ | exact Kd.S_nil _ _ _ _ _⟩, ⟨by (with_reducible repeat (first | apply Kd.R_alloc | apply Kd.R_drewN | apply Kd.R_drew)); exact HO476.out⟩, ⟨by repeat (first | (with_reducible first | exact HB.out | apply below_alloc | apply pw_below_drewN | apply below_drew1) | exact HB.out)⟩⟩
    case round =>
     clear H'
     try clear p2
     try clear c4
     try clear c5
     try clear c6
     try clear c9
     try clear p2
     obtain ⟨x8_2, x24_2, rfl, HA, HK2, HO_7, HO_8, HO_22, HB⟩ := hrel
     cases gk with
     | zero => exact absurd HA.out (by simp [shunt_Queues.l0])
     | succ k2 =>
      have H := HA.out
      clear HA
      simp only [shunt_Queues.l0] at H
      by_cases c13 : x24_2 < (t474.length : Int)
      ·rw [if_pos c13] at H
       have c13b0 : decide (x24_2 < (t474.length : Int)) = true := decide_eq_true c13
       clear c13
       by_cases c14 : 0 ≤ x24_2
       ·rw [if_pos c14] at H
        have c14b0 : decide (0 ≤ x24_2) = true := decide_eq_true c14
        clear c14
        by_cases c15 : x24_2 < (t474.length : Int)
        ·rw [if_pos c15] at H
         have c15b0 : decide (x24_2 < (t474.length : Int)) = true := decide_eq_true c15
         clear c15
         by_cases c16 : ((rd_T82 t474 x24_2).f0) = a1
         ·rw [if_pos c16] at H
          have c16b0 : (((rd_T82 t474 x24_2).f0) == a1) = true := beq_iff_eq.mpr c16
          have c16b1 : (((rd_T82 t474 x24_2).f0) != a1) = false := bne_eq_false_iff_eq.mpr c16
          clear c16
          have H' := Aside0.mk H
          clear H
          have p477 : 0 ≤ (x24_2 : Int) := of_decide_eq_true (by first | (with_reducible assumption) | assumption)
          have q477 : x24_2 < (t474.length : Int) := of_decide_eq_true (by first | (with_reducible assumption) | assumption)
          obtain ⟨ad477, e477, hx477_0, hx477_1⟩ := at_T82 (Kd.R_reads' HO_22.out).2.2 x24_2 p477 q477
          cases e477
          replace p477 := eq_true p477
          replace q477 := eq_true q477
          go_wp2_with (first | ((with_reducible refine gate_dst (N := 10) rfl ?_); refine box_event ?hg (N := 10) ?hd (cs := #[.int .i64 0, .int .i64 0]) (t := 82) ?hr ?_; (case hd => rfl); (case hg => rfl); (case hr => first | (go_simp; done) | (go_simp; rfl)); intro gb478 hg w17 hbox hb; have n0_ := Aside0.mk (Kd.R_below (Kd.R_elderB (by (with_reducible repeat (first | apply Kd.R_alloc | apply Kd.R_drewN | apply Kd.R_drew)); exact HO_7.out) gb478 (Nat.le_of_eq hg.symm)) hb); have n1_ := Aside0.mk (Kd.R_below (by (with_reducible repeat (first | apply Kd.R_alloc | apply Kd.R_drewN | apply Kd.R_drew)); exact HO_8.out) hb); have n2_ := Aside0.mk (Kd.R_below (Kd.R_elderB (by (with_reducible repeat (first | apply Kd.R_alloc | apply Kd.R_drewN | apply Kd.R_drew)); exact HO_22.out) gb478 (Nat.le_of_eq hg.symm)) hb); have n3_ := Aside0.mk (below_step (by repeat (first | (with_reducible first | exact HB.out | apply below_alloc | apply pw_below_drewN | apply below_drew1) | exact HB.out)) hb); have n4_ := Aside0.mk (hbox); have n5_ := Aside0.mk ((by rw [hg]; exact (below_size (by repeat (first | (with_reducible first | exact HB.out | apply below_alloc | apply pw_below_drewN | apply below_drew1) | exact HB.out))) : w.heap.size ≤ gb478)); have n6_ := Aside0.mk ((by rw [hg]; exact (below_size (by repeat (first | (with_reducible first | exact HB.out | apply below_alloc | apply pw_below_drewN | apply below_drew1) | exact HB.out))) : w.heap.size ≤ gb478)); clear HO_7; clear HO_8; clear HO_22; clear HB; have HO_7 := n0_; have HO_8 := n1_; have HO_22 := n2_; have HB := n3_; have BK478 := n4_; have GW478 := n5_; have GE478 := n6_; clear n0_ n1_ n2_ n3_ n4_ n5_ n6_; clear hb hbox hg; have hcz18_0 : w17.cell? ⟨gb478, 0, none⟩ = some (.int .i64 0) := (blk_cell BK478.out 0).trans rfl; have hcz18_1 : w17.cell? ⟨gb478, 1, none⟩ = some (.int .i64 0) := (blk_cell BK478.out 1).trans rfl; have hfz18_0 := blk_frozen BK478.out 0; have hfz18_1 := blk_frozen BK478.out 1))
          go_loopg [9, 11] k2 (fun kq v9 v11 w' => ∃ (x9_3 : Int) (x11_3 : List Int), v9 = .int .i64 x9_3 ∧ Aside0 (shunt_Queues.l1 kq t474 x9_3 x11_3 = some (r1, r2, r3)) ∧ Aside0 (kq ≤ k2) ∧ Aside0 (Kd.R k82 82 w' w.heap.size (fun k_ => k_ ≠ gb478) (.slice (some ad477) t474.length co12) t474) ∧ Aside0 (Kd.R (Kd.int .i64) 3 w' w.heap.size (fun _ => True) v11 x11_3) ∧ Aside0 (w'.heap[gb478]? = some (.cells #[.int .i64 ((rd_T82 t474 x24_2).f0), .int .i64 ((rd_T82 t474 x24_2).f1)] 82 (0, 0))) ∧ Aside0 (Below w.heap.size w w'))
          case atStart => exact ⟨(x24_2), (([] : List Int)), (by first | rfl | (simp; done) | (simp [*]; done)), H', ⟨Nat.le_refl _⟩, ⟨by (with_reducible repeat (first | apply Kd.R_alloc | apply Kd.R_drewN | apply Kd.R_drew)); exact Kd.R_mono (Kd.R_far (p := ⟨gb478, 1, none⟩) (Kd.R_far (p := ⟨gb478, 0, none⟩) (Kd.R_mono HO_7.out (fun k_ hk => (⟨hk, hk.2⟩ : _ ∧ k_ ≠ gb478))) (fun _ hk => hk.2) (.int .i64 ((rd_T82 t474 x24_2).f0))) (fun _ hk => hk.2) (.int .i64 ((rd_T82 t474 x24_2).f1))) (fun _ hk => hk.1.2)⟩, ⟨by first | exact Kd.R_nil _ _ _ _ _ | exact Kd.N_nil _ _ _ _ _ | exact Kd.V_nil _ _ _ _ _ | exact Kd.Q_nil _ _ _ _ _ | exact Kd.S_nil _ _ _ _ _⟩, ⟨by (with_reducible repeat (first | refine blk_drewN ?_ _ | refine blk_drew ?_ | refine blk_alloc ?_ _)); refine blk_put (cs := #[.int .i64 ((rd_T82 t474 x24_2).f0), .int .i64 0]) ?_ 1 _ rfl; (with_reducible repeat (first | refine blk_drewN ?_ _ | refine blk_drew ?_ | refine blk_alloc ?_ _)); refine blk_put (cs := #[.int .i64 0, .int .i64 0]) ?_ 0 _ rfl; (with_reducible repeat (first | refine blk_drewN ?_ _ | refine blk_drew ?_ | refine blk_alloc ?_ _)); exact BK478.out⟩, ⟨by repeat (first | (with_reducible first | exact HB.out | apply below_alloc | apply pw_below_drewN | apply below_drew1 | refine below_set ?_ GE478.out) | exact HB.out)⟩⟩
          case round =>
           clear H'
           try clear c1
           try clear p2
           try clear c4
           try clear p4
           try clear q4
           try clear hx4
           try clear c5
           try clear c6
           try clear c9
           try clear c13
           try clear c13b0
           try clear c14
           try clear c14b0
           try clear c15
           try clear c15b0
           try clear c16
           try clear c16b0
           try clear c16b1
           try clear hcz18_0
           try clear hcz18_1
           try clear hfz18_0
           try clear hfz18_1
           try clear hx477_0
           try clear hx477_1
           try clear p2
           try clear p477
           try clear q477
           obtain ⟨x9_3, x11_3, rfl, HA, HK3, HO_7, HO_11, BK478, HB⟩ := hrel
           cases gk with
           | zero => exact absurd HA.out (by simp [shunt_Queues.l1])
           | succ k3 =>
            have H := HA.out
            clear HA
            simp only [shunt_Queues.l1] at H
            by_cases c19 : x9_3 ≥ 0
            ·rw [if_pos c19] at H
             have c19b0 : decide (0 ≤ x9_3) = true := decide_eq_true c19
             clear c19
             by_cases c20 : x11_3.length < 17592186044416
             ·rw [if_pos c20] at H
              have LMc20 := Aside0.mk c20
              clear c20
              obtain ⟨y479, hy479⟩ : ∃ y_ : List Int, y_ = (x11_3 ++ [x9_3]) := ⟨_, rfl⟩
              replace H : (if 0 ≤ x9_3 then (if x9_3 < (t474.length : Int) then (shunt_Queues.l1 k3 t474 ((rd_T82 t474 x9_3).f1) y479) else (none)) else (none)) = some (r1, r2, r3) := by first | (rw [hy479]; with_reducible exact H) | (have H2_ := (Option.bind_some _ _).symm.trans H; rw [hy479]; with_reducible exact H2_) | (have H2_ := (Option.bind_some _ _).symm.trans H; with_reducible exact H2_) | with_reducible exact H | (rw [hy479]; exact H) | exact H
              have Ny479 := Aside0.mk hy479
              clear hy479
              by_cases c21 : 0 ≤ x9_3
              ·rw [if_pos c21] at H
               have c21b0 : decide (0 ≤ x9_3) = true := decide_eq_true c21
               clear c21
               by_cases c22 : x9_3 < (t474.length : Int)
               ·rw [if_pos c22] at H
                have c22b0 : decide (x9_3 < (t474.length : Int)) = true := decide_eq_true c22
                clear c22
                have H' := Aside0.mk H
                clear H
                go_wp2_with (first | ((with_reducible refine gate_builtin (b := .append) (xs := #[.tmp 40, .tmp 42]) rfl ?_); at_builtin; refine Kd.R_append (Kd.int .i64) (w0 := w) w.heap.size rfl (.tmp 40) (.tmp 42) 22 3 (.int .i64 0) 8 rfl Try.underlying22 info3 rfl (by decide) (by omega) u11 x11_3 x9_3 [.int .i64 x9_3] (fun _ => True) (fun _ => False) rfl rfl ?aP (fun _ hk => hk.elim) ?aF ?aO ?aB ?aS ?aL ?_; (case aP => exact rfl); (case aB => exact (by repeat (first | (with_reducible first | exact HB.out | apply below_alloc | apply pw_below_drewN | apply below_drew1 | refine below_set ?_ GE478.out) | exact HB.out))); (case aF => exact (fun _ _ => trivial)); (case aO => exact (by (with_reducible repeat (first | apply Kd.R_alloc | apply Kd.R_drewN | apply Kd.R_drew)); exact HO_11.out)); (case aS => exact (below_size (by repeat (first | (with_reducible first | exact HB.out | apply below_alloc | apply pw_below_drewN | apply below_drew1 | refine below_set ?_ GE478.out) | exact HB.out)))); (case aL => have := LMc20.out; omega); intro v480 w23 ho hb hg hat; rw [← Ny479.out] at ho; have n0_ := Aside0.mk (Kd.R_over' (by (with_reducible repeat (first | apply Kd.R_alloc | apply Kd.R_drewN | apply Kd.R_drew)); exact HO_7.out) (Kd.R_typed (by (with_reducible repeat (first | apply Kd.R_alloc | apply Kd.R_drewN | apply Kd.R_drew)); exact HO_11.out)) (by decide) hg); have n1_ := Aside0.mk (blk_grown (g := gb478) (o := .cells #[.int .i64 ((rd_T82 t474 x24_2).f0), .int .i64 ((rd_T82 t474 x24_2).f1)] 82 (0, 0)) (by (with_reducible repeat (first | refine blk_drewN ?_ _ | refine blk_drew ?_ | refine blk_alloc ?_ _)); exact BK478.out) hg (Kd.R_ne HO_11.out BK478.out (by decide))); have n2_ := Aside0.mk (hb); have n3_ := Aside0.mk (ho); clear HO_7; clear BK478; clear HB; clear HO_11; have HO_7 := n0_; have BK478 := n1_; have HB := n2_; have HO481 := n3_; clear n0_ n1_ n2_ n3_; clear ho hb hg hat; have p482 : 0 ≤ (x9_3 : Int) := of_decide_eq_true (by first | (with_reducible assumption) | assumption); have q482 : x9_3 < (t474.length : Int) := of_decide_eq_true (by first | (with_reducible assumption) | assumption); obtain ⟨ad482, e482, hx482_0, hx482_1⟩ := at_T82 (Kd.R_reads' HO_7.out).2.2 x9_3 p482 q482; obtain rfl : ad477 = ad482 := (by injection e482); replace p482 := eq_true p482; replace q482 := eq_true q482))
                go_roundg k3
                case measure => have := HJ2.out; have := HK2.out; have := HK3.out; omega
                case rel => exact ⟨((rd_T82 t474 x9_3).f1), (y479), (by first | rfl | (simp; done) | (simp [*]; done)), H', ⟨by have := HJ2.out; have := HK2.out; have := HK3.out; omega⟩, ⟨by (with_reducible repeat (first | apply Kd.R_alloc | apply Kd.R_drewN | apply Kd.R_drew)); exact HO_7.out⟩, ⟨by (with_reducible repeat (first | apply Kd.R_alloc | apply Kd.R_drewN | apply Kd.R_drew)); exact HO481.out⟩, ⟨by (with_reducible repeat (first | refine blk_drewN ?_ _ | refine blk_drew ?_ | refine blk_alloc ?_ _)); exact BK478.out⟩, ⟨by repeat (first | (with_reducible first | exact HB.out | apply below_alloc | apply pw_below_drewN | apply below_drew1 | refine below_set ?_ GE478.out) | exact HB.out)⟩⟩
               ·rw [if_neg c22] at H
                exact absurd H (by simp)
              ·rw [if_neg c21] at H
               exact absurd H (by simp)
             ·rw [if_neg c20] at H
              exact absurd H (by simp)
            ·rw [if_neg c19] at H
             have c19b0 : decide (0 ≤ x9_3) = false := decide_eq_false c19
             clear c19
             replace H := Option.bind_eq_some_iff.mp H
             obtain ⟨t483, A240, H⟩ := H
             replace H : (some (([] : List Int), t483, 0)) = some (r1, r2, r3) := H
             have A24 := Aside0.mk A240
             clear A240
             simp only [Option.some.injEq, Prod.mk.injEq] at H
             obtain ⟨rfl, rfl, rfl⟩ := H
             obtain ⟨Ao25, co25, eo25⟩ := Kd.R_slice HO_11.out
             subst eo25
             go_wp2_with (first | ((with_reducible refine gate_callee (f := 68) rfl ?_); refine goesL_ (some 45) rfl rfl Try.func68 (by kernel_rfl) rfl #[.slice Ao25 x11_3.length co25] rfl (by (try simp only [List.map_toArray, List.map_cons, List.map_nil]); first | done | rfl | (simp only [List.length_drop, List.length_take]; rfl)) ?_; (with_reducible refine (slices_Reverse_int_int.calls k3 (fun k_ => some k_ = (.slice Ao25 x11_3.length co25 : Value).ownBlock) (.slice Ao25 x11_3.length co25) x11_3 t483 w _ ?side1 ?side2 A24.out).mono ?_); (case side1 => repeat (first | (with_reducible first | exact HB.out | apply below_alloc | apply pw_below_drewN | apply below_drew1 | refine below_set ?_ GE478.out) | exact HB.out)); (case side2 => exact Kd.R_tight rfl HO_11.out); rintro e w26 ⟨rfl, hy0, hb, hkp⟩; refine ⟨_, rfl, ?_⟩; have n0_ := Aside0.mk (Kd.R_mono (ok' := fun k_ => k_ ≠ gb478) (Kd.R_keptB ((Kd.R_apart' HO_7.out (Kd.R_typed HO_11.out) (by decide))) hkp (fun k_ hk_ hs_ => (hk_.2) hs_)) (fun k_ hk_ => hk_.1.1)); have n1_ := Aside0.mk (Kd.R_reok rfl hy0 (fun k_ e_ => HO_11.out.1 k_ e_)); have n2_ := Aside0.mk (blk_kept (by (with_reducible repeat (first | refine blk_drewN ?_ _ | refine blk_drew ?_ | refine blk_alloc ?_ _)); exact BK478.out) hkp (fun hs_ => (fun e_ => (Kd.R_ne HO_11.out BK478.out (by decide)) e_) hs_)); have n3_ := Aside0.mk (hb); clear HO_7; clear HO_11; clear BK478; clear HB; have HO_7 := n0_; have HO_11 := n1_; have BK478 := n2_; have HB := n3_; clear n0_ n1_ n2_ n3_; (try clear hb); (try clear hkp); (try clear hy0)))
             go_ret3
             exact ⟨_, _, by first | rfl | (simp [errW_none, errW_some] <;> rfl) | (simp [*, errW_none, errW_some] <;> rfl), by first | exact Kd.R_nil _ _ _ _ _ | exact Kd.N_nil _ _ _ _ _ | exact Kd.V_nil _ _ _ _ _ | exact Kd.Q_nil _ _ _ _ _ | exact Kd.S_nil _ _ _ _ _, by (with_reducible repeat (first | apply Kd.R_alloc | apply Kd.R_drewN | apply Kd.R_drew)); exact Kd.R_mono HO_11.out (fun _ hk => (by simp [Value.ownBlock])), by repeat (first | (with_reducible first | exact HB.out | apply below_alloc | apply pw_below_drewN | apply below_drew1 | refine below_set ?_ GE478.out) | exact HB.out)⟩
         ·rw [if_neg c16] at H
          have c16b0 : (((rd_T82 t474 x24_2).f0) == a1) = false := beq_eq_false_iff_ne.mpr c16
          have c16b1 : (((rd_T82 t474 x24_2).f0) != a1) = true := bne_iff_ne.mpr c16
          by_cases c27 : x8_2.length < 17592186044416
          ·rw [if_pos c27] at H
           have LMc27 := Aside0.mk c27
           clear c27
           obtain ⟨y484, hy484⟩ : ∃ y_ : List Int, y_ = (x8_2 ++ [(rd_T82 t474 x24_2).f0]) := ⟨_, rfl⟩
           replace H : (shunt_Queues.l0 k2 a1 t474 y484 t474 (t474.length : Int) (wrap64 (x24_2 + 1))) = some (r1, r2, r3) := by first | (rw [hy484]; with_reducible exact H) | (have H2_ := (Option.bind_some _ _).symm.trans H; rw [hy484]; with_reducible exact H2_) | (have H2_ := (Option.bind_some _ _).symm.trans H; with_reducible exact H2_) | with_reducible exact H | (rw [hy484]; exact H) | exact H
           have Ny484 := Aside0.mk hy484
           clear hy484
           have H' := Aside0.mk H
           clear H
           have p477 : 0 ≤ (x24_2 : Int) := of_decide_eq_true (by first | (with_reducible assumption) | assumption)
           have q477 : x24_2 < (t474.length : Int) := of_decide_eq_true (by first | (with_reducible assumption) | assumption)
           obtain ⟨ad477, e477, hx477_0, hx477_1⟩ := at_T82 (Kd.R_reads' HO_22.out).2.2 x24_2 p477 q477
           cases e477
           replace p477 := eq_true p477
           replace q477 := eq_true q477
           go_wp2_with (first | ((with_reducible refine gate_dst (N := 10) rfl ?_); refine box_event ?hg (N := 10) ?hd (cs := #[.int .i64 0, .int .i64 0]) (t := 82) ?hr ?_; (case hd => rfl); (case hg => rfl); (case hr => first | (go_simp; done) | (go_simp; rfl)); intro gb478 hg w28 hbox hb; have n0_ := Aside0.mk (Kd.R_below (Kd.R_elderB (by (with_reducible repeat (first | apply Kd.R_alloc | apply Kd.R_drewN | apply Kd.R_drew)); exact HO_7.out) gb478 (Nat.le_of_eq hg.symm)) hb); have n1_ := Aside0.mk (Kd.R_below (by (with_reducible repeat (first | apply Kd.R_alloc | apply Kd.R_drewN | apply Kd.R_drew)); exact HO_8.out) hb); have n2_ := Aside0.mk (Kd.R_below (Kd.R_elderB (by (with_reducible repeat (first | apply Kd.R_alloc | apply Kd.R_drewN | apply Kd.R_drew)); exact HO_22.out) gb478 (Nat.le_of_eq hg.symm)) hb); have n3_ := Aside0.mk (below_step (by repeat (first | (with_reducible first | exact HB.out | apply below_alloc | apply pw_below_drewN | apply below_drew1) | exact HB.out)) hb); have n4_ := Aside0.mk (hbox); have n5_ := Aside0.mk ((by rw [hg]; exact (below_size (by repeat (first | (with_reducible first | exact HB.out | apply below_alloc | apply pw_below_drewN | apply below_drew1) | exact HB.out))) : w.heap.size ≤ gb478)); have n6_ := Aside0.mk ((by rw [hg]; exact (below_size (by repeat (first | (with_reducible first | exact HB.out | apply below_alloc | apply pw_below_drewN | apply below_drew1) | exact HB.out))) : w.heap.size ≤ gb478)); clear HO_7; clear HO_8; clear HO_22; clear HB; have HO_7 := n0_; have HO_8 := n1_; have HO_22 := n2_; have HB := n3_; have BK478 := n4_; have GW478 := n5_; have GE478 := n6_; clear n0_ n1_ n2_ n3_ n4_ n5_ n6_; clear hb hbox hg; have hcz29_0 : w28.cell? ⟨gb478, 0, none⟩ = some (.int .i64 0) := (blk_cell BK478.out 0).trans rfl; have hcz29_1 : w28.cell? ⟨gb478, 1, none⟩ = some (.int .i64 0) := (blk_cell BK478.out 1).trans rfl; have hfz29_0 := blk_frozen BK478.out 0; have hfz29_1 := blk_frozen BK478.out 1) | ((with_reducible refine gate_builtin (b := .append) (xs := #[.tmp 47, .tmp 50]) rfl ?_); at_builtin; refine Kd.R_append (Kd.int .i64) (w0 := w) w.heap.size rfl (.tmp 47) (.tmp 50) 22 3 (.int .i64 0) 8 rfl Try.underlying22 info3 rfl (by decide) (by omega) u8 x8_2 ((rd_T82 t474 x24_2).f0) [.int .i64 ((rd_T82 t474 x24_2).f0)] (fun _ => True) (fun _ => False) rfl (by first | (go_simp; done) | (go_simp; rfl)) ?aP (fun _ hk => hk.elim) ?aF ?aO ?aB ?aS ?aL ?_; (case aP => exact rfl); (case aB => exact (by repeat (first | (with_reducible first | exact HB.out | apply below_alloc | apply pw_below_drewN | apply below_drew1 | refine below_set ?_ GE478.out) | exact HB.out))); (case aF => exact (fun _ _ => trivial)); (case aO => exact (by (with_reducible repeat (first | apply Kd.R_alloc | apply Kd.R_drewN | apply Kd.R_drew)); exact Kd.R_mono (Kd.R_far (p := ⟨gb478, 1, none⟩) (Kd.R_far (p := ⟨gb478, 0, none⟩) (Kd.R_types HO_8.out BK478.out (by decide)) (fun _ hk => hk.2) (.int .i64 ((rd_T82 t474 x24_2).f0))) (fun _ hk => hk.2) (.int .i64 ((rd_T82 t474 x24_2).f1))) (fun _ hk => trivial))); (case aS => exact (below_size (by repeat (first | (with_reducible first | exact HB.out | apply below_alloc | apply pw_below_drewN | apply below_drew1 | refine below_set ?_ GE478.out) | exact HB.out)))); (case aL => have := LMc27.out; omega); intro v485 w30 ho hb hg hat; rw [← Ny484.out] at ho; have n0_ := Aside0.mk (Kd.R_over' (by (with_reducible repeat (first | apply Kd.R_alloc | apply Kd.R_drewN | apply Kd.R_drew)); exact (Kd.R_mono (Kd.R_far (p := ⟨gb478, 1, none⟩) (Kd.R_far (p := ⟨gb478, 0, none⟩) (Kd.R_mono HO_7.out (fun k_ hk => (⟨hk, hk.2⟩ : _ ∧ k_ ≠ gb478))) (fun _ hk => hk.2) (.int .i64 ((rd_T82 t474 x24_2).f0))) (fun _ hk => hk.2) (.int .i64 ((rd_T82 t474 x24_2).f1))) (fun _ h_ => h_.1))) (Kd.R_typed (by (with_reducible repeat (first | apply Kd.R_alloc | apply Kd.R_drewN | apply Kd.R_drew)); exact (Kd.R_mono (Kd.R_far (p := ⟨gb478, 1, none⟩) (Kd.R_far (p := ⟨gb478, 0, none⟩) (Kd.R_types HO_8.out BK478.out (by decide)) (fun _ hk => hk.2) (.int .i64 ((rd_T82 t474 x24_2).f0))) (fun _ hk => hk.2) (.int .i64 ((rd_T82 t474 x24_2).f1))) (fun _ h_ => h_.1)))) (by decide) hg); have n1_ := Aside0.mk (Kd.R_over' (by (with_reducible repeat (first | apply Kd.R_alloc | apply Kd.R_drewN | apply Kd.R_drew)); exact (Kd.R_mono (Kd.R_far (p := ⟨gb478, 1, none⟩) (Kd.R_far (p := ⟨gb478, 0, none⟩) (Kd.R_mono HO_22.out (fun k_ hk => (⟨hk, hk.2⟩ : _ ∧ k_ ≠ gb478))) (fun _ hk => hk.2) (.int .i64 ((rd_T82 t474 x24_2).f0))) (fun _ hk => hk.2) (.int .i64 ((rd_T82 t474 x24_2).f1))) (fun _ h_ => h_.1))) (Kd.R_typed (by (with_reducible repeat (first | apply Kd.R_alloc | apply Kd.R_drewN | apply Kd.R_drew)); exact (Kd.R_mono (Kd.R_far (p := ⟨gb478, 1, none⟩) (Kd.R_far (p := ⟨gb478, 0, none⟩) (Kd.R_types HO_8.out BK478.out (by decide)) (fun _ hk => hk.2) (.int .i64 ((rd_T82 t474 x24_2).f0))) (fun _ hk => hk.2) (.int .i64 ((rd_T82 t474 x24_2).f1))) (fun _ h_ => h_.1)))) (by decide) hg); have n2_ := Aside0.mk (blk_grown (g := gb478) (o := .cells #[.int .i64 ((rd_T82 t474 x24_2).f0), .int .i64 ((rd_T82 t474 x24_2).f1)] 82 (0, 0)) (by (with_reducible repeat (first | refine blk_drewN ?_ _ | refine blk_drew ?_ | refine blk_alloc ?_ _)); refine blk_put (cs := #[.int .i64 ((rd_T82 t474 x24_2).f0), .int .i64 0]) ?_ 1 _ rfl; (with_reducible repeat (first | refine blk_drewN ?_ _ | refine blk_drew ?_ | refine blk_alloc ?_ _)); refine blk_put (cs := #[.int .i64 0, .int .i64 0]) ?_ 0 _ rfl; (with_reducible repeat (first | refine blk_drewN ?_ _ | refine blk_drew ?_ | refine blk_alloc ?_ _)); exact BK478.out) hg (Kd.R_ne HO_8.out BK478.out (by decide))); have n3_ := Aside0.mk (hb); have n4_ := Aside0.mk (ho); clear HO_7; clear HO_22; clear BK478; clear HB; clear HO_8; have HO_7 := n0_; have HO_22 := n1_; have BK478 := n2_; have HB := n3_; have HO486 := n4_; clear n0_ n1_ n2_ n3_ n4_; clear ho hb hg hat))
           go_roundg k2
           case measure => have := HJ2.out; have := HK2.out; omega
           case rel => exact ⟨(y484), (wrap64 (x24_2 + 1)), (by first | rfl | (simp; done) | (simp [*]; done)), H', ⟨by have := HJ2.out; have := HK2.out; omega⟩, ⟨by (with_reducible repeat (first | apply Kd.R_alloc | apply Kd.R_drewN | apply Kd.R_drew)); exact Kd.R_mono HO_7.out (fun _ hk => trivial)⟩, ⟨by (with_reducible repeat (first | apply Kd.R_alloc | apply Kd.R_drewN | apply Kd.R_drew)); exact HO486.out⟩, ⟨by (with_reducible repeat (first | apply Kd.R_alloc | apply Kd.R_drewN | apply Kd.R_drew)); exact Kd.R_mono HO_22.out (fun _ hk => trivial)⟩, ⟨by repeat (first | (with_reducible first | exact HB.out | apply below_alloc | apply pw_below_drewN | apply below_drew1 | refine below_set ?_ GE478.out) | exact HB.out)⟩⟩
          ·rw [if_neg c27] at H
           exact absurd H (by simp)
        ·rw [if_neg c15] at H
         exact absurd H (by simp)
       ·rw [if_neg c14] at H
        exact absurd H (by simp)
      ·rw [if_neg c13] at H
       have c13b0 : decide (x24_2 < (t474.length : Int)) = false := decide_eq_false c13
       clear c13
       simp only [Option.some.injEq, Prod.mk.injEq] at H
       obtain ⟨rfl, rfl, rfl⟩ := H
       go_wp2
       go_ret3
       exact ⟨_, _, by first | rfl | (simp [errW_none, errW_some] <;> rfl) | (simp [*, errW_none, errW_some] <;> rfl), by (with_reducible repeat (first | apply Kd.R_alloc | apply Kd.R_drewN | apply Kd.R_drew)); exact Kd.R_mono HO_8.out (fun _ hk => (by simp [Value.ownBlock])), by first | exact Kd.R_nil _ _ _ _ _ | exact Kd.N_nil _ _ _ _ _ | exact Kd.V_nil _ _ _ _ _ | exact Kd.Q_nil _ _ _ _ _ | exact Kd.S_nil _ _ _ _ _, by repeat (first | (with_reducible first | exact HB.out | apply below_alloc | apply pw_below_drewN | apply below_drew1) | exact HB.out)⟩

def slices_Index_int_int.l0 : Nat → List Int → Int → Int → Int → Option (Int)
 | 0, _, _, _, _ => none
 | k + 1, x0, x1, x7, x8 => if x8 < x7 then (if 0 ≤ x8 then (if x8 < (x0.length : Int) then (if x1 = (rd x0 x8) then (some x8) else (slices_Index_int_int.l0 k x0 x1 x7 (wrap64 (x8 + 1)))) else (none)) else (none)) else (some (-1))
def slices_Index_int_int.f (k : Nat) (l0 : List Int) (a1 : Int) : Option (Int) := slices_Index_int_int.l0 k l0 a1 (l0.length : Int) 0
set_option maxHeartbeats 8000000 in
set_option maxRecDepth 100000 in
theorem slices_Index_int_int.calls (k : Nat) (A0 : Option Addr) (c0 : Nat) (l0 : List Int) (a1 : Int) (r : Int) (w : World) (hr0 : Kd.C (Kd.int .i64) w A0 l0.length l0) (hc0 : l0.length ≤ c0) (h : slices_Index_int_int.f k l0 a1 = some r) :
  Calls Try.prog 81 #[.slice A0 l0.length c0, .int .i64 a1] w fun e w' => e = .returned (.int .i64 r) ∧ Drawn0 w w' := by
 have HR0 := Aside0.mk hr0
 have HC0 := Aside0.mk hc0
 clear hr0 hc0
 have H : (slices_Index_int_int.l0 k l0 a1 (l0.length : Int) 0) = some r := h
 clear h
 have H' := Aside0.mk H
 clear H
 go_enter Try.func81, Try.ntmps81
 go_wp2
 go_loopg [8] k (fun kq v8 w' => ∃ (x8_1 : Int), v8 = .int .i64 x8_1 ∧ Aside0 (slices_Index_int_int.l0 kq l0 a1 (l0.length : Int) x8_1 = some r) ∧ Aside0 (kq ≤ k) ∧ Drawn0 w w')
 case atStart => exact ⟨(0), (by first | rfl | (simp; done) | (simp [*]; done)), H', ⟨Nat.le_refl _⟩, by repeat (first | exact Drawn0.refl _ | apply Drawn0.step)⟩
 case round =>
  clear H'
  try clear p2
  obtain ⟨x8_1, rfl, HA, HK1, ⟨m1, rfl⟩⟩ := hrel
  cases gk with
  | zero => exact absurd HA.out (by simp [slices_Index_int_int.l0])
  | succ k1 =>
   have H := HA.out
   clear HA
   simp only [slices_Index_int_int.l0] at H
   by_cases c3 : x8_1 < (l0.length : Int)
   ·rw [if_pos c3] at H
    have c3b0 : decide (x8_1 < (l0.length : Int)) = true := decide_eq_true c3
    clear c3
    by_cases c4 : 0 ≤ x8_1
    ·rw [if_pos c4] at H
     have c4b0 : decide (0 ≤ x8_1) = true := decide_eq_true c4
     clear c4
     by_cases c5 : x8_1 < (l0.length : Int)
     ·rw [if_pos c5] at H
      have c5b0 : decide (x8_1 < (l0.length : Int)) = true := decide_eq_true c5
      clear c5
      by_cases c6 : a1 = (rd l0 x8_1)
      ·rw [if_pos c6] at H
       have c6b0 : (a1 == (rd l0 x8_1)) = true := beq_iff_eq.mpr c6
       have c6b1 : (a1 != (rd l0 x8_1)) = false := bne_eq_false_iff_eq.mpr c6
       clear c6
       obtain rfl := Option.some.inj H
       have p520 : 0 ≤ (x8_1 : Int) := of_decide_eq_true (by first | (with_reducible assumption) | assumption)
       have q520 : x8_1 < (l0.length : Int) := of_decide_eq_true (by first | (with_reducible assumption) | assumption)
       obtain ⟨ad520, e520, hx520_0⟩ := Kd.at_int HR0.out x8_1 p520 q520
       cases e520
       replace p520 := eq_true p520
       replace q520 := eq_true q520
       go_wp2
       go_ret
       exact ⟨by first | rfl | (simp; done) | (simp [*]; done), by repeat (first | exact Drawn0.refl _ | apply Drawn0.step)⟩
      ·rw [if_neg c6] at H
       have c6b0 : (a1 == (rd l0 x8_1)) = false := beq_eq_false_iff_ne.mpr c6
       have c6b1 : (a1 != (rd l0 x8_1)) = true := bne_iff_ne.mpr c6
       have H' := Aside0.mk H
       clear H
       have p520 : 0 ≤ (x8_1 : Int) := of_decide_eq_true (by first | (with_reducible assumption) | assumption)
       have q520 : x8_1 < (l0.length : Int) := of_decide_eq_true (by first | (with_reducible assumption) | assumption)
       obtain ⟨ad520, e520, hx520_0⟩ := Kd.at_int HR0.out x8_1 p520 q520
       cases e520
       replace p520 := eq_true p520
       replace q520 := eq_true q520
       go_wp2
       go_roundg k1
       case measure => have := HK1.out; omega
       case rel => exact ⟨(wrap64 (x8_1 + 1)), (by first | rfl | (simp; done) | (simp [*]; done)), H', ⟨by have := HK1.out; omega⟩, by repeat (first | exact Drawn0.refl _ | apply Drawn0.step)⟩
     ·rw [if_neg c5] at H
      exact absurd H (by simp)
    ·rw [if_neg c4] at H
     exact absurd H (by simp)
   ·rw [if_neg c3] at H
    have c3b0 : decide (x8_1 < (l0.length : Int)) = false := decide_eq_false c3
    clear c3
    obtain rfl := Option.some.inj H
    go_wp2
    go_ret
    exact ⟨by first | rfl | (simp; done) | (simp [*]; done), by repeat (first | exact Drawn0.refl _ | apply Drawn0.step)⟩

def slices_Contains_int_int.f (k : Nat) (l0 : List Int) (a1 : Int) : Option (Bool) := (slices_Index_int_int.f k l0 a1).bind fun t521 => (some (decide (t521 ≥ 0)))
set_option maxHeartbeats 8000000 in
set_option maxRecDepth 100000 in
theorem slices_Contains_int_int.calls (k : Nat) (A0 : Option Addr) (c0 : Nat) (l0 : List Int) (a1 : Int) (r : Bool) (w : World) (hr0 : Kd.C (Kd.int .i64) w A0 l0.length l0) (hc0 : l0.length ≤ c0) (h : slices_Contains_int_int.f k l0 a1 = some r) :
  Calls Try.prog 79 #[.slice A0 l0.length c0, .int .i64 a1] w fun e w' => e = .returned (.bool r) ∧ Drawn0 w w' := by
 have HR0 := Aside0.mk hr0
 have HC0 := Aside0.mk hc0
 clear hr0 hc0
 have H : ((slices_Index_int_int.f k l0 a1).bind fun t521 => (some (decide (t521 ≥ 0)))) = some r := h
 clear h
 replace H := Option.bind_eq_some_iff.mp H
 obtain ⟨t521, A30, H⟩ := H
 replace H : (some (decide (t521 ≥ 0))) = some r := H
 have A3 := Aside0.mk A30
 clear A30
 obtain rfl := Option.some.inj H
 go_enter Try.func79, Try.ntmps79
 go_wp2_with (first | ((with_reducible refine gate_callee (f := 81) rfl ?_); refine goesL_ (some 7) rfl rfl Try.func81 (by kernel_rfl) rfl #[.slice A0 l0.length c0, .int .i64 a1] rfl (by (try simp only [List.map_toArray, List.map_cons, List.map_nil]); first | done | rfl | (simp only [List.length_drop, List.length_take]; rfl)) ?_; (with_reducible refine (slices_Index_int_int.calls k _ _ l0 a1 t521 _ ?side1 ?side2 A3.out).mono ?_); (case side1 => repeat (first | exact HR0.out | (with_reducible refine Kd.C_alloc ?_ _) | (with_reducible refine Kd.C_drewN ?_ _) | (with_reducible refine Kd.C_drew ?_))); (case side2 => exact HC0.out); rintro e w' ⟨rfl, ⟨nd, rfl⟩⟩; refine ⟨_, rfl, ?_⟩))
 go_ret
 exact ⟨by first | rfl | (simp; done) | (simp [*]; done), by repeat (first | exact Drawn0.refl _ | apply Drawn0.step)⟩

mutual
def shunt_isCycle.j0 : Nat → List Int → List Int → Bool → Option (Bool)
 | 0, _, _, _ => none
 | k + 1, x0, x1, x18 => if x18 = true then (some false) else (shunt_isCycle.l0 k x0 x1 x1 (x1.length : Int) 0)
def shunt_isCycle.l0 : Nat → List Int → List Int → List Int → Int → Int → Option (Bool)
 | 0, _, _, _, _, _ => none
 | k + 1, x0, x1, x19, x20, x21 => if x21 < x20 then (if 0 ≤ x21 then (if x21 < (x19.length : Int) then ((shunt_within.f (rd x19 x21) 0 (wrap64 ((x0.length : Int) - 1))).bind fun t523 => (if t523 = true then (if x21 ≤ (x1.length : Int) then ((slices_Contains_int_int.f k (x1.take (x21 : Int).toNat) (rd x19 x21)).bind fun t525 => (if t525 = true then (some false) else (shunt_isCycle.l0 k x0 x1 x19 x20 (wrap64 (x21 + 1))))) else (none)) else (some false))) else (none)) else (none)) else (shunt_isCycle.l1 k x0 x1 x1 (x1.length : Int) 0)
def shunt_isCycle.l1 : Nat → List Int → List Int → List Int → Int → Int → Option (Bool)
 | 0, _, _, _, _, _ => none
 | k + 1, x0, x1, x40, x41, x42 => if x42 < x41 then (if 0 ≤ x42 then (if x42 < (x40.length : Int) then (if (x1.length : Int) = 0 then (none) else (if 0 ≤ (Int.tmod (wrap64 (x42 + 1)) (x1.length : Int)) then (if (Int.tmod (wrap64 (x42 + 1)) (x1.length : Int)) < (x1.length : Int) then ((shunt_blocking.f k x0 (mn (rd x40 x42) (rd x1 (Int.tmod (wrap64 (x42 + 1)) (x1.length : Int)))) (mx (rd x40 x42) (rd x1 (Int.tmod (wrap64 (x42 + 1)) (x1.length : Int))))).bind fun t528 => (if t528 = 0 then (some false) else (shunt_isCycle.l1 k x0 x1 x40 x41 (wrap64 (x42 + 1))))) else (none)) else (none))) else (none)) else (none)) else (some true)
end
def shunt_isCycle.f (k : Nat) (l0 : List Int) (l1 : List Int) : Option (Bool) := if ((l1.length : Int) % 2) = 0 then (shunt_isCycle.j0 k l0 l1 true) else (shunt_isCycle.j0 k l0 l1 (decide ((l1.length : Int) < 3)))
set_option maxHeartbeats 8000000 in
set_option maxRecDepth 100000 in
theorem shunt_isCycle.calls (k : Nat) (A0 : Option Addr) (c0 : Nat) (l0 : List Int) (A1 : Option Addr) (c1 : Nat) (l1 : List Int) (r : Bool) (w : World) (hr0 : Kd.C (Kd.int .i64) w A0 l0.length l0) (hc0 : l0.length ≤ c0) (hr1 : Kd.C (Kd.int .i64) w A1 l1.length l1) (hc1 : l1.length ≤ c1) (h : shunt_isCycle.f k l0 l1 = some r) :
  Calls Try.prog 69 #[.slice A0 l0.length c0, .slice A1 l1.length c1] w fun e w' => e = .returned (.bool r) ∧ Below w.heap.size w w' := by
 have HR0 := Aside0.mk hr0
 have HC0 := Aside0.mk hc0
 clear hr0 hc0
 have HR1 := Aside0.mk hr1
 have HC1 := Aside0.mk hc1
 clear hr1 hc1
 have HB := Aside0.mk (Below.refl w.heap.size w)
 have H : (if ((l1.length : Int) % 2) = 0 then (shunt_isCycle.j0 k l0 l1 true) else (shunt_isCycle.j0 k l0 l1 (decide ((l1.length : Int) < 3)))) = some r := h
 clear h
 have HC3 := Aside0.mk H
 clear H
 go_enter Try.func69, Try.ntmps69
 go_upto_region 1 with (fail)
 go_cut [18] (fun v18 wc => ∃ (kq : Nat) (x18_2 : Bool), v18 = .bool x18_2 ∧ Aside0 (shunt_isCycle.j0 kq l0 l1 x18_2 = some r) ∧ Aside0 (kq ≤ k) ∧ Aside0 (Below w.heap.size w wc))
 case first =>
  have H := HC3.out
  clear HC3
  by_cases c4 : ((l1.length : Int) % 2) = 0
  ·rw [if_pos c4] at H
   have c4b0 : (((l1.length : Int) % 2) == 0) = true := beq_iff_eq.mpr c4
   have c4b1 : (((l1.length : Int) % 2) != 0) = false := bne_eq_false_iff_eq.mpr c4
   clear c4
   (first | rw [c4b0] | (simp only [i64_w, i32_w]; rw [c4b0]) | skip)
   have H' := Aside0.mk H
   clear H
   go_wp2
   go_meet
   case rel => exact ⟨_, (true), (by first | rfl | (simp; done) | (simp [*]; done)), H', ⟨by first | omega | exact Nat.le_refl _⟩, ⟨by repeat (first | (with_reducible first | exact HB.out | apply below_alloc | apply pw_below_drewN | apply below_drew1) | exact HB.out)⟩⟩
  ·rw [if_neg c4] at H
   have c4b0 : (((l1.length : Int) % 2) == 0) = false := beq_eq_false_iff_ne.mpr c4
   have c4b1 : (((l1.length : Int) % 2) != 0) = true := bne_iff_ne.mpr c4
   (first | rw [c4b0] | (simp only [i64_w, i32_w]; rw [c4b0]) | skip)
   have H' := Aside0.mk H
   clear H
   go_wp2
   go_meet
   case rel => exact ⟨_, (decide ((l1.length : Int) < 3)), (by first | rfl | (simp; done) | (simp [*]; done)), H', ⟨by first | omega | exact Nat.le_refl _⟩, ⟨by repeat (first | (with_reducible first | exact HB.out | apply below_alloc | apply pw_below_drewN | apply below_drew1) | exact HB.out)⟩⟩
 case rest =>
  clear HC3
  try clear c1
  try clear p2
  try clear c4
  try clear c4b0
  try clear c4b1
  obtain ⟨kq, x18_2, rfl, HA, HJ2, HB⟩ := hcut
  cases kq with
  | zero => exact absurd HA.out (by simp [shunt_isCycle.j0])
  | succ kj2 =>
   have H := HA.out
   clear HA
   simp only [shunt_isCycle.j0] at H
   by_cases c5 : x18_2 = true
   ·subst c5
    have H1 : (some false) = some r := by rw [if_pos rfl] at H; exact H
    clear H
    have H := H1
    clear H1
    obtain rfl := Option.some.inj H
    go_wp2
    go_ret
    exact ⟨by first | rfl | (simp [errW_none, errW_some] <;> rfl) | (simp [*, errW_none, errW_some] <;> rfl), by repeat (first | (with_reducible first | exact HB.out | apply below_alloc | apply pw_below_drewN | apply below_drew1) | exact HB.out)⟩
   ·replace c5 := Bool.eq_false_iff.mpr c5
    subst c5
    have H1 : (shunt_isCycle.l0 kj2 l0 l1 l1 (l1.length : Int) 0) = some r := by rw [if_neg (show ¬ (false = true) by decide)] at H; exact H
    clear H
    have H := H1
    clear H1
    have H' := Aside0.mk H
    clear H
    go_wp2
    go_loopg [21] kj2 (fun kq v21 w' => ∃ (x21_2 : Int), v21 = .int .i64 x21_2 ∧ Aside0 (shunt_isCycle.l0 kq l0 l1 l1 (l1.length : Int) x21_2 = some r) ∧ Aside0 (kq ≤ kj2) ∧ Aside0 (Below w.heap.size w w'))
    case atStart => exact ⟨(0), (by first | rfl | (simp; done) | (simp [*]; done)), H', ⟨Nat.le_refl _⟩, ⟨by repeat (first | (with_reducible first | exact HB.out | apply below_alloc | apply pw_below_drewN | apply below_drew1) | exact HB.out)⟩⟩
    case round =>
     clear H'
     try clear c1
     try clear p2
     try clear c4
     try clear c4b0
     try clear c4b1
     try clear c5
     try clear p2
     obtain ⟨x21_2, rfl, HA, HK2, HB⟩ := hrel
     cases gk with
     | zero => exact absurd HA.out (by simp [shunt_isCycle.l0])
     | succ k2 =>
      have H := HA.out
      clear HA
      simp only [shunt_isCycle.l0] at H
      by_cases c6 : x21_2 < (l1.length : Int)
      ·rw [if_pos c6] at H
       have c6b0 : decide (x21_2 < (l1.length : Int)) = true := decide_eq_true c6
       clear c6
       by_cases c7 : 0 ≤ x21_2
       ·rw [if_pos c7] at H
        have c7b0 : decide (0 ≤ x21_2) = true := decide_eq_true c7
        clear c7
        by_cases c8 : x21_2 < (l1.length : Int)
        ·rw [if_pos c8] at H
         have c8b0 : decide (x21_2 < (l1.length : Int)) = true := decide_eq_true c8
         clear c8
         replace H := Option.bind_eq_some_iff.mp H
         obtain ⟨t523, A90, H⟩ := H
         replace H : (if t523 = true then (if x21_2 ≤ (l1.length : Int) then ((slices_Contains_int_int.f k2 (l1.take (x21_2 : Int).toNat) (rd l1 x21_2)).bind fun t525 => (if t525 = true then (some false) else (shunt_isCycle.l0 k2 l0 l1 l1 (l1.length : Int) (wrap64 (x21_2 + 1))))) else (none)) else (some false)) = some r := H
         have A9 := Aside0.mk A90
         clear A90
         by_cases c10 : t523 = true
         ·subst c10
          have H1 : (if x21_2 ≤ (l1.length : Int) then ((slices_Contains_int_int.f k2 (l1.take (x21_2 : Int).toNat) (rd l1 x21_2)).bind fun t525 => (if t525 = true then (some false) else (shunt_isCycle.l0 k2 l0 l1 l1 (l1.length : Int) (wrap64 (x21_2 + 1))))) else (none)) = some r := by rw [if_pos rfl] at H; exact H
          clear H
          have H := H1
          clear H1
          have c11b0 := eq_true (of_decide_eq_true (by first | (with_reducible assumption) | assumption) : 0 ≤ x21_2)
          by_cases c12 : x21_2 ≤ (l1.length : Int)
          ·rw [if_pos c12] at H
           have c12b0 := eq_true c12
           have c12b1 : decide (x21_2 ≤ (l1.length : Int)) = true := decide_eq_true c12
           clear c12
           replace H := Option.bind_eq_some_iff.mp H
           obtain ⟨t525, A130, H⟩ := H
           replace H : (if t525 = true then (some false) else (shunt_isCycle.l0 k2 l0 l1 l1 (l1.length : Int) (wrap64 (x21_2 + 1)))) = some r := H
           have A13 := Aside0.mk A130
           clear A130
           by_cases c14 : t525 = true
           ·subst c14
            have H1 : (some false) = some r := by rw [if_pos rfl] at H; exact H
            clear H
            have H := H1
            clear H1
            obtain rfl := Option.some.inj H
            have p522 : 0 ≤ (x21_2 : Int) := of_decide_eq_true (by first | (with_reducible assumption) | assumption)
            have q522 : x21_2 < (l1.length : Int) := of_decide_eq_true (by first | (with_reducible assumption) | assumption)
            obtain ⟨ad522, e522, hx522_0⟩ := Kd.at_int HR1.out x21_2 p522 q522
            cases e522
            replace hx522_0 := (HB.out.cell (World.block_lt_of_cell? w _ hx522_0)).trans hx522_0
            replace p522 := eq_true p522
            replace q522 := eq_true q522
            obtain ⟨i015, hi015, _, hsz15, _⟩ := info_parts info3
            obtain ⟨hcut15, hA15, hC15⟩ := print_take_of (P := Try.prog) (Value.int .i64) 0 22 3 .i64 Try.underlying22 hi015 hsz15 (some ad522) c1 l1 x21_2 (of_decide_eq_true (by first | (with_reducible assumption) | assumption)) (of_decide_eq_true (by first | (with_reducible assumption) | assumption)) HC1.out
            have HR524 := Aside0.mk (Kd.C_of_reads (h1 := fun _ => rfl) (hA15 _ (Kd.reads_of_C HR1.out)))
            have HC524 := Aside0.mk hC15
            clear hA15 hC15 hi015 hsz15
            obtain ⟨tk15, htk15⟩ : ∃ tk_ : List Int, (l1.take (x21_2 : Int).toNat) = tk_ := ⟨_, rfl⟩
            simp only [htk15] at *
            have Htk15 := Aside0.mk htk15
            clear htk15
            go_wp2_with (first | ((with_reducible refine gate_callee (f := 64) rfl ?_); refine goesL_ (some 30) rfl rfl Try.func64 (by kernel_rfl) rfl #[.int .i64 (rd l1 x21_2), .int .i64 0, .int .i64 (wrap64 ((l0.length : Int) - 1))] rfl (by (try simp only [List.map_toArray, List.map_cons, List.map_nil]); first | done | rfl | (simp only [List.length_drop, List.length_take]; rfl)) ?_; (with_reducible refine (shunt_within.calls (rd l1 x21_2) 0 (wrap64 ((l0.length : Int) - 1)) true _ A9.out).mono ?_); rintro e w' ⟨rfl, ⟨nd, rfl⟩⟩; refine ⟨_, rfl, ?_⟩) | (go_at_call 79; (with_reducible refine (slices_Contains_int_int.calls k2 _ _ tk15 (rd l1 x21_2) true _ ?side1 ?side2 A13.out).mono ?_); (case side1 => repeat (first | exact (Kd.C_below HR524.out (by repeat (first | (with_reducible first | exact HB.out | apply below_alloc | apply pw_below_drewN | apply below_drew1) | exact HB.out))) | (with_reducible refine Kd.C_alloc ?_ _) | (with_reducible refine Kd.C_drewN ?_ _) | (with_reducible refine Kd.C_drew ?_))); (case side2 => exact HC524.out); rintro e w' ⟨rfl, ⟨nd, rfl⟩⟩))
            go_ret
            exact ⟨by first | rfl | (simp [errW_none, errW_some] <;> rfl) | (simp [*, errW_none, errW_some] <;> rfl), by repeat (first | (with_reducible first | exact HB.out | apply below_alloc | apply pw_below_drewN | apply below_drew1) | exact HB.out)⟩
           ·replace c14 := Bool.eq_false_iff.mpr c14
            subst c14
            have H1 : (shunt_isCycle.l0 k2 l0 l1 l1 (l1.length : Int) (wrap64 (x21_2 + 1))) = some r := by rw [if_neg (show ¬ (false = true) by decide)] at H; exact H
            clear H
            have H := H1
            clear H1
            have H' := Aside0.mk H
            clear H
            have p522 : 0 ≤ (x21_2 : Int) := of_decide_eq_true (by first | (with_reducible assumption) | assumption)
            have q522 : x21_2 < (l1.length : Int) := of_decide_eq_true (by first | (with_reducible assumption) | assumption)
            obtain ⟨ad522, e522, hx522_0⟩ := Kd.at_int HR1.out x21_2 p522 q522
            cases e522
            replace hx522_0 := (HB.out.cell (World.block_lt_of_cell? w _ hx522_0)).trans hx522_0
            replace p522 := eq_true p522
            replace q522 := eq_true q522
            obtain ⟨i016, hi016, _, hsz16, _⟩ := info_parts info3
            obtain ⟨hcut16, hA16, hC16⟩ := print_take_of (P := Try.prog) (Value.int .i64) 0 22 3 .i64 Try.underlying22 hi016 hsz16 (some ad522) c1 l1 x21_2 (of_decide_eq_true (by first | (with_reducible assumption) | assumption)) (of_decide_eq_true (by first | (with_reducible assumption) | assumption)) HC1.out
            have HR524 := Aside0.mk (Kd.C_of_reads (h1 := fun _ => rfl) (hA16 _ (Kd.reads_of_C HR1.out)))
            have HC524 := Aside0.mk hC16
            clear hA16 hC16 hi016 hsz16
            obtain ⟨tk16, htk16⟩ : ∃ tk_ : List Int, (l1.take (x21_2 : Int).toNat) = tk_ := ⟨_, rfl⟩
            simp only [htk16] at *
            have Htk16 := Aside0.mk htk16
            clear htk16
            go_wp2_with (first | ((with_reducible refine gate_callee (f := 64) rfl ?_); refine goesL_ (some 30) rfl rfl Try.func64 (by kernel_rfl) rfl #[.int .i64 (rd l1 x21_2), .int .i64 0, .int .i64 (wrap64 ((l0.length : Int) - 1))] rfl (by (try simp only [List.map_toArray, List.map_cons, List.map_nil]); first | done | rfl | (simp only [List.length_drop, List.length_take]; rfl)) ?_; (with_reducible refine (shunt_within.calls (rd l1 x21_2) 0 (wrap64 ((l0.length : Int) - 1)) true _ A9.out).mono ?_); rintro e w' ⟨rfl, ⟨nd, rfl⟩⟩; refine ⟨_, rfl, ?_⟩) | (go_at_call 79; (with_reducible refine (slices_Contains_int_int.calls k2 _ _ tk16 (rd l1 x21_2) false _ ?side1 ?side2 A13.out).mono ?_); (case side1 => repeat (first | exact (Kd.C_below HR524.out (by repeat (first | (with_reducible first | exact HB.out | apply below_alloc | apply pw_below_drewN | apply below_drew1) | exact HB.out))) | (with_reducible refine Kd.C_alloc ?_ _) | (with_reducible refine Kd.C_drewN ?_ _) | (with_reducible refine Kd.C_drew ?_))); (case side2 => exact HC524.out); rintro e w' ⟨rfl, ⟨nd, rfl⟩⟩))
            go_roundg k2
            case measure => have := HJ2.out; have := HK2.out; omega
            case rel => exact ⟨(wrap64 (x21_2 + 1)), (by first | rfl | (simp; done) | (simp [*]; done)), H', ⟨by have := HJ2.out; have := HK2.out; omega⟩, ⟨by repeat (first | (with_reducible first | exact HB.out | apply below_alloc | apply pw_below_drewN | apply below_drew1) | exact HB.out)⟩⟩
          ·rw [if_neg c12] at H
           exact absurd H (by simp)
         ·replace c10 := Bool.eq_false_iff.mpr c10
          subst c10
          have H1 : (some false) = some r := by rw [if_neg (show ¬ (false = true) by decide)] at H; exact H
          clear H
          have H := H1
          clear H1
          obtain rfl := Option.some.inj H
          have p522 : 0 ≤ (x21_2 : Int) := of_decide_eq_true (by first | (with_reducible assumption) | assumption)
          have q522 : x21_2 < (l1.length : Int) := of_decide_eq_true (by first | (with_reducible assumption) | assumption)
          obtain ⟨ad522, e522, hx522_0⟩ := Kd.at_int HR1.out x21_2 p522 q522
          cases e522
          replace hx522_0 := (HB.out.cell (World.block_lt_of_cell? w _ hx522_0)).trans hx522_0
          replace p522 := eq_true p522
          replace q522 := eq_true q522
          go_wp2_with (first | ((with_reducible refine gate_callee (f := 64) rfl ?_); refine goesL_ (some 30) rfl rfl Try.func64 (by kernel_rfl) rfl #[.int .i64 (rd l1 x21_2), .int .i64 0, .int .i64 (wrap64 ((l0.length : Int) - 1))] rfl (by (try simp only [List.map_toArray, List.map_cons, List.map_nil]); first | done | rfl | (simp only [List.length_drop, List.length_take]; rfl)) ?_; (with_reducible refine (shunt_within.calls (rd l1 x21_2) 0 (wrap64 ((l0.length : Int) - 1)) false _ A9.out).mono ?_); rintro e w' ⟨rfl, ⟨nd, rfl⟩⟩; refine ⟨_, rfl, ?_⟩))
          go_ret
          exact ⟨by first | rfl | (simp [errW_none, errW_some] <;> rfl) | (simp [*, errW_none, errW_some] <;> rfl), by repeat (first | (with_reducible first | exact HB.out | apply below_alloc | apply pw_below_drewN | apply below_drew1) | exact HB.out)⟩
        ·rw [if_neg c8] at H
         exact absurd H (by simp)
       ·rw [if_neg c7] at H
        exact absurd H (by simp)
      ·rw [if_neg c6] at H
       have c6b0 : decide (x21_2 < (l1.length : Int)) = false := decide_eq_false c6
       clear c6
       have H' := Aside0.mk H
       clear H
       go_wp2
       go_loopg [42] k2 (fun kq v42 w' => ∃ (x42_3 : Int), v42 = .int .i64 x42_3 ∧ Aside0 (shunt_isCycle.l1 kq l0 l1 l1 (l1.length : Int) x42_3 = some r) ∧ Aside0 (kq ≤ k2) ∧ Aside0 (Below w.heap.size w w'))
       case atStart => exact ⟨(0), (by first | rfl | (simp; done) | (simp [*]; done)), H', ⟨Nat.le_refl _⟩, ⟨by repeat (first | (with_reducible first | exact HB.out | apply below_alloc | apply pw_below_drewN | apply below_drew1) | exact HB.out)⟩⟩
       case round =>
        clear H'
        try clear c1
        try clear p2
        try clear c4
        try clear c4b0
        try clear c4b1
        try clear c5
        try clear p5
        try clear q5
        try clear hx5
        try clear c6
        try clear c6b0
        try clear p6
        try clear c7
        try clear c7b0
        try clear c8
        try clear c8b0
        try clear c10
        try clear c11
        try clear c11b0
        try clear c12
        try clear c12b0
        try clear c12b1
        try clear c14
        try clear hx522_0
        try clear p2
        try clear p522
        try clear q522
        obtain ⟨x42_3, rfl, HA, HK3, HB⟩ := hrel
        cases gk with
        | zero => exact absurd HA.out (by simp [shunt_isCycle.l1])
        | succ k3 =>
         have H := HA.out
         clear HA
         simp only [shunt_isCycle.l1] at H
         by_cases c17 : x42_3 < (l1.length : Int)
         ·rw [if_pos c17] at H
          have c17b0 : decide (x42_3 < (l1.length : Int)) = true := decide_eq_true c17
          clear c17
          by_cases c18 : 0 ≤ x42_3
          ·rw [if_pos c18] at H
           have c18b0 : decide (0 ≤ x42_3) = true := decide_eq_true c18
           clear c18
           by_cases c19 : x42_3 < (l1.length : Int)
           ·rw [if_pos c19] at H
            have c19b0 : decide (x42_3 < (l1.length : Int)) = true := decide_eq_true c19
            clear c19
            by_cases c20 : (l1.length : Int) = 0
            ·rw [if_pos c20] at H
             exact absurd H (by simp)
            ·rw [if_neg c20] at H
             have c20b0 : ((l1.length : Int) == 0) = false := beq_eq_false_iff_ne.mpr c20
             have c20b1 : ((l1.length : Int) != 0) = true := bne_iff_ne.mpr c20
             have c20b2 : ¬ (l1 = []) := fun h_ => c20 (by rw [h_]; rfl)
             obtain ⟨ji21, hji21⟩ : ∃ j_ : Int, (Int.tmod (wrap64 (x42_3 + 1)) (l1.length : Int)) = j_ := ⟨_, rfl⟩
             replace H : (if 0 ≤ (ji21) then (if (ji21) < (l1.length : Int) then ((shunt_blocking.f k3 l0 (mn (rd l1 x42_3) (rd l1 (ji21))) (mx (rd l1 x42_3) (rd l1 (ji21)))).bind fun t528 => (if t528 = 0 then (some false) else (shunt_isCycle.l1 k3 l0 l1 l1 (l1.length : Int) (wrap64 (x42_3 + 1))))) else (none)) else (none)) = some r := by first | (rw [hji21] at H; exact H) | (simp only [hji21] at H ⊢; exact H)
             by_cases c22 : 0 ≤ (ji21)
             ·rw [if_pos c22] at H
              have c22b0 : decide (0 ≤ (ji21)) = true := decide_eq_true c22
              clear c22
              by_cases c23 : (ji21) < (l1.length : Int)
              ·rw [if_pos c23] at H
               have c23b0 : decide ((ji21) < (l1.length : Int)) = true := decide_eq_true c23
               clear c23
               obtain ⟨ji24, hji24⟩ : ∃ j_ : Int, (mn (rd l1 x42_3) (rd l1 (ji21))) = j_ := ⟨_, rfl⟩
               replace H : ((shunt_blocking.f k3 l0 (ji24) (mx (rd l1 x42_3) (rd l1 (ji21)))).bind fun t528 => (if t528 = 0 then (some false) else (shunt_isCycle.l1 k3 l0 l1 l1 (l1.length : Int) (wrap64 (x42_3 + 1))))) = some r := by first | (rw [hji24] at H; exact H) | (simp only [hji24] at H ⊢; exact H)
               have hji24_ : (if (rd l1 (ji21)) < (rd l1 x42_3) then (rd l1 (ji21)) else (rd l1 x42_3)) = ji24 := hji24
               obtain ⟨ji25, hji25⟩ : ∃ j_ : Int, (mx (rd l1 x42_3) (rd l1 (ji21))) = j_ := ⟨_, rfl⟩
               replace H : ((shunt_blocking.f k3 l0 (ji24) (ji25)).bind fun t528 => (if t528 = 0 then (some false) else (shunt_isCycle.l1 k3 l0 l1 l1 (l1.length : Int) (wrap64 (x42_3 + 1))))) = some r := by first | (rw [hji25] at H; exact H) | (simp only [hji25] at H ⊢; exact H)
               have hji25_ : (if (rd l1 x42_3) < (rd l1 (ji21)) then (rd l1 (ji21)) else (rd l1 x42_3)) = ji25 := hji25
               replace H := Option.bind_eq_some_iff.mp H
               obtain ⟨t528, A260, H⟩ := H
               replace H : (if t528 = 0 then (some false) else (shunt_isCycle.l1 k3 l0 l1 l1 (l1.length : Int) (wrap64 (x42_3 + 1)))) = some r := H
               have A26 := Aside0.mk A260
               clear A260
               by_cases c27 : t528 = 0
               ·rw [if_pos c27] at H
                have c27b0 : (t528 == 0) = true := beq_iff_eq.mpr c27
                have c27b1 : (t528 != 0) = false := bne_eq_false_iff_eq.mpr c27
                clear c27
                obtain rfl := Option.some.inj H
                have p526 : 0 ≤ (x42_3 : Int) := of_decide_eq_true (by first | (with_reducible assumption) | assumption)
                have q526 : x42_3 < (l1.length : Int) := of_decide_eq_true (by first | (with_reducible assumption) | assumption)
                obtain ⟨ad526, e526, hx526_0⟩ := Kd.at_int HR1.out x42_3 p526 q526
                cases e526
                replace hx526_0 := (HB.out.cell (World.block_lt_of_cell? w _ hx526_0)).trans hx526_0
                replace p526 := eq_true p526
                replace q526 := eq_true q526
                have p527 : 0 ≤ ((ji21) : Int) := of_decide_eq_true (by first | (with_reducible assumption) | assumption)
                have q527 : (ji21) < (l1.length : Int) := of_decide_eq_true (by first | (with_reducible assumption) | assumption)
                obtain ⟨ad527, e527, hx527_0⟩ := Kd.at_int HR1.out (ji21) p527 q527
                obtain rfl : ad526 = ad527 := (by injection e527)
                replace hx527_0 := (HB.out.cell (World.block_lt_of_cell? w _ hx527_0)).trans hx527_0
                replace p527 := eq_true p527
                replace q527 := eq_true q527
                go_wp2_with (first | ((with_reducible refine gate_callee (f := 72) rfl ?_); refine goesL_ (some 62) rfl rfl Try.func72 (by kernel_rfl) rfl #[.slice A0 l0.length c0, .int .i64 ji24, .int .i64 ji25] rfl (by (try simp only [List.map_toArray, List.map_cons, List.map_nil]); first | done | (simp only [hji24, hji25]; rfl) | rfl | (simp only [List.length_drop, List.length_take]; rfl)) ?_; (with_reducible refine (shunt_blocking.calls k3 _ _ l0 ji24 ji25 t528 _ ?side1 ?side2 A26.out).mono ?_); (case side1 => repeat (first | exact (Kd.C_below HR0.out HB.out) | (with_reducible refine Kd.C_alloc ?_ _) | (with_reducible refine Kd.C_drewN ?_ _) | (with_reducible refine Kd.C_drew ?_))); (case side2 => exact HC0.out); rintro e w' ⟨rfl, ⟨nd, rfl⟩⟩; refine ⟨_, rfl, ?_⟩))
                go_ret
                exact ⟨by first | rfl | (simp [errW_none, errW_some] <;> rfl) | (simp only [← hji21, ← hji24, ← hji25]; first | rfl | (simp [errW_none, errW_some] <;> rfl)) | (simp [*, errW_none, errW_some] <;> rfl), by repeat (first | (with_reducible first | exact HB.out | apply below_alloc | apply pw_below_drewN | apply below_drew1) | exact HB.out)⟩
               ·rw [if_neg c27] at H
                have c27b0 : (t528 == 0) = false := beq_eq_false_iff_ne.mpr c27
                have c27b1 : (t528 != 0) = true := bne_iff_ne.mpr c27
                have H' := Aside0.mk H
                clear H
                have p526 : 0 ≤ (x42_3 : Int) := of_decide_eq_true (by first | (with_reducible assumption) | assumption)
                have q526 : x42_3 < (l1.length : Int) := of_decide_eq_true (by first | (with_reducible assumption) | assumption)
                obtain ⟨ad526, e526, hx526_0⟩ := Kd.at_int HR1.out x42_3 p526 q526
                cases e526
                replace hx526_0 := (HB.out.cell (World.block_lt_of_cell? w _ hx526_0)).trans hx526_0
                replace p526 := eq_true p526
                replace q526 := eq_true q526
                have p527 : 0 ≤ ((ji21) : Int) := of_decide_eq_true (by first | (with_reducible assumption) | assumption)
                have q527 : (ji21) < (l1.length : Int) := of_decide_eq_true (by first | (with_reducible assumption) | assumption)
                obtain ⟨ad527, e527, hx527_0⟩ := Kd.at_int HR1.out (ji21) p527 q527
                obtain rfl : ad526 = ad527 := (by injection e527)
                replace hx527_0 := (HB.out.cell (World.block_lt_of_cell? w _ hx527_0)).trans hx527_0
                replace p527 := eq_true p527
                replace q527 := eq_true q527
                go_wp2_with (first | ((with_reducible refine gate_callee (f := 72) rfl ?_); refine goesL_ (some 62) rfl rfl Try.func72 (by kernel_rfl) rfl #[.slice A0 l0.length c0, .int .i64 ji24, .int .i64 ji25] rfl (by (try simp only [List.map_toArray, List.map_cons, List.map_nil]); first | done | (simp only [hji24, hji25]; rfl) | rfl | (simp only [List.length_drop, List.length_take]; rfl)) ?_; (with_reducible refine (shunt_blocking.calls k3 _ _ l0 ji24 ji25 t528 _ ?side1 ?side2 A26.out).mono ?_); (case side1 => repeat (first | exact (Kd.C_below HR0.out HB.out) | (with_reducible refine Kd.C_alloc ?_ _) | (with_reducible refine Kd.C_drewN ?_ _) | (with_reducible refine Kd.C_drew ?_))); (case side2 => exact HC0.out); rintro e w' ⟨rfl, ⟨nd, rfl⟩⟩; refine ⟨_, rfl, ?_⟩))
                go_roundg k3
                case measure => have := HJ2.out; have := HK2.out; have := HK3.out; omega
                case rel => exact ⟨(wrap64 (x42_3 + 1)), (by first | rfl | (simp; done) | (simp [*]; done)), H', ⟨by have := HJ2.out; have := HK2.out; have := HK3.out; omega⟩, ⟨by repeat (first | (with_reducible first | exact HB.out | apply below_alloc | apply pw_below_drewN | apply below_drew1) | exact HB.out)⟩⟩
              ·rw [if_neg c23] at H
               exact absurd H (by simp)
             ·rw [if_neg c22] at H
              exact absurd H (by simp)
           ·rw [if_neg c19] at H
            exact absurd H (by simp)
          ·rw [if_neg c18] at H
           exact absurd H (by simp)
         ·rw [if_neg c17] at H
          have c17b0 : decide (x42_3 < (l1.length : Int)) = false := decide_eq_false c17
          clear c17
          obtain rfl := Option.some.inj H
          go_wp2
          go_ret
          exact ⟨by first | rfl | (simp [errW_none, errW_some] <;> rfl) | (simp [*, errW_none, errW_some] <;> rfl), by repeat (first | (with_reducible first | exact HB.out | apply below_alloc | apply pw_below_drewN | apply below_drew1) | exact HB.out)⟩

def badSide (s : Int) : Bool := !decide (0 ≤ s ∧ s ≤ 1)
def slices_ContainsFunc_int_int.f (l0 : List Int) : Option Bool := some (l0.any badSide)
set_option maxHeartbeats 800000 in
theorem sides_fn.calls (s : Int) (w : World) : Calls Try.prog 71 #[.int .i64 s] w fun e w' => e = .returned (.bool (badSide s)) ∧ Drawn0 w w' := by
 by_cases c : 0 ≤ s ∧ s ≤ 1
 ·have e : badSide s = false := by unfold badSide; rw [decide_eq_true c]; rfl
  have HV := Aside0.mk (fun (W : World) => shunt_within.calls s 0 1 true W (by unfold shunt_within.f; rw [if_pos c.1, decide_eq_true c.2]))
  rw [e]
  clear c e
  go_enter Try.func71, Try.ntmps71
  go_wp2_with (go_at_call 64; go_must ((with_reducible refine (HV.out _).mono ?_); rintro e w1 ⟨rfl, ⟨nd, rfl⟩⟩))
  go_ret
  exact ⟨rfl, by repeat (first | exact Drawn0.refl _ | apply Drawn0.step)⟩
 ·have e : badSide s = true := by unfold badSide; rw [decide_eq_false c]; rfl
  have hf : shunt_within.f s 0 1 = some false := by
   unfold shunt_within.f
   by_cases c1 : s ≥ 0
   ·rw [if_pos c1, decide_eq_false (fun h => c ⟨c1, h⟩)]
   ·rw [if_neg c1]
  have HV := Aside0.mk (fun (W : World) => shunt_within.calls s 0 1 false W hf)
  rw [e]
  clear c e hf
  go_enter Try.func71, Try.ntmps71
  go_wp2_with (go_at_call 64; go_must ((with_reducible refine (HV.out _).mono ?_); rintro e w1 ⟨rfl, ⟨nd, rfl⟩⟩))
  go_ret
  exact ⟨rfl, by repeat (first | exact Drawn0.refl _ | apply Drawn0.step)⟩
set_option maxHeartbeats 800000 in
theorem sides_index.calls (l : List Int) (A : Option Addr) (c1 : Nat) (w : World) (hr1 : Kd.C (Kd.int .i64) w A l.length l) :
  Calls Try.prog 77 #[.slice A l.length c1, .func (.func 71) #[] #[]] w fun e w' => ∃ r : Int, e = .returned (.int .i64 r) ∧ Drawn0 w w' ∧ Aside0 ((0 ≤ r) = (l.any badSide = true)) := by
 have hm : (l.length : Int) ≤ 9223372036854775807 := by have := hr1.2.1; omega
 have HR1 := Aside0.mk hr1
 clear hr1
 go_enter Try.func77, Try.ntmps77
 go_wp2
 go_loopw [8] (fun v8 wr => ∃ i : Int, v8 = .int .i64 i ∧ Aside0 (0 ≤ i ∧ i ≤ l.length) ∧ Aside0 ((l.take i.toNat).any badSide = false) ∧ Drawn0 w wr) (fun v8 _ => l.length - (intOf v8).toNat)
 case atStart => exact ⟨0, rfl, ⟨by simp⟩, ⟨rfl⟩, by repeat (first | exact Drawn0.refl _ | apply Drawn0.step)⟩
 case round =>
  obtain ⟨i, rfl, HI, HN, ⟨nd, rfl⟩⟩ := hrel
  obtain ⟨p0, p1⟩ := HI.out
  by_cases c2 : i < (l.length : Int)
  ·have c2b0 : decide (i < (l.length : Int)) = true := decide_eq_true c2
   obtain ⟨ad, ea, hx⟩ := Kd.at_int HR1.out i p0 c2
   cases ea
   have hlt : i.toNat < l.length := by omega
   have hrd : rd l i = l[i.toNat] := by
    unfold rd
    rw [List.getD_eq_getElem?_getD, List.getElem?_eq_getElem hlt, Option.getD_some]
   have htk : l.take (i + 1).toNat = l.take i.toNat ++ [rd l i] := by
    rw [show (i + 1).toNat = i.toNat + 1 by omega, List.take_succ_eq_append_getElem hlt, hrd]
   have HC := Aside0.mk (fun W => sides_fn.calls (rd l i) W)
   have q0 := eq_true p0
   have q1 := eq_true c2
   cases c3 : badSide (rd l i) with
   | true =>
    rw [c3] at HC
    have HF := Aside0.mk (show (0 ≤ i) = (l.any badSide = true) from propext ⟨fun _ => List.any_eq_true.2 ⟨_, by rw [hrd]; exact List.getElem_mem hlt, c3⟩, fun _ => p0⟩)
    clear hrd htk c2 c3 hlt p1 p0
    go_wp2_with (go_at_call 71; go_must ((with_reducible refine (HC.out _).mono ?_); rintro e w2 ⟨rfl, ⟨nd2, rfl⟩⟩))
    go_ret
    exact ⟨_, rfl, by repeat (first | exact Drawn0.refl _ | apply Drawn0.step), HF⟩
   | false =>
    rw [c3] at HC
    have HN2 := Aside0.mk (show (l.take (i + 1).toNat).any badSide = false by
     rw [htk, List.any_append, HN.out]
     simp [c3])
    clear hrd htk c2 c3 hlt p0
    have hi : wrap64 (i + 1) = i + 1 := by have := of_eq_true q1; have := HI.out; unfold wrap64; omega
    go_wp2_with (go_at_call 71; go_must ((with_reducible refine (HC.out _).mono ?_); rintro e w2 ⟨rfl, ⟨nd2, rfl⟩⟩))
    go_roundw
    case rel => exact ⟨i + 1, by go_num, ⟨by have := of_eq_true q1; have := HI.out; omega⟩, HN2, by repeat (first | exact Drawn0.refl _ | apply Drawn0.step)⟩
    case measure => have := of_eq_true q1; have := HI.out; simp [intOf, hi]; omega
  ·have c2b0 : decide (i < (l.length : Int)) = false := decide_eq_false c2
   have HF := Aside0.mk (show (0 ≤ (-1 : Int)) = (l.any badSide = true) by
    have := HN.out
    rw [List.take_of_length_le (by omega)] at this
    rw [this]
    simp)
   clear c2
   go_wp2
   go_ret
   exact ⟨_, rfl, by repeat (first | exact Drawn0.refl _ | apply Drawn0.step), HF⟩
set_option maxHeartbeats 800000 in
theorem slices_ContainsFunc_int_int.calls (A0 : Option Addr) (c0 : Nat) (l0 : List Int) (r : Bool) (w : World) (hr0 : Kd.C (Kd.int .i64) w A0 l0.length l0) (hc0 : l0.length ≤ c0) (h : slices_ContainsFunc_int_int.f l0 = some r) :
  Calls Try.prog 70 #[.slice A0 l0.length c0, .func (.func 71) #[] #[]] w fun e w' => e = .returned (.bool r) ∧ Drawn0 w w' := by
 have HS := Aside0.mk (fun n => sides_index.calls l0 A0 c0 (w.drewN n) (Kd.C_drewN hr0 n))
 have HI := Aside0.mk (sides_index.calls l0 A0 c0 w hr0)
 have HB := Aside0.mk (show l0.any badSide = r from Option.some.inj h)
 clear h hr0
 go_enter Try.func70, Try.ntmps70
 go_wp2_with (go_at_call 77; go_must ((with_reducible refine HI.out.mono ?_); rintro e w1 ⟨q, rfl, ⟨nd, rfl⟩, hq⟩; have hqr : decide (0 ≤ q) = r := (by rw [← HB.out]; cases hc : l0.any badSide with | true => exact decide_eq_true (by rw [hq.out]; exact hc) | false => exact decide_eq_false (by rw [hq.out, hc]; decide)); clear hq))
 go_ret
 exact ⟨rfl, by repeat (first | exact Drawn0.refl _ | apply Drawn0.step)⟩

mutual
def shunt_CheckStacks.j0 : Nat → List Int → List Int → List Int → Bool → Option (Int)
 | 0, _, _, _, _ => none
 | k + 1, x0, x1, x2, x7 => if (x1.length : Int) = (x0.length : Int) then (shunt_CheckStacks.j1 k x0 x1 x7 ((x2.length : Int) == 0)) else (shunt_CheckStacks.j1 k x0 x1 x7 false)
def shunt_CheckStacks.j1 : Nat → List Int → List Int → Bool → Bool → Option (Int)
 | 0, _, _, _, _ => none
 | k + 1, x0, x1, x7, x30 => if x30 = true then ((slices_ContainsFunc_int_int.f x1).bind fun t531 => (shunt_CheckStacks.l0 k x0 x1 (!t531) (x1.length : Int) 0)) else (if x7 = true then (some 0) else (some 10))
def shunt_CheckStacks.l0 : Nat → List Int → List Int → Bool → Int → Int → Option (Int)
 | 0, _, _, _, _, _ => none
 | k + 1, x0, x1, x7, x35, x36 => if x36 < x35 then (shunt_CheckStacks.l1 k x0 x1 x7 x36 x35 x36 x36 0) else (if x7 = true then (some 0) else (some 10))
def shunt_CheckStacks.l1 : Nat → List Int → List Int → Bool → Int → Int → Int → Int → Int → Option (Int)
 | 0, _, _, _, _, _, _, _, _ => none
 | k + 1, x0, x1, x7, x8, x35, x36, x39, x40 => if x40 < x39 then (if x7 = true then (if 0 ≤ x40 then (if x40 < (x1.length : Int) then (if 0 ≤ x8 then (if x8 < (x1.length : Int) then (if (rd x1 x40) = (rd x1 x8) then ((shunt_blocking.f k x0 x40 x8).bind fun t534 => (shunt_CheckStacks.l1 k x0 x1 (t534 == 0) x8 x35 x36 x39 (wrap64 (x40 + 1)))) else (shunt_CheckStacks.l1 k x0 x1 true x8 x35 x36 x39 (wrap64 (x40 + 1)))) else (none)) else (none)) else (none)) else (none)) else (shunt_CheckStacks.l1 k x0 x1 false x8 x35 x36 x39 (wrap64 (x40 + 1)))) else (shunt_CheckStacks.l0 k x0 x1 x7 x35 (wrap64 (x36 + 1)))
end
def shunt_CheckStacks.f (k : Nat) (l0 : List Int) (l1 : List Int) (l2 : List Int) : Option (Int) := (shunt_isOrder.f l0).bind fun t529 => (if t529 = true then (if (l1.length : Int) = 0 then ((shunt_isCycle.f k l0 l2).bind fun t530 => (shunt_CheckStacks.j0 k l0 l1 l2 t530)) else (shunt_CheckStacks.j0 k l0 l1 l2 false)) else (some 2))
set_option maxHeartbeats 8000000 in
set_option maxRecDepth 100000 in
theorem shunt_CheckStacks.calls (k : Nat) (A0 : Option Addr) (c0 : Nat) (l0 : List Int) (A1 : Option Addr) (c1 : Nat) (l1 : List Int) (A2 : Option Addr) (c2 : Nat) (l2 : List Int) (r : Int) (w : World) (hr0 : Kd.C (Kd.int .i64) w A0 l0.length l0) (hc0 : l0.length ≤ c0) (hr1 : Kd.C (Kd.int .i64) w A1 l1.length l1) (hc1 : l1.length ≤ c1) (hr2 : Kd.C (Kd.int .i64) w A2 l2.length l2) (hc2 : l2.length ≤ c2) (h : shunt_CheckStacks.f k l0 l1 l2 = some r) :
  Calls Try.prog 45 #[.slice A0 l0.length c0, .slice A1 l1.length c1, .slice A2 l2.length c2] w fun e w' => e = .returned (.int .i64 r) ∧ Below w.heap.size w w' := by
 have HR0 := Aside0.mk hr0
 have HC0 := Aside0.mk hc0
 clear hr0 hc0
 have HR1 := Aside0.mk hr1
 have HC1 := Aside0.mk hc1
 clear hr1 hc1
 have HR2 := Aside0.mk hr2
 have HC2 := Aside0.mk hc2
 clear hr2 hc2
 have HB := Aside0.mk (Below.refl w.heap.size w)
 have H : ((shunt_isOrder.f l0).bind fun t529 => (if t529 = true then (if (l1.length : Int) = 0 then ((shunt_isCycle.f k l0 l2).bind fun t530 => (shunt_CheckStacks.j0 k l0 l1 l2 t530)) else (shunt_CheckStacks.j0 k l0 l1 l2 false)) else (some 2))) = some r := h
 clear h
 replace H := Option.bind_eq_some_iff.mp H
 obtain ⟨t529, A40, H⟩ := H
 replace H : (if t529 = true then (if (l1.length : Int) = 0 then ((shunt_isCycle.f k l0 l2).bind fun t530 => (shunt_CheckStacks.j0 k l0 l1 l2 t530)) else (shunt_CheckStacks.j0 k l0 l1 l2 false)) else (some 2)) = some r := H
 have A4 := Aside0.mk A40
 clear A40
 by_cases c5 : t529 = true
 ·subst c5
  have H1 : (if (l1.length : Int) = 0 then ((shunt_isCycle.f k l0 l2).bind fun t530 => (shunt_CheckStacks.j0 k l0 l1 l2 t530)) else (shunt_CheckStacks.j0 k l0 l1 l2 false)) = some r := by rw [if_pos rfl] at H; exact H
  clear H
  have H := H1
  clear H1
  have HC6 := Aside0.mk H
  clear H
  go_enter Try.func45, Try.ntmps45
  go_upto_region 3 with (first | (go_at_call 52; (with_reducible refine (shunt_isOrder.calls _ _ l0 true _ ?side1 ?side2 A4.out).mono ?_); (case side1 => repeat (first | exact HR0.out | (with_reducible refine Kd.C_alloc ?_ _) | (with_reducible refine Kd.C_drewN ?_ _) | (with_reducible refine Kd.C_drew ?_))); (case side2 => exact HC0.out); rintro e w7 ⟨rfl, hb⟩; have n0_ := Aside0.mk (below_step (by repeat (first | (with_reducible first | exact HB.out | apply below_alloc | apply pw_below_drewN | apply below_drew1) | exact HB.out)) hb); clear HB; have HB := n0_; clear n0_; (try clear hb); (try clear hb2); (try clear hk); (try clear hi)))
  repeat (go_quiet (first | (go_at_call 52; (with_reducible refine (shunt_isOrder.calls _ _ l0 true _ ?side1 ?side2 A4.out).mono ?_); (case side1 => repeat (first | exact HR0.out | (with_reducible refine Kd.C_alloc ?_ _) | (with_reducible refine Kd.C_drewN ?_ _) | (with_reducible refine Kd.C_drew ?_))); (case side2 => exact HC0.out); rintro e w7 ⟨rfl, hb⟩; have n0_ := Aside0.mk (below_step (by repeat (first | (with_reducible first | exact HB.out | apply below_alloc | apply pw_below_drewN | apply below_drew1) | exact HB.out)) hb); clear HB; have HB := n0_; clear n0_; (try clear hb); (try clear hb2); (try clear hk); (try clear hi))); go_upto_region 3 with (first | (go_at_call 52; (with_reducible refine (shunt_isOrder.calls _ _ l0 true _ ?side1 ?side2 A4.out).mono ?_); (case side1 => repeat (first | exact HR0.out | (with_reducible refine Kd.C_alloc ?_ _) | (with_reducible refine Kd.C_drewN ?_ _) | (with_reducible refine Kd.C_drew ?_))); (case side2 => exact HC0.out); rintro e w7 ⟨rfl, hb⟩; have n0_ := Aside0.mk (below_step (by repeat (first | (with_reducible first | exact HB.out | apply below_alloc | apply pw_below_drewN | apply below_drew1) | exact HB.out)) hb); clear HB; have HB := n0_; clear n0_; (try clear hb); (try clear hb2); (try clear hk); (try clear hi))))
  (try simp only [Act.put, List.setIfInBounds_toArray, List.set_cons_zero, List.set_cons_succ])
  go_cut [7] (fun v7 wc => ∃ (kq : Nat) (x7_5 : Bool), v7 = .bool x7_5 ∧ Aside0 (shunt_CheckStacks.j0 kq l0 l1 l2 x7_5 = some r) ∧ Aside0 (kq ≤ k) ∧ Aside0 (Below w.heap.size w wc))
  case first =>
   have H := HC6.out
   clear HC6
   by_cases c8 : (l1.length : Int) = 0
   ·rw [if_pos c8] at H
    have c8b0 : ((l1.length : Int) == 0) = true := beq_iff_eq.mpr c8
    have c8b1 : ((l1.length : Int) != 0) = false := bne_eq_false_iff_eq.mpr c8
    clear c8
    (first | rw [c8b0] | (simp only [i64_w, i32_w]; rw [c8b0]) | skip)
    replace H := Option.bind_eq_some_iff.mp H
    obtain ⟨t530, A90, H⟩ := H
    replace H : (shunt_CheckStacks.j0 k l0 l1 l2 t530) = some r := H
    have A9 := Aside0.mk A90
    clear A90
    have H' := Aside0.mk H
    clear H
    go_wp2_with (first | (go_at_call 69; (with_reducible refine (shunt_isCycle.calls k _ _ l0 _ _ l2 t530 _ ?side1 ?side2 ?side3 ?side4 A9.out).mono ?_); (case side1 => repeat (first | exact (Kd.C_below HR0.out HB.out) | (with_reducible refine Kd.C_alloc ?_ _) | (with_reducible refine Kd.C_drewN ?_ _) | (with_reducible refine Kd.C_drew ?_))); (case side2 => exact HC0.out); (case side3 => repeat (first | exact (Kd.C_below HR2.out HB.out) | (with_reducible refine Kd.C_alloc ?_ _) | (with_reducible refine Kd.C_drewN ?_ _) | (with_reducible refine Kd.C_drew ?_))); (case side4 => exact HC2.out); rintro e w10 ⟨rfl, hb⟩; have n0_ := Aside0.mk (below_step (by repeat (first | (with_reducible first | exact HB.out | apply below_alloc | apply pw_below_drewN | apply below_drew1) | exact HB.out)) hb); clear HB; have HB := n0_; clear n0_; (try clear hb); (try clear hb2); (try clear hk); (try clear hi)))
    repeat (go_quiet (first | (go_at_call 69; (with_reducible refine (shunt_isCycle.calls k _ _ l0 _ _ l2 t530 _ ?side1 ?side2 ?side3 ?side4 A9.out).mono ?_); (case side1 => repeat (first | exact (Kd.C_below HR0.out HB.out) | (with_reducible refine Kd.C_alloc ?_ _) | (with_reducible refine Kd.C_drewN ?_ _) | (with_reducible refine Kd.C_drew ?_))); (case side2 => exact HC0.out); (case side3 => repeat (first | exact (Kd.C_below HR2.out HB.out) | (with_reducible refine Kd.C_alloc ?_ _) | (with_reducible refine Kd.C_drewN ?_ _) | (with_reducible refine Kd.C_drew ?_))); (case side4 => exact HC2.out); rintro e w10 ⟨rfl, hb⟩; have n0_ := Aside0.mk (below_step (by repeat (first | (with_reducible first | exact HB.out | apply below_alloc | apply pw_below_drewN | apply below_drew1) | exact HB.out)) hb); clear HB; have HB := n0_; clear n0_; (try clear hb); (try clear hb2); (try clear hk); (try clear hi))); try go_wp2_with (first | (go_at_call 69; (with_reducible refine (shunt_isCycle.calls k _ _ l0 _ _ l2 t530 _ ?side1 ?side2 ?side3 ?side4 A9.out).mono ?_); (case side1 => repeat (first | exact (Kd.C_below HR0.out HB.out) | (with_reducible refine Kd.C_alloc ?_ _) | (with_reducible refine Kd.C_drewN ?_ _) | (with_reducible refine Kd.C_drew ?_))); (case side2 => exact HC0.out); (case side3 => repeat (first | exact (Kd.C_below HR2.out HB.out) | (with_reducible refine Kd.C_alloc ?_ _) | (with_reducible refine Kd.C_drewN ?_ _) | (with_reducible refine Kd.C_drew ?_))); (case side4 => exact HC2.out); rintro e w10 ⟨rfl, hb⟩; have n0_ := Aside0.mk (below_step (by repeat (first | (with_reducible first | exact HB.out | apply below_alloc | apply pw_below_drewN | apply below_drew1) | exact HB.out)) hb); clear HB; have HB := n0_; clear n0_; (try clear hb); (try clear hb2); (try clear hk); (try clear hi))))
    go_meet
    case rel => exact ⟨_, (t530), (by first | rfl | (simp; done) | (simp [*]; done)), H', ⟨by first | omega | exact Nat.le_refl _⟩, ⟨by repeat (first | (with_reducible first | exact HB.out | apply below_alloc | apply pw_below_drewN | apply below_drew1) | exact HB.out)⟩⟩
   ·rw [if_neg c8] at H
    have c8b0 : ((l1.length : Int) == 0) = false := beq_eq_false_iff_ne.mpr c8
    have c8b1 : ((l1.length : Int) != 0) = true := bne_iff_ne.mpr c8
    have c8b2 : ¬ (l1 = []) := fun h_ => c8 (by rw [h_]; rfl)
    (first | rw [c8b0] | (simp only [i64_w, i32_w]; rw [c8b0]) | skip)
    have H' := Aside0.mk H
    clear H
    go_wp2
    repeat (go_quiet (fail); try go_wp2)
    go_meet
    case rel => exact ⟨_, (false), (by first | rfl | (simp; done) | (simp [*]; done)), H', ⟨by first | omega | exact Nat.le_refl _⟩, ⟨by repeat (first | (with_reducible first | exact HB.out | apply below_alloc | apply pw_below_drewN | apply below_drew1) | exact HB.out)⟩⟩
  case rest =>
   clear HC6
   try clear c1
   try clear c2
   try clear p2
   try clear c4
   try clear c5
   try clear c8
   try clear c8b0
   try clear c8b1
   try clear c8b2
   obtain ⟨kq, x7_5, rfl, HA, HJ5, HB⟩ := hcut
   cases kq with
   | zero => exact absurd HA.out (by simp [shunt_CheckStacks.j0])
   | succ kj5 =>
    have H := HA.out
    clear HA
    simp only [shunt_CheckStacks.j0] at H
    have HC11 := Aside0.mk H
    clear H
    go_upto_region 4 with (fail)
    repeat (go_quiet (fail); go_upto_region 4 with (fail))
    go_cut [30] (fun v30 wc => ∃ (kq : Nat) (x30_10 : Bool), v30 = .bool x30_10 ∧ Aside0 (shunt_CheckStacks.j1 kq l0 l1 x7_5 x30_10 = some r) ∧ Aside0 (kq ≤ kj5) ∧ Aside0 (Below w.heap.size w wc))
    case first =>
     have H := HC11.out
     clear HC11
     by_cases c12 : (l1.length : Int) = (l0.length : Int)
     ·rw [if_pos c12] at H
      have c12b0 : ((l1.length : Int) == (l0.length : Int)) = true := beq_iff_eq.mpr c12
      have c12b1 : ((l1.length : Int) != (l0.length : Int)) = false := bne_eq_false_iff_eq.mpr c12
      have c12b2 : (l1.length == l0.length) = true := by first | simpa using c12 | (simp at c12 ⊢; omega)
      clear c12
      (first | rw [c12b0] | (simp only [i64_w, i32_w]; rw [c12b0]) | skip)
      have H' := Aside0.mk H
      clear H
      go_wp2
      repeat (go_quiet (fail); try go_wp2)
      go_meet
      case rel => exact ⟨_, (((l2.length : Int) == 0)), (by first | rfl | (simp; done) | (simp [*]; done)), H', ⟨by have := HJ5.out; first | omega | exact Nat.le_refl _⟩, ⟨by repeat (first | (with_reducible first | exact HB.out | apply below_alloc | apply pw_below_drewN | apply below_drew1) | exact HB.out)⟩⟩
     ·rw [if_neg c12] at H
      have c12b0 : ((l1.length : Int) == (l0.length : Int)) = false := beq_eq_false_iff_ne.mpr c12
      have c12b1 : ((l1.length : Int) != (l0.length : Int)) = true := bne_iff_ne.mpr c12
      have c12b2 : (l1.length == l0.length) = false := by first | simpa using c12 | (simp at c12 ⊢; omega)
      (first | rw [c12b0] | (simp only [i64_w, i32_w]; rw [c12b0]) | skip)
      have H' := Aside0.mk H
      clear H
      go_wp2
      repeat (go_quiet (fail); try go_wp2)
      go_meet
      case rel => exact ⟨_, (false), (by first | rfl | (simp; done) | (simp [*]; done)), H', ⟨by have := HJ5.out; first | omega | exact Nat.le_refl _⟩, ⟨by repeat (first | (with_reducible first | exact HB.out | apply below_alloc | apply pw_below_drewN | apply below_drew1) | exact HB.out)⟩⟩
    case rest =>
     clear HC11
     try clear c1
     try clear c2
     try clear p2
     try clear c4
     try clear c5
     try clear c8
     try clear c8b0
     try clear c8b1
     try clear c8b2
     try clear c12
     try clear c12b0
     try clear c12b1
     try clear c12b2
     try clear p2
     obtain ⟨kq, x30_10, rfl, HA, HJ10, HB⟩ := hcut
     cases kq with
     | zero => exact absurd HA.out (by simp [shunt_CheckStacks.j1])
     | succ kj10 =>
      have H := HA.out
      clear HA
      simp only [shunt_CheckStacks.j1] at H
      by_cases c13 : x30_10 = true
      ·subst c13
       have H1 : ((slices_ContainsFunc_int_int.f l1).bind fun t531 => (shunt_CheckStacks.l0 kj10 l0 l1 (!t531) (l1.length : Int) 0)) = some r := by rw [if_pos rfl] at H; exact H
       clear H
       have H := H1
       clear H1
       replace H := Option.bind_eq_some_iff.mp H
       obtain ⟨t531, A140, H⟩ := H
       replace H : (shunt_CheckStacks.l0 kj10 l0 l1 (!t531) (l1.length : Int) 0) = some r := H
       have A14 := Aside0.mk A140
       clear A140
       have H' := Aside0.mk H
       clear H
       go_wp2_with (first | (go_at_call 70; (with_reducible refine (slices_ContainsFunc_int_int.calls _ _ l1 t531 _ ?side1 ?side2 A14.out).mono ?_); (case side1 => repeat (first | exact (Kd.C_below HR1.out HB.out) | (with_reducible refine Kd.C_alloc ?_ _) | (with_reducible refine Kd.C_drewN ?_ _) | (with_reducible refine Kd.C_drew ?_))); (case side2 => exact HC1.out); rintro e w' ⟨rfl, ⟨nd, rfl⟩⟩; (try first | exact ⟨rfl, _, World.drewN_drewN _ _ _⟩ | exact ⟨rfl, _, Eq.trans (World.drewN_drewN _ _ _) (congrArg (World.drewN _) (Nat.add_assoc _ _ _))⟩)))
       repeat (go_quiet (first | (go_at_call 70; (with_reducible refine (slices_ContainsFunc_int_int.calls _ _ l1 t531 _ ?side1 ?side2 A14.out).mono ?_); (case side1 => repeat (first | exact (Kd.C_below HR1.out HB.out) | (with_reducible refine Kd.C_alloc ?_ _) | (with_reducible refine Kd.C_drewN ?_ _) | (with_reducible refine Kd.C_drew ?_))); (case side2 => exact HC1.out); rintro e w' ⟨rfl, ⟨nd, rfl⟩⟩; (try first | exact ⟨rfl, _, World.drewN_drewN _ _ _⟩ | exact ⟨rfl, _, Eq.trans (World.drewN_drewN _ _ _) (congrArg (World.drewN _) (Nat.add_assoc _ _ _))⟩))); try go_wp2_with (first | (go_at_call 70; (with_reducible refine (slices_ContainsFunc_int_int.calls _ _ l1 t531 _ ?side1 ?side2 A14.out).mono ?_); (case side1 => repeat (first | exact (Kd.C_below HR1.out HB.out) | (with_reducible refine Kd.C_alloc ?_ _) | (with_reducible refine Kd.C_drewN ?_ _) | (with_reducible refine Kd.C_drew ?_))); (case side2 => exact HC1.out); rintro e w' ⟨rfl, ⟨nd, rfl⟩⟩; (try first | exact ⟨rfl, _, World.drewN_drewN _ _ _⟩ | exact ⟨rfl, _, Eq.trans (World.drewN_drewN _ _ _) (congrArg (World.drewN _) (Nat.add_assoc _ _ _))⟩))))
       go_loopg [7, 36] kj10 (fun kq v7 v36 w' => ∃ (x7_3 : Bool) (x36_3 : Int), v7 = .bool x7_3 ∧ v36 = .int .i64 x36_3 ∧ Aside0 (shunt_CheckStacks.l0 kq l0 l1 x7_3 (l1.length : Int) x36_3 = some r) ∧ Aside0 (kq ≤ kj10) ∧ Aside0 (Below w.heap.size w w'))
       case atStart => exact ⟨(!t531), (0), (by first | rfl | (simp; done) | (simp [*]; done)), (by first | rfl | (simp; done) | (simp [*]; done)), H', ⟨Nat.le_refl _⟩, ⟨by repeat (first | (with_reducible first | exact HB.out | apply below_alloc | apply pw_below_drewN | apply below_drew1) | exact HB.out)⟩⟩
       case round =>
        clear H'
        try clear c1
        try clear c2
        try clear p2
        try clear c4
        try clear c5
        try clear c8
        try clear c8b0
        try clear c8b1
        try clear c8b2
        try clear c12
        try clear c12b0
        try clear c12b1
        try clear c12b2
        try clear c13
        try clear p2
        obtain ⟨x7_3, x36_3, rfl, rfl, HA, HK3, HB⟩ := hrel
        cases gk with
        | zero => exact absurd HA.out (by simp [shunt_CheckStacks.l0])
        | succ k3 =>
         have H := HA.out
         clear HA
         simp only [shunt_CheckStacks.l0] at H
         by_cases c15 : x36_3 < (l1.length : Int)
         ·rw [if_pos c15] at H
          have c15b0 : decide (x36_3 < (l1.length : Int)) = true := decide_eq_true c15
          clear c15
          have H' := Aside0.mk H
          clear H
          go_wp2
          repeat (go_quiet (fail); try go_wp2)
          go_loopg [7, 40] k3 (fun kq v7 v40 w' => ∃ (x7_4 : Bool) (x40_4 : Int), v7 = .bool x7_4 ∧ v40 = .int .i64 x40_4 ∧ Aside0 (shunt_CheckStacks.l1 kq l0 l1 x7_4 x36_3 (l1.length : Int) x36_3 x36_3 x40_4 = some r) ∧ Aside0 (kq ≤ k3) ∧ Aside0 (Below w.heap.size w w'))
          case atStart => exact ⟨(x7_3), (0), (by first | rfl | (simp; done) | (simp [*]; done)), (by first | rfl | (simp; done) | (simp [*]; done)), H', ⟨Nat.le_refl _⟩, ⟨by repeat (first | (with_reducible first | exact HB.out | apply below_alloc | apply pw_below_drewN | apply below_drew1) | exact HB.out)⟩⟩
          case round =>
           clear H'
           try clear c1
           try clear c2
           try clear p2
           try clear c4
           try clear c5
           try clear c8
           try clear c8b0
           try clear c8b1
           try clear c8b2
           try clear c12
           try clear c12b0
           try clear c12b1
           try clear c12b2
           try clear c13
           try clear c15
           try clear c15b0
           try clear p2
           obtain ⟨x7_4, x40_4, rfl, rfl, HA, HK4, HB⟩ := hrel
           cases gk with
           | zero => exact absurd HA.out (by simp [shunt_CheckStacks.l1])
           | succ k4 =>
            have H := HA.out
            clear HA
            simp only [shunt_CheckStacks.l1] at H
            by_cases c16 : x40_4 < x36_3
            ·rw [if_pos c16] at H
             have c16b0 : decide (x40_4 < x36_3) = true := decide_eq_true c16
             clear c16
             by_cases c17 : x7_4 = true
             ·subst c17
              have H1 : (if 0 ≤ x40_4 then (if x40_4 < (l1.length : Int) then (if 0 ≤ x36_3 then (if x36_3 < (l1.length : Int) then (if (rd l1 x40_4) = (rd l1 x36_3) then ((shunt_blocking.f k4 l0 x40_4 x36_3).bind fun t534 => (shunt_CheckStacks.l1 k4 l0 l1 (t534 == 0) x36_3 (l1.length : Int) x36_3 x36_3 (wrap64 (x40_4 + 1)))) else (shunt_CheckStacks.l1 k4 l0 l1 true x36_3 (l1.length : Int) x36_3 x36_3 (wrap64 (x40_4 + 1)))) else (none)) else (none)) else (none)) else (none)) = some r := by rw [if_pos rfl] at H; exact H
              clear H
              have H := H1
              clear H1
              by_cases c18 : 0 ≤ x40_4
              ·rw [if_pos c18] at H
               have c18b0 : decide (0 ≤ x40_4) = true := decide_eq_true c18
               clear c18
               by_cases c19 : x40_4 < (l1.length : Int)
               ·rw [if_pos c19] at H
                have c19b0 : decide (x40_4 < (l1.length : Int)) = true := decide_eq_true c19
                clear c19
                by_cases c20 : 0 ≤ x36_3
                ·rw [if_pos c20] at H
                 have c20b0 : decide (0 ≤ x36_3) = true := decide_eq_true c20
                 clear c20
                 by_cases c21 : x36_3 < (l1.length : Int)
                 ·rw [if_pos c21] at H
                  have c21b0 : decide (x36_3 < (l1.length : Int)) = true := decide_eq_true c21
                  clear c21
                  by_cases c22 : (rd l1 x40_4) = (rd l1 x36_3)
                  ·rw [if_pos c22] at H
                   have c22b0 : ((rd l1 x40_4) == (rd l1 x36_3)) = true := beq_iff_eq.mpr c22
                   have c22b1 : ((rd l1 x40_4) != (rd l1 x36_3)) = false := bne_eq_false_iff_eq.mpr c22
                   clear c22
                   replace H := Option.bind_eq_some_iff.mp H
                   obtain ⟨t534, A230, H⟩ := H
                   replace H : (shunt_CheckStacks.l1 k4 l0 l1 (t534 == 0) x36_3 (l1.length : Int) x36_3 x36_3 (wrap64 (x40_4 + 1))) = some r := H
                   have A23 := Aside0.mk A230
                   clear A230
                   have H' := Aside0.mk H
                   clear H
                   have p532 : 0 ≤ (x40_4 : Int) := of_decide_eq_true (by first | (with_reducible assumption) | assumption)
                   have q532 : x40_4 < (l1.length : Int) := of_decide_eq_true (by first | (with_reducible assumption) | assumption)
                   obtain ⟨ad532, e532, hx532_0⟩ := Kd.at_int HR1.out x40_4 p532 q532
                   cases e532
                   replace hx532_0 := (HB.out.cell (World.block_lt_of_cell? w _ hx532_0)).trans hx532_0
                   replace p532 := eq_true p532
                   replace q532 := eq_true q532
                   have p533 : 0 ≤ (x36_3 : Int) := of_decide_eq_true (by first | (with_reducible assumption) | assumption)
                   have q533 : x36_3 < (l1.length : Int) := of_decide_eq_true (by first | (with_reducible assumption) | assumption)
                   obtain ⟨ad533, e533, hx533_0⟩ := Kd.at_int HR1.out x36_3 p533 q533
                   obtain rfl : ad532 = ad533 := (by injection e533)
                   replace hx533_0 := (HB.out.cell (World.block_lt_of_cell? w _ hx533_0)).trans hx533_0
                   replace p533 := eq_true p533
                   replace q533 := eq_true q533
                   go_wp2_with (first | (go_at_call 72; (with_reducible refine (shunt_blocking.calls k4 _ _ l0 x40_4 x36_3 t534 _ ?side1 ?side2 A23.out).mono ?_); (case side1 => repeat (first | exact (Kd.C_below HR0.out HB.out) | (with_reducible refine Kd.C_alloc ?_ _) | (with_reducible refine Kd.C_drewN ?_ _) | (with_reducible refine Kd.C_drew ?_))); (case side2 => exact HC0.out); rintro e w' ⟨rfl, ⟨nd, rfl⟩⟩; (try first | exact ⟨rfl, _, World.drewN_drewN _ _ _⟩ | exact ⟨rfl, _, Eq.trans (World.drewN_drewN _ _ _) (congrArg (World.drewN _) (Nat.add_assoc _ _ _))⟩)))
                   repeat (go_quiet (first | (go_at_call 72; (with_reducible refine (shunt_blocking.calls k4 _ _ l0 x40_4 x36_3 t534 _ ?side1 ?side2 A23.out).mono ?_); (case side1 => repeat (first | exact (Kd.C_below HR0.out HB.out) | (with_reducible refine Kd.C_alloc ?_ _) | (with_reducible refine Kd.C_drewN ?_ _) | (with_reducible refine Kd.C_drew ?_))); (case side2 => exact HC0.out); rintro e w' ⟨rfl, ⟨nd, rfl⟩⟩; (try first | exact ⟨rfl, _, World.drewN_drewN _ _ _⟩ | exact ⟨rfl, _, Eq.trans (World.drewN_drewN _ _ _) (congrArg (World.drewN _) (Nat.add_assoc _ _ _))⟩))); try go_wp2_with (first | (go_at_call 72; (with_reducible refine (shunt_blocking.calls k4 _ _ l0 x40_4 x36_3 t534 _ ?side1 ?side2 A23.out).mono ?_); (case side1 => repeat (first | exact (Kd.C_below HR0.out HB.out) | (with_reducible refine Kd.C_alloc ?_ _) | (with_reducible refine Kd.C_drewN ?_ _) | (with_reducible refine Kd.C_drew ?_))); (case side2 => exact HC0.out); rintro e w' ⟨rfl, ⟨nd, rfl⟩⟩; (try first | exact ⟨rfl, _, World.drewN_drewN _ _ _⟩ | exact ⟨rfl, _, Eq.trans (World.drewN_drewN _ _ _) (congrArg (World.drewN _) (Nat.add_assoc _ _ _))⟩))))
                   go_roundg k4
                   case measure => have := HJ5.out; have := HJ10.out; have := HK3.out; have := HK4.out; omega
                   case rel => exact ⟨((t534 == 0)), (wrap64 (x40_4 + 1)), (by first | rfl | (simp; done) | (simp [*]; done)), (by first | rfl | (simp; done) | (simp [*]; done)), H', ⟨by have := HJ5.out; have := HJ10.out; have := HK3.out; have := HK4.out; omega⟩, ⟨by repeat (first | (with_reducible first | exact HB.out | apply below_alloc | apply pw_below_drewN | apply below_drew1) | exact HB.out)⟩⟩
                  ·rw [if_neg c22] at H
                   have c22b0 : ((rd l1 x40_4) == (rd l1 x36_3)) = false := beq_eq_false_iff_ne.mpr c22
                   have c22b1 : ((rd l1 x40_4) != (rd l1 x36_3)) = true := bne_iff_ne.mpr c22
                   have H' := Aside0.mk H
                   clear H
                   have p532 : 0 ≤ (x40_4 : Int) := of_decide_eq_true (by first | (with_reducible assumption) | assumption)
                   have q532 : x40_4 < (l1.length : Int) := of_decide_eq_true (by first | (with_reducible assumption) | assumption)
                   obtain ⟨ad532, e532, hx532_0⟩ := Kd.at_int HR1.out x40_4 p532 q532
                   cases e532
                   replace hx532_0 := (HB.out.cell (World.block_lt_of_cell? w _ hx532_0)).trans hx532_0
                   replace p532 := eq_true p532
                   replace q532 := eq_true q532
                   have p533 : 0 ≤ (x36_3 : Int) := of_decide_eq_true (by first | (with_reducible assumption) | assumption)
                   have q533 : x36_3 < (l1.length : Int) := of_decide_eq_true (by first | (with_reducible assumption) | assumption)
                   obtain ⟨ad533, e533, hx533_0⟩ := Kd.at_int HR1.out x36_3 p533 q533
                   obtain rfl : ad532 = ad533 := (by injection e533)
                   replace hx533_0 := (HB.out.cell (World.block_lt_of_cell? w _ hx533_0)).trans hx533_0
                   replace p533 := eq_true p533
                   replace q533 := eq_true q533
                   go_wp2
                   repeat (go_quiet (fail); try go_wp2)
                   go_roundg k4
                   case measure => have := HJ5.out; have := HJ10.out; have := HK3.out; have := HK4.out; omega
                   case rel => exact ⟨(true), (wrap64 (x40_4 + 1)), (by first | rfl | (simp; done) | (simp [*]; done)), (by first | rfl | (simp; done) | (simp [*]; done)), H', ⟨by have := HJ5.out; have := HJ10.out; have := HK3.out; have := HK4.out; omega⟩, ⟨by repeat (first | (with_reducible first | exact HB.out | apply below_alloc | apply pw_below_drewN | apply below_drew1) | exact HB.out)⟩⟩
                 ·rw [if_neg c21] at H
                  exact absurd H (by simp)
                ·rw [if_neg c20] at H
                 exact absurd H (by simp)
               ·rw [if_neg c19] at H
                exact absurd H (by simp)
              ·rw [if_neg c18] at H
               exact absurd H (by simp)
             ·replace c17 := Bool.eq_false_iff.mpr c17
              subst c17
              have H1 : (shunt_CheckStacks.l1 k4 l0 l1 false x36_3 (l1.length : Int) x36_3 x36_3 (wrap64 (x40_4 + 1))) = some r := by rw [if_neg (show ¬ (false = true) by decide)] at H; exact H
              clear H
              have H := H1
              clear H1
              have H' := Aside0.mk H
              clear H
              go_wp2
              repeat (go_quiet (fail); try go_wp2)
              go_roundg k4
              case measure => have := HJ5.out; have := HJ10.out; have := HK3.out; have := HK4.out; omega
              case rel => exact ⟨(false), (wrap64 (x40_4 + 1)), (by first | rfl | (simp; done) | (simp [*]; done)), (by first | rfl | (simp; done) | (simp [*]; done)), H', ⟨by have := HJ5.out; have := HJ10.out; have := HK3.out; have := HK4.out; omega⟩, ⟨by repeat (first | (with_reducible first | exact HB.out | apply below_alloc | apply pw_below_drewN | apply below_drew1) | exact HB.out)⟩⟩
            ·rw [if_neg c16] at H
             have c16b0 : decide (x40_4 < x36_3) = false := decide_eq_false c16
             clear c16
             have H' := Aside0.mk H
             clear H
             go_wp2
             repeat (go_quiet (fail); try go_wp2)
             go_roundg k4
             case measure => have := HJ5.out; have := HJ10.out; have := HK3.out; have := HK4.out; omega
             case rel => exact ⟨(x7_4), (wrap64 (x36_3 + 1)), (by first | rfl | (simp; done) | (simp [*]; done)), (by first | rfl | (simp; done) | (simp [*]; done)), H', ⟨by have := HJ5.out; have := HJ10.out; have := HK3.out; have := HK4.out; omega⟩, ⟨by repeat (first | (with_reducible first | exact HB.out | apply below_alloc | apply pw_below_drewN | apply below_drew1) | exact HB.out)⟩⟩
         ·rw [if_neg c15] at H
          have c15b0 : decide (x36_3 < (l1.length : Int)) = false := decide_eq_false c15
          clear c15
          by_cases c24 : x7_3 = true
          ·subst c24
           have H1 : (some 0) = some r := by rw [if_pos rfl] at H; exact H
           clear H
           have H := H1
           clear H1
           obtain rfl := Option.some.inj H
           go_wp2
           repeat (go_quiet (fail); try go_wp2)
           go_ret
           exact ⟨by first | rfl | (simp [errW_none, errW_some] <;> rfl) | (simp [*, errW_none, errW_some] <;> rfl), by repeat (first | (with_reducible first | exact HB.out | apply below_alloc | apply pw_below_drewN | apply below_drew1) | exact HB.out)⟩
          ·replace c24 := Bool.eq_false_iff.mpr c24
           subst c24
           have H1 : (some 10) = some r := by rw [if_neg (show ¬ (false = true) by decide)] at H; exact H
           clear H
           have H := H1
           clear H1
           obtain rfl := Option.some.inj H
           go_wp2
           repeat (go_quiet (fail); try go_wp2)
           go_ret
           exact ⟨by first | rfl | (simp [errW_none, errW_some] <;> rfl) | (simp [*, errW_none, errW_some] <;> rfl), by repeat (first | (with_reducible first | exact HB.out | apply below_alloc | apply pw_below_drewN | apply below_drew1) | exact HB.out)⟩
      ·replace c13 := Bool.eq_false_iff.mpr c13
       subst c13
       have H1 : (if x7_5 = true then (some 0) else (some 10)) = some r := by rw [if_neg (show ¬ (false = true) by decide)] at H; exact H
       clear H
       have H := H1
       clear H1
       by_cases c25 : x7_5 = true
       ·subst c25
        have H1 : (some 0) = some r := by rw [if_pos rfl] at H; exact H
        clear H
        have H := H1
        clear H1
        obtain rfl := Option.some.inj H
        go_wp2
        repeat (go_quiet (fail); try go_wp2)
        go_ret
        exact ⟨by first | rfl | (simp [errW_none, errW_some] <;> rfl) | (simp [*, errW_none, errW_some] <;> rfl), by repeat (first | (with_reducible first | exact HB.out | apply below_alloc | apply pw_below_drewN | apply below_drew1) | exact HB.out)⟩
       ·replace c25 := Bool.eq_false_iff.mpr c25
        subst c25
        have H1 : (some 10) = some r := by rw [if_neg (show ¬ (false = true) by decide)] at H; exact H
        clear H
        have H := H1
        clear H1
        obtain rfl := Option.some.inj H
        go_wp2
        repeat (go_quiet (fail); try go_wp2)
        go_ret
        exact ⟨by first | rfl | (simp [errW_none, errW_some] <;> rfl) | (simp [*, errW_none, errW_some] <;> rfl), by repeat (first | (with_reducible first | exact HB.out | apply below_alloc | apply pw_below_drewN | apply below_drew1) | exact HB.out)⟩
 ·replace c5 := Bool.eq_false_iff.mpr c5
  subst c5
  have H1 : (some 2) = some r := by rw [if_neg (show ¬ (false = true) by decide)] at H; exact H
  clear H
  have H := H1
  clear H1
  obtain rfl := Option.some.inj H
  go_enter Try.func45, Try.ntmps45
  go_wp2_with (first | (go_at_call 52; (with_reducible refine (shunt_isOrder.calls _ _ l0 false _ ?side1 ?side2 A4.out).mono ?_); (case side1 => repeat (first | exact HR0.out | (with_reducible refine Kd.C_alloc ?_ _) | (with_reducible refine Kd.C_drewN ?_ _) | (with_reducible refine Kd.C_drew ?_))); (case side2 => exact HC0.out); rintro e w26 ⟨rfl, hb⟩; have n0_ := Aside0.mk (below_step (by repeat (first | (with_reducible first | exact HB.out | apply below_alloc | apply pw_below_drewN | apply below_drew1) | exact HB.out)) hb); clear HB; have HB := n0_; clear n0_; (try clear hb); (try clear hb2); (try clear hk); (try clear hi)))
  repeat (go_quiet (first | (go_at_call 52; (with_reducible refine (shunt_isOrder.calls _ _ l0 false _ ?side1 ?side2 A4.out).mono ?_); (case side1 => repeat (first | exact HR0.out | (with_reducible refine Kd.C_alloc ?_ _) | (with_reducible refine Kd.C_drewN ?_ _) | (with_reducible refine Kd.C_drew ?_))); (case side2 => exact HC0.out); rintro e w26 ⟨rfl, hb⟩; have n0_ := Aside0.mk (below_step (by repeat (first | (with_reducible first | exact HB.out | apply below_alloc | apply pw_below_drewN | apply below_drew1) | exact HB.out)) hb); clear HB; have HB := n0_; clear n0_; (try clear hb); (try clear hb2); (try clear hk); (try clear hi))); try go_wp2_with (first | (go_at_call 52; (with_reducible refine (shunt_isOrder.calls _ _ l0 false _ ?side1 ?side2 A4.out).mono ?_); (case side1 => repeat (first | exact HR0.out | (with_reducible refine Kd.C_alloc ?_ _) | (with_reducible refine Kd.C_drewN ?_ _) | (with_reducible refine Kd.C_drew ?_))); (case side2 => exact HC0.out); rintro e w26 ⟨rfl, hb⟩; have n0_ := Aside0.mk (below_step (by repeat (first | (with_reducible first | exact HB.out | apply below_alloc | apply pw_below_drewN | apply below_drew1) | exact HB.out)) hb); clear HB; have HB := n0_; clear n0_; (try clear hb); (try clear hb2); (try clear hk); (try clear hi))))
  go_ret
  exact ⟨by first | rfl | (simp [errW_none, errW_some] <;> rfl) | (simp [*, errW_none, errW_some] <;> rfl), by repeat (first | (with_reducible first | exact HB.out | apply below_alloc | apply pw_below_drewN | apply below_drew1) | exact HB.out)⟩
end Go.Proofs.Ytjbjongahnocdaa.S

namespace Go.Proofs.Ytjbjongahnocdaa.Lib
open Go.Maps (Keyed IsMap Tidy)
open Go.WideElems Go.ChangeShapes Go.WideShapes Go.MapKept Go.ChangeMaps
set_option linter.unusedVariables false

section
variable {w : World} {P : Program} {t k e : TypeId} {b m : Nat} {f : Value → Option Value}

/-- A new entry: what comes up is the zero; the entry holds the zero till the store. -/
theorem MapAt.entryNew (h : MapAt w P k b m f) (K : Keyed P k) (ht : P.underlying t = some (.map k e)) {z : Value} (hz : ∀ u : World, (zeroValue e).run P u = .ok z u) (hm : m < maxLen) {key : Value} {kl : Lit} (hkey : keyOf P k key = some kl) (hf : f key = none)
  (val : Value) {f1 f' : Value → Option Value} (e1 : f' key = some val) (e2 : ∀ v, v ≠ key → f' v = f v) (g1 : f1 key = some z) (g2 : ∀ v, v ≠ key → f1 v = f v) :
  ∃ (st : Int) (W1 W2 : World), (Instr.mapEntry t (.map (some b)) key).run P w = .ok (.tuple #[z, .int .i64 st]) W1 ∧ (Instr.entryStore t (.map (some b)) (.int .i64 st) val).run P W1 = .ok () W2 ∧
   MapAt W1 P k b (m + 1) f1 ∧ w.grownBy W1 (some b) ∧ MapAt W2 P k b (m + 1) f' ∧ w.grownBy W2 (some b) := by
 obtain ⟨w1, r1, h1, h2⟩ := h.store K ht hm (val := z) hkey g1 g2
 obtain ⟨w2, r2, h3, h4⟩ := h.store K ht hm (val := val) hkey e1 e2
 rw [hf] at h1 h3
 obtain ⟨D, ⟨es, clock, hb, F, hs, hD⟩, hsz, hat⟩ := h
 obtain ⟨s1, s2, _⟩ := F.stamped
 rcases K.find w hkey es.toList F.keys with ⟨q1, q2⟩ | ⟨j, e0, q1, q2, q3⟩
 ·have hidx : (es.push ⟨key, z, clock⟩).findIdx? (fun e => ((e.born : Nat) : Int) == ((clock : Nat) : Int)) = some es.size := by
   rw [findIdx_arr]
   have := findIdx_born (l := (es.push ⟨key, z, clock⟩).toList) (j := es.size) (e0 := ⟨key, z, clock⟩) (by
    simp only [Array.toList_push, List.map_append, List.map_cons, List.map_nil]
    refine List.nodup_append.2 ⟨s2, by simp, fun a ha c hc e1 => ?_⟩
    simp only [List.mem_singleton] at hc
    obtain ⟨x, hx, rfl⟩ := List.mem_map.1 ha
    have := s1 x hx
    omega) (by simp)
   exact this
  have hmod : (es.push ⟨key, z, clock⟩).modify es.size (fun e => { e with val := val }) = es.push ⟨key, val, clock⟩ := by
   apply Array.ext'
   rw [Array.toList_modify, Array.toList_push, Array.toList_push, ← Array.length_toList, modify_last]
  have u1 : (Instr.mapUpdate t (.map (some b)) key z).run P w = .ok () (setBlock w b (.map (es.push ⟨key, z, clock⟩) (clock + 1))) := by
   simp [Instr.mapUpdate, run_underlying ht, MapKept.run_getObj_map hb, K.check w false hkey, q1, MapKept.run_setObj_map _ hb, Result.andThen, setBlock]
  have u2 : (Instr.mapUpdate t (.map (some b)) key val).run P w = .ok () (setBlock w b (.map (es.push ⟨key, val, clock⟩) (clock + 1))) := by
   simp [Instr.mapUpdate, run_underlying ht, MapKept.run_getObj_map hb, K.check w false hkey, q1, MapKept.run_setObj_map _ hb, Result.andThen, setBlock]
  rw [u1] at r1
  rw [u2] at r2
  injection r1 with _ r1
  injection r2 with _ r2
  have hb1 : w1.heap[b]? = some (.map (es.push ⟨key, z, clock⟩) (clock + 1)) := by
   rw [← r1]
   have hlt : b < w.heap.size := by
    apply Nat.lt_of_not_le
    intro hn
    simp [hn] at hb
   simp [setBlock, hlt]
  have hset : setBlock w1 b (.map (es.push ⟨key, val, clock⟩) (clock + 1)) = w2 := by
   rw [← r1, ← r2]
   simp [setBlock]
  refine ⟨clock, w1, w2, ?_, ?_, h1, h2, h3, h4⟩
  ·rw [← r1]
   simp [Instr.mapEntry, run_underlying ht, MapKept.run_getObj_map hb, K.check w false hkey, q1, hz, MapKept.run_setObj_map _ hb, Result.andThen, setBlock, goInt]
  ·have : (Instr.entryStore t (.map (some b)) (.int .i64 (clock : Int)) val).run P w1 = .ok () (setBlock w1 b (.map (es.push ⟨key, val, clock⟩) (clock + 1))) := by
    simp [Instr.entryStore, MapKept.run_getObj_map hb1, asInt, asIntOf, hidx, hmod, MapKept.run_setObj_map _ hb1, Result.andThen, setBlock]
   rw [this, hset]
 ·exfalso
  have hl := (hat key kl hkey).1
  rw [hf] at hl
  obtain ⟨v, ps, hrun, hv⟩ := (show w.ownsMap P k Rv b m D from ⟨es, clock, hb, F, hs, hD⟩).look_ok K ht (hz w) (R := Rv) rfl hkey
  rw [hl] at hrun
  simp [Instr.lookup, run_underlying ht, MapKept.run_getObj_map hb, K.check w _ hkey, q1, Result.andThen] at hrun
end
end Go.Proofs.Ytjbjongahnocdaa.Lib

namespace Go.Proofs.Ytjbjongahnocdaa.Defs
open Go.RowKit Go.Proofs.YtjbjongahnocdaaW.PrintWords

def near_ (near : List (List Int)) (a : Int) : List Int := near.getD a.toNat []
abbrev Col := (Int → Option Int) × (Int → Option Int) × List Int
def put_ (f : Int → Option Int) (b v : Int) : Int → Option Int := fun y => if y = b then some v else f y
def colIn (a : Int) : List Int → Col → Option (Col × Option Int)
 | [], st => some (st, none)
 | b :: bs, st =>
  if 0 ≤ b ∧ b ≤ 1000 ∧ st.2.2.length ≤ 1000 then
   match st.1 b with
   | none => if st.2.1 b = none ∧ a ≠ b then colIn a bs (put_ st.1 b (wrap64 (1 - (st.1 a).getD 0)), put_ st.2.1 b a, st.2.2 ++ [b]) else none
   | some s => if s = (st.1 a).getD 0 then some (st, some b) else colIn a bs st
  else none
def colOut (near : List (List Int)) : Nat → Int → Col → Option (Col × Option (Int × Int))
 | 0, _, _ => none
 | f + 1, i, st =>
  if i < st.2.2.length then
   (if 0 ≤ rd st.2.2 i ∧ rd st.2.2 i < near.length ∧ rd st.2.2 i ≤ 1000 then
    (colIn (rd st.2.2 i) (near_ near (rd st.2.2 i)) st).bind fun p =>
     match p.2 with
     | some b => some (p.1, some (rd st.2.2 i, b))
     | none => colOut near f (i + 1) p.1
   else none)
  else some (st, none)
def wayF (fr : Int → Option Int) : Nat → Int → Option (List Int)
 | 0, _ => none
 | f + 1, x => if 0 ≤ x then (if x ≤ 1000 then (wayF fr f ((fr x).getD 0)).map (x :: ·) else none) else some []
def trimR : List Int → List Int → List Int × List Int
 | x :: y :: s, x' :: y' :: t => if y = y' then trimR (y :: s) (y' :: t) else (x :: y :: s, x' :: y' :: t)
 | p, q => (p, q)
def closeF (rv : List Int → Option (List Int)) (fr : Int → Option Int) (a b : Int) : Option (List Int) :=
 (wayF fr 100 a).bind fun p => (wayF fr 100 b).bind fun q =>
  (rv (trimR p.reverse q.reverse).2.reverse).bind fun q' => if q'.length = 0 then none else some ((trimR p.reverse q.reverse).1.reverse ++ q'.drop 1)
def visitF (near : List (List Int)) (sd fr : Int → Option Int) (s : Int) : Option (Col × Option (Int × Int)) :=
 if 0 ≤ s ∧ s ≤ 1000 ∧ sd s = none ∧ fr s = none then colOut near 100 0 (put_ sd s 0, put_ fr s (-1), [s]) else none
def stacksGo (rv : List Int → Option (List Int)) (near : List (List Int)) : Nat → Int → (Int → Option Int) → (Int → Option Int) → List Int → Option (List Int × List Int)
 | 0, _, _, _, acc => some (acc, [])
 | m + 1, i, sd, fr, acc =>
  match sd i with
  | some s => stacksGo rv near m (i + 1) sd fr (acc ++ [s])
  | none => (visitF near sd fr i).bind fun p =>
   match p.2 with
   | some (a, b) => (closeF rv p.1.2.1 a b).bind fun c => some ([], c)
   | none => stacksGo rv near m (i + 1) p.1.1 p.1.2.1 (acc ++ [(p.1.1 i).getD 0])
end Go.Proofs.Ytjbjongahnocdaa.Defs

namespace Go.Proofs.Ytjbjongahnocdaa.S
open Go.Proofs.Ytjbjongahnocdaa.Lib
open Go.Proofs.Ytjbjongahnocdaa.Defs
open Go.Maps (Keyed)
open Go.RowKit Go.Proofs.YtjbjongahnocdaaW.PrintWords Go.Proofs.YtjbjongahnocdaaW.PrintLast Go.Proofs.YtjbjongahnocdaaW.PrintMore
attribute [local go_sem] max2_int min2_int max_two min_two max_three min_three max_four min_four
set_option linter.unusedVariables false
set_option linter.unusedSimpArgs false

mutual
def shunt_conflicts.l0 : Nat → List Int → List (List Int) → Int → Int → Option ((List (List Int)))
 | 0, _, _, _, _ => none
 | k + 1, x0, x3, x10, x11 => if x11 < x10 then (shunt_conflicts.l1 k x0 x3 x11 x10 x11 x11 0) else (some x3)
def shunt_conflicts.l1 : Nat → List Int → List (List Int) → Int → Int → Int → Int → Int → Option ((List (List Int)))
 | 0, _, _, _, _, _, _, _ => none
 | k + 1, x0, x3, x4, x10, x11, x14, x15 => if x15 < x14 then ((shunt_blocking.f k x0 x15 x4).bind fun t564 => (if t564 > 0 then (if 0 ≤ x15 then (if x15 < (x3.length : Int) then (if (rd_L1 x3 x15).length < 17592186044416 then ((some (x3.set (x15 : Int).toNat ((rd_L1 x3 x15) ++ [x4]) : List (List Int))).bind fun y569 => (if 0 ≤ x4 then (if x4 < (x3.length : Int) then (if (rd_L1 y569 x4).length < 17592186044416 then (shunt_conflicts.l1 k x0 (y569.set (x4 : Int).toNat ((rd_L1 y569 x4) ++ [x15])) x4 x10 x11 x14 (wrap64 (x15 + 1))) else (none)) else (none)) else (none))) else (none)) else (none)) else (none)) else (shunt_conflicts.l1 k x0 x3 x4 x10 x11 x14 (wrap64 (x15 + 1))))) else (shunt_conflicts.l0 k x0 x3 x10 (wrap64 (x11 + 1)))
end
def shunt_conflicts.f (k : Nat) (l0 : List Int) : Option ((List (List Int))) := if 0 ≤ (l0.length : Int) then (if ((l0.length : Int) : Int).toNat ≤ 11728124029610 then (shunt_conflicts.l0 k l0 (List.replicate ((l0.length : Int) : Int).toNat []) (l0.length : Int) 0) else (none)) else (none)
set_option maxHeartbeats 8000000 in
set_option maxRecDepth 100000 in
theorem shunt_conflicts.calls (k : Nat) (A0 : Option Addr) (c0 : Nat) (l0 : List Int) (r : List (List Int)) (w : World) (hr0 : Kd.C (Kd.int .i64) w A0 l0.length l0) (hc0 : l0.length ≤ c0) (h : shunt_conflicts.f k l0 = some r) :
  Calls Try.prog 74 #[.slice A0 l0.length c0] w fun e w' => ∃ v0_ : Value, e = .returned (v0_) ∧ Kd.S (Kd.slice 3 (Kd.int .i64)) 22 w' w.heap.size (fun _ => True) v0_ r ∧ Below w.heap.size w w' := by
 have HR0 := Aside0.mk hr0
 have HC0 := Aside0.mk hc0
 clear hr0 hc0
 have HB := Aside0.mk (Below.refl w.heap.size w)
 have H : (if 0 ≤ (l0.length : Int) then (if ((l0.length : Int) : Int).toNat ≤ 11728124029610 then (shunt_conflicts.l0 k l0 (List.replicate ((l0.length : Int) : Int).toNat []) (l0.length : Int) 0) else (none)) else (none)) = some r := h
 clear h
 by_cases c2 : 0 ≤ (l0.length : Int)
 ·rw [if_pos c2] at H
  have c2b0 := eq_true c2
  have c2b1 : decide (0 ≤ (l0.length : Int)) = true := decide_eq_true c2
  clear c2
  by_cases c3 : ((l0.length : Int) : Int).toNat ≤ 11728124029610
  ·rw [if_pos c3] at H
   have c3b0 := eq_true c3
   have c3b1 : decide (((l0.length : Int) : Int).toNat ≤ 11728124029610) = true := decide_eq_true c3
   clear c3
   obtain ⟨y561, hy561⟩ : ∃ y_ : List (List Int), y_ = (List.replicate ((l0.length : Int) : Int).toNat []) := ⟨_, rfl⟩
   replace H : (shunt_conflicts.l0 k l0 y561 (l0.length : Int) 0) = some r := by first | (rw [hy561]; with_reducible exact H) | (have H2_ := (Option.bind_some _ _).symm.trans H; rw [hy561]; with_reducible exact H2_) | (have H2_ := (Option.bind_some _ _).symm.trans H; with_reducible exact H2_) | with_reducible exact H | (rw [hy561]; exact H) | exact H
   have Ny561 := Aside0.mk hy561
   clear hy561
   have H' := Aside0.mk H
   clear H
   go_enter Try.func74, Try.ntmps74
   go_wp2_with (first | ((with_reducible refine gate_dst (N := 8) rfl ?_); refine Kd.S_make (Kd.slice 3 (Kd.int .i64)) _ 22 rfl (N := 8) rfl 60 _ _ rfl (l0.length : Int) rfl rfl Try.underlying60 (.slice none 0 0) 24 info22 rfl (by decide) (by omega) [] (ok := fun _ => True) (okp := fun _ => True) ⟨_, rfl, Kd.R_nil _ _ _ _ _⟩ (fun _ hk => hk) trivial (of_decide_eq_true (by first | (with_reducible assumption) | assumption)) (Nat.le_trans (Nat.mul_le_mul_right _ (of_decide_eq_true (by first | (with_reducible assumption) | assumption) : (l0.length : Int).toNat ≤ 11728124029610)) (by omega)) (Below.refl _ _) (Nat.le_refl _) ?_; intro v562 w4 ho5 hb hg_ hnew_; clear hg_ hnew_; (first | rw [← Ny561.out] at ho5 | (simp only [Int.reduceToNat] at ho5; rw [← Ny561.out] at ho5)); have n0_ := Aside0.mk (Kd.S_lower ho5 (below_size (by repeat (first | (with_reducible first | exact HB.out | apply below_alloc | apply pw_below_drewN | apply below_drew1) | exact HB.out)))); have n1_ := Aside0.mk (below_step (by repeat (first | (with_reducible first | exact HB.out | apply below_alloc | apply pw_below_drewN | apply below_drew1) | exact HB.out)) hb); clear HB; have HO563 := n0_; have HB := n1_; clear n0_ n1_; clear hb ho5))
   go_loopg [11] k (fun kq v11 w' => ∃ (x3_1 : List (List Int)) (x11_1 : Int), v11 = .int .i64 x11_1 ∧ Aside0 (shunt_conflicts.l0 kq l0 x3_1 (l0.length : Int) x11_1 = some r) ∧ Aside0 (kq ≤ k) ∧ Aside0 (Kd.S (Kd.slice 3 (Kd.int .i64)) 22 w' w.heap.size (fun _ => True) v562 x3_1) ∧ Aside0 (Below w.heap.size w w'))
   case atStart => exact ⟨(y561), (0), (by first | rfl | (simp; done) | (simp [*]; done)), H', ⟨Nat.le_refl _⟩, ⟨by (with_reducible repeat (first | apply Kd.S_alloc | apply Kd.S_drewN | apply Kd.S_drew)); exact HO563.out⟩, ⟨by repeat (first | (with_reducible first | exact HB.out | apply below_alloc | apply pw_below_drewN | apply below_drew1) | exact HB.out)⟩⟩
   case round =>
    clear H'
    try clear c2
    try clear c2b0
    try clear c2b1
    try clear p2
    try clear c3
    try clear c3b0
    try clear c3b1
    obtain ⟨x3_1, x11_1, rfl, HA, HK1, HO_3, HB⟩ := hrel
    cases gk with
    | zero => exact absurd HA.out (by simp [shunt_conflicts.l0])
    | succ k1 =>
     have H := HA.out
     clear HA
     simp only [shunt_conflicts.l0] at H
     by_cases c6 : x11_1 < (l0.length : Int)
     ·rw [if_pos c6] at H
      have c6b0 : decide (x11_1 < (l0.length : Int)) = true := decide_eq_true c6
      clear c6
      have H' := Aside0.mk H
      clear H
      go_wp2
      go_loopg [15] k1 (fun kq v15 w' => ∃ (x3_2 : List (List Int)) (x15_2 : Int), v15 = .int .i64 x15_2 ∧ Aside0 (shunt_conflicts.l1 kq l0 x3_2 x11_1 (l0.length : Int) x11_1 x11_1 x15_2 = some r) ∧ Aside0 (kq ≤ k1) ∧ Aside0 (Kd.S (Kd.slice 3 (Kd.int .i64)) 22 w' w.heap.size (fun _ => True) v562 x3_2) ∧ Aside0 (Below w.heap.size w w'))
      case atStart => exact ⟨(x3_1), (0), (by first | rfl | (simp; done) | (simp [*]; done)), H', ⟨Nat.le_refl _⟩, ⟨by (with_reducible repeat (first | apply Kd.S_alloc | apply Kd.S_drewN | apply Kd.S_drew)); exact HO_3.out⟩, ⟨by repeat (first | (with_reducible first | exact HB.out | apply below_alloc | apply pw_below_drewN | apply below_drew1) | exact HB.out)⟩⟩
      case round =>
       clear H'
       try clear c2
       try clear c2b0
       try clear c2b1
       try clear p2
       try clear c3
       try clear c3b0
       try clear c3b1
       try clear c6
       try clear c6b0
       try clear p2
       obtain ⟨x3_2, x15_2, rfl, HA, HK2, HO_3, HB⟩ := hrel
       cases gk with
       | zero => exact absurd HA.out (by simp [shunt_conflicts.l1])
       | succ k2 =>
        have H := HA.out
        clear HA
        simp only [shunt_conflicts.l1] at H
        by_cases c7 : x15_2 < x11_1
        ·rw [if_pos c7] at H
         have c7b0 : decide (x15_2 < x11_1) = true := decide_eq_true c7
         clear c7
         replace H := Option.bind_eq_some_iff.mp H
         obtain ⟨t564, A80, H⟩ := H
         replace H : (if t564 > 0 then (if 0 ≤ x15_2 then (if x15_2 < (x3_2.length : Int) then (if (rd_L1 x3_2 x15_2).length < 17592186044416 then ((some (x3_2.set (x15_2 : Int).toNat ((rd_L1 x3_2 x15_2) ++ [x11_1]) : List (List Int))).bind fun y569 => (if 0 ≤ x11_1 then (if x11_1 < (x3_2.length : Int) then (if (rd_L1 y569 x11_1).length < 17592186044416 then (shunt_conflicts.l1 k2 l0 (y569.set (x11_1 : Int).toNat ((rd_L1 y569 x11_1) ++ [x15_2])) x11_1 (l0.length : Int) x11_1 x11_1 (wrap64 (x15_2 + 1))) else (none)) else (none)) else (none))) else (none)) else (none)) else (none)) else (shunt_conflicts.l1 k2 l0 x3_2 x11_1 (l0.length : Int) x11_1 x11_1 (wrap64 (x15_2 + 1)))) = some r := H
         have A8 := Aside0.mk A80
         clear A80
         by_cases c9 : t564 > 0
         ·rw [if_pos c9] at H
          have c9b0 : decide (0 < t564) = true := decide_eq_true c9
          clear c9
          by_cases c10 : 0 ≤ x15_2
          ·rw [if_pos c10] at H
           have c10b0 : decide (0 ≤ x15_2) = true := decide_eq_true c10
           clear c10
           by_cases c11 : x15_2 < (x3_2.length : Int)
           ·rw [if_pos c11] at H
            have c11b0 : decide (x15_2 < (x3_2.length : Int)) = true := decide_eq_true c11
            clear c11
            by_cases c12 : (rd_L1 x3_2 x15_2).length < 17592186044416
            ·rw [if_pos c12] at H
             have LMc12 := Aside0.mk c12
             clear c12
             obtain ⟨y566, hy566⟩ : ∃ y_ : List Int, y_ = ((rd_L1 x3_2 x15_2) ++ [x11_1]) := ⟨_, rfl⟩
             replace H : ((some (x3_2.set (x15_2 : Int).toNat y566 : List (List Int))).bind fun y569 => (if 0 ≤ x11_1 then (if x11_1 < (x3_2.length : Int) then (if (rd_L1 y569 x11_1).length < 17592186044416 then (shunt_conflicts.l1 k2 l0 (y569.set (x11_1 : Int).toNat ((rd_L1 y569 x11_1) ++ [x15_2])) x11_1 (l0.length : Int) x11_1 x11_1 (wrap64 (x15_2 + 1))) else (none)) else (none)) else (none))) = some r := by first | (rw [hy566]; with_reducible exact H) | (have H2_ := (Option.bind_some _ _).symm.trans H; rw [hy566]; with_reducible exact H2_) | (have H2_ := (Option.bind_some _ _).symm.trans H; with_reducible exact H2_) | with_reducible exact H | (rw [hy566]; exact H) | exact H
             have Ny566 := Aside0.mk hy566
             clear hy566
             obtain ⟨y569, hy569⟩ : ∃ y_ : List (List Int), y_ = (x3_2.set (x15_2 : Int).toNat y566) := ⟨_, rfl⟩
             replace H : (if 0 ≤ x11_1 then (if x11_1 < (x3_2.length : Int) then (if (rd_L1 y569 x11_1).length < 17592186044416 then (shunt_conflicts.l1 k2 l0 (y569.set (x11_1 : Int).toNat ((rd_L1 y569 x11_1) ++ [x15_2])) x11_1 (l0.length : Int) x11_1 x11_1 (wrap64 (x15_2 + 1))) else (none)) else (none)) else (none)) = some r := by first | (rw [hy569]; with_reducible exact H) | (have H2_ := (Option.bind_some _ _).symm.trans H; rw [hy569]; with_reducible exact H2_) | (have H2_ := (Option.bind_some _ _).symm.trans H; with_reducible exact H2_) | with_reducible exact H | (rw [hy569]; exact H) | exact H
             have Ny569 := Aside0.mk hy569
             clear hy569
             by_cases c14 : 0 ≤ x11_1
             ·rw [if_pos c14] at H
              have c14b0 : decide (0 ≤ x11_1) = true := decide_eq_true c14
              clear c14
              by_cases c15 : x11_1 < (x3_2.length : Int)
              ·rw [if_pos c15] at H
               have c15b0 : decide (x11_1 < (x3_2.length : Int)) = true := decide_eq_true c15
               clear c15
               by_cases c16 : (rd_L1 y569 x11_1).length < 17592186044416
               ·rw [if_pos c16] at H
                have LMc16 := Aside0.mk c16
                clear c16
                obtain ⟨y571, hy571⟩ : ∃ y_ : List Int, y_ = ((rd_L1 y569 x11_1) ++ [x15_2]) := ⟨_, rfl⟩
                replace H : (shunt_conflicts.l1 k2 l0 (y569.set (x11_1 : Int).toNat y571) x11_1 (l0.length : Int) x11_1 x11_1 (wrap64 (x15_2 + 1))) = some r := by first | (rw [hy571]; with_reducible exact H) | (have H2_ := (Option.bind_some _ _).symm.trans H; rw [hy571]; with_reducible exact H2_) | (have H2_ := (Option.bind_some _ _).symm.trans H; with_reducible exact H2_) | with_reducible exact H | (rw [hy571]; exact H) | exact H
                have Ny571 := Aside0.mk hy571
                clear hy571
                obtain ⟨y574, hy574⟩ : ∃ y_ : List (List Int), y_ = (y569.set (x11_1 : Int).toNat y571) := ⟨_, rfl⟩
                replace H : (shunt_conflicts.l1 k2 l0 y574 x11_1 (l0.length : Int) x11_1 x11_1 (wrap64 (x15_2 + 1))) = some r := by first | (rw [hy574]; with_reducible exact H) | (have H2_ := (Option.bind_some _ _).symm.trans H; rw [hy574]; with_reducible exact H2_) | (have H2_ := (Option.bind_some _ _).symm.trans H; with_reducible exact H2_) | with_reducible exact H | (rw [hy574]; exact H) | exact H
                have Ny574 := Aside0.mk hy574
                clear hy574
                have H' := Aside0.mk H
                clear H
                go_wp2_with (first | ((with_reducible refine gate_callee (f := 72) rfl ?_); refine goesL_ (some 21) rfl rfl Try.func72 (by kernel_rfl) rfl #[.slice A0 l0.length c0, .int .i64 x15_2, .int .i64 x11_1] rfl (by (try simp only [List.map_toArray, List.map_cons, List.map_nil]); first | done | rfl | (simp only [List.length_drop, List.length_take]; rfl)) ?_; (with_reducible refine (shunt_blocking.calls k2 _ _ l0 x15_2 x11_1 t564 _ ?side1 ?side2 A8.out).mono ?_); (case side1 => repeat (first | exact (Kd.C_below HR0.out HB.out) | (with_reducible refine Kd.C_alloc ?_ _) | (with_reducible refine Kd.C_drewN ?_ _) | (with_reducible refine Kd.C_drew ?_))); (case side2 => exact HC0.out); rintro e w' ⟨rfl, ⟨nd, rfl⟩⟩; refine ⟨_, rfl, ?_⟩; (try (rw [drewN_self wr]; generalize hq_ : World.drewN wr _ = wr; have n0_ : Aside0 (Kd.S (Kd.slice 3 (Kd.int .i64)) 22 wr w.heap.size (fun _ => True) v562 x3_2) := ⟨by rw [← hq_]; exact (by (with_reducible repeat (first | apply Kd.S_alloc | apply Kd.S_drewN | apply Kd.S_drew)); exact HO_3.out)⟩; have n1_ : Aside0 (Below w.heap.size w wr) := ⟨by rw [← hq_]; exact (by repeat (first | (with_reducible first | exact HB.out | apply below_alloc | apply pw_below_drewN | apply below_drew1) | exact HB.out))⟩; clear HO_3 HB hq_; have HO_3 := n0_; have HB := n1_; clear n0_ n1_)); obtain ⟨Ao18, co18, eo18⟩ := Kd.S_slice HO_3.out; subst eo18; have p565 : 0 ≤ (x15_2 : Int) := of_decide_eq_true (by first | (with_reducible assumption) | assumption); have q565 : x15_2 < (x3_2.length : Int) := of_decide_eq_true (by first | (with_reducible assumption) | assumption); obtain ⟨ad565, A565_0, c565_0, e565, hx565_0, hl565_0, hi565_0⟩ := at_L1 (Kd.S_reads' HO_3.out).2.2 x15_2 p565 q565; cases e565; obtain ⟨ce565, hce565, hMe565, hcc565⟩ := Kd.S_get HO_3.out [] x15_2 p565 (by first | exact q565 | exact of_decide_eq_true (by first | (with_reducible assumption) | assumption) | (have e_ := (Kd.S_reads' HO_3.out).1; omega)); obtain ⟨ve565_0, rfl, ge565_0⟩ := hMe565; have hv565_0 := hcc565 0 _ rfl; rw [Nat.add_zero, show ((Kd.slice 3 (Kd.int .i64))).sz = 1 from rfl, Nat.mul_one] at hv565_0; replace hv565_0 := Option.some.inj (hv565_0.symm.trans hx565_0); rw [hv565_0] at ge565_0; have HL565_0 := Aside0.mk (show Kd.R (Kd.int .i64) 3 _ _ _ _ (rd_L1 x3_2 x15_2) from ge565_0); clear hv565_0 ge565_0; have HX565_0 := Aside0.mk hx565_0; clear hcc565 hce565; have HR565_0 := Aside0.mk hi565_0; have HC565_0 := Aside0.mk hl565_0; clear hi565_0 hl565_0; replace p565 := eq_true p565; replace q565 := eq_true q565; obtain ⟨go19, co19, eo19, gb19, gl19, cl19, HG19⟩ := Kd.S_form HO_3.out (by have h_ : (x15_2 : Int) < ((x3_2.length : Int) : Int) := of_decide_eq_true (by first | (with_reducible assumption) | assumption); have h2_ : 0 ≤ (x15_2 : Int) := (of_decide_eq_true (by first | (with_reducible assumption) | assumption)); omega); (first | cases eo19 | (injection eo19 with ea_ en_ ec_; (first | subst ea_ | (injection ea_ with ea_; subst ea_)); subst ec_; clear en_)); have GB19 := Aside0.mk gb19; have GG19 := Aside0.mk HG19; clear gb19 gl19 HG19; (first | simp only [add_plain] at hx565_0 | skip); obtain ⟨oki19, ce19, hcl19, hM19, hcc19, _, _, hH19⟩ := Kd.S_elem HO_3.out [] (x15_2 : Int) (of_decide_eq_true (by first | (with_reducible assumption) | assumption)) (by have h_ : (x15_2 : Int) < ((x3_2.length : Int) : Int) := of_decide_eq_true (by first | (with_reducible assumption) | assumption); first | exact h_ | (have e_ := (Kd.S_reads' HO_3.out).1; omega) | simpa using h_); obtain ⟨ve19_0, rfl, ge19_0⟩ := hM19; have hv19 := hcc19 0 _ rfl; have hX19 := HX565_0.out; (try simp only [add_plain] at hX19); (try simp only [Nat.add_zero] at hv19); (try rw [show ((Kd.slice 3 (Kd.int .i64))).sz = 1 from rfl, Nat.mul_one] at hv19); replace hv19 := Option.some.inj (hv19.symm.trans hX19); subst hv19; clear hX19 hcc19 hcl19; have UU19 := Aside0.mk (show Kd.R (Kd.int .i64) 3 _ w.heap.size oki19 (.slice A565_0 (rd_L1 x3_2 x15_2).length c565_0) (rd_L1 x3_2 x15_2) from ge19_0); have HH19 := Aside0.mk hH19; have HN19 := Aside0.mk (Kd.S_reads' HO_3.out).1; clear hH19 ge19_0) | ((with_reducible refine gate_builtin (b := .append) (xs := #[.tmp 28, .tmp 30]) rfl ?_); at_builtin; refine Kd.R_append (Kd.int .i64) (w0 := w) w.heap.size rfl (.tmp 28) (.tmp 30) 22 3 (.int .i64 0) 8 rfl Try.underlying22 info3 rfl (by decide) (by omega) (.slice A565_0 (rd_L1 x3_2 x15_2).length c565_0) (rd_L1 x3_2 x15_2) x11_1 [.int .i64 x11_1] (fun k_ => oki19 k_ ∨ ((fun _ => True)) k_ ∧ wr.heap.size ≤ k_) (fun _ => False) rfl rfl ?aP (fun _ hk => hk.elim) ?aF ?aO ?aB ?aS ?aL ?_; (case aP => exact rfl); (case aB => exact (by repeat (first | (with_reducible first | exact HB.out | apply below_alloc | apply pw_below_drewN | apply below_drew1) | exact HB.out))); (case aF => exact (fun k_ hk => .inr ⟨trivial, hk⟩)); (case aO => exact (by (with_reducible repeat (first | apply Kd.R_alloc | apply Kd.R_drewN | apply Kd.R_drew)); exact Kd.R_mono UU19.out (fun _ hk => .inl hk))); (case aS => exact (below_size (by repeat (first | (with_reducible first | exact HB.out | apply below_alloc | apply pw_below_drewN | apply below_drew1) | exact HB.out)))); (case aL => have := LMc12.out; omega); intro v567 w20 ho hb hg hat; rw [← Ny566.out] at ho; have n0_ := Aside0.mk (hb); have n1_ := Aside0.mk (Kd.H_grown (Kd.H_widen (by repeat (first | exact HH19.out | refine Kd.H_alloc ?_ _ | refine Kd.H_drewN ?_ _ | refine Kd.H_drew ?_))) hg (fun k_ e_ => .inl (UU19.out.1 k_ e_))); have n2_ := Aside0.mk (ho); clear HB; clear HH19; clear HO_3; clear UU19; clear HL565_0; have HB := n0_; have HH19 := n1_; have HO568 := n2_; clear n0_ n1_ n2_; clear ho hb hg hat; have p13 : 0 ≤ (x15_2 : Int) := of_decide_eq_true (by first | (with_reducible assumption) | assumption); have q13 : (x15_2 : Int) < ((x3_2.length : Int) : Int) := of_decide_eq_true (by first | (with_reducible assumption) | assumption); replace p13 := eq_true p13; replace q13 := eq_true q13; obtain ⟨Ao23, co23, eo23⟩ := Kd.R_slice HO568.out; subst eo23; obtain ⟨_, _, hraw21, _, _, hcc21, _⟩ := Kd.H_raw HH19.out (of_decide_eq_true (by first | (with_reducible assumption) | assumption)) (by have h_ : (x15_2 : Int) < ((x3_2.length : Int) : Int) := of_decide_eq_true (by first | (with_reducible assumption) | assumption); first | exact h_ | (have e_ := (HN19.out); omega) | simpa using h_); obtain ⟨_, hfr21⟩ := Kd.H_at HH19.out (of_decide_eq_true (by first | (with_reducible assumption) | assumption)) (by have h_ : (x15_2 : Int) < ((x3_2.length : Int) : Int) := of_decide_eq_true (by first | (with_reducible assumption) | assumption); first | exact h_ | (have e_ := (HN19.out); omega) | simpa using h_); have hx21_0 := hcc21 0 _ rfl; have hf21_0 := hfr21 0; (try simp only [Nat.add_zero] at hx21_0 hf21_0); (try rw [show ((Kd.slice 3 (Kd.int .i64))).sz = 1 from rfl, Nat.mul_one] at hx21_0); (try rw [show ((Kd.slice 3 (Kd.int .i64))).sz = 1 from rfl, Nat.mul_one] at hf21_0); have HP21 := Kd.S_seg0 HH19.out (of_decide_eq_true (by first | (with_reducible assumption) | assumption)) (by have h_ : (x15_2 : Int) < ((x3_2.length : Int) : Int) := of_decide_eq_true (by first | (with_reducible assumption) | assumption); first | exact h_ | (have e_ := (HN19.out); omega) | simpa using h_) (seg := [.slice Ao23 y566.length co23]) (j := 0) (show 1 ≤ 1 from by decide) (x' := y566) (Kd.M_row HO568.out) (fun _ hk => hk); (try simp only [show ((Kd.slice 3 (Kd.int .i64))).sz = 1 from rfl, Nat.mul_one, Nat.add_zero] at HP21); clear hcc21 hfr21) | ((with_reducible refine gate_store (t := 22) (p := 32) rfl ?_); refine store_event (t := 22) (p := 32) (v := ?vo_w22) (w1 := (w20.setCell ⟨go19, (x15_2 : Int).toNat, none⟩ (.slice Ao23 y566.length co23))) ?hg ?ho ?hn ?hr ?_; (case ho => rfl); (case hg => rfl); (case hn => rfl); (case hr => first | (go_simp; done) | (go_simp; rfl)); intro w22 hw; have hg : w20.grownBy w22 (some go19) := (by rw [hw]; exact HP21.2); have hp_ : Kd.S (Kd.slice 3 (Kd.int .i64)) 22 w22 w.heap.size (fun _ => True) (.slice (some ⟨go19, 0, none⟩) x3_2.length co18) y569 := (by rw [hw, Ny569.out]; exact HP21.1); clear HP21; have n0_ := Aside0.mk ((by rw [hw]; exact below_set HB.out GB19.out : Below w.heap.size w w22)); have n1_ := Aside0.mk (hp_); clear HB; clear HO568; clear HH19; have HB := n0_; have HO_3 := n1_; clear n0_ n1_; clear hg hw hp_ hraw21; have p570 : 0 ≤ (x11_1 : Int) := of_decide_eq_true (by first | (with_reducible assumption) | assumption); have q570 : x11_1 < (y569.length : Int) := (by have h_ : (x11_1 : Int) < ((x3_2.length : Int) : Int) := of_decide_eq_true (by first | (with_reducible assumption) | assumption); first | (have e_ := (Kd.S_reads' HO_3.out).1; omega) | simpa only [Ny569.out, List.length_set] using h_); have ql570 : ((x11_1 : Int) < ((x3_2.length : Int) : Int)) = True := eq_true (of_decide_eq_true (by first | (with_reducible assumption) | assumption)); obtain ⟨ad570, A570_0, c570_0, e570, hx570_0, hl570_0, hi570_0⟩ := at_L1 (Kd.S_reads' HO_3.out).2.2 x11_1 p570 q570; obtain rfl : (⟨go19, 0, none⟩ : Addr) = ad570 := (by injection e570); obtain ⟨ce570, hce570, hMe570, hcc570⟩ := Kd.S_get HO_3.out [] x11_1 p570 (by first | exact q570 | exact of_decide_eq_true (by first | (with_reducible assumption) | assumption) | (have e_ := (Kd.S_reads' HO_3.out).1; omega)); obtain ⟨ve570_0, rfl, ge570_0⟩ := hMe570; have hv570_0 := hcc570 0 _ rfl; rw [Nat.add_zero, show ((Kd.slice 3 (Kd.int .i64))).sz = 1 from rfl, Nat.mul_one] at hv570_0; replace hv570_0 := Option.some.inj (hv570_0.symm.trans hx570_0); rw [hv570_0] at ge570_0; have HL570_0 := Aside0.mk (show Kd.R (Kd.int .i64) 3 _ _ _ _ (rd_L1 y569 x11_1) from ge570_0); clear hv570_0 ge570_0; have HX570_0 := Aside0.mk hx570_0; clear hcc570 hce570; (first | simp only [add_plain] at hx570_0 | simp only [add_at] at hx570_0 | simp only [Addr.add, Nat.zero_add] at hx570_0 | skip); have HR570_0 := Aside0.mk hi570_0; have HC570_0 := Aside0.mk hl570_0; clear hi570_0 hl570_0; replace p570 := eq_true p570; replace q570 := eq_true q570; obtain ⟨oki24, ce24, hcl24, hM24, hcc24, _, _, hH24⟩ := Kd.S_elem HO_3.out [] (x11_1 : Int) (of_decide_eq_true (by first | (with_reducible assumption) | assumption)) (by have h_ : (x11_1 : Int) < ((x3_2.length : Int) : Int) := of_decide_eq_true (by first | (with_reducible assumption) | assumption); first | exact h_ | (have e_ := (Kd.S_reads' HO_3.out).1; omega) | simpa using h_); obtain ⟨ve24_0, rfl, ge24_0⟩ := hM24; have hv24 := hcc24 0 _ rfl; have hX24 := HX570_0.out; (try simp only [add_plain] at hX24); (try simp only [Nat.add_zero] at hv24); (try rw [show ((Kd.slice 3 (Kd.int .i64))).sz = 1 from rfl, Nat.mul_one] at hv24); replace hv24 := Option.some.inj (hv24.symm.trans hX24); subst hv24; clear hX24 hcc24 hcl24; have UU24 := Aside0.mk (show Kd.R (Kd.int .i64) 3 _ w.heap.size oki24 (.slice A570_0 (rd_L1 y569 x11_1).length c570_0) (rd_L1 y569 x11_1) from ge24_0); have HH24 := Aside0.mk hH24; have HN24 := Aside0.mk (Kd.S_reads' HO_3.out).1; clear hH24 ge24_0) | ((with_reducible refine gate_builtin (b := .append) (xs := #[.tmp 38, .tmp 40]) rfl ?_); at_builtin; refine Kd.R_append (Kd.int .i64) (w0 := w) w.heap.size rfl (.tmp 38) (.tmp 40) 22 3 (.int .i64 0) 8 rfl Try.underlying22 info3 rfl (by decide) (by omega) (.slice A570_0 (rd_L1 y569 x11_1).length c570_0) (rd_L1 y569 x11_1) x15_2 [.int .i64 x15_2] (fun k_ => oki24 k_ ∨ ((fun _ => True)) k_ ∧ w22.heap.size ≤ k_) (fun _ => False) rfl rfl ?aP (fun _ hk => hk.elim) ?aF ?aO ?aB ?aS ?aL ?_; (case aP => exact rfl); (case aB => exact (by repeat (first | (with_reducible first | exact HB.out | apply below_alloc | apply pw_below_drewN | apply below_drew1) | exact HB.out))); (case aF => exact (fun k_ hk => .inr ⟨trivial, hk⟩)); (case aO => exact (by (with_reducible repeat (first | apply Kd.R_alloc | apply Kd.R_drewN | apply Kd.R_drew)); exact Kd.R_mono UU24.out (fun _ hk => .inl hk))); (case aS => exact (below_size (by repeat (first | (with_reducible first | exact HB.out | apply below_alloc | apply pw_below_drewN | apply below_drew1) | exact HB.out)))); (case aL => have := LMc16.out; omega); intro v572 w25 ho hb hg hat; rw [← Ny571.out] at ho; have n0_ := Aside0.mk (hb); have n1_ := Aside0.mk (Kd.H_grown (Kd.H_widen (by repeat (first | exact HH24.out | refine Kd.H_alloc ?_ _ | refine Kd.H_drewN ?_ _ | refine Kd.H_drew ?_))) hg (fun k_ e_ => .inl (UU24.out.1 k_ e_))); have n2_ := Aside0.mk (ho); clear HB; clear HH24; clear HO_3; clear UU24; clear HL570_0; have HB := n0_; have HH24 := n1_; have HO573 := n2_; clear n0_ n1_ n2_; clear ho hb hg hat; have p17 : 0 ≤ (x11_1 : Int) := of_decide_eq_true (by first | (with_reducible assumption) | assumption); have q17 : (x11_1 : Int) < ((x3_2.length : Int) : Int) := of_decide_eq_true (by first | (with_reducible assumption) | assumption); replace p17 := eq_true p17; replace q17 := eq_true q17; obtain ⟨Ao28, co28, eo28⟩ := Kd.R_slice HO573.out; subst eo28; obtain ⟨_, _, hraw26, _, _, hcc26, _⟩ := Kd.H_raw HH24.out (of_decide_eq_true (by first | (with_reducible assumption) | assumption)) (by have h_ : (x11_1 : Int) < ((x3_2.length : Int) : Int) := of_decide_eq_true (by first | (with_reducible assumption) | assumption); first | exact h_ | (have e_ := (HN24.out); omega) | simpa using h_); obtain ⟨_, hfr26⟩ := Kd.H_at HH24.out (of_decide_eq_true (by first | (with_reducible assumption) | assumption)) (by have h_ : (x11_1 : Int) < ((x3_2.length : Int) : Int) := of_decide_eq_true (by first | (with_reducible assumption) | assumption); first | exact h_ | (have e_ := (HN24.out); omega) | simpa using h_); have hx26_0 := hcc26 0 _ rfl; have hf26_0 := hfr26 0; (try simp only [Nat.add_zero] at hx26_0 hf26_0); (try rw [show ((Kd.slice 3 (Kd.int .i64))).sz = 1 from rfl, Nat.mul_one] at hx26_0); (try rw [show ((Kd.slice 3 (Kd.int .i64))).sz = 1 from rfl, Nat.mul_one] at hf26_0); have HP26 := Kd.S_seg0 HH24.out (of_decide_eq_true (by first | (with_reducible assumption) | assumption)) (by have h_ : (x11_1 : Int) < ((x3_2.length : Int) : Int) := of_decide_eq_true (by first | (with_reducible assumption) | assumption); first | exact h_ | (have e_ := (HN24.out); omega) | simpa using h_) (seg := [.slice Ao28 y571.length co28]) (j := 0) (show 1 ≤ 1 from by decide) (x' := y571) (Kd.M_row HO573.out) (fun _ hk => hk); (try simp only [show ((Kd.slice 3 (Kd.int .i64))).sz = 1 from rfl, Nat.mul_one, Nat.add_zero] at HP26); clear hcc26 hfr26) | ((with_reducible refine gate_store (t := 22) (p := 42) rfl ?_); refine store_event (t := 22) (p := 42) (v := ?vo_w27) (w1 := (w25.setCell ⟨go19, (x11_1 : Int).toNat, none⟩ (.slice Ao28 y571.length co28))) ?hg ?ho ?hn ?hr ?_; (case ho => rfl); (case hg => rfl); (case hn => rfl); (case hr => first | (go_simp; done) | (go_simp; rfl)); intro w27 hw; have hg : w25.grownBy w27 (some go19) := (by rw [hw]; exact HP26.2); have hp_ : Kd.S (Kd.slice 3 (Kd.int .i64)) 22 w27 w.heap.size (fun _ => True) (.slice (some ⟨go19, 0, none⟩) x3_2.length co18) y574 := (by rw [hw, Ny574.out]; exact HP26.1); clear HP26; have n0_ := Aside0.mk ((by rw [hw]; exact below_set HB.out GB19.out : Below w.heap.size w w27)); have n1_ := Aside0.mk (hp_); clear HB; clear HO573; clear HH24; have HB := n0_; have HO_3 := n1_; clear n0_ n1_; clear hg hw hp_ hraw26))
                go_roundg k2
                case measure => have := HK1.out; have := HK2.out; omega
                case rel => exact ⟨(y574), (wrap64 (x15_2 + 1)), (by first | rfl | (simp; done) | (simp [*]; done)), H', ⟨by have := HK1.out; have := HK2.out; omega⟩, ⟨by (with_reducible repeat (first | apply Kd.S_alloc | apply Kd.S_drewN | apply Kd.S_drew)); exact HO_3.out⟩, ⟨by repeat (first | (with_reducible first | exact HB.out | apply below_alloc | apply pw_below_drewN | apply below_drew1) | exact HB.out)⟩⟩
               ·rw [if_neg c16] at H
                exact absurd H (by simp)
              ·rw [if_neg c15] at H
               exact absurd H (by simp)
             ·rw [if_neg c14] at H
              exact absurd H (by simp)
            ·rw [if_neg c12] at H
             exact absurd H (by simp)
           ·rw [if_neg c11] at H
            exact absurd H (by simp)
          ·rw [if_neg c10] at H
           exact absurd H (by simp)
         ·rw [if_neg c9] at H
          have c9b0 : decide (0 < t564) = false := decide_eq_false c9
          clear c9
          have H' := Aside0.mk H
          clear H
          go_wp2_with (first | ((with_reducible refine gate_callee (f := 72) rfl ?_); refine goesL_ (some 21) rfl rfl Try.func72 (by kernel_rfl) rfl #[.slice A0 l0.length c0, .int .i64 x15_2, .int .i64 x11_1] rfl (by (try simp only [List.map_toArray, List.map_cons, List.map_nil]); first | done | rfl | (simp only [List.length_drop, List.length_take]; rfl)) ?_; (with_reducible refine (shunt_blocking.calls k2 _ _ l0 x15_2 x11_1 t564 _ ?side1 ?side2 A8.out).mono ?_); (case side1 => repeat (first | exact (Kd.C_below HR0.out HB.out) | (with_reducible refine Kd.C_alloc ?_ _) | (with_reducible refine Kd.C_drewN ?_ _) | (with_reducible refine Kd.C_drew ?_))); (case side2 => exact HC0.out); rintro e w' ⟨rfl, ⟨nd, rfl⟩⟩; refine ⟨_, rfl, ?_⟩))
          go_roundg k2
          case measure => have := HK1.out; have := HK2.out; omega
          case rel => exact ⟨(x3_2), (wrap64 (x15_2 + 1)), (by first | rfl | (simp; done) | (simp [*]; done)), H', ⟨by have := HK1.out; have := HK2.out; omega⟩, ⟨by (with_reducible repeat (first | apply Kd.S_alloc | apply Kd.S_drewN | apply Kd.S_drew)); exact HO_3.out⟩, ⟨by repeat (first | (with_reducible first | exact HB.out | apply below_alloc | apply pw_below_drewN | apply below_drew1) | exact HB.out)⟩⟩
        ·rw [if_neg c7] at H
         have c7b0 : decide (x15_2 < x11_1) = false := decide_eq_false c7
         clear c7
         have H' := Aside0.mk H
         clear H
         go_wp2
         go_roundg k2
         case measure => have := HK1.out; have := HK2.out; omega
         case rel => exact ⟨(x3_2), (wrap64 (x11_1 + 1)), (by first | rfl | (simp; done) | (simp [*]; done)), H', ⟨by have := HK1.out; have := HK2.out; omega⟩, ⟨by (with_reducible repeat (first | apply Kd.S_alloc | apply Kd.S_drewN | apply Kd.S_drew)); exact HO_3.out⟩, ⟨by repeat (first | (with_reducible first | exact HB.out | apply below_alloc | apply pw_below_drewN | apply below_drew1) | exact HB.out)⟩⟩
     ·rw [if_neg c6] at H
      have c6b0 : decide (x11_1 < (l0.length : Int)) = false := decide_eq_false c6
      clear c6
      obtain rfl := Option.some.inj H
      go_wp2
      go_ret
      exact ⟨_, by first | rfl | (simp [errW_none, errW_some] <;> rfl) | (simp [*, errW_none, errW_some] <;> rfl), by (with_reducible repeat (first | apply Kd.S_alloc | apply Kd.S_drewN | apply Kd.S_drew)); exact HO_3.out, by repeat (first | (with_reducible first | exact HB.out | apply below_alloc | apply pw_below_drewN | apply below_drew1) | exact HB.out)⟩
  ·rw [if_neg c3] at H
   exact absurd H (by simp)
 ·rw [if_neg c2] at H
  exact absurd H (by simp)

def encO (f : Int → Option Int) : Value → Option Value := encI (fun y => (f y).map (.int .i64))
theorem encO_get (f : Int → Option Int) (x : Int) : (encO f (.int .i64 x)).getD (.int .i64 0) = .int .i64 ((f x).getD 0) := by
 unfold encO encI
 cases h : f x <;> simp [h]
theorem encO_is (f : Int → Option Int) (x : Int) : (encO f (.int .i64 x)).isSome = (f x).isSome := by
 unfold encO encI
 cases h : f x <;> simp [h]
theorem encO_none {f : Int → Option Int} {x : Int} (h : f x = none) : encO f (.int .i64 x) = none := by
 unfold encO encI
 simp [h]
theorem encO_put (f : Int → Option Int) (x v : Int) : encO (put_ f x v) (.int .i64 x) = some (.int .i64 v) := by
 unfold encO encI put_
 simp
theorem encO_far (f : Int → Option Int) (x v : Int) : ∀ u, u ≠ .int .i64 x → encO (put_ f x v) u = encO f u := by
 intro u hu
 unfold encO encI put_
 split
 ·rename_i y
  have : y ≠ x := fun e => hu (by rw [e])
  simp [this]
 ·rfl
theorem stacks_zero (w : World) : (zeroValue 3).run Try.prog w = .ok (.int .i64 0) w := by kernel_rfl
theorem stacks_key {x : Int} (h0 : 0 ≤ x) (h1 : x ≤ 1000) : keyOf Try.prog 3 (.int .i64 x) = some (.int .i64 x) := Maps.keyOf_int_mk Try.underlying3 (wfI (by omega) (by omega))
theorem stacks_look {W : World} {b m : Nat} {f : Int → Option Int} (h : MapAt W Try.prog 3 b m (encO f)) {x : Int} (h0 : 0 ≤ x) (h1 : x ≤ 1000) : (Instr.lookup 80 (.map (some b)) (.int .i64 x) false).run Try.prog W = .ok (.int .i64 ((f x).getD 0)) W := by
 rw [h.look (Maps.int_keyed Try.underlying3) Try.underlying80 (stacks_zero _) (stacks_key h0 h1), encO_get]
theorem stacks_lookOk {W : World} {b m : Nat} {f : Int → Option Int} (h : MapAt W Try.prog 3 b m (encO f)) {x : Int} (h0 : 0 ≤ x) (h1 : x ≤ 1000) : (Instr.lookup 80 (.map (some b)) (.int .i64 x) true).run Try.prog W = .ok (.tuple #[.int .i64 ((f x).getD 0), .bool (f x).isSome]) W := by
 rw [h.lookOk (Maps.int_keyed Try.underlying3) Try.underlying80 (stacks_zero _) (stacks_key h0 h1), encO_get, encO_is]
set_option maxHeartbeats 4000000 in
set_option maxRecDepth 100000 in
theorem way_fn.calls (fr : Int → Option Int) (g gb bf mf : Nat) (a : Int) (r : List Int) (W : World) (hb : W.cell? ⟨gb, 0, none⟩ = some (.pointer (some ⟨g, 0, none⟩))) (hc : W.cell? ⟨g, 2, none⟩ = some (.map (some bf))) (hm : MapAt W Try.prog 3 bf mf (encO fr)) (h : wayF fr 100 a = some r) :
  Calls Try.prog 82 #[.int .i64 a, .pointer (some ⟨gb, 0, none⟩)] W fun e w' => ∃ v, e = .returned v ∧ Kd.R (Kd.int .i64) 3 w' W.heap.size (fun _ => True) v r ∧ Below W.heap.size W w' := by
 have HB := Aside0.mk hb
 have HC := Aside0.mk hc
 have HM := Aside0.mk hm
 have HH := Aside0.mk h
 clear hb hc hm h
 go_enter Try.func82, Try.ntmps82
 go_wp2
 go_loopg [0, 4] 100 (fun kq v0 v4 wr => ∃ (x : Int) (out : List Int), v0 = .int .i64 x ∧ Aside0 (∃ rest, wayF fr kq x = some rest ∧ out ++ rest = r) ∧ Aside0 (out.length + kq = 100) ∧ Aside0 (Kd.R (Kd.int .i64) 3 wr W.heap.size (fun _ => True) v4 out) ∧ Aside0 (Below W.heap.size W wr))
 case atStart => exact ⟨a, [], rfl, ⟨⟨r, HH.out, rfl⟩⟩, ⟨rfl⟩, ⟨Kd.R_nil _ _ _ _ _⟩, ⟨Below.refl _ _⟩⟩
 case round =>
  clear HH
  obtain ⟨x, out, rfl, HW, HL, HR, HBW⟩ := hrel
  obtain ⟨rest, hw, hrest⟩ := HW.out
  have hl := HL.out
  obtain ⟨m, hm⟩ : ∃ m, gk = m + 1 := by
   cases gk with
   | zero => cases hw
   | succ m => exact ⟨m, rfl⟩
  rw [hm] at hw
  unfold wayF at hw
  obtain ⟨A, c, hv⟩ := Kd.R_slice HR.out
  subst hv
  by_cases c1 : 0 ≤ x
  ·rw [if_pos c1] at hw
   by_cases c3 : x ≤ 1000
   case neg => rw [if_neg c3] at hw; cases hw
   rw [if_pos c3] at hw
   obtain ⟨rest', hw1, hw2⟩ := Option.map_eq_some_iff.mp hw
   have c1b : decide (0 ≤ x) = true := decide_eq_true c1
   have hsz : W.heap.size ≤ wr.heap.size := HBW.out.size
   obtain ⟨v1, w1, hrun, ho, hB1, hgr, hat⟩ := append_one (Kd.int .i64) (P := Try.prog) (w0 := W) (W := wr) W.heap.size 22 22 3 (.int .i64 0) 8 Try.underlying22 info3 rfl (by decide) (by omega) (v := .slice A out.length c) (xs := out) x [.int .i64 x] (ok := fun _ => True) (fun _ => False) rfl (fun _ h => h.elim) (fun _ _ => trivial) HR.out HBW.out hsz (by omega)
   have hcb : w1.cell? ⟨gb, 0, none⟩ = some (.pointer (some ⟨g, 0, none⟩)) := (hB1.cell (World.block_lt_of_cell? W _ HB.out)).trans HB.out
   have hcc : w1.cell? ⟨g, 2, none⟩ = some (.map (some bf)) := (hB1.cell (World.block_lt_of_cell? W _ HC.out)).trans HC.out
   have hlk := stacks_look (HM.out.below hB1) c1 c3
   have HRUN := Aside0.mk hrun
   have HO := Aside0.mk ho
   have HB1 := Aside0.mk hB1
   have HW2 := Aside0.mk (show ∃ rest, wayF fr m ((fr x).getD 0) = some rest ∧ (out ++ [x]) ++ rest = r from ⟨rest', hw1, by rw [← hrest, ← hw2]; simp⟩)
   have HL2 := Aside0.mk (show (out ++ [x]).length + m = 100 by simp; omega)
   have HM1 := Aside0.mk (show m < gk by omega)
   clear hrun ho hB1 hgr hat hw hw1 hw2 hrest hm hl c1 c3 HW HR HL hsz
   go_wp2_with (at_builtin; go_must (refine wpList_appendRun _ rfl _ _ _ rfl HRUN.out rfl rfl rfl ?_))
   go_roundg m
   case measure => exact HM1.out
   case rel => exact ⟨_, out ++ [x], rfl, HW2, HL2, HO, HB1⟩
  ·rw [if_neg c1] at hw
   have c1b : decide (0 ≤ x) = false := decide_eq_false c1
   obtain rfl : [] = rest := Option.some.inj hw
   rw [List.append_nil] at hrest
   subst hrest
   clear hw hm hl c1 HW HL
   go_wp2
   go_ret
   exact ⟨_, rfl, HR.out, HBW.out⟩
theorem wayF_len (fr : Int → Option Int) : ∀ (f : Nat) (x : Int) (r : List Int), wayF fr f x = some r → r.length ≤ f
 | 0, _, _, h => by cases h
 | f + 1, x, r, h => by
  unfold wayF at h
  by_cases c : 0 ≤ x
  ·rw [if_pos c] at h
   by_cases c2 : x ≤ 1000
   ·rw [if_pos c2] at h
    obtain ⟨r', h1, h2⟩ := Option.map_eq_some_iff.mp h
    have := wayF_len fr f _ _ h1
    rw [← h2]
    simp
    omega
   ·rw [if_neg c2] at h; cases h
  ·rw [if_neg c] at h
   obtain rfl := Option.some.inj h
   simp
theorem rev2 (x y : Int) (s : List Int) : rd (x :: y :: s).reverse (s.length : Int) = y ∧ (x :: y :: s).reverse.take (s.length + 1) = (y :: s).reverse := by
 constructor
 ·unfold rd
  simp only [List.reverse_cons, List.append_assoc]
  rw [List.getD_eq_getElem?_getD, List.getElem?_append_right (by simp)]
  simp
 ·rw [List.reverse_cons (a := x), List.take_left' (by simp)]
theorem trimR_stop {P Q : List Int} (h : ¬ ∃ x y s x' t, P = x :: y :: s ∧ Q = x' :: y :: t) : trimR P Q = (P, Q) := by
 match P, Q with
 | [], _ => unfold trimR; rfl
 | [_], _ => unfold trimR; rfl
 | _ :: _ :: _, [] => unfold trimR; rfl
 | _ :: _ :: _, [_] => unfold trimR; rfl
 | x :: y :: s, x' :: y' :: t =>
  unfold trimR
  exact if_neg (fun e => h ⟨x, y, s, x', t, rfl, by rw [e]⟩)
theorem trim_cases {P Q : List Int} (h : ¬ ∃ x y s x' t, P = x :: y :: s ∧ Q = x' :: y :: t) : P.length ≤ 1 ∨ (1 < P.length ∧ Q.length ≤ 1) ∨ ∃ x y s x' y' t, P = x :: y :: s ∧ Q = x' :: y' :: t ∧ y ≠ y' := by
 match P, Q with
 | [], _ => exact .inl (by simp)
 | [_], _ => exact .inl (by simp)
 | _ :: _ :: _, [] => exact .inr (.inl (by simp))
 | _ :: _ :: _, [_] => exact .inr (.inl (by simp))
 | x :: y :: s, x' :: y' :: t => exact .inr (.inr ⟨x, y, s, x', y', t, rfl, rfl, fun e => h ⟨x, y, s, x', t, rfl, by rw [e]⟩⟩)
set_option maxHeartbeats 4000000 in
set_option maxRecDepth 100000 in
theorem close_fn.calls (k : Nat) (fr : Int → Option Int) (wc W : World) (g bs bf mf : Nat) (a b : Int) (c : List Int) (vn vc : Value) (hg : W.heap[g]? = some (.cells #[vn, .map (some bs), .map (some bf), vc] 91 (0, 0))) (hgc : wc.heap.size ≤ g) (hBc : Below wc.heap.size wc W) (hm : MapAt W Try.prog 3 bf mf (encO fr)) (h : closeF (slices_Reverse_int_int.f k) fr a b = some c) :
  Calls Try.prog 80 #[.pointer (some ⟨g, 0, none⟩), .int .i64 a, .int .i64 b] W fun e w' => e = .returned (.tuple #[]) ∧ ∃ vc', w'.cell? ⟨g, 3, none⟩ = some vc' ∧ Kd.R (Kd.int .i64) 3 w' W.heap.size (fun _ => True) vc' c ∧ Below wc.heap.size wc w' := by
 unfold closeF at h
 replace h := Option.bind_eq_some_iff.mp h
 obtain ⟨p, hp, h⟩ := h
 replace h := Option.bind_eq_some_iff.mp h
 obtain ⟨q, hq, h⟩ := h
 replace h := Option.bind_eq_some_iff.mp h
 obtain ⟨q', hq', h⟩ := h
 obtain ⟨T, hT⟩ : ∃ T, T = trimR p.reverse q.reverse := ⟨_, rfl⟩
 rw [← hT] at hq' h
 by_cases hne : q'.length = 0
 case pos => rw [if_pos hne] at h; cases h
 rw [if_neg hne] at h
 have HRES := Aside0.mk (Option.some.inj h)
 have HNE := Aside0.mk (show 1 ≤ q'.length by omega)
 have HREV := Aside0.mk hq'
 have HT := Aside0.mk hT.symm
 have HPL := Aside0.mk (wayF_len _ _ _ _ hp)
 have HQL := Aside0.mk (wayF_len _ _ _ _ hq)
 obtain ⟨w1, hw1⟩ : ∃ w1, w1 = W.alloc (.cells #[.pointer (some ⟨g, 0, none⟩)] 88) := ⟨_, rfl⟩
 have hbw1 : Below W.heap.size W w1 := by rw [hw1]; exact below_alloc (Below.refl _ _) _
 have hgl : g < W.heap.size := by
  apply Nat.lt_of_not_le
  intro hn
  simp [hn] at hg
 have hgb : w1.heap[W.heap.size]? = some (.cells #[.pointer (some ⟨g, 0, none⟩)] 88 (0, 0)) := by rw [hw1]; exact heap_alloc_new W _
 have hg1 : w1.heap[g]? = some (.cells #[vn, .map (some bs), .map (some bf), vc] 91 (0, 0)) := (hbw1.block g hgl).trans hg
 have HWA := Aside0.mk (way_fn.calls fr g W.heap.size bf mf a p w1 ((blk_cell hgb 0).trans rfl) ((blk_cell hg1 2).trans rfl) (hm.below hbw1) hp)
 have HWB := Aside0.mk (fun (w2 : World) (h2 : Below w1.heap.size w1 w2) => way_fn.calls fr g W.heap.size bf mf b q w2 ((h2.cell (World.block_lt_of_cell? w1 ⟨W.heap.size, 0, none⟩ ((blk_cell hgb 0).trans rfl))).trans ((blk_cell hgb 0).trans rfl)) ((h2.cell (World.block_lt_of_cell? w1 ⟨g, 2, none⟩ ((blk_cell hg1 2).trans rfl))).trans ((blk_cell hg1 2).trans rfl)) ((hm.below hbw1).below h2) hq)
 have HG1 := Aside0.mk hg1
 have HGB := Aside0.mk hgb
 have HBW1 := Aside0.mk hbw1
 have HGC := Aside0.mk (show wc.heap.size ≤ g ∧ g < W.heap.size from ⟨hgc, hgl⟩)
 have HBC := Aside0.mk hBc
 have hmf : ∀ (fn : Fn) (first cap : Array Value) (w : World), (Instr.makeFunc fn first cap).run Try.prog w = .ok (.func fn first cap) w := fun _ _ _ _ => rfl
 clear h hp hq hq' hT hne hbw1 hgl hgb hg1 hg hgc hBc hm
 subst hw1
 go_enter Try.func80, Try.ntmps80
 go_wp2_with (first
  | (go_at_call 82; go_must (first
    | ((with_reducible refine HWA.out.mono ?_); rintro e w2 ⟨v2, rfl, hR2, hB2⟩; obtain ⟨A2, c2, e2⟩ := Kd.R_slice hR2; subst e2; have HR2 := Aside0.mk hR2; have HB2 := Aside0.mk hB2; clear hR2 hB2)
    | ((with_reducible refine (HWB.out _ HB2.out).mono ?_); rintro e w3 ⟨v3, rfl, hR3, hB3⟩; obtain ⟨A3, c3, e3⟩ := Kd.R_slice hR3; subst e3; have HR3 := Aside0.mk hR3; have HB3 := Aside0.mk hB3; clear hR3 hB3))))
 have HP3 := Aside0.mk (Kd.R_below (Kd.R_mono (Kd.R_bound HR2.out) (fun k hk => hk.2.2.1) : Kd.R (Kd.int .i64) 3 w2 _ (fun k => k < w2.heap.size) _ p) HB3.out)
 have HQ3 := Aside0.mk (Kd.R_mono (Kd.R_bound HR3.out) (fun k hk => hk.2.1) : Kd.R (Kd.int .i64) 3 w3 w2.heap.size (fun k => w2.heap.size ≤ k) _ q)
 clear HWA HWB HR2 HR3
 have HFU := Aside0.mk (show p.length ≤ 100 from HPL.out)
 go_loopg [7, 8] p.length (fun kq v7 v8 wr => ∃ (P Q : List Int) (Ap Aq : Option Addr) (cp cq : Nat), v7 = .slice Ap P.length cp ∧ v8 = .slice Aq Q.length cq ∧ Aside0 (kq = P.length ∧ P.length ≤ 100) ∧ Aside0 (trimR P Q = T) ∧ Aside0 (Q.length ≤ 100) ∧ Aside0 (Kd.R (Kd.int .i64) 3 w3 (W.alloc (.cells #[.pointer (some ⟨g, 0, none⟩)] 88)).heap.size (fun k => k < w2.heap.size) (.slice Ap P.length cp) P.reverse) ∧ Aside0 (Kd.R (Kd.int .i64) 3 w3 w2.heap.size (fun k => w2.heap.size ≤ k) (.slice Aq Q.length cq) Q.reverse) ∧ Drawn0 w3 wr)
 case atStart => exact ⟨p.reverse, q.reverse, A2, A3, c2, c3, by rw [List.length_reverse], by rw [List.length_reverse], ⟨⟨by rw [List.length_reverse], by rw [List.length_reverse]; exact HFU.out⟩⟩, HT, ⟨by rw [List.length_reverse]; exact HQL.out⟩, ⟨by rw [List.length_reverse, List.reverse_reverse]; exact HP3.out⟩, ⟨by rw [List.length_reverse, List.reverse_reverse]; exact HQ3.out⟩, by repeat (first | exact Drawn0.refl _ | apply Drawn0.step)⟩
 case round =>
  clear HT HP3 HQ3 HPL HQL
  obtain ⟨P, Q, Ap, Aq, cp, cq, rfl, rfl, HK, HT, HQL, HP, HQ, ⟨nd, rfl⟩⟩ := hrel
  by_cases ct : ∃ x y s x' t, P = x :: y :: s ∧ Q = x' :: y :: t
  ·obtain ⟨x, y, s, x', tt, rfl, rfl⟩ := ct
   have hT2 : trimR (y :: s) (y :: tt) = T := by
    have := HT.out
    rw [show trimR (x :: y :: s) (x' :: y :: tt) = if y = y then trimR (y :: s) (y :: tt) else (x :: y :: s, x' :: y :: tt) from rfl, if_pos rfl] at this
    exact this
   have hk := HK.out.1
   have HPB := Aside0.mk HK.out.2
   have hql := HQL.out
   have hkp := (Kd.R_reads' HP.out)
   have hkq := (Kd.R_reads' HQ.out)
   obtain ⟨np, hnp⟩ : ∃ np : Nat, np = (x :: y :: s).length := ⟨_, rfl⟩
   obtain ⟨nq, hnq⟩ : ∃ nq : Nat, nq = (x' :: y :: tt).length := ⟨_, rfl⟩
   have hnp2 : np = s.length + 2 := by rw [hnp]; rfl
   have hnq2 : nq = tt.length + 2 := by rw [hnq]; rfl
   have hmp : (np : Int) ≤ 9223372036854775807 := by have := hkp.2.2.2.1; simp at this; omega
   obtain ⟨jp, hjp⟩ : ∃ jp : Int, jp = (s.length : Int) := ⟨_, rfl⟩
   obtain ⟨jq, hjq⟩ : ∃ jq : Int, jq = (tt.length : Int) := ⟨_, rfl⟩
   obtain ⟨kp, hkp1⟩ : ∃ kp : Int, kp = (s.length : Int) + 1 := ⟨_, rfl⟩
   obtain ⟨kq, hkq1⟩ : ∃ kq : Int, kq = (tt.length : Int) + 1 := ⟨_, rfl⟩
   obtain ⟨adp, eap, hxp⟩ := Kd.at_int hkp.2.2 jp (by omega) (by simp; omega)
   obtain ⟨adq, eaq, hxq⟩ := Kd.at_int hkq.2.2 jq (by omega) (by simp; omega)
   subst eap
   subst eaq
   rw [hjp, (rev2 x y s).1, ← hjp] at hxp
   rw [hjq, (rev2 x' y tt).1, ← hjq] at hxq
   have hP2 := Kd.R_take (m := s.length + 1) HP.out (by simp)
   have hQ2 := Kd.R_take (m := tt.length + 1) HQ.out (by simp)
   rw [(rev2 x y s).2] at hP2
   rw [(rev2 x' y tt).2] at hQ2
   have hcp : np ≤ cp := by have := hkp.2.1; omega
   have hcq : nq ≤ cq := by have := hkq.2.1; omega
   obtain ⟨i0, hi0, _, _, _⟩ := info_parts info3
   have hcutp := cut_to (P := Try.prog) 22 3 .i64 Try.underlying22 hi0 (some adp) np cp kp (by omega) (by omega) hcp
   have hcutq := cut_to (P := Try.prog) 22 3 .i64 Try.underlying22 hi0 (some adq) nq cq kq (by omega) (by omega) hcq
   have hwp : IntKind.i64.wrap ((np : Int) - 2) = jp := by rw [IntWalk.i64_in _ (by omega)]; omega
   have hwq : IntKind.i64.wrap ((nq : Int) - 2) = jq := by rw [IntWalk.i64_in _ (by omega)]; omega
   have hwp1 : IntKind.i64.wrap ((np : Int) - 1) = kp := by rw [IntWalk.i64_in _ (by omega)]; omega
   have hwq1 : IntKind.i64.wrap ((nq : Int) - 1) = kq := by rw [IntWalk.i64_in _ (by omega)]; omega
   have g1 : decide (1 < np) = true := decide_eq_true (by omega)
   have g2 : decide ((1 : Int) < (np : Int)) = true := decide_eq_true (by omega)
   have g3 : decide (1 < nq) = true := decide_eq_true (by omega)
   have g4 : decide ((1 : Int) < (nq : Int)) = true := decide_eq_true (by omega)
   have pj := eq_true (show 0 ≤ jp by omega)
   have qj := eq_true (show jp < (np : Int) by omega)
   have pj2 := eq_true (show 0 ≤ jq by omega)
   have qj2 := eq_true (show jq < (nq : Int) by omega)
   have hyy : (y == y) = true := beq_self_eq_true y
   have HE := Aside0.mk (show kp.toNat = (y :: s).length ∧ kq.toNat = (y :: tt).length by simp; omega)
   have HP2 := Aside0.mk hP2
   have HQ2 := Aside0.mk hQ2
   have HT2 := Aside0.mk hT2
   have HQL2 := Aside0.mk (show (y :: tt).length ≤ 100 by simp at hql ⊢; omega)
   have HM := Aside0.mk (show (y :: s).length < gk by rw [hk]; simp)
   rw [← hnp, ← hnq]
   clear hT2 hk hql hkp hkq hnp hnq hnp2 hnq2 hjp hjq hkp1 hkq1 hP2 hQ2 hcp hcq hi0 HT HQL HP HQ HK hmp
   go_wp2
   repeat (go_quiet (fail); try go_wp2)
   go_roundg ((y :: s).length)
   case measure => exact HM.out
   case rel => exact ⟨y :: s, y :: tt, _, _, _, _, by rw [HE.out.1], by rw [HE.out.2], ⟨⟨rfl, by have := HM.out; have := HPB.out; simp at *; omega⟩⟩, HT2, HQL2, HP2, HQ2, by repeat (first | exact Drawn0.refl _ | apply Drawn0.step)⟩
  ·have hTT : T = (P, Q) := by rw [← HT.out]; exact trimR_stop ct
   subst hTT
   clear HT
   have HKL := Aside0.mk HK.out.2
   have hkp := (Kd.R_reads' HP.out)
   have hkq := (Kd.R_reads' HQ.out)
   rcases trim_cases ct with hs | ⟨hs1, hs2⟩ | ⟨x, y, s, x', y', tt, rfl, rfl, hyy⟩
   ·obtain ⟨np, hnp⟩ : ∃ np : Nat, np = P.length := ⟨_, rfl⟩
    have g1 : decide (1 < P.length) = false := decide_eq_false (by omega)
    have g2 : decide ((1 : Int) < (P.length : Int)) = false := decide_eq_false (by omega)
    clear hs hkp hkq hnp
    have HRV := Aside0.mk (fun n => slices_Reverse_int_int.calls k (fun k => w2.heap.size ≤ k) (.slice Aq Q.length cq) Q.reverse q' w2 (w3.drewN n) (pw_below_drewN HB3.out n) (Kd.R_drewN HQ.out n) HREV.out)
    go_wp2
    repeat (go_quiet (fail); try (go_wp2_with (go_at_call 68; go_must ((with_reducible refine (HRV.out _).mono ?_); rintro e w4 ⟨rfl, hR4, hB4, hK4⟩; have HR4 := Aside0.mk hR4; have HB4 := Aside0.mk hB4; have HP4 := Aside0.mk (Kd.R_step (Kd.R_drewN HP.out _) (fun k hk hl => hK4.2 k hl (Nat.not_le.mpr hk))); clear hR4 hB4 hK4))))
    have hlen4 : Q.length = q'.length := (Kd.R_reads' HR4.out).1
    have hn1 := HNE.out
    have hql := HQL.out
    have hkl := HKL.out
    obtain ⟨adq, eaq, _⟩ := Kd.at_int (Kd.R_reads' HR4.out).2.2 0 (by omega) (by omega)
    subst eaq
    obtain ⟨i0, hi0, _, hsz0, _⟩ := info_parts info3
    have hcf := cut_from (P := Try.prog) 22 3 .i64 Try.underlying22 hi0 1 hsz0 (some adq) Q.length cq 1 (by omega) (by omega)
    have hr5 := Kd.C_drop (m := 1) (Kd.R_reads' HR4.out).2.2 (by omega) (by have := (Kd.R_reads' HR4.out).2.1; omega : q'.length ≤ cq)
    have hs1 : (Kd.int .i64).sz = 1 := rfl
    rw [hs1] at hr5
    rw [show (1 : Int).toNat = 1 from rfl] at hcf
    obtain ⟨A5, hA5⟩ : ∃ A5, (if cq = 1 then (some adq : Option Addr) else (some adq : Option Addr).map (·.add (1 * 1))) = A5 := ⟨_, rfl⟩
    rw [hA5] at hcf hr5
    have hl5 : (q'.drop 1).length = Q.length - 1 := by rw [List.length_drop]; omega
    rw [← hl5] at hcf
    obtain ⟨D, hD⟩ : ∃ D, q'.drop 1 = D := ⟨_, rfl⟩
    rw [hD] at hcf hr5 hl5
    have HC5 := Aside0.mk hr5
    have hBW4 : Below W.heap.size W w4 := below_then (below_step HBW1.out HB2.out) (below_step HBW1.out HB2.out).size HB4.out
    have HBW4 := Aside0.mk hBW4
    have hg4 : w4.heap[g]? = some (.cells #[vn, .map (some bs), .map (some bf), vc] 91 (0, 0)) := (hBW4.block g HGC.out.2).trans (((HBW1.out.block g HGC.out.2).symm).trans HG1.out)
    have hgbb : w4.heap[W.heap.size]? = some (.cells #[.pointer (some ⟨g, 0, none⟩)] 88 (0, 0)) := ((below_then HB2.out HB2.out.size HB4.out).block W.heap.size (by simp)).trans HGB.out
    have hgb4 : w4.cell? ⟨W.heap.size, 0, none⟩ = some (.pointer (some ⟨g, 0, none⟩)) := (blk_cell hgbb 0).trans rfl
    have HGBB := Aside0.mk hgbb
    have hne5 : some W.heap.size ≠ (Value.slice Ap P.length cp).ownBlock := Kd.R_ne HP4.out hgbb (by decide)
    have HNE5 := Aside0.mk hne5
    have HG4 := Aside0.mk hg4
    have hgne : g ≠ W.heap.size := by have := HGC.out.2; omega
    have HKP := Aside0.mk (fun (W' : World) (hW' : Below w4.heap.size w4 W') => (hW'.cell (World.block_lt_of_cell? w4 _ hgb4)).trans hgb4)
    have HPL2 := Aside0.mk (show (P.reverse.length + D.length) * 8 ≤ 140737488355328 by rw [List.length_reverse]; omega)
    have HFIN := Aside0.mk (show P.reverse ++ D = c by rw [← hD]; exact HRES.out)
    have hne4 : some g ≠ (Value.slice Ap P.length cp).ownBlock := Kd.R_ne HP4.out hg4 (by decide)
    have HNE4 := Aside0.mk hne4
    clear hr5 hi0 hsz0 hA5 hl5 hlen4 hn1 hql hBW4 hg4 hgb4 hne4 hs1 hkl HRV hD hgbb hne5
    go_region_held_law (fun W' => W'.cell? ⟨W.heap.size, 0, none⟩ = some (.pointer (some ⟨g, 0, none⟩)))
     ((first | assumption | (rw [World.cell?_setCell_far _ _ _ _ hgne]; assumption) | exact HKP.out _ (by repeat (first | exact Below.refl _ _ | apply pw_below_drewN | apply below_drew1))))
     ((refine Kd.R_append_rows_step (Kd.int .i64) (w0 := W) W.heap.size rfl _ _ 22 3 (.int .i64 0) 8 rfl Try.underlying22 info3 rfl (by decide) (by omega) (.slice Ap P.length cp) P.reverse D _ _ _ (fun _ => True) (fun _ => False) rfl rfl (Kd.R_lower (Kd.R_mono (Kd.R_drew HP4.out) (fun _ _ => trivial)) (by simp)) (Kd.C_drew HC5.out) (fun _ _ h => h) (fun _ h => h.elim) (fun _ _ => trivial) (by repeat (first | exact HBW4.out | apply pw_below_drewN | apply below_drew1)) (show W.heap.size ≤ w4.heap.size from HBW4.out.size) HPL2.out ?_; intro v5 w5 hR5 hB5 hg5 _; obtain ⟨A6, c6, e6⟩ := Kd.R_slice hR5; subst e6; (rw [show (P.reverse ++ D).length = P.length + D.length by simp] at hR5); have hb5 : w5.heap[g]? = some (.cells #[vn, .map (some bs), .map (some bf), vc] 91 (0, 0)) := blk_grown (show w4.drew.heap[g]? = _ from HG4.out) hg5 HNE4.out; have hc5 : w5.cell? ⟨g, 3, none⟩ = some vc := (blk_cell hb5 3).trans rfl; have hf5 : w5.frozen? ⟨g, 3, none⟩ = false := blk_frozen hb5 3; have hS5 : w5.cell? ⟨W.heap.size, 0, none⟩ = some (.pointer (some ⟨g, 0, none⟩)) := (blk_cell (blk_grown (show w4.drew.heap[W.heap.size]? = _ from HGBB.out) hg5 HNE5.out) 0).trans rfl; have HR5 := Aside0.mk hR5; have HB5 := Aside0.mk hB5; have HG5 := Aside0.mk hb5; clear hR5 hB5 hg5 hb5; (try simp only [Act.put, List.getElem_toArray, List.getElem_cons_succ, List.getElem_cons_zero, List.setIfInBounds_toArray, List.set_cons_zero, List.set_cons_succ])))
    all_goals (
     go_wp2
     go_end0
     exact ⟨rfl, .slice A6 (P.length + D.length) c6, (blk_cell (blk_put HG5.out 3 _ rfl) 3).trans rfl, by rw [← HFIN.out]; exact Kd.R_set HR5.out HG5.out (by simp [Kd.int, Kd.scalar]) 3 _, Below.setCell (below_then HBC.out HBC.out.size HB5.out) (p := ⟨g, 3, none⟩) HGC.out.1 _⟩)
   ·have g1 : decide (1 < P.length) = true := decide_eq_true (by omega)
    have g2 : decide ((1 : Int) < (P.length : Int)) = true := decide_eq_true (by omega)
    have g3 : decide (1 < Q.length) = false := decide_eq_false (by omega)
    have g4 : decide ((1 : Int) < (Q.length : Int)) = false := decide_eq_false (by omega)
    clear hs1 hs2 hkp hkq
    have HRV := Aside0.mk (fun n => slices_Reverse_int_int.calls k (fun k => w2.heap.size ≤ k) (.slice Aq Q.length cq) Q.reverse q' w2 (w3.drewN n) (pw_below_drewN HB3.out n) (Kd.R_drewN HQ.out n) HREV.out)
    go_wp2
    repeat (go_quiet (fail); try (go_wp2_with (go_at_call 68; go_must ((with_reducible refine (HRV.out _).mono ?_); rintro e w4 ⟨rfl, hR4, hB4, hK4⟩; have HR4 := Aside0.mk hR4; have HB4 := Aside0.mk hB4; have HP4 := Aside0.mk (Kd.R_step (Kd.R_drewN HP.out _) (fun k hk hl => hK4.2 k hl (Nat.not_le.mpr hk))); clear hR4 hB4 hK4))))
    have hlen4 : Q.length = q'.length := (Kd.R_reads' HR4.out).1
    have hn1 := HNE.out
    have hql := HQL.out
    have hkl := HKL.out
    obtain ⟨adq, eaq, _⟩ := Kd.at_int (Kd.R_reads' HR4.out).2.2 0 (by omega) (by omega)
    subst eaq
    obtain ⟨i0, hi0, _, hsz0, _⟩ := info_parts info3
    have hcf := cut_from (P := Try.prog) 22 3 .i64 Try.underlying22 hi0 1 hsz0 (some adq) Q.length cq 1 (by omega) (by omega)
    have hr5 := Kd.C_drop (m := 1) (Kd.R_reads' HR4.out).2.2 (by omega) (by have := (Kd.R_reads' HR4.out).2.1; omega : q'.length ≤ cq)
    have hs1 : (Kd.int .i64).sz = 1 := rfl
    rw [hs1] at hr5
    rw [show (1 : Int).toNat = 1 from rfl] at hcf
    obtain ⟨A5, hA5⟩ : ∃ A5, (if cq = 1 then (some adq : Option Addr) else (some adq : Option Addr).map (·.add (1 * 1))) = A5 := ⟨_, rfl⟩
    rw [hA5] at hcf hr5
    have hl5 : (q'.drop 1).length = Q.length - 1 := by rw [List.length_drop]; omega
    rw [← hl5] at hcf
    obtain ⟨D, hD⟩ : ∃ D, q'.drop 1 = D := ⟨_, rfl⟩
    rw [hD] at hcf hr5 hl5
    have HC5 := Aside0.mk hr5
    have hBW4 : Below W.heap.size W w4 := below_then (below_step HBW1.out HB2.out) (below_step HBW1.out HB2.out).size HB4.out
    have HBW4 := Aside0.mk hBW4
    have hg4 : w4.heap[g]? = some (.cells #[vn, .map (some bs), .map (some bf), vc] 91 (0, 0)) := (hBW4.block g HGC.out.2).trans (((HBW1.out.block g HGC.out.2).symm).trans HG1.out)
    have hgbb : w4.heap[W.heap.size]? = some (.cells #[.pointer (some ⟨g, 0, none⟩)] 88 (0, 0)) := ((below_then HB2.out HB2.out.size HB4.out).block W.heap.size (by simp)).trans HGB.out
    have hgb4 : w4.cell? ⟨W.heap.size, 0, none⟩ = some (.pointer (some ⟨g, 0, none⟩)) := (blk_cell hgbb 0).trans rfl
    have HGBB := Aside0.mk hgbb
    have hne5 : some W.heap.size ≠ (Value.slice Ap P.length cp).ownBlock := Kd.R_ne HP4.out hgbb (by decide)
    have HNE5 := Aside0.mk hne5
    have HG4 := Aside0.mk hg4
    have hgne : g ≠ W.heap.size := by have := HGC.out.2; omega
    have HKP := Aside0.mk (fun (W' : World) (hW' : Below w4.heap.size w4 W') => (hW'.cell (World.block_lt_of_cell? w4 _ hgb4)).trans hgb4)
    have HPL2 := Aside0.mk (show (P.reverse.length + D.length) * 8 ≤ 140737488355328 by rw [List.length_reverse]; omega)
    have HFIN := Aside0.mk (show P.reverse ++ D = c by rw [← hD]; exact HRES.out)
    have hne4 : some g ≠ (Value.slice Ap P.length cp).ownBlock := Kd.R_ne HP4.out hg4 (by decide)
    have HNE4 := Aside0.mk hne4
    clear hr5 hi0 hsz0 hA5 hl5 hlen4 hn1 hql hBW4 hg4 hgb4 hne4 hs1 hkl HRV hD hgbb hne5
    go_region_held_law (fun W' => W'.cell? ⟨W.heap.size, 0, none⟩ = some (.pointer (some ⟨g, 0, none⟩)))
     ((first | assumption | (rw [World.cell?_setCell_far _ _ _ _ hgne]; assumption) | exact HKP.out _ (by repeat (first | exact Below.refl _ _ | apply pw_below_drewN | apply below_drew1))))
     ((refine Kd.R_append_rows_step (Kd.int .i64) (w0 := W) W.heap.size rfl _ _ 22 3 (.int .i64 0) 8 rfl Try.underlying22 info3 rfl (by decide) (by omega) (.slice Ap P.length cp) P.reverse D _ _ _ (fun _ => True) (fun _ => False) rfl rfl (Kd.R_lower (Kd.R_mono (Kd.R_drew HP4.out) (fun _ _ => trivial)) (by simp)) (Kd.C_drew HC5.out) (fun _ _ h => h) (fun _ h => h.elim) (fun _ _ => trivial) (by repeat (first | exact HBW4.out | apply pw_below_drewN | apply below_drew1)) (show W.heap.size ≤ w4.heap.size from HBW4.out.size) HPL2.out ?_; intro v5 w5 hR5 hB5 hg5 _; obtain ⟨A6, c6, e6⟩ := Kd.R_slice hR5; subst e6; (rw [show (P.reverse ++ D).length = P.length + D.length by simp] at hR5); have hb5 : w5.heap[g]? = some (.cells #[vn, .map (some bs), .map (some bf), vc] 91 (0, 0)) := blk_grown (show w4.drew.heap[g]? = _ from HG4.out) hg5 HNE4.out; have hc5 : w5.cell? ⟨g, 3, none⟩ = some vc := (blk_cell hb5 3).trans rfl; have hf5 : w5.frozen? ⟨g, 3, none⟩ = false := blk_frozen hb5 3; have hS5 : w5.cell? ⟨W.heap.size, 0, none⟩ = some (.pointer (some ⟨g, 0, none⟩)) := (blk_cell (blk_grown (show w4.drew.heap[W.heap.size]? = _ from HGBB.out) hg5 HNE5.out) 0).trans rfl; have HR5 := Aside0.mk hR5; have HB5 := Aside0.mk hB5; have HG5 := Aside0.mk hb5; clear hR5 hB5 hg5 hb5; (try simp only [Act.put, List.getElem_toArray, List.getElem_cons_succ, List.getElem_cons_zero, List.setIfInBounds_toArray, List.set_cons_zero, List.set_cons_succ])))
    all_goals (
     go_wp2
     go_end0
     exact ⟨rfl, .slice A6 (P.length + D.length) c6, (blk_cell (blk_put HG5.out 3 _ rfl) 3).trans rfl, by rw [← HFIN.out]; exact Kd.R_set HR5.out HG5.out (by simp [Kd.int, Kd.scalar]) 3 _, Below.setCell (below_then HBC.out HBC.out.size HB5.out) (p := ⟨g, 3, none⟩) HGC.out.1 _⟩)
   ·generalize hP : x :: y :: s = P at *
    generalize hQ : x' :: y' :: tt = Q at *
    have hnp2 : P.length = s.length + 2 := by rw [← hP]; rfl
    have hnq2 : Q.length = tt.length + 2 := by rw [← hQ]; rfl
    have hkl := HKL.out
    have hql := HQL.out
    obtain ⟨jp, hjp⟩ : ∃ jp : Int, jp = (s.length : Int) := ⟨_, rfl⟩
    obtain ⟨jq, hjq⟩ : ∃ jq : Int, jq = (tt.length : Int) := ⟨_, rfl⟩
    obtain ⟨adp, eap, hxp⟩ := Kd.at_int hkp.2.2 jp (by omega) (by rw [List.length_reverse]; omega)
    obtain ⟨adq0, eaq0, hxq⟩ := Kd.at_int hkq.2.2 jq (by omega) (by rw [List.length_reverse]; omega)
    subst eap
    subst eaq0
    rw [show rd P.reverse jp = y by rw [← hP, hjp]; exact (rev2 x y s).1] at hxp
    rw [show rd Q.reverse jq = y' by rw [← hQ, hjq]; exact (rev2 x' y' tt).1] at hxq
    have hwp : IntKind.i64.wrap ((P.length : Int) - 2) = jp := by rw [IntWalk.i64_in _ (by omega)]; omega
    have hwq : IntKind.i64.wrap ((Q.length : Int) - 2) = jq := by rw [IntWalk.i64_in _ (by omega)]; omega
    have g1 : decide (1 < P.length) = true := decide_eq_true (by omega)
    have g2 : decide ((1 : Int) < (P.length : Int)) = true := decide_eq_true (by omega)
    have g3 : decide (1 < Q.length) = true := decide_eq_true (by omega)
    have g4 : decide ((1 : Int) < (Q.length : Int)) = true := decide_eq_true (by omega)
    have pj := eq_true (show 0 ≤ jp by omega)
    have qj := eq_true (show jp < (P.length : Int) by omega)
    have pj2 := eq_true (show 0 ≤ jq by omega)
    have qj2 := eq_true (show jq < (Q.length : Int) by omega)
    have hyb : (y == y') = false := beq_eq_false_iff_ne.mpr hyy
    clear hP hQ hnp2 hnq2 hjp hjq hkp hkq hkl hql hyy ct
    have HRV := Aside0.mk (fun n => slices_Reverse_int_int.calls k (fun k => w2.heap.size ≤ k) (.slice (some adq0) Q.length cq) Q.reverse q' w2 (w3.drewN n) (pw_below_drewN HB3.out n) (Kd.R_drewN HQ.out n) HREV.out)
    go_wp2
    repeat (go_quiet (fail); try (go_wp2_with (go_at_call 68; go_must ((with_reducible refine (HRV.out _).mono ?_); rintro e w4 ⟨rfl, hR4, hB4, hK4⟩; have HR4 := Aside0.mk hR4; have HB4 := Aside0.mk hB4; have HP4 := Aside0.mk (Kd.R_step (Kd.R_drewN HP.out _) (fun k hk hl => hK4.2 k hl (Nat.not_le.mpr hk))); clear hR4 hB4 hK4))))
    have hlen4 : Q.length = q'.length := (Kd.R_reads' HR4.out).1
    have hn1 := HNE.out
    have hql := HQL.out
    have hkl := HKL.out
    obtain ⟨adq, eaq, _⟩ := Kd.at_int (Kd.R_reads' HR4.out).2.2 0 (by omega) (by omega)
    cases eaq
    obtain ⟨i0, hi0, _, hsz0, _⟩ := info_parts info3
    have hcf := cut_from (P := Try.prog) 22 3 .i64 Try.underlying22 hi0 1 hsz0 (some adq0) Q.length cq 1 (by omega) (by omega)
    have hr5 := Kd.C_drop (m := 1) (Kd.R_reads' HR4.out).2.2 (by omega) (by have := (Kd.R_reads' HR4.out).2.1; omega : q'.length ≤ cq)
    have hs1 : (Kd.int .i64).sz = 1 := rfl
    rw [hs1] at hr5
    rw [show (1 : Int).toNat = 1 from rfl] at hcf
    obtain ⟨A5, hA5⟩ : ∃ A5, (if cq = 1 then (some adq0 : Option Addr) else (some adq0 : Option Addr).map (·.add (1 * 1))) = A5 := ⟨_, rfl⟩
    rw [hA5] at hcf hr5
    have hl5 : (q'.drop 1).length = Q.length - 1 := by rw [List.length_drop]; omega
    rw [← hl5] at hcf
    obtain ⟨D, hD⟩ : ∃ D, q'.drop 1 = D := ⟨_, rfl⟩
    rw [hD] at hcf hr5 hl5
    have HC5 := Aside0.mk hr5
    have hBW4 : Below W.heap.size W w4 := below_then (below_step HBW1.out HB2.out) (below_step HBW1.out HB2.out).size HB4.out
    have HBW4 := Aside0.mk hBW4
    have hg4 : w4.heap[g]? = some (.cells #[vn, .map (some bs), .map (some bf), vc] 91 (0, 0)) := (hBW4.block g HGC.out.2).trans (((HBW1.out.block g HGC.out.2).symm).trans HG1.out)
    have hgbb : w4.heap[W.heap.size]? = some (.cells #[.pointer (some ⟨g, 0, none⟩)] 88 (0, 0)) := ((below_then HB2.out HB2.out.size HB4.out).block W.heap.size (by simp)).trans HGB.out
    have hgb4 : w4.cell? ⟨W.heap.size, 0, none⟩ = some (.pointer (some ⟨g, 0, none⟩)) := (blk_cell hgbb 0).trans rfl
    have HGBB := Aside0.mk hgbb
    have hne5 : some W.heap.size ≠ (Value.slice (some adp) P.length cp).ownBlock := Kd.R_ne HP4.out hgbb (by decide)
    have HNE5 := Aside0.mk hne5
    have HG4 := Aside0.mk hg4
    have hgne : g ≠ W.heap.size := by have := HGC.out.2; omega
    have HKP := Aside0.mk (fun (W' : World) (hW' : Below w4.heap.size w4 W') => (hW'.cell (World.block_lt_of_cell? w4 _ hgb4)).trans hgb4)
    have HPL2 := Aside0.mk (show (P.reverse.length + D.length) * 8 ≤ 140737488355328 by rw [List.length_reverse]; omega)
    have HFIN := Aside0.mk (show P.reverse ++ D = c by rw [← hD]; exact HRES.out)
    have hne4 : some g ≠ (Value.slice (some adp) P.length cp).ownBlock := Kd.R_ne HP4.out hg4 (by decide)
    have HNE4 := Aside0.mk hne4
    clear hr5 hi0 hsz0 hA5 hl5 hlen4 hn1 hql hBW4 hg4 hgb4 hne4 hs1 hkl HRV hD hgbb hne5
    go_region_held_law (fun W' => W'.cell? ⟨W.heap.size, 0, none⟩ = some (.pointer (some ⟨g, 0, none⟩)))
     ((first | assumption | (rw [World.cell?_setCell_far _ _ _ _ hgne]; assumption) | exact HKP.out _ (by repeat (first | exact Below.refl _ _ | apply pw_below_drewN | apply below_drew1))))
     ((refine Kd.R_append_rows_step (Kd.int .i64) (w0 := W) W.heap.size rfl _ _ 22 3 (.int .i64 0) 8 rfl Try.underlying22 info3 rfl (by decide) (by omega) (.slice (some adp) P.length cp) P.reverse D _ _ _ (fun _ => True) (fun _ => False) rfl rfl (Kd.R_lower (Kd.R_mono (Kd.R_drew HP4.out) (fun _ _ => trivial)) (by simp)) (Kd.C_drew HC5.out) (fun _ _ h => h) (fun _ h => h.elim) (fun _ _ => trivial) (by repeat (first | exact HBW4.out | apply pw_below_drewN | apply below_drew1)) (show W.heap.size ≤ w4.heap.size from HBW4.out.size) HPL2.out ?_; intro v5 w5 hR5 hB5 hg5 _; obtain ⟨A6, c6, e6⟩ := Kd.R_slice hR5; subst e6; (rw [show (P.reverse ++ D).length = P.length + D.length by simp] at hR5); have hb5 : w5.heap[g]? = some (.cells #[vn, .map (some bs), .map (some bf), vc] 91 (0, 0)) := blk_grown (show w4.drew.heap[g]? = _ from HG4.out) hg5 HNE4.out; have hc5 : w5.cell? ⟨g, 3, none⟩ = some vc := (blk_cell hb5 3).trans rfl; have hf5 : w5.frozen? ⟨g, 3, none⟩ = false := blk_frozen hb5 3; have hS5 : w5.cell? ⟨W.heap.size, 0, none⟩ = some (.pointer (some ⟨g, 0, none⟩)) := (blk_cell (blk_grown (show w4.drew.heap[W.heap.size]? = _ from HGBB.out) hg5 HNE5.out) 0).trans rfl; have HR5 := Aside0.mk hR5; have HB5 := Aside0.mk hB5; have HG5 := Aside0.mk hb5; clear hR5 hB5 hg5 hb5; (try simp only [Act.put, List.getElem_toArray, List.getElem_cons_succ, List.getElem_cons_zero, List.setIfInBounds_toArray, List.set_cons_zero, List.set_cons_succ])))
    all_goals (
     go_wp2
     go_end0
     exact ⟨rfl, .slice A6 (P.length + D.length) c6, (blk_cell (blk_put HG5.out 3 _ rfl) 3).trans rfl, by rw [← HFIN.out]; exact Kd.R_set HR5.out HG5.out (by simp [Kd.int, Kd.scalar]) 3 _, Below.setCell (below_then HBC.out HBC.out.size HB5.out) (p := ⟨g, 3, none⟩) HGC.out.1 _⟩)
/-- Only these three blocks, of those that were there, have changed. -/
theorem lit_new (W : World) (x : Int) : Kd.R (Kd.int .i64) 3 (W.alloc (.cells #[.int .i64 x] 3)) W.heap.size (fun _ => True) (.slice (some ⟨W.heap.size, 0, none⟩) 1 1) [x] := by
 refine ⟨fun k hk => trivial, [.int .i64 x], ?_, ?_⟩
 ·have h2 := World.ownsRow_lit (base := W.heap.size) (e := 3) (size := 1) W #[.int .i64 x] 1 (Nat.le_refl _) (by decide) (by simp)
  exact (by simpa using h2 : (W.alloc (.cells #[.int .i64 x] 3)).ownsRow W.heap.size 3 1 (.slice (some ⟨W.heap.size, 0, none⟩) 1 1) 1 [.int .i64 x])
 ·exact Reps.one (show Kd.M (Kd.int .i64) _ _ _ x [.int .i64 x] from rfl) (Reps.none _ _)
def Chg (W w : World) (g bs bf : Nat) : Prop := W.heap.size ≤ w.heap.size ∧ ∀ k, k < W.heap.size → k ≠ bs → k ≠ bf → k ≠ g → w.heap[k]? = W.heap[k]?
structure ColAt (wc W0 W : World) (g bs bf : Nat) (vn vc : Value) (c : Col) (ms mf M : Nat) : Prop where
 blk : W.heap[g]? = some (.cells #[vn, .map (some bs), .map (some bf), vc] 91 (0, 0))
 side : MapAt W Try.prog 3 bs ms (encO c.1)
 frm : MapAt W Try.prog 3 bf mf (encO c.2.1)
 ms_le : ms ≤ M + c.2.2.length
 mf_le : mf ≤ M + c.2.2.length
 below : Below wc.heap.size wc W
 chg : Chg W0 W g bs bf
theorem ColAt.drewN {wc W0 W : World} {g bs bf : Nat} {vn vc : Value} {c : Col} {ms mf M : Nat} (h : ColAt wc W0 W g bs bf vn vc c ms mf M) (n : Nat) : ColAt wc W0 (W.drewN n) g bs bf vn vc c ms mf M :=
 ⟨h.blk, h.side.drewN n, h.frm.drewN n, h.ms_le, h.mf_le, pw_below_drewN h.below n, h.chg⟩
theorem encO_zero (f : Int → Option Int) (x : Int) : encO (put_ f x 0) (.int .i64 x) = some (.int .i64 0) := encO_put f x 0
theorem grown_block {W W1 : World} {b : Nat} (h : W.grownBy W1 (some b)) : ∀ k, k < W.heap.size → k ≠ b → W1.heap[k]? = W.heap[k]? := fun k hk hne => h.block k hk (fun e => hne (by injection e))
/-- The entries of both maps for a new key, and the stores into them. -/
theorem col_entries {W : World} {base bs bf ms mf : Nat} {sd fr : Int → Option Int} (hs : MapAt W Try.prog 3 bs ms (encO sd)) (hf : MapAt W Try.prog 3 bf mf (encO fr)) (hne : bs ≠ bf) (hbs : base ≤ bs) (hbf : base ≤ bf) {x : Int} (h0 : 0 ≤ x) (h1 : x ≤ 1000) (hsx : sd x = none) (hfx : fr x = none) (hm1 : ms < maxLen) (hm2 : mf < maxLen) (u v : Int) :
  ∃ (t1 t2 : Nat → Int) (W1 W2 W3 W4 : Nat → World), ∀ n,
   (Instr.mapEntry 80 (.map (some bs)) (.int .i64 x)).run Try.prog (W.drewN n) = .ok (.tuple #[.int .i64 0, .int .i64 (t1 n)]) (W1 n) ∧
   (Instr.entryStore 80 (.map (some bs)) (.int .i64 (t1 n)) (.int .i64 u)).run Try.prog (W1 n) = .ok () (W2 n) ∧
   (Instr.mapEntry 80 (.map (some bf)) (.int .i64 x)).run Try.prog (W2 n) = .ok (.tuple #[.int .i64 0, .int .i64 (t2 n)]) (W3 n) ∧
   (Instr.entryStore 80 (.map (some bf)) (.int .i64 (t2 n)) (.int .i64 v)).run Try.prog (W3 n) = .ok () (W4 n) ∧
   MapAt (W1 n) Try.prog 3 bs (ms + 1) (encO (put_ sd x 0)) ∧
   MapAt (W4 n) Try.prog 3 bs (ms + 1) (encO (put_ sd x u)) ∧ MapAt (W4 n) Try.prog 3 bf (mf + 1) (encO (put_ fr x v)) ∧
   (∀ k, k < W.heap.size → k ≠ bs → k ≠ bf → (W1 n).heap[k]? = W.heap[k]? ∧ (W2 n).heap[k]? = W.heap[k]? ∧ (W3 n).heap[k]? = W.heap[k]? ∧ (W4 n).heap[k]? = W.heap[k]?) ∧
   W.heap.size ≤ (W4 n).heap.size ∧ Below base W (W4 n) := by
 have key := stacks_key h0 h1
 have all : ∀ n, ∃ (y : (Int × Int) × (World × World × World × World)),
   (Instr.mapEntry 80 (.map (some bs)) (.int .i64 x)).run Try.prog (W.drewN n) = .ok (.tuple #[.int .i64 0, .int .i64 y.1.1]) y.2.1 ∧
   (Instr.entryStore 80 (.map (some bs)) (.int .i64 y.1.1) (.int .i64 u)).run Try.prog y.2.1 = .ok () y.2.2.1 ∧
   (Instr.mapEntry 80 (.map (some bf)) (.int .i64 x)).run Try.prog y.2.2.1 = .ok (.tuple #[.int .i64 0, .int .i64 y.1.2]) y.2.2.2.1 ∧
   (Instr.entryStore 80 (.map (some bf)) (.int .i64 y.1.2) (.int .i64 v)).run Try.prog y.2.2.2.1 = .ok () y.2.2.2.2 ∧
   MapAt y.2.1 Try.prog 3 bs (ms + 1) (encO (put_ sd x 0)) ∧
   MapAt y.2.2.2.2 Try.prog 3 bs (ms + 1) (encO (put_ sd x u)) ∧ MapAt y.2.2.2.2 Try.prog 3 bf (mf + 1) (encO (put_ fr x v)) ∧
   (∀ k, k < W.heap.size → k ≠ bs → k ≠ bf → y.2.1.heap[k]? = W.heap[k]? ∧ y.2.2.1.heap[k]? = W.heap[k]? ∧ y.2.2.2.1.heap[k]? = W.heap[k]? ∧ y.2.2.2.2.heap[k]? = W.heap[k]?) ∧
   W.heap.size ≤ y.2.2.2.2.heap.size ∧ Below base W y.2.2.2.2 := by
  intro n
  obtain ⟨t1, W1, W2, e1, e2, m1, g1, m2, g2⟩ := (hs.drewN n).entryNew (Maps.int_keyed Try.underlying3) Try.underlying80 stacks_zero hm1 key (encO_none hsx) (.int .i64 u) (encO_put sd x u) (encO_far sd x u) (encO_zero sd x) (encO_far sd x 0)
  have hf2 : MapAt W2 Try.prog 3 bf mf (encO fr) := (hf.drewN n).kept g2 (fun e => hne (by injection e with e; exact e.symm))
  obtain ⟨t2, W3, W4, e3, e4, m3, g3, m4, g4⟩ := hf2.entryNew (Maps.int_keyed Try.underlying3) Try.underlying80 stacks_zero hm2 key (encO_none hfx) (.int .i64 v) (encO_put fr x v) (encO_far fr x v) (encO_zero fr x) (encO_far fr x 0)
  have z2 : W.heap.size ≤ W2.heap.size := g2.size
  refine ⟨((t1, t2), (W1, W2, W3, W4)), e1, e2, e3, e4, m1, m2.kept g4 (fun e => hne (by injection e)), m4, fun k hk n1 n2 => ?_, ?_, ?_⟩
  ·have a1 := grown_block g1 k hk n1
   have a2 := grown_block g2 k hk n1
   have a3 := grown_block g3 k (Nat.lt_of_lt_of_le hk z2) n2
   have a4 := grown_block g4 k (Nat.lt_of_lt_of_le hk z2) n2
   exact ⟨a1, a2, a3.trans a2, a4.trans a2⟩
  ·have := g4.size
   show W.heap.size ≤ W4.heap.size
   omega
  ·have hbsz : base ≤ W.heap.size := by have := hs.lt; omega
   have b1 : Below base W W2 := pw_below_grown (w1 := W.drewN n) (pw_below_drewN (Below.refl _ _) n) (some bs) hbsz g2 (fun k hk => by injection hk with hk; omega)
   exact pw_below_grown b1 (some bf) (by omega) g4 (fun k hk => by injection hk with hk; omega)
 exact ⟨fun n => (Classical.choose (all n)).1.1, fun n => (Classical.choose (all n)).1.2, fun n => (Classical.choose (all n)).2.1, fun n => (Classical.choose (all n)).2.2.1, fun n => (Classical.choose (all n)).2.2.2.1, fun n => (Classical.choose (all n)).2.2.2.2, fun n => Classical.choose_spec (all n)⟩
set_option maxHeartbeats 4000000 in
set_option maxRecDepth 100000 in
theorem visit_fn.calls (k : Nat) (near : List (List Int)) (An : Option Addr) (cn : Nat) (wc W : World) (g bs bf ms mf M : Nat) (sd fr : Int → Option Int) (s : Int) (vc : Value) (st : Col) (r : Option (Int × Int))
  (hn : Kd.C (Kd.slice 3 (Kd.int .i64)) wc An near.length near) (hg : W.heap[g]? = some (.cells #[.slice An near.length cn, .map (some bs), .map (some bf), vc] 91 (0, 0))) (hgc : wc.heap.size ≤ g) (hbs : wc.heap.size ≤ bs) (hbf : wc.heap.size ≤ bf) (hne : bs ≠ bf)
  (hs : MapAt W Try.prog 3 bs ms (encO sd)) (hf : MapAt W Try.prog 3 bf mf (encO fr)) (hM : ms ≤ M ∧ mf ≤ M) (hM2 : M ≤ 1000000) (hB : Below wc.heap.size wc W) (h : visitF near sd fr s = some (st, r)) (hcl : ∀ a b, r = some (a, b) → ∃ c, closeF (slices_Reverse_int_int.f k) st.2.1 a b = some c) :
  Calls Try.prog 75 #[.pointer (some ⟨g, 0, none⟩), .int .i64 s] W fun e w' => e = .returned (.bool r.isNone) ∧ (r = none → ∃ ms' mf', ms' ≤ M + 2000 ∧ mf' ≤ M + 2000 ∧ w'.heap[g]? = some (.cells #[.slice An near.length cn, .map (some bs), .map (some bf), vc] 91 (0, 0)) ∧ MapAt w' Try.prog 3 bs ms' (encO st.1) ∧ MapAt w' Try.prog 3 bf mf' (encO st.2.1) ∧ Chg W w' g bs bf) ∧
   (∀ a b, r = some (a, b) → ∃ c vc', closeF (slices_Reverse_int_int.f k) st.2.1 a b = some c ∧ w'.cell? ⟨g, 3, none⟩ = some vc' ∧ Kd.R (Kd.int .i64) 3 w' wc.heap.size (fun _ => True) vc' c) ∧ Below wc.heap.size wc w' := by
 unfold visitF at h
 by_cases hcond : 0 ≤ s ∧ s ≤ 1000 ∧ sd s = none ∧ fr s = none
 case neg => rw [if_neg hcond] at h; cases h
 rw [if_pos hcond] at h
 obtain ⟨s0, s1, s2, s3⟩ := hcond
 have hml : (1100000 : Nat) < maxLen := by decide
 have hgs : bs ≠ g := hs.ne hg
 have hgf : bf ≠ g := hf.ne hg
 have hlt : g < W.heap.size := by
  apply Nat.lt_of_not_le
  intro hn
  simp [hn] at hg
 obtain ⟨t1, t2, W1, W2, W3, W4, hE⟩ := col_entries hs hf hne hbs hbf s0 s1 s2 s3 (by omega) (by omega) 0 (-1)
 have hE1 := fun n => (hE n).1
 have hE2 := fun n => (hE n).2.1
 have hE3 := fun n => (hE n).2.2.1
 have hE4 := fun n => (hE n).2.2.2.1
 have hE1d : (Instr.mapEntry 80 (.map (some bs)) (.int .i64 s)).run Try.prog W.drew = .ok (.tuple #[.int .i64 0, .int .i64 (t1 1)]) (W1 1) := hE1 1
 have HE := Aside0.mk hE
 have sg : ∀ W' : World, W'.heap[g]? = W.heap[g]? → W'.cell? ⟨g, 1, none⟩ = some (.map (some bs)) ∧ W'.cell? ⟨g, 2, none⟩ = some (.map (some bf)) := fun W' e => ⟨(blk_cell (e.trans hg) 1).trans rfl, (blk_cell (e.trans hg) 2).trans rfl⟩
 have hS0 : ∀ n, (W.drewN n).cell? ⟨g, 1, none⟩ = some (.map (some bs)) ∧ (W.drewN n).cell? ⟨g, 2, none⟩ = some (.map (some bf)) := fun n => sg _ rfl
 have hSd : W.drew.cell? ⟨g, 1, none⟩ = some (.map (some bs)) ∧ W.drew.cell? ⟨g, 2, none⟩ = some (.map (some bf)) := sg _ rfl
 have hS1 := fun n => sg _ ((hE n).2.2.2.2.2.2.2.1 g hlt hgs.symm hgf.symm).1
 have hS2 := fun n => sg _ ((hE n).2.2.2.2.2.2.2.1 g hlt hgs.symm hgf.symm).2.1
 have hS3 := fun n => sg _ ((hE n).2.2.2.2.2.2.2.1 g hlt hgs.symm hgf.symm).2.2.1
 have hS4 := fun n => sg _ ((hE n).2.2.2.2.2.2.2.1 g hlt hgs.symm hgf.symm).2.2.2
 have HS := Aside0.mk (And.intro hS0 (And.intro hSd (And.intro hS1 (And.intro hS2 (And.intro hS3 hS4)))))
 have HN := Aside0.mk hn
 have HCL := Aside0.mk hcl
 have HH := Aside0.mk h
 have HGG := Aside0.mk (show g < W.heap.size ∧ bs < W.heap.size ∧ bf < W.heap.size ∧ wc.heap.size ≤ g ∧ wc.heap.size ≤ bs ∧ wc.heap.size ≤ bf from ⟨hlt, hs.lt, hf.lt, hgc, hbs, hbf⟩)
 have HNE := Aside0.mk (show bs ≠ bf ∧ bs ≠ g ∧ bf ≠ g from ⟨hne, hgs, hgf⟩)
 have HG := Aside0.mk hg
 have HBC := Aside0.mk hB
 have HM := Aside0.mk hM
 have HM2 := Aside0.mk hM2
 have hc1 := (hS0 0).1
 clear h hcl hn hE hS0 hSd hS1 hS2 hS3 hS4 sg hg hgc hbs hbf hlt hs hf hM hM2 hB s2 s3 hne hgs hgf hml hc1
 go_enter Try.func75, Try.ntmps75
 go_wp2
 go_region_held_law (fun W' => W'.cell? ⟨g, 1, none⟩ = some (.map (some bs)) ∧ W'.cell? ⟨g, 2, none⟩ = some (.map (some bf)))
  ((first | exact HS.out.2.1 | exact HS.out.1 _ | exact HS.out.2.2.1 _ | exact HS.out.2.2.2.1 _ | exact HS.out.2.2.2.2.1 _ | exact HS.out.2.2.2.2.2 _))
  (fail)
 obtain ⟨hwc0, hwc1, hwc2, hwc3, hwc4, hwc5⟩ := HGG.out
 obtain ⟨hne0, hne1, hne2⟩ := HNE.out
 obtain ⟨_, _, _, _, _, hz1, hz2, hz3, hz4, hz5⟩ := HE.out 1
 have hw4 : Below wc.heap.size wc (W4 1) := HBC.out.trans hz5
 have hC5 : ColAt wc W ((W4 1).alloc (.cells #[.int .i64 s] 3)) g bs bf (.slice An near.length cn) vc (put_ sd s 0, put_ fr s (-1), [s]) (ms + 1) (mf + 1) M :=
  ⟨(Below.heap_alloc _ _ g (by omega)).trans ((hz3 g hwc0 hne1.symm hne2.symm).2.2.2.trans HG.out), hz1.alloc _, hz2.alloc _, by have := HM.out.1; simp; omega, by have := HM.out.2; simp; omega,
   hw4.alloc hw4.size _, by simp; omega, fun k hk n1 n2 n3 => (Below.heap_alloc _ _ k (by omega)).trans (hz3 k hk n1 n2).2.2.2⟩
 have hQ5 : Kd.R (Kd.int .i64) 3 ((W4 1).alloc (.cells #[.int .i64 s] 3)) W.heap.size (fun k => W.heap.size ≤ k) (.slice (some ⟨(W4 1).heap.size, 0, none⟩) 1 1) [s] :=
  Kd.R_lower (Kd.R_mono (Kd.R_bound (lit_new (W4 1) s)) (fun k hk => by have := hk.2.1; omega)) hz4
 have HC5 := Aside0.mk hC5
 have HQ5 := Aside0.mk hQ5
 clear hE1 hE2 hE3 hE4 hE1d HE HS hw4 hC5 hQ5 hz1 hz2 hz3 hz4 hz5 hwc0 hwc1 hwc2 hwc3 hwc4 hwc5 hne0 hne1 hne2 HBC HM
 go_wp2
 go_loopg [5, 6] 100 (fun kq v5 v6 wr => ∃ (i : Int) (c : Col) (m1 m2 : Nat), v6 = .int .i64 i ∧ Aside0 (colOut near kq i c = some (st, r)) ∧ Aside0 (0 ≤ i ∧ i + kq = 100) ∧ Aside0 (ColAt wc W wr g bs bf (.slice An near.length cn) vc c m1 m2 M) ∧ Aside0 (c.2.2.length ≤ 1001) ∧ Aside0 (Kd.R (Kd.int .i64) 3 wr W.heap.size (fun k => W.heap.size ≤ k) v5 c.2.2))
 case atStart => exact ⟨0, _, _, _, rfl, HH, ⟨by omega⟩, HC5, ⟨by simp⟩, HQ5⟩
 case round =>
  clear HH HC5 HQ5
  obtain ⟨i, c, m1, m2, rfl, HO, HI, HC, HQL, HQ⟩ := hrel
  obtain ⟨i0, i1⟩ := HI.out
  obtain ⟨m, hm⟩ : ∃ m, gk = m + 1 := by
   cases gk with
   | zero => have := HO.out; cases this
   | succ m => exact ⟨m, rfl⟩
  have ho := HO.out
  rw [hm] at ho
  unfold colOut at ho
  obtain ⟨A5, c5, e5⟩ := Kd.R_slice HQ.out
  subst e5
  by_cases c1 : i < (c.2.2.length : Int)
  case neg =>
   rw [if_neg c1] at ho
   injection ho with ho
   injection ho with e1 e2
   subst e1; subst e2
   have c1b : decide (i < (c.2.2.length : Int)) = false := decide_eq_false c1
   have hM2 := HM2.out
   have hql := HQL.out
   have hc1 := HC.out.ms_le
   have hc2 := HC.out.mf_le
   have HF := Aside0.mk (show m1 ≤ M + 2000 ∧ m2 ≤ M + 2000 by omega)
   clear c1 HO hm i0 i1 hM2 hql hc1 hc2
   go_wp2
   go_ret
   exact ⟨rfl, ⟨m1, HF.out.1, m2, HF.out.2, HC.out.blk, HC.out.side, HC.out.frm, HC.out.chg⟩, HC.out.below⟩
  rw [if_pos c1] at ho
  have c1b : decide (i < (c.2.2.length : Int)) = true := decide_eq_true c1
  obtain ⟨adq, eaq, hxq⟩ := Kd.at_int (Kd.R_reads' HQ.out).2.2 i i0 c1
  subst eaq
  obtain ⟨a, ha⟩ : ∃ a, a = rd c.2.2 i := ⟨_, rfl⟩
  rw [← ha] at ho hxq
  by_cases c2 : 0 ≤ a ∧ a < near.length ∧ a ≤ 1000
  case neg => rw [if_neg c2] at ho; cases ho
  rw [if_pos c2] at ho
  obtain ⟨a0, a1, a2⟩ := c2
  replace ho := Option.bind_eq_some_iff.mp ho
  obtain ⟨PP, hP, ho⟩ := ho
  obtain ⟨adn, A0, c0, ean, hxn, hcn, hLr⟩ := at_L1 HN.out a a0 a1
  subst ean
  obtain ⟨L, hL⟩ : ∃ L, L = rd_L1 near a := ⟨_, rfl⟩
  rw [show near_ near a = L from hL.symm] at hP
  rw [← hL] at hxn hcn hLr
  have hmL : (L.length : Int) ≤ 9223372036854775807 := by have := hLr.2.1; omega
  replace hxn := (HC.out.below.cell (World.block_lt_of_cell? wc _ hxn)).trans hxn
  have hg0 : wr.cell? ⟨g, 0, none⟩ = some (.slice (some adn) near.length cn) := (blk_cell HC.out.blk 0).trans rfl
  have p0 := eq_true i0
  have q0 := eq_true c1
  have p1 := eq_true a0
  have q1 := eq_true a1
  have HOO := Aside0.mk ho
  have HP := Aside0.mk hP
  have HLR := Aside0.mk hLr
  have HML := Aside0.mk hmL
  have HA := Aside0.mk (show 0 ≤ a ∧ a ≤ 1000 from ⟨a0, a2⟩)
  have HMM := Aside0.mk (show m < gk ∧ i + 1 + m = 100 by omega)
  have hi100 : i ≤ 100 := by omega
  clear ho hP hL hcn hLr hmL a0 a1 a2 c1 HO hm i1 ha HI
  go_wp2
  go_loopw [5, 46] (fun v5 v46 wr2 => ∃ (j : Int) (c' : Col) (m1' m2' : Nat), v46 = .int .i64 j ∧ Aside0 (0 ≤ j ∧ j ≤ L.length) ∧ Aside0 (colIn a (L.drop j.toNat) c' = some PP) ∧ Aside0 (ColAt wc W wr2 g bs bf (.slice (some adn) near.length cn) vc c' m1' m2' M) ∧ Aside0 (c'.2.2.length ≤ 1001) ∧ Aside0 (Kd.R (Kd.int .i64) 3 wr2 W.heap.size (fun k => W.heap.size ≤ k) v5 c'.2.2)) (fun _ v46 _ => L.length - (intOf v46).toNat)
  case atStart => exact ⟨0, c, m1, m2, rfl, ⟨by omega⟩, HP, HC, HQL, HQ⟩
  case round =>
   clear HP HC HQL HQ hxq hxn hg0
   obtain ⟨j, c', m1', m2', rfl, HJ, HP, HC, HQL, HQ⟩ := hrel
   obtain ⟨j0, j1⟩ := HJ.out
   obtain ⟨A6, c6, e6⟩ := Kd.R_slice HQ.out
   subst e6
   have hP := HP.out
   by_cases c3 : j < (L.length : Int)
   case neg =>
    have c3b : decide (j < (L.length : Int)) = false := decide_eq_false c3
    rw [List.drop_eq_nil_of_le (by omega)] at hP
    unfold colIn at hP
    injection hP with hP
    subst hP
    have ho : colOut near m (i + 1) c' = some (st, r) := HOO.out
    have HO2 := Aside0.mk ho
    have hi2 := HMM.out.2
    clear c3 ho HP hi2
    go_wp2
    go_roundg m
    case measure => exact HMM.out.1
    case rel => exact ⟨i + 1, c', m1', m2', by go_num, HO2, ⟨by have := HMM.out.2; have := of_eq_true p0; omega⟩, HC, HQL, HQ⟩
   have c3b : decide (j < (L.length : Int)) = true := decide_eq_true c3
   obtain ⟨adl, eal, hxl⟩ := Kd.at_int (Kd.C_below HLR.out HC.out.below) j j0 c3
   subst eal
   obtain ⟨b, hb⟩ : ∃ b, b = rd L j := ⟨_, rfl⟩
   rw [← hb] at hxl
   have hdrop : L.drop j.toNat = b :: L.drop (j + 1).toNat := by
    rw [List.drop_eq_getElem_cons (show j.toNat < L.length by omega), show j.toNat + 1 = (j + 1).toNat by omega, hb]
    unfold rd
    rw [List.getD_eq_getElem?_getD, List.getElem?_eq_getElem (show j.toNat < L.length by omega), Option.getD_some]
   rw [hdrop] at hP
   unfold colIn at hP
   by_cases c4 : 0 ≤ b ∧ b ≤ 1000 ∧ c'.2.2.length ≤ 1000
   case neg => rw [if_neg c4] at hP; cases hP
   rw [if_pos c4] at hP
   obtain ⟨b0, b1, b2⟩ := c4
   have pj := eq_true j0
   have qj := eq_true c3
   have hg1 : wr.cell? ⟨g, 1, none⟩ = some (.map (some bs)) := (blk_cell HC.out.blk 1).trans rfl
   have hlkb := stacks_lookOk HC.out.side b0 b1
   obtain ⟨sa, hsa⟩ : ∃ sa, sa = (c'.1 a).getD 0 := ⟨_, rfl⟩
   have hlka := stacks_look HC.out.side HA.out.1 HA.out.2
   rw [← hsa] at hlka
   have HJ2 := Aside0.mk (show 0 ≤ j + 1 ∧ j + 1 ≤ L.length by omega)
   have hjw : wrap64 (j + 1) = j + 1 := by have := HML.out; unfold wrap64; omega
   cases hsd : c'.1 b with
   | some sb =>
    rw [hsd] at hlkb hP
    simp only [Option.getD_some, Option.isSome_some] at hlkb hP
    rw [← hsa] at hP
    by_cases ce : sb = sa
    ·rw [if_pos ce] at hP
     injection hP with hP
     subst hP
     have ceb : (sb == sa) = true := beq_iff_eq.mpr ce
     have ho : some (c', some (a, b)) = some (st, r) := HOO.out
     injection ho with ho
     injection ho with e1 e2
     subst e1; subst e2
     obtain ⟨cc, hcc⟩ := HCL.out a b rfl
     have HCA := Aside0.mk (close_fn.calls k c'.2.1 wc wr g bs bf m2' a b cc _ vc HC.out.blk HGG.out.2.2.2.1 HC.out.below HC.out.frm hcc)
     have HCC := Aside0.mk hcc
     have HCH := Aside0.mk HC.out.below.size
     clear hdrop hb hsd hsa ce c3 j1 b0 b1 b2 HP HQ hcc
     go_wp2_with (go_at_call 80; go_must ((with_reducible refine HCA.out.mono ?_); rintro e w3 ⟨rfl, vc', hv1, hv2, hv3⟩; have HV1 := Aside0.mk hv1; have HV2 := Aside0.mk hv2; have HV3 := Aside0.mk hv3; clear hv1 hv2 hv3))
     go_ret
     exact ⟨rfl, fun h => (by cases h), fun a' b' h => (by injection h with h; injection h with h1 h2; subst h1; subst h2; exact ⟨cc, vc', HCC.out, HV1.out, Kd.R_lower HV2.out HCH.out⟩), HV3.out⟩
    ·rw [if_neg ce] at hP
     have ceb : (sb == sa) = false := beq_eq_false_iff_ne.mpr ce
     have HP2 := Aside0.mk hP
     clear hdrop hb hsd hsa ce c3 j1 b0 b1 b2 HP hP
     go_wp2
     go_roundw
     case rel => exact ⟨j + 1, c', m1', m2', by go_num, HJ2, HP2, HC, HQL, HQ⟩
     case measure => have := of_eq_true qj; have := of_eq_true pj; simp [intOf, hjw]; omega
   | none =>
    rw [hsd] at hlkb hP
    simp only [Option.getD_none, Option.isSome_none] at hlkb hP
    by_cases c5' : c'.2.1 b = none ∧ a ≠ b
    case neg => rw [if_neg c5'] at hP; cases hP
    rw [if_pos c5', ← hsa] at hP
    obtain ⟨hfb, hab⟩ := c5'
    obtain ⟨u, hu⟩ : ∃ u, u = wrap64 (1 - sa) := ⟨_, rfl⟩
    have hwu : IntKind.i64.wrap (1 - sa) = u := by rw [hu, i64_w]
    rw [← hu] at hP
    have hM2 := HM2.out
    have hql := HQL.out
    have hc1 := HC.out.ms_le
    have hc2 := HC.out.mf_le
    have hml : (1100000 : Nat) < maxLen := by decide
    obtain ⟨hwc0, hwc1, hwc2, hwc3, hwc4, hwc5⟩ := HGG.out
    obtain ⟨hne0, hne1, hne2⟩ := HNE.out
    obtain ⟨t1, t2, W1, W2, W3, W4, hE⟩ := col_entries HC.out.side HC.out.frm hne0 hwc4 hwc5 b0 b1 hsd hfb (by omega) (by omega) u a
    have hcg : W.heap.size ≤ wr.heap.size := HC.out.chg.1
    have hE1d : (Instr.mapEntry 80 (.map (some bs)) (.int .i64 b)).run Try.prog wr.drew = .ok (.tuple #[.int .i64 0, .int .i64 (t1 1)]) (W1 1) := (hE 1).1
    have hE2 := (hE 1).2.1
    have hE3 := (hE 1).2.2.1
    have hE4 := (hE 1).2.2.2.1
    have hlkd : (Instr.lookup 80 (.map (some bs)) (.int .i64 a) false).run Try.prog wr.drew = .ok (.int .i64 sa) wr.drew := by
     have := stacks_look (HC.out.side.drewN 1) HA.out.1 HA.out.2
     rw [← hsa] at this
     exact this
    have hlk1 : (Instr.lookup 80 (.map (some bs)) (.int .i64 a) false).run Try.prog (W1 1) = .ok (.int .i64 sa) (W1 1) := by
     have := stacks_look (hE 1).2.2.2.2.1 HA.out.1 HA.out.2
     rw [show (put_ c'.1 b 0 a) = c'.1 a from if_neg hab, ← hsa] at this
     exact this
    have sg : ∀ W' : World, W'.heap[g]? = wr.heap[g]? → W'.cell? ⟨g, 1, none⟩ = some (.map (some bs)) ∧ W'.cell? ⟨g, 2, none⟩ = some (.map (some bf)) := fun W' e => ⟨(blk_cell (e.trans HC.out.blk) 1).trans rfl, (blk_cell (e.trans HC.out.blk) 2).trans rfl⟩
    have hz3 := (hE 1).2.2.2.2.2.2.2.1
    have hS1 := sg _ (hz3 g (by omega) hne1.symm hne2.symm).1
    have hS2 := sg _ (hz3 g (by omega) hne1.symm hne2.symm).2.1
    have hS3 := sg _ (hz3 g (by omega) hne1.symm hne2.symm).2.2.1
    have hS4 := sg _ (hz3 g (by omega) hne1.symm hne2.symm).2.2.2
    have HS := Aside0.mk (And.intro (sg wr.drew rfl) (And.intro hS1 (And.intro hS2 (And.intro hS3 hS4))))
    have hz4 := (hE 1).2.2.2.2.2.2.2.2.1
    have hz5 := (hE 1).2.2.2.2.2.2.2.2.2
    have hQ4 := Kd.R_step HQ.out (fun k ok hk => (hz3 k hk (by omega) (by omega)).2.2.2)
    obtain ⟨v6, w6, hrun, ho6, hB6, hgr6, _⟩ := append_one (Kd.int .i64) (P := Try.prog) (w0 := W4 1) (W := W4 1) W.heap.size 22 22 3 (.int .i64 0) 8 Try.underlying22 info3 rfl (by decide) (by omega) (v := .slice A6 c'.2.2.length c6) (xs := c'.2.2) b [.int .i64 b] (ok := fun k => W.heap.size ≤ k) (fun _ => False) rfl (fun _ h => h.elim) (fun k hk => by omega) hQ4 (Below.refl _ _) (by omega) (by omega)
    have hC6 : ColAt wc W w6 g bs bf (.slice (some adn) near.length cn) vc (put_ c'.1 b u, put_ c'.2.1 b a, c'.2.2 ++ [b]) (m1' + 1) (m2' + 1) M :=
     ⟨(hB6.block g hwc0).trans ((hz3 g (by omega) hne1.symm hne2.symm).2.2.2.trans HC.out.blk), (hE 1).2.2.2.2.2.1.block (hB6.block bs hwc1), (hE 1).2.2.2.2.2.2.1.block (hB6.block bf hwc2), by simp; omega, by simp; omega,
      (HC.out.below.trans hz5).trans (hB6.mono (by omega)), ⟨by have := hB6.size; omega, fun k hk n1 n2 n3 => (hB6.block k hk).trans ((hz3 k (by omega) n1 n2).2.2.2.trans (HC.out.chg.2 k hk n1 n2 n3))⟩⟩
    have HRUN := Aside0.mk hrun
    have HC6 := Aside0.mk hC6
    have HQ6 := Aside0.mk ho6
    have HP2 := Aside0.mk hP
    have HQL2 := Aside0.mk (show (c'.2.2 ++ [b]).length ≤ 1001 by simp; omega)
    clear hE hrun hC6 ho6 hB6 hgr6 hQ4 hz3 hz4 hz5 hS1 hS2 hS3 hS4 sg hP hM2 hql hc1 hc2 hml hwc0 hwc1 hwc2 hwc3 hwc4 hwc5 hne0 hne1 hne2 hcg hdrop hb hsd hsa hu hfb hab c3 j1 b0 b1 b2 HP HC HQ HQL
    go_wp2
    go_region_held_law (fun W' => W'.cell? ⟨g, 1, none⟩ = some (.map (some bs)) ∧ W'.cell? ⟨g, 2, none⟩ = some (.map (some bf)))
     ((first | exact HS.out.1 | exact HS.out.2.1 | exact HS.out.2.2.1 | exact HS.out.2.2.2.1 | exact HS.out.2.2.2.2))
     (fail)
    all_goals (
     go_wp2_with (at_builtin; go_must (refine wpList_appendRun _ rfl _ _ _ rfl HRUN.out rfl rfl rfl ?_))
     go_roundw
     case rel => exact ⟨j + 1, _, m1' + 1, m2' + 1, by go_num, HJ2, HP2, HC6, HQL2, HQ6⟩
     case measure => have := of_eq_true qj; have := of_eq_true pj; simp [intOf, hjw]; omega)
def shunt_Stacks.f (k : Nat) (l0 : List Int) : Option (List Int × List Int × Int) :=
 if isOrderB l0 = true then
  (shunt_conflicts.f k l0).bind fun near => (stacksGo (slices_Reverse_int_int.f k) near l0.length 0 (fun _ => none) (fun _ => none) []).bind fun p => some (p.1, p.2, 0)
 else some ([], [], 2)
set_option maxHeartbeats 4000000 in
set_option maxRecDepth 100000 in
theorem shunt_Stacks.calls (k : Nat) (A0 : Option Addr) (c0 : Nat) (l0 : List Int) (r1 : List Int) (r2 : List Int) (r3 : Int) (w : World) (hr0 : Kd.C (Kd.int .i64) w A0 l0.length l0) (hc0 : l0.length ≤ c0) (h : shunt_Stacks.f k l0 = some (r1, r2, r3)) :
  Calls Try.prog 48 #[.slice A0 l0.length c0] w fun e w' => ∃ v0_ v1_ : Value, e = .returned (.tuple #[v0_, v1_, .int .i64 r3]) ∧ Kd.R (Kd.int .i64) 3 w' w.heap.size (fun k_ => some k_ ≠ (v1_ : Value).ownBlock) v0_ r1 ∧ Kd.R (Kd.int .i64) 3 w' w.heap.size (fun k_ => some k_ ≠ (v0_ : Value).ownBlock) v1_ r2 ∧ Below w.heap.size w w' := by
 have HR0 := Aside0.mk hr0
 have HC0 := Aside0.mk hc0
 clear hr0 hc0
 unfold shunt_Stacks.f at h
 cases hord : isOrderB l0 with
 | false =>
  rw [hord, if_neg (by decide)] at h
  injection h with h
  injection h with e1 e2
  injection e2 with e2 e3
  subst e1; subst e2; subst e3
  have HO := Aside0.mk (shunt_isOrder.calls A0 c0 l0 false w HR0.out HC0.out (by unfold shunt_isOrder.f; rw [hord]))
  clear hord
  go_enter Try.func48, Try.ntmps48
  go_wp2_with (go_at_call 52; go_must ((with_reducible refine HO.out.mono ?_); rintro e w1 ⟨rfl, hb1⟩; have HB1 := Aside0.mk hb1; clear hb1))
  go_ret3
  exact ⟨_, _, rfl, Kd.R_nil _ _ _ _ _, Kd.R_nil _ _ _ _ _, HB1.out⟩
 | true =>
  rw [hord, if_pos rfl] at h
  have HO := Aside0.mk (shunt_isOrder.calls A0 c0 l0 true w HR0.out HC0.out (by unfold shunt_isOrder.f; rw [hord]))
  have hl60 : l0.length ≤ 60 := by
   unfold isOrderB at hord
   simp at hord
   exact hord.1
  replace h := Option.bind_eq_some_iff.mp h
  obtain ⟨near, hnear, h⟩ := h
  replace h := Option.bind_eq_some_iff.mp h
  obtain ⟨⟨p1, p2⟩, hgo, h⟩ := h
  injection h with h
  injection h with e1 e2
  injection e2 with e2 e3
  subst e1; subst e2; subst e3
  have HCF := Aside0.mk (fun (w1 : World) (h1 : Below w.heap.size w w1) => shunt_conflicts.calls k A0 c0 l0 near w1 (Kd.C_below HR0.out h1) HC0.out hnear)
  have HGO := Aside0.mk hgo
  have HL := Aside0.mk hl60
  have hmm := @run_makeMap Try.prog
  clear hord hnear hgo hl60
  go_enter Try.func48, Try.ntmps48
  go_wp2_with (first | (go_at_call 52; go_must ((with_reducible refine HO.out.mono ?_); rintro e w1 ⟨rfl, hb1⟩; have HB1 := Aside0.mk hb1; clear hb1)) | (go_at_call 74; go_must ((with_reducible refine (HCF.out _ HB1.out).mono ?_); rintro e w2 ⟨vn, rfl, hS2, hB2⟩; obtain ⟨An, cn, e2⟩ := Kd.S_slice hS2; subst e2; have HN := Aside0.mk (Kd.S_reads' hS2).2.2; have HB2 := Aside0.mk (below_step HB1.out hB2); clear hS2 hB2)))
  obtain ⟨bs, hbs⟩ : ∃ bs, bs = w2.heap.size := ⟨_, rfl⟩
  obtain ⟨bf, hbf⟩ : ∃ bf, bf = w2.heap.size + 1 := ⟨_, rfl⟩
  obtain ⟨g, hg⟩ : ∃ g, g = w2.heap.size + 1 + 1 := ⟨_, rfl⟩
  obtain ⟨w3, hw3⟩ : ∃ w3, w3 = (((w2.alloc (.map #[] 0)).alloc (.map #[] 0)).alloc (.cells #[.slice An near.length cn, .map (some bs), .map (some bf), .slice none 0 0] 91)) := ⟨_, rfl⟩
  have hm0 : MapAt w3 Try.prog 3 bs 0 (encO fun _ => none) := by
   rw [hw3, hbs]
   exact (((MapAt.made w2 Try.prog 3).congr (fun kv kl _ => by unfold encO encI; split <;> rfl)).alloc _).alloc _
  have hm1 : MapAt w3 Try.prog 3 bf 0 (encO fun _ => none) := by
   have h5 : ∀ o, MapAt (((w2.alloc (.map #[] 0)).alloc (.map #[] 0)).alloc o) Try.prog 3 (w2.heap.size + 1) 0 (encO fun _ => none) := fun o => by
    simpa using (((MapAt.made (w2.alloc (.map #[] 0)) Try.prog 3).congr (g := encO fun _ => none) (fun kv kl _ => by unfold encO encI; split <;> rfl)).alloc o)
   have h6 := h5 (.cells #[.slice An near.length cn, .map (some bs), .map (some bf), .slice none 0 0] 91)
   rw [← hbf] at h6
   rw [hw3]
   exact h6
  have hgb : w3.heap[g]? = some (.cells #[.slice An near.length cn, .map (some bs), .map (some bf), .slice none 0 0] 91 (0, 0)) := by
   rw [hw3, hg]
   simpa using heap_alloc_new ((w2.alloc (.map #[] 0)).alloc (.map #[] 0)) (.cells #[.slice An near.length cn, .map (some bs), .map (some bf), .slice none 0 0] 91)
  have hbw3 : Below w2.heap.size w2 w3 := by rw [hw3]; exact below_alloc (below_alloc (below_alloc (Below.refl _ _) _) _) _
  have hsz3 : w3.heap.size = w2.heap.size + 3 := by rw [hw3]; simp
  have HIX := Aside0.mk (show bs = w2.heap.size ∧ bf = w2.heap.size + 1 ∧ g = w2.heap.size + 2 ∧ w3.heap.size = w2.heap.size + 3 from ⟨hbs, hbf, hg, hsz3⟩)
  have HM0 := Aside0.mk hm0
  have HM1 := Aside0.mk hm1
  have HGB := Aside0.mk hgb
  have HBW3 := Aside0.mk hbw3
  rw [← hg, ← hbf, ← hbs, ← hw3]
  clear hm0 hm1 hgb hbw3 hsz3 hw3 hbs hbf hg
  go_loopg [6, 21] l0.length (fun kq v6 v21 wr => ∃ (i : Int) (sd fr : Int → Option Int) (acc : List Int) (ms mf : Nat), v21 = .int .i64 i ∧ Aside0 (0 ≤ i ∧ i + kq = l0.length ∧ acc.length ≤ 1000 - kq) ∧ Aside0 (stacksGo (slices_Reverse_int_int.f k) near kq i sd fr acc = some (p1, p2)) ∧ Aside0 (wr.heap[g]? = some (.cells #[.slice An near.length cn, .map (some bs), .map (some bf), .slice none 0 0] 91 (0, 0))) ∧ Aside0 (MapAt wr Try.prog 3 bs ms (encO sd)) ∧ Aside0 (MapAt wr Try.prog 3 bf mf (encO fr)) ∧ Aside0 ((ms : Int) ≤ 2000 * i ∧ (mf : Int) ≤ 2000 * i) ∧ Aside0 (Kd.R (Kd.int .i64) 3 wr w2.heap.size (fun k => k ≠ bs ∧ k ≠ bf ∧ k ≠ g) v6 acc) ∧ Aside0 (Below w2.heap.size w2 wr ∧ w3.heap.size ≤ wr.heap.size))
  case atStart => exact ⟨0, _, _, [], 0, 0, rfl, ⟨by have := HL.out; simp <;> omega⟩, HGO, HGB, HM0, HM1, ⟨by omega⟩, ⟨Kd.R_mono (Kd.R_nil _ _ _ _ (fun _ => False)) (fun _ h => h.elim)⟩, ⟨⟨HBW3.out, Nat.le_refl _⟩⟩⟩
  case round =>
   clear HGO HGB HM0 HM1 HBW3
   obtain ⟨i, sd, fr, acc, ms, mf, rfl, HI, HG, HGB, HS, HF, HMM, HR, HBW⟩ := hrel
   obtain ⟨i0, i1, i2⟩ := HI.out
   obtain ⟨A6, c6, e6⟩ := Kd.R_slice HR.out
   subst e6
   have hl60 := HL.out
   have hgo := HG.out
   have hbz := HBW.out.2
   by_cases c1 : i < (l0.length : Int)
   case neg =>
    have hk0 : gk = 0 := by omega
    rw [hk0] at hgo
    unfold stacksGo at hgo
    injection hgo with hgo
    injection hgo with e1 e2
    subst e1; subst e2
    have c1b : decide (i < (l0.length : Int)) = false := decide_eq_false c1
    clear c1 i0 i1 i2 HI HG hk0 hl60 hbz
    go_wp2
    go_ret3
    exact ⟨_, _, rfl, Kd.R_lower (Kd.R_mono HR.out (fun k _ => by simp [Value.ownBlock])) HB2.out.size, Kd.R_nil _ _ _ _ _, below_step HB2.out HBW.out.1⟩
   have c1b : decide (i < (l0.length : Int)) = true := decide_eq_true c1
   obtain ⟨m, hm⟩ : ∃ m, gk = m + 1 := ⟨gk - 1, by omega⟩
   rw [hm] at hgo
   unfold stacksGo at hgo
   have hi1000 : i ≤ 1000 := by omega
   have hg1 : wr.cell? ⟨g, 1, none⟩ = some (.map (some bs)) := (blk_cell HGB.out 1).trans rfl
   have hlk := stacks_lookOk HS.out i0 hi1000
   have HI2 := Aside0.mk (show 0 ≤ i + 1 ∧ i + 1 + m = l0.length ∧ m < gk by omega)
   obtain ⟨jx1, jx2, jx3, jx4⟩ := HIX.out
   cases hsd : sd i with
   | some sb =>
    rw [hsd] at hlk hgo
    simp only [Option.getD_some, Option.isSome_some] at hlk hgo
    have hlk2 := stacks_look HS.out i0 hi1000
    rw [hsd] at hlk2
    simp only [Option.getD_some] at hlk2
    obtain ⟨v7, w7, hrun, ho7, hB7, hgr7, _⟩ := append_one (Kd.int .i64) (P := Try.prog) (w0 := w2) (W := wr) w2.heap.size 22 22 3 (.int .i64 0) 8 Try.underlying22 info3 rfl (by decide) (by omega) (v := .slice A6 acc.length c6) (xs := acc) sb [.int .i64 sb] (ok := fun k => k ≠ bs ∧ k ≠ bf ∧ k ≠ g) (fun _ => False) rfl (fun _ h => h.elim) (fun k hk => by omega) HR.out HBW.out.1 HBW.out.1.size (by omega)
    have hne : some g ≠ (Value.slice A6 acc.length c6).ownBlock := Kd.R_ne HR.out HGB.out (by decide)
    have hob : ∀ b : Nat, b = bs ∨ b = bf → some b ≠ (Value.slice A6 acc.length c6).ownBlock := fun b hb he => by
     have := HR.out.1 b he.symm
     omega
    have HS7 := Aside0.mk (HS.out.kept hgr7 (hob bs (.inl rfl)))
    have HF7 := Aside0.mk (HF.out.kept hgr7 (hob bf (.inr rfl)))
    have HG7 := Aside0.mk (blk_grown HGB.out hgr7 hne)
    have HB7 := Aside0.mk (show Below w2.heap.size w2 w7 ∧ w3.heap.size ≤ w7.heap.size from ⟨hB7, by have := hgr7.size; omega⟩)
    have HRUN := Aside0.mk hrun
    have HO7 := Aside0.mk ho7
    have HGG := Aside0.mk hgo
    have HMM2 := Aside0.mk (show (ms : Int) ≤ 2000 * (i + 1) ∧ (mf : Int) ≤ 2000 * (i + 1) by have := HMM.out; omega)
    have HI3 := Aside0.mk (show 0 ≤ i + 1 ∧ i + 1 + m = l0.length ∧ (acc ++ [sb]).length ≤ 1000 - m by simp; omega)
    clear hrun ho7 hB7 hgr7 hne hob hgo hsd c1 i1 i2 HI HG hm hl60 hbz HGB HS HF HMM HR HBW jx1 jx2 jx3 jx4
    go_wp2_with (at_builtin; go_must (refine wpList_appendRun _ rfl _ _ _ rfl HRUN.out rfl rfl rfl ?_))
    go_roundg m
    case measure => exact HI2.out.2.2
    case rel => exact ⟨i + 1, sd, fr, acc ++ [sb], ms, mf, by go_num, HI3, HGG, HG7, HS7, HF7, HMM2, HO7, HB7⟩
   | none =>
    rw [hsd] at hlk hgo
    simp only [Option.getD_none, Option.isSome_none] at hlk hgo
    replace hgo := Option.bind_eq_some_iff.mp hgo
    obtain ⟨⟨st, r⟩, hv, hgo⟩ := hgo
    have hclo : ∀ a b, r = some (a, b) → ∃ c, closeF (slices_Reverse_int_int.f k) st.2.1 a b = some c ∧ p1 = [] ∧ p2 = c := by
     intro a b hr
     subst hr
     obtain ⟨c, hc, hp⟩ := Option.bind_eq_some_iff.mp hgo
     injection hp with hp
     injection hp with h1 h2
     exact ⟨c, hc, h1.symm, h2.symm⟩
    have hmi : ms ≤ 2000 * i.toNat ∧ mf ≤ 2000 * i.toNat := by have := HMM.out; omega
    have HVI := Aside0.mk (visit_fn.calls k near An cn w2 wr g bs bf ms mf (2000 * i.toNat) sd fr i (.slice none 0 0) st r HN.out HGB.out (by omega) (by omega) (by omega) (by omega) HS.out HF.out hmi (by omega) HBW.out.1 hv (fun a b hr => by obtain ⟨c, hc, _⟩ := hclo a b hr; exact ⟨c, hc⟩))
    have HRC := Aside0.mk (fun (w4 : World) (hc : Chg wr w4 g bs bf) => Kd.R_step HR.out (fun k ok hk => hc.2 k hk ok.1 ok.2.1 ok.2.2))
    have hacc : acc.length ≤ 1000 := by omega
    have hidx : bs < w3.heap.size ∧ bf < w3.heap.size ∧ g < w3.heap.size := by omega
    have HW3 := Aside0.mk hbz
    cases r with
    | some ab =>
     obtain ⟨a, b⟩ := ab
     obtain ⟨c, hc, hp1, hp2⟩ := hclo a b rfl
     subst hp1
     subst hp2
     have HCL := Aside0.mk hc
     clear hgo hv hclo hc hmi hsd c1 i1 i2 HI HG hm hl60 hbz jx1 jx2 jx3 jx4 hacc hidx
     go_wp2_with (go_at_call 75; go_must ((with_reducible refine HVI.out.mono ?_); rintro e w4 ⟨rfl, _, hA, hB4⟩; obtain ⟨c', vc', h1, h2, h3⟩ := hA a b rfl; have h1' := HCL.out.symm.trans h1; injection h1' with h1'; subst h1'; have HA2 := Aside0.mk h3; have HB4 := Aside0.mk hB4; clear hA h1 h3 hB4))
     repeat (go_quiet (fail); try go_wp2)
     go_ret3
     exact ⟨_, _, rfl, Kd.R_nil _ _ _ _ _, Kd.R_lower (Kd.R_mono (by first | exact HA2.out | exact Kd.R_drewN HA2.out _) (fun k _ => by simp [Value.ownBlock])) HB2.out.size, below_step HB2.out (by first | exact HB4.out | exact pw_below_drewN HB4.out _)⟩
    | none =>
     have HNX := Aside0.mk (fun (w4 : World) (ms' mf' : Nat) (q1 : ms' ≤ 2000 * i.toNat + 2000) (q2 : mf' ≤ 2000 * i.toNat + 2000) (q3 : w4.heap[g]? = some (.cells #[.slice An near.length cn, .map (some bs), .map (some bf), .slice none 0 0] 91 (0, 0))) (q4 : MapAt w4 Try.prog 3 bs ms' (encO st.1)) (q5 : MapAt w4 Try.prog 3 bf mf' (encO st.2.1)) (q6 : Chg wr w4 g bs bf) (q7 : Below w2.heap.size w2 w4) =>
      show w4.cell? ⟨g, 1, none⟩ = some (.map (some bs)) ∧ (Instr.lookup 80 (.map (some bs)) (.int .i64 i) false).run Try.prog w4 = .ok (.int .i64 ((st.1 i).getD 0)) w4 ∧
       ∃ v7 w7, (Builtin.append_ #[22, 22] 22 #[.slice A6 acc.length c6, .slice (some ⟨w4.heap.size, 0, none⟩) 1 1]).run Try.prog (w4.alloc (.cells #[.int .i64 ((st.1 i).getD 0)] 3)) = .ok v7 w7 ∧
        w7.heap[g]? = some (.cells #[.slice An near.length cn, .map (some bs), .map (some bf), .slice none 0 0] 91 (0, 0)) ∧ MapAt w7 Try.prog 3 bs ms' (encO st.1) ∧ MapAt w7 Try.prog 3 bf mf' (encO st.2.1) ∧ ((ms' : Int) ≤ 2000 * (i + 1) ∧ (mf' : Int) ≤ 2000 * (i + 1)) ∧
        Kd.R (Kd.int .i64) 3 w7 w2.heap.size (fun k => k ≠ bs ∧ k ≠ bf ∧ k ≠ g) v7 (acc ++ [(st.1 i).getD 0]) ∧ (Below w2.heap.size w2 w7 ∧ w3.heap.size ≤ w7.heap.size) from by
      have hr4 := HRC.out w4 q6
      have hz4 : w3.heap.size ≤ w4.heap.size := by have := q6.1; omega
      obtain ⟨v7, w7, hrun, ho7, hB7, hgr7, _⟩ := append_one (Kd.int .i64) (P := Try.prog) (w0 := w2) (W := w4) w2.heap.size 22 22 3 (.int .i64 0) 8 Try.underlying22 info3 rfl (by decide) (by omega) (v := .slice A6 acc.length c6) (xs := acc) ((st.1 i).getD 0) [.int .i64 ((st.1 i).getD 0)] (ok := fun k => k ≠ bs ∧ k ≠ bf ∧ k ≠ g) (fun _ => False) rfl (fun _ h => h.elim) (fun k hk => by omega) hr4 q7 q7.size (by omega)
      have hne : some g ≠ (Value.slice A6 acc.length c6).ownBlock := Kd.R_ne hr4 q3 (by decide)
      have hob : ∀ b : Nat, b = bs ∨ b = bf → some b ≠ (Value.slice A6 acc.length c6).ownBlock := fun b hb he => by
       have := hr4.1 b he.symm
       omega
      exact ⟨(blk_cell q3 1).trans rfl, stacks_look q4 i0 hi1000, v7, w7, hrun, blk_grown q3 hgr7 hne, q4.kept hgr7 (hob bs (.inl rfl)), q5.kept hgr7 (hob bf (.inr rfl)), by omega, ho7, hB7, by have := hgr7.size; omega⟩)
     have HGG := Aside0.mk (show stacksGo (slices_Reverse_int_int.f k) near m (i + 1) st.1 st.2.1 (acc ++ [(st.1 i).getD 0]) = some (p1, p2) from hgo)
     have HI3 := Aside0.mk (show 0 ≤ i + 1 ∧ i + 1 + m = l0.length ∧ (acc ++ [(st.1 i).getD 0]).length ≤ 1000 - m by simp; omega)
     clear hgo hv hclo hmi hsd c1 i1 i2 HI HG hm hl60 hbz jx1 jx2 jx3 jx4 hacc hidx
     go_wp2_with (first | (at_builtin; go_must (refine wpList_appendRun _ rfl _ _ _ rfl HRUN.out rfl rfl rfl ?_)) | (go_at_call 75; go_must ((with_reducible refine HVI.out.mono ?_); rintro e w4 ⟨rfl, hA, _, hB4⟩; obtain ⟨ms', mf', q1, q2, q3, q4, q5, q6⟩ := hA rfl; obtain ⟨hg4, hlk4, v7, w7, hrun, f1, f2, f3, f4, f5, f6⟩ := HNX.out w4 ms' mf' q1 q2 q3 q4 q5 q6 hB4; have HRUN := Aside0.mk hrun; have F1 := Aside0.mk f1; have F2 := Aside0.mk f2; have F3 := Aside0.mk f3; have F4 := Aside0.mk f4; have F5 := Aside0.mk f5; have F6 := Aside0.mk f6; clear hA hB4 q1 q2 q3 q4 q5 q6 hrun f1 f2 f3 f4 f5 f6)))
     go_roundg m
     case measure => exact HI2.out.2.2
     case rel => exact ⟨i + 1, st.1, st.2.1, acc ++ [(st.1 i).getD 0], ms', mf', by go_num, HI3, HGG, F1, F2, F3, F4, F5, F6⟩
end Go.Proofs.Ytjbjongahnocdaa.S
