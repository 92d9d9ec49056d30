-- Written by wip/bundle2.py: texts of this claim, one behind the other.
import Derived.Test.YtjbjongahnocdaaBShuntOnce2
import Derived.RowKit
import Derived.Test.YtjbjongahnocdaaWWords
set_option linter.unusedVariables false
set_option linter.unusedSimpArgs false

namespace Go.Proofs.Ytjbjongahnocdaa.S
open Go.Proofs.Ytjbjongahnocdaa.Lib
open Go.Proofs.Ytjbjongahnocdaa.Defs
open Go.Maps (Keyed)
open Go.RowKit Go.Proofs.YtjbjongahnocdaaW.PrintWords Go.Proofs.YtjbjongahnocdaaW.PrintLast Go.Proofs.YtjbjongahnocdaaW.PrintMore
attribute [local go_sem] max2_int min2_int max_two min_two max_three min_three max_four min_four
set_option linter.unusedVariables false
set_option linter.unusedSimpArgs false

mutual
def tickinglaw02_ShuntOnce.j0 : Nat → Int → List Int → ByteArray → List Int → List Int → Bool → List Int → List Int → Option (Bool)
 | 0, _, _, _, _, _, _, _, _ => none
 | k + 1, x1, x7, x8, x11, x14, x56, x692000, x692001 => if x56 = true then (some false) else ((tickinglaw02_list.f x692001).bind fun t716 => (if x8.toList = ([] : List UInt8) then (if (x11.length : Int) > 0 then ((shunt_CheckQueues.f x7 x1 ([] : List Int) t716).bind fun t719 => (if t719 = 10 then (if (x14.length : Int) > 0 then ((shunt_CheckStacks.f k x7 ([] : List Int) t716).bind fun t720 => (tickinglaw02_ShuntOnce.j1 k x1 x7 x11 x14 (t720 != 10) x692000 x692001)) else (tickinglaw02_ShuntOnce.j1 k x1 x7 x11 x14 false x692000 x692001)) else (tickinglaw02_ShuntOnce.j1 k x1 x7 x11 x14 true x692000 x692001))) else (if (x14.length : Int) > 0 then ((shunt_CheckStacks.f k x7 ([] : List Int) t716).bind fun t721 => (tickinglaw02_ShuntOnce.j1 k x1 x7 x11 x14 (t721 != 10) x692000 x692001)) else (tickinglaw02_ShuntOnce.j1 k x1 x7 x11 x14 false x692000 x692001))) else ((shunt_CheckStack.f k x7 (⟨#[]⟩ : ByteArray) t716).bind fun t722 => (if t722 = 10 then (if (x11.length : Int) > 0 then ((shunt_CheckQueues.f x7 x1 ([] : List Int) t716).bind fun t723 => (if t723 = 10 then (if (x14.length : Int) > 0 then ((shunt_CheckStacks.f k x7 ([] : List Int) t716).bind fun t724 => (tickinglaw02_ShuntOnce.j1 k x1 x7 x11 x14 (t724 != 10) x692000 x692001)) else (tickinglaw02_ShuntOnce.j1 k x1 x7 x11 x14 false x692000 x692001)) else (tickinglaw02_ShuntOnce.j1 k x1 x7 x11 x14 true x692000 x692001))) else (if (x14.length : Int) > 0 then ((shunt_CheckStacks.f k x7 ([] : List Int) t716).bind fun t725 => (tickinglaw02_ShuntOnce.j1 k x1 x7 x11 x14 (t725 != 10) x692000 x692001)) else (tickinglaw02_ShuntOnce.j1 k x1 x7 x11 x14 false x692000 x692001))) else (tickinglaw02_ShuntOnce.j1 k x1 x7 x11 x14 true x692000 x692001)))))
def tickinglaw02_ShuntOnce.j1 : Nat → Int → List Int → List Int → List Int → Bool → List Int → List Int → Option (Bool)
 | 0, _, _, _, _, _, _, _ => none
 | k + 1, x1, x7, x11, x14, x90, x692000, x692001 => if x90 = true then (some false) else ((tickinglaw02_list.f x692000).bind fun t726 => (if (x11.length : Int) = 0 then ((shunt_CheckQueues.f x7 x1 t726 ([] : List Int)).bind fun t729 => (tickinglaw02_ShuntOnce.j2 k x7 x14 t726 (t729 != 10))) else (tickinglaw02_ShuntOnce.j2 k x7 x14 t726 false)))
def tickinglaw02_ShuntOnce.j2 : Nat → List Int → List Int → List Int → Bool → Option (Bool)
 | 0, _, _, _, _ => none
 | k + 1, x7, x14, x18, x103 => if x103 = true then (some false) else (if (x14.length : Int) > 0 then ((tickinglaw02_awake.f k).bind fun t730 => (some t730)) else ((shunt_CheckStacks.f k x7 x18 ([] : List Int)).bind fun t731 => (if t731 = 10 then ((tickinglaw02_awake.f k).bind fun t732 => (some t732)) else (some false))))
end
def tickinglaw02_ShuntOnce.f (k : Nat) (l0 : List Int) (a1 : Int) (l2_0 : List Int) (l2_1 : List Int) : Option (Bool) := (tickinglaw02_tame.f k l0 30).bind fun t692 => (if (t692.length : Int) = 0 then ((tickinglaw02_awake.f k).bind fun t695 => (some t695)) else ((tickinglaw02_mod.f a1 6).bind fun t696 => ((shunt_Stack.f k t692).bind fun bt697 => ((shunt_Queues.f k t692 (wrap64 (1 + t696))).bind fun bt702 => ((shunt_Stacks.f k t692).bind fun bt709 => (if bt697.2.2 = 0 then (if bt702.2.2 = 0 then (tickinglaw02_ShuntOnce.j0 k (wrap64 (1 + t696)) t692 bt697.1 bt702.1 bt709.1 (bt709.2.2 != 0) l2_0 l2_1) else (tickinglaw02_ShuntOnce.j0 k (wrap64 (1 + t696)) t692 bt697.1 bt702.1 bt709.1 true l2_0 l2_1)) else (tickinglaw02_ShuntOnce.j0 k (wrap64 (1 + t696)) t692 bt697.1 bt702.1 bt709.1 true l2_0 l2_1)))))))
set_option maxHeartbeats 8000000 in
set_option maxRecDepth 100000 in
theorem tickinglaw02_ShuntOnce.calls (k : Nat) (A0 : Option Addr) (c0 : Nat) (l0 : List Int) (a1 : Int) (A2_0 : Option Addr) (c2_0 : Nat) (l2_0 : List Int) (A2_1 : Option Addr) (c2_1 : Nat) (l2_1 : List Int) (r : Bool) (w : World) (hr0 : Kd.C (Kd.int .i64) w A0 l0.length l0) (hc0 : l0.length ≤ c0) (hr2_0 : Kd.C (Kd.int .i64) w A2_0 l2_0.length l2_0) (hc2_0 : l2_0.length ≤ c2_0) (hr2_1 : Kd.C (Kd.int .i64) w A2_1 l2_1.length l2_1) (hc2_1 : l2_1.length ≤ c2_1) (h : tickinglaw02_ShuntOnce.f k l0 a1 l2_0 l2_1 = some r) :
  Calls Try.prog 17 #[.slice A0 l0.length c0, .int .i64 a1, .agg #[.slice A2_0 l2_0.length c2_0, .slice A2_1 l2_1.length c2_1]] w fun e w' => e = .returned (.bool r) ∧ Below w.heap.size w w' := by
 have hu43 := Try.underlying43
 have HR0 := Aside0.mk hr0
 have HC0 := Aside0.mk hc0
 clear hr0 hc0
 have HR2_0 := Aside0.mk hr2_0
 have HC2_0 := Aside0.mk hc2_0
 clear hr2_0 hc2_0
 have HR2_1 := Aside0.mk hr2_1
 have HC2_1 := Aside0.mk hc2_1
 clear hr2_1 hc2_1
 have HB := Aside0.mk (Below.refl w.heap.size w)
 have H : ((tickinglaw02_tame.f k l0 30).bind fun t692 => (if (t692.length : Int) = 0 then ((tickinglaw02_awake.f k).bind fun t695 => (some t695)) else ((tickinglaw02_mod.f a1 6).bind fun t696 => ((shunt_Stack.f k t692).bind fun bt697 => ((shunt_Queues.f k t692 (wrap64 (1 + t696))).bind fun bt702 => ((shunt_Stacks.f k t692).bind fun bt709 => (if bt697.2.2 = 0 then (if bt702.2.2 = 0 then (tickinglaw02_ShuntOnce.j0 k (wrap64 (1 + t696)) t692 bt697.1 bt702.1 bt709.1 (bt709.2.2 != 0) l2_0 l2_1) else (tickinglaw02_ShuntOnce.j0 k (wrap64 (1 + t696)) t692 bt697.1 bt702.1 bt709.1 true l2_0 l2_1)) else (tickinglaw02_ShuntOnce.j0 k (wrap64 (1 + t696)) t692 bt697.1 bt702.1 bt709.1 true l2_0 l2_1)))))))) = some r := h
 clear h
 replace H := Option.bind_eq_some_iff.mp H
 obtain ⟨t692, A40, H⟩ := H
 replace H : (if (t692.length : Int) = 0 then ((tickinglaw02_awake.f k).bind fun t695 => (some t695)) else ((tickinglaw02_mod.f a1 6).bind fun t696 => ((shunt_Stack.f k t692).bind fun bt697 => ((shunt_Queues.f k t692 (wrap64 (1 + t696))).bind fun bt702 => ((shunt_Stacks.f k t692).bind fun bt709 => (if bt697.2.2 = 0 then (if bt702.2.2 = 0 then (tickinglaw02_ShuntOnce.j0 k (wrap64 (1 + t696)) t692 bt697.1 bt702.1 bt709.1 (bt709.2.2 != 0) l2_0 l2_1) else (tickinglaw02_ShuntOnce.j0 k (wrap64 (1 + t696)) t692 bt697.1 bt702.1 bt709.1 true l2_0 l2_1)) else (tickinglaw02_ShuntOnce.j0 k (wrap64 (1 + t696)) t692 bt697.1 bt702.1 bt709.1 true l2_0 l2_1))))))) = some r := H
 have A4 := Aside0.mk A40
 clear A40
 by_cases c5 : (t692.length : Int) = 0
 ·rw [if_pos c5] at H
  have c5b0 : ((t692.length : Int) == 0) = true := beq_iff_eq.mpr c5
  have c5b1 : ((t692.length : Int) != 0) = false := bne_eq_false_iff_eq.mpr c5
  clear c5
  replace H := Option.bind_eq_some_iff.mp H
  obtain ⟨t695, A60, H⟩ := H
  replace H : (some t695) = some r := H
  have A6 := Aside0.mk A60
  clear A60
  obtain rfl := Option.some.inj H
  go_enter Try.func17, Try.ntmps17
  go_wp2_with (first | ((with_reducible refine gate_dst (N := 5) rfl ?_); (try (refine gate_guard (by rfl) ?_; dsimp only)); refine box_event ?hg (N := 5) ?hd (cs := #[.slice A2_0 l2_0.length c2_0, .slice A2_1 l2_1.length c2_1]) (t := 43) ?hr ?_; (case hd => rfl); (case hg => rfl); (case hr => first | (go_simp; done) | (go_simp; rfl)); intro gb691 hg w7 hbox hb; have n0_ := Aside0.mk (below_step (by repeat (first | (with_reducible first | exact HB.out | apply below_alloc | apply pw_below_drewN | apply below_drew1) | exact HB.out)) hb); have n1_ := Aside0.mk (hbox); have n2_ := Aside0.mk ((by rw [hg]; exact (below_size (by repeat (first | (with_reducible first | exact HB.out | apply below_alloc | apply pw_below_drewN | apply below_drew1) | exact HB.out))) : w.heap.size ≤ gb691)); have n3_ := Aside0.mk ((by rw [hg]; exact (below_size (by repeat (first | (with_reducible first | exact HB.out | apply below_alloc | apply pw_below_drewN | apply below_drew1) | exact HB.out))) : w.heap.size ≤ gb691)); clear HB; have HB := n0_; have BK691 := n1_; have GW691 := n2_; have GE691 := n3_; clear n0_ n1_ n2_ n3_; clear hb hbox hg) | ((with_reducible refine gate_callee (f := 27) rfl ?_); refine goesL_ (some 20) rfl rfl Try.func27 (by kernel_rfl) rfl #[.slice A0 l0.length c0, .int .i64 30] rfl (by (try simp only [List.map_toArray, List.map_cons, List.map_nil]); first | done | rfl | (simp only [List.length_drop, List.length_take]; rfl)) ?_; (with_reducible refine (tickinglaw02_tame.calls k _ _ l0 30 t692 _ ?side1 ?side2 A4.out).mono ?_); (case side1 => repeat (first | exact (Kd.C_below HR0.out HB.out) | (with_reducible refine Kd.C_alloc ?_ _) | (with_reducible refine Kd.C_drewN ?_ _) | (with_reducible refine Kd.C_drew ?_))); (case side2 => exact HC0.out); rintro e w8 ⟨v693, rfl, ho0, hb⟩; refine ⟨_, rfl, ?_⟩; have n0_ := Aside0.mk (Kd.R_lower ho0 (below_size (by repeat (first | (with_reducible first | exact HB.out | apply below_alloc | apply pw_below_drewN | apply below_drew1 | refine below_set ?_ GE691.out) | exact HB.out)))); have n1_ := Aside0.mk (blk_below (g := gb691) (o := .cells #[.slice A2_0 l2_0.length c2_0, .slice A2_1 l2_1.length c2_1] 43 (0, 0)) (by (with_reducible repeat (first | refine blk_drewN ?_ _ | refine blk_drew ?_ | refine blk_alloc ?_ _)); exact BK691.out) hb); have n2_ := Aside0.mk (below_step (by repeat (first | (with_reducible first | exact HB.out | apply below_alloc | apply pw_below_drewN | apply below_drew1 | refine below_set ?_ GE691.out) | exact HB.out)) hb); clear BK691; clear HB; have HO694 := n0_; have BK691 := n1_; have HB := n2_; clear n0_ n1_ n2_; (try clear hb); (try clear hb2); (try clear hk); (try clear hi); (try clear ho0); obtain ⟨Ao9, co9, eo9⟩ := Kd.R_slice HO694.out; subst eo9) | ((with_reducible refine gate_callee (f := 22) rfl ?_); refine goesL_ (some 24) rfl rfl Try.func22 (by kernel_rfl) rfl #[] rfl (by (try simp only [List.map_toArray, List.map_cons, List.map_nil]); first | done | rfl | (simp only [List.length_drop, List.length_take]; rfl)) ?_; (with_reducible refine (tickinglaw02_awake.calls k  t695 _ A6.out).mono ?_); rintro e w10 ⟨rfl, hb⟩; refine ⟨_, rfl, ?_⟩; have n0_ := Aside0.mk (Kd.R_below (by (with_reducible repeat (first | apply Kd.R_alloc | apply Kd.R_drewN | apply Kd.R_drew)); exact HO694.out) hb); have n1_ := Aside0.mk (blk_below (g := gb691) (o := .cells #[.slice A2_0 l2_0.length c2_0, .slice A2_1 l2_1.length c2_1] 43 (0, 0)) (by (with_reducible repeat (first | refine blk_drewN ?_ _ | refine blk_drew ?_ | refine blk_alloc ?_ _)); exact BK691.out) hb); have n2_ := Aside0.mk (below_step (by repeat (first | (with_reducible first | exact HB.out | apply below_alloc | apply pw_below_drewN | apply below_drew1 | refine below_set ?_ GE691.out) | exact HB.out)) hb); clear HO694; clear BK691; clear HB; have HO694 := n0_; have BK691 := n1_; have HB := n2_; clear n0_ n1_ n2_; (try clear hb); (try clear hb2); (try clear hk); (try clear hi)))
  go_ret
  exact ⟨by first | rfl | (simp [errW_none, errW_some] <;> rfl) | (simp [*, errW_none, errW_some] <;> rfl), by repeat (first | (with_reducible first | exact HB.out | apply below_alloc | apply pw_below_drewN | apply below_drew1 | refine below_set ?_ GE691.out) | exact HB.out)⟩
 ·rw [if_neg c5] at H
  have c5b0 : ((t692.length : Int) == 0) = false := beq_eq_false_iff_ne.mpr c5
  have c5b1 : ((t692.length : Int) != 0) = true := bne_iff_ne.mpr c5
  have c5b2 : ¬ (t692 = []) := fun h_ => c5 (by rw [h_]; rfl)
  replace H := Option.bind_eq_some_iff.mp H
  obtain ⟨t696, A110, H⟩ := H
  replace H : ((shunt_Stack.f k t692).bind fun bt697 => ((shunt_Queues.f k t692 (wrap64 (1 + t696))).bind fun bt702 => ((shunt_Stacks.f k t692).bind fun bt709 => (if bt697.2.2 = 0 then (if bt702.2.2 = 0 then (tickinglaw02_ShuntOnce.j0 k (wrap64 (1 + t696)) t692 bt697.1 bt702.1 bt709.1 (bt709.2.2 != 0) l2_0 l2_1) else (tickinglaw02_ShuntOnce.j0 k (wrap64 (1 + t696)) t692 bt697.1 bt702.1 bt709.1 true l2_0 l2_1)) else (tickinglaw02_ShuntOnce.j0 k (wrap64 (1 + t696)) t692 bt697.1 bt702.1 bt709.1 true l2_0 l2_1))))) = some r := H
  have A11 := Aside0.mk A110
  clear A110
  replace H := Option.bind_eq_some_iff.mp H
  obtain ⟨⟨t697, t698, t699⟩, A120, H⟩ := H
  replace H : ((shunt_Queues.f k t692 (wrap64 (1 + t696))).bind fun bt702 => ((shunt_Stacks.f k t692).bind fun bt709 => (if t699 = 0 then (if bt702.2.2 = 0 then (tickinglaw02_ShuntOnce.j0 k (wrap64 (1 + t696)) t692 t697 bt702.1 bt709.1 (bt709.2.2 != 0) l2_0 l2_1) else (tickinglaw02_ShuntOnce.j0 k (wrap64 (1 + t696)) t692 t697 bt702.1 bt709.1 true l2_0 l2_1)) else (tickinglaw02_ShuntOnce.j0 k (wrap64 (1 + t696)) t692 t697 bt702.1 bt709.1 true l2_0 l2_1)))) = some r := H
  have A12 := Aside0.mk A120
  clear A120
  replace H := Option.bind_eq_some_iff.mp H
  obtain ⟨⟨t702, t703, t704⟩, A130, H⟩ := H
  replace H : ((shunt_Stacks.f k t692).bind fun bt709 => (if t699 = 0 then (if t704 = 0 then (tickinglaw02_ShuntOnce.j0 k (wrap64 (1 + t696)) t692 t697 t702 bt709.1 (bt709.2.2 != 0) l2_0 l2_1) else (tickinglaw02_ShuntOnce.j0 k (wrap64 (1 + t696)) t692 t697 t702 bt709.1 true l2_0 l2_1)) else (tickinglaw02_ShuntOnce.j0 k (wrap64 (1 + t696)) t692 t697 t702 bt709.1 true l2_0 l2_1))) = some r := H
  have A13 := Aside0.mk A130
  clear A130
  replace H := Option.bind_eq_some_iff.mp H
  obtain ⟨⟨t709, t710, t711⟩, A140, H⟩ := H
  replace H : (if t699 = 0 then (if t704 = 0 then (tickinglaw02_ShuntOnce.j0 k (wrap64 (1 + t696)) t692 t697 t702 t709 (t711 != 0) l2_0 l2_1) else (tickinglaw02_ShuntOnce.j0 k (wrap64 (1 + t696)) t692 t697 t702 t709 true l2_0 l2_1)) else (tickinglaw02_ShuntOnce.j0 k (wrap64 (1 + t696)) t692 t697 t702 t709 true l2_0 l2_1)) = some r := H
  have A14 := Aside0.mk A140
  clear A140
  have HC15 := Aside0.mk H
  clear H
  go_enter Try.func17, Try.ntmps17
  go_upto_region 8 with (first | ((with_reducible refine gate_dst (N := 5) rfl ?_); (try (refine gate_guard (by rfl) ?_; dsimp only)); refine box_event ?hg (N := 5) ?hd (cs := #[.slice A2_0 l2_0.length c2_0, .slice A2_1 l2_1.length c2_1]) (t := 43) ?hr ?_; (case hd => rfl); (case hg => rfl); (case hr => first | (go_simp; done) | (go_simp; rfl)); intro gb691 hg w16 hbox hb; have n0_ := Aside0.mk (below_step (by repeat (first | (with_reducible first | exact HB.out | apply below_alloc | apply pw_below_drewN | apply below_drew1) | exact HB.out)) hb); have n1_ := Aside0.mk (hbox); have n2_ := Aside0.mk ((by rw [hg]; exact (below_size (by repeat (first | (with_reducible first | exact HB.out | apply below_alloc | apply pw_below_drewN | apply below_drew1) | exact HB.out))) : w.heap.size ≤ gb691)); have n3_ := Aside0.mk ((by rw [hg]; exact (below_size (by repeat (first | (with_reducible first | exact HB.out | apply below_alloc | apply pw_below_drewN | apply below_drew1) | exact HB.out))) : w.heap.size ≤ gb691)); clear HB; have HB := n0_; have BK691 := n1_; have GW691 := n2_; have GE691 := n3_; clear n0_ n1_ n2_ n3_; clear hb hbox hg) | ((with_reducible refine gate_callee (f := 27) rfl ?_); refine goesL_ (some 20) rfl rfl Try.func27 (by kernel_rfl) rfl #[.slice A0 l0.length c0, .int .i64 30] rfl (by (try simp only [List.map_toArray, List.map_cons, List.map_nil]); first | done | rfl | (simp only [List.length_drop, List.length_take]; rfl)) ?_; (with_reducible refine (tickinglaw02_tame.calls k _ _ l0 30 t692 _ ?side1 ?side2 A4.out).mono ?_); (case side1 => repeat (first | exact (Kd.C_below HR0.out HB.out) | (with_reducible refine Kd.C_alloc ?_ _) | (with_reducible refine Kd.C_drewN ?_ _) | (with_reducible refine Kd.C_drew ?_))); (case side2 => exact HC0.out); rintro e w17 ⟨v693, rfl, ho0, hb⟩; refine ⟨_, rfl, ?_⟩; have n0_ := Aside0.mk (Kd.R_lower ho0 (below_size (by repeat (first | (with_reducible first | exact HB.out | apply below_alloc | apply pw_below_drewN | apply below_drew1 | refine below_set ?_ GE691.out) | exact HB.out)))); have n1_ := Aside0.mk (blk_below (g := gb691) (o := .cells #[.slice A2_0 l2_0.length c2_0, .slice A2_1 l2_1.length c2_1] 43 (0, 0)) (by (with_reducible repeat (first | refine blk_drewN ?_ _ | refine blk_drew ?_ | refine blk_alloc ?_ _)); exact BK691.out) hb); have n2_ := Aside0.mk (below_step (by repeat (first | (with_reducible first | exact HB.out | apply below_alloc | apply pw_below_drewN | apply below_drew1 | refine below_set ?_ GE691.out) | exact HB.out)) hb); clear BK691; clear HB; have HO694 := n0_; have BK691 := n1_; have HB := n2_; clear n0_ n1_ n2_; (try clear hb); (try clear hb2); (try clear hk); (try clear hi); (try clear ho0); obtain ⟨Ao18, co18, eo18⟩ := Kd.R_slice HO694.out; subst eo18) | ((with_reducible refine gate_callee (f := 31) rfl ?_); refine goesL_ (some 26) rfl rfl Try.func31 (by kernel_rfl) rfl #[.int .i64 a1, .int .i64 6] rfl (by (try simp only [List.map_toArray, List.map_cons, List.map_nil]); first | done | rfl | (simp only [List.length_drop, List.length_take]; rfl)) ?_; (with_reducible refine (tickinglaw02_mod.calls a1 6 t696 _ A11.out).mono ?_); rintro e w' ⟨rfl, ⟨nd, rfl⟩⟩; refine ⟨_, rfl, ?_⟩) | ((with_reducible refine gate_callee (f := 28) rfl ?_); refine goesL_ (some 30) rfl rfl Try.func28 (by kernel_rfl) rfl #[.slice Ao18 t692.length co18] rfl (by (try simp only [List.map_toArray, List.map_cons, List.map_nil]); first | done | rfl | (simp only [List.length_drop, List.length_take]; rfl)) ?_; (with_reducible refine (shunt_Stack.calls k _ _ t692 t697 t698 t699 _ ?side1 ?side2 A12.out).mono ?_); (case side1 => repeat (first | exact (Kd.R_reads' HO694.out).2.2 | (with_reducible refine Kd.C_alloc ?_ _) | (with_reducible refine Kd.C_drewN ?_ _) | (with_reducible refine Kd.C_drew ?_))); (case side2 => exact (Kd.R_reads' HO694.out).2.1); rintro e w19 ⟨v700, rfl, ho0, hb⟩; refine ⟨_, rfl, ?_⟩; have n0_ := Aside0.mk (Kd.R_elder' (by (with_reducible repeat (first | apply Kd.R_alloc | apply Kd.R_drewN | apply Kd.R_drew)); exact HO694.out) (Kd.R_base ho0) hb); have n1_ := Aside0.mk (Kd.R_lower (Kd.R_new' ho0 (Kd.R_lt (by (with_reducible repeat (first | apply Kd.R_alloc | apply Kd.R_drewN | apply Kd.R_drew)); exact HO694.out))) (below_size (by repeat (first | (with_reducible first | exact HB.out | apply below_alloc | apply pw_below_drewN | apply below_drew1 | refine below_set ?_ GE691.out) | exact HB.out)))); have n2_ := Aside0.mk (blk_below (g := gb691) (o := .cells #[.slice A2_0 l2_0.length c2_0, .slice A2_1 l2_1.length c2_1] 43 (0, 0)) (by (with_reducible repeat (first | refine blk_drewN ?_ _ | refine blk_drew ?_ | refine blk_alloc ?_ _)); exact BK691.out) hb); have n3_ := Aside0.mk (below_step (by repeat (first | (with_reducible first | exact HB.out | apply below_alloc | apply pw_below_drewN | apply below_drew1 | refine below_set ?_ GE691.out) | exact HB.out)) hb); clear HO694; clear BK691; clear HB; have HO694 := n0_; have HO701 := n1_; have BK691 := n2_; have HB := n3_; clear n0_ n1_ n2_ n3_; (try clear hb); (try clear hb2); (try clear hk); (try clear hi); (try clear ho0)) | ((with_reducible refine gate_callee (f := 43) rfl ?_); refine goesL_ (some 37) rfl rfl Try.func43 (by kernel_rfl) rfl #[.slice Ao18 t692.length co18, .int .i64 (wrap64 (1 + t696))] rfl (by (try simp only [List.map_toArray, List.map_cons, List.map_nil]); first | done | rfl | (simp only [List.length_drop, List.length_take]; rfl)) ?_; (with_reducible refine (shunt_Queues.calls k _ _ t692 (wrap64 (1 + t696)) t702 t703 t704 _ ?side1 ?side2 A13.out).mono ?_); (case side1 => repeat (first | exact (Kd.R_reads' HO694.out).2.2 | (with_reducible refine Kd.C_alloc ?_ _) | (with_reducible refine Kd.C_drewN ?_ _) | (with_reducible refine Kd.C_drew ?_))); (case side2 => exact (Kd.R_reads' HO694.out).2.1); rintro e w20 ⟨v705, v707, rfl, ho0, ho1, hb⟩; refine ⟨_, rfl, ?_⟩; have n0_ := Aside0.mk (Kd.R_mono (Kd.R_told (Kd.R_told (Kd.R_old (by (with_reducible repeat (first | apply Kd.R_alloc | apply Kd.R_drewN | apply Kd.R_drew)); exact HO694.out) hb) (Kd.R_base ho0)) (Kd.R_base ho1)) (fun _ h_ => h_.1)); have n1_ := Aside0.mk (Kd.R_mono (Kd.R_told (Kd.R_told (Kd.R_old (by (with_reducible repeat (first | apply Kd.R_alloc | apply Kd.R_drewN | apply Kd.R_drew)); exact HO701.out) hb) (Kd.R_base ho0)) (Kd.R_base ho1)) (fun _ h_ => h_.1)); have n2_ := Aside0.mk (Kd.R_lower (Kd.R_new' (Kd.R_new' ho0 (Kd.R_lt (by (with_reducible repeat (first | apply Kd.R_alloc | apply Kd.R_drewN | apply Kd.R_drew)); exact HO694.out))) (Kd.R_lt (by (with_reducible repeat (first | apply Kd.R_alloc | apply Kd.R_drewN | apply Kd.R_drew)); exact HO701.out))) (below_size (by repeat (first | (with_reducible first | exact HB.out | apply below_alloc | apply pw_below_drewN | apply below_drew1 | refine below_set ?_ GE691.out) | exact HB.out)))); have n3_ := Aside0.mk (Kd.R_lower (Kd.R_new' (Kd.R_new' ho1 (Kd.R_lt (by (with_reducible repeat (first | apply Kd.R_alloc | apply Kd.R_drewN | apply Kd.R_drew)); exact HO694.out))) (Kd.R_lt (by (with_reducible repeat (first | apply Kd.R_alloc | apply Kd.R_drewN | apply Kd.R_drew)); exact HO701.out))) (below_size (by repeat (first | (with_reducible first | exact HB.out | apply below_alloc | apply pw_below_drewN | apply below_drew1 | refine below_set ?_ GE691.out) | exact HB.out)))); have n4_ := Aside0.mk (blk_below (g := gb691) (o := .cells #[.slice A2_0 l2_0.length c2_0, .slice A2_1 l2_1.length c2_1] 43 (0, 0)) (by (with_reducible repeat (first | refine blk_drewN ?_ _ | refine blk_drew ?_ | refine blk_alloc ?_ _)); exact BK691.out) hb); have n5_ := Aside0.mk (below_step (by repeat (first | (with_reducible first | exact HB.out | apply below_alloc | apply pw_below_drewN | apply below_drew1 | refine below_set ?_ GE691.out) | exact HB.out)) hb); clear HO694; clear HO701; clear BK691; clear HB; have HO694 := n0_; have HO701 := n1_; have HO706 := n2_; have HO708 := n3_; have BK691 := n4_; have HB := n5_; clear n0_ n1_ n2_ n3_ n4_ n5_; (try clear hb); (try clear hb2); (try clear hk); (try clear hi); (try clear ho0); (try clear ho1)) | ((with_reducible refine gate_callee (f := 48) rfl ?_); refine goesL_ (some 43) rfl rfl Try.func48 (by kernel_rfl) rfl #[.slice Ao18 t692.length co18] rfl (by (try simp only [List.map_toArray, List.map_cons, List.map_nil]); first | done | rfl | (simp only [List.length_drop, List.length_take]; rfl)) ?_; (with_reducible refine (shunt_Stacks.calls k _ _ t692 t709 t710 t711 _ ?side1 ?side2 A14.out).mono ?_); (case side1 => repeat (first | exact (Kd.R_reads' HO694.out).2.2 | (with_reducible refine Kd.C_alloc ?_ _) | (with_reducible refine Kd.C_drewN ?_ _) | (with_reducible refine Kd.C_drew ?_))); (case side2 => exact (Kd.R_reads' HO694.out).2.1); rintro e w21 ⟨v712, v714, rfl, ho0, ho1, hb⟩; refine ⟨_, rfl, ?_⟩; have n0_ := Aside0.mk (Kd.R_mono (Kd.R_told (Kd.R_told (Kd.R_old (by (with_reducible repeat (first | apply Kd.R_alloc | apply Kd.R_drewN | apply Kd.R_drew)); exact HO694.out) hb) (Kd.R_base ho0)) (Kd.R_base ho1)) (fun _ h_ => h_.1)); have n1_ := Aside0.mk (Kd.R_mono (Kd.R_told (Kd.R_told (Kd.R_old (by (with_reducible repeat (first | apply Kd.R_alloc | apply Kd.R_drewN | apply Kd.R_drew)); exact HO701.out) hb) (Kd.R_base ho0)) (Kd.R_base ho1)) (fun _ h_ => h_.1)); have n2_ := Aside0.mk (Kd.R_mono (Kd.R_told (Kd.R_told (Kd.R_old (by (with_reducible repeat (first | apply Kd.R_alloc | apply Kd.R_drewN | apply Kd.R_drew)); exact HO706.out) hb) (Kd.R_base ho0)) (Kd.R_base ho1)) (fun _ h_ => h_.1)); have n3_ := Aside0.mk (Kd.R_mono (Kd.R_told (Kd.R_told (Kd.R_old (by (with_reducible repeat (first | apply Kd.R_alloc | apply Kd.R_drewN | apply Kd.R_drew)); exact HO708.out) hb) (Kd.R_base ho0)) (Kd.R_base ho1)) (fun _ h_ => h_.1)); have n4_ := Aside0.mk (Kd.R_lower (Kd.R_new' (Kd.R_new' (Kd.R_new' (Kd.R_new' ho0 (Kd.R_lt (by (with_reducible repeat (first | apply Kd.R_alloc | apply Kd.R_drewN | apply Kd.R_drew)); exact HO694.out))) (Kd.R_lt (by (with_reducible repeat (first | apply Kd.R_alloc | apply Kd.R_drewN | apply Kd.R_drew)); exact HO701.out))) (Kd.R_lt (by (with_reducible repeat (first | apply Kd.R_alloc | apply Kd.R_drewN | apply Kd.R_drew)); exact HO706.out))) (Kd.R_lt (by (with_reducible repeat (first | apply Kd.R_alloc | apply Kd.R_drewN | apply Kd.R_drew)); exact HO708.out))) (below_size (by repeat (first | (with_reducible first | exact HB.out | apply below_alloc | apply pw_below_drewN | apply below_drew1 | refine below_set ?_ GE691.out) | exact HB.out)))); have n5_ := Aside0.mk (Kd.R_lower (Kd.R_new' (Kd.R_new' (Kd.R_new' (Kd.R_new' ho1 (Kd.R_lt (by (with_reducible repeat (first | apply Kd.R_alloc | apply Kd.R_drewN | apply Kd.R_drew)); exact HO694.out))) (Kd.R_lt (by (with_reducible repeat (first | apply Kd.R_alloc | apply Kd.R_drewN | apply Kd.R_drew)); exact HO701.out))) (Kd.R_lt (by (with_reducible repeat (first | apply Kd.R_alloc | apply Kd.R_drewN | apply Kd.R_drew)); exact HO706.out))) (Kd.R_lt (by (with_reducible repeat (first | apply Kd.R_alloc | apply Kd.R_drewN | apply Kd.R_drew)); exact HO708.out))) (below_size (by repeat (first | (with_reducible first | exact HB.out | apply below_alloc | apply pw_below_drewN | apply below_drew1 | refine below_set ?_ GE691.out) | exact HB.out)))); have n6_ := Aside0.mk (blk_below (g := gb691) (o := .cells #[.slice A2_0 l2_0.length c2_0, .slice A2_1 l2_1.length c2_1] 43 (0, 0)) (by (with_reducible repeat (first | refine blk_drewN ?_ _ | refine blk_drew ?_ | refine blk_alloc ?_ _)); exact BK691.out) hb); have n7_ := Aside0.mk (below_step (by repeat (first | (with_reducible first | exact HB.out | apply below_alloc | apply pw_below_drewN | apply below_drew1 | refine below_set ?_ GE691.out) | exact HB.out)) hb); clear HO694; clear HO701; clear HO706; clear HO708; clear BK691; clear HB; have HO694 := n0_; have HO701 := n1_; have HO706 := n2_; have HO708 := n3_; have HO713 := n4_; have HO715 := n5_; have BK691 := n6_; have HB := n7_; clear n0_ n1_ n2_ n3_ n4_ n5_ n6_ n7_; (try clear hb); (try clear hb2); (try clear hk); (try clear hi); (try clear ho0); (try clear ho1)))
  (try simp only [Act.put, List.setIfInBounds_toArray, List.set_cons_zero, List.set_cons_succ])
  go_cut [56] (fun v56 wc => ∃ (kq : Nat) (x56_14 : Bool), v56 = .bool x56_14 ∧ Aside0 (tickinglaw02_ShuntOnce.j0 kq (wrap64 (1 + t696)) t692 t697 t702 t709 x56_14 l2_0 l2_1 = some r) ∧ Aside0 (kq ≤ k) ∧ Aside0 (Kd.R (Kd.int .i64) 3 wc w.heap.size (fun k_ => some k_ ≠ (v705 : Value).ownBlock ∧ some k_ ≠ (v712 : Value).ownBlock) (.slice Ao18 t692.length co18) t692) ∧ Aside0 (Kd.R (Kd.int .i64) 3 wc w.heap.size (fun k_ => some k_ ≠ ((.slice Ao18 t692.length co18) : Value).ownBlock ∧ some k_ ≠ (v712 : Value).ownBlock) v705 t702) ∧ Aside0 (Kd.R (Kd.int .i64) 3 wc w.heap.size (fun k_ => some k_ ≠ ((.slice Ao18 t692.length co18) : Value).ownBlock ∧ some k_ ≠ (v705 : Value).ownBlock) v712 t709) ∧ Aside0 (wc.heap[gb691]? = some (.cells #[(.slice A2_0 l2_0.length c2_0), (.slice A2_1 l2_1.length c2_1)] 43 (0, 0))) ∧ Aside0 (Below w.heap.size w wc))
  case first =>
   have H := HC15.out
   clear HC15
   by_cases c22 : t699 = 0
   ·rw [if_pos c22] at H
    have c22b0 : (t699 == 0) = true := beq_iff_eq.mpr c22
    have c22b1 : (t699 != 0) = false := bne_eq_false_iff_eq.mpr c22
    clear c22
    (first | rw [c22b0] | (simp only [i64_w, i32_w]; rw [c22b0]) | skip)
    by_cases c23 : t704 = 0
    ·rw [if_pos c23] at H
     have c23b0 : (t704 == 0) = true := beq_iff_eq.mpr c23
     have c23b1 : (t704 != 0) = false := bne_eq_false_iff_eq.mpr c23
     clear c23
     have H' := Aside0.mk H
     clear H
     go_wp2
     go_meet
     case rel => exact ⟨_, ((t711 != 0)), (by first | rfl | (simp; done) | (simp [*]; done)), H', ⟨by first | omega | exact Nat.le_refl _⟩, ⟨by (with_reducible repeat (first | apply Kd.R_alloc | apply Kd.R_drewN | apply Kd.R_drew)); exact Kd.R_mono HO694.out (fun _ hk => ⟨hk.1.1.1.2, hk.1.2⟩)⟩, ⟨by (with_reducible repeat (first | apply Kd.R_alloc | apply Kd.R_drewN | apply Kd.R_drew)); exact Kd.R_mono HO706.out (fun _ hk => ⟨hk.1.1.1.2, hk.1.2⟩)⟩, ⟨by (with_reducible repeat (first | apply Kd.R_alloc | apply Kd.R_drewN | apply Kd.R_drew)); exact Kd.R_mono HO713.out (fun _ hk => ⟨hk.1.1.1.2, hk.1.2⟩)⟩, ⟨by (with_reducible repeat (first | refine blk_drewN ?_ _ | refine blk_drew ?_ | refine blk_alloc ?_ _)); exact BK691.out⟩, ⟨by repeat (first | (with_reducible first | exact HB.out | apply below_alloc | apply pw_below_drewN | apply below_drew1 | refine below_set ?_ GE691.out) | exact HB.out)⟩⟩
    ·rw [if_neg c23] at H
     have c23b0 : (t704 == 0) = false := beq_eq_false_iff_ne.mpr c23
     have c23b1 : (t704 != 0) = true := bne_iff_ne.mpr c23
     have H' := Aside0.mk H
     clear H
     go_wp2
     go_meet
     case rel => exact ⟨_, (true), (by first | rfl | (simp; done) | (simp [*]; done)), H', ⟨by first | omega | exact Nat.le_refl _⟩, ⟨by (with_reducible repeat (first | apply Kd.R_alloc | apply Kd.R_drewN | apply Kd.R_drew)); exact Kd.R_mono HO694.out (fun _ hk => ⟨hk.1.1.1.2, hk.1.2⟩)⟩, ⟨by (with_reducible repeat (first | apply Kd.R_alloc | apply Kd.R_drewN | apply Kd.R_drew)); exact Kd.R_mono HO706.out (fun _ hk => ⟨hk.1.1.1.2, hk.1.2⟩)⟩, ⟨by (with_reducible repeat (first | apply Kd.R_alloc | apply Kd.R_drewN | apply Kd.R_drew)); exact Kd.R_mono HO713.out (fun _ hk => ⟨hk.1.1.1.2, hk.1.2⟩)⟩, ⟨by (with_reducible repeat (first | refine blk_drewN ?_ _ | refine blk_drew ?_ | refine blk_alloc ?_ _)); exact BK691.out⟩, ⟨by repeat (first | (with_reducible first | exact HB.out | apply below_alloc | apply pw_below_drewN | apply below_drew1 | refine below_set ?_ GE691.out) | exact HB.out)⟩⟩
   ·rw [if_neg c22] at H
    have c22b0 : (t699 == 0) = false := beq_eq_false_iff_ne.mpr c22
    have c22b1 : (t699 != 0) = true := bne_iff_ne.mpr c22
    (first | rw [c22b0] | (simp only [i64_w, i32_w]; rw [c22b0]) | skip)
    have H' := Aside0.mk H
    clear H
    go_wp2
    go_meet
    case rel => exact ⟨_, (true), (by first | rfl | (simp; done) | (simp [*]; done)), H', ⟨by first | omega | exact Nat.le_refl _⟩, ⟨by (with_reducible repeat (first | apply Kd.R_alloc | apply Kd.R_drewN | apply Kd.R_drew)); exact Kd.R_mono HO694.out (fun _ hk => ⟨hk.1.1.1.2, hk.1.2⟩)⟩, ⟨by (with_reducible repeat (first | apply Kd.R_alloc | apply Kd.R_drewN | apply Kd.R_drew)); exact Kd.R_mono HO706.out (fun _ hk => ⟨hk.1.1.1.2, hk.1.2⟩)⟩, ⟨by (with_reducible repeat (first | apply Kd.R_alloc | apply Kd.R_drewN | apply Kd.R_drew)); exact Kd.R_mono HO713.out (fun _ hk => ⟨hk.1.1.1.2, hk.1.2⟩)⟩, ⟨by (with_reducible repeat (first | refine blk_drewN ?_ _ | refine blk_drew ?_ | refine blk_alloc ?_ _)); exact BK691.out⟩, ⟨by repeat (first | (with_reducible first | exact HB.out | apply below_alloc | apply pw_below_drewN | apply below_drew1 | refine below_set ?_ GE691.out) | exact HB.out)⟩⟩
  case rest =>
   clear HC15
   try clear c1
   try clear c2
   try clear p2
   try clear c3
   try clear c4
   try clear c5
   try clear c5b0
   try clear c5b1
   try clear c5b2
   try clear p6
   try clear c17
   try clear c22
   try clear c22b0
   try clear c22b1
   try clear c23
   try clear c23b0
   try clear c23b1
   obtain ⟨kq, x56_14, rfl, HA, HJ14, HO_7, HO_11, HO_14, BK691, HB⟩ := hcut
   cases kq with
   | zero => exact absurd HA.out (by simp [tickinglaw02_ShuntOnce.j0])
   | succ kj14 =>
    have H := HA.out
    clear HA
    simp only [tickinglaw02_ShuntOnce.j0] at H
    by_cases c24 : x56_14 = true
    ·subst c24
     have H1 : (some false) = some r := by rw [if_pos rfl] at H; exact H
     clear H
     have H := H1
     clear H1
     obtain rfl := Option.some.inj H
     go_wp2
     go_ret
     exact ⟨by first | rfl | (simp [errW_none, errW_some] <;> rfl) | (simp [*, errW_none, errW_some] <;> rfl), by repeat (first | (with_reducible first | exact HB.out | apply below_alloc | apply pw_below_drewN | apply below_drew1 | refine below_set ?_ GE691.out) | exact HB.out)⟩
    ·replace c24 := Bool.eq_false_iff.mpr c24
     subst c24
     have H1 : ((tickinglaw02_list.f l2_1).bind fun t716 => (if t697.toList = ([] : List UInt8) then (if (t702.length : Int) > 0 then ((shunt_CheckQueues.f t692 (wrap64 (1 + t696)) ([] : List Int) t716).bind fun t719 => (if t719 = 10 then (if (t709.length : Int) > 0 then ((shunt_CheckStacks.f kj14 t692 ([] : List Int) t716).bind fun t720 => (tickinglaw02_ShuntOnce.j1 kj14 (wrap64 (1 + t696)) t692 t702 t709 (t720 != 10) l2_0 l2_1)) else (tickinglaw02_ShuntOnce.j1 kj14 (wrap64 (1 + t696)) t692 t702 t709 false l2_0 l2_1)) else (tickinglaw02_ShuntOnce.j1 kj14 (wrap64 (1 + t696)) t692 t702 t709 true l2_0 l2_1))) else (if (t709.length : Int) > 0 then ((shunt_CheckStacks.f kj14 t692 ([] : List Int) t716).bind fun t721 => (tickinglaw02_ShuntOnce.j1 kj14 (wrap64 (1 + t696)) t692 t702 t709 (t721 != 10) l2_0 l2_1)) else (tickinglaw02_ShuntOnce.j1 kj14 (wrap64 (1 + t696)) t692 t702 t709 false l2_0 l2_1))) else ((shunt_CheckStack.f kj14 t692 (⟨#[]⟩ : ByteArray) t716).bind fun t722 => (if t722 = 10 then (if (t702.length : Int) > 0 then ((shunt_CheckQueues.f t692 (wrap64 (1 + t696)) ([] : List Int) t716).bind fun t723 => (if t723 = 10 then (if (t709.length : Int) > 0 then ((shunt_CheckStacks.f kj14 t692 ([] : List Int) t716).bind fun t724 => (tickinglaw02_ShuntOnce.j1 kj14 (wrap64 (1 + t696)) t692 t702 t709 (t724 != 10) l2_0 l2_1)) else (tickinglaw02_ShuntOnce.j1 kj14 (wrap64 (1 + t696)) t692 t702 t709 false l2_0 l2_1)) else (tickinglaw02_ShuntOnce.j1 kj14 (wrap64 (1 + t696)) t692 t702 t709 true l2_0 l2_1))) else (if (t709.length : Int) > 0 then ((shunt_CheckStacks.f kj14 t692 ([] : List Int) t716).bind fun t725 => (tickinglaw02_ShuntOnce.j1 kj14 (wrap64 (1 + t696)) t692 t702 t709 (t725 != 10) l2_0 l2_1)) else (tickinglaw02_ShuntOnce.j1 kj14 (wrap64 (1 + t696)) t692 t702 t709 false l2_0 l2_1))) else (tickinglaw02_ShuntOnce.j1 kj14 (wrap64 (1 + t696)) t692 t702 t709 true l2_0 l2_1))))) = some r := by rw [if_neg (show ¬ (false = true) by decide)] at H; exact H
     clear H
     have H := H1
     clear H1
     replace H := Option.bind_eq_some_iff.mp H
     obtain ⟨t716, A250, H⟩ := H
     replace H : (if t697.toList = ([] : List UInt8) then (if (t702.length : Int) > 0 then ((shunt_CheckQueues.f t692 (wrap64 (1 + t696)) ([] : List Int) t716).bind fun t719 => (if t719 = 10 then (if (t709.length : Int) > 0 then ((shunt_CheckStacks.f kj14 t692 ([] : List Int) t716).bind fun t720 => (tickinglaw02_ShuntOnce.j1 kj14 (wrap64 (1 + t696)) t692 t702 t709 (t720 != 10) l2_0 l2_1)) else (tickinglaw02_ShuntOnce.j1 kj14 (wrap64 (1 + t696)) t692 t702 t709 false l2_0 l2_1)) else (tickinglaw02_ShuntOnce.j1 kj14 (wrap64 (1 + t696)) t692 t702 t709 true l2_0 l2_1))) else (if (t709.length : Int) > 0 then ((shunt_CheckStacks.f kj14 t692 ([] : List Int) t716).bind fun t721 => (tickinglaw02_ShuntOnce.j1 kj14 (wrap64 (1 + t696)) t692 t702 t709 (t721 != 10) l2_0 l2_1)) else (tickinglaw02_ShuntOnce.j1 kj14 (wrap64 (1 + t696)) t692 t702 t709 false l2_0 l2_1))) else ((shunt_CheckStack.f kj14 t692 (⟨#[]⟩ : ByteArray) t716).bind fun t722 => (if t722 = 10 then (if (t702.length : Int) > 0 then ((shunt_CheckQueues.f t692 (wrap64 (1 + t696)) ([] : List Int) t716).bind fun t723 => (if t723 = 10 then (if (t709.length : Int) > 0 then ((shunt_CheckStacks.f kj14 t692 ([] : List Int) t716).bind fun t724 => (tickinglaw02_ShuntOnce.j1 kj14 (wrap64 (1 + t696)) t692 t702 t709 (t724 != 10) l2_0 l2_1)) else (tickinglaw02_ShuntOnce.j1 kj14 (wrap64 (1 + t696)) t692 t702 t709 false l2_0 l2_1)) else (tickinglaw02_ShuntOnce.j1 kj14 (wrap64 (1 + t696)) t692 t702 t709 true l2_0 l2_1))) else (if (t709.length : Int) > 0 then ((shunt_CheckStacks.f kj14 t692 ([] : List Int) t716).bind fun t725 => (tickinglaw02_ShuntOnce.j1 kj14 (wrap64 (1 + t696)) t692 t702 t709 (t725 != 10) l2_0 l2_1)) else (tickinglaw02_ShuntOnce.j1 kj14 (wrap64 (1 + t696)) t692 t702 t709 false l2_0 l2_1))) else (tickinglaw02_ShuntOnce.j1 kj14 (wrap64 (1 + t696)) t692 t702 t709 true l2_0 l2_1)))) = some r := H
     have A25 := Aside0.mk A250
     clear A250
     have HC26 := Aside0.mk H
     clear H
     have hcz27_0 : wc.cell? ⟨gb691, 0, none⟩ = some (.slice A2_0 l2_0.length c2_0) := (blk_cell BK691.out 0).trans rfl
     have hcz27_1 : wc.cell? ⟨gb691, 1, none⟩ = some (.slice A2_1 l2_1.length c2_1) := (blk_cell BK691.out 1).trans rfl
     have hfz27_0 := blk_frozen BK691.out 0
     have hfz27_1 := blk_frozen BK691.out 1
     go_upto_region 11 with (first | ((with_reducible refine gate_callee (f := 18) rfl ?_); refine goesL_ (some 59) rfl rfl Try.func18 (by kernel_rfl) rfl #[.slice A2_1 l2_1.length c2_1] rfl (by (try simp only [List.map_toArray, List.map_cons, List.map_nil]); first | done | rfl | (simp only [List.length_drop, List.length_take]; rfl)) ?_; (with_reducible refine (tickinglaw02_list.calls _ _ l2_1 t716 _ ?side1 ?side2 A25.out).mono ?_); (case side1 => repeat (first | exact (Kd.C_below HR2_1.out HB.out) | (with_reducible refine Kd.C_alloc ?_ _) | (with_reducible refine Kd.C_drewN ?_ _) | (with_reducible refine Kd.C_drew ?_))); (case side2 => exact HC2_1.out); rintro e w28 ⟨v717, rfl, ho0, hb⟩; refine ⟨_, rfl, ?_⟩; have n0_ := Aside0.mk (Kd.R_elder' (by (with_reducible repeat (first | apply Kd.R_alloc | apply Kd.R_drewN | apply Kd.R_drew)); exact HO_7.out) (Kd.R_base ho0) hb); have n1_ := Aside0.mk (Kd.R_elder' (by (with_reducible repeat (first | apply Kd.R_alloc | apply Kd.R_drewN | apply Kd.R_drew)); exact HO_11.out) (Kd.R_base ho0) hb); have n2_ := Aside0.mk (Kd.R_elder' (by (with_reducible repeat (first | apply Kd.R_alloc | apply Kd.R_drewN | apply Kd.R_drew)); exact HO_14.out) (Kd.R_base ho0) hb); have n3_ := Aside0.mk (Kd.R_lower (Kd.R_new' (Kd.R_new' (Kd.R_new' ho0 (Kd.R_lt (by (with_reducible repeat (first | apply Kd.R_alloc | apply Kd.R_drewN | apply Kd.R_drew)); exact HO_7.out))) (Kd.R_lt (by (with_reducible repeat (first | apply Kd.R_alloc | apply Kd.R_drewN | apply Kd.R_drew)); exact HO_11.out))) (Kd.R_lt (by (with_reducible repeat (first | apply Kd.R_alloc | apply Kd.R_drewN | apply Kd.R_drew)); exact HO_14.out))) (below_size (by repeat (first | (with_reducible first | exact HB.out | apply below_alloc | apply pw_below_drewN | apply below_drew1 | refine below_set ?_ GE691.out) | exact HB.out)))); have n4_ := Aside0.mk (blk_below (g := gb691) (o := .cells #[.slice A2_0 l2_0.length c2_0, .slice A2_1 l2_1.length c2_1] 43 (0, 0)) (by (with_reducible repeat (first | refine blk_drewN ?_ _ | refine blk_drew ?_ | refine blk_alloc ?_ _)); exact BK691.out) hb); have n5_ := Aside0.mk (below_step (by repeat (first | (with_reducible first | exact HB.out | apply below_alloc | apply pw_below_drewN | apply below_drew1 | refine below_set ?_ GE691.out) | exact HB.out)) hb); clear HO_7; clear HO_11; clear HO_14; clear BK691; clear HB; have HO_7 := n0_; have HO_11 := n1_; have HO_14 := n2_; have HO718 := n3_; have BK691 := n4_; have HB := n5_; clear n0_ n1_ n2_ n3_ n4_ n5_; (try clear hb); (try clear hb2); (try clear hk); (try clear hi); (try clear ho0)))
     (try simp only [Act.put, List.setIfInBounds_toArray, List.set_cons_zero, List.set_cons_succ])
     go_cut [90] (fun v90 wc => ∃ (kq : Nat) (x90_25 : Bool), v90 = .bool x90_25 ∧ Aside0 (tickinglaw02_ShuntOnce.j1 kq (wrap64 (1 + t696)) t692 t702 t709 x90_25 l2_0 l2_1 = some r) ∧ Aside0 (kq ≤ kj14) ∧ Aside0 (Kd.R (Kd.int .i64) 3 wc w.heap.size (fun k_ => some k_ ≠ (v705 : Value).ownBlock ∧ some k_ ≠ (v712 : Value).ownBlock) (.slice Ao18 t692.length co18) t692) ∧ Aside0 (Kd.R (Kd.int .i64) 3 wc w.heap.size (fun k_ => some k_ ≠ ((.slice Ao18 t692.length co18) : Value).ownBlock ∧ some k_ ≠ (v712 : Value).ownBlock) v705 t702) ∧ Aside0 (Kd.R (Kd.int .i64) 3 wc w.heap.size (fun k_ => some k_ ≠ ((.slice Ao18 t692.length co18) : Value).ownBlock ∧ some k_ ≠ (v705 : Value).ownBlock) v712 t709) ∧ Aside0 (wc.heap[gb691]? = some (.cells #[(.slice A2_0 l2_0.length c2_0), (.slice A2_1 l2_1.length c2_1)] 43 (0, 0))) ∧ Aside0 (Below w.heap.size w wc))
     case first =>
      have H := HC26.out
      clear HC26
      by_cases c29 : t697.toList = ([] : List UInt8)
      ·rw [if_pos c29] at H
       have c29b0 : (t697.toList == ([] : List UInt8)) = true := beq_iff_eq.mpr c29
       have c29b1 : (t697.toList != ([] : List UInt8)) = false := bne_eq_false_iff_eq.mpr c29
       clear c29
       (first | rw [c29b0] | (simp only [i64_w, i32_w]; rw [c29b0]) | skip)
       by_cases c30 : (t702.length : Int) > 0
       ·rw [if_pos c30] at H
        have c30b0 : decide (0 < (t702.length : Int)) = true := decide_eq_true c30
        have c30b1 : decide (0 < t702.length) = true := decide_eq_true (by omega)
        clear c30
        replace H := Option.bind_eq_some_iff.mp H
        obtain ⟨t719, A310, H⟩ := H
        replace H : (if t719 = 10 then (if (t709.length : Int) > 0 then ((shunt_CheckStacks.f kj14 t692 ([] : List Int) t716).bind fun t720 => (tickinglaw02_ShuntOnce.j1 kj14 (wrap64 (1 + t696)) t692 t702 t709 (t720 != 10) l2_0 l2_1)) else (tickinglaw02_ShuntOnce.j1 kj14 (wrap64 (1 + t696)) t692 t702 t709 false l2_0 l2_1)) else (tickinglaw02_ShuntOnce.j1 kj14 (wrap64 (1 + t696)) t692 t702 t709 true l2_0 l2_1)) = some r := H
        have A31 := Aside0.mk A310
        clear A310
        by_cases c32 : t719 = 10
        ·rw [if_pos c32] at H
         have c32b0 : (t719 == 10) = true := beq_iff_eq.mpr c32
         have c32b1 : (t719 != 10) = false := bne_eq_false_iff_eq.mpr c32
         clear c32
         by_cases c33 : (t709.length : Int) > 0
         ·rw [if_pos c33] at H
          have c33b0 : decide (0 < (t709.length : Int)) = true := decide_eq_true c33
          have c33b1 : decide (0 < t709.length) = true := decide_eq_true (by omega)
          clear c33
          replace H := Option.bind_eq_some_iff.mp H
          obtain ⟨t720, A340, H⟩ := H
          replace H : (tickinglaw02_ShuntOnce.j1 kj14 (wrap64 (1 + t696)) t692 t702 t709 (t720 != 10) l2_0 l2_1) = some r := H
          have A34 := Aside0.mk A340
          clear A340
          have H' := Aside0.mk H
          clear H
          obtain ⟨Ao35, co35, eo35⟩ := Kd.R_slice HO_11.out
          subst eo35
          obtain ⟨Ao36, co36, eo36⟩ := Kd.R_slice HO718.out
          subst eo36
          go_wp2_with (first | (go_at_call 34; (refine (shunt_CheckQueues.calls _ _ t692 (wrap64 (1 + t696)) _ _ ([] : List Int) _ _ t716 t719 _ ?side1 ?side2 ?side3 ?side4 ?side5 ?side6 A31.out).mono ?_); (case side1 => repeat (first | exact (Kd.R_reads' HO_7.out).2.2 | (with_reducible refine Kd.C_alloc ?_ _) | (with_reducible refine Kd.C_drewN ?_ _) | (with_reducible refine Kd.C_drew ?_))); (case side2 => exact (Kd.R_reads' HO_7.out).2.1); (case side3 => exact Kd.C_nil _ _); (case side4 => exact Nat.le_refl _); (case side5 => repeat (first | exact (Kd.R_reads' HO718.out).2.2 | (with_reducible refine Kd.C_alloc ?_ _) | (with_reducible refine Kd.C_drewN ?_ _) | (with_reducible refine Kd.C_drew ?_))); (case side6 => exact (Kd.R_reads' HO718.out).2.1); rintro e w37 ⟨rfl, hb⟩; have n0_ := Aside0.mk (Kd.R_below (by (with_reducible repeat (first | apply Kd.R_alloc | apply Kd.R_drewN | apply Kd.R_drew)); exact HO_7.out) hb); have n1_ := Aside0.mk (Kd.R_below (by (with_reducible repeat (first | apply Kd.R_alloc | apply Kd.R_drewN | apply Kd.R_drew)); exact HO_11.out) hb); have n2_ := Aside0.mk (Kd.R_below (by (with_reducible repeat (first | apply Kd.R_alloc | apply Kd.R_drewN | apply Kd.R_drew)); exact HO_14.out) hb); have n3_ := Aside0.mk (Kd.R_below (by (with_reducible repeat (first | apply Kd.R_alloc | apply Kd.R_drewN | apply Kd.R_drew)); exact HO718.out) hb); have n4_ := Aside0.mk (blk_below (g := gb691) (o := .cells #[.slice A2_0 l2_0.length c2_0, .slice A2_1 l2_1.length c2_1] 43 (0, 0)) (by (with_reducible repeat (first | refine blk_drewN ?_ _ | refine blk_drew ?_ | refine blk_alloc ?_ _)); exact BK691.out) hb); have n5_ := Aside0.mk (below_step (by repeat (first | (with_reducible first | exact HB.out | apply below_alloc | apply pw_below_drewN | apply below_drew1 | refine below_set ?_ GE691.out) | exact HB.out)) hb); clear HO_7; clear HO_11; clear HO_14; clear HO718; clear BK691; clear HB; have HO_7 := n0_; have HO_11 := n1_; have HO_14 := n2_; have HO718 := n3_; have BK691 := n4_; have HB := n5_; clear n0_ n1_ n2_ n3_ n4_ n5_; (try clear hb); (try clear hb2); (try clear hk); (try clear hi); obtain ⟨Ao38, co38, eo38⟩ := Kd.R_slice HO_14.out; subst eo38) | (go_at_call 45; (refine (shunt_CheckStacks.calls kj14 _ _ t692 _ _ ([] : List Int) _ _ t716 t720 _ ?side1 ?side2 ?side3 ?side4 ?side5 ?side6 A34.out).mono ?_); (case side1 => repeat (first | exact (Kd.R_reads' HO_7.out).2.2 | (with_reducible refine Kd.C_alloc ?_ _) | (with_reducible refine Kd.C_drewN ?_ _) | (with_reducible refine Kd.C_drew ?_))); (case side2 => exact (Kd.R_reads' HO_7.out).2.1); (case side3 => exact Kd.C_nil _ _); (case side4 => exact Nat.le_refl _); (case side5 => repeat (first | exact (Kd.R_reads' HO718.out).2.2 | (with_reducible refine Kd.C_alloc ?_ _) | (with_reducible refine Kd.C_drewN ?_ _) | (with_reducible refine Kd.C_drew ?_))); (case side6 => exact (Kd.R_reads' HO718.out).2.1); rintro e w39 ⟨rfl, hb⟩; have n0_ := Aside0.mk (Kd.R_below (by (with_reducible repeat (first | apply Kd.R_alloc | apply Kd.R_drewN | apply Kd.R_drew)); exact HO_7.out) hb); have n1_ := Aside0.mk (Kd.R_below (by (with_reducible repeat (first | apply Kd.R_alloc | apply Kd.R_drewN | apply Kd.R_drew)); exact HO_11.out) hb); have n2_ := Aside0.mk (Kd.R_below (by (with_reducible repeat (first | apply Kd.R_alloc | apply Kd.R_drewN | apply Kd.R_drew)); exact HO_14.out) hb); have n3_ := Aside0.mk (Kd.R_below (by (with_reducible repeat (first | apply Kd.R_alloc | apply Kd.R_drewN | apply Kd.R_drew)); exact HO718.out) hb); have n4_ := Aside0.mk (blk_below (g := gb691) (o := .cells #[.slice A2_0 l2_0.length c2_0, .slice A2_1 l2_1.length c2_1] 43 (0, 0)) (by (with_reducible repeat (first | refine blk_drewN ?_ _ | refine blk_drew ?_ | refine blk_alloc ?_ _)); exact BK691.out) hb); have n5_ := Aside0.mk (below_step (by repeat (first | (with_reducible first | exact HB.out | apply below_alloc | apply pw_below_drewN | apply below_drew1 | refine below_set ?_ GE691.out) | exact HB.out)) hb); clear HO_7; clear HO_11; clear HO_14; clear HO718; clear BK691; clear HB; have HO_7 := n0_; have HO_11 := n1_; have HO_14 := n2_; have HO718 := n3_; have BK691 := n4_; have HB := n5_; clear n0_ n1_ n2_ n3_ n4_ n5_; (try clear hb); (try clear hb2); (try clear hk); (try clear hi)))
          go_meet
          case rel => exact ⟨_, ((t720 != 10)), (by first | rfl | (simp; done) | (simp [*]; done)), H', ⟨by have := HJ14.out; first | omega | exact Nat.le_refl _⟩, ⟨by (with_reducible repeat (first | apply Kd.R_alloc | apply Kd.R_drewN | apply Kd.R_drew)); exact Kd.R_mono HO_7.out (fun _ hk => ⟨hk.1.1, hk.1.2⟩)⟩, ⟨by (with_reducible repeat (first | apply Kd.R_alloc | apply Kd.R_drewN | apply Kd.R_drew)); exact Kd.R_mono HO_11.out (fun _ hk => ⟨hk.1.1, hk.1.2⟩)⟩, ⟨by (with_reducible repeat (first | apply Kd.R_alloc | apply Kd.R_drewN | apply Kd.R_drew)); exact Kd.R_mono HO_14.out (fun _ hk => ⟨hk.1.1, hk.1.2⟩)⟩, ⟨by (with_reducible repeat (first | refine blk_drewN ?_ _ | refine blk_drew ?_ | refine blk_alloc ?_ _)); exact BK691.out⟩, ⟨by repeat (first | (with_reducible first | exact HB.out | apply below_alloc | apply pw_below_drewN | apply below_drew1 | refine below_set ?_ GE691.out) | exact HB.out)⟩⟩
         ·rw [if_neg c33] at H
          have c33b0 : decide (0 < (t709.length : Int)) = false := decide_eq_false c33
          have c33b1 : decide (0 < t709.length) = false := decide_eq_false (by omega)
          clear c33
          have H' := Aside0.mk H
          clear H
          obtain ⟨Ao40, co40, eo40⟩ := Kd.R_slice HO_11.out
          subst eo40
          obtain ⟨Ao41, co41, eo41⟩ := Kd.R_slice HO718.out
          subst eo41
          go_wp2_with (first | (go_at_call 34; (refine (shunt_CheckQueues.calls _ _ t692 (wrap64 (1 + t696)) _ _ ([] : List Int) _ _ t716 t719 _ ?side1 ?side2 ?side3 ?side4 ?side5 ?side6 A31.out).mono ?_); (case side1 => repeat (first | exact (Kd.R_reads' HO_7.out).2.2 | (with_reducible refine Kd.C_alloc ?_ _) | (with_reducible refine Kd.C_drewN ?_ _) | (with_reducible refine Kd.C_drew ?_))); (case side2 => exact (Kd.R_reads' HO_7.out).2.1); (case side3 => exact Kd.C_nil _ _); (case side4 => exact Nat.le_refl _); (case side5 => repeat (first | exact (Kd.R_reads' HO718.out).2.2 | (with_reducible refine Kd.C_alloc ?_ _) | (with_reducible refine Kd.C_drewN ?_ _) | (with_reducible refine Kd.C_drew ?_))); (case side6 => exact (Kd.R_reads' HO718.out).2.1); rintro e w42 ⟨rfl, hb⟩; have n0_ := Aside0.mk (Kd.R_below (by (with_reducible repeat (first | apply Kd.R_alloc | apply Kd.R_drewN | apply Kd.R_drew)); exact HO_7.out) hb); have n1_ := Aside0.mk (Kd.R_below (by (with_reducible repeat (first | apply Kd.R_alloc | apply Kd.R_drewN | apply Kd.R_drew)); exact HO_11.out) hb); have n2_ := Aside0.mk (Kd.R_below (by (with_reducible repeat (first | apply Kd.R_alloc | apply Kd.R_drewN | apply Kd.R_drew)); exact HO_14.out) hb); have n3_ := Aside0.mk (Kd.R_below (by (with_reducible repeat (first | apply Kd.R_alloc | apply Kd.R_drewN | apply Kd.R_drew)); exact HO718.out) hb); have n4_ := Aside0.mk (blk_below (g := gb691) (o := .cells #[.slice A2_0 l2_0.length c2_0, .slice A2_1 l2_1.length c2_1] 43 (0, 0)) (by (with_reducible repeat (first | refine blk_drewN ?_ _ | refine blk_drew ?_ | refine blk_alloc ?_ _)); exact BK691.out) hb); have n5_ := Aside0.mk (below_step (by repeat (first | (with_reducible first | exact HB.out | apply below_alloc | apply pw_below_drewN | apply below_drew1 | refine below_set ?_ GE691.out) | exact HB.out)) hb); clear HO_7; clear HO_11; clear HO_14; clear HO718; clear BK691; clear HB; have HO_7 := n0_; have HO_11 := n1_; have HO_14 := n2_; have HO718 := n3_; have BK691 := n4_; have HB := n5_; clear n0_ n1_ n2_ n3_ n4_ n5_; (try clear hb); (try clear hb2); (try clear hk); (try clear hi); obtain ⟨Ao43, co43, eo43⟩ := Kd.R_slice HO_14.out; subst eo43))
          go_meet
          case rel => exact ⟨_, (false), (by first | rfl | (simp; done) | (simp [*]; done)), H', ⟨by have := HJ14.out; first | omega | exact Nat.le_refl _⟩, ⟨by (with_reducible repeat (first | apply Kd.R_alloc | apply Kd.R_drewN | apply Kd.R_drew)); exact Kd.R_mono HO_7.out (fun _ hk => ⟨hk.1.1, hk.1.2⟩)⟩, ⟨by (with_reducible repeat (first | apply Kd.R_alloc | apply Kd.R_drewN | apply Kd.R_drew)); exact Kd.R_mono HO_11.out (fun _ hk => ⟨hk.1.1, hk.1.2⟩)⟩, ⟨by (with_reducible repeat (first | apply Kd.R_alloc | apply Kd.R_drewN | apply Kd.R_drew)); exact Kd.R_mono HO_14.out (fun _ hk => ⟨hk.1.1, hk.1.2⟩)⟩, ⟨by (with_reducible repeat (first | refine blk_drewN ?_ _ | refine blk_drew ?_ | refine blk_alloc ?_ _)); exact BK691.out⟩, ⟨by repeat (first | (with_reducible first | exact HB.out | apply below_alloc | apply pw_below_drewN | apply below_drew1 | refine below_set ?_ GE691.out) | exact HB.out)⟩⟩
        ·rw [if_neg c32] at H
         have c32b0 : (t719 == 10) = false := beq_eq_false_iff_ne.mpr c32
         have c32b1 : (t719 != 10) = true := bne_iff_ne.mpr c32
         have H' := Aside0.mk H
         clear H
         obtain ⟨Ao44, co44, eo44⟩ := Kd.R_slice HO_11.out
         subst eo44
         obtain ⟨Ao45, co45, eo45⟩ := Kd.R_slice HO718.out
         subst eo45
         go_wp2_with (first | (go_at_call 34; (refine (shunt_CheckQueues.calls _ _ t692 (wrap64 (1 + t696)) _ _ ([] : List Int) _ _ t716 t719 _ ?side1 ?side2 ?side3 ?side4 ?side5 ?side6 A31.out).mono ?_); (case side1 => repeat (first | exact (Kd.R_reads' HO_7.out).2.2 | (with_reducible refine Kd.C_alloc ?_ _) | (with_reducible refine Kd.C_drewN ?_ _) | (with_reducible refine Kd.C_drew ?_))); (case side2 => exact (Kd.R_reads' HO_7.out).2.1); (case side3 => exact Kd.C_nil _ _); (case side4 => exact Nat.le_refl _); (case side5 => repeat (first | exact (Kd.R_reads' HO718.out).2.2 | (with_reducible refine Kd.C_alloc ?_ _) | (with_reducible refine Kd.C_drewN ?_ _) | (with_reducible refine Kd.C_drew ?_))); (case side6 => exact (Kd.R_reads' HO718.out).2.1); rintro e w46 ⟨rfl, hb⟩; have n0_ := Aside0.mk (Kd.R_below (by (with_reducible repeat (first | apply Kd.R_alloc | apply Kd.R_drewN | apply Kd.R_drew)); exact HO_7.out) hb); have n1_ := Aside0.mk (Kd.R_below (by (with_reducible repeat (first | apply Kd.R_alloc | apply Kd.R_drewN | apply Kd.R_drew)); exact HO_11.out) hb); have n2_ := Aside0.mk (Kd.R_below (by (with_reducible repeat (first | apply Kd.R_alloc | apply Kd.R_drewN | apply Kd.R_drew)); exact HO_14.out) hb); have n3_ := Aside0.mk (Kd.R_below (by (with_reducible repeat (first | apply Kd.R_alloc | apply Kd.R_drewN | apply Kd.R_drew)); exact HO718.out) hb); have n4_ := Aside0.mk (blk_below (g := gb691) (o := .cells #[.slice A2_0 l2_0.length c2_0, .slice A2_1 l2_1.length c2_1] 43 (0, 0)) (by (with_reducible repeat (first | refine blk_drewN ?_ _ | refine blk_drew ?_ | refine blk_alloc ?_ _)); exact BK691.out) hb); have n5_ := Aside0.mk (below_step (by repeat (first | (with_reducible first | exact HB.out | apply below_alloc | apply pw_below_drewN | apply below_drew1 | refine below_set ?_ GE691.out) | exact HB.out)) hb); clear HO_7; clear HO_11; clear HO_14; clear HO718; clear BK691; clear HB; have HO_7 := n0_; have HO_11 := n1_; have HO_14 := n2_; have HO718 := n3_; have BK691 := n4_; have HB := n5_; clear n0_ n1_ n2_ n3_ n4_ n5_; (try clear hb); (try clear hb2); (try clear hk); (try clear hi)))
         go_meet
         case rel => exact ⟨_, (true), (by first | rfl | (simp; done) | (simp [*]; done)), H', ⟨by have := HJ14.out; first | omega | exact Nat.le_refl _⟩, ⟨by (with_reducible repeat (first | apply Kd.R_alloc | apply Kd.R_drewN | apply Kd.R_drew)); exact Kd.R_mono HO_7.out (fun _ hk => ⟨hk.1.1, hk.1.2⟩)⟩, ⟨by (with_reducible repeat (first | apply Kd.R_alloc | apply Kd.R_drewN | apply Kd.R_drew)); exact Kd.R_mono HO_11.out (fun _ hk => ⟨hk.1.1, hk.1.2⟩)⟩, ⟨by (with_reducible repeat (first | apply Kd.R_alloc | apply Kd.R_drewN | apply Kd.R_drew)); exact Kd.R_mono HO_14.out (fun _ hk => ⟨hk.1.1, hk.1.2⟩)⟩, ⟨by (with_reducible repeat (first | refine blk_drewN ?_ _ | refine blk_drew ?_ | refine blk_alloc ?_ _)); exact BK691.out⟩, ⟨by repeat (first | (with_reducible first | exact HB.out | apply below_alloc | apply pw_below_drewN | apply below_drew1 | refine below_set ?_ GE691.out) | exact HB.out)⟩⟩
       ·rw [if_neg c30] at H
        have c30b0 : decide (0 < (t702.length : Int)) = false := decide_eq_false c30
        have c30b1 : decide (0 < t702.length) = false := decide_eq_false (by omega)
        clear c30
        by_cases c47 : (t709.length : Int) > 0
        ·rw [if_pos c47] at H
         have c47b0 : decide (0 < (t709.length : Int)) = true := decide_eq_true c47
         have c47b1 : decide (0 < t709.length) = true := decide_eq_true (by omega)
         clear c47
         replace H := Option.bind_eq_some_iff.mp H
         obtain ⟨t721, A480, H⟩ := H
         replace H : (tickinglaw02_ShuntOnce.j1 kj14 (wrap64 (1 + t696)) t692 t702 t709 (t721 != 10) l2_0 l2_1) = some r := H
         have A48 := Aside0.mk A480
         clear A480
         have H' := Aside0.mk H
         clear H
         obtain ⟨Ao49, co49, eo49⟩ := Kd.R_slice HO_11.out
         subst eo49
         obtain ⟨Ao50, co50, eo50⟩ := Kd.R_slice HO_14.out
         subst eo50
         obtain ⟨Ao51, co51, eo51⟩ := Kd.R_slice HO718.out
         subst eo51
         go_wp2_with (first | (go_at_call 45; (refine (shunt_CheckStacks.calls kj14 _ _ t692 _ _ ([] : List Int) _ _ t716 t721 _ ?side1 ?side2 ?side3 ?side4 ?side5 ?side6 A48.out).mono ?_); (case side1 => repeat (first | exact (Kd.R_reads' HO_7.out).2.2 | (with_reducible refine Kd.C_alloc ?_ _) | (with_reducible refine Kd.C_drewN ?_ _) | (with_reducible refine Kd.C_drew ?_))); (case side2 => exact (Kd.R_reads' HO_7.out).2.1); (case side3 => exact Kd.C_nil _ _); (case side4 => exact Nat.le_refl _); (case side5 => repeat (first | exact (Kd.R_reads' HO718.out).2.2 | (with_reducible refine Kd.C_alloc ?_ _) | (with_reducible refine Kd.C_drewN ?_ _) | (with_reducible refine Kd.C_drew ?_))); (case side6 => exact (Kd.R_reads' HO718.out).2.1); rintro e w52 ⟨rfl, hb⟩; have n0_ := Aside0.mk (Kd.R_below (by (with_reducible repeat (first | apply Kd.R_alloc | apply Kd.R_drewN | apply Kd.R_drew)); exact HO_7.out) hb); have n1_ := Aside0.mk (Kd.R_below (by (with_reducible repeat (first | apply Kd.R_alloc | apply Kd.R_drewN | apply Kd.R_drew)); exact HO_11.out) hb); have n2_ := Aside0.mk (Kd.R_below (by (with_reducible repeat (first | apply Kd.R_alloc | apply Kd.R_drewN | apply Kd.R_drew)); exact HO_14.out) hb); have n3_ := Aside0.mk (Kd.R_below (by (with_reducible repeat (first | apply Kd.R_alloc | apply Kd.R_drewN | apply Kd.R_drew)); exact HO718.out) hb); have n4_ := Aside0.mk (blk_below (g := gb691) (o := .cells #[.slice A2_0 l2_0.length c2_0, .slice A2_1 l2_1.length c2_1] 43 (0, 0)) (by (with_reducible repeat (first | refine blk_drewN ?_ _ | refine blk_drew ?_ | refine blk_alloc ?_ _)); exact BK691.out) hb); have n5_ := Aside0.mk (below_step (by repeat (first | (with_reducible first | exact HB.out | apply below_alloc | apply pw_below_drewN | apply below_drew1 | refine below_set ?_ GE691.out) | exact HB.out)) hb); clear HO_7; clear HO_11; clear HO_14; clear HO718; clear BK691; clear HB; have HO_7 := n0_; have HO_11 := n1_; have HO_14 := n2_; have HO718 := n3_; have BK691 := n4_; have HB := n5_; clear n0_ n1_ n2_ n3_ n4_ n5_; (try clear hb); (try clear hb2); (try clear hk); (try clear hi)))
         go_meet
         case rel => exact ⟨_, ((t721 != 10)), (by first | rfl | (simp; done) | (simp [*]; done)), H', ⟨by have := HJ14.out; first | omega | exact Nat.le_refl _⟩, ⟨by (with_reducible repeat (first | apply Kd.R_alloc | apply Kd.R_drewN | apply Kd.R_drew)); exact Kd.R_mono HO_7.out (fun _ hk => ⟨hk.1.1, hk.1.2⟩)⟩, ⟨by (with_reducible repeat (first | apply Kd.R_alloc | apply Kd.R_drewN | apply Kd.R_drew)); exact Kd.R_mono HO_11.out (fun _ hk => ⟨hk.1.1, hk.1.2⟩)⟩, ⟨by (with_reducible repeat (first | apply Kd.R_alloc | apply Kd.R_drewN | apply Kd.R_drew)); exact Kd.R_mono HO_14.out (fun _ hk => ⟨hk.1.1, hk.1.2⟩)⟩, ⟨by (with_reducible repeat (first | refine blk_drewN ?_ _ | refine blk_drew ?_ | refine blk_alloc ?_ _)); exact BK691.out⟩, ⟨by repeat (first | (with_reducible first | exact HB.out | apply below_alloc | apply pw_below_drewN | apply below_drew1 | refine below_set ?_ GE691.out) | exact HB.out)⟩⟩
        ·rw [if_neg c47] at H
         have c47b0 : decide (0 < (t709.length : Int)) = false := decide_eq_false c47
         have c47b1 : decide (0 < t709.length) = false := decide_eq_false (by omega)
         clear c47
         have H' := Aside0.mk H
         clear H
         obtain ⟨Ao53, co53, eo53⟩ := Kd.R_slice HO_11.out
         subst eo53
         obtain ⟨Ao54, co54, eo54⟩ := Kd.R_slice HO_14.out
         subst eo54
         go_wp2
         go_meet
         case rel => exact ⟨_, (false), (by first | rfl | (simp; done) | (simp [*]; done)), H', ⟨by have := HJ14.out; first | omega | exact Nat.le_refl _⟩, ⟨by (with_reducible repeat (first | apply Kd.R_alloc | apply Kd.R_drewN | apply Kd.R_drew)); exact Kd.R_mono HO_7.out (fun _ hk => ⟨hk.1.1, hk.1.2⟩)⟩, ⟨by (with_reducible repeat (first | apply Kd.R_alloc | apply Kd.R_drewN | apply Kd.R_drew)); exact Kd.R_mono HO_11.out (fun _ hk => ⟨hk.1.1, hk.1.2⟩)⟩, ⟨by (with_reducible repeat (first | apply Kd.R_alloc | apply Kd.R_drewN | apply Kd.R_drew)); exact Kd.R_mono HO_14.out (fun _ hk => ⟨hk.1.1, hk.1.2⟩)⟩, ⟨by (with_reducible repeat (first | refine blk_drewN ?_ _ | refine blk_drew ?_ | refine blk_alloc ?_ _)); exact BK691.out⟩, ⟨by repeat (first | (with_reducible first | exact HB.out | apply below_alloc | apply pw_below_drewN | apply below_drew1 | refine below_set ?_ GE691.out) | exact HB.out)⟩⟩
      ·rw [if_neg c29] at H
       have c29b0 : (t697.toList == ([] : List UInt8)) = false := beq_eq_false_iff_ne.mpr c29
       have c29b1 : (t697.toList != ([] : List UInt8)) = true := bne_iff_ne.mpr c29
       (first | rw [c29b0] | (simp only [i64_w, i32_w]; rw [c29b0]) | skip)
       replace H := Option.bind_eq_some_iff.mp H
       obtain ⟨t722, A550, H⟩ := H
       replace H : (if t722 = 10 then (if (t702.length : Int) > 0 then ((shunt_CheckQueues.f t692 (wrap64 (1 + t696)) ([] : List Int) t716).bind fun t723 => (if t723 = 10 then (if (t709.length : Int) > 0 then ((shunt_CheckStacks.f kj14 t692 ([] : List Int) t716).bind fun t724 => (tickinglaw02_ShuntOnce.j1 kj14 (wrap64 (1 + t696)) t692 t702 t709 (t724 != 10) l2_0 l2_1)) else (tickinglaw02_ShuntOnce.j1 kj14 (wrap64 (1 + t696)) t692 t702 t709 false l2_0 l2_1)) else (tickinglaw02_ShuntOnce.j1 kj14 (wrap64 (1 + t696)) t692 t702 t709 true l2_0 l2_1))) else (if (t709.length : Int) > 0 then ((shunt_CheckStacks.f kj14 t692 ([] : List Int) t716).bind fun t725 => (tickinglaw02_ShuntOnce.j1 kj14 (wrap64 (1 + t696)) t692 t702 t709 (t725 != 10) l2_0 l2_1)) else (tickinglaw02_ShuntOnce.j1 kj14 (wrap64 (1 + t696)) t692 t702 t709 false l2_0 l2_1))) else (tickinglaw02_ShuntOnce.j1 kj14 (wrap64 (1 + t696)) t692 t702 t709 true l2_0 l2_1)) = some r := H
       have A55 := Aside0.mk A550
       clear A550
       by_cases c56 : t722 = 10
       ·rw [if_pos c56] at H
        have c56b0 : (t722 == 10) = true := beq_iff_eq.mpr c56
        have c56b1 : (t722 != 10) = false := bne_eq_false_iff_eq.mpr c56
        clear c56
        by_cases c57 : (t702.length : Int) > 0
        ·rw [if_pos c57] at H
         have c57b0 : decide (0 < (t702.length : Int)) = true := decide_eq_true c57
         have c57b1 : decide (0 < t702.length) = true := decide_eq_true (by omega)
         clear c57
         replace H := Option.bind_eq_some_iff.mp H
         obtain ⟨t723, A580, H⟩ := H
         replace H : (if t723 = 10 then (if (t709.length : Int) > 0 then ((shunt_CheckStacks.f kj14 t692 ([] : List Int) t716).bind fun t724 => (tickinglaw02_ShuntOnce.j1 kj14 (wrap64 (1 + t696)) t692 t702 t709 (t724 != 10) l2_0 l2_1)) else (tickinglaw02_ShuntOnce.j1 kj14 (wrap64 (1 + t696)) t692 t702 t709 false l2_0 l2_1)) else (tickinglaw02_ShuntOnce.j1 kj14 (wrap64 (1 + t696)) t692 t702 t709 true l2_0 l2_1)) = some r := H
         have A58 := Aside0.mk A580
         clear A580
         by_cases c59 : t723 = 10
         ·rw [if_pos c59] at H
          have c59b0 : (t723 == 10) = true := beq_iff_eq.mpr c59
          have c59b1 : (t723 != 10) = false := bne_eq_false_iff_eq.mpr c59
          clear c59
          by_cases c60 : (t709.length : Int) > 0
          ·rw [if_pos c60] at H
           have c60b0 : decide (0 < (t709.length : Int)) = true := decide_eq_true c60
           have c60b1 : decide (0 < t709.length) = true := decide_eq_true (by omega)
           clear c60
           replace H := Option.bind_eq_some_iff.mp H
           obtain ⟨t724, A610, H⟩ := H
           replace H : (tickinglaw02_ShuntOnce.j1 kj14 (wrap64 (1 + t696)) t692 t702 t709 (t724 != 10) l2_0 l2_1) = some r := H
           have A61 := Aside0.mk A610
           clear A610
           have H' := Aside0.mk H
           clear H
           obtain ⟨Ao62, co62, eo62⟩ := Kd.R_slice HO718.out
           subst eo62
           go_wp2_with (first | (go_at_call 41; (with_reducible refine (shunt_CheckStack.calls kj14 _ _ t692 (⟨#[]⟩ : ByteArray) _ _ t716 t722 _ ?side1 ?side2 ?side3 ?side4 A55.out).mono ?_); (case side1 => repeat (first | exact (Kd.R_reads' HO_7.out).2.2 | (with_reducible refine Kd.C_alloc ?_ _) | (with_reducible refine Kd.C_drewN ?_ _) | (with_reducible refine Kd.C_drew ?_))); (case side2 => exact (Kd.R_reads' HO_7.out).2.1); (case side3 => repeat (first | exact (Kd.R_reads' HO718.out).2.2 | (with_reducible refine Kd.C_alloc ?_ _) | (with_reducible refine Kd.C_drewN ?_ _) | (with_reducible refine Kd.C_drew ?_))); (case side4 => exact (Kd.R_reads' HO718.out).2.1); rintro e w63 ⟨rfl, hb⟩; have n0_ := Aside0.mk (Kd.R_below (by (with_reducible repeat (first | apply Kd.R_alloc | apply Kd.R_drewN | apply Kd.R_drew)); exact HO_7.out) hb); have n1_ := Aside0.mk (Kd.R_below (by (with_reducible repeat (first | apply Kd.R_alloc | apply Kd.R_drewN | apply Kd.R_drew)); exact HO_11.out) hb); have n2_ := Aside0.mk (Kd.R_below (by (with_reducible repeat (first | apply Kd.R_alloc | apply Kd.R_drewN | apply Kd.R_drew)); exact HO_14.out) hb); have n3_ := Aside0.mk (Kd.R_below (by (with_reducible repeat (first | apply Kd.R_alloc | apply Kd.R_drewN | apply Kd.R_drew)); exact HO718.out) hb); have n4_ := Aside0.mk (blk_below (g := gb691) (o := .cells #[.slice A2_0 l2_0.length c2_0, .slice A2_1 l2_1.length c2_1] 43 (0, 0)) (by (with_reducible repeat (first | refine blk_drewN ?_ _ | refine blk_drew ?_ | refine blk_alloc ?_ _)); exact BK691.out) hb); have n5_ := Aside0.mk (below_step (by repeat (first | (with_reducible first | exact HB.out | apply below_alloc | apply pw_below_drewN | apply below_drew1 | refine below_set ?_ GE691.out) | exact HB.out)) hb); clear HO_7; clear HO_11; clear HO_14; clear HO718; clear BK691; clear HB; have HO_7 := n0_; have HO_11 := n1_; have HO_14 := n2_; have HO718 := n3_; have BK691 := n4_; have HB := n5_; clear n0_ n1_ n2_ n3_ n4_ n5_; (try clear hb); (try clear hb2); (try clear hk); (try clear hi); obtain ⟨Ao64, co64, eo64⟩ := Kd.R_slice HO_11.out; subst eo64) | (go_at_call 34; (refine (shunt_CheckQueues.calls _ _ t692 (wrap64 (1 + t696)) _ _ ([] : List Int) _ _ t716 t723 _ ?side1 ?side2 ?side3 ?side4 ?side5 ?side6 A58.out).mono ?_); (case side1 => repeat (first | exact (Kd.R_reads' HO_7.out).2.2 | (with_reducible refine Kd.C_alloc ?_ _) | (with_reducible refine Kd.C_drewN ?_ _) | (with_reducible refine Kd.C_drew ?_))); (case side2 => exact (Kd.R_reads' HO_7.out).2.1); (case side3 => exact Kd.C_nil _ _); (case side4 => exact Nat.le_refl _); (case side5 => repeat (first | exact (Kd.R_reads' HO718.out).2.2 | (with_reducible refine Kd.C_alloc ?_ _) | (with_reducible refine Kd.C_drewN ?_ _) | (with_reducible refine Kd.C_drew ?_))); (case side6 => exact (Kd.R_reads' HO718.out).2.1); rintro e w65 ⟨rfl, hb⟩; have n0_ := Aside0.mk (Kd.R_below (by (with_reducible repeat (first | apply Kd.R_alloc | apply Kd.R_drewN | apply Kd.R_drew)); exact HO_7.out) hb); have n1_ := Aside0.mk (Kd.R_below (by (with_reducible repeat (first | apply Kd.R_alloc | apply Kd.R_drewN | apply Kd.R_drew)); exact HO_11.out) hb); have n2_ := Aside0.mk (Kd.R_below (by (with_reducible repeat (first | apply Kd.R_alloc | apply Kd.R_drewN | apply Kd.R_drew)); exact HO_14.out) hb); have n3_ := Aside0.mk (Kd.R_below (by (with_reducible repeat (first | apply Kd.R_alloc | apply Kd.R_drewN | apply Kd.R_drew)); exact HO718.out) hb); have n4_ := Aside0.mk (blk_below (g := gb691) (o := .cells #[.slice A2_0 l2_0.length c2_0, .slice A2_1 l2_1.length c2_1] 43 (0, 0)) (by (with_reducible repeat (first | refine blk_drewN ?_ _ | refine blk_drew ?_ | refine blk_alloc ?_ _)); exact BK691.out) hb); have n5_ := Aside0.mk (below_step (by repeat (first | (with_reducible first | exact HB.out | apply below_alloc | apply pw_below_drewN | apply below_drew1 | refine below_set ?_ GE691.out) | exact HB.out)) hb); clear HO_7; clear HO_11; clear HO_14; clear HO718; clear BK691; clear HB; have HO_7 := n0_; have HO_11 := n1_; have HO_14 := n2_; have HO718 := n3_; have BK691 := n4_; have HB := n5_; clear n0_ n1_ n2_ n3_ n4_ n5_; (try clear hb); (try clear hb2); (try clear hk); (try clear hi); obtain ⟨Ao66, co66, eo66⟩ := Kd.R_slice HO_14.out; subst eo66) | (go_at_call 45; (refine (shunt_CheckStacks.calls kj14 _ _ t692 _ _ ([] : List Int) _ _ t716 t724 _ ?side1 ?side2 ?side3 ?side4 ?side5 ?side6 A61.out).mono ?_); (case side1 => repeat (first | exact (Kd.R_reads' HO_7.out).2.2 | (with_reducible refine Kd.C_alloc ?_ _) | (with_reducible refine Kd.C_drewN ?_ _) | (with_reducible refine Kd.C_drew ?_))); (case side2 => exact (Kd.R_reads' HO_7.out).2.1); (case side3 => exact Kd.C_nil _ _); (case side4 => exact Nat.le_refl _); (case side5 => repeat (first | exact (Kd.R_reads' HO718.out).2.2 | (with_reducible refine Kd.C_alloc ?_ _) | (with_reducible refine Kd.C_drewN ?_ _) | (with_reducible refine Kd.C_drew ?_))); (case side6 => exact (Kd.R_reads' HO718.out).2.1); rintro e w67 ⟨rfl, hb⟩; have n0_ := Aside0.mk (Kd.R_below (by (with_reducible repeat (first | apply Kd.R_alloc | apply Kd.R_drewN | apply Kd.R_drew)); exact HO_7.out) hb); have n1_ := Aside0.mk (Kd.R_below (by (with_reducible repeat (first | apply Kd.R_alloc | apply Kd.R_drewN | apply Kd.R_drew)); exact HO_11.out) hb); have n2_ := Aside0.mk (Kd.R_below (by (with_reducible repeat (first | apply Kd.R_alloc | apply Kd.R_drewN | apply Kd.R_drew)); exact HO_14.out) hb); have n3_ := Aside0.mk (Kd.R_below (by (with_reducible repeat (first | apply Kd.R_alloc | apply Kd.R_drewN | apply Kd.R_drew)); exact HO718.out) hb); have n4_ := Aside0.mk (blk_below (g := gb691) (o := .cells #[.slice A2_0 l2_0.length c2_0, .slice A2_1 l2_1.length c2_1] 43 (0, 0)) (by (with_reducible repeat (first | refine blk_drewN ?_ _ | refine blk_drew ?_ | refine blk_alloc ?_ _)); exact BK691.out) hb); have n5_ := Aside0.mk (below_step (by repeat (first | (with_reducible first | exact HB.out | apply below_alloc | apply pw_below_drewN | apply below_drew1 | refine below_set ?_ GE691.out) | exact HB.out)) hb); clear HO_7; clear HO_11; clear HO_14; clear HO718; clear BK691; clear HB; have HO_7 := n0_; have HO_11 := n1_; have HO_14 := n2_; have HO718 := n3_; have BK691 := n4_; have HB := n5_; clear n0_ n1_ n2_ n3_ n4_ n5_; (try clear hb); (try clear hb2); (try clear hk); (try clear hi)))
           go_meet
           case rel => exact ⟨_, ((t724 != 10)), (by first | rfl | (simp; done) | (simp [*]; done)), H', ⟨by have := HJ14.out; first | omega | exact Nat.le_refl _⟩, ⟨by (with_reducible repeat (first | apply Kd.R_alloc | apply Kd.R_drewN | apply Kd.R_drew)); exact Kd.R_mono HO_7.out (fun _ hk => ⟨hk.1.1, hk.1.2⟩)⟩, ⟨by (with_reducible repeat (first | apply Kd.R_alloc | apply Kd.R_drewN | apply Kd.R_drew)); exact Kd.R_mono HO_11.out (fun _ hk => ⟨hk.1.1, hk.1.2⟩)⟩, ⟨by (with_reducible repeat (first | apply Kd.R_alloc | apply Kd.R_drewN | apply Kd.R_drew)); exact Kd.R_mono HO_14.out (fun _ hk => ⟨hk.1.1, hk.1.2⟩)⟩, ⟨by (with_reducible repeat (first | refine blk_drewN ?_ _ | refine blk_drew ?_ | refine blk_alloc ?_ _)); exact BK691.out⟩, ⟨by repeat (first | (with_reducible first | exact HB.out | apply below_alloc | apply pw_below_drewN | apply below_drew1 | refine below_set ?_ GE691.out) | exact HB.out)⟩⟩
          ·rw [if_neg c60] at H
           have c60b0 : decide (0 < (t709.length : Int)) = false := decide_eq_false c60
           have c60b1 : decide (0 < t709.length) = false := decide_eq_false (by omega)
           clear c60
           have H' := Aside0.mk H
           clear H
           obtain ⟨Ao68, co68, eo68⟩ := Kd.R_slice HO718.out
           subst eo68
           go_wp2_with (first | (go_at_call 41; (with_reducible refine (shunt_CheckStack.calls kj14 _ _ t692 (⟨#[]⟩ : ByteArray) _ _ t716 t722 _ ?side1 ?side2 ?side3 ?side4 A55.out).mono ?_); (case side1 => repeat (first | exact (Kd.R_reads' HO_7.out).2.2 | (with_reducible refine Kd.C_alloc ?_ _) | (with_reducible refine Kd.C_drewN ?_ _) | (with_reducible refine Kd.C_drew ?_))); (case side2 => exact (Kd.R_reads' HO_7.out).2.1); (case side3 => repeat (first | exact (Kd.R_reads' HO718.out).2.2 | (with_reducible refine Kd.C_alloc ?_ _) | (with_reducible refine Kd.C_drewN ?_ _) | (with_reducible refine Kd.C_drew ?_))); (case side4 => exact (Kd.R_reads' HO718.out).2.1); rintro e w69 ⟨rfl, hb⟩; have n0_ := Aside0.mk (Kd.R_below (by (with_reducible repeat (first | apply Kd.R_alloc | apply Kd.R_drewN | apply Kd.R_drew)); exact HO_7.out) hb); have n1_ := Aside0.mk (Kd.R_below (by (with_reducible repeat (first | apply Kd.R_alloc | apply Kd.R_drewN | apply Kd.R_drew)); exact HO_11.out) hb); have n2_ := Aside0.mk (Kd.R_below (by (with_reducible repeat (first | apply Kd.R_alloc | apply Kd.R_drewN | apply Kd.R_drew)); exact HO_14.out) hb); have n3_ := Aside0.mk (Kd.R_below (by (with_reducible repeat (first | apply Kd.R_alloc | apply Kd.R_drewN | apply Kd.R_drew)); exact HO718.out) hb); have n4_ := Aside0.mk (blk_below (g := gb691) (o := .cells #[.slice A2_0 l2_0.length c2_0, .slice A2_1 l2_1.length c2_1] 43 (0, 0)) (by (with_reducible repeat (first | refine blk_drewN ?_ _ | refine blk_drew ?_ | refine blk_alloc ?_ _)); exact BK691.out) hb); have n5_ := Aside0.mk (below_step (by repeat (first | (with_reducible first | exact HB.out | apply below_alloc | apply pw_below_drewN | apply below_drew1 | refine below_set ?_ GE691.out) | exact HB.out)) hb); clear HO_7; clear HO_11; clear HO_14; clear HO718; clear BK691; clear HB; have HO_7 := n0_; have HO_11 := n1_; have HO_14 := n2_; have HO718 := n3_; have BK691 := n4_; have HB := n5_; clear n0_ n1_ n2_ n3_ n4_ n5_; (try clear hb); (try clear hb2); (try clear hk); (try clear hi); obtain ⟨Ao70, co70, eo70⟩ := Kd.R_slice HO_11.out; subst eo70) | (go_at_call 34; (refine (shunt_CheckQueues.calls _ _ t692 (wrap64 (1 + t696)) _ _ ([] : List Int) _ _ t716 t723 _ ?side1 ?side2 ?side3 ?side4 ?side5 ?side6 A58.out).mono ?_); (case side1 => repeat (first | exact (Kd.R_reads' HO_7.out).2.2 | (with_reducible refine Kd.C_alloc ?_ _) | (with_reducible refine Kd.C_drewN ?_ _) | (with_reducible refine Kd.C_drew ?_))); (case side2 => exact (Kd.R_reads' HO_7.out).2.1); (case side3 => exact Kd.C_nil _ _); (case side4 => exact Nat.le_refl _); (case side5 => repeat (first | exact (Kd.R_reads' HO718.out).2.2 | (with_reducible refine Kd.C_alloc ?_ _) | (with_reducible refine Kd.C_drewN ?_ _) | (with_reducible refine Kd.C_drew ?_))); (case side6 => exact (Kd.R_reads' HO718.out).2.1); rintro e w71 ⟨rfl, hb⟩; have n0_ := Aside0.mk (Kd.R_below (by (with_reducible repeat (first | apply Kd.R_alloc | apply Kd.R_drewN | apply Kd.R_drew)); exact HO_7.out) hb); have n1_ := Aside0.mk (Kd.R_below (by (with_reducible repeat (first | apply Kd.R_alloc | apply Kd.R_drewN | apply Kd.R_drew)); exact HO_11.out) hb); have n2_ := Aside0.mk (Kd.R_below (by (with_reducible repeat (first | apply Kd.R_alloc | apply Kd.R_drewN | apply Kd.R_drew)); exact HO_14.out) hb); have n3_ := Aside0.mk (Kd.R_below (by (with_reducible repeat (first | apply Kd.R_alloc | apply Kd.R_drewN | apply Kd.R_drew)); exact HO718.out) hb); have n4_ := Aside0.mk (blk_below (g := gb691) (o := .cells #[.slice A2_0 l2_0.length c2_0, .slice A2_1 l2_1.length c2_1] 43 (0, 0)) (by (with_reducible repeat (first | refine blk_drewN ?_ _ | refine blk_drew ?_ | refine blk_alloc ?_ _)); exact BK691.out) hb); have n5_ := Aside0.mk (below_step (by repeat (first | (with_reducible first | exact HB.out | apply below_alloc | apply pw_below_drewN | apply below_drew1 | refine below_set ?_ GE691.out) | exact HB.out)) hb); clear HO_7; clear HO_11; clear HO_14; clear HO718; clear BK691; clear HB; have HO_7 := n0_; have HO_11 := n1_; have HO_14 := n2_; have HO718 := n3_; have BK691 := n4_; have HB := n5_; clear n0_ n1_ n2_ n3_ n4_ n5_; (try clear hb); (try clear hb2); (try clear hk); (try clear hi); obtain ⟨Ao72, co72, eo72⟩ := Kd.R_slice HO_14.out; subst eo72))
           go_meet
           case rel => exact ⟨_, (false), (by first | rfl | (simp; done) | (simp [*]; done)), H', ⟨by have := HJ14.out; first | omega | exact Nat.le_refl _⟩, ⟨by (with_reducible repeat (first | apply Kd.R_alloc | apply Kd.R_drewN | apply Kd.R_drew)); exact Kd.R_mono HO_7.out (fun _ hk => ⟨hk.1.1, hk.1.2⟩)⟩, ⟨by (with_reducible repeat (first | apply Kd.R_alloc | apply Kd.R_drewN | apply Kd.R_drew)); exact Kd.R_mono HO_11.out (fun _ hk => ⟨hk.1.1, hk.1.2⟩)⟩, ⟨by (with_reducible repeat (first | apply Kd.R_alloc | apply Kd.R_drewN | apply Kd.R_drew)); exact Kd.R_mono HO_14.out (fun _ hk => ⟨hk.1.1, hk.1.2⟩)⟩, ⟨by (with_reducible repeat (first | refine blk_drewN ?_ _ | refine blk_drew ?_ | refine blk_alloc ?_ _)); exact BK691.out⟩, ⟨by repeat (first | (with_reducible first | exact HB.out | apply below_alloc | apply pw_below_drewN | apply below_drew1 | refine below_set ?_ GE691.out) | exact HB.out)⟩⟩
         ·rw [if_neg c59] at H
          have c59b0 : (t723 == 10) = false := beq_eq_false_iff_ne.mpr c59
          have c59b1 : (t723 != 10) = true := bne_iff_ne.mpr c59
          have H' := Aside0.mk H
          clear H
          obtain ⟨Ao73, co73, eo73⟩ := Kd.R_slice HO718.out
          subst eo73
          go_wp2_with (first | (go_at_call 41; (with_reducible refine (shunt_CheckStack.calls kj14 _ _ t692 (⟨#[]⟩ : ByteArray) _ _ t716 t722 _ ?side1 ?side2 ?side3 ?side4 A55.out).mono ?_); (case side1 => repeat (first | exact (Kd.R_reads' HO_7.out).2.2 | (with_reducible refine Kd.C_alloc ?_ _) | (with_reducible refine Kd.C_drewN ?_ _) | (with_reducible refine Kd.C_drew ?_))); (case side2 => exact (Kd.R_reads' HO_7.out).2.1); (case side3 => repeat (first | exact (Kd.R_reads' HO718.out).2.2 | (with_reducible refine Kd.C_alloc ?_ _) | (with_reducible refine Kd.C_drewN ?_ _) | (with_reducible refine Kd.C_drew ?_))); (case side4 => exact (Kd.R_reads' HO718.out).2.1); rintro e w74 ⟨rfl, hb⟩; have n0_ := Aside0.mk (Kd.R_below (by (with_reducible repeat (first | apply Kd.R_alloc | apply Kd.R_drewN | apply Kd.R_drew)); exact HO_7.out) hb); have n1_ := Aside0.mk (Kd.R_below (by (with_reducible repeat (first | apply Kd.R_alloc | apply Kd.R_drewN | apply Kd.R_drew)); exact HO_11.out) hb); have n2_ := Aside0.mk (Kd.R_below (by (with_reducible repeat (first | apply Kd.R_alloc | apply Kd.R_drewN | apply Kd.R_drew)); exact HO_14.out) hb); have n3_ := Aside0.mk (Kd.R_below (by (with_reducible repeat (first | apply Kd.R_alloc | apply Kd.R_drewN | apply Kd.R_drew)); exact HO718.out) hb); have n4_ := Aside0.mk (blk_below (g := gb691) (o := .cells #[.slice A2_0 l2_0.length c2_0, .slice A2_1 l2_1.length c2_1] 43 (0, 0)) (by (with_reducible repeat (first | refine blk_drewN ?_ _ | refine blk_drew ?_ | refine blk_alloc ?_ _)); exact BK691.out) hb); have n5_ := Aside0.mk (below_step (by repeat (first | (with_reducible first | exact HB.out | apply below_alloc | apply pw_below_drewN | apply below_drew1 | refine below_set ?_ GE691.out) | exact HB.out)) hb); clear HO_7; clear HO_11; clear HO_14; clear HO718; clear BK691; clear HB; have HO_7 := n0_; have HO_11 := n1_; have HO_14 := n2_; have HO718 := n3_; have BK691 := n4_; have HB := n5_; clear n0_ n1_ n2_ n3_ n4_ n5_; (try clear hb); (try clear hb2); (try clear hk); (try clear hi); obtain ⟨Ao75, co75, eo75⟩ := Kd.R_slice HO_11.out; subst eo75) | (go_at_call 34; (refine (shunt_CheckQueues.calls _ _ t692 (wrap64 (1 + t696)) _ _ ([] : List Int) _ _ t716 t723 _ ?side1 ?side2 ?side3 ?side4 ?side5 ?side6 A58.out).mono ?_); (case side1 => repeat (first | exact (Kd.R_reads' HO_7.out).2.2 | (with_reducible refine Kd.C_alloc ?_ _) | (with_reducible refine Kd.C_drewN ?_ _) | (with_reducible refine Kd.C_drew ?_))); (case side2 => exact (Kd.R_reads' HO_7.out).2.1); (case side3 => exact Kd.C_nil _ _); (case side4 => exact Nat.le_refl _); (case side5 => repeat (first | exact (Kd.R_reads' HO718.out).2.2 | (with_reducible refine Kd.C_alloc ?_ _) | (with_reducible refine Kd.C_drewN ?_ _) | (with_reducible refine Kd.C_drew ?_))); (case side6 => exact (Kd.R_reads' HO718.out).2.1); rintro e w76 ⟨rfl, hb⟩; have n0_ := Aside0.mk (Kd.R_below (by (with_reducible repeat (first | apply Kd.R_alloc | apply Kd.R_drewN | apply Kd.R_drew)); exact HO_7.out) hb); have n1_ := Aside0.mk (Kd.R_below (by (with_reducible repeat (first | apply Kd.R_alloc | apply Kd.R_drewN | apply Kd.R_drew)); exact HO_11.out) hb); have n2_ := Aside0.mk (Kd.R_below (by (with_reducible repeat (first | apply Kd.R_alloc | apply Kd.R_drewN | apply Kd.R_drew)); exact HO_14.out) hb); have n3_ := Aside0.mk (Kd.R_below (by (with_reducible repeat (first | apply Kd.R_alloc | apply Kd.R_drewN | apply Kd.R_drew)); exact HO718.out) hb); have n4_ := Aside0.mk (blk_below (g := gb691) (o := .cells #[.slice A2_0 l2_0.length c2_0, .slice A2_1 l2_1.length c2_1] 43 (0, 0)) (by (with_reducible repeat (first | refine blk_drewN ?_ _ | refine blk_drew ?_ | refine blk_alloc ?_ _)); exact BK691.out) hb); have n5_ := Aside0.mk (below_step (by repeat (first | (with_reducible first | exact HB.out | apply below_alloc | apply pw_below_drewN | apply below_drew1 | refine below_set ?_ GE691.out) | exact HB.out)) hb); clear HO_7; clear HO_11; clear HO_14; clear HO718; clear BK691; clear HB; have HO_7 := n0_; have HO_11 := n1_; have HO_14 := n2_; have HO718 := n3_; have BK691 := n4_; have HB := n5_; clear n0_ n1_ n2_ n3_ n4_ n5_; (try clear hb); (try clear hb2); (try clear hk); (try clear hi)))
          go_meet
          case rel => exact ⟨_, (true), (by first | rfl | (simp; done) | (simp [*]; done)), H', ⟨by have := HJ14.out; first | omega | exact Nat.le_refl _⟩, ⟨by (with_reducible repeat (first | apply Kd.R_alloc | apply Kd.R_drewN | apply Kd.R_drew)); exact Kd.R_mono HO_7.out (fun _ hk => ⟨hk.1.1, hk.1.2⟩)⟩, ⟨by (with_reducible repeat (first | apply Kd.R_alloc | apply Kd.R_drewN | apply Kd.R_drew)); exact Kd.R_mono HO_11.out (fun _ hk => ⟨hk.1.1, hk.1.2⟩)⟩, ⟨by (with_reducible repeat (first | apply Kd.R_alloc | apply Kd.R_drewN | apply Kd.R_drew)); exact Kd.R_mono HO_14.out (fun _ hk => ⟨hk.1.1, hk.1.2⟩)⟩, ⟨by (with_reducible repeat (first | refine blk_drewN ?_ _ | refine blk_drew ?_ | refine blk_alloc ?_ _)); exact BK691.out⟩, ⟨by repeat (first | (with_reducible first | exact HB.out | apply below_alloc | apply pw_below_drewN | apply below_drew1 | refine below_set ?_ GE691.out) | exact HB.out)⟩⟩
        ·rw [if_neg c57] at H
         have c57b0 : decide (0 < (t702.length : Int)) = false := decide_eq_false c57
         have c57b1 : decide (0 < t702.length) = false := decide_eq_false (by omega)
         clear c57
         by_cases c77 : (t709.length : Int) > 0
         ·rw [if_pos c77] at H
          have c77b0 : decide (0 < (t709.length : Int)) = true := decide_eq_true c77
          have c77b1 : decide (0 < t709.length) = true := decide_eq_true (by omega)
          clear c77
          replace H := Option.bind_eq_some_iff.mp H
          obtain ⟨t725, A780, H⟩ := H
          replace H : (tickinglaw02_ShuntOnce.j1 kj14 (wrap64 (1 + t696)) t692 t702 t709 (t725 != 10) l2_0 l2_1) = some r := H
          have A78 := Aside0.mk A780
          clear A780
          have H' := Aside0.mk H
          clear H
          obtain ⟨Ao79, co79, eo79⟩ := Kd.R_slice HO718.out
          subst eo79
          go_wp2_with (first | (go_at_call 41; (with_reducible refine (shunt_CheckStack.calls kj14 _ _ t692 (⟨#[]⟩ : ByteArray) _ _ t716 t722 _ ?side1 ?side2 ?side3 ?side4 A55.out).mono ?_); (case side1 => repeat (first | exact (Kd.R_reads' HO_7.out).2.2 | (with_reducible refine Kd.C_alloc ?_ _) | (with_reducible refine Kd.C_drewN ?_ _) | (with_reducible refine Kd.C_drew ?_))); (case side2 => exact (Kd.R_reads' HO_7.out).2.1); (case side3 => repeat (first | exact (Kd.R_reads' HO718.out).2.2 | (with_reducible refine Kd.C_alloc ?_ _) | (with_reducible refine Kd.C_drewN ?_ _) | (with_reducible refine Kd.C_drew ?_))); (case side4 => exact (Kd.R_reads' HO718.out).2.1); rintro e w80 ⟨rfl, hb⟩; have n0_ := Aside0.mk (Kd.R_below (by (with_reducible repeat (first | apply Kd.R_alloc | apply Kd.R_drewN | apply Kd.R_drew)); exact HO_7.out) hb); have n1_ := Aside0.mk (Kd.R_below (by (with_reducible repeat (first | apply Kd.R_alloc | apply Kd.R_drewN | apply Kd.R_drew)); exact HO_11.out) hb); have n2_ := Aside0.mk (Kd.R_below (by (with_reducible repeat (first | apply Kd.R_alloc | apply Kd.R_drewN | apply Kd.R_drew)); exact HO_14.out) hb); have n3_ := Aside0.mk (Kd.R_below (by (with_reducible repeat (first | apply Kd.R_alloc | apply Kd.R_drewN | apply Kd.R_drew)); exact HO718.out) hb); have n4_ := Aside0.mk (blk_below (g := gb691) (o := .cells #[.slice A2_0 l2_0.length c2_0, .slice A2_1 l2_1.length c2_1] 43 (0, 0)) (by (with_reducible repeat (first | refine blk_drewN ?_ _ | refine blk_drew ?_ | refine blk_alloc ?_ _)); exact BK691.out) hb); have n5_ := Aside0.mk (below_step (by repeat (first | (with_reducible first | exact HB.out | apply below_alloc | apply pw_below_drewN | apply below_drew1 | refine below_set ?_ GE691.out) | exact HB.out)) hb); clear HO_7; clear HO_11; clear HO_14; clear HO718; clear BK691; clear HB; have HO_7 := n0_; have HO_11 := n1_; have HO_14 := n2_; have HO718 := n3_; have BK691 := n4_; have HB := n5_; clear n0_ n1_ n2_ n3_ n4_ n5_; (try clear hb); (try clear hb2); (try clear hk); (try clear hi); obtain ⟨Ao81, co81, eo81⟩ := Kd.R_slice HO_11.out; subst eo81; obtain ⟨Ao82, co82, eo82⟩ := Kd.R_slice HO_14.out; subst eo82) | (go_at_call 45; (refine (shunt_CheckStacks.calls kj14 _ _ t692 _ _ ([] : List Int) _ _ t716 t725 _ ?side1 ?side2 ?side3 ?side4 ?side5 ?side6 A78.out).mono ?_); (case side1 => repeat (first | exact (Kd.R_reads' HO_7.out).2.2 | (with_reducible refine Kd.C_alloc ?_ _) | (with_reducible refine Kd.C_drewN ?_ _) | (with_reducible refine Kd.C_drew ?_))); (case side2 => exact (Kd.R_reads' HO_7.out).2.1); (case side3 => exact Kd.C_nil _ _); (case side4 => exact Nat.le_refl _); (case side5 => repeat (first | exact (Kd.R_reads' HO718.out).2.2 | (with_reducible refine Kd.C_alloc ?_ _) | (with_reducible refine Kd.C_drewN ?_ _) | (with_reducible refine Kd.C_drew ?_))); (case side6 => exact (Kd.R_reads' HO718.out).2.1); rintro e w83 ⟨rfl, hb⟩; have n0_ := Aside0.mk (Kd.R_below (by (with_reducible repeat (first | apply Kd.R_alloc | apply Kd.R_drewN | apply Kd.R_drew)); exact HO_7.out) hb); have n1_ := Aside0.mk (Kd.R_below (by (with_reducible repeat (first | apply Kd.R_alloc | apply Kd.R_drewN | apply Kd.R_drew)); exact HO_11.out) hb); have n2_ := Aside0.mk (Kd.R_below (by (with_reducible repeat (first | apply Kd.R_alloc | apply Kd.R_drewN | apply Kd.R_drew)); exact HO_14.out) hb); have n3_ := Aside0.mk (Kd.R_below (by (with_reducible repeat (first | apply Kd.R_alloc | apply Kd.R_drewN | apply Kd.R_drew)); exact HO718.out) hb); have n4_ := Aside0.mk (blk_below (g := gb691) (o := .cells #[.slice A2_0 l2_0.length c2_0, .slice A2_1 l2_1.length c2_1] 43 (0, 0)) (by (with_reducible repeat (first | refine blk_drewN ?_ _ | refine blk_drew ?_ | refine blk_alloc ?_ _)); exact BK691.out) hb); have n5_ := Aside0.mk (below_step (by repeat (first | (with_reducible first | exact HB.out | apply below_alloc | apply pw_below_drewN | apply below_drew1 | refine below_set ?_ GE691.out) | exact HB.out)) hb); clear HO_7; clear HO_11; clear HO_14; clear HO718; clear BK691; clear HB; have HO_7 := n0_; have HO_11 := n1_; have HO_14 := n2_; have HO718 := n3_; have BK691 := n4_; have HB := n5_; clear n0_ n1_ n2_ n3_ n4_ n5_; (try clear hb); (try clear hb2); (try clear hk); (try clear hi)))
          go_meet
          case rel => exact ⟨_, ((t725 != 10)), (by first | rfl | (simp; done) | (simp [*]; done)), H', ⟨by have := HJ14.out; first | omega | exact Nat.le_refl _⟩, ⟨by (with_reducible repeat (first | apply Kd.R_alloc | apply Kd.R_drewN | apply Kd.R_drew)); exact Kd.R_mono HO_7.out (fun _ hk => ⟨hk.1.1, hk.1.2⟩)⟩, ⟨by (with_reducible repeat (first | apply Kd.R_alloc | apply Kd.R_drewN | apply Kd.R_drew)); exact Kd.R_mono HO_11.out (fun _ hk => ⟨hk.1.1, hk.1.2⟩)⟩, ⟨by (with_reducible repeat (first | apply Kd.R_alloc | apply Kd.R_drewN | apply Kd.R_drew)); exact Kd.R_mono HO_14.out (fun _ hk => ⟨hk.1.1, hk.1.2⟩)⟩, ⟨by (with_reducible repeat (first | refine blk_drewN ?_ _ | refine blk_drew ?_ | refine blk_alloc ?_ _)); exact BK691.out⟩, ⟨by repeat (first | (with_reducible first | exact HB.out | apply below_alloc | apply pw_below_drewN | apply below_drew1 | refine below_set ?_ GE691.out) | exact HB.out)⟩⟩
         ·rw [if_neg c77] at H
          have c77b0 : decide (0 < (t709.length : Int)) = false := decide_eq_false c77
          have c77b1 : decide (0 < t709.length) = false := decide_eq_false (by omega)
          clear c77
          have H' := Aside0.mk H
          clear H
          obtain ⟨Ao84, co84, eo84⟩ := Kd.R_slice HO718.out
          subst eo84
          go_wp2_with (first | (go_at_call 41; (with_reducible refine (shunt_CheckStack.calls kj14 _ _ t692 (⟨#[]⟩ : ByteArray) _ _ t716 t722 _ ?side1 ?side2 ?side3 ?side4 A55.out).mono ?_); (case side1 => repeat (first | exact (Kd.R_reads' HO_7.out).2.2 | (with_reducible refine Kd.C_alloc ?_ _) | (with_reducible refine Kd.C_drewN ?_ _) | (with_reducible refine Kd.C_drew ?_))); (case side2 => exact (Kd.R_reads' HO_7.out).2.1); (case side3 => repeat (first | exact (Kd.R_reads' HO718.out).2.2 | (with_reducible refine Kd.C_alloc ?_ _) | (with_reducible refine Kd.C_drewN ?_ _) | (with_reducible refine Kd.C_drew ?_))); (case side4 => exact (Kd.R_reads' HO718.out).2.1); rintro e w85 ⟨rfl, hb⟩; have n0_ := Aside0.mk (Kd.R_below (by (with_reducible repeat (first | apply Kd.R_alloc | apply Kd.R_drewN | apply Kd.R_drew)); exact HO_7.out) hb); have n1_ := Aside0.mk (Kd.R_below (by (with_reducible repeat (first | apply Kd.R_alloc | apply Kd.R_drewN | apply Kd.R_drew)); exact HO_11.out) hb); have n2_ := Aside0.mk (Kd.R_below (by (with_reducible repeat (first | apply Kd.R_alloc | apply Kd.R_drewN | apply Kd.R_drew)); exact HO_14.out) hb); have n3_ := Aside0.mk (Kd.R_below (by (with_reducible repeat (first | apply Kd.R_alloc | apply Kd.R_drewN | apply Kd.R_drew)); exact HO718.out) hb); have n4_ := Aside0.mk (blk_below (g := gb691) (o := .cells #[.slice A2_0 l2_0.length c2_0, .slice A2_1 l2_1.length c2_1] 43 (0, 0)) (by (with_reducible repeat (first | refine blk_drewN ?_ _ | refine blk_drew ?_ | refine blk_alloc ?_ _)); exact BK691.out) hb); have n5_ := Aside0.mk (below_step (by repeat (first | (with_reducible first | exact HB.out | apply below_alloc | apply pw_below_drewN | apply below_drew1 | refine below_set ?_ GE691.out) | exact HB.out)) hb); clear HO_7; clear HO_11; clear HO_14; clear HO718; clear BK691; clear HB; have HO_7 := n0_; have HO_11 := n1_; have HO_14 := n2_; have HO718 := n3_; have BK691 := n4_; have HB := n5_; clear n0_ n1_ n2_ n3_ n4_ n5_; (try clear hb); (try clear hb2); (try clear hk); (try clear hi); obtain ⟨Ao86, co86, eo86⟩ := Kd.R_slice HO_11.out; subst eo86; obtain ⟨Ao87, co87, eo87⟩ := Kd.R_slice HO_14.out; subst eo87))
          go_meet
          case rel => exact ⟨_, (false), (by first | rfl | (simp; done) | (simp [*]; done)), H', ⟨by have := HJ14.out; first | omega | exact Nat.le_refl _⟩, ⟨by (with_reducible repeat (first | apply Kd.R_alloc | apply Kd.R_drewN | apply Kd.R_drew)); exact Kd.R_mono HO_7.out (fun _ hk => ⟨hk.1.1, hk.1.2⟩)⟩, ⟨by (with_reducible repeat (first | apply Kd.R_alloc | apply Kd.R_drewN | apply Kd.R_drew)); exact Kd.R_mono HO_11.out (fun _ hk => ⟨hk.1.1, hk.1.2⟩)⟩, ⟨by (with_reducible repeat (first | apply Kd.R_alloc | apply Kd.R_drewN | apply Kd.R_drew)); exact Kd.R_mono HO_14.out (fun _ hk => ⟨hk.1.1, hk.1.2⟩)⟩, ⟨by (with_reducible repeat (first | refine blk_drewN ?_ _ | refine blk_drew ?_ | refine blk_alloc ?_ _)); exact BK691.out⟩, ⟨by repeat (first | (with_reducible first | exact HB.out | apply below_alloc | apply pw_below_drewN | apply below_drew1 | refine below_set ?_ GE691.out) | exact HB.out)⟩⟩
       ·rw [if_neg c56] at H
        have c56b0 : (t722 == 10) = false := beq_eq_false_iff_ne.mpr c56
        have c56b1 : (t722 != 10) = true := bne_iff_ne.mpr c56
        have H' := Aside0.mk H
        clear H
        obtain ⟨Ao88, co88, eo88⟩ := Kd.R_slice HO718.out
        subst eo88
        go_wp2_with (first | (go_at_call 41; (with_reducible refine (shunt_CheckStack.calls kj14 _ _ t692 (⟨#[]⟩ : ByteArray) _ _ t716 t722 _ ?side1 ?side2 ?side3 ?side4 A55.out).mono ?_); (case side1 => repeat (first | exact (Kd.R_reads' HO_7.out).2.2 | (with_reducible refine Kd.C_alloc ?_ _) | (with_reducible refine Kd.C_drewN ?_ _) | (with_reducible refine Kd.C_drew ?_))); (case side2 => exact (Kd.R_reads' HO_7.out).2.1); (case side3 => repeat (first | exact (Kd.R_reads' HO718.out).2.2 | (with_reducible refine Kd.C_alloc ?_ _) | (with_reducible refine Kd.C_drewN ?_ _) | (with_reducible refine Kd.C_drew ?_))); (case side4 => exact (Kd.R_reads' HO718.out).2.1); rintro e w89 ⟨rfl, hb⟩; have n0_ := Aside0.mk (Kd.R_below (by (with_reducible repeat (first | apply Kd.R_alloc | apply Kd.R_drewN | apply Kd.R_drew)); exact HO_7.out) hb); have n1_ := Aside0.mk (Kd.R_below (by (with_reducible repeat (first | apply Kd.R_alloc | apply Kd.R_drewN | apply Kd.R_drew)); exact HO_11.out) hb); have n2_ := Aside0.mk (Kd.R_below (by (with_reducible repeat (first | apply Kd.R_alloc | apply Kd.R_drewN | apply Kd.R_drew)); exact HO_14.out) hb); have n3_ := Aside0.mk (Kd.R_below (by (with_reducible repeat (first | apply Kd.R_alloc | apply Kd.R_drewN | apply Kd.R_drew)); exact HO718.out) hb); have n4_ := Aside0.mk (blk_below (g := gb691) (o := .cells #[.slice A2_0 l2_0.length c2_0, .slice A2_1 l2_1.length c2_1] 43 (0, 0)) (by (with_reducible repeat (first | refine blk_drewN ?_ _ | refine blk_drew ?_ | refine blk_alloc ?_ _)); exact BK691.out) hb); have n5_ := Aside0.mk (below_step (by repeat (first | (with_reducible first | exact HB.out | apply below_alloc | apply pw_below_drewN | apply below_drew1 | refine below_set ?_ GE691.out) | exact HB.out)) hb); clear HO_7; clear HO_11; clear HO_14; clear HO718; clear BK691; clear HB; have HO_7 := n0_; have HO_11 := n1_; have HO_14 := n2_; have HO718 := n3_; have BK691 := n4_; have HB := n5_; clear n0_ n1_ n2_ n3_ n4_ n5_; (try clear hb); (try clear hb2); (try clear hk); (try clear hi)))
        go_meet
        case rel => exact ⟨_, (true), (by first | rfl | (simp; done) | (simp [*]; done)), H', ⟨by have := HJ14.out; first | omega | exact Nat.le_refl _⟩, ⟨by (with_reducible repeat (first | apply Kd.R_alloc | apply Kd.R_drewN | apply Kd.R_drew)); exact Kd.R_mono HO_7.out (fun _ hk => ⟨hk.1.1, hk.1.2⟩)⟩, ⟨by (with_reducible repeat (first | apply Kd.R_alloc | apply Kd.R_drewN | apply Kd.R_drew)); exact Kd.R_mono HO_11.out (fun _ hk => ⟨hk.1.1, hk.1.2⟩)⟩, ⟨by (with_reducible repeat (first | apply Kd.R_alloc | apply Kd.R_drewN | apply Kd.R_drew)); exact Kd.R_mono HO_14.out (fun _ hk => ⟨hk.1.1, hk.1.2⟩)⟩, ⟨by (with_reducible repeat (first | refine blk_drewN ?_ _ | refine blk_drew ?_ | refine blk_alloc ?_ _)); exact BK691.out⟩, ⟨by repeat (first | (with_reducible first | exact HB.out | apply below_alloc | apply pw_below_drewN | apply below_drew1 | refine below_set ?_ GE691.out) | exact HB.out)⟩⟩
     case rest =>
      clear HC26
      try clear c1
      try clear c2
      try clear p2
      try clear c3
      try clear c4
      try clear c5
      try clear c5b0
      try clear c5b1
      try clear c5b2
      try clear c6
      try clear p6
      try clear c7
      try clear c17
      try clear c18
      try clear c22
      try clear c22b0
      try clear c22b1
      try clear c23
      try clear c23b0
      try clear c23b1
      try clear c24
      try clear c27
      try clear c28
      try clear c29
      try clear c29b0
      try clear c29b1
      try clear c30
      try clear c30b0
      try clear c30b1
      try clear c31
      try clear c32
      try clear c32b0
      try clear c32b1
      try clear c33
      try clear c33b0
      try clear c33b1
      try clear c43
      try clear c47
      try clear c47b0
      try clear c47b1
      try clear c48
      try clear c56
      try clear c56b0
      try clear c56b1
      try clear c57
      try clear c57b0
      try clear c57b1
      try clear c59
      try clear c59b0
      try clear c59b1
      try clear c60
      try clear c60b0
      try clear c60b1
      try clear p64
      try clear c77
      try clear c77b0
      try clear c77b1
      try clear hcz27_0
      try clear hcz27_1
      try clear hfz27_0
      try clear hfz27_1
      try clear p2
      try clear p6
      obtain ⟨kq, x90_25, rfl, HA, HJ25, HO_7, HO_11, HO_14, BK691, HB⟩ := hcut
      cases kq with
      | zero => exact absurd HA.out (by simp [tickinglaw02_ShuntOnce.j1])
      | succ kj25 =>
       have H := HA.out
       clear HA
       simp only [tickinglaw02_ShuntOnce.j1] at H
       by_cases c90 : x90_25 = true
       ·subst c90
        have H1 : (some false) = some r := by rw [if_pos rfl] at H; exact H
        clear H
        have H := H1
        clear H1
        obtain rfl := Option.some.inj H
        go_wp2
        go_ret
        exact ⟨by first | rfl | (simp [errW_none, errW_some] <;> rfl) | (simp [*, errW_none, errW_some] <;> rfl), by repeat (first | (with_reducible first | exact HB.out | apply below_alloc | apply pw_below_drewN | apply below_drew1 | refine below_set ?_ GE691.out) | exact HB.out)⟩
       ·replace c90 := Bool.eq_false_iff.mpr c90
        subst c90
        have H1 : ((tickinglaw02_list.f l2_0).bind fun t726 => (if (t702.length : Int) = 0 then ((shunt_CheckQueues.f t692 (wrap64 (1 + t696)) t726 ([] : List Int)).bind fun t729 => (tickinglaw02_ShuntOnce.j2 kj25 t692 t709 t726 (t729 != 10))) else (tickinglaw02_ShuntOnce.j2 kj25 t692 t709 t726 false))) = some r := by rw [if_neg (show ¬ (false = true) by decide)] at H; exact H
        clear H
        have H := H1
        clear H1
        replace H := Option.bind_eq_some_iff.mp H
        obtain ⟨t726, A910, H⟩ := H
        replace H : (if (t702.length : Int) = 0 then ((shunt_CheckQueues.f t692 (wrap64 (1 + t696)) t726 ([] : List Int)).bind fun t729 => (tickinglaw02_ShuntOnce.j2 kj25 t692 t709 t726 (t729 != 10))) else (tickinglaw02_ShuntOnce.j2 kj25 t692 t709 t726 false)) = some r := H
        have A91 := Aside0.mk A910
        clear A910
        have HC92 := Aside0.mk H
        clear H
        have hcz93_0 : wc.cell? ⟨gb691, 0, none⟩ = some (.slice A2_0 l2_0.length c2_0) := (blk_cell BK691.out 0).trans rfl
        have hcz93_1 : wc.cell? ⟨gb691, 1, none⟩ = some (.slice A2_1 l2_1.length c2_1) := (blk_cell BK691.out 1).trans rfl
        have hfz93_0 := blk_frozen BK691.out 0
        have hfz93_1 := blk_frozen BK691.out 1
        go_upto_region 14 with (first | ((with_reducible refine gate_callee (f := 18) rfl ?_); refine goesL_ (some 93) rfl rfl Try.func18 (by kernel_rfl) rfl #[.slice A2_0 l2_0.length c2_0] rfl (by (try simp only [List.map_toArray, List.map_cons, List.map_nil]); first | done | rfl | (simp only [List.length_drop, List.length_take]; rfl)) ?_; (with_reducible refine (tickinglaw02_list.calls _ _ l2_0 t726 _ ?side1 ?side2 A91.out).mono ?_); (case side1 => repeat (first | exact (Kd.C_below HR2_0.out HB.out) | (with_reducible refine Kd.C_alloc ?_ _) | (with_reducible refine Kd.C_drewN ?_ _) | (with_reducible refine Kd.C_drew ?_))); (case side2 => exact HC2_0.out); rintro e w94 ⟨v727, rfl, ho0, hb⟩; refine ⟨_, rfl, ?_⟩; have n0_ := Aside0.mk (Kd.R_elder' (by (with_reducible repeat (first | apply Kd.R_alloc | apply Kd.R_drewN | apply Kd.R_drew)); exact HO_7.out) (Kd.R_base ho0) hb); have n1_ := Aside0.mk (Kd.R_elder' (by (with_reducible repeat (first | apply Kd.R_alloc | apply Kd.R_drewN | apply Kd.R_drew)); exact HO_11.out) (Kd.R_base ho0) hb); have n2_ := Aside0.mk (Kd.R_elder' (by (with_reducible repeat (first | apply Kd.R_alloc | apply Kd.R_drewN | apply Kd.R_drew)); exact HO_14.out) (Kd.R_base ho0) hb); have n3_ := Aside0.mk (Kd.R_lower (Kd.R_new' (Kd.R_new' (Kd.R_new' ho0 (Kd.R_lt (by (with_reducible repeat (first | apply Kd.R_alloc | apply Kd.R_drewN | apply Kd.R_drew)); exact HO_7.out))) (Kd.R_lt (by (with_reducible repeat (first | apply Kd.R_alloc | apply Kd.R_drewN | apply Kd.R_drew)); exact HO_11.out))) (Kd.R_lt (by (with_reducible repeat (first | apply Kd.R_alloc | apply Kd.R_drewN | apply Kd.R_drew)); exact HO_14.out))) (below_size (by repeat (first | (with_reducible first | exact HB.out | apply below_alloc | apply pw_below_drewN | apply below_drew1 | refine below_set ?_ GE691.out) | exact HB.out)))); have n4_ := Aside0.mk (blk_below (g := gb691) (o := .cells #[.slice A2_0 l2_0.length c2_0, .slice A2_1 l2_1.length c2_1] 43 (0, 0)) (by (with_reducible repeat (first | refine blk_drewN ?_ _ | refine blk_drew ?_ | refine blk_alloc ?_ _)); exact BK691.out) hb); have n5_ := Aside0.mk (below_step (by repeat (first | (with_reducible first | exact HB.out | apply below_alloc | apply pw_below_drewN | apply below_drew1 | refine below_set ?_ GE691.out) | exact HB.out)) hb); clear HO_7; clear HO_11; clear HO_14; clear BK691; clear HB; have HO_7 := n0_; have HO_11 := n1_; have HO_14 := n2_; have HO728 := n3_; have BK691 := n4_; have HB := n5_; clear n0_ n1_ n2_ n3_ n4_ n5_; (try clear hb); (try clear hb2); (try clear hk); (try clear hi); (try clear ho0)))
        (try simp only [Act.put, List.setIfInBounds_toArray, List.set_cons_zero, List.set_cons_succ])
        go_cut [103] (fun v103 wc => ∃ (kq : Nat) (x103_91 : Bool), v103 = .bool x103_91 ∧ Aside0 (tickinglaw02_ShuntOnce.j2 kq t692 t709 t726 x103_91 = some r) ∧ Aside0 (kq ≤ kj25) ∧ Aside0 (Kd.R (Kd.int .i64) 3 wc w.heap.size (fun k_ => some k_ ≠ (v712 : Value).ownBlock ∧ some k_ ≠ (v727 : Value).ownBlock) (.slice Ao18 t692.length co18) t692) ∧ Aside0 (Kd.R (Kd.int .i64) 3 wc w.heap.size (fun k_ => some k_ ≠ ((.slice Ao18 t692.length co18) : Value).ownBlock ∧ some k_ ≠ (v727 : Value).ownBlock) v712 t709) ∧ Aside0 (Kd.R (Kd.int .i64) 3 wc w.heap.size (fun k_ => some k_ ≠ ((.slice Ao18 t692.length co18) : Value).ownBlock ∧ some k_ ≠ (v712 : Value).ownBlock) v727 t726) ∧ Aside0 (wc.heap[gb691]? = some (.cells #[(.slice A2_0 l2_0.length c2_0), (.slice A2_1 l2_1.length c2_1)] 43 (0, 0))) ∧ Aside0 (Below w.heap.size w wc))
        case first =>
         have H := HC92.out
         clear HC92
         by_cases c95 : (t702.length : Int) = 0
         ·rw [if_pos c95] at H
          have c95b0 : ((t702.length : Int) == 0) = true := beq_iff_eq.mpr c95
          have c95b1 : ((t702.length : Int) != 0) = false := bne_eq_false_iff_eq.mpr c95
          clear c95
          (first | rw [c95b0] | (simp only [i64_w, i32_w]; rw [c95b0]) | skip)
          replace H := Option.bind_eq_some_iff.mp H
          obtain ⟨t729, A960, H⟩ := H
          replace H : (tickinglaw02_ShuntOnce.j2 kj25 t692 t709 t726 (t729 != 10)) = some r := H
          have A96 := Aside0.mk A960
          clear A960
          have H' := Aside0.mk H
          clear H
          obtain ⟨Ao97, co97, eo97⟩ := Kd.R_slice HO_11.out
          subst eo97
          obtain ⟨Ao98, co98, eo98⟩ := Kd.R_slice HO728.out
          subst eo98
          go_wp2_with (first | (go_at_call 34; (refine (shunt_CheckQueues.calls _ _ t692 (wrap64 (1 + t696)) _ _ t726 _ _ ([] : List Int) t729 _ ?side1 ?side2 ?side3 ?side4 ?side5 ?side6 A96.out).mono ?_); (case side1 => repeat (first | exact (Kd.R_reads' HO_7.out).2.2 | (with_reducible refine Kd.C_alloc ?_ _) | (with_reducible refine Kd.C_drewN ?_ _) | (with_reducible refine Kd.C_drew ?_))); (case side2 => exact (Kd.R_reads' HO_7.out).2.1); (case side3 => repeat (first | exact (Kd.R_reads' HO728.out).2.2 | (with_reducible refine Kd.C_alloc ?_ _) | (with_reducible refine Kd.C_drewN ?_ _) | (with_reducible refine Kd.C_drew ?_))); (case side4 => exact (Kd.R_reads' HO728.out).2.1); (case side5 => exact Kd.C_nil _ _); (case side6 => exact Nat.le_refl _); rintro e w99 ⟨rfl, hb⟩; have n0_ := Aside0.mk (Kd.R_below (by (with_reducible repeat (first | apply Kd.R_alloc | apply Kd.R_drewN | apply Kd.R_drew)); exact HO_7.out) hb); have n1_ := Aside0.mk (Kd.R_below (by (with_reducible repeat (first | apply Kd.R_alloc | apply Kd.R_drewN | apply Kd.R_drew)); exact HO_11.out) hb); have n2_ := Aside0.mk (Kd.R_below (by (with_reducible repeat (first | apply Kd.R_alloc | apply Kd.R_drewN | apply Kd.R_drew)); exact HO_14.out) hb); have n3_ := Aside0.mk (Kd.R_below (by (with_reducible repeat (first | apply Kd.R_alloc | apply Kd.R_drewN | apply Kd.R_drew)); exact HO728.out) hb); have n4_ := Aside0.mk (blk_below (g := gb691) (o := .cells #[.slice A2_0 l2_0.length c2_0, .slice A2_1 l2_1.length c2_1] 43 (0, 0)) (by (with_reducible repeat (first | refine blk_drewN ?_ _ | refine blk_drew ?_ | refine blk_alloc ?_ _)); exact BK691.out) hb); have n5_ := Aside0.mk (below_step (by repeat (first | (with_reducible first | exact HB.out | apply below_alloc | apply pw_below_drewN | apply below_drew1 | refine below_set ?_ GE691.out) | exact HB.out)) hb); clear HO_7; clear HO_11; clear HO_14; clear HO728; clear BK691; clear HB; have HO_7 := n0_; have HO_11 := n1_; have HO_14 := n2_; have HO728 := n3_; have BK691 := n4_; have HB := n5_; clear n0_ n1_ n2_ n3_ n4_ n5_; (try clear hb); (try clear hb2); (try clear hk); (try clear hi)))
          go_meet
          case rel => exact ⟨_, ((t729 != 10)), (by first | rfl | (simp; done) | (simp [*]; done)), H', ⟨by have := HJ14.out; have := HJ25.out; first | omega | exact Nat.le_refl _⟩, ⟨by (with_reducible repeat (first | apply Kd.R_alloc | apply Kd.R_drewN | apply Kd.R_drew)); exact Kd.R_mono HO_7.out (fun _ hk => ⟨hk.1.2, hk.2⟩)⟩, ⟨by (with_reducible repeat (first | apply Kd.R_alloc | apply Kd.R_drewN | apply Kd.R_drew)); exact Kd.R_mono HO_14.out (fun _ hk => ⟨hk.1.1, hk.2⟩)⟩, ⟨by (with_reducible repeat (first | apply Kd.R_alloc | apply Kd.R_drewN | apply Kd.R_drew)); exact Kd.R_mono HO728.out (fun _ hk => ⟨hk.1.1.2, hk.2⟩)⟩, ⟨by (with_reducible repeat (first | refine blk_drewN ?_ _ | refine blk_drew ?_ | refine blk_alloc ?_ _)); exact BK691.out⟩, ⟨by repeat (first | (with_reducible first | exact HB.out | apply below_alloc | apply pw_below_drewN | apply below_drew1 | refine below_set ?_ GE691.out) | exact HB.out)⟩⟩
         ·rw [if_neg c95] at H
          have c95b0 : ((t702.length : Int) == 0) = false := beq_eq_false_iff_ne.mpr c95
          have c95b1 : ((t702.length : Int) != 0) = true := bne_iff_ne.mpr c95
          have c95b2 : ¬ (t702 = []) := fun h_ => c95 (by rw [h_]; rfl)
          (first | rw [c95b0] | (simp only [i64_w, i32_w]; rw [c95b0]) | skip)
          have H' := Aside0.mk H
          clear H
          obtain ⟨Ao100, co100, eo100⟩ := Kd.R_slice HO_11.out
          subst eo100
          go_wp2
          go_meet
          case rel => exact ⟨_, (false), (by first | rfl | (simp; done) | (simp [*]; done)), H', ⟨by have := HJ14.out; have := HJ25.out; first | omega | exact Nat.le_refl _⟩, ⟨by (with_reducible repeat (first | apply Kd.R_alloc | apply Kd.R_drewN | apply Kd.R_drew)); exact Kd.R_mono HO_7.out (fun _ hk => ⟨hk.1.2, hk.2⟩)⟩, ⟨by (with_reducible repeat (first | apply Kd.R_alloc | apply Kd.R_drewN | apply Kd.R_drew)); exact Kd.R_mono HO_14.out (fun _ hk => ⟨hk.1.1, hk.2⟩)⟩, ⟨by (with_reducible repeat (first | apply Kd.R_alloc | apply Kd.R_drewN | apply Kd.R_drew)); exact Kd.R_mono HO728.out (fun _ hk => ⟨hk.1.1.2, hk.2⟩)⟩, ⟨by (with_reducible repeat (first | refine blk_drewN ?_ _ | refine blk_drew ?_ | refine blk_alloc ?_ _)); exact BK691.out⟩, ⟨by repeat (first | (with_reducible first | exact HB.out | apply below_alloc | apply pw_below_drewN | apply below_drew1 | refine below_set ?_ GE691.out) | exact HB.out)⟩⟩
        case rest =>
         clear HC92
         try clear c1
         try clear c2
         try clear p2
         try clear c3
         try clear c4
         try clear c5
         try clear c5b0
         try clear c5b1
         try clear c5b2
         try clear c6
         try clear p6
         try clear c7
         try clear c9
         try clear c17
         try clear c18
         try clear c22
         try clear c22b0
         try clear c22b1
         try clear c23
         try clear c23b0
         try clear c23b1
         try clear c24
         try clear c27
         try clear c28
         try clear c29
         try clear c29b0
         try clear c29b1
         try clear c30
         try clear c30b0
         try clear c30b1
         try clear c31
         try clear c32
         try clear c32b0
         try clear c32b1
         try clear c33
         try clear c33b0
         try clear c33b1
         try clear c43
         try clear c47
         try clear c47b0
         try clear c47b1
         try clear c48
         try clear c56
         try clear c56b0
         try clear c56b1
         try clear c57
         try clear c57b0
         try clear c57b1
         try clear c59
         try clear c59b0
         try clear c59b1
         try clear c60
         try clear c60b0
         try clear c60b1
         try clear p64
         try clear c77
         try clear c77b0
         try clear c77b1
         try clear c90
         try clear c95
         try clear c95b0
         try clear c95b1
         try clear c95b2
         try clear hcz27_0
         try clear hcz27_1
         try clear hcz93_0
         try clear hcz93_1
         try clear hfz27_0
         try clear hfz27_1
         try clear hfz93_0
         try clear hfz93_1
         try clear p2
         try clear p6
         try clear p64
         obtain ⟨kq, x103_91, rfl, HA, HJ91, HO_7, HO_14, HO_18, BK691, HB⟩ := hcut
         cases kq with
         | zero => exact absurd HA.out (by simp [tickinglaw02_ShuntOnce.j2])
         | succ kj91 =>
          have H := HA.out
          clear HA
          simp only [tickinglaw02_ShuntOnce.j2] at H
          by_cases c101 : x103_91 = true
          ·subst c101
           have H1 : (some false) = some r := by rw [if_pos rfl] at H; exact H
           clear H
           have H := H1
           clear H1
           obtain rfl := Option.some.inj H
           go_wp2
           go_ret
           exact ⟨by first | rfl | (simp [errW_none, errW_some] <;> rfl) | (simp [*, errW_none, errW_some] <;> rfl), by repeat (first | (with_reducible first | exact HB.out | apply below_alloc | apply pw_below_drewN | apply below_drew1 | refine below_set ?_ GE691.out) | exact HB.out)⟩
          ·replace c101 := Bool.eq_false_iff.mpr c101
           subst c101
           have H1 : (if (t709.length : Int) > 0 then ((tickinglaw02_awake.f kj91).bind fun t730 => (some t730)) else ((shunt_CheckStacks.f kj91 t692 t726 ([] : List Int)).bind fun t731 => (if t731 = 10 then ((tickinglaw02_awake.f kj91).bind fun t732 => (some t732)) else (some false)))) = some r := by rw [if_neg (show ¬ (false = true) by decide)] at H; exact H
           clear H
           have H := H1
           clear H1
           by_cases c102 : (t709.length : Int) > 0
           ·rw [if_pos c102] at H
            have c102b0 : decide (0 < (t709.length : Int)) = true := decide_eq_true c102
            have c102b1 : decide (0 < t709.length) = true := decide_eq_true (by omega)
            clear c102
            replace H := Option.bind_eq_some_iff.mp H
            obtain ⟨t730, A1030, H⟩ := H
            replace H : (some t730) = some r := H
            have A103 := Aside0.mk A1030
            clear A1030
            obtain rfl := Option.some.inj H
            obtain ⟨Ao104, co104, eo104⟩ := Kd.R_slice HO_14.out
            subst eo104
            go_wp2_with (first | (go_at_call 22; (with_reducible refine (tickinglaw02_awake.calls kj91  t730 _ A103.out).mono ?_); rintro e w105 ⟨rfl, hb⟩; have n0_ := Aside0.mk (Kd.R_below (by (with_reducible repeat (first | apply Kd.R_alloc | apply Kd.R_drewN | apply Kd.R_drew)); exact HO_7.out) hb); have n1_ := Aside0.mk (Kd.R_below (by (with_reducible repeat (first | apply Kd.R_alloc | apply Kd.R_drewN | apply Kd.R_drew)); exact HO_14.out) hb); have n2_ := Aside0.mk (Kd.R_below (by (with_reducible repeat (first | apply Kd.R_alloc | apply Kd.R_drewN | apply Kd.R_drew)); exact HO_18.out) hb); have n3_ := Aside0.mk (blk_below (g := gb691) (o := .cells #[.slice A2_0 l2_0.length c2_0, .slice A2_1 l2_1.length c2_1] 43 (0, 0)) (by (with_reducible repeat (first | refine blk_drewN ?_ _ | refine blk_drew ?_ | refine blk_alloc ?_ _)); exact BK691.out) hb); have n4_ := Aside0.mk (below_step (by repeat (first | (with_reducible first | exact HB.out | apply below_alloc | apply pw_below_drewN | apply below_drew1 | refine below_set ?_ GE691.out) | exact HB.out)) hb); clear HO_7; clear HO_14; clear HO_18; clear BK691; clear HB; have HO_7 := n0_; have HO_14 := n1_; have HO_18 := n2_; have BK691 := n3_; have HB := n4_; clear n0_ n1_ n2_ n3_ n4_; (try clear hb); (try clear hb2); (try clear hk); (try clear hi)))
            go_ret
            exact ⟨by first | rfl | (simp [errW_none, errW_some] <;> rfl) | (simp [*, errW_none, errW_some] <;> rfl), by repeat (first | (with_reducible first | exact HB.out | apply below_alloc | apply pw_below_drewN | apply below_drew1 | refine below_set ?_ GE691.out) | exact HB.out)⟩
           ·rw [if_neg c102] at H
            have c102b0 : decide (0 < (t709.length : Int)) = false := decide_eq_false c102
            have c102b1 : decide (0 < t709.length) = false := decide_eq_false (by omega)
            clear c102
            replace H := Option.bind_eq_some_iff.mp H
            obtain ⟨t731, A1060, H⟩ := H
            replace H : (if t731 = 10 then ((tickinglaw02_awake.f kj91).bind fun t732 => (some t732)) else (some false)) = some r := H
            have A106 := Aside0.mk A1060
            clear A1060
            by_cases c107 : t731 = 10
            ·rw [if_pos c107] at H
             have c107b0 : (t731 == 10) = true := beq_iff_eq.mpr c107
             have c107b1 : (t731 != 10) = false := bne_eq_false_iff_eq.mpr c107
             clear c107
             replace H := Option.bind_eq_some_iff.mp H
             obtain ⟨t732, A1080, H⟩ := H
             replace H : (some t732) = some r := H
             have A108 := Aside0.mk A1080
             clear A1080
             obtain rfl := Option.some.inj H
             obtain ⟨Ao109, co109, eo109⟩ := Kd.R_slice HO_14.out
             subst eo109
             obtain ⟨Ao110, co110, eo110⟩ := Kd.R_slice HO_18.out
             subst eo110
             go_wp2_with (first | (go_at_call 45; (refine (shunt_CheckStacks.calls kj91 _ _ t692 _ _ t726 _ _ ([] : List Int) t731 _ ?side1 ?side2 ?side3 ?side4 ?side5 ?side6 A106.out).mono ?_); (case side1 => repeat (first | exact (Kd.R_reads' HO_7.out).2.2 | (with_reducible refine Kd.C_alloc ?_ _) | (with_reducible refine Kd.C_drewN ?_ _) | (with_reducible refine Kd.C_drew ?_))); (case side2 => exact (Kd.R_reads' HO_7.out).2.1); (case side3 => repeat (first | exact (Kd.R_reads' HO_18.out).2.2 | (with_reducible refine Kd.C_alloc ?_ _) | (with_reducible refine Kd.C_drewN ?_ _) | (with_reducible refine Kd.C_drew ?_))); (case side4 => exact (Kd.R_reads' HO_18.out).2.1); (case side5 => exact Kd.C_nil _ _); (case side6 => exact Nat.le_refl _); rintro e w111 ⟨rfl, hb⟩; have n0_ := Aside0.mk (Kd.R_below (by (with_reducible repeat (first | apply Kd.R_alloc | apply Kd.R_drewN | apply Kd.R_drew)); exact HO_7.out) hb); have n1_ := Aside0.mk (Kd.R_below (by (with_reducible repeat (first | apply Kd.R_alloc | apply Kd.R_drewN | apply Kd.R_drew)); exact HO_14.out) hb); have n2_ := Aside0.mk (Kd.R_below (by (with_reducible repeat (first | apply Kd.R_alloc | apply Kd.R_drewN | apply Kd.R_drew)); exact HO_18.out) hb); have n3_ := Aside0.mk (blk_below (g := gb691) (o := .cells #[.slice A2_0 l2_0.length c2_0, .slice A2_1 l2_1.length c2_1] 43 (0, 0)) (by (with_reducible repeat (first | refine blk_drewN ?_ _ | refine blk_drew ?_ | refine blk_alloc ?_ _)); exact BK691.out) hb); have n4_ := Aside0.mk (below_step (by repeat (first | (with_reducible first | exact HB.out | apply below_alloc | apply pw_below_drewN | apply below_drew1 | refine below_set ?_ GE691.out) | exact HB.out)) hb); clear HO_7; clear HO_14; clear HO_18; clear BK691; clear HB; have HO_7 := n0_; have HO_14 := n1_; have HO_18 := n2_; have BK691 := n3_; have HB := n4_; clear n0_ n1_ n2_ n3_ n4_; (try clear hb); (try clear hb2); (try clear hk); (try clear hi)) | (go_at_call 22; (with_reducible refine (tickinglaw02_awake.calls kj91  t732 _ A108.out).mono ?_); rintro e w112 ⟨rfl, hb⟩; have n0_ := Aside0.mk (Kd.R_below (by (with_reducible repeat (first | apply Kd.R_alloc | apply Kd.R_drewN | apply Kd.R_drew)); exact HO_7.out) hb); have n1_ := Aside0.mk (Kd.R_below (by (with_reducible repeat (first | apply Kd.R_alloc | apply Kd.R_drewN | apply Kd.R_drew)); exact HO_14.out) hb); have n2_ := Aside0.mk (Kd.R_below (by (with_reducible repeat (first | apply Kd.R_alloc | apply Kd.R_drewN | apply Kd.R_drew)); exact HO_18.out) hb); have n3_ := Aside0.mk (blk_below (g := gb691) (o := .cells #[.slice A2_0 l2_0.length c2_0, .slice A2_1 l2_1.length c2_1] 43 (0, 0)) (by (with_reducible repeat (first | refine blk_drewN ?_ _ | refine blk_drew ?_ | refine blk_alloc ?_ _)); exact BK691.out) hb); have n4_ := Aside0.mk (below_step (by repeat (first | (with_reducible first | exact HB.out | apply below_alloc | apply pw_below_drewN | apply below_drew1 | refine below_set ?_ GE691.out) | exact HB.out)) hb); clear HO_7; clear HO_14; clear HO_18; clear BK691; clear HB; have HO_7 := n0_; have HO_14 := n1_; have HO_18 := n2_; have BK691 := n3_; have HB := n4_; clear n0_ n1_ n2_ n3_ n4_; (try clear hb); (try clear hb2); (try clear hk); (try clear hi)))
             go_ret
             exact ⟨by first | rfl | (simp [errW_none, errW_some] <;> rfl) | (simp [*, errW_none, errW_some] <;> rfl), by repeat (first | (with_reducible first | exact HB.out | apply below_alloc | apply pw_below_drewN | apply below_drew1 | refine below_set ?_ GE691.out) | exact HB.out)⟩
            ·rw [if_neg c107] at H
             have c107b0 : (t731 == 10) = false := beq_eq_false_iff_ne.mpr c107
             have c107b1 : (t731 != 10) = true := bne_iff_ne.mpr c107
             obtain rfl := Option.some.inj H
             obtain ⟨Ao113, co113, eo113⟩ := Kd.R_slice HO_14.out
             subst eo113
             obtain ⟨Ao114, co114, eo114⟩ := Kd.R_slice HO_18.out
             subst eo114
             go_wp2_with (first | (go_at_call 45; (refine (shunt_CheckStacks.calls kj91 _ _ t692 _ _ t726 _ _ ([] : List Int) t731 _ ?side1 ?side2 ?side3 ?side4 ?side5 ?side6 A106.out).mono ?_); (case side1 => repeat (first | exact (Kd.R_reads' HO_7.out).2.2 | (with_reducible refine Kd.C_alloc ?_ _) | (with_reducible refine Kd.C_drewN ?_ _) | (with_reducible refine Kd.C_drew ?_))); (case side2 => exact (Kd.R_reads' HO_7.out).2.1); (case side3 => repeat (first | exact (Kd.R_reads' HO_18.out).2.2 | (with_reducible refine Kd.C_alloc ?_ _) | (with_reducible refine Kd.C_drewN ?_ _) | (with_reducible refine Kd.C_drew ?_))); (case side4 => exact (Kd.R_reads' HO_18.out).2.1); (case side5 => exact Kd.C_nil _ _); (case side6 => exact Nat.le_refl _); rintro e w115 ⟨rfl, hb⟩; have n0_ := Aside0.mk (Kd.R_below (by (with_reducible repeat (first | apply Kd.R_alloc | apply Kd.R_drewN | apply Kd.R_drew)); exact HO_7.out) hb); have n1_ := Aside0.mk (Kd.R_below (by (with_reducible repeat (first | apply Kd.R_alloc | apply Kd.R_drewN | apply Kd.R_drew)); exact HO_14.out) hb); have n2_ := Aside0.mk (Kd.R_below (by (with_reducible repeat (first | apply Kd.R_alloc | apply Kd.R_drewN | apply Kd.R_drew)); exact HO_18.out) hb); have n3_ := Aside0.mk (blk_below (g := gb691) (o := .cells #[.slice A2_0 l2_0.length c2_0, .slice A2_1 l2_1.length c2_1] 43 (0, 0)) (by (with_reducible repeat (first | refine blk_drewN ?_ _ | refine blk_drew ?_ | refine blk_alloc ?_ _)); exact BK691.out) hb); have n4_ := Aside0.mk (below_step (by repeat (first | (with_reducible first | exact HB.out | apply below_alloc | apply pw_below_drewN | apply below_drew1 | refine below_set ?_ GE691.out) | exact HB.out)) hb); clear HO_7; clear HO_14; clear HO_18; clear BK691; clear HB; have HO_7 := n0_; have HO_14 := n1_; have HO_18 := n2_; have BK691 := n3_; have HB := n4_; clear n0_ n1_ n2_ n3_ n4_; (try clear hb); (try clear hb2); (try clear hk); (try clear hi)))
             go_ret
             exact ⟨by first | rfl | (simp [errW_none, errW_some] <;> rfl) | (simp [*, errW_none, errW_some] <;> rfl), by repeat (first | (with_reducible first | exact HB.out | apply below_alloc | apply pw_below_drewN | apply below_drew1 | refine below_set ?_ GE691.out) | exact HB.out)⟩
end Go.Proofs.Ytjbjongahnocdaa.S

namespace Go.Proofs.Ytjbjongahnocdaa.P
open Go.RowKit Go.Proofs.YtjbjongahnocdaaW.PrintWords

theorem w64 {x : Int} (h0 : -9223372036854775808 ≤ x) (h1 : x ≤ 9223372036854775807) : wrap64 x = x := by
 unfold wrap64
 omega
theorem rd_nat (l : List Int) (i : Nat) : rd l (i : Int) = l.getD i 0 := by
 unfold rd
 rw [show ((i : Int)).toNat = i by omega]
theorem rd_lt (l : List Int) (i : Nat) (h : i < l.length) : rd l (i : Int) = l[i] := by
 rw [rd_nat, List.getD_eq_getElem?_getD, List.getElem?_eq_getElem h, Option.getD_some]
theorem rd_mem {l : List Int} {x : Int} (h0 : 0 ≤ x) (h1 : x < l.length) : rd l x ∈ l := by
 obtain ⟨n, rfl⟩ := Int.eq_ofNat_of_zero_le h0
 rw [rd_lt l n (by omega)]
 exact List.getElem_mem _
theorem drop_cons (l : List Int) (i : Nat) (h : i < l.length) : l.drop i = rd l (i : Int) :: l.drop (i + 1) := by
 rw [rd_lt l i h, List.drop_eq_getElem_cons h]
theorem nodup_len : ∀ (n : Nat) (l : List Int) (lo : Int), l.Nodup → (∀ a ∈ l, lo < a ∧ a ≤ lo + n) → l.length ≤ n
 | 0, l, lo, _, h => by
  cases l with
  | nil => simp
  | cons a t => have := h a (by simp); omega
 | n + 1, l, lo, hd, h => by
  have h1 := nodup_len n (l.erase (lo + 1)) (lo + 1) (hd.erase _) (fun a ha => by
   have hm := List.mem_of_mem_erase ha
   have hne : a ≠ lo + 1 := fun e => by
    subst e
    exact (List.Nodup.not_mem_erase hd) ha
   have := h a hm
   omega)
  have h2 : l.length ≤ (l.erase (lo + 1)).length + 1 := by
   rw [List.length_erase]
   split <;> omega
  omega
theorem full_range (n : Nat) (l : List Int) (lo : Int) (hd : l.Nodup) (h : ∀ a ∈ l, lo < a ∧ a ≤ lo + n) (hl : l.length = n) (v : Int) (h0 : lo < v) (h1 : v ≤ lo + n) : v ∈ l := by
 by_cases hv : v ∈ l
 ·exact hv
 ·have := nodup_len n (v :: l) lo (List.nodup_cons.2 ⟨hv, hd⟩) (fun a ha => by
   rcases List.mem_cons.1 ha with rfl | ha
   ·exact ⟨h0, h1⟩
   ·exact h a ha)
  rw [List.length_cons] at this
  omega
end Go.Proofs.Ytjbjongahnocdaa.P

namespace Go.Proofs.Ytjbjongahnocdaa.P
open Go.RowKit Go.Proofs.Ytjbjongahnocdaa.S Go.Proofs.Ytjbjongahnocdaa.Defs Go.Proofs.YtjbjongahnocdaaW.PrintWords

/-- An order: different numbers from 1 to its length. -/
def IsOrd (l : List Int) : Prop := l.Nodup ∧ ∀ x ∈ l, 1 ≤ x ∧ x ≤ l.length
instance (l : List Int) : Decidable (IsOrd l) := by unfold IsOrd; infer_instance
theorem isOrderGo_iff (n : Nat) : ∀ (l seen : List Int), isOrderGo n l seen = true ↔ (l.Nodup ∧ (∀ x ∈ l, 1 ≤ x ∧ x ≤ n) ∧ ∀ x ∈ l, x ∉ seen)
 | [], seen => by simp [isOrderGo]
 | x :: xs, seen => by
  unfold isOrderGo
  by_cases h : 1 ≤ x ∧ x ≤ n ∧ x ∉ seen
  ·rw [if_pos h, isOrderGo_iff n xs (x :: seen)]
   simp only [List.nodup_cons, List.mem_cons]
   constructor
   ·rintro ⟨h1, h2, h3⟩
    refine ⟨⟨fun hm => (h3 x hm) (.inl rfl), h1⟩, fun y hy => ?_, fun y hy hs => ?_⟩
    ·rcases hy with rfl | hy
     ·exact ⟨h.1, h.2.1⟩
     ·exact h2 y hy
    ·rcases hy with rfl | hy
     ·exact h.2.2 hs
     ·exact h3 y hy (.inr hs)
   ·rintro ⟨⟨h1, h2⟩, h4, h6⟩
    exact ⟨h2, fun y hy => h4 y (.inr hy), fun y hy hs => hs.elim (fun e => h1 (e ▸ hy)) (h6 y (.inr hy))⟩
  ·rw [if_neg h]
   constructor
   ·intro h; cases h
   ·rintro ⟨_, h3, h5⟩
    exact absurd ⟨(h3 x (by simp)).1, (h3 x (by simp)).2, h5 x (by simp)⟩ h
theorem isOrderB_iff (l : List Int) : isOrderB l = true ↔ l.length ≤ 60 ∧ IsOrd l := by
 unfold isOrderB IsOrd
 rw [Bool.and_eq_true, decide_eq_true_eq, isOrderGo_iff]
 simp
/-- Ascending: each item is greater than the one before it. -/
def Asc (l : List Int) : Prop := l.Pairwise (· < ·)
instance (l : List Int) : Decidable (Asc l) := by unfold Asc; infer_instance
theorem awake_ev : Ev (fun k => tickinglaw02_awake.f k) true := Ev.of (fun k => tickinglaw02_awake.mono k) (k := 40) (by kernel_rfl)
end Go.Proofs.Ytjbjongahnocdaa.P

namespace Go.Proofs.Ytjbjongahnocdaa.P
open Go.RowKit Go.Proofs.Ytjbjongahnocdaa.S Go.Proofs.Ytjbjongahnocdaa.Defs Go.Proofs.YtjbjongahnocdaaW.PrintWords Go.Proofs.YtjbjongahnocdaaW.PrintLast Go.Proofs.YtjbjongahnocdaaW.PrintMore

def qAt (out : List (Int × Int)) (j : Nat) : Int := (out.getD j (0, 0)).1
def bfAt (out : List (Int × Int)) (j : Nat) : Int := (out.getD j (0, 0)).2
theorem getD_old {α : Type} (out : List α) (p d : α) (j : Nat) (h : j < out.length) : (out ++ [p]).getD j d = out.getD j d := by
 simp [List.getElem?_append, h]
theorem getD_new {α : Type} (out : List α) (p d : α) : (out ++ [p]).getD out.length d = p := by
 simp
/-- What holds of the queues when i items have been placed. -/
structure Inv (l : List Int) (i : Nat) (last : List Int) (out : List (Int × Int)) : Prop where
 len : out.length = i
 le : i ≤ l.length
 qr : ∀ j, j < i → 0 ≤ qAt out j ∧ qAt out j < last.length
 lr : ∀ c : Nat, c < last.length → ∃ p : Nat, last.getD c 0 = (p : Int) ∧ p < i ∧ qAt out p = (c : Int)
 top : ∀ j c p : Nat, j < i → c < last.length → qAt out j = (c : Int) → last.getD c 0 = (p : Int) → rd l j ≤ rd l p
 inc : ∀ j j' : Nat, j < j' → j' < i → qAt out j = qAt out j' → rd l j < rd l j'
 ch : ∀ j : Nat, j < i → 0 < qAt out j → ∃ b : Nat, bfAt out j = (b : Int) ∧ b < j ∧ qAt out b = qAt out j - 1 ∧ rd l j < rd l b
 no : ∀ j, j < i → qAt out j = 0 → bfAt out j = -1
theorem rd_inj {l : List Int} (h : l.Nodup) {i j : Nat} (hi : i < l.length) (hj : j < l.length) (e : rd l i = rd l j) : i = j := by
 rw [rd_lt l i hi, rd_lt l j hj] at e
 have hp := List.pairwise_iff_getElem.1 h
 rcases Nat.lt_trichotomy i j with c | c | c
 ·exact absurd e (hp i j hi hj c)
 ·exact c
 ·exact absurd e.symm (hp j i hj hi c)
theorem inv_step (l : List Int) (hd : l.Nodup) (i : Nat) (hi : i < l.length) (last : List Int) (out : List (Int × Int)) (h : Inv l i last out) :
  Inv l (i + 1) ((lastFor l last (rd l i) i).set (placeQ l last (rd l i)) i) (out ++ [((placeQ l last (rd l i) : Int), beforeOf (lastFor l last (rd l i) i) (placeQ l last (rd l i)))]) := by
 obtain ⟨c0, hc0⟩ : ∃ c0, c0 = placeQ l last (rd l i) := ⟨_, rfl⟩
 have hle : c0 ≤ last.length := by rw [hc0]; exact List.findIdx_le_length
 have hlt : c0 < last.length → rd l (last.getD c0 0) < rd l i := by
  intro c
  have := List.findIdx_getElem (p := fun k : Int => decide (l.getD k.toNat 0 < rd l i)) (xs := last) (w := by rw [hc0] at c; exact c)
  rw [decide_eq_true_eq] at this
  have e : last.getD c0 0 = last[c0] := by simp [c]
  rw [e]
  subst hc0
  exact this
 have hge : ∀ c, c < c0 → ¬ rd l (last.getD c 0) < rd l i := by
  intro c hc
  have hcl : c < last.length := by omega
  have := List.not_of_lt_findIdx (p := fun k : Int => decide (l.getD k.toNat 0 < rd l i)) (xs := last) (i := c) (by rw [hc0] at hc; exact hc)
  rw [Bool.eq_false_iff, ne_eq, decide_eq_true_eq] at this
  have e : last.getD c 0 = last[c] := by simp [hcl]
  rw [e]
  exact this
 obtain ⟨L, hL⟩ : ∃ L, L = (lastFor l last (rd l i) i).set (placeQ l last (rd l i)) i := ⟨_, rfl⟩
 obtain ⟨b, hb⟩ : ∃ b, b = beforeOf (lastFor l last (rd l i) i) (placeQ l last (rd l i)) := ⟨_, rfl⟩
 have hLf : lastFor l last (rd l i) i = if c0 < last.length then last else last ++ [(i : Int)] := by rw [hc0]; rfl
 have hLl : L.length = if c0 < last.length then last.length else last.length + 1 := by
  rw [hL, List.length_set, hLf]
  split <;> simp
 have hLc : L.getD c0 0 = (i : Int) := by
  have : c0 < (lastFor l last (rd l i) i).length := by
   rw [hLf]; split
   ·assumption
   ·simp; omega
  rw [hL, ← hc0]
  simp [this]
 have hLo : ∀ c, c ≠ c0 → c < L.length → c < last.length ∧ L.getD c 0 = last.getD c 0 := by
  intro c hc hcl
  rw [hLl] at hcl
  have hcl' : c < last.length := by
   split at hcl
   ·exact hcl
   ·omega
  refine ⟨hcl', ?_⟩
  rw [hL, ← hc0, hLf]
  simp only [List.getD_eq_getElem?_getD, List.getElem?_set]
  rw [if_neg (by omega)]
  split
  ·rfl
  ·rw [List.getElem?_append_left hcl']
 have hbz : c0 = 0 → b = -1 := by
  intro e
  rw [hb, ← hc0]
  unfold beforeOf
  rw [if_pos e]
 have hbp : 0 < c0 → b = last.getD (c0 - 1) 0 := by
  intro e
  rw [hb, ← hc0]
  unfold beforeOf
  rw [if_neg (by omega), hLf]
  split
  ·rfl
  ·rw [getD_old _ _ _ _ (by omega)]
 rw [← hL, ← hb, ← hc0]
 clear hL hb hLf hc0
 have hlen := h.len
 have qo : ∀ j, j < i → qAt (out ++ [((c0 : Int), b)]) j = qAt out j := fun j hj => by unfold qAt; rw [getD_old _ _ _ _ (by omega)]
 have bo : ∀ j, j < i → bfAt (out ++ [((c0 : Int), b)]) j = bfAt out j := fun j hj => by unfold bfAt; rw [getD_old _ _ _ _ (by omega)]
 have qn : qAt (out ++ [((c0 : Int), b)]) i = c0 := by unfold qAt; rw [← hlen, getD_new]
 have bn : bfAt (out ++ [((c0 : Int), b)]) i = b := by unfold bfAt; rw [← hlen, getD_new]
 have hcL : c0 < L.length := by rw [hLl]; split <;> omega
 have hLL : last.length ≤ L.length := by rw [hLl]; split <;> omega
 refine ⟨by simp [hlen], hi, ?_, ?_, ?_, ?_, ?_, ?_⟩
 ·intro j hj
  by_cases e : j = i
  ·subst e; rw [qn]; omega
  ·rw [qo j (by omega)]
   have := h.qr j (by omega)
   omega
 ·intro c hc
  by_cases e : c = c0
  ·subst e; exact ⟨i, hLc, by omega, qn⟩
  ·obtain ⟨h1, h2⟩ := hLo c e hc
   obtain ⟨p, p1, p2, p3⟩ := h.lr c h1
   exact ⟨p, by rw [h2, p1], by omega, by rw [qo p p2, p3]⟩
 ·intro j c p hj hc hq hp
  by_cases e : c = c0
  ·subst e
   rw [hLc] at hp
   obtain rfl : i = p := by omega
   by_cases e : j = i
   ·subst e; exact Int.le_refl _
   ·rw [qo j (by omega)] at hq
    have r := (h.qr j (by omega)).2
    have hcl : c < last.length := by omega
    obtain ⟨p, p1, p2, p3⟩ := h.lr c hcl
    have t := h.top j c p (by omega) hcl hq p1
    have := hlt hcl
    rw [p1] at this
    omega
  ·obtain ⟨h1, h2⟩ := hLo c e hc
   rw [h2] at hp
   have hji : j ≠ i := by
    intro e'
    subst e'
    rw [qn] at hq
    omega
   rw [qo j (by omega)] at hq
   exact h.top j c p (by omega) h1 hq hp
 ·intro j j' hj hj' hq
  by_cases e : j' = i
  ·subst e
   rw [qn, qo j hj] at hq
   have r := (h.qr j hj).2
   have hcl : c0 < last.length := by omega
   obtain ⟨p, p1, p2, p3⟩ := h.lr c0 hcl
   have t := h.top j c0 p hj hcl hq p1
   have := hlt hcl
   rw [p1] at this
   omega
  ·rw [qo j (by omega), qo j' (by omega)] at hq
   exact h.inc j j' hj (by omega) hq
 ·intro j hj hq
  by_cases e : j = i
  ·subst e
   rw [qn] at hq
   have hcl : c0 - 1 < last.length := by omega
   obtain ⟨p, p1, p2, p3⟩ := h.lr (c0 - 1) hcl
   have n := hge (c0 - 1) (by omega)
   rw [p1] at n
   have ne : rd l p ≠ rd l j := fun e => by
    have := rd_inj hd (by omega) hi e
    omega
   refine ⟨p, by rw [bn, hbp (by omega), p1], p2, ?_, by omega⟩
   rw [qo p p2, qn, p3]
   omega
  ·rw [qo j (by omega)] at hq ⊢
   obtain ⟨b', b1, b2, b3, b4⟩ := h.ch j (by omega) hq
   exact ⟨b', by rw [bo j (by omega), b1], b2, by rw [qo b' (by omega), b3], b4⟩
 ·intro j hj hq
  by_cases e : j = i
  ·subst e
   rw [qn] at hq
   rw [bn, hbz (by omega)]
  ·rw [qo j (by omega)] at hq
   rw [bo j (by omega)]
   exact h.no j (by omega) hq
theorem placesGo_inv (l : List Int) (hd : l.Nodup) (d : Nat) : ∀ (i : Nat) (last : List Int) (out : List (Int × Int)), i + d = l.length → Inv l i last out → ∃ last', Inv l l.length last' (placesGo l (l.drop i) (i : Int) last out) := by
 induction d with
 | zero =>
  intro i last out h hv
  obtain rfl : i = l.length := by omega
  rw [List.drop_length]
  exact ⟨last, hv⟩
 | succ d ih =>
  intro i last out h hv
  rw [drop_cons l i (by omega)]
  exact ih (i + 1) _ _ (by omega) (inv_step l hd i (by omega) last out hv)
theorem places_inv (l : List Int) (hd : l.Nodup) : ∃ last, Inv l l.length last (placesB l) :=
 placesGo_inv l hd l.length 0 [] [] (by omega) ⟨rfl, Nat.zero_le _, fun _ h => by omega, fun _ h => absurd h (Nat.not_lt_zero _), fun _ _ _ h => by omega, fun _ _ _ h => by omega, fun _ h => by omega, fun _ h => by omega⟩
/-- Positions of descending items. -/
def Desc (l : List Int) (ps : List Nat) : Prop := ps.Pairwise (fun a b : Nat => a < b ∧ rd l (b : Int) < rd l (a : Int)) ∧ ∀ p ∈ ps, p < l.length
def LeastIs (l : List Int) (r : Int) : Prop := 1 ≤ r ∧ (∀ ps, Desc l ps → (ps.length : Int) ≤ r) ∧ (r = 1 ∨ ∃ ps, Desc l ps ∧ (ps.length : Int) = r)
theorem chain_at {l : List Int} {i : Nat} {last : List Int} {out : List (Int × Int)} (h : Inv l i last out) : ∀ (c j : Nat), j < i → qAt out j = (c : Int) → ∃ ps, Desc l (ps ++ [j]) ∧ ps.length = c := by
 intro c
 induction c with
 | zero =>
  intro j hj _
  have := h.le
  exact ⟨[], ⟨by simp, by simp; omega⟩, rfl⟩
 | succ c ih =>
  intro j hj hq
  obtain ⟨b, _, b2, b3, b4⟩ := h.ch j hj (by omega)
  obtain ⟨ps, ⟨p1, p2⟩, p3⟩ := ih b (by omega) (by omega)
  have := h.le
  refine ⟨ps ++ [b], ⟨?_, ?_⟩, by simp [p3]⟩
  ·rw [List.pairwise_append]
   refine ⟨p1, by simp, ?_⟩
   intro a ha x hx
   rw [List.mem_singleton] at hx
   subst hx
   rw [List.pairwise_append] at p1
   rcases List.mem_append.1 ha with ha | ha
   ·have := p1.2.2 a ha b (by simp)
    omega
   ·rw [List.mem_singleton] at ha
    subst ha
    omega
  ·intro p hp
   rcases List.mem_append.1 hp with hp | hp
   ·exact p2 p hp
   ·rw [List.mem_singleton] at hp
    omega
theorem desc_nodup {l : List Int} {last : List Int} {out : List (Int × Int)} (h : Inv l l.length last out) {ps : List Nat} (hp : Desc l ps) : (ps.map (qAt out)).Nodup := by
 unfold List.Nodup
 rw [List.pairwise_map]
 refine List.Pairwise.imp_of_mem ?_ hp.1
 intro a b ha hb hab e
 have := h.inc a b hab.1 (hp.2 b hb) e
 omega
theorem least_loop (out : List (Int × Int)) (hl : out.length ≤ 60) (hq : ∀ j, j < out.length → 0 ≤ qAt out j ∧ qAt out j < 60) (d : Nat) : ∀ (i : Nat) (m : Int), i + d = out.length → 1 ≤ m → m ≤ 60 → (∀ j, j < i → qAt out j + 1 ≤ m) → (m = 1 ∨ ∃ j, j < i ∧ m = qAt out j + 1) →
  ∃ r, Ev (fun k => shunt_least.l0 k m (out.map plPlace) (out.length : Int) (i : Int)) r ∧ 1 ≤ r ∧ (∀ j, j < out.length → qAt out j + 1 ≤ r) ∧ (r = 1 ∨ ∃ j, j < out.length ∧ r = qAt out j + 1) := by
 induction d with
 | zero =>
  intro i m h h1 _ h2 h3
  obtain rfl : i = out.length := by omega
  refine ⟨m, Ev.step (f := fun _ => some m) (fun k => ?_) (Ev.now _), h1, h2, h3⟩
  simp only [shunt_least.l0]
  rw [if_neg (by omega)]
 | succ d ih =>
  intro i m h h1 hm h2 h3
  have hr := hq i (by omega)
  have w : wrap64 ((i : Int) + 1) = ((i + 1 : Nat) : Int) := by rw [w64 (by omega) (by omega)]; rfl
  have e : (rd_T82 (out.map plPlace) (i : Int)).f0 = qAt out i := by
   have hi : i < out.length := by omega
   unfold rd_T82 qAt
   simp [plPlace, hi]
  have w2 : wrap64 (qAt out i + 1) = qAt out i + 1 := w64 (by omega) (by omega)
  have step : ∀ r, Ev (fun k => shunt_least.l0 k (mx m (qAt out i + 1)) (out.map plPlace) (out.length : Int) ((i + 1 : Nat) : Int)) r → Ev (fun k => shunt_least.l0 k m (out.map plPlace) (out.length : Int) (i : Int)) r := by
   intro r hr
   refine Ev.step (fun k => ?_) hr
   simp only [shunt_least.l0]
   rw [if_pos (by omega), if_pos (by omega), if_pos (by rw [List.length_map]; omega), e, w2, w]
  by_cases c : m < qAt out i + 1
  ·have em : mx m (qAt out i + 1) = qAt out i + 1 := by unfold mx; rw [if_pos c]
   rw [em] at step
   obtain ⟨r, r1, r2⟩ := ih (i + 1) (qAt out i + 1) (by omega) (by omega) (by omega) (fun j hj => by
    by_cases e : j = i
    ·subst e; omega
    ·have := h2 j (by omega); omega) (.inr ⟨i, by omega, rfl⟩)
   exact ⟨r, step r r1, r2⟩
  ·have em : mx m (qAt out i + 1) = m := by unfold mx; rw [if_neg c]
   rw [em] at step
   obtain ⟨r, r1, r2⟩ := ih (i + 1) m (by omega) (by omega) (by omega) (fun j hj => by
    by_cases e : j = i
    ·subst e; omega
    ·exact h2 j (by omega)) (by
     rcases h3 with h3 | ⟨j, j1, j2⟩
     ·exact .inl h3
     ·exact .inr ⟨j, by omega, j2⟩)
   exact ⟨r, step r r1, r2⟩
theorem last_le {l : List Int} {last : List Int} {out : List (Int × Int)} {i : Nat} (h : Inv l i last out) : last.length ≤ i := by
 have hd : (((List.range last.length).map (fun c => last.getD c 0))).Nodup := by
  unfold List.Nodup
  rw [List.pairwise_map]
  refine List.Pairwise.imp_of_mem ?_ List.pairwise_lt_range
  intro a b ha hb hab e
  rw [List.mem_range] at ha hb
  obtain ⟨p, p1, _, p3⟩ := h.lr a ha
  obtain ⟨q, q1, _, q3⟩ := h.lr b hb
  have : p = q := by omega
  subst this
  omega
 have := nodup_len i _ (-1) hd (fun a ha => by
  obtain ⟨c, c1, c2⟩ := List.mem_map.1 ha
  rw [List.mem_range] at c1
  obtain ⟨p, p1, p2, _⟩ := h.lr c c1
  omega)
 simpa using this
theorem Least_ev (l : List Int) (h : IsOrd l) (hl : l.length ≤ 60) : ∃ r, Ev (fun k => shunt_Least.f k l) (r, 0) ∧ LeastIs l r := by
 obtain ⟨last, hv⟩ := places_inv l h.1
 have hll := last_le hv
 have hlen := hv.len
 obtain ⟨r, r1, r2, r3, r4⟩ := least_loop (placesB l) (by omega) (fun j hj => by have := hv.qr j (by omega); omega) (placesB l).length 0 1 (by omega) (by omega) (by omega) (fun j hj => by omega) (.inl rfl)
 refine ⟨r, ?_, r2, ?_, ?_⟩
 ·refine Ev.congr (f := fun k => (shunt_least.f k ((placesB l).map plPlace)).bind fun t131 => some (t131, 0)) (fun k => ?_) ?_
  ·unfold shunt_Least.f shunt_isOrder.f
   simp only [Option.bind_some]
   rw [if_pos ((isOrderB_iff l).2 ⟨hl, h⟩)]
   unfold shunt_places.f
   rw [if_pos hl]
   rfl
  ·refine Ev.bind (f := fun _ (t131 : Int) => some (t131, (0 : Int))) ?_ (Ev.now _)
   unfold shunt_least.f
   rw [List.length_map]
   exact r1
 ·intro ps hp
  have := nodup_len r.toNat (ps.map (qAt (placesB l))) (-1) (desc_nodup hv hp) (fun a ha => by
   obtain ⟨p, p1, p2⟩ := List.mem_map.1 ha
   have := hv.qr p (hp.2 p p1)
   have := r3 p (by have := hp.2 p p1; omega)
   omega)
  rw [List.length_map] at this
  omega
 ·rcases r4 with r4 | ⟨j, j1, j2⟩
  ·exact .inl r4
  ·have hq := hv.qr j (by omega)
   obtain ⟨ps, p1, p2⟩ := chain_at hv (qAt (placesB l) j).toNat j (by omega) (by omega)
   exact .inr ⟨_, p1, by rw [List.length_append, p2]; simp; omega⟩
end Go.Proofs.Ytjbjongahnocdaa.P

namespace Go.Proofs.Ytjbjongahnocdaa.P
open Go.RowKit Go.Proofs.Ytjbjongahnocdaa.S Go.Proofs.Ytjbjongahnocdaa.Defs Go.Proofs.YtjbjongahnocdaaW.PrintWords Go.Proofs.YtjbjongahnocdaaW.PrintLast Go.Proofs.YtjbjongahnocdaaW.PrintMore
set_option linter.unusedVariables false

theorem rd_put (R : List Int) (v w x : Int) (hv : 0 ≤ v) (hw : 0 ≤ w) (hl : v < R.length) : rd (R.set v.toNat x) w = if v = w then x else rd R w := by
 unfold rd
 simp only [List.getD_eq_getElem?_getD, List.getElem?_set]
 by_cases c : v = w
 ·subst c
  rw [if_pos rfl, if_pos (by omega), if_pos rfl]
  rfl
 ·rw [if_neg (by omega), if_neg c]
theorem reverse_loop (xs : List Int) (hl : xs.length ≤ 1000) (d : Nat) : ∀ (i : Nat) (R : List Int), 2 * i + d = xs.length → R.length = xs.length →
  (∀ m : Nat, m < xs.length → rd R (m : Int) = if m < i ∨ xs.length - 1 - m < i then rd xs ((xs.length - 1 - m : Nat) : Int) else rd xs (m : Int)) → Ev (fun k => slices_Reverse_int_int.l0 k R (i : Int) ((xs.length : Int) - 1 - i)) xs.reverse := by
 induction d using Nat.strongRecOn with
 | _ d ih =>
  intro i R h hR hv
  by_cases c : 2 ≤ d
  ·obtain ⟨e, rfl⟩ : ∃ e, d = e + 2 := ⟨d - 2, by omega⟩
   have w1 : wrap64 ((i : Int) + 1) = ((i + 1 : Nat) : Int) := by rw [w64 (by omega) (by omega)]; rfl
   have w2 : wrap64 ((xs.length : Int) - 1 - i - 1) = (xs.length : Int) - 1 - ((i + 1 : Nat) : Int) := by rw [w64 (by omega) (by omega)]; omega
   have e3 : (xs.length : Int) - 1 - i = ((xs.length - 1 - i : Nat) : Int) := by omega
   refine Ev.step (fun k => ?_) (ih e (by omega) (i + 1) ((R.set (i : Int).toNat (rd R ((xs.length : Int) - 1 - i))).set ((xs.length : Int) - 1 - i).toNat (rd R (i : Int))) (by omega) (by simp [hR]) (fun m hm => ?_))
   ·simp only [slices_Reverse_int_int.l0]
    rw [if_pos (by omega), if_pos (by omega), if_pos (by omega), if_pos (by omega), if_pos (by omega), w1, w2]
   ·rw [rd_put _ _ _ _ (by omega) (by omega) (by rw [List.length_set]; omega), rd_put _ _ _ _ (by omega) (by omega) (by omega)]
    have hi := hv i (by omega)
    rw [if_neg (by omega)] at hi
    have hj := hv (xs.length - 1 - i) (by omega)
    rw [if_neg (by omega)] at hj
    by_cases c1 : m = xs.length - 1 - i
    ·subst c1
     rw [if_pos e3, if_pos (by omega), hi, show xs.length - 1 - (xs.length - 1 - i) = i by omega]
    ·rw [if_neg (by omega)]
     by_cases c2 : m = i
     ·subst c2
      rw [if_pos rfl, if_pos (by omega), e3, hj]
     ·rw [if_neg (by omega), hv m hm]
      by_cases c3 : m < i ∨ xs.length - 1 - m < i
      ·rw [if_pos c3, if_pos (by omega)]
      ·rw [if_neg c3, if_neg (by omega)]
  ·have hx : R = xs.reverse := by
    apply List.ext_getElem
    ·simp [hR]
    ·intro m h1 h2
     have hm := hv m (by omega)
     rw [rd_lt R m h1] at hm
     rw [hm, List.getElem_reverse]
     by_cases c3 : m < i ∨ xs.length - 1 - m < i
     ·rw [if_pos c3, rd_lt xs _ (by omega)]
     ·rw [if_neg c3, rd_lt xs m (by omega)]
      congr 1
      omega
   rw [hx] at *
   refine Ev.step (f := fun _ => some xs.reverse) (fun k => ?_) (Ev.now _)
   simp only [slices_Reverse_int_int.l0]
   rw [if_neg (by omega)]
theorem reverse_ev (xs : List Int) (hl : xs.length ≤ 1000) : Ev (fun k => slices_Reverse_int_int.f k xs) xs.reverse := by
 have w : wrap64 ((xs.length : Int) - 1) = (xs.length : Int) - 1 - ((0 : Nat) : Int) := by rw [w64 (by omega) (by omega)]; omega
 refine Ev.congr (fun k => ?_) (reverse_loop xs hl xs.length 0 xs (by omega) rfl (fun m hm => by rw [if_neg (by omega)]))
 unfold slices_Reverse_int_int.f
 rw [w]
 rfl

theorem asc_adj (b : List Int) : Asc b ↔ ∀ i : Nat, 0 < i → i < b.length → rd b ((i - 1 : Nat) : Int) < rd b (i : Int) := by
 constructor
 ·intro h i h0 hi
  rw [rd_lt b i hi, rd_lt b (i - 1) (by omega)]
  exact List.pairwise_iff_getElem.1 h (i - 1) i (by omega) hi (by omega)
 ·intro h
  have key : ∀ d i : Nat, i + d + 1 < b.length → rd b (i : Int) < rd b ((i + d + 1 : Nat) : Int) := by
   intro d
   induction d with
   | zero =>
    intro i hi
    exact h (i + 1) (by omega) (by omega)
   | succ d ih =>
    intro i hi
    have a1 := ih i (by omega)
    have a2 := h (i + d + 2) (by omega) (by omega)
    have e : (i + d + 2 - 1 : Nat) = i + d + 1 := by omega
    rw [e] at a2
    have e2 : (i + (d + 1) + 1 : Nat) = i + d + 2 := by omega
    rw [e2]
    omega
  unfold Asc
  rw [List.pairwise_iff_getElem]
  intro i j hi hj hij
  have := key (j - i - 1) i (by omega)
  rw [show i + (j - i - 1) + 1 = j by omega, rd_lt b i hi, rd_lt b j hj] at this
  exact this
/-- Lanes that sort. -/
def LanesP (l : List Int) (k : Int) (lanes : List Int) : Prop :=
 lanes.length = l.length ∧ ∀ m : Nat, m < lanes.length → (0 ≤ rd lanes (m : Int) ∧ rd lanes (m : Int) < k) ∧ ∀ j : Nat, j < m → rd lanes (j : Int) = rd lanes (m : Int) → rd l (j : Int) < rd l (m : Int)
/-- A block for k queues. -/
def QB (l : List Int) (k : Int) (b : List Int) : Prop :=
 (b.length : Int) = k + 1 ∧ ∀ i : Nat, i < b.length → (0 ≤ rd b (i : Int) ∧ rd b (i : Int) < l.length) ∧ (0 < i → rd b ((i - 1 : Nat) : Int) < rd b (i : Int) ∧ rd l (rd b (i : Int)) < rd l (rd b ((i - 1 : Nat) : Int)))
theorem pos_rd {l : List Int} (h : IsOrd l) (p : Nat) (hp : p < l.length) : 1 ≤ rd l (p : Int) ∧ rd l (p : Int) ≤ l.length :=
 h.2 _ (rd_mem (by omega) (by omega))
theorem desc_snoc {l : List Int} {ps : List Nat} {p i : Nat} : Desc l (ps ++ [p] ++ [i]) ↔ Desc l (ps ++ [p]) ∧ p < i ∧ i < l.length ∧ rd l (i : Int) < rd l (p : Int) := by
 unfold Desc
 constructor
 ·rintro ⟨h1, h2⟩
  rw [List.pairwise_append] at h1
  have := h1.2.2 p (by simp) i (by simp)
  exact ⟨⟨h1.1, fun x hx => h2 x (List.mem_append_left _ hx)⟩, this.1, h2 i (by simp), this.2⟩
 ·rintro ⟨⟨h1, h2⟩, h3, h4, h5⟩
  refine ⟨?_, ?_⟩
  ·rw [List.pairwise_append]
   refine ⟨h1, by simp, fun a ha x hx => ?_⟩
   rw [List.mem_singleton] at hx
   subst hx
   rw [List.pairwise_append] at h1
   rcases List.mem_append.1 ha with ha | ha
   ·have := h1.2.2 a ha p (by simp)
    omega
   ·rw [List.mem_singleton] at ha
    subst ha
    exact ⟨h3, h5⟩
  ·intro x hx
   rcases List.mem_append.1 hx with hx | hx
   ·exact h2 x hx
   ·rw [List.mem_singleton] at hx
    omega
theorem plq (out : List (Int × Int)) (i : Nat) (h : i < out.length) : (rd_T82 (out.map plPlace) (i : Int)).f0 = qAt out i := by
 unfold rd_T82 qAt
 simp [plPlace, h]
theorem plb (out : List (Int × Int)) (i : Nat) (h : i < out.length) : (rd_T82 (out.map plPlace) (i : Int)).f1 = bfAt out i := by
 unfold rd_T82 bfAt
 simp [plPlace, h]
/-- Going back over the queues: the positions of a descending choice, the last one first. -/
theorem back_ev {l last : List Int} {out : List (Int × Int)} (hv : Inv l l.length last out) (hl : l.length ≤ 60) (c : Nat) : ∀ (j : Nat) (acc : List Int), j < l.length → qAt out j = (c : Int) → acc.length + c ≤ 100 →
  ∃ ps : List Nat, Desc l (ps ++ [j]) ∧ ps.length = c ∧ Ev (fun k => shunt_Queues.l1 k (out.map plPlace) (j : Int) acc) (([] : List Int), (acc ++ ((ps ++ [j]).map (fun p : Nat => (p : Int))).reverse).reverse, 0) := by
 have hlen := hv.len
 have hend : ∀ acc : List Int, acc.length ≤ 200 → Ev (fun k => shunt_Queues.l1 k (out.map plPlace) (-1) acc) (([] : List Int), acc.reverse, 0) := by
  intro acc ha
  refine Ev.step (f := fun k => (slices_Reverse_int_int.f k acc).bind fun t => some (([] : List Int), t, (0 : Int))) (fun k => ?_) ?_
  ·simp only [shunt_Queues.l1]
   rw [if_neg (by omega)]
  ·exact Ev.bind (f := fun k t => some (([] : List Int), t, (0 : Int))) (reverse_ev acc (by omega)) (Ev.now _)
 induction c with
 | zero =>
  intro j acc hj hq ha
  refine ⟨[], ⟨by simp, by simp; omega⟩, rfl, ?_⟩
  have hb := hv.no j hj (by omega)
  refine Ev.step (fun k => ?_) (hend (acc ++ [(j : Int)]) (by simp; omega))
  simp only [shunt_Queues.l1]
  rw [if_pos (by omega), if_pos (by omega), if_pos (by omega), if_pos (by rw [List.length_map]; omega), plb out j (by omega), hb]
 | succ c ih =>
  intro j acc hj hq ha
  obtain ⟨b, b1, b2, b3, b4⟩ := hv.ch j hj (by omega)
  obtain ⟨ps, p1, p2, p3⟩ := ih b (acc ++ [(j : Int)]) (by omega) (by omega) (by simp; omega)
  refine ⟨ps ++ [b], desc_snoc.2 ⟨p1, b2, hj, b4⟩, by simp [p2], ?_⟩
  have e : acc ++ ((ps ++ [b] ++ [j]).map (fun p : Nat => (p : Int))).reverse = acc ++ [(j : Int)] ++ ((ps ++ [b]).map (fun p : Nat => (p : Int))).reverse := by simp
  rw [e]
  refine Ev.step (fun k => ?_) p3
  simp only [shunt_Queues.l1]
  rw [if_pos (by omega), if_pos (by omega), if_pos (by omega), if_pos (by rw [List.length_map]; omega), plb out j (by omega), b1]
theorem desc_qb {l : List Int} {ps : List Nat} (h : Desc l ps) (k : Int) (hk : (ps.length : Int) = k + 1) : QB l k (ps.map (fun p : Nat => (p : Int))) := by
 have hr : ∀ i : Nat, (hi : i < ps.length) → rd (ps.map (fun p : Nat => (p : Int))) (i : Int) = ((ps[i] : Nat) : Int) := by
  intro i hi
  rw [rd_lt _ i (by simpa using hi)]
  simp
 refine ⟨by rw [List.length_map]; exact hk, fun i hi => ?_⟩
 rw [List.length_map] at hi
 rw [hr i hi]
 have := h.2 ps[i] (List.getElem_mem hi)
 refine ⟨by omega, fun h0 => ?_⟩
 rw [hr (i - 1) (by omega)]
 have := List.pairwise_iff_getElem.1 h.1 (i - 1) i (by omega) hi (by omega)
 exact ⟨by omega, this.2⟩
theorem queues_loop {l last : List Int} {out : List (Int × Int)} (hv : Inv l l.length last out) (hl : l.length ≤ 60) (k : Int) (h0 : 1 ≤ k) (h1 : k ≤ 60) (d : Nat) : ∀ i : Nat, i + d = l.length → (∀ j : Nat, j < i → qAt out j < k) →
  ∃ la b, Ev (fun q => shunt_Queues.l0 q k (out.map plPlace) ((List.range i).map (qAt out)) (out.map plPlace) ((out.map plPlace).length : Int) (i : Int)) (la, b, 0) ∧
   (((∀ j : Nat, j < l.length → qAt out j < k) ∧ la = (List.range l.length).map (qAt out) ∧ b = []) ∨ (la = [] ∧ QB l k b)) := by
 have hlen := hv.len
 have hml : (out.map plPlace).length = l.length := by rw [List.length_map, hlen]
 induction d with
 | zero =>
  intro i h hq
  obtain rfl : i = l.length := by omega
  refine ⟨(List.range l.length).map (qAt out), [], Ev.step (f := fun _ => some ((List.range l.length).map (qAt out), ([] : List Int), (0 : Int))) (fun q => ?_) (Ev.now _), .inl ⟨hq, rfl, rfl⟩⟩
  simp only [shunt_Queues.l0]
  rw [if_neg (by omega)]
 | succ d ih =>
  intro i h hq
  have w : wrap64 ((i : Int) + 1) = ((i + 1 : Nat) : Int) := by rw [w64 (by omega) (by omega)]; rfl
  have hqr := hv.qr i (by omega)
  by_cases c : qAt out i = k
  ·obtain ⟨ps, p1, p2, p3⟩ := back_ev hv hl k.toNat i [] (by omega) (by omega) (by simp; omega)
   refine ⟨_, _, Ev.step (fun q => ?_) p3, .inr ⟨rfl, ?_⟩⟩
   ·simp only [shunt_Queues.l0]
    rw [if_pos (by omega), if_pos (by omega), if_pos (by omega), plq out i (by omega), if_pos c]
   ·rw [List.nil_append, List.reverse_reverse]
    exact desc_qb p1 k (by rw [List.length_append, p2, List.length_singleton]; omega)
  ·have hlt : qAt out i < k := by
    apply Classical.byContradiction
    intro hn
    have hgt : k < qAt out i := by omega
    obtain ⟨b, b1, b2, b3, b4⟩ := hv.ch i (by omega) (by omega)
    have := hq b b2
    omega
   obtain ⟨la, b, s1, s2⟩ := ih (i + 1) (by omega) (fun j hj => by
    by_cases e : j = i
    ·subst e; exact hlt
    ·exact hq j (by omega))
   refine ⟨la, b, Ev.step (fun q => ?_) s1, s2⟩
   simp only [shunt_Queues.l0]
   rw [if_pos (by omega), if_pos (by omega), if_pos (by omega), plq out i (by omega), if_neg c, if_pos (by simp; omega), w, List.range_succ, List.map_append]
   rfl
/-- What Queues answers for an order: lanes that sort, or a block; which one, the least number tells. -/
theorem Queues_ev (l : List Int) (k : Int) (h : IsOrd l) (hl : l.length ≤ 60) (h0 : 1 ≤ k) (h1 : k ≤ 60) (n : Int) (hn : LeastIs l n) :
  ∃ la b, Ev (fun q => shunt_Queues.f q l k) (la, b, 0) ∧ ((n ≤ k ∧ LanesP l k la ∧ b = []) ∨ (k < n ∧ la = [] ∧ QB l k b)) := by
 obtain ⟨last, hv⟩ := places_inv l h.1
 obtain ⟨la, b, s1, s2⟩ := queues_loop hv hl k h0 h1 l.length 0 (by omega) (fun j hj => by omega)
 refine ⟨la, b, ?_, ?_⟩
 ·refine Ev.congr (f := fun q => shunt_Queues.j0 q l k false) (fun q => ?_) (Ev.step (fun q => ?_) s1)
  ·unfold shunt_Queues.f shunt_isOrder.f shunt_within.f
   simp only [Option.bind_some]
   rw [if_pos ((isOrderB_iff l).2 ⟨hl, h⟩), if_pos h0, decide_eq_true h1]
   rfl
  ·simp only [shunt_Queues.j0]
   unfold shunt_places.f
   rw [if_neg (by decide), if_pos hl]
   rfl
 ·rcases s2 with ⟨t1, rfl, rfl⟩ | ⟨rfl, t2⟩
  ·left
   have hle : n ≤ k := by
    obtain ⟨n1, n2, n3⟩ := hn
    rcases n3 with rfl | ⟨ps, p1, p2⟩
    ·exact h0
    ·have := nodup_len k.toNat (ps.map (qAt (placesB l))) (-1) (desc_nodup hv p1) (fun a ha => by
      obtain ⟨p, q1, q2⟩ := List.mem_map.1 ha
      have := hv.qr p (p1.2 p q1)
      have := t1 p (p1.2 p q1)
      omega)
     rw [List.length_map] at this
     omega
   have hr : ∀ m : Nat, m < l.length → rd ((List.range l.length).map (qAt (placesB l))) (m : Int) = qAt (placesB l) m := by
    intro m hm
    rw [rd_lt _ m (by simpa using hm)]
    simp
   refine ⟨hle, ⟨by simp, fun m hm => ?_⟩, rfl⟩
   rw [List.length_map, List.length_range] at hm
   rw [hr m hm]
   refine ⟨⟨(hv.qr m hm).1, t1 m hm⟩, fun j hj e => ?_⟩
   rw [hr j (by omega)] at e
   exact hv.inc j m hj hm e
  ·right
   refine ⟨?_, rfl, t2⟩
   have : Desc l (b.map Int.toNat) := by
    refine ⟨?_, ?_⟩
    ·rw [List.pairwise_map]
     have hasc : Asc b := (asc_adj b).2 fun i i0 hi => ((t2.2 i hi).2 i0).1
     have hdes : b.Pairwise (fun x y => rd l y < rd l x) := by
      have := (asc_adj (b.map (fun x => - rd l x))).2 (fun i i0 hi => by
       rw [List.length_map] at hi
       rw [rd_lt _ i (by simpa using hi), rd_lt _ (i - 1) (by simp; omega)]
       simp only [List.getElem_map]
       have := ((t2.2 i hi).2 i0).2
       rw [rd_lt b i hi, rd_lt b (i - 1) (by omega)] at this
       omega)
      unfold Asc at this
      rw [List.pairwise_map] at this
      exact List.Pairwise.imp (fun {x y} (h : - rd l x < - rd l y) => by omega) this
     refine List.Pairwise.imp_of_mem ?_ (List.Pairwise.and hasc hdes)
     intro x y hx hy hxy
     obtain ⟨i, hi, rfl⟩ := List.mem_iff_getElem.1 hx
     obtain ⟨j, hj, rfl⟩ := List.mem_iff_getElem.1 hy
     have ri := (t2.2 i hi).1
     have rj := (t2.2 j hj).1
     rw [rd_lt b i hi] at ri
     rw [rd_lt b j hj] at rj
     rw [show ((b[i].toNat : Nat) : Int) = b[i] by omega, show ((b[j].toNat : Nat) : Int) = b[j] by omega]
     exact ⟨by omega, hxy.2⟩
    ·intro p hp
     obtain ⟨x, hx, rfl⟩ := List.mem_map.1 hp
     obtain ⟨i, hi, rfl⟩ := List.mem_iff_getElem.1 hx
     have ri := (t2.2 i hi).1
     rw [rd_lt b i hi] at ri
     omega
   have := hn.2.1 _ this
   rw [List.length_map] at this
   have := t2.1
   omega
end Go.Proofs.Ytjbjongahnocdaa.P

namespace Go.Proofs.Ytjbjongahnocdaa.P
open Go.RowKit Go.Proofs.Ytjbjongahnocdaa.S Go.Proofs.Ytjbjongahnocdaa.Defs Go.Proofs.YtjbjongahnocdaaW.PrintWords

/-- Nothing greater than t stands ahead of something smaller. -/
def NoPat (t : Int) (xs : List Int) : Prop := xs.Pairwise (fun x y => ¬ (y < t ∧ t < x))
def No231 : List Int → Prop
 | [] => True
 | a :: r => NoPat a r ∧ No231 r
instance (t : Int) (xs : List Int) : Decidable (NoPat t xs) := by unfold NoPat; infer_instance
instance no231dec : (l : List Int) → Decidable (No231 l)
 | [] => .isTrue trivial
 | a :: r => by
  have := no231dec r
  unfold No231
  infer_instance
theorem asc_cons (a : Int) (l : List Int) : Asc (a :: l) ↔ (∀ b ∈ l, a < b) ∧ Asc l := List.pairwise_cons
theorem asc_append (a b : List Int) : Asc (a ++ b) ↔ Asc a ∧ Asc b ∧ ∀ x ∈ a, ∀ y ∈ b, x < y := List.pairwise_append
theorem no231_cons (x : Int) (xs : List Int) : No231 (x :: xs) ↔ NoPat x xs ∧ No231 xs := Iff.rfl
theorem noPat_cons (t x : Int) (xs : List Int) : NoPat t (x :: xs) ↔ (∀ y ∈ xs, ¬ (y < t ∧ t < x)) ∧ NoPat t xs := List.pairwise_cons
theorem rd_succ (x : Int) (l : List Int) (i : Nat) : rd (x :: l) ((i + 1 : Nat) : Int) = rd l (i : Int) := by
 rw [rd_nat, rd_nat, List.getD_cons_succ]
theorem noPat_pos (t : Int) (l : List Int) : NoPat t l ↔ ∀ b c : Nat, b < c → c < l.length → ¬ (rd l c < t ∧ t < rd l b) := by
 unfold NoPat
 rw [List.pairwise_iff_getElem]
 constructor
 ·intro h b c hbc hc
  have := h b c (by omega) hc hbc
  rw [rd_lt l b (by omega), rd_lt l c hc]
  exact this
 ·intro h b c hb hc hbc
  have := h b c hbc hc
  rw [rd_lt l b (by omega), rd_lt l c hc] at this
  exact this
theorem no231_pos : ∀ l : List Int, No231 l ↔ ∀ a b c : Nat, a < b → b < c → c < l.length → ¬ (rd l c < rd l a ∧ rd l a < rd l b)
 | [] => by simp [No231]
 | x :: l => by
  unfold No231
  rw [noPat_pos, no231_pos l]
  constructor
  ·rintro ⟨h1, h2⟩ a b c hab hbc hc
   obtain ⟨b, rfl⟩ : ∃ b', b = b' + 1 := ⟨b - 1, by omega⟩
   obtain ⟨c, rfl⟩ : ∃ c', c = c' + 1 := ⟨c - 1, by omega⟩
   have hc' : c < l.length := by simpa using hc
   cases a with
   | zero =>
    have := h1 b c (by omega) hc'
    rw [rd_succ, rd_succ]
    exact this
   | succ a =>
    have := h2 a b c (by omega) (by omega) hc'
    rw [rd_succ, rd_succ, rd_succ]
    exact this
  ·intro h
   refine ⟨fun b c hbc hc => ?_, fun a b c hab hbc hc => ?_⟩
   ·have := h 0 (b + 1) (c + 1) (by omega) (by omega) (by simpa using hc)
    rw [rd_succ, rd_succ] at this
    exact this
   ·have := h (a + 1) (b + 1) (c + 1) (by omega) (by omega) (by simpa using hc)
    rw [rd_succ, rd_succ, rd_succ] at this
    exact this
/-- What 'blocking' finds. -/
def Found (l : List Int) (a b : Nat) (r : Int) : Prop :=
 (r = 0 ∧ ∀ c : Nat, b < c → c < l.length → ¬ (rd l c < rd l a ∧ rd l a ≤ rd l b)) ∨ ∃ c : Nat, r = c ∧ b < c ∧ c < l.length ∧ rd l c < rd l a ∧ rd l a ≤ rd l b
theorem blocking_loop (l : List Int) (a b : Nat) (ha : a < l.length) (hl : l.length ≤ 1000000) (hab : rd l a ≤ rd l b) : ∀ (d i : Nat), i + d = l.length → b < i → (∀ c : Nat, b < c → c < i → ¬ rd l c < rd l a) →
  ∃ r, Ev (fun k => shunt_blocking.l0 k l (a : Int) (i : Int)) r ∧ Found l a b r
 | 0, i, h, hb, hno => by
  refine ⟨0, Ev.step (fun k => ?_) (Ev.now _), .inl ⟨rfl, fun c h1 h2 h3 => hno c h1 (by omega) h3.1⟩⟩
  simp only [shunt_blocking.l0]
  rw [if_neg (by omega)]
 | d + 1, i, h, hb, hno => by
  by_cases c : rd l (i : Int) < rd l a
  ·refine ⟨i, Ev.step (fun k => ?_) (Ev.now _), .inr ⟨i, rfl, hb, by omega, c, hab⟩⟩
   simp only [shunt_blocking.l0]
   rw [if_pos (by omega), if_pos (by omega), if_pos (by omega), if_pos (by omega), if_pos c]
  ·obtain ⟨r, h1, h2⟩ := blocking_loop l a b ha hl hab d (i + 1) (by omega) (by omega) (fun c' h3 h4 => by
    by_cases e : c' = i
    ·subst e; exact c
    ·exact hno c' h3 (by omega))
   refine ⟨r, Ev.step (fun k => ?_) h1, h2⟩
   simp only [shunt_blocking.l0]
   rw [if_pos (by omega), if_pos (by omega), if_pos (by omega), if_pos (by omega), if_neg c, w64 (by omega) (by omega)]
   rfl
theorem blocking_ev (l : List Int) (a b : Nat) (ha : a < l.length) (hb : b < l.length) (hl : l.length ≤ 1000000) : ∃ r, Ev (fun k => shunt_blocking.f k l (a : Int) (b : Int)) r ∧ Found l a b r := by
 by_cases c : rd l a > rd l b
 ·refine ⟨0, Ev.congr (fun k => ?_) (Ev.now _), .inl ⟨rfl, fun c' _ _ h => by omega⟩⟩
  unfold shunt_blocking.f
  rw [if_pos (by omega), if_pos (by omega), if_pos (by omega), if_pos (by omega), if_pos c]
 ·obtain ⟨r, h1, h2⟩ := blocking_loop l a b ha hl (by omega) (l.length - (b + 1)) (b + 1) (by omega) (by omega) (fun c' h3 h4 => by omega)
  refine ⟨r, Ev.congr (fun k => ?_) h1, h2⟩
  unfold shunt_blocking.f
  rw [if_pos (by omega), if_pos (by omega), if_pos (by omega), if_pos (by omega), if_neg c, w64 (by omega) (by omega)]
  rfl
/-- What 'block' returns. -/
def BlockOf (l r : List Int) : Prop :=
 (r = [] ∧ ∀ a b c : Nat, a < b → b < c → c < l.length → ¬ (rd l c < rd l a ∧ rd l a ≤ rd l b)) ∨
  ∃ a b c : Nat, r = [(a : Int), (b : Int), (c : Int)] ∧ a < b ∧ b < c ∧ c < l.length ∧ rd l c < rd l a ∧ rd l a ≤ rd l b
theorem block_l1 (l : List Int) (b : Nat) (hb : b < l.length) (hl : l.length ≤ 1000000) (hrest : (∀ a c : Nat, a < b → b < c → c < l.length → ¬ (rd l c < rd l a ∧ rd l a ≤ rd l b)) → ∃ r, Ev (fun k => shunt_block.l0 k l (l.length : Int) ((b + 1 : Nat) : Int)) r ∧ BlockOf l r) : ∀ (d a : Nat), a + d = b →
  (∀ a' c : Nat, a' < a → b < c → c < l.length → ¬ (rd l c < rd l a' ∧ rd l a' ≤ rd l b)) → ∃ r, Ev (fun k => shunt_block.l1 k l (b : Int) (l.length : Int) (b : Int) (b : Int) (a : Int)) r ∧ BlockOf l r
 | 0, a, h, hno => by
  obtain ⟨r, h1, h2⟩ := hrest (fun a' c h1 => hno a' c (by omega))
  refine ⟨r, Ev.step (fun k => ?_) h1, h2⟩
  simp only [shunt_block.l1]
  rw [if_neg (by omega), w64 (by omega) (by omega)]
  rfl
 | d + 1, a, h, hno => by
  obtain ⟨q, q1, q2⟩ := blocking_ev l a b (by omega) hb hl
  rcases q2 with ⟨rfl, q2⟩ | ⟨c, rfl, q3, q4, q5, q6⟩
  ·obtain ⟨r, h1, h2⟩ := block_l1 l b hb hl hrest d (a + 1) (by omega) (fun a' c h3 h4 h5 => by
    by_cases e : a' = a
    ·subst e; exact q2 c h4 h5
    ·exact hno a' c (by omega) h4 h5)
   refine ⟨r, ?_, h2⟩
   refine Ev.step (f := fun k => (shunt_blocking.f k l (a : Int) (b : Int)).bind fun t => if t > 0 then some [(a : Int), (b : Int), t] else shunt_block.l1 k l (b : Int) (l.length : Int) (b : Int) (b : Int) (wrap64 ((a : Int) + 1))) (fun k => ?_) (Ev.bind q1 ?_)
   ·simp only [shunt_block.l1]
    rw [if_pos (by omega)]
   ·refine Ev.congr (fun k => ?_) h1
    rw [if_neg (by omega), w64 (by omega) (by omega)]
    rfl
  ·refine ⟨[(a : Int), (b : Int), (c : Int)], ?_, .inr ⟨a, b, c, rfl, by omega, q3, q4, q5, q6⟩⟩
   refine Ev.step (f := fun k => (shunt_blocking.f k l (a : Int) (b : Int)).bind fun t => if t > 0 then some [(a : Int), (b : Int), t] else shunt_block.l1 k l (b : Int) (l.length : Int) (b : Int) (b : Int) (wrap64 ((a : Int) + 1))) (fun k => ?_) (Ev.bind q1 ?_)
   ·simp only [shunt_block.l1]
    rw [if_pos (by omega)]
   ·refine Ev.congr (fun k => ?_) (Ev.now _)
    rw [if_pos (by omega)]
theorem block_l0 (l : List Int) (hl : l.length ≤ 1000000) : ∀ (d b : Nat), b + d = l.length → (∀ a b' c : Nat, a < b' → b' < b → b' < c → c < l.length → ¬ (rd l c < rd l a ∧ rd l a ≤ rd l b')) →
  ∃ r, Ev (fun k => shunt_block.l0 k l (l.length : Int) (b : Int)) r ∧ BlockOf l r
 | 0, b, h, hno => by
  refine ⟨[], Ev.step (fun k => ?_) (Ev.now _), .inl ⟨rfl, fun a b' c h1 h2 h3 => hno a b' c h1 (by omega) h2 h3⟩⟩
  simp only [shunt_block.l0]
  rw [if_neg (by omega)]
 | d + 1, b, h, hno => by
  obtain ⟨r, h1, h2⟩ := block_l1 l b (by omega) hl (fun hb => block_l0 l hl d (b + 1) (by omega) (fun a b' c h1 h2 h3 h4 => by
   by_cases e : b' = b
   ·subst e; exact hb a c h1 h3 h4
   ·exact hno a b' c h1 (by omega) h3 h4)) b 0 (by omega) (fun a' c h => by omega)
  refine ⟨r, Ev.step (fun k => ?_) h1, h2⟩
  simp only [shunt_block.l0]
  rw [if_pos (by omega)]
  rfl
theorem block_ev (l : List Int) (hl : l.length ≤ 1000000) : ∃ r, Ev (fun k => shunt_block.f k l) r ∧ BlockOf l r := by
 obtain ⟨r, h1, h2⟩ := block_l0 l hl l.length 0 (by omega) (fun a b c h h' => by omega)
 exact ⟨r, h1, h2⟩
theorem blockOf_nil {l r : List Int} (h : BlockOf l r) (hd : l.Nodup) : r = [] ↔ No231 l := by
 rw [no231_pos]
 rcases h with ⟨rfl, h⟩ | ⟨a, b, c, rfl, h1, h2, h3, h4, h5⟩
 ·exact ⟨fun _ a b c k1 k2 k3 k4 => h a b c k1 k2 k3 ⟨k4.1, by omega⟩, fun _ => rfl⟩
 ·refine ⟨fun e => (by cases e), fun h => absurd ⟨h4, ?_⟩ (h a b c h1 h2 h3)⟩
  rw [rd_lt l a (by omega), rd_lt l b (by omega)] at h5 ⊢
  have : l[a] ≠ l[b] := List.pairwise_iff_getElem.1 hd a b (by omega) (by omega) h1
  omega
theorem drain_cut : ∀ s lft plan : List Int, ∃ d s', s = d ++ s' ∧ drainS s lft plan = (s', lft ++ d, plan ++ List.replicate d.length 111) ∧ (∀ t ∈ d, (lft.length : Int) < t ∧ t ≤ lft.length + d.length) ∧ Asc d ∧ ∀ h t, s' = h :: t → h ≠ (lft.length : Int) + d.length + 1
 | [], lft, plan => ⟨[], [], rfl, by simp [drainS], by simp, List.Pairwise.nil, fun h t e => by cases e⟩
 | x :: s, lft, plan => by
  by_cases c : x = (lft.length : Int) + 1
  ·obtain ⟨d, s', e1, e2, e3, e4, e5⟩ := drain_cut s (lft ++ [x]) (plan ++ [111])
   have hl : (lft ++ [x]).length = lft.length + 1 := by simp
   rw [hl] at e3 e5
   refine ⟨x :: d, s', by rw [e1]; rfl, ?_, ?_, (asc_cons _ _).2 ⟨fun b hb => ?_, e4⟩, fun h t e => ?_⟩
   ·rw [drainS, if_pos c, e2, List.append_assoc, List.append_assoc]
    rfl
   ·intro t ht
    rw [List.length_cons]
    rcases List.mem_cons.1 ht with rfl | ht
    ·omega
    ·have := e3 t ht
     omega
   ·have := e3 b hb
    omega
   ·have := e5 h t e
    rw [List.length_cons]
    omega
  ·refine ⟨[], x :: s, rfl, by rw [drainS, if_neg c]; simp, by simp, List.Pairwise.nil, fun h t e => ?_⟩
   injection e with e _
   subst e
   simpa using c
/-- The stack s, what has left, and what is still to come, of an order of n items. -/
structure OnWay (n : Nat) (s lft xs : List Int) : Prop where
 nodup : (s ++ xs).Nodup
 range : ∀ a ∈ s ++ xs, (lft.length : Int) < a ∧ a ≤ n
 count : s.length + xs.length + lft.length = n
 left : lft = (List.range lft.length).map (fun i => ((i : Nat) : Int) + 1)
theorem asc_range (d : List Int) (lo : Int) (hd : Asc d) (h : ∀ t ∈ d, lo < t ∧ t ≤ lo + d.length) : d = (List.range d.length).map (fun i => lo + 1 + ((i : Nat) : Int)) := by
 induction d generalizing lo with
 | nil => rfl
 | cons a t ih =>
  obtain ⟨h1, h2⟩ := (asc_cons a t).1 hd
  have hn : (a :: t).Nodup := List.Pairwise.imp (fun {x y} (h : x < y) => by omega) hd
  have hm := full_range (a :: t).length (a :: t) lo hn h rfl (lo + 1) (by omega) (by simp; omega)
  have ha : a = lo + 1 := by
   rcases List.mem_cons.1 hm with e | hm
   ·exact e.symm
   ·have := h1 _ hm
    have := h a (by simp)
    omega
  have := ih (lo + 1) h2 (fun b hb => by
   have := h1 b hb
   have := h b (List.mem_cons_of_mem _ hb)
   rw [List.length_cons] at this
   omega)
  rw [List.length_cons, List.range_succ_eq_map, List.map_cons, List.map_map, ha]
  congr 1
  ·omega
  ·refine this.trans (List.map_congr_left fun i _ => ?_)
   simp only [Function.comp]
   omega
theorem OnWay.step {n : Nat} {s lft xs : List Int} {x : Int} {plan : List Int} (h : OnWay n s lft (x :: xs)) : ∃ d s', x :: s = d ++ s' ∧ drainS (x :: s) lft plan = (s', lft ++ d, plan ++ List.replicate d.length 111) ∧ (∀ t ∈ d, (lft.length : Int) < t ∧ t ≤ lft.length + d.length) ∧ Asc d ∧ (∀ h t, s' = h :: t → h ≠ ((lft ++ d).length : Int) + 1) ∧ OnWay n s' (lft ++ d) xs := by
 obtain ⟨d, s', e1, e2, e3, e4, e5⟩ := drain_cut (x :: s) lft plan
 have hperm : (d ++ (s' ++ xs)).Perm (s ++ x :: xs) := by
  rw [← List.append_assoc, ← e1, List.cons_append]
  exact List.perm_middle.symm
 have hnd : (d ++ (s' ++ xs)).Nodup := hperm.nodup_iff.2 h.nodup
 obtain ⟨n1, n2, n3⟩ := List.nodup_append.1 hnd
 refine ⟨d, s', e1, e2, e3, e4, fun a t e => by have := e5 a t e; rw [List.length_append]; omega, ⟨n2, fun a ha => ?_, ?_, ?_⟩⟩
 ·have hr := h.range a (hperm.mem_iff.1 (List.mem_append_right _ ha))
  refine ⟨?_, hr.2⟩
  rw [List.length_append]
  by_cases hle : a ≤ lft.length + d.length
  ·have := full_range d.length d lft.length n1 e3 rfl a hr.1 hle
   exact absurd rfl (n3 a this a ha)
  ·omega
 ·have := h.count
  have hl := congrArg List.length e1
  rw [List.length_append, List.length_cons] at hl
  rw [List.length_append]
  simp only [List.length_cons] at this
  omega
 ·have := asc_range d lft.length e4 e3
  rw [List.length_append, List.range_add, List.map_append]
  congr 1
  ·exact h.left
  ·rw [List.map_map]
   refine this.trans (List.map_congr_left fun i _ => ?_)
   simp only [Function.comp]
   omega
theorem stack_iff (n : Nat) : ∀ (xs s lft plan : List Int), OnWay n s lft xs → (∀ h t, s = h :: t → h ≠ (lft.length : Int) + 1) →
  ((stackGo xs (s, lft, plan)).2.1.length = n ↔ Asc s ∧ (∀ t ∈ s, NoPat t xs) ∧ No231 xs)
 | [], s, lft, plan, h, hd => by
  unfold stackGo
  have hc := h.count
  simp only [List.length_nil] at hc
  constructor
  ·intro e
   have : s = [] := List.eq_nil_of_length_eq_zero (by simp only at e; omega)
   subst this
   exact ⟨List.Pairwise.nil, by simp, trivial⟩
  ·rintro ⟨ha, _⟩
   cases s with
   | nil => simp only at hc ⊢; simp at hc; exact hc
   | cons a t =>
    exfalso
    have h1 := (asc_cons a t).1 ha
    have hr := h.range
    have hnd := h.nodup
    rw [List.append_nil] at hr hnd
    have hm := full_range (a :: t).length (a :: t) lft.length hnd (fun b hb => by have := hr b hb; omega) rfl ((lft.length : Int) + 1) (by omega) (by simp; omega)
    rcases List.mem_cons.1 hm with e | hm
    ·exact hd a t rfl e.symm
    ·have := h1.1 _ hm
     have := hr a (by simp)
     omega
 | x :: xs, s, lft, plan, h, hd => by
  obtain ⟨d, s', e1, e2, e3, e4, e5, hw⟩ := h.step (plan := plan ++ [105])
  unfold stackGo
  rw [e2, stack_iff n xs s' (lft ++ d) _ hw e5]
  have hnd := h.nodup
  have hxs : ∀ t ∈ s, t ≠ x := fun t ht e => (List.nodup_append.1 hnd).2.2 t ht x (by simp) e
  have hsx : ∀ t ∈ s, ∀ y ∈ xs, t ≠ y := fun t ht y hy => (List.nodup_append.1 hnd).2.2 t ht y (by simp [hy])
  cases d with
  | nil =>
   rw [List.nil_append] at e1
   rw [← e1, asc_cons, no231_cons]
   constructor
   ·rintro ⟨⟨h1, h2⟩, h3, h4⟩
    refine ⟨h2, fun t ht => (noPat_cons _ _ _).2 ⟨fun y hy => by have := h1 t ht; omega, h3 t (by simp [ht])⟩, h3 x (by simp), h4⟩
   ·rintro ⟨h2, h3, h4, h5⟩
    refine ⟨⟨fun t ht => ?_, h2⟩, fun t ht => ?_, h5⟩
    ·by_cases hlt : x < t
     ·exact hlt
     ·exfalso
      have hne := hxs t ht
      have hp := ((noPat_cons _ _ _).1 (h3 t ht)).1
      have hm := full_range (s ++ x :: xs).length (s ++ x :: xs) lft.length hnd (fun b hb => by have := h.range b hb; have := h.count; simp at *; omega) rfl ((lft.length : Int) + 1) (by omega) (by simp; omega)
      rcases List.mem_append.1 hm with hm | hm
      ·cases s with
       | nil => cases ht
       | cons a r =>
        rcases List.mem_cons.1 hm with e | hm
        ·exact hd a r rfl e.symm
        ·have h6 := ((asc_cons a r).1 h2).1 _ hm
         have h7 := h.range a (by simp)
         omega
      ·rcases List.mem_cons.1 hm with e | hm
       ·have := e5 x s e1.symm
        simp at this
        omega
       ·have h6 := hp _ hm
        have h7 := hsx t ht _ hm
        have h8 := h.range t (by simp [ht])
        omega
    ·rcases List.mem_cons.1 ht with rfl | ht
     ·exact h4
     ·exact ((noPat_cons _ _ _).1 (h3 t ht)).2
  | cons a d' =>
   injection e1 with e0 e1
   subst e0
   have hx : x = (lft.length : Int) + 1 := by
    have hm := full_range (x :: d').length (x :: d') lft.length (List.Pairwise.imp (fun {x y} (h : x < y) => by omega) e4) e3 rfl ((lft.length : Int) + 1) (by omega) (by simp; omega)
    rcases List.mem_cons.1 hm with e | hm
    ·exact e.symm
    ·have := ((asc_cons x d').1 e4).1 _ hm
     have := h.range x (by simp)
     omega
   have hbig : ∀ b ∈ s' ++ xs, ((lft ++ x :: d').length : Int) < b := fun b hb => (hw.range b hb).1
   have hlen : ((lft ++ x :: d').length : Int) = lft.length + (x :: d').length := by simp
   replace e1 : s = d' ++ s' := e1
   rw [no231_cons, e1, asc_append]
   constructor
   ·rintro ⟨h1, h2, h3⟩
    refine ⟨⟨((asc_cons x d').1 e4).2, h1, fun u hu v hv => ?_⟩, fun t ht => (noPat_cons _ _ _).2 ⟨fun y hy => ?_, ?_⟩, ?_, h3⟩
    ·have := e3 u (List.mem_cons_of_mem _ hu)
     have := hbig v (List.mem_append_left _ hv)
     omega
    ·have := hbig y (List.mem_append_right _ hy)
     have : (lft.length : Int) < t ∧ t ≤ n := h.range t (by rw [e1]; exact List.mem_append_left _ ht)
     omega
    ·rcases List.mem_append.1 ht with ht | ht
     ·exact List.Pairwise.imp_of_mem (R := fun _ _ => True) (fun {u v} _ hv _ => by
       have := hbig v (List.mem_append_right _ hv)
       have := e3 t (List.mem_cons_of_mem _ ht)
       omega) (List.pairwise_of_forall (fun _ _ => trivial))
     ·exact h2 t ht
    ·exact List.Pairwise.imp_of_mem (R := fun _ _ => True) (fun {u v} _ hv _ => by
       have := hbig v (List.mem_append_right _ hv)
       have : 0 < (x :: d').length := by simp
       omega) (List.pairwise_of_forall (fun _ _ => trivial))
   ·rintro ⟨⟨_, h1, _⟩, h2, _, h3⟩
    exact ⟨h1, fun t ht => ((noPat_cons _ _ _).1 (h2 t (List.mem_append_right _ ht))).2, h3⟩
theorem onWay_start (l : List Int) (h : IsOrd l) : OnWay l.length [] [] l :=
 ⟨by simpa using h.1, fun a ha => by have := h.2 a (by simpa using ha); simp; omega, by simp, rfl⟩
theorem stack_full (l : List Int) (h : IsOrd l) : (stackGo l ([], [], [])).2.1.length = l.length ↔ No231 l := by
 rw [stack_iff l.length l [] [] [] (onWay_start l h) (fun _ _ e => by cases e)]
 exact ⟨fun h => h.2.2, fun h => ⟨List.Pairwise.nil, by simp, h⟩⟩
theorem drainS_le : ∀ s lft plan : List Int, (drainS s lft plan).2.1.length + (drainS s lft plan).1.length = lft.length + s.length
 | [], lft, plan => by simp [drainS]
 | x :: s, lft, plan => by
  rw [drainS]
  split
  ·rw [drainS_le s]; simp; omega
  ·rfl
theorem stackGo_le : ∀ (l : List Int) (st : List Int × List Int × List Int), (stackGo l st).2.1.length ≤ st.2.1.length + st.1.length + l.length
 | [], (s, lft, plan) => by simp [stackGo]
 | x :: l, (s, lft, plan) => by
  have h1 := stackGo_le l (drainS (x :: s) lft (plan ++ [105]))
  have h2 := drainS_le (x :: s) lft (plan ++ [105])
  rw [stackGo]
  simp only [List.length_cons] at h2 ⊢
  omega
end Go.Proofs.Ytjbjongahnocdaa.P

namespace Go.Proofs.Ytjbjongahnocdaa.P
open Go.RowKit Go.Proofs.Ytjbjongahnocdaa.S Go.Proofs.Ytjbjongahnocdaa.Defs Go.Proofs.YtjbjongahnocdaaW.PrintWords Go.Proofs.YtjbjongahnocdaaW.PrintLast Go.Proofs.YtjbjongahnocdaaW.PrintMore
set_option linter.unusedVariables false

def LanesFrom (l : List Int) (k : Int) (lanes : List Int) (i : Nat) : Prop :=
 ∀ m : Nat, i ≤ m → m < lanes.length → (0 ≤ rd lanes (m : Int) ∧ rd lanes (m : Int) < k) ∧ ∀ j : Nat, j < m → rd lanes (j : Int) = rd lanes (m : Int) → rd l (j : Int) < rd l (m : Int)
def LastIs (l lanes : List Int) (i : Nat) (last : Int → Int) : Prop :=
 ∀ y, 0 ≤ last y ∧ (∀ j : Nat, j < i → rd lanes (j : Int) = y → rd l (j : Int) ≤ last y) ∧ (last y = 0 ∨ ∃ j : Nat, j < i ∧ rd lanes (j : Int) = y ∧ rd l (j : Int) = last y)
theorem lanesGo_iff (l : List Int) (k : Int) (lanes : List Int) (h : IsOrd l) (he : lanes.length = l.length) (d : Nat) : ∀ (i : Nat) (last : Int → Int), i + d = lanes.length → LastIs l lanes i last →
  (lanesGo l k (lanes.drop i) (i : Int) last = true ↔ LanesFrom l k lanes i) := by
 induction d with
 | zero =>
  intro i last hi hl
  rw [List.drop_eq_nil_of_le (by omega)]
  exact ⟨fun _ m h1 h2 => by omega, fun _ => rfl⟩
 | succ d ih =>
  intro i last hi hl
  rw [drop_cons lanes i (by omega)]
  have ho := pos_rd h i (by omega)
  obtain ⟨l1, l2, l3⟩ := hl (rd lanes (i : Int))
  have hiff : last (rd lanes (i : Int)) < rd l (i : Int) ↔ ∀ j : Nat, j < i → rd lanes (j : Int) = rd lanes (i : Int) → rd l (j : Int) < rd l (i : Int) := by
   constructor
   ·intro hlt j hj e
    have := l2 j hj e
    omega
   ·intro hall
    rcases l3 with l3 | ⟨j, j1, j2, j3⟩
    ·omega
    ·have := hall j j1 j2
     omega
  unfold lanesGo
  by_cases c : 0 ≤ rd lanes (i : Int) ∧ rd lanes (i : Int) ≤ k - 1 ∧ last (rd lanes (i : Int)) < rd l (i : Int)
  ·rw [if_pos c]
   have hn : LastIs l lanes (i + 1) (fun y => if y = rd lanes (i : Int) then rd l (i : Int) else last y) := by
    intro y
    by_cases e : y = rd lanes (i : Int)
    ·subst e
     simp only [if_true]
     refine ⟨by omega, fun j hj ej => ?_, .inr ⟨i, by omega, rfl, rfl⟩⟩
     by_cases e' : j = i
     ·subst e'; exact Int.le_refl _
     ·have := hiff.1 c.2.2 j (by omega) ej
      omega
    ·simp only [if_neg e]
     obtain ⟨m1, m2, m3⟩ := hl y
     refine ⟨m1, fun j hj ej => ?_, ?_⟩
     ·by_cases e' : j = i
      ·subst e'; exact absurd ej.symm e
      ·exact m2 j (by omega) ej
     ·rcases m3 with m3 | ⟨j, j1, j2⟩
      ·exact .inl m3
      ·exact .inr ⟨j, by omega, j2⟩
   have := ih (i + 1) _ (by omega) hn
   refine (show _ ↔ _ from this).trans ⟨fun h' m h1 h2 => ?_, fun h' m h1 h2 => h' m (by omega) h2⟩
   by_cases e : m = i
   ·subst e; exact ⟨⟨c.1, by omega⟩, hiff.1 c.2.2⟩
   ·exact h' m (by omega) h2
  ·rw [if_neg c]
   refine ⟨fun h => (by cases h), fun h' => ?_⟩
   have := h' i (Nat.le_refl _) (by omega)
   exact absurd ⟨this.1.1, by omega, hiff.2 this.2⟩ c
theorem rightL_iff (l : List Int) (k : Int) (lanes block : List Int) (h : IsOrd l) : rightL l k lanes block = true ↔ LanesP l k lanes ∧ block = [] := by
 unfold rightL
 rw [Bool.and_eq_true, Bool.and_eq_true, decide_eq_true_eq, decide_eq_true_eq, List.length_eq_zero_iff]
 constructor
 ·rintro ⟨⟨h1, h2⟩, h3⟩
  refine ⟨⟨h1, fun m hm => ?_⟩, h2⟩
  have := (lanesGo_iff l k lanes h h1 lanes.length 0 (fun _ => 0) (by omega) (fun y => ⟨Int.le_refl _, fun j hj => by omega, .inl rfl⟩)).1 (by rw [List.drop_zero]; exact h3)
  exact this m (Nat.zero_le _) hm
 ·rintro ⟨⟨h1, h2⟩, h3⟩
  refine ⟨⟨h1, h3⟩, ?_⟩
  have := (lanesGo_iff l k lanes h h1 lanes.length 0 (fun _ => 0) (by omega) (fun y => ⟨Int.le_refl _, fun j hj => by omega, .inl rfl⟩)).2 (fun m _ hm => h2 m hm)
  rw [List.drop_zero] at this
  exact this
theorem blockGo_iff (l b : List Int) (d : Nat) : ∀ (i : Nat) (right : Bool), blockGo l b d (i : Int) right = true ↔ right = true ∧ ∀ m : Nat, i ≤ m → m < i + d → stepB l b (m : Int) = true := by
 induction d with
 | zero => intro i right; exact ⟨fun h => ⟨h, fun m h1 h2 => by omega⟩, fun h => h.1⟩
 | succ d ih =>
  intro i right
  have := ih (i + 1) (right && stepB l b (i : Int))
  refine (show blockGo l b (d + 1) (i : Int) right = true ↔ _ from this).trans ?_
  rw [Bool.and_eq_true]
  constructor
  ·rintro ⟨⟨h1, h2⟩, h3⟩
   refine ⟨h1, fun m m1 m2 => ?_⟩
   by_cases e : m = i
   ·subst e; exact h2
   ·exact h3 m (by omega) (by omega)
  ·rintro ⟨h1, h2⟩
   exact ⟨⟨h1, h2 i (Nat.le_refl _) (by omega)⟩, fun m m1 m2 => h2 m (by omega) (by omega)⟩
theorem stepB_iff (l b : List Int) (i : Nat) : stepB l b (i : Int) = true ↔ (0 ≤ rd b (i : Int) ∧ rd b (i : Int) < l.length) ∧ (0 < i → rd b ((i - 1 : Nat) : Int) < rd b (i : Int) ∧ rd l (rd b (i : Int)) < rd l (rd b ((i - 1 : Nat) : Int))) := by
 unfold stepB
 rw [Bool.and_eq_true, Bool.or_eq_true, Bool.and_eq_true, decide_eq_true_eq, decide_eq_true_eq, decide_eq_true_eq, decide_eq_true_eq]
 by_cases c : i = 0
 ·subst c
  constructor
  ·rintro ⟨h1, _⟩; exact ⟨by omega, fun h => by omega⟩
  ·rintro ⟨h1, _⟩; exact ⟨by omega, .inl rfl⟩
 ·rw [show ((i : Int) - 1) = ((i - 1 : Nat) : Int) by omega]
  constructor
  ·rintro ⟨h1, h2 | h2⟩
   ·omega
   ·exact ⟨by omega, fun _ => h2⟩
  ·rintro ⟨h1, h2⟩
   exact ⟨by omega, .inr (h2 (by omega))⟩
theorem queuesCheck (l : List Int) (k : Int) (lanes block : List Int) (h : IsOrd l) (hl : l.length ≤ 60) (h0 : 1 ≤ k) (h1 : k ≤ 60) : ∃ e : Int, shunt_CheckQueues.f l k lanes block = some e ∧ (e = 0 ∨ e = 10) ∧ (e = 0 ↔ (LanesP l k lanes ∧ block = []) ∨ (lanes = [] ∧ QB l k block)) := by
 have hb : isOrderB l = true := (isOrderB_iff l).2 ⟨hl, h⟩
 unfold shunt_CheckQueues.f
 rw [if_pos ⟨hb, h0, h1⟩]
 by_cases c : lanes.length = 0 ∧ (block.length : Int) = k + 1
 ·rw [if_pos c]
  have hiff : blockGo l block block.length 0 true = true ↔ QB l k block := by
   have := blockGo_iff l block block.length 0 true
   refine (show blockGo l block block.length 0 true = true ↔ _ from this).trans ?_
   constructor
   ·rintro ⟨_, h3⟩
    exact ⟨c.2, fun i hi => (stepB_iff l block i).1 (h3 i (Nat.zero_le _) (by omega))⟩
   ·rintro ⟨_, h3⟩
    exact ⟨rfl, fun m _ hm => (stepB_iff l block m).2 (h3 m (by omega))⟩
  have hne : block ≠ [] := fun e => by
   rw [e] at c
   have : (([] : List Int).length : Int) = k + 1 := c.2
   simp at this
   omega
  refine ⟨_, rfl, ?_, ?_⟩
  ·split <;> simp
  ·constructor
   ·intro h
    refine .inr ⟨List.length_eq_zero_iff.1 c.1, hiff.1 ?_⟩
    split at h
    ·assumption
    ·cases h
   ·rintro (h | h)
    ·exact absurd h.2 hne
    ·rw [if_pos (hiff.2 h.2)]
 ·rw [if_neg c]
  have hiff := rightL_iff l k lanes block h
  refine ⟨_, rfl, ?_, ?_⟩
  ·split <;> simp
  ·constructor
   ·intro h
    refine .inl (hiff.1 ?_)
    split at h
    ·assumption
    ·cases h
   ·rintro (h | h)
    ·rw [if_pos (hiff.2 h)]
    ·exact absurd ⟨by rw [h.1]; rfl, h.2.1⟩ c
end Go.Proofs.Ytjbjongahnocdaa.P

namespace Go.Proofs.Ytjbjongahnocdaa.P
open Go.RowKit Go.Proofs.Ytjbjongahnocdaa.S Go.Proofs.Ytjbjongahnocdaa.Defs Go.Proofs.YtjbjongahnocdaaW.PrintWords
set_option linter.unusedVariables false

/-- The positions a < b are in conflict. -/
def Conf (l : List Int) (a b : Nat) : Prop := ∃ c : Nat, b < c ∧ c < l.length ∧ rd l c < rd l a ∧ rd l a < rd l b
theorem found_conf {l : List Int} {a b : Nat} {r : Int} (hd : l.Nodup) (hab : a < b) (hb : b < l.length) (h : Found l a b r) : r ≠ 0 ↔ Conf l a b := by
 rcases h with ⟨rfl, h⟩ | ⟨c, rfl, h1, h2, h3, h4⟩
 ·exact ⟨fun h => absurd rfl h, fun ⟨c, h1, h2, h3, h4⟩ => absurd ⟨h3, by omega⟩ (h c h1 h2)⟩
 ·refine ⟨fun _ => ⟨c, h1, h2, h3, ?_⟩, fun _ => by omega⟩
  rw [rd_lt l a (by omega), rd_lt l b (by omega)] at h4 ⊢
  have : l[a] ≠ l[b] := List.pairwise_iff_getElem.1 hd a b (by omega) (by omega) hab
  omega
theorem conf_ev (l : List Int) (a b : Nat) (hd : l.Nodup) (hab : a < b) (hb : b < l.length) (hl : l.length ≤ 1000000) : ∃ r : Int, Ev (fun k => shunt_blocking.f k l (a : Int) (b : Int)) r ∧ (r ≠ 0 ↔ Conf l a b) := by
 obtain ⟨r, h1, h2⟩ := blocking_ev l a b (by omega) hb hl
 exact ⟨r, h1, found_conf hd hab hb h2⟩
/-- No two positions of one side are in conflict. -/
def SidesOk (l s : List Int) : Prop := (∀ x ∈ s, x = 0 ∨ x = 1) ∧ ∀ a b : Nat, a < b → b < l.length → rd s a = rd s b → ¬ Conf l a b
end Go.Proofs.Ytjbjongahnocdaa.P

namespace Go.Proofs.Ytjbjongahnocdaa.P
open Go.RowKit Go.Proofs.Ytjbjongahnocdaa.S Go.Proofs.Ytjbjongahnocdaa.Defs Go.Proofs.YtjbjongahnocdaaW.PrintWords Go.Proofs.YtjbjongahnocdaaW.PrintLast Go.Proofs.YtjbjongahnocdaaW.PrintMore
set_option linter.unusedVariables false

/-- Two positions are in conflict, whichever comes first. -/
def Adj (l : List Int) (x y : Int) : Prop := 0 ≤ x ∧ x < l.length ∧ 0 ≤ y ∧ y < l.length ∧ ((x < y ∧ Conf l x.toNat y.toNat) ∨ (y < x ∧ Conf l y.toNat x.toNat))
theorem Adj.symm {l : List Int} {x y : Int} (h : Adj l x y) : Adj l y x := ⟨h.2.2.1, h.2.2.2.1, h.1, h.2.1, h.2.2.2.2.symm⟩
theorem Adj.ne {l : List Int} {x y : Int} (h : Adj l x y) : x ≠ y := by
 have := h.2.2.2.2
 omega
/-- A colouring in which no conflict is between two of one colour. -/
def Proper (l : List Int) (χ : Int → Bool) : Prop := ∀ x y, Adj l x y → χ x ≠ χ y
def TwoCol (l : List Int) : Prop := ∃ χ, Proper l χ
theorem sides_two {l s : List Int} (hs : s.length = l.length) (h : SidesOk l s) : TwoCol l := by
 refine ⟨fun x => decide (rd s x = 0), ?_⟩
 have side : ∀ x : Int, 0 ≤ x → x < l.length → rd s x = 0 ∨ rd s x = 1 := fun x h0 h1 => h.1 _ (rd_mem h0 (by omega))
 have key : ∀ x y : Int, 0 ≤ x → x < y → y < l.length → Conf l x.toNat y.toNat → decide (rd s x = 0) ≠ decide (rd s y = 0) := by
  intro x y h0 h1 h2 hc he
  rw [decide_eq_decide] at he
  have e : rd s x = rd s y := by
   have := side x h0 (by omega)
   have := side y (by omega) h2
   omega
  refine h.2 x.toNat y.toNat (by omega) (by omega) ?_ hc
  rw [show ((x.toNat : Nat) : Int) = x by omega, show ((y.toNat : Nat) : Int) = y by omega]
  exact e
 rintro x y ⟨h0, h1, h2, h3, hc⟩
 rcases hc with ⟨hlt, hc⟩ | ⟨hlt, hc⟩
 ·exact key x y h0 hlt h3 hc
 ·exact (key y x h2 hlt h1 hc).symm
def NearOk (l : List Int) (near : List (List Int)) : Prop := near.length = l.length ∧ ∀ x : Int, 0 ≤ x → x < l.length → ∀ y, y ∈ near_ near x ↔ Adj l x y
def NearAt (l : List Int) (near : List (List Int)) (b a : Nat) : Prop := near.length = l.length ∧ (∀ x : Nat, x < l.length → (near.getD x []).length ≤ b * 60 + a) ∧
 ∀ x : Nat, x < l.length → ∀ y : Int, y ∈ near.getD x [] ↔ (Adj l (x : Int) y ∧ ((x : Int) < b ∧ y < b ∨ ((x : Int) = b ∧ y < a) ∨ (y = b ∧ (x : Int) < a)))
theorem rd_L1_nat (near : List (List Int)) (x : Nat) : rd_L1 near (x : Int) = near.getD x [] := by
 unfold rd_L1
 rw [Int.toNat_natCast]
theorem getD_set (near : List (List Int)) (i x : Nat) (v : List Int) (h : i < near.length) : (near.set i v).getD x [] = if i = x then v else near.getD x [] := by
 rw [List.getD_eq_getElem?_getD, List.getElem?_set]
 by_cases c : i = x
 ·subst c; simp [h]
 ·simp [c]
theorem near_step {l : List Int} {near : List (List Int)} {b a : Nat} (hab : a < b) (hb : b < l.length) (h : NearAt l near b a) :
  (¬ Conf l a b → NearAt l near b (a + 1)) ∧ (Conf l a b → NearAt l ((near.set a (near.getD a [] ++ [(b : Int)])).set b ((near.set a (near.getD a [] ++ [(b : Int)])).getD b [] ++ [(a : Int)])) b (a + 1)) := by
 obtain ⟨h1, h2, h3⟩ := h
 have hadj : Adj l (a : Int) (b : Int) ↔ Conf l a b := by
  unfold Adj
  simp only [Int.toNat_natCast]
  exact ⟨fun h => h.2.2.2.2.elim (fun h => h.2) (fun h => by omega), fun h => ⟨by omega, by omega, by omega, by omega, .inl ⟨by omega, h⟩⟩⟩
 constructor
 ·intro hc
  refine ⟨h1, fun x hx => by have := h2 x hx; omega, fun x hx y => ?_⟩
  rw [h3 x hx y]
  constructor
  ·rintro ⟨q1, q2⟩
   exact ⟨q1, by omega⟩
  ·rintro ⟨q1, q2⟩
   refine ⟨q1, ?_⟩
   rcases q2 with q2 | ⟨q2, q3⟩ | ⟨q2, q3⟩
   ·exact .inl q2
   ·by_cases e : y = a
    ·subst e
     rw [q2] at q1
     exact absurd (hadj.1 q1.symm) hc
    ·exact .inr (.inl ⟨q2, by omega⟩)
   ·by_cases e : (x : Int) = a
    ·rw [q2, e] at q1
     exact absurd (hadj.1 q1) hc
    ·exact .inr (.inr ⟨q2, by omega⟩)
 ·intro hc
  have ha1 : Adj l (a : Int) (b : Int) := hadj.2 hc
  have g : ∀ x : Nat, ((near.set a (near.getD a [] ++ [(b : Int)])).set b ((near.set a (near.getD a [] ++ [(b : Int)])).getD b [] ++ [(a : Int)])).getD x [] =
    if b = x then near.getD b [] ++ [(a : Int)] else if a = x then near.getD a [] ++ [(b : Int)] else near.getD x [] := by
   intro x
   rw [getD_set _ _ _ _ (by rw [List.length_set]; omega), getD_set _ _ _ _ (by omega), getD_set _ _ _ _ (by omega)]
   rw [if_neg (show ¬ a = b by omega)]
  refine ⟨by rw [List.length_set, List.length_set]; exact h1, fun x hx => ?_, fun x hx y => ?_⟩
  ·rw [g]
   have q0 := h2 x hx
   split
   ·rename_i e; subst e; rw [List.length_append, List.length_singleton]; omega
   ·split
    ·rename_i e; subst e; rw [List.length_append, List.length_singleton]; omega
    ·omega
  ·rw [g]
   by_cases e1 : b = x
   ·subst e1
    rw [if_pos rfl, List.mem_append, List.mem_singleton, h3 b hx y]
    constructor
    ·rintro (⟨q1, q2⟩ | rfl)
     ·exact ⟨q1, by omega⟩
     ·exact ⟨ha1.symm, .inr (.inl ⟨rfl, by omega⟩)⟩
    ·rintro ⟨q1, q2⟩
     by_cases e : y = a
     ·exact .inr e
     ·have := q1.ne
      exact .inl ⟨q1, by omega⟩
   ·rw [if_neg e1]
    by_cases e2 : a = x
    ·subst e2
     rw [if_pos rfl, List.mem_append, List.mem_singleton, h3 a hx y]
     constructor
     ·rintro (⟨q1, q2⟩ | rfl)
      ·exact ⟨q1, by omega⟩
      ·exact ⟨ha1, .inr (.inr ⟨rfl, by omega⟩)⟩
     ·rintro ⟨q1, q2⟩
      by_cases e : y = b
      ·exact .inr e
      ·exact .inl ⟨q1, by omega⟩
    ·rw [if_neg e2, h3 x hx y]
     constructor
     ·rintro ⟨q1, q2⟩
      exact ⟨q1, by omega⟩
     ·rintro ⟨q1, q2⟩
      exact ⟨q1, by omega⟩
theorem conflicts_end (l : List Int) (hl : l.length ≤ 60) (b : Nat) (hb : b < l.length) (R : List (List Int)) (near : List (List Int)) (hR : Ev (fun k => shunt_conflicts.l0 k l near (l.length : Int) ((b + 1 : Nat) : Int)) R) :
  Ev (fun k => shunt_conflicts.l1 k l near (b : Int) (l.length : Int) (b : Int) (b : Int) (b : Int)) R := by
 refine Ev.step (fun k => ?_) hR
 simp only [shunt_conflicts.l1]
 rw [if_neg (by omega), w64 (by omega) (by omega)]
 rfl
theorem conflicts_round (l : List Int) (hd : l.Nodup) (hl : l.length ≤ 60) (a b : Nat) (hab : a < b) (hb : b < l.length) (near : List (List Int)) (hn : NearAt l near b a) :
  ∃ near', NearAt l near' b (a + 1) ∧ ∀ R, Ev (fun k => shunt_conflicts.l1 k l near' (b : Int) (l.length : Int) (b : Int) (b : Int) ((a + 1 : Nat) : Int)) R → Ev (fun k => shunt_conflicts.l1 k l near (b : Int) (l.length : Int) (b : Int) (b : Int) (a : Int)) R := by
 obtain ⟨q, q1, q2⟩ := blocking_ev l a b (by omega) hb (by omega)
 have q3 := found_conf hd (by omega) hb q2
 have hq0 : 0 ≤ q := by
  rcases q2 with ⟨rfl, _⟩ | ⟨c, rfl, _⟩ <;> omega
 obtain ⟨s1, s2⟩ := near_step hab hb hn
 have hlen : near.length = l.length := hn.1
 have hcong : ∀ k, shunt_conflicts.l1 (k + 1) l near (b : Int) (l.length : Int) (b : Int) (b : Int) (a : Int) = (shunt_blocking.f k l (a : Int) (b : Int)).bind fun t564 => if t564 > 0 then (if 0 ≤ (a : Int) then (if (a : Int) < (near.length : Int) then (if (rd_L1 near (a : Int)).length < 17592186044416 then ((some (near.set (a : Int).toNat ((rd_L1 near (a : Int)) ++ [(b : Int)]) : List (List Int))).bind fun y569 => (if 0 ≤ (b : Int) then (if (b : Int) < (near.length : Int) then (if (rd_L1 y569 (b : Int)).length < 17592186044416 then (shunt_conflicts.l1 k l (y569.set (b : Int).toNat ((rd_L1 y569 (b : Int)) ++ [(a : Int)])) (b : Int) (l.length : Int) (b : Int) (b : Int) ((a + 1 : Nat) : Int)) else (none)) else (none)) else (none))) else (none)) else (none)) else (none)) else shunt_conflicts.l1 k l near (b : Int) (l.length : Int) (b : Int) (b : Int) ((a + 1 : Nat) : Int) := by
  intro k
  simp only [shunt_conflicts.l1]
  rw [if_pos (by omega), w64 (x := (a : Int) + 1) (by omega) (by omega)]
  rfl
 by_cases c : q > 0
 ·have hc : Conf l a b := q3.1 (by omega)
  have la := hn.2.1 a (by omega)
  have lb : ((near.set a (near.getD a [] ++ [(b : Int)])).getD b []).length ≤ 5000 := by
   have := hn.2.1 b hb
   rw [getD_set _ _ _ _ (by omega), if_neg (by omega)]
   omega
  refine ⟨_, s2 hc, fun R hR => Ev.step hcong (Ev.bind (f := fun k t564 => _) q1 (Ev.congr (fun k => ?_) hR))⟩
  rw [if_pos c]
  simp only [Option.bind_some, rd_L1_nat, Int.toNat_natCast]
  rw [if_pos (show (0 : Int) ≤ (a : Int) by omega), if_pos (show (a : Int) < (near.length : Int) by omega), if_pos (show (near.getD a []).length < 17592186044416 by omega), if_pos (show (0 : Int) ≤ (b : Int) by omega), if_pos (show (b : Int) < (near.length : Int) by omega), if_pos (show ((near.set a (near.getD a [] ++ [(b : Int)])).getD b []).length < 17592186044416 by omega)]
 ·have hc : ¬ Conf l a b := fun h' => (q3.2 h') (by omega)
  exact ⟨near, s1 hc, fun R hR => Ev.step hcong (Ev.bind (f := fun k t564 => _) q1 (Ev.congr (fun k => if_neg c) hR))⟩
theorem near_next {l : List Int} {near : List (List Int)} {b : Nat} (hb : b ≤ 60) (h : NearAt l near b b) : NearAt l near (b + 1) 0 := by
 refine ⟨h.1, fun x hx => by have := h.2.1 x hx; omega, fun x hx y => ?_⟩
 rw [h.2.2 x hx y]
 constructor
 ·rintro ⟨q1, q2⟩
  exact ⟨q1, by omega⟩
 ·rintro ⟨q1, q2⟩
  have h0 := q1.2.2.1
  have := q1.ne
  exact ⟨q1, by omega⟩
theorem conflicts_l0 (l : List Int) (hd : l.Nodup) (hl : l.length ≤ 60) : ∀ (d b : Nat) (near : List (List Int)), b + d = l.length → NearAt l near b 0 → ∃ R, Ev (fun k => shunt_conflicts.l0 k l near (l.length : Int) (b : Int)) R ∧ NearAt l R l.length 0 := by
 intro d
 induction d with
 | zero =>
  intro b near h hn
  obtain rfl : b = l.length := by omega
  refine ⟨near, Ev.step (f := fun _ => some near) (fun k => ?_) (Ev.now _), hn⟩
  simp only [shunt_conflicts.l0]
  rw [if_neg (by omega)]
 | succ d ih =>
  intro b near h hn
  have hb : b < l.length := by omega
  -- what the rows are after the round does not depend on the way: the round is run for the one list that it gives
  have key : ∀ (d' a : Nat) (near : List (List Int)), a + d' = b → NearAt l near b a → ∃ near', NearAt l near' b b ∧ ∀ R, Ev (fun k => shunt_conflicts.l0 k l near' (l.length : Int) ((b + 1 : Nat) : Int)) R → Ev (fun k => shunt_conflicts.l1 k l near (b : Int) (l.length : Int) (b : Int) (b : Int) (a : Int)) R := by
   intro d'
   induction d' with
   | zero =>
    intro a near h' hn'
    obtain rfl : a = b := by omega
    exact ⟨near, hn', fun R hR => conflicts_end l hl a hb R near hR⟩
   | succ d' ih' =>
    intro a near h' hn'
    obtain ⟨near1, h1, h2⟩ := conflicts_round l hd hl a b (by omega) hb near hn'
    obtain ⟨near', q1, q2⟩ := ih' (a + 1) near1 (by omega) h1
    exact ⟨near', q1, fun R hR => h2 R (q2 R hR)⟩
  obtain ⟨near', q1, q2⟩ := key b 0 near (by omega) hn
  obtain ⟨R, r1, r2⟩ := ih (b + 1) near' (by omega) (near_next (by omega) q1)
  refine ⟨R, Ev.step (fun k => ?_) (q2 R r1), r2⟩
  simp only [shunt_conflicts.l0]
  rw [if_pos (by omega)]
  rfl
theorem conflicts_ev (l : List Int) (hd : l.Nodup) (hl : l.length ≤ 60) : ∃ near, Ev (fun k => shunt_conflicts.f k l) near ∧ NearOk l near := by
 have h0 : NearAt l (List.replicate l.length []) 0 0 := by
  have e : ∀ x : Nat, x < l.length → (List.replicate l.length ([] : List Int)).getD x [] = [] := fun x hx => by
   rw [List.getD_eq_getElem?_getD, List.getElem?_replicate]
   simp [hx]
  refine ⟨by simp, fun x hx => by rw [e x hx]; simp, fun x hx y => ?_⟩
  rw [e x hx]
  constructor
  ·intro h; cases h
  ·rintro ⟨_, h⟩
   have := ‹Adj l (x : Int) y›.2.2.1
   omega
 obtain ⟨R, r1, r2⟩ := conflicts_l0 l hd hl l.length 0 _ (by omega) h0
 refine ⟨R, Ev.congr (fun k => ?_) r1, r2.1, fun x hx0 hx1 y => ?_⟩
 ·unfold shunt_conflicts.f
  rw [if_pos (by omega), Int.toNat_natCast, if_pos (by omega)]
  rfl
 ·have := r2.2.2 x.toNat (by omega) y
  rw [show ((x.toNat : Nat) : Int) = x by omega] at this
  show y ∈ near_ R x ↔ _
  unfold near_
  rw [this]
  exact ⟨fun h => h.1, fun h => ⟨h, by have := h.2.2.2.1; omega⟩⟩
theorem wayF_mono (fr : Int → Option Int) : ∀ (f : Nat) (x : Int) (r : List Int), wayF fr f x = some r → ∀ g, f ≤ g → wayF fr g x = some r
 | 0, _, _, h, _, _ => by cases h
 | f + 1, x, r, h, g, hg => by
  obtain ⟨g', rfl⟩ : ∃ g', g = g' + 1 := ⟨g - 1, by omega⟩
  unfold wayF at h ⊢
  by_cases c : 0 ≤ x
  ·rw [if_pos c] at h ⊢
   by_cases c2 : x ≤ 1000
   ·rw [if_pos c2] at h ⊢
    obtain ⟨r', h1, h2⟩ := Option.map_eq_some_iff.mp h
    rw [wayF_mono fr f _ _ h1 g' (by omega), ← h2]
    rfl
   ·rw [if_neg c2] at h; cases h
  ·rw [if_neg c] at h ⊢
   exact h
/-- A way is as it was when a new node is told from where it comes. -/
theorem wayF_put (fr : Int → Option Int) (b v : Int) (hb : fr b = none) (hb0 : 0 < b ∨ b < 0 ∨ True) : ∀ (f : Nat) (x : Int) (r : List Int), wayF fr f x = some r → (∀ y ∈ r, fr y ≠ none) → wayF (put_ fr b v) f x = some r
 | 0, _, _, h, _ => by cases h
 | f + 1, x, r, h, hr => by
  unfold wayF at h ⊢
  by_cases c : 0 ≤ x
  ·rw [if_pos c] at h ⊢
   by_cases c2 : x ≤ 1000
   ·rw [if_pos c2] at h ⊢
    obtain ⟨r', h1, h2⟩ := Option.map_eq_some_iff.mp h
    subst h2
    have hx : x ≠ b := fun e => hr x (by simp) (by rw [e]; exact hb)
    rw [show put_ fr b v x = fr x from if_neg hx, wayF_put fr b v hb hb0 f _ _ h1 (fun y hy => hr y (by simp [hy]))]
    rfl
   ·rw [if_neg c2] at h; cases h
  ·rw [if_neg c] at h ⊢
   exact h
structure Bfs (l : List Int) (sd0 : Int → Option Int) (s : Int) (c : Col) : Prop where
 old : ∀ y, sd0 y ≠ none → c.1 y = sd0 y
 dom : ∀ y, c.1 y ≠ none ↔ (sd0 y ≠ none ∨ y ∈ c.2.2)
 new : ∀ y ∈ c.2.2, sd0 y = none ∧ 0 ≤ y ∧ y < l.length
 nd : c.2.2.Nodup
 val : ∀ y v, c.1 y = some v → v = 0 ∨ v = 1
 frd : ∀ y, c.2.1 y = none ↔ c.1 y = none
 way : ∀ (t : Nat) (h : t < c.2.2.length), ∃ r, wayF c.2.1 (t + 2) c.2.2[t] = some r ∧ ∀ y ∈ r, c.2.1 y ≠ none
 tree : ∀ χ, Proper l χ → ∀ y ∈ c.2.2, (χ y = χ s ↔ c.1 y = some 0)
theorem Bfs.len {l : List Int} {sd0 : Int → Option Int} {s : Int} {c : Col} (h : Bfs l sd0 s c) : c.2.2.length ≤ l.length :=
 nodup_len l.length c.2.2 (-1) h.nd (fun a ha => by have := h.new a ha; omega)
/-- The neighbours of the first i of the queue have the other colour. -/
def Done (l : List Int) (c : Col) (i : Nat) : Prop := ∀ t : Nat, t < i → ∀ b, Adj l (rd c.2.2 (t : Int)) b → ∃ v, c.1 b = some v ∧ c.1 (rd c.2.2 (t : Int)) ≠ some v
def Closed (l : List Int) (sd : Int → Option Int) : Prop := ∀ x v, sd x = some v → ∀ y, Adj l x y → ∃ u, sd y = some u ∧ u ≠ v
theorem bfs_add {l : List Int} (hl60 : l.length ≤ 60) {sd0 : Int → Option Int} {s a b va : Int} {c : Col} (h : Bfs l sd0 s c) (ha : a ∈ c.2.2) (hva : c.1 a = some va) (hab : Adj l a b) (hb : c.1 b = none) :
  Bfs l sd0 s (put_ c.1 b (wrap64 (1 - (c.1 a).getD 0)), put_ c.2.1 b a, c.2.2 ++ [b]) := by
 have hv := h.val a va hva
 have hw : wrap64 (1 - (c.1 a).getD 0) = 1 - va := by rw [hva, Option.getD_some, w64 (by omega) (by omega)]
 rw [hw]
 have hbq : b ∉ c.2.2 := fun hm => (h.dom b).2 (.inr hm) hb
 have hb0 : sd0 b = none := by
  cases e : sd0 b with
  | none => rfl
  | some u => exact absurd hb ((h.dom b).2 (.inl (by rw [e]; simp)))
 have hne : a ≠ b := hab.ne
 refine ⟨fun y hy => ?_, fun y => ?_, fun y hy => ?_, ?_, fun y v hy => ?_, fun y => ?_, fun t ht => ?_, fun χ hχ y hy => ?_⟩
 ·show put_ c.1 b _ y = _
  rw [show put_ c.1 b (1 - va) y = c.1 y from if_neg (fun (e : y = b) => hy (by rw [e]; exact hb0))]
  exact h.old y hy
 ·show put_ c.1 b _ y ≠ none ↔ _
  by_cases e : y = b
  ·subst e
   rw [show put_ c.1 y (1 - va) y = some (1 - va) from if_pos rfl]
   exact ⟨fun _ => .inr (by simp), fun _ => by simp⟩
  ·rw [show put_ c.1 b (1 - va) y = c.1 y from if_neg e, h.dom y, List.mem_append, List.mem_singleton]
   exact ⟨fun h => h.elim .inl (fun h => .inr (.inl h)), fun h => h.elim .inl (fun h => h.elim .inr (fun h => absurd h e))⟩
 ·rcases List.mem_append.1 hy with hy | hy
  ·exact h.new y hy
  ·rw [List.mem_singleton] at hy
   subst hy
   exact ⟨hb0, hab.2.2.1, hab.2.2.2.1⟩
 ·rw [List.nodup_append]
  refine ⟨h.nd, by simp, fun x hx z hz e => ?_⟩
  rw [List.mem_singleton] at hz
  subst hz
  exact hbq (e ▸ hx)
 ·replace hy : put_ c.1 b (1 - va) y = some v := hy
  by_cases e : y = b
  ·rw [show put_ c.1 b (1 - va) y = some (1 - va) from if_pos e] at hy
   injection hy with hy
   omega
  ·rw [show put_ c.1 b (1 - va) y = c.1 y from if_neg e] at hy
   exact h.val y v hy
 ·show put_ c.2.1 b a y = none ↔ put_ c.1 b (1 - va) y = none
  unfold put_
  by_cases e : y = b
  ·rw [if_pos e, if_pos e]; simp
  ·rw [if_neg e, if_neg e]; exact h.frd y
 ·have hfb : c.2.1 b = none := (h.frd b).2 hb
  show ∃ r, wayF (put_ c.2.1 b a) (t + 2) (c.2.2 ++ [b])[t] = some r ∧ ∀ y ∈ r, put_ c.2.1 b a y ≠ none
  have keep : ∀ r : List Int, (∀ y ∈ r, c.2.1 y ≠ none) → ∀ y ∈ r, put_ c.2.1 b a y ≠ none := fun r hr y hy => by
   unfold put_
   by_cases e : y = b
   ·rw [if_pos e]; simp
   ·rw [if_neg e]; exact hr y hy
  by_cases ht2 : t < c.2.2.length
  ·obtain ⟨r, r1, r2⟩ := h.way t ht2
   rw [List.getElem_append_left ht2]
   exact ⟨r, wayF_put _ _ _ hfb (.inr (.inr trivial)) _ _ _ r1 r2, keep r r2⟩
  ·have hl := h.len
   have ht3 : t = c.2.2.length := by
    have := ht
    rw [List.length_append, List.length_singleton] at this
    omega
   subst ht3
   obtain ⟨ta, hta, hea⟩ := List.mem_iff_getElem.1 ha
   obtain ⟨r, r1, r2⟩ := h.way ta hta
   rw [hea] at r1
   have r3 := wayF_mono _ _ _ _ r1 (c.2.2.length + 1) (by omega)
   rw [List.getElem_append_right (Nat.le_refl _)]
   simp only [Nat.sub_self, List.getElem_cons_zero]
   refine ⟨b :: r, ?_, fun y hy => ?_⟩
   ·have hb3 := hab.2.2.1
    have hb4 := hab.2.2.2.1
    unfold wayF
    rw [if_pos hb3, if_pos (by omega), show (put_ c.2.1 b a b) = some a from if_pos rfl, Option.getD_some, wayF_put _ _ _ hfb (.inr (.inr trivial)) _ _ _ r3 r2]
    rfl
   ·rcases List.mem_cons.1 hy with e | hy
    ·rw [e]; unfold put_; rw [if_pos rfl]; simp
    ·exact keep r r2 y hy
 ·replace hy : y ∈ c.2.2 ++ [b] := hy
  show χ y = χ s ↔ put_ c.1 b (1 - va) y = some 0
  rcases List.mem_append.1 hy with hy | hy
  ·rw [show put_ c.1 b (1 - va) y = c.1 y from if_neg (fun (e : y = b) => hbq (by rw [← e]; exact hy))]
   exact h.tree χ hχ y hy
  ·rw [List.mem_singleton] at hy
   subst hy
   rw [show put_ c.1 y (1 - va) y = some (1 - va) from if_pos rfl]
   have t1 := h.tree χ hχ a ha
   have t2 := hχ a y hab
   rw [hva] at t1
   rcases hv with rfl | rfl
   ·have : χ a = χ s := t1.2 rfl
    rw [this] at t2
    exact ⟨fun e => absurd e.symm t2, fun e => by simp at e⟩
   ·have : χ a ≠ χ s := fun e => by have := t1.1 e; simp at this
    exact ⟨fun _ => rfl, fun _ => by cases h1 : χ a <;> cases h2 : χ s <;> cases h3 : χ y <;> simp_all⟩
theorem two_no {l : List Int} {sd0 : Int → Option Int} {s a b va : Int} {c : Col} (h : Bfs l sd0 s c) (hcl : Closed l sd0) (ha : a ∈ c.2.2) (hva : c.1 a = some va) (hab : Adj l a b) (hb : c.1 b = some va) : b ∈ c.2.2 ∧ ¬ TwoCol l := by
 have hbq : b ∈ c.2.2 := by
  rcases (h.dom b).1 (by rw [hb]; simp) with h1 | h1
  ·exfalso
   cases e : sd0 b with
   | none => exact h1 e
   | some u =>
    obtain ⟨u', h2, _⟩ := hcl b u e a hab.symm
    rw [(h.new a ha).1] at h2
    cases h2
  ·exact h1
 refine ⟨hbq, fun ⟨χ, hχ⟩ => ?_⟩
 have t1 := h.tree χ hχ a ha
 have t2 := h.tree χ hχ b hbq
 have t3 := hχ a b hab
 rw [hva] at t1
 rw [hb] at t2
 have : (χ a = χ s) ↔ (χ b = χ s) := t1.trans t2.symm
 cases h1 : χ a <;> cases h2 : χ b <;> cases h3 : χ s <;> simp_all
theorem colIn_ok {l : List Int} (hl60 : l.length ≤ 60) {sd0 : Int → Option Int} (hcl : Closed l sd0) {s a : Int} : ∀ (bs : List Int) (c : Col), Bfs l sd0 s c → a ∈ c.2.2 → (∀ b ∈ bs, Adj l a b) →
  ∃ c' r, colIn a bs c = some (c', r) ∧ Bfs l sd0 s c' ∧ (∃ ext, c'.2.2 = c.2.2 ++ ext) ∧ (∀ y v, c.1 y = some v → c'.1 y = some v) ∧ (r = none → ∀ b ∈ bs, ∃ v, c'.1 b = some v ∧ c'.1 a ≠ some v) ∧ (∀ b, r = some b → b ∈ c'.2.2 ∧ ¬ TwoCol l)
 | [], c, h, ha, _ => ⟨c, none, rfl, h, ⟨[], by simp⟩, fun _ _ h => h, fun _ b hb => (by cases hb), fun b hb => (by cases hb)⟩
 | b :: bs, c, h, ha, hbs => by
  have hab := hbs b (by simp)
  have hlen := h.len
  have g : 0 ≤ b ∧ b ≤ 1000 ∧ c.2.2.length ≤ 1000 := ⟨hab.2.2.1, by have := hab.2.2.2.1; omega, by omega⟩
  obtain ⟨va, hva⟩ : ∃ va, c.1 a = some va := by
   cases e : c.1 a with
   | none => exact absurd e ((h.dom a).2 (.inr ha))
   | some v => exact ⟨v, rfl⟩
  cases hb : c.1 b with
  | none =>
   obtain ⟨c', r, e1, e2, ⟨ext, e3⟩, e4, e5, e6⟩ := colIn_ok hl60 hcl bs _ (bfs_add hl60 h ha hva hab hb) (List.mem_append_left _ ha) (fun x hx => hbs x (by simp [hx]))
   refine ⟨c', r, ?_, e2, ⟨[b] ++ ext, by rw [e3, List.append_assoc]⟩, fun y v hy => e4 y v ?_, fun hr x hx => ?_, e6⟩
   ·unfold colIn
    rw [if_pos g, hb]
    simp only []
    rw [if_pos ⟨(h.frd b).2 hb, hab.ne⟩]
    exact e1
   ·show put_ c.1 b _ y = some v
    rw [show put_ c.1 b (wrap64 (1 - (c.1 a).getD 0)) y = c.1 y from if_neg (fun (e : y = b) => by rw [e, hb] at hy; cases hy)]
    exact hy
   ·rcases List.mem_cons.1 hx with e | hx
    ·rw [e]
     have hv := h.val a va hva
     have q1 : c'.1 b = some (1 - va) := e4 b (1 - va) (by
      show put_ c.1 b _ b = _
      rw [show put_ c.1 b (wrap64 (1 - (c.1 a).getD 0)) b = some (wrap64 (1 - (c.1 a).getD 0)) from if_pos rfl, hva, Option.getD_some, w64 (by omega) (by omega)])
     have q2 : c'.1 a = some va := e4 a va (by
      show put_ c.1 b _ a = _
      rw [show put_ c.1 b (wrap64 (1 - (c.1 a).getD 0)) a = c.1 a from if_neg hab.ne]
      exact hva)
     exact ⟨1 - va, q1, by rw [q2]; intro e; injection e with e; omega⟩
    ·exact e5 hr x hx
  | some sb =>
   by_cases ce : sb = va
   ·subst ce
    have ht := two_no h hcl ha hva hab hb
    refine ⟨c, some b, ?_, h, ⟨[], by simp⟩, fun _ _ h => h, fun h => (by cases h), fun b' hb' => ?_⟩
    ·unfold colIn
     rw [if_pos g, hb]
     simp only []
     rw [hva, Option.getD_some, if_pos rfl]
    ·injection hb' with e
     subst e
     exact ht
   ·obtain ⟨c', r, e1, e2, e3, e4, e5, e6⟩ := colIn_ok hl60 hcl bs c h ha (fun x hx => hbs x (by simp [hx]))
    refine ⟨c', r, ?_, e2, e3, e4, fun hr x hx => ?_, e6⟩
    ·unfold colIn
     rw [if_pos g, hb]
     simp only []
     rw [hva, Option.getD_some, if_neg ce]
     exact e1
    ·rcases List.mem_cons.1 hx with e | hx
     ·rw [e]
      exact ⟨sb, e4 b sb hb, by rw [e4 a va hva]; intro e; injection e with e; exact ce e.symm⟩
     ·exact e5 hr x hx
theorem colOut_ok {l : List Int} (hl60 : l.length ≤ 60) {near : List (List Int)} (hn : NearOk l near) {sd0 : Int → Option Int} (hcl : Closed l sd0) {s : Int} : ∀ (f i : Nat) (c : Col), f + i = 100 → i ≤ c.2.2.length → Bfs l sd0 s c → Done l c i →
  ∃ c' r, colOut near f (i : Int) c = some (c', r) ∧ Bfs l sd0 s c' ∧ (∃ ext, c'.2.2 = c.2.2 ++ ext) ∧ (r = none → Done l c' c'.2.2.length) ∧ (∀ a b, r = some (a, b) → a ∈ c'.2.2 ∧ b ∈ c'.2.2 ∧ ¬ TwoCol l) := by
 intro f
 induction f with
 | zero =>
  intro i c h hi hb _
  have := hb.len
  omega
 | succ f ih =>
  intro i c h hi hb hdn
  have hlen := hb.len
  by_cases c1 : (i : Int) < (c.2.2.length : Int)
  ·have ha : rd c.2.2 (i : Int) ∈ c.2.2 := rd_mem (by omega) c1
   obtain ⟨a, hae⟩ : ∃ a, a = rd c.2.2 (i : Int) := ⟨_, rfl⟩
   rw [← hae] at ha
   have har := hb.new a ha
   have hadj : ∀ b ∈ near_ near a, Adj l a b := fun b hb' => (hn.2 a har.2.1 har.2.2 b).1 hb'
   obtain ⟨c', r, e1, e2, ⟨ext, e3⟩, e4, e5, e6⟩ := colIn_ok hl60 hcl (near_ near a) c hb ha hadj
   have hrd : ∀ t : Nat, t < c.2.2.length → rd c'.2.2 (t : Int) = rd c.2.2 (t : Int) := fun t ht => by
    rw [e3, rd_lt _ t (by rw [List.length_append]; omega), rd_lt _ t ht, List.getElem_append_left ht]
   have hguard : 0 ≤ a ∧ a < near.length ∧ a ≤ 1000 := ⟨har.2.1, by rw [hn.1]; exact har.2.2, by omega⟩
   have hst : colOut near (f + 1) (i : Int) c = (colIn a (near_ near a) c).bind fun p => match p.2 with | some b => some (p.1, some (a, b)) | none => colOut near f ((i : Int) + 1) p.1 := by
    rw [colOut, if_pos c1, ← hae, if_pos hguard]
    rfl
   cases r with
   | some b =>
    have := e6 b rfl
    exact ⟨c', some (a, b), by rw [hst, e1]; rfl, e2, ⟨ext, e3⟩, fun h => (by cases h), fun a' b' h' => by
     injection h' with h'
     injection h' with h1 h2
     subst h1; subst h2
     exact ⟨by rw [e3]; exact List.mem_append_left _ ha, this.1, this.2⟩⟩
   | none =>
    have hdn' : Done l c' (i + 1) := by
     intro t ht b hab
     rw [hrd t (by omega)] at hab ⊢
     by_cases et : t = i
     ·subst et
      rw [← hae] at hab ⊢
      exact e5 rfl b ((hn.2 a har.2.1 har.2.2 b).2 hab)
     ·obtain ⟨v, v1, v2⟩ := hdn t (by omega) b hab
      refine ⟨v, e4 b v v1, ?_⟩
      have htm : rd c.2.2 (t : Int) ∈ c.2.2 := rd_mem (by omega) (by omega)
      cases et2 : c.1 (rd c.2.2 (t : Int)) with
      | none => exact absurd et2 ((hb.dom _).2 (.inr htm))
      | some u => rw [e4 _ u et2]; rw [et2] at v2; exact v2
    obtain ⟨c2, r2, f1, f2, ⟨ext2, f3⟩, f4, f5⟩ := ih (i + 1) c' (by omega) (by rw [e3, List.length_append]; omega) e2 hdn'
    refine ⟨c2, r2, ?_, f2, ⟨ext ++ ext2, by rw [f3, e3, List.append_assoc]⟩, f4, f5⟩
    rw [hst, e1]
    exact f1
  ·have hi2 : i = c.2.2.length := by omega
   refine ⟨c, none, ?_, hb, ⟨[], by simp⟩, fun _ => by rw [← hi2]; exact hdn, fun a b h => (by cases h)⟩
   unfold colOut
   rw [if_neg c1]
/-- What holds between two visits. -/
structure Sound (l : List Int) (sd fr : Int → Option Int) : Prop where
 closed : Closed l sd
 val : ∀ y v, sd y = some v → v = 0 ∨ v = 1
 frd : ∀ y, fr y = none ↔ sd y = none
theorem visit_ok {l : List Int} (hl60 : l.length ≤ 60) {near : List (List Int)} (hn : NearOk l near) {sd fr : Int → Option Int} (h : Sound l sd fr) {s : Int} (h0 : 0 ≤ s) (h1 : s < l.length) (hs : sd s = none) :
  ∃ c r, visitF near sd fr s = some (c, r) ∧ (∀ y, sd y ≠ none → c.1 y = sd y) ∧ (r = none → Sound l c.1 c.2.1 ∧ c.1 s ≠ none) ∧
   (∀ a b, r = some (a, b) → ¬ TwoCol l ∧ (∃ p, wayF c.2.1 100 a = some (a :: p) ∧ (a :: p).length ≤ 100) ∧ ∃ q, wayF c.2.1 100 b = some (b :: q) ∧ (b :: q).length ≤ 100) := by
 have hb : Bfs l sd s (put_ sd s 0, put_ fr s (-1), [s]) := by
  refine ⟨fun y hy => ?_, fun y => ?_, fun y hy => ?_, by simp, fun y v hy => ?_, fun y => ?_, fun t ht => ?_, fun χ hχ y hy => ?_⟩
  ·exact if_neg (fun (e : y = s) => hy (by rw [e]; exact hs))
  ·show put_ sd s 0 y ≠ none ↔ _
   unfold put_
   by_cases e : y = s
   ·rw [if_pos e]; simp [e]
   ·rw [if_neg e]; simp [e]
  ·rw [List.mem_singleton] at hy
   subst hy
   exact ⟨hs, h0, h1⟩
  ·replace hy : put_ sd s 0 y = some v := hy
   unfold put_ at hy
   by_cases e : y = s
   ·rw [if_pos e] at hy
    injection hy with hy
    omega
   ·rw [if_neg e] at hy
    exact h.val y v hy
  ·show put_ fr s (-1) y = none ↔ put_ sd s 0 y = none
   unfold put_
   by_cases e : y = s
   ·rw [if_pos e, if_pos e]; simp
   ·rw [if_neg e, if_neg e]; exact h.frd y
  ·have ht0 : t = 0 := by simpa using ht
   subst ht0
   refine ⟨[s], ?_, fun y hy => ?_⟩
   ·show wayF (put_ fr s (-1)) 2 s = some [s]
    unfold wayF
    rw [if_pos h0, if_pos (by omega), show put_ fr s (-1) s = some (-1) from if_pos rfl, Option.getD_some]
    rfl
   ·rw [List.mem_singleton] at hy
    rw [hy]
    show put_ fr s (-1) s ≠ none
    unfold put_
    rw [if_pos rfl]
    simp
  ·rw [List.mem_singleton] at hy
   subst hy
   exact ⟨fun _ => if_pos rfl, fun _ => rfl⟩
 obtain ⟨c, r, e1, e2, ⟨ext, e3⟩, e4, e5⟩ := colOut_ok hl60 hn h.closed 100 0 _ (by omega) (by simp) hb (fun t ht => by omega)
 have hq : s ∈ c.2.2 := by rw [e3]; simp
 refine ⟨c, r, ?_, e2.old, fun hr => ⟨⟨?_, e2.val, e2.frd⟩, ?_⟩, fun a b hr => ?_⟩
 ·unfold visitF
  rw [if_pos ⟨h0, by omega, hs, (h.frd s).2 hs⟩]
  exact e1
 ·intro x v hx y hxy
  rcases (e2.dom x).1 (by rw [hx]; simp) with h2 | h2
  ·rw [e2.old x h2] at hx
   obtain ⟨u, u1, u2⟩ := h.closed x v hx y hxy
   exact ⟨u, by rw [e2.old y (by rw [u1]; simp)]; exact u1, u2⟩
  ·obtain ⟨t, ht, et⟩ := List.mem_iff_getElem.1 h2
   have hrd : rd c.2.2 (t : Int) = x := by rw [rd_lt _ t ht]; exact et
   obtain ⟨u, u1, u2⟩ := e4 hr t ht y (by rw [hrd]; exact hxy)
   rw [hrd, hx] at u2
   exact ⟨u, u1, fun e => u2 (by rw [e])⟩
 ·exact (e2.dom s).2 (.inr hq)
 ·obtain ⟨a1, a2, a3⟩ := e5 a b hr
  have hlen := e2.len
  have way : ∀ x ∈ c.2.2, ∃ p, wayF c.2.1 100 x = some (x :: p) ∧ (x :: p).length ≤ 100 := fun x hx => by
   obtain ⟨t, ht, et⟩ := List.mem_iff_getElem.1 hx
   obtain ⟨r', r1, _⟩ := e2.way t ht
   rw [et] at r1
   have r2 := wayF_mono _ _ _ _ r1 100 (by omega)
   have hx0 := (e2.new x hx).2.1
   have r3 := wayF_len _ _ _ _ r2
   have r4 := r2
   unfold wayF at r2
   rw [if_pos hx0] at r2
   by_cases c2 : x ≤ 1000
   ·rw [if_pos c2] at r2
    obtain ⟨p, _, hp⟩ := Option.map_eq_some_iff.mp r2
    subst hp
    exact ⟨p, r4, r3⟩
   ·rw [if_neg c2] at r2; cases r2
  exact ⟨a3, way a a1, way b a2⟩
theorem trimR_ne : ∀ (P Q : List Int), (P ≠ [] → (trimR P Q).1 ≠ []) ∧ (Q ≠ [] → (trimR P Q).2 ≠ []) ∧ (trimR P Q).1.length ≤ P.length ∧ (trimR P Q).2.length ≤ Q.length
 | [], Q => by rw [show trimR [] Q = ([], Q) by unfold trimR; rfl]; exact ⟨fun h => h, fun h => h, Nat.le_refl _, Nat.le_refl _⟩
 | [x], Q => by rw [show trimR [x] Q = ([x], Q) by unfold trimR; rfl]; exact ⟨fun h => h, fun h => h, Nat.le_refl _, Nat.le_refl _⟩
 | x :: y :: s, [] => by rw [show trimR (x :: y :: s) [] = (x :: y :: s, []) by unfold trimR; rfl]; exact ⟨fun h => h, fun h => h, Nat.le_refl _, Nat.le_refl _⟩
 | x :: y :: s, [x'] => by rw [show trimR (x :: y :: s) [x'] = (x :: y :: s, [x']) by unfold trimR; rfl]; exact ⟨fun h => h, fun h => h, Nat.le_refl _, Nat.le_refl _⟩
 | x :: y :: s, x' :: y' :: t => by
  by_cases c : y = y'
  ·have e : trimR (x :: y :: s) (x' :: y' :: t) = trimR (y :: s) (y' :: t) := by rw [trimR, if_pos c]
   rw [e]
   have := trimR_ne (y :: s) (y' :: t)
   exact ⟨fun _ => this.1 (by simp), fun _ => this.2.1 (by simp), by have := this.2.2.1; simp at this ⊢; omega, by have := this.2.2.2; simp at this ⊢; omega⟩
  ·have e : trimR (x :: y :: s) (x' :: y' :: t) = (x :: y :: s, x' :: y' :: t) := by rw [trimR, if_neg c]
   rw [e]
   exact ⟨fun h => h, fun h => h, Nat.le_refl _, Nat.le_refl _⟩
/-- The cycle that close finds. -/
def cycleOf (p q : List Int) : List Int := (trimR p.reverse q.reverse).1.reverse ++ (trimR p.reverse q.reverse).2.drop 1
theorem closeF_ev {fr : Int → Option Int} {a b : Int} {p q : List Int} (hp : wayF fr 100 a = some p) (hq : wayF fr 100 b = some q) (hp0 : p ≠ []) (hq0 : q ≠ []) (hql : q.length ≤ 100) :
  Ev (fun k => closeF (slices_Reverse_int_int.f k) fr a b) (cycleOf p q) ∧ cycleOf p q ≠ [] := by
 obtain ⟨t1, t2, t3, t4⟩ := trimR_ne p.reverse q.reverse
 have n1 := t1 (by simpa using hp0)
 have n2 := t2 (by simpa using hq0)
 have hrev := reverse_ev (trimR p.reverse q.reverse).2.reverse (by have h4 := t4; rw [List.length_reverse] at h4; rw [List.length_reverse]; omega)
 rw [List.reverse_reverse] at hrev
 constructor
 ·refine Ev.congr (f := fun k => (slices_Reverse_int_int.f k (trimR p.reverse q.reverse).2.reverse).bind fun q' => if q'.length = 0 then none else some ((trimR p.reverse q.reverse).1.reverse ++ q'.drop 1)) (fun k => ?_) ?_
  ·unfold closeF
   rw [hp, hq]
   rfl
  ·refine Ev.bind (f := fun k (q' : List Int) => if q'.length = 0 then none else some ((trimR p.reverse q.reverse).1.reverse ++ q'.drop 1)) hrev ?_
   refine Ev.congr (fun k => ?_) (Ev.now _)
   rw [if_neg (fun e => n2 (List.eq_nil_of_length_eq_zero e))]
   rfl
 ·intro e
  have := (List.append_eq_nil_iff.1 e).1
  exact n1 (by simpa using this)
theorem stacksGo_ok {l : List Int} (hl60 : l.length ≤ 60) {near : List (List Int)} (hn : NearOk l near) : ∀ (m : Nat) (i : Nat) (sd fr : Int → Option Int) (acc : List Int), i + m = l.length → Sound l sd fr → acc.length = i → (∀ t : Nat, t < i → sd (t : Int) = some (rd acc (t : Int))) →
  ∃ s c, Ev (fun k => stacksGo (slices_Reverse_int_int.f k) near m (i : Int) sd fr acc) (s, c) ∧ ((c = [] ∧ s.length = l.length ∧ SidesOk l s) ∨ (s = [] ∧ c ≠ [] ∧ ¬ TwoCol l)) := by
 intro m
 induction m with
 | zero =>
  intro i sd fr acc h hs hal hacc
  have hi : i = l.length := by omega
  refine ⟨acc, [], Ev.congr (fun k => rfl) (Ev.now _), .inl ⟨rfl, by omega, fun x hx => ?_, fun a b hab hb he hc => ?_⟩⟩
  ·obtain ⟨t, ht, et⟩ := List.mem_iff_getElem.1 hx
   have := hs.val _ _ (hacc t (by omega))
   rw [rd_lt _ t ht, et] at this
   exact this
  ·have hadj : Adj l (a : Int) (b : Int) := ⟨by omega, by omega, by omega, by omega, .inl ⟨by omega, by simpa using hc⟩⟩
   obtain ⟨u, u1, u2⟩ := hs.closed _ _ (hacc a (by omega)) _ hadj
   rw [hacc b (by omega)] at u1
   injection u1 with u1
   exact u2 (by rw [← u1]; exact he.symm)
 | succ m ih =>
  intro i sd fr acc h hs hal hacc
  have hsnoc : ∀ v : Int, ∀ t : Nat, t < i + 1 → rd (acc ++ [v]) (t : Int) = if t = i then v else rd acc (t : Int) := fun v t ht => by
   rw [rd_lt _ t (by rw [List.length_append, List.length_singleton]; omega)]
   by_cases e : t = i
   ·subst e
    rw [if_pos rfl, List.getElem_append_right (by omega)]
    simp [hal]
   ·rw [if_neg e, List.getElem_append_left (by omega), rd_lt _ t (by omega)]
  cases hsd : sd (i : Int) with
  | some v =>
   obtain ⟨s, c, e1, e2⟩ := ih (i + 1) sd fr (acc ++ [v]) (by omega) hs (by simp [hal]) (fun t ht => by
    rw [hsnoc v t ht]
    by_cases e : t = i
    ·rw [if_pos e, e]; exact hsd
    ·rw [if_neg e]; exact hacc t (by omega))
   refine ⟨s, c, Ev.congr (fun k => ?_) e1, e2⟩
   rw [stacksGo, hsd]
   rfl
  | none =>
   obtain ⟨c, r, v1, v2, v3, v4⟩ := visit_ok hl60 hn hs (show (0 : Int) ≤ (i : Int) by omega) (by omega) hsd
   cases r with
   | none =>
    obtain ⟨w1, w2⟩ := v3 rfl
    obtain ⟨s, cc, e1, e2⟩ := ih (i + 1) c.1 c.2.1 (acc ++ [(c.1 (i : Int)).getD 0]) (by omega) w1 (by simp [hal]) (fun t ht => by
     rw [hsnoc _ t ht]
     by_cases e : t = i
     ·rw [if_pos e, e]
      cases e3 : c.1 (i : Int) with
      | none => exact absurd e3 w2
      | some v => rfl
     ·rw [if_neg e, v2 _ (by rw [hacc t (by omega)]; simp)]
      exact hacc t (by omega))
    refine ⟨s, cc, Ev.congr (fun k => ?_) e1, e2⟩
    rw [stacksGo, hsd]
    simp only [v1, Option.bind_some]
    rfl
   | some ab =>
    obtain ⟨a, b⟩ := ab
    obtain ⟨n1, ⟨p, p1, p2⟩, q, q1, q2⟩ := v4 a b rfl
    obtain ⟨c1, c2⟩ := closeF_ev p1 q1 (by simp) (by simp) q2
    refine ⟨[], cycleOf (a :: p) (b :: q), Ev.congr (f := fun k => (closeF (slices_Reverse_int_int.f k) c.2.1 a b).bind fun cc => some (([] : List Int), cc)) (fun k => ?_) (Ev.bind (f := fun k cc => some (([] : List Int), cc)) c1 (Ev.now _)), .inr ⟨rfl, c2, n1⟩⟩
    rw [stacksGo, hsd]
    simp only [v1, Option.bind_some]
/-- What Stacks answers for an order. -/
theorem Stacks_ev (l : List Int) (h : IsOrd l) (hl : l.length ≤ 60) : ∃ s c, Ev (fun k => shunt_Stacks.f k l) (s, c, 0) ∧ ((c = [] ∧ s.length = l.length ∧ SidesOk l s) ∨ (s = [] ∧ c ≠ [] ∧ ¬ TwoCol l)) := by
 obtain ⟨near, n1, n2⟩ := conflicts_ev l h.1 hl
 obtain ⟨s, c, e1, e2⟩ := stacksGo_ok hl n2 l.length 0 (fun _ => none) (fun _ => none) [] (by omega) ⟨fun x v hx => (by cases hx), fun y v hy => (by cases hy), fun y => Iff.rfl⟩ rfl (fun t ht => by omega)
 refine ⟨s, c, Ev.congr (f := fun k => (shunt_conflicts.f k l).bind fun near => (stacksGo (slices_Reverse_int_int.f k) near l.length 0 (fun _ => none) (fun _ => none) []).bind fun p => some (p.1, p.2, 0)) (fun k => ?_) ?_, e2⟩
 ·unfold shunt_Stacks.f
  rw [if_pos ((isOrderB_iff l).2 ⟨hl, h⟩)]
 ·refine Ev.bind (f := fun k near => (stacksGo (slices_Reverse_int_int.f k) near l.length 0 (fun _ => none) (fun _ => none) []).bind fun p => some (p.1, p.2, (0 : Int))) n1 ?_
  exact Ev.bind (f := fun k (p : List Int × List Int) => some (p.1, p.2, (0 : Int))) e1 (Ev.now _)

theorem index_loop (l : List Int) (x : Int) (hl : l.length ≤ 1000000) : ∀ (d i : Nat), i + d = l.length → ∃ r : Int, Ev (fun k => slices_Index_int_int.l0 k l x (l.length : Int) (i : Int)) r ∧ (0 ≤ r ↔ x ∈ l.drop i)
 | 0, i, h => by
  refine ⟨-1, Ev.step (fun k => ?_) (Ev.now _), ?_⟩
  ·simp only [slices_Index_int_int.l0]
   rw [if_neg (by omega)]
  ·rw [List.drop_eq_nil_of_le (by omega)]
   simp
 | d + 1, i, h => by
  rw [drop_cons l i (by omega)]
  by_cases he : x = rd l (i : Int)
  ·refine ⟨i, Ev.step (fun k => ?_) (Ev.now _), ⟨fun _ => by rw [he]; exact List.mem_cons_self, fun _ => by omega⟩⟩
   simp only [slices_Index_int_int.l0]
   rw [if_pos (by omega), if_pos (by omega), if_pos (by omega), if_pos he]
  ·obtain ⟨r, h1, h2⟩ := index_loop l x hl d (i + 1) (by omega)
   refine ⟨r, Ev.step (fun k => ?_) h1, h2.trans ?_⟩
   ·simp only [slices_Index_int_int.l0]
    rw [if_pos (by omega), if_pos (by omega), if_pos (by omega), if_neg he, w64 (by omega) (by omega)]
    rfl
   ·rw [List.mem_cons]
    exact ⟨fun h => .inr h, fun h => h.elim (fun h => absurd h he) id⟩
theorem contains_ev (l : List Int) (x : Int) (hl : l.length ≤ 1000000) : Ev (fun k => slices_Contains_int_int.f k l x) (decide (x ∈ l)) := by
 obtain ⟨r, h1, h2⟩ := index_loop l x hl l.length 0 (by omega)
 have e : decide (r ≥ 0) = decide (x ∈ l) := by
  rw [decide_eq_decide]
  exact h2
 rw [← e]
 exact Ev.bind (f := fun _ t => some (decide (t ≥ 0))) h1 (Ev.now _)
/-- The position after the i-th one of a cycle. -/
def nextOf (b : List Int) (i : Nat) : Int := rd b (((i + 1) % b.length : Nat) : Int)
def Edges (l b : List Int) (i : Nat) : Prop := ∀ j : Nat, i ≤ j → j < b.length → Conf l (mn (rd b j) (nextOf b j)).toNat (mx (rd b j) (nextOf b j)).toNat
/-- A block for two stacks: a cycle of odd length. -/
def Cyc (l b : List Int) : Prop := 3 ≤ b.length ∧ b.length % 2 = 1 ∧ ((∀ x ∈ b, 0 ≤ x ∧ x < l.length) ∧ b.Nodup) ∧ Edges l b 0
theorem step_mod (b : List Int) (i : Nat) (hi : i < b.length) (hl : b.length ≤ 1000000) : Int.tmod (wrap64 ((i : Int) + 1)) (b.length : Int) = (((i + 1) % b.length : Nat) : Int) ∧ (i + 1) % b.length < b.length := by
 refine ⟨?_, Nat.mod_lt _ (by omega)⟩
 rw [w64 (by omega) (by omega), Int.tmod_eq_emod_of_nonneg (by omega)]
 exact (Int.natCast_emod (i + 1) b.length).symm
theorem step_ne (b : List Int) (i : Nat) (hi : i < b.length) (h3 : 3 ≤ b.length) (hd : b.Nodup) : rd b i ≠ nextOf b i := by
 have hm : (i + 1) % b.length < b.length := Nat.mod_lt _ (by omega)
 have hne : i ≠ (i + 1) % b.length := by
  by_cases c : i + 1 < b.length
  ·rw [Nat.mod_eq_of_lt c]; omega
  ·have : i + 1 = b.length := by omega
   rw [this, Nat.mod_self]
   omega
 unfold nextOf
 rw [rd_lt b i hi, rd_lt b _ hm]
 rcases Nat.lt_or_gt_of_ne hne with h | h
 ·exact List.pairwise_iff_getElem.1 hd _ _ hi hm h
 ·exact fun e => List.pairwise_iff_getElem.1 hd _ _ hm hi h e.symm
theorem mm_range {l : List Int} {x y : Int} (hx : 0 ≤ x ∧ x < l.length) (hy : 0 ≤ y ∧ y < l.length) (hne : x ≠ y) : mn x y = ((mn x y).toNat : Int) ∧ mx x y = ((mx x y).toNat : Int) ∧ (mn x y).toNat < (mx x y).toNat ∧ (mx x y).toNat < l.length := by
 unfold mn mx
 refine ⟨?_, ?_, ?_, ?_⟩ <;> (repeat' split) <;> omega
theorem edges_step {l b : List Int} {i : Nat} (hi : i < b.length) : Edges l b i ↔ Conf l (mn (rd b i) (nextOf b i)).toNat (mx (rd b i) (nextOf b i)).toNat ∧ Edges l b (i + 1) := by
 constructor
 ·exact fun h => ⟨h i (Nat.le_refl _) hi, fun j h1 h2 => h j (by omega) h2⟩
 ·rintro ⟨h1, h2⟩ j h3 h4
  by_cases e : j = i
  ·subst e; exact h1
  ·exact h2 j (by omega) h4
theorem cycle_l1 (l b : List Int) (hd : l.Nodup) (hl : l.length ≤ 60) (hb : b.length ≤ 1000) (h3 : 3 ≤ b.length) (hr : ∀ x ∈ b, 0 ≤ x ∧ x < l.length) (hbd : b.Nodup) : ∀ (d i : Nat), i + d = b.length →
  ∃ r, Ev (fun k => shunt_isCycle.l1 k l b b (b.length : Int) (i : Int)) r ∧ (r = true ↔ Edges l b i)
 | 0, i, h => by
  refine ⟨true, Ev.step (fun k => ?_) (Ev.now _), ⟨fun _ j h1 h2 => by omega, fun _ => rfl⟩⟩
  simp only [shunt_isCycle.l1]
  rw [if_neg (by omega)]
 | d + 1, i, h => by
  obtain ⟨s1, s2⟩ := step_mod b i (by omega) (by omega)
  have hx := hr _ (rd_mem (l := b) (x := (i : Int)) (by omega) (by omega))
  have hy := hr _ (rd_mem (l := b) (x := (((i + 1) % b.length : Nat) : Int)) (by omega) (by omega))
  obtain ⟨m1, m2, m3, m4⟩ := mm_range hx hy (step_ne b i (by omega) h3 hbd)
  obtain ⟨q, q1, q2⟩ := conf_ev l _ _ hd m3 m4 (by omega)
  rw [← m1, ← m2] at q1
  have hst : ∀ k, shunt_isCycle.l1 (k + 1) l b b (b.length : Int) (i : Int) = (shunt_blocking.f k l (mn (rd b i) (nextOf b i)) (mx (rd b i) (nextOf b i))).bind fun t528 => (if t528 = 0 then (some false) else (shunt_isCycle.l1 k l b b (b.length : Int) ((i + 1 : Nat) : Int))) := by
   intro k
   simp only [shunt_isCycle.l1]
   rw [if_pos (by omega), if_pos (by omega), if_pos (by omega), if_neg (by omega), s1, if_pos (by omega), if_pos (by omega), w64 (by omega) (by omega)]
   rfl
  by_cases c : q = 0
  ·refine ⟨false, Ev.step hst (Ev.bind (f := fun k t528 => (if t528 = 0 then (some false) else (shunt_isCycle.l1 k l b b (b.length : Int) ((i + 1 : Nat) : Int)))) q1 (Ev.congr (fun k => if_pos c) (Ev.now _))), ⟨fun h => (by cases h), fun h => absurd c (q2.2 ((edges_step (by omega)).1 h).1)⟩⟩
  ·obtain ⟨r, h1, h2⟩ := cycle_l1 l b hd hl hb h3 hr hbd d (i + 1) (by omega)
   refine ⟨r, Ev.step hst (Ev.bind (f := fun k t528 => (if t528 = 0 then (some false) else (shunt_isCycle.l1 k l b b (b.length : Int) ((i + 1 : Nat) : Int)))) q1 (Ev.congr (fun k => if_neg c) h1)), ?_⟩
   rw [h2, edges_step (i := i) (by omega)]
   exact ⟨fun h => ⟨q2.1 c, h⟩, fun h => h.2⟩
theorem cycle_l0 (l b : List Int) (hd : l.Nodup) (hl : l.length ≤ 60) (hb : b.length ≤ 1000) (h3 : 3 ≤ b.length) : ∀ (d i : Nat), i + d = b.length → (b.take i).Nodup → (∀ x ∈ b.take i, 0 ≤ x ∧ x < (l.length : Int)) →
  ∃ r, Ev (fun k => shunt_isCycle.l0 k l b b (b.length : Int) (i : Int)) r ∧ (r = true ↔ ((∀ x ∈ b, 0 ≤ x ∧ x < (l.length : Int)) ∧ b.Nodup) ∧ Edges l b 0)
 | 0, i, h, n1, n2 => by
  rw [List.take_of_length_le (by omega)] at n1 n2
  obtain ⟨r, h1, h2⟩ := cycle_l1 l b hd hl hb h3 n2 n1 b.length 0 (by omega)
  refine ⟨r, Ev.step (fun k => ?_) h1, h2.trans ⟨fun h => ⟨⟨n2, n1⟩, h⟩, fun h => h.2⟩⟩
  simp only [shunt_isCycle.l0]
  rw [if_neg (by omega)]
  rfl
 | d + 1, i, h, n1, n2 => by
  have hi : i < b.length := by omega
  have hm : rd b (i : Int) ∈ b := rd_mem (by omega) (by omega)
  have e : b.take (i + 1) = b.take i ++ [rd b (i : Int)] := by rw [rd_lt b i hi, List.take_succ_eq_append_getElem hi]
  have hw : shunt_within.f (rd b i) 0 (wrap64 ((l.length : Int) - 1)) = some (decide (0 ≤ rd b i ∧ rd b i < (l.length : Int))) := by
   rw [w64 (by omega) (by omega)]
   unfold shunt_within.f
   by_cases c : rd b i ≥ 0
   ·rw [if_pos c]
    congr 1
    rw [decide_eq_decide]
    omega
   ·rw [if_neg c, decide_eq_false (by omega)]
  have hst : ∀ k, shunt_isCycle.l0 (k + 1) l b b (b.length : Int) (i : Int) = if decide (0 ≤ rd b i ∧ rd b i < (l.length : Int)) = true then (slices_Contains_int_int.f k (b.take i) (rd b i)).bind fun t525 => (if t525 = true then (some false) else (shunt_isCycle.l0 k l b b (b.length : Int) ((i + 1 : Nat) : Int))) else some false := by
   intro k
   simp only [shunt_isCycle.l0]
   rw [if_pos (by omega), if_pos (by omega), if_pos (by omega), hw, w64 (x := (i : Int) + 1) (by omega) (by omega), if_pos (show (i : Int) ≤ (b.length : Int) by omega)]
   rfl
  by_cases c : 0 ≤ rd b i ∧ rd b i < (l.length : Int)
  ·have hc := contains_ev (b.take i) (rd b i) (by rw [List.length_take]; omega)
   have hst2 : ∀ k, shunt_isCycle.l0 (k + 1) l b b (b.length : Int) (i : Int) = (slices_Contains_int_int.f k (b.take i) (rd b i)).bind fun t525 => (if t525 = true then (some false) else (shunt_isCycle.l0 k l b b (b.length : Int) ((i + 1 : Nat) : Int))) := by
    intro k
    rw [hst, if_pos (decide_eq_true c)]
   by_cases c2 : rd b i ∈ b.take i
   ·refine ⟨false, Ev.step hst2 (Ev.bind (f := fun k (t525 : Bool) => (if t525 = true then (some false) else (shunt_isCycle.l0 k l b b (b.length : Int) ((i + 1 : Nat) : Int)))) hc (Ev.congr (fun k => if_pos (decide_eq_true c2)) (Ev.now _))), ⟨fun h => (by cases h), fun h => ?_⟩⟩
    exfalso
    have hn := h.1.2
    rw [← List.take_append_drop i b, drop_cons b i hi] at hn
    exact (List.nodup_append.1 hn).2.2 _ c2 (rd b (i : Int)) (by simp) rfl
   ·obtain ⟨r, h1, h2⟩ := cycle_l0 l b hd hl hb h3 d (i + 1) (by omega) (by
     rw [e, List.nodup_append]
     refine ⟨n1, by simp, fun a ha x hx => ?_⟩
     rw [List.mem_singleton] at hx
     subst hx
     exact fun e => c2 (e ▸ ha)) (by
     rw [e]
     intro x hx
     rcases List.mem_append.1 hx with hx | hx
     ·exact n2 x hx
     ·rw [List.mem_singleton] at hx
      subst hx
      exact c)
    exact ⟨r, Ev.step hst2 (Ev.bind (f := fun k (t525 : Bool) => (if t525 = true then (some false) else (shunt_isCycle.l0 k l b b (b.length : Int) ((i + 1 : Nat) : Int)))) hc (Ev.congr (fun k => if_neg (by rw [decide_eq_true_eq]; exact c2)) h1)), h2⟩
  ·refine ⟨false, Ev.step (fun k => (hst k).trans (if_neg (by rw [decide_eq_true_eq]; exact c))) (Ev.now _), ⟨fun h => (by cases h), fun h => absurd (h.1.1 _ hm) c⟩⟩
theorem isCycle_ev (l b : List Int) (hd : l.Nodup) (hl : l.length ≤ 60) (hb : b.length ≤ 1000) : ∃ r, Ev (fun k => shunt_isCycle.f k l b) r ∧ (r = true ↔ Cyc l b) := by
 have hno : Ev (fun k => shunt_isCycle.j0 k l b true) false := Ev.step (f := fun _ => some false) (fun k => by simp only [shunt_isCycle.j0, if_true]) (Ev.now _)
 by_cases c1 : ((b.length : Int) % 2) = 0
 ·exact ⟨false, Ev.congr (fun k => if_pos c1) hno, ⟨fun h => (by cases h), fun h => by have := h.2.1; omega⟩⟩
 ·by_cases c2 : (b.length : Int) < 3
  ·exact ⟨false, Ev.congr (fun k => (if_neg c1).trans (by rw [decide_eq_true c2])) hno, ⟨fun h => (by cases h), fun h => by have := h.1; omega⟩⟩
  ·obtain ⟨r, h1, h2⟩ := cycle_l0 l b hd hl hb (by omega) b.length 0 (by omega) (by simp) (by simp)
   refine ⟨r, Ev.congr (fun k => (if_neg c1).trans (by rw [decide_eq_false c2])) (Ev.step (fun k => ?_) h1), h2.trans ⟨fun h => ⟨by omega, by omega, h⟩, fun h => h.2.2⟩⟩
   simp only [shunt_isCycle.j0]
   rw [if_neg (by decide)]
   rfl
theorem sides_l1 (l s : List Int) (hd : l.Nodup) (hl : l.length ≤ 60) (hs : s.length = l.length) (b : Nat) (hb : b < l.length) : ∀ (d a : Nat) (right : Bool), a + d = b →
  ∃ r : Bool, (r = true ↔ right = true ∧ ∀ a' : Nat, a ≤ a' → a' < b → rd s a' = rd s b → ¬ Conf l a' b) ∧ ∀ R, Ev (fun k => shunt_CheckStacks.l0 k l s r (s.length : Int) ((b + 1 : Nat) : Int)) R → Ev (fun k => shunt_CheckStacks.l1 k l s right (b : Int) (s.length : Int) (b : Int) (b : Int) (a : Int)) R
 | 0, a, right, h => by
  refine ⟨right, ⟨fun h => ⟨h, fun a' h1 h2 => by omega⟩, fun h => h.1⟩, fun R hR => Ev.step (fun k => ?_) hR⟩
  simp only [shunt_CheckStacks.l1]
  rw [if_neg (by omega), w64 (by omega) (by omega)]
  rfl
 | d + 1, a, right, h => by
  have ih := sides_l1 l s hd hl hs b hb d (a + 1)
  have split : ∀ P : Prop, ((∀ a' : Nat, a ≤ a' → a' < b → rd s a' = rd s b → ¬ Conf l a' b) ↔ ((rd s a = rd s b → ¬ Conf l a b) ∧ ∀ a' : Nat, a + 1 ≤ a' → a' < b → rd s a' = rd s b → ¬ Conf l a' b)) := by
   intro _
   constructor
   ·exact fun h' => ⟨h' a (Nat.le_refl _) (by omega), fun a' q1 => h' a' (by omega)⟩
   ·rintro ⟨q1, q2⟩ a' q3 q4
    by_cases e : a' = a
    ·subst e; exact q1
    ·exact q2 a' (by omega) q4
  cases right with
  | false =>
   obtain ⟨r, h1, h2⟩ := ih false (by omega)
   have hr : r = false := by
    cases r with
    | false => rfl
    | true => exact absurd (h1.1 rfl).1 (by decide)
   subst hr
   refine ⟨false, ⟨fun h => (by cases h), fun h => absurd h.1 (by decide)⟩, fun R hR => Ev.step (fun k => ?_) (h2 R hR)⟩
   simp only [shunt_CheckStacks.l1]
   rw [if_pos (by omega), if_neg (by decide), w64 (by omega) (by omega)]
   rfl
  | true =>
   by_cases c : rd s a = rd s b
   ·obtain ⟨q, q1, q2⟩ := conf_ev l a b hd (by omega) hb (by omega)
    obtain ⟨r, h1, h2⟩ := ih (q == 0) (by omega)
    refine ⟨r, ?_, fun R hR => Ev.step (f := fun k => (shunt_blocking.f k l (a : Int) (b : Int)).bind fun t534 => shunt_CheckStacks.l1 k l s (t534 == 0) (b : Int) (s.length : Int) (b : Int) (b : Int) ((a + 1 : Nat) : Int)) (fun k => ?_) (Ev.bind (f := fun k t534 => shunt_CheckStacks.l1 k l s (t534 == 0) (b : Int) (s.length : Int) (b : Int) (b : Int) ((a + 1 : Nat) : Int)) q1 (h2 R hR))⟩
    ·rw [h1, split True]
     constructor
     ·rintro ⟨g1, g2⟩
      exact ⟨rfl, fun _ hc => (q2.2 hc) (by simpa using g1), g2⟩
     ·rintro ⟨_, g1, g2⟩
      refine ⟨?_, g2⟩
      rw [beq_iff_eq]
      apply Classical.byContradiction
      exact fun hq => g1 c (q2.1 hq)
    ·simp only [shunt_CheckStacks.l1]
     rw [if_pos (by omega), if_pos trivial, if_pos (by omega), if_pos (by omega), if_pos (by omega), if_pos (by omega), if_pos c, w64 (by omega) (by omega)]
     rfl
   ·obtain ⟨r, h1, h2⟩ := ih true (by omega)
    refine ⟨r, ?_, fun R hR => Ev.step (fun k => ?_) (h2 R hR)⟩
    ·rw [h1, split True]
     exact ⟨fun h => ⟨h.1, fun e => absurd e c, h.2⟩, fun h => ⟨h.1, h.2.2⟩⟩
    ·simp only [shunt_CheckStacks.l1]
     rw [if_pos (by omega), if_pos trivial, if_pos (by omega), if_pos (by omega), if_pos (by omega), if_pos (by omega), if_neg c, w64 (by omega) (by omega)]
     rfl
theorem sides_l0 (l s : List Int) (hd : l.Nodup) (hl : l.length ≤ 60) (hs : s.length = l.length) : ∀ (d b : Nat) (right : Bool), b + d = l.length →
  ∃ e : Int, Ev (fun k => shunt_CheckStacks.l0 k l s right (s.length : Int) (b : Int)) e ∧ (e = 0 ∨ e = 10) ∧ (e = 0 ↔ right = true ∧ ∀ b' : Nat, b ≤ b' → b' < l.length → ∀ a' : Nat, a' < b' → rd s a' = rd s b' → ¬ Conf l a' b')
 | 0, b, right, h => by
  refine ⟨if right = true then 0 else 10, Ev.step (f := fun _ => if right = true then some 0 else some 10) (fun k => ?_) (Ev.congr (fun k => ?_) (Ev.now _)), ?_, ?_⟩
  ·simp only [shunt_CheckStacks.l0]
   rw [if_neg (by omega)]
  ·split <;> rfl
  ·split <;> simp
  ·cases right
   ·exact ⟨fun h => absurd h (by decide), fun h => absurd h.1 (by decide)⟩
   ·exact ⟨fun _ => ⟨rfl, fun b' h1 h2 => by omega⟩, fun _ => rfl⟩
 | d + 1, b, right, h => by
  obtain ⟨r, h1, h2⟩ := sides_l1 l s hd hl hs b (by omega) b 0 right (by omega)
  obtain ⟨e, e1, e2, e3⟩ := sides_l0 l s hd hl hs d (b + 1) r (by omega)
  refine ⟨e, Ev.step (fun k => ?_) (h2 e e1), e2, e3.trans ?_⟩
  ·simp only [shunt_CheckStacks.l0]
   rw [if_pos (by omega)]
   rfl
  ·rw [h1]
   constructor
   ·rintro ⟨⟨g1, g2⟩, g3⟩
    refine ⟨g1, fun b' q1 q2 a' q3 => ?_⟩
    by_cases c : b' = b
    ·subst c; exact g2 a' (by omega) q3
    ·exact g3 b' (by omega) q2 a' q3
   ·rintro ⟨g1, g2⟩
    exact ⟨⟨g1, fun a' _ q3 => g2 b (Nat.le_refl _) (by omega) a' q3⟩, fun b' q1 q2 => g2 b' (by omega) q2⟩
theorem any_bad (s : List Int) : s.any badSide = false ↔ ∀ x ∈ s, x = 0 ∨ x = 1 := by
 rw [List.any_eq_false]
 constructor
 ·intro h x hx
  have := h x hx
  unfold badSide at this
  rw [Bool.not_eq_true, Bool.not_eq_false', decide_eq_true_eq] at this
  omega
 ·intro h x hx
  have := h x hx
  unfold badSide
  rw [Bool.not_eq_true, Bool.not_eq_false', decide_eq_true_eq]
  omega
/-- What CheckStacks answers for an order. -/
theorem checkStacks_ev (l s b : List Int) (h : IsOrd l) (hl : l.length ≤ 60) (hb : b.length ≤ 1000) : ∃ e : Int, Ev (fun k => shunt_CheckStacks.f k l s b) e ∧ (e = 0 ∨ e = 10) ∧
  (e = 0 ↔ if s.length = l.length ∧ b.length = 0 then SidesOk l s else s.length = 0 ∧ Cyc l b) := by
 have hor : shunt_isOrder.f l = some true := by
  unfold shunt_isOrder.f
  rw [(isOrderB_iff l).2 ⟨hl, h⟩]
 obtain ⟨q, q1, q2⟩ := isCycle_ev l b h.1 hl hb
 obtain ⟨right, r1, r2⟩ : ∃ right : Bool, (right = true ↔ s.length = 0 ∧ Cyc l b) ∧ ∀ e, Ev (fun k => shunt_CheckStacks.j0 k l s b right) e → Ev (fun k => shunt_CheckStacks.f k l s b) e := by
  by_cases c : (s.length : Int) = 0
  ·refine ⟨q, q2.trans ⟨fun h => ⟨by omega, h⟩, fun h => h.2⟩, fun e he => Ev.congr (f := fun k => (shunt_isCycle.f k l b).bind fun t530 => (shunt_CheckStacks.j0 k l s b t530)) (fun k => ?_) (Ev.bind (f := fun k t530 => (shunt_CheckStacks.j0 k l s b t530)) q1 he)⟩
   unfold shunt_CheckStacks.f
   rw [hor]
   simp only [Option.bind_some, if_true]
   rw [if_pos c]
  ·refine ⟨false, ⟨fun h => (by cases h), fun h => by have := h.1; omega⟩, fun e he => Ev.congr (fun k => ?_) he⟩
   unfold shunt_CheckStacks.f
   rw [hor]
   simp only [Option.bind_some, if_true]
   rw [if_neg c]
 by_cases c : s.length = l.length ∧ b.length = 0
 ·obtain ⟨e, e1, e2, e3⟩ := sides_l0 l s h.1 hl c.1 l.length 0 (!(s.any badSide)) (by omega)
  refine ⟨e, r2 e (Ev.step (f := fun k => shunt_CheckStacks.j1 k l s right true) (fun k => ?_) (Ev.step (fun k => ?_) e1)), e2, ?_⟩
  ·simp only [shunt_CheckStacks.j0]
   rw [if_pos (by omega), beq_iff_eq.mpr (show (b.length : Int) = 0 by omega)]
  ·simp only [shunt_CheckStacks.j1, if_true]
   rfl
  ·rw [if_pos c, e3]
   unfold SidesOk
   rw [← any_bad, Bool.not_eq_true']
   exact ⟨fun h => ⟨h.1, fun a b' q1 q2 => h.2 b' (by omega) q2 a q1⟩, fun h => ⟨h.1, fun b' _ q2 a q3 => h.2 a b' q3 q2⟩⟩
 ·have hj : Ev (fun k => shunt_CheckStacks.j1 k l s right false) (if right = true then 0 else 10) := by
   refine Ev.step (f := fun _ => if right = true then some 0 else some 10) (fun k => ?_) (Ev.congr (fun k => ?_) (Ev.now _))
   ·simp only [shunt_CheckStacks.j1]
    rw [if_neg (by decide)]
   ·split <;> rfl
  refine ⟨if right = true then 0 else 10, r2 _ (Ev.step (f := fun k => shunt_CheckStacks.j1 k l s right false) (fun k => ?_) hj), ?_, ?_⟩
  ·simp only [shunt_CheckStacks.j0]
   by_cases c1 : (s.length : Int) = (l.length : Int)
   ·rw [if_pos c1, beq_eq_false_iff_ne.mpr (show (b.length : Int) ≠ 0 from fun e => c ⟨by omega, by omega⟩)]
   ·rw [if_neg c1]
  ·split <;> simp
  ·rw [if_neg c, ← r1]
   cases right <;> simp

theorem qb_pair {l b : List Int} {k : Int} (h : QB l k b) : ∀ (d i : Nat), i + 1 + d < b.length → rd b (i : Int) < rd b ((i + 1 + d : Nat) : Int) ∧ rd l (rd b ((i + 1 + d : Nat) : Int)) < rd l (rd b (i : Int))
 | 0, i, hi => by
  have := (h.2 (i + 1) (by omega)).2 (by omega)
  simpa using this
 | d + 1, i, hi => by
  have h1 := qb_pair h d i (by omega)
  have h2 := (h.2 (i + 1 + (d + 1)) (by omega)).2 (by omega)
  rw [show i + 1 + (d + 1) - 1 = i + 1 + d by omega] at h2
  omega
theorem lanes_qb {l a b : List Int} {k : Int} (hk : 0 ≤ k) (ha : LanesP l k a) (hb : QB l k b) : False := by
 obtain ⟨a1, a2⟩ := ha
 have hpos : ∀ i : Nat, i < b.length → 0 ≤ rd b (i : Int) ∧ rd b (i : Int) < a.length := fun i hi => by have := (hb.2 i hi).1; omega
 have hnd : (b.map (fun p => rd a p)).Nodup := by
  rw [List.Nodup, List.pairwise_iff_getElem]
  intro i j hi hj hij
  rw [List.length_map] at hi hj
  rw [List.getElem_map, List.getElem_map, ← rd_lt b i hi, ← rd_lt b j hj]
  intro he
  have hp := qb_pair hb (j - i - 1) i (by omega)
  rw [show i + 1 + (j - i - 1) = j by omega] at hp
  have h1 := hpos i hi
  have h2 := hpos j hj
  have := (a2 (rd b (j : Int)).toNat (by omega)).2 (rd b (i : Int)).toNat (by omega) (by
   rw [show (((rd b (i : Int)).toNat : Nat) : Int) = rd b (i : Int) by omega, show (((rd b (j : Int)).toNat : Nat) : Int) = rd b (j : Int) by omega]
   exact he)
  rw [show (((rd b (i : Int)).toNat : Nat) : Int) = rd b (i : Int) by omega, show (((rd b (j : Int)).toNat : Nat) : Int) = rd b (j : Int) by omega] at this
  omega
 have := nodup_len k.toNat _ (-1) hnd (fun x hx => by
  obtain ⟨p, hp, rfl⟩ := List.mem_map.1 hx
  obtain ⟨i, hi, rfl⟩ := List.mem_iff_getElem.1 hp
  have h1 := hpos i hi
  rw [rd_lt b i hi] at h1
  have h2 := (a2 b[i].toNat (by omega)).1
  rw [show ((b[i].toNat : Nat) : Int) = b[i] by omega] at h2
  omega)
 rw [List.length_map] at this
 have := hb.1
 omega
theorem edge_adj {l b : List Int} (h : Cyc l b) (j : Nat) (hj : j < b.length) : Adj l (rd b (j : Int)) (nextOf b j) := by
 obtain ⟨h3, _, ⟨hr, hd⟩, he⟩ := h
 have hx := hr _ (rd_mem (l := b) (x := (j : Int)) (by omega) (by omega))
 have hm : (j + 1) % b.length < b.length := Nat.mod_lt _ (by omega)
 have hy : 0 ≤ nextOf b j ∧ nextOf b j < l.length := hr _ (rd_mem (l := b) (x := (((j + 1) % b.length : Nat) : Int)) (by omega) (by omega))
 have hne := step_ne b j hj h3 hd
 have hc := he j (by omega) hj
 refine ⟨hx.1, hx.2, hy.1, hy.2, ?_⟩
 by_cases c : rd b (j : Int) < nextOf b j
 ·rw [show mn (rd b (j : Int)) (nextOf b j) = rd b (j : Int) from if_neg (by omega), show mx (rd b (j : Int)) (nextOf b j) = nextOf b j from if_pos c] at hc
  exact .inl ⟨c, hc⟩
 ·rw [show mn (rd b (j : Int)) (nextOf b j) = nextOf b j from if_pos (by omega), show mx (rd b (j : Int)) (nextOf b j) = rd b (j : Int) from if_neg c] at hc
  exact .inr ⟨by omega, hc⟩
theorem cyc_no {l b : List Int} (h : Cyc l b) : ¬ TwoCol l := by
 rintro ⟨χ, hχ⟩
 have h3 := h.1
 have hodd := h.2.1
 have alt : ∀ j : Nat, j < b.length → (χ (rd b (j : Int)) = χ (rd b 0) ↔ j % 2 = 0) := by
  intro j
  induction j with
  | zero => exact fun _ => ⟨fun _ => rfl, fun _ => rfl⟩
  | succ j ih =>
   intro hj
   have i1 := ih (by omega)
   have e := hχ _ _ (edge_adj h j (by omega))
   have hn : nextOf b j = rd b ((j + 1 : Nat) : Int) := by unfold nextOf; rw [Nat.mod_eq_of_lt hj]
   rw [hn] at e
   by_cases c : j % 2 = 0
   ·have c1 := i1.2 c
    rw [c1] at e
    exact ⟨fun q => absurd q.symm e, fun q => by omega⟩
   ·have c1 : χ (rd b (j : Int)) ≠ χ (rd b 0) := fun q => c (i1.1 q)
    refine ⟨fun _ => by omega, fun _ => ?_⟩
    cases h1 : χ (rd b (j : Int)) <;> cases h2 : χ (rd b 0) <;> cases h4 : χ (rd b ((j + 1 : Nat) : Int)) <;> simp_all
 have e := hχ _ _ (edge_adj h (b.length - 1) (by omega))
 have hn : nextOf b (b.length - 1) = rd b 0 := by
  unfold nextOf
  rw [show b.length - 1 + 1 = b.length by omega, Nat.mod_self]
  rfl
 rw [hn] at e
 exact e ((alt (b.length - 1) (by omega)).2 (by omega))
end Go.Proofs.Ytjbjongahnocdaa.P

namespace Go.Proofs.Ytjbjongahnocdaa.P
open Go.RowKit Go.Proofs.Ytjbjongahnocdaa.S Go.Proofs.Ytjbjongahnocdaa.Defs Go.Proofs.YtjbjongahnocdaaW.PrintWords

/-- Stack's answer for an order: the plan of what it did, or a block. -/
theorem Stack_ev (l : List Int) (h : IsOrd l) (hl : l.length ≤ 60) : ∃ p b, Ev (fun k => shunt_Stack.f k l) (p, b, 0) ∧ ((No231 l ∧ b = [] ∧ p = strOfNums (stackGo l ([], [], [])).2.2) ∨ (¬ No231 l ∧ p = ⟨#[]⟩ ∧ BlockOf l b ∧ b ≠ [])) := by
 have hb : isOrderB l = true := (isOrderB_iff l).2 ⟨hl, h⟩
 have hf := stack_full l h
 by_cases hn : No231 l
 ·refine ⟨_, _, Ev.congr (fun k => ?_) (Ev.now _), .inl ⟨hn, rfl, rfl⟩⟩
  unfold shunt_Stack.f
  rw [if_pos hb, if_neg (by rw [hf.2 hn]; omega)]
 ·obtain ⟨r, h1, h2⟩ := block_ev l (by omega)
  have hlt : (stackGo l ([], [], [])).2.1.length < l.length := by
   have hne : (stackGo l ([], [], [])).2.1.length ≠ l.length := fun e => hn (hf.1 e)
   have hle := stackGo_le l ([], [], [])
   simp at hle
   omega
  refine ⟨⟨#[]⟩, r, Ev.congr (f := fun k => (shunt_block.f k l).bind fun b => some (⟨#[]⟩, b, 0)) (fun k => ?_) (Ev.bind (f := fun _ b => some ((⟨#[]⟩ : ByteArray), b, (0 : Int))) h1 (Ev.now _)), .inr ⟨hn, rfl, h2, fun e => hn ((blockOf_nil h2 h.1).1 e)⟩⟩
  unfold shunt_Stack.f
  rw [if_pos hb, if_pos hlt]
end Go.Proofs.Ytjbjongahnocdaa.P

namespace Go.Proofs.Ytjbjongahnocdaa.P
open Go.RowKit Go.Proofs.Ytjbjongahnocdaa.S Go.Proofs.Ytjbjongahnocdaa.Defs Go.Proofs.YtjbjongahnocdaaW.PrintWords Go.Proofs.YtjbjongahnocdaaW.PrintLast Go.Proofs.YtjbjongahnocdaaW.PrintMore
set_option linter.unusedVariables false

def sortsB (l : List Int) (p : ByteArray) : Bool := decide ((p.size : Int) = 2 * (l.length : Int)) && sortsGo l p p.size 0 0 [] []
theorem sorts_f (l : List Int) (p : ByteArray) (hl : l.length ≤ 60) : shunt_sorts.f l p = some (sortsB l p) := by
 unfold shunt_sorts.f sortsB
 rw [if_pos hl]
 split
 ·rename_i h; rw [decide_eq_true h, Bool.true_and]
 ·rename_i h; rw [decide_eq_false h, Bool.false_and]
def Fits (p : ByteArray) (plan : List Int) : Prop := ∀ i : Nat, i < plan.length → bt p (i : Int) = plan.getD i 0
where
 drain_prefix : ∀ (s lft plan : List Int), ∃ q, (drainS s lft plan).2.2 = plan ++ q
  | [], lft, plan => ⟨[], by simp [drainS]⟩
  | x :: s, lft, plan => by
   unfold drainS
   split
   ·obtain ⟨q, hq⟩ := drain_prefix s (lft ++ [x]) (plan ++ [111])
    exact ⟨111 :: q, by rw [hq]; simp⟩
   ·exact ⟨[], by simp⟩
theorem Fits.left {p : ByteArray} {a q : List Int} (h : Fits p (a ++ q)) : Fits p a := fun i hi => by
 rw [h i (by rw [List.length_append]; omega)]
 simp [List.getElem?_append, hi]

/-- A block for one stack: three positions whose items leave in the wrong order. -/
def Blk (l b : List Int) : Prop := ∃ x y z : Int, b = [x, y, z] ∧ 0 ≤ x ∧ x < y ∧ y < z ∧ z < l.length ∧ rd l z < rd l x ∧ rd l x < rd l y
theorem three {b : List Int} (h : b.length = 3) : ∃ x y z : Int, b = [x, y, z] := by
 match b, h with
 | [x, y, z], _ => exact ⟨x, y, z, rfl⟩
theorem wf_range {v : Int} (h : (Lit.int .i64 v).wf = true) : -9223372036854775808 ≤ v ∧ v ≤ 9223372036854775807 := by
 have h : (decide (-9223372036854775808 ≤ v) && decide (v ≤ 9223372036854775807)) = true := h
 rw [Bool.and_eq_true, decide_eq_true_eq, decide_eq_true_eq] at h
 exact h
theorem bytes_nil (p : ByteArray) : p.toList = ([] : List UInt8) ↔ p.size = 0 := by
 rw [ByteArray.toList_eq, ← List.length_eq_zero_iff]
 rfl
theorem check_j1 (l b : List Int) (right x : Bool) (hl : l.length ≤ 60) (hx : x = true ↔ b.length = 3) (hw : ∀ v ∈ b, (Lit.int .i64 v).wf = true) : ∃ e : Int, Ev (fun k => shunt_CheckStack.j1 k l b right x) e ∧ (e = 0 ∨ e = 10) ∧ (e = 0 ↔ (if b.length = 3 then Blk l b else right = true)) := by
 by_cases c : b.length = 3
 ·obtain ⟨x0, y, z, rfl⟩ := three c
  obtain rfl : x = true := hx.2 c
  have hm : ∀ v ∈ [x0, y, z], -9223372036854775808 ≤ v ∧ v ≤ 9223372036854775807 := fun v hv => wf_range (hw v hv)
  have hx0 := hm x0 (by simp)
  have hy := hm y (by simp)
  have hz := hm z (by simp)
  have e0 : rd [x0, y, z] 0 = x0 := rfl
  have e1 : rd [x0, y, z] 1 = y := rfl
  have e2 : rd [x0, y, z] 2 = z := rfl
  have w : wrap64 ((l.length : Int) - 1) = (l.length : Int) - 1 := w64 (by omega) (by omega)
  rw [if_pos c]
  have hu : ∀ k, shunt_CheckStack.j1 (k + 1) l [x0, y, z] right true = ((shunt_within.f x0 0 (wrap64 (y - 1))).bind fun t389 => (if t389 = true then ((shunt_within.f y 1 (wrap64 (z - 1))).bind fun t390 => (if t390 = true then ((shunt_within.f z 2 ((l.length : Int) - 1)).bind fun t391 => (if t391 = true then (if 0 ≤ z then (if z < (l.length : Int) then (if 0 ≤ x0 then (if x0 < (l.length : Int) then (if (rd l z) < (rd l x0) then (if 0 ≤ y then (if y < (l.length : Int) then (if ((rd l x0) < (rd l y)) then (some 0) else (some 10)) else (none)) else (none)) else (some 10)) else (none)) else (none)) else (none)) else (none)) else (some 10))) else (some 10))) else (some 10))) := by
   intro k
   simp only [shunt_CheckStack.j1]
   rw [if_pos trivial, e0, e1, e2, w]
   rfl
  have hwi : ∀ a b c : Int, shunt_within.f a b c = some (decide (b ≤ a ∧ a ≤ c)) := by
   intro a b c
   unfold shunt_within.f
   by_cases h : a ≥ b
   ·rw [if_pos h]
    congr 1
    rw [decide_eq_decide]
    omega
   ·rw [if_neg h, decide_eq_false (by omega)]
  have hb : Blk l [x0, y, z] ↔ 0 ≤ x0 ∧ x0 < y ∧ y < z ∧ z < l.length ∧ rd l z < rd l x0 ∧ rd l x0 < rd l y := by
   constructor
   ·rintro ⟨x', y', z', e, h⟩
    injection e with ex e
    injection e with ey e
    injection e with ez e
    subst ex ey ez
    exact h
   ·intro h
    exact ⟨x0, y, z, rfl, h⟩
  rw [hb]
  have hy1 : wrap64 (y - 1) = if y = -9223372036854775808 then 9223372036854775807 else y - 1 := by
   split
   ·rename_i h; rw [h]; unfold wrap64; omega
   ·exact w64 (by omega) (by omega)
  have hz1 : wrap64 (z - 1) = if z = -9223372036854775808 then 9223372036854775807 else z - 1 := by
   split
   ·rename_i h; rw [h]; unfold wrap64; omega
   ·exact w64 (by omega) (by omega)
  have ten : ¬ (0 ≤ x0 ∧ x0 < y ∧ y < z ∧ z < l.length ∧ rd l z < rd l x0 ∧ rd l x0 < rd l y) → (∀ k, shunt_CheckStack.j1 (k + 1) l [x0, y, z] right true = some 10) → ∃ e : Int, Ev (fun k => shunt_CheckStack.j1 k l [x0, y, z] right true) e ∧ (e = 0 ∨ e = 10) ∧ (e = 0 ↔ 0 ≤ x0 ∧ x0 < y ∧ y < z ∧ z < l.length ∧ rd l z < rd l x0 ∧ rd l x0 < rd l y) := fun hn h =>
   ⟨10, Ev.step (f := fun _ => some 10) h (Ev.now _), .inr rfl, ⟨fun h => absurd h (by decide), fun h => absurd h hn⟩⟩
  simp only [hwi, Option.bind_some] at hu
  by_cases c1 : 0 ≤ x0 ∧ x0 ≤ wrap64 (y - 1)
  ·by_cases c2 : 1 ≤ y ∧ y ≤ wrap64 (z - 1)
   ·by_cases c3 : 2 ≤ z ∧ z ≤ (l.length : Int) - 1
    ·have hyw : wrap64 (y - 1) = y - 1 := w64 (by omega) (by omega)
     have hzw : wrap64 (z - 1) = z - 1 := w64 (by omega) (by omega)
     rw [hyw] at c1 hu
     rw [hzw] at c2 hu
     by_cases c4 : rd l z < rd l x0
     ·by_cases c5 : rd l x0 < rd l y
      ·refine ⟨0, Ev.step (f := fun _ => some 0) (fun k => ?_) (Ev.now _), .inl rfl, ⟨fun _ => ⟨by omega, by omega, by omega, by omega, c4, c5⟩, fun _ => rfl⟩⟩
       rw [hu, if_pos (decide_eq_true c1), if_pos (decide_eq_true c2), if_pos (decide_eq_true c3), if_pos (by omega), if_pos (by omega), if_pos (by omega), if_pos (by omega), if_pos c4, if_pos (by omega), if_pos (by omega), if_pos c5]
      ·refine ten (fun h => c5 h.2.2.2.2.2) (fun k => ?_)
       rw [hu, if_pos (decide_eq_true c1), if_pos (decide_eq_true c2), if_pos (decide_eq_true c3), if_pos (by omega), if_pos (by omega), if_pos (by omega), if_pos (by omega), if_pos c4, if_pos (by omega), if_pos (by omega), if_neg c5]
     ·refine ten (fun h => c4 h.2.2.2.2.1) (fun k => ?_)
      rw [hu, if_pos (decide_eq_true c1), if_pos (decide_eq_true c2), if_pos (decide_eq_true c3), if_pos (by omega), if_pos (by omega), if_pos (by omega), if_pos (by omega), if_neg c4]
    ·refine ten (fun h => c3 (by omega)) (fun k => ?_)
     rw [hu, if_pos (decide_eq_true c1), if_pos (decide_eq_true c2), if_neg (by rw [decide_eq_true_eq]; exact c3)]
   ·refine ten (fun h => c2 ⟨by omega, by rw [hz1]; split <;> omega⟩) (fun k => ?_)
    rw [hu, if_pos (decide_eq_true c1), if_neg (by rw [decide_eq_true_eq]; exact c2)]
  ·refine ten (fun h => c1 ⟨by omega, by rw [hy1]; split <;> omega⟩) (fun k => ?_)
   rw [hu, if_neg (by rw [decide_eq_true_eq]; exact c1)]
 ·obtain rfl : x = false := by
   cases x
   ·rfl
   ·exact absurd (hx.1 rfl) c
  rw [if_neg c]
  cases right
  ·refine ⟨10, Ev.step (f := fun _ => some 10) (fun k => ?_) (Ev.now _), .inr rfl, by simp⟩
   simp [shunt_CheckStack.j1]
  ·refine ⟨0, Ev.step (f := fun _ => some 0) (fun k => ?_) (Ev.now _), .inl rfl, by simp⟩
   simp [shunt_CheckStack.j1]
theorem blk_len {l b : List Int} (h : Blk l b) : b.length = 3 := by
 obtain ⟨x, y, z, rfl, _⟩ := h
 rfl
/-- What CheckStack answers for an order. -/
theorem check_ev (l : List Int) (p : ByteArray) (b : List Int) (h : IsOrd l) (hl : l.length ≤ 60) (hw : ∀ v ∈ b, (Lit.int .i64 v).wf = true) : ∃ e : Int, Ev (fun k => shunt_CheckStack.f k l p b) e ∧ (e = 0 ∨ e = 10) ∧ (e = 0 ↔ (sortsB l p = true ∧ b = []) ∨ (p.size = 0 ∧ Blk l b)) := by
 have hb : isOrderB l = true := (isOrderB_iff l).2 ⟨hl, h⟩
 obtain ⟨right, hr⟩ : ∃ right : Bool, right = (sortsB l p && decide (b = [])) := ⟨_, rfl⟩
 have hf : ∀ k, shunt_CheckStack.f k l p b = shunt_CheckStack.j0 k l p b right := by
  intro k
  unfold shunt_CheckStack.f shunt_isOrder.f
  simp only [Option.bind_some]
  rw [if_pos hb]
  cases b with
  | nil =>
   rw [if_pos (show (([] : List Int).length : Int) = 0 from rfl), sorts_f l p hl, hr]
   simp
  | cons a t => rw [if_neg (by simp; omega), hr]; simp
 obtain ⟨x, hx⟩ : ∃ x : Bool, x = (decide (p.size = 0) && decide (b.length = 3)) := ⟨_, rfl⟩
 have hj : ∀ k, shunt_CheckStack.j0 (k + 1) l p b right = shunt_CheckStack.j1 k l b right x := by
  intro k
  simp only [shunt_CheckStack.j0]
  by_cases c : p.size = 0
  ·rw [if_pos ((bytes_nil p).2 c), hx, decide_eq_true c, Bool.true_and]
   congr 1
   rw [Bool.eq_iff_iff, beq_iff_eq, decide_eq_true_eq]
   omega
  ·rw [if_neg (fun h => c ((bytes_nil p).1 h)), hx, decide_eq_false c, Bool.false_and]
 by_cases c : p.size = 0
 ·obtain ⟨e, e1, e2, e3⟩ := check_j1 l b right x hl (by rw [hx, decide_eq_true c]; simp) hw
  refine ⟨e, Ev.congr hf (Ev.step hj e1), e2, e3.trans ?_⟩
  split
  ·rename_i c3
   constructor
   ·exact fun h => .inr ⟨c, h⟩
   ·rintro (h | h)
    ·rw [h.2] at c3; cases c3
    ·exact h.2
  ·rename_i c3
   rw [hr, Bool.and_eq_true, decide_eq_true_eq]
   exact ⟨fun h => .inl h, fun h => h.elim id (fun h => absurd (blk_len h.2) c3)⟩
 ·obtain rfl : x = false := by rw [hx, decide_eq_false c]; rfl
  have hj1 : Ev (fun k => shunt_CheckStack.j1 k l b right false) (if right = true then 0 else 10) := by
   refine Ev.step (f := fun _ => some (if right = true then 0 else 10)) (fun k => ?_) (Ev.now _)
   cases right <;> simp [shunt_CheckStack.j1]
  refine ⟨_, Ev.congr hf (Ev.step hj hj1), ?_, ?_⟩
  ·split <;> simp
  ·have : right = true ↔ (sortsB l p = true ∧ b = []) := by rw [hr]; simp
   rw [← this]
   split
   ·rename_i h; simp [h]
   ·rename_i h; simp [h, c]
end Go.Proofs.Ytjbjongahnocdaa.P

namespace Go.Proofs.Ytjbjongahnocdaa.P
open Go.RowKit Go.Proofs.Ytjbjongahnocdaa.S Go.Proofs.Ytjbjongahnocdaa.Defs Go.Proofs.YtjbjongahnocdaaW.PrintWords Go.Proofs.YtjbjongahnocdaaW.PrintMore

/-- The number at k stands before the number at i. -/
def pre (l : List Int) (i k : Nat) : Bool := decide (rd l k < rd l i) || (decide (rd l k = rd l i) && decide (k < i))
def rankAt (l : List Int) (n i : Nat) : Int := 1 + ((List.range n).countP (pre l i) : Nat)
def tameL (l : List Int) (n : Nat) : List Int := (List.range n).map (rankAt l n)
theorem pre_irrefl (l : List Int) (i : Nat) : pre l i i = false := by simp [pre]
theorem pre_trans (l : List Int) {i j k : Nat} (h1 : pre l i k = true) (h2 : pre l j i = true) : pre l j k = true := by
 simp [pre] at h1 h2 ⊢
 omega
theorem pre_total (l : List Int) {i j : Nat} (h : i ≠ j) : pre l i j = true ∨ pre l j i = true := by
 simp [pre]
 omega
theorem countP_lt {α : Type} (p q : α → Bool) : ∀ (l : List α), (∀ x ∈ l, p x = true → q x = true) → ∀ a ∈ l, q a = true → p a = false → l.countP p < l.countP q
 | [], _, a, ha, _, _ => by cases ha
 | x :: l, h, a, ha, hq, hp => by
  have hle : l.countP p ≤ l.countP q := List.countP_mono_left (fun y hy => h y (List.mem_cons_of_mem _ hy))
  rcases List.mem_cons.1 ha with rfl | ha
  ·rw [List.countP_cons, List.countP_cons, hq, hp]
   simp
   omega
  ·have := countP_lt p q l (fun y hy => h y (List.mem_cons_of_mem _ hy)) a ha hq hp
   have hx := h x (by simp)
   rw [List.countP_cons, List.countP_cons]
   cases hpx : p x with
   | true => rw [hx hpx]; simp; omega
   | false => simp; omega
theorem rank_lt (l : List Int) (n : Nat) {i j : Nat} (hi : i < n) (h : pre l j i = true) : rankAt l n i < rankAt l n j := by
 unfold rankAt
 have := countP_lt (pre l i) (pre l j) (List.range n) (fun k _ hk => pre_trans l hk h) i (by simpa using hi) h (pre_irrefl l i)
 omega
theorem rank_range (l : List Int) (n i : Nat) (hi : i < n) : 1 ≤ rankAt l n i ∧ rankAt l n i ≤ n := by
 unfold rankAt
 have := countP_lt (pre l i) (fun _ => true) (List.range n) (fun _ _ _ => rfl) i (by simpa using hi) rfl (pre_irrefl l i)
 have h2 : (List.range n).countP (fun _ => true) = n := by simp
 omega
theorem tameL_len (l : List Int) (n : Nat) : (tameL l n).length = n := by simp [tameL]
theorem tameL_ord (l : List Int) (n : Nat) : IsOrd (tameL l n) := by
 refine ⟨?_, fun x hx => ?_⟩
 ·unfold tameL
  rw [List.Nodup, List.pairwise_map]
  refine List.Pairwise.imp_of_mem (R := fun a b => a ≠ b) (fun {a b} ha hb hab => ?_) List.nodup_range
  have ha' : a < n := by simpa using ha
  have hb' : b < n := by simpa using hb
  rcases pre_total l hab with h | h
  ·have := rank_lt l n hb' h
   omega
  ·have := rank_lt l n ha' h
   omega
 ·obtain ⟨i, hi, rfl⟩ := List.mem_map.1 hx
  rw [tameL_len]
  exact rank_range l n i (by simpa using hi)
theorem tame_step (l : List Int) (n i : Nat) (out : List Int) (k : Nat) (r : Int) (hn : n ≤ l.length) (hi : i < n) (h : k < n) (q : Nat) (w1 : wrap64 (r + 1) = r + 1) (w2 : wrap64 ((k : Int) + 1) = ((k + 1 : Nat) : Int)) :
  tickinglaw02_tame.l1 (q + 1) l out (n : Int) (i : Int) r (k : Int) = tickinglaw02_tame.l1 q l out (n : Int) (i : Int) (if pre l i k = true then r + 1 else r) ((k + 1 : Nat) : Int) := by
 simp only [tickinglaw02_tame.l1]
 rw [if_pos (by omega), if_pos (by omega), if_pos (by omega), if_pos (by omega), if_pos (by omega), w1, w2]
 unfold pre
 by_cases c1 : rd l k < rd l i
 ·rw [if_pos c1, decide_eq_true c1, Bool.true_or, if_pos rfl]
 ·rw [if_neg c1, decide_eq_false c1, Bool.false_or]
  by_cases c2 : rd l k = rd l i
  ·rw [if_pos c2, decide_eq_true c2, Bool.true_and]
   by_cases c3 : k < i
   ·rw [if_pos (by omega), decide_eq_true c3, if_pos rfl]
   ·rw [if_neg (by omega), decide_eq_false c3, if_neg (by decide)]
  ·rw [if_neg c2, decide_eq_false c2, Bool.false_and, if_neg (by decide)]
def cnt (l : List Int) (i k : Nat) : Nat := (List.range k).countP (pre l i)
theorem cnt_le (l : List Int) (i k : Nat) : cnt l i k ≤ k := by
 have := List.countP_le_length (p := pre l i) (l := List.range k)
 simpa [cnt] using this
theorem cnt_succ (l : List Int) (i k : Nat) : cnt l i (k + 1) = cnt l i k + if pre l i k = true then 1 else 0 := by
 unfold cnt
 rw [List.range_succ, List.countP_append, List.countP_singleton]
theorem tame_l1 (l : List Int) (n i : Nat) (hn : n ≤ l.length) (hi : i < n) (hl : n ≤ 1000) (out : List Int) (R : List Int) (ho : out.length ≤ 1000)
  (hR : Ev (fun q => tickinglaw02_tame.l0 q l (out ++ [rankAt l n i]) (n : Int) ((i + 1 : Nat) : Int)) R) (d : Nat) : ∀ (k : Nat), k + d = n → Ev (fun q => tickinglaw02_tame.l1 q l out (n : Int) (i : Int) (1 + (cnt l i k : Int)) (k : Int)) R := by
 induction d with
 | zero =>
  intro k h
  obtain rfl : k = n := h
  have w2 : wrap64 ((i : Int) + 1) = ((i + 1 : Nat) : Int) := by rw [w64 (by omega) (by omega)]; rfl
  refine Ev.step (fun q => ?_) hR
  simp only [tickinglaw02_tame.l1]
  rw [if_neg (by omega), if_pos (by omega), w2]
  rfl
 | succ d ih =>
  intro k h
  have hc := cnt_le l i k
  have := ih (k + 1) (by omega)
  rw [cnt_succ] at this
  refine Ev.step (fun q => tame_step l n i out k (1 + (cnt l i k : Int)) hn hi (by omega) q (w64 (by omega) (by omega)) (by rw [w64 (by omega) (by omega)]; rfl)) ?_
  have e : (if pre l i k = true then 1 + (cnt l i k : Int) + 1 else 1 + (cnt l i k : Int)) = 1 + ((cnt l i k + if pre l i k = true then 1 else 0 : Nat) : Int) := by split <;> omega
  rw [e]
  exact this
theorem tame_l0 (l : List Int) (n : Nat) (hn : n ≤ l.length) (hl : n ≤ 1000) : ∀ (d i : Nat), i + d = n → Ev (fun q => tickinglaw02_tame.l0 q l ((List.range i).map (rankAt l n)) (n : Int) (i : Int)) (tameL l n)
 | 0, i, h => by
  obtain rfl : i = n := by omega
  refine Ev.step (fun q => ?_) (Ev.now _)
  simp only [tickinglaw02_tame.l0]
  rw [if_neg (by omega)]
  rfl
 | d + 1, i, h => by
  have h0 := tame_l0 l n hn hl d (i + 1) (by omega)
  rw [List.range_succ, List.map_append] at h0
  have := tame_l1 l n i hn (by omega) hl _ _ (by simp; omega) h0 n 0 (by omega)
  refine Ev.step (fun q => ?_) this
  simp only [tickinglaw02_tame.l0]
  rw [if_pos (by omega)]
  rfl
theorem tame_ev (l : List Int) (m : Nat) (hm : m ≤ 1000) : Ev (fun q => tickinglaw02_tame.f q l (m : Int)) (tameL l (min l.length m)) := by
 have := tame_l0 l (min l.length m) (by omega) (by omega) (min l.length m) 0 (by omega)
 refine Ev.congr (fun q => ?_) this
 unfold tickinglaw02_tame.f mn
 have e : (if (m : Int) < (l.length : Int) then (m : Int) else (l.length : Int)) = ((min l.length m : Nat) : Int) := by split <;> omega
 rw [e]
 rfl
end Go.Proofs.Ytjbjongahnocdaa.P

namespace Go.Proofs.Ytjbjongahnocdaa.Pure
open Go.RowKit Go.Proofs.Ytjbjongahnocdaa.S Go.Proofs.Ytjbjongahnocdaa.P Go.Proofs.Ytjbjongahnocdaa.Defs Go.Proofs.YtjbjongahnocdaaW.PrintWords Go.Proofs.YtjbjongahnocdaaW.PrintLast Go.Proofs.YtjbjongahnocdaaW.PrintMore
set_option linter.unusedVariables false

theorem once_end {g : Nat → Option Bool} (h : ∀ k, g k = (tickinglaw02_awake.f k).bind fun t => some t) : Ev g true :=
 Ev.congr h (Ev.bind (f := fun _ t => some t) awake_ev (Ev.now _))
theorem once_mod (a : Int) : ∃ m : Int, tickinglaw02_mod.f a 6 = some m ∧ 0 ≤ m ∧ m < 6 := by
 unfold tickinglaw02_mod.f
 have h6 : IntKind.u64.wrap 6 = 6 := by decide
 have hn : 0 ≤ IntKind.u64.wrap a := by
  show 0 ≤ a % 18446744073709551616
  omega
 obtain ⟨u, hu'⟩ : ∃ u, u = IntKind.u64.wrap a := ⟨_, rfl⟩
 rw [h6, if_neg (by decide), ← hu']
 rw [← hu'] at hn
 have e : Int.tmod u 6 = u % 6 := Int.tmod_eq_emod_of_nonneg hn
 rw [e]
 refine ⟨_, rfl, ?_, ?_⟩ <;> (unfold wrap64; omega)
theorem once_j2 (o s a : List Int) (ho : IsOrd o) (hl : o.length ≤ 60) (h0 : 0 < o.length) (hs : s.length = 0 → ¬ TwoCol o) (hal : a.length ≤ 61) : Ev (fun k => tickinglaw02_ShuntOnce.j2 k o s a false) true := by
 by_cases c : (s.length : Int) > 0
 ·refine Ev.step (f := fun k => (tickinglaw02_awake.f k).bind fun t => some t) (fun k => ?_) (once_end fun k => rfl)
  simp only [tickinglaw02_ShuntOnce.j2]
  rw [if_neg (by decide), if_pos c]
 ·obtain ⟨e, e1, e2, e3⟩ := checkStacks_ev o a [] ho hl (by simp)
  have he : e = 10 := by
   rcases e2 with e2 | e2
   ·exfalso
    have h3 := e3.1 e2
    by_cases d : a.length = o.length ∧ ([] : List Int).length = 0
    ·rw [if_pos d] at h3
     exact hs (by omega) (sides_two d.1 h3)
    ·rw [if_neg d] at h3
     have := h3.2.1
     simp at this
   ·exact e2
  subst he
  refine Ev.step (f := fun k => (shunt_CheckStacks.f k o a ([] : List Int)).bind fun t731 => (if t731 = 10 then ((tickinglaw02_awake.f k).bind fun t732 => (some t732)) else (some false))) (fun k => ?_) ?_
  ·simp only [tickinglaw02_ShuntOnce.j2]
   rw [if_neg (by decide), if_neg c]
  ·refine Ev.bind (f := fun k t731 => _) e1 ?_
   exact once_end fun k => if_pos rfl
theorem once_j1 (o la s : List Int) (k : Int) (ho : IsOrd o) (hl : o.length ≤ 60) (h0 : 0 < o.length) (k0 : 1 ≤ k) (k1 : k ≤ 60) (hs : s.length = 0 → ¬ TwoCol o) (hq : la.length = 0 → ∃ b, QB o k b) (x y : List Int) : Ev (fun q => tickinglaw02_ShuntOnce.j1 q k o la s false x y) true := by
 obtain ⟨a, ha⟩ : ∃ a, a = x.take 61 := ⟨_, rfl⟩
 have hal : a.length ≤ 61 := by rw [ha, List.length_take]; omega
 have hst : ∀ q, tickinglaw02_ShuntOnce.j1 (q + 1) k o la s false x y = (if (la.length : Int) = 0 then ((shunt_CheckQueues.f o k a ([] : List Int)).bind fun t729 => (tickinglaw02_ShuntOnce.j2 q o s a (t729 != 10))) else (tickinglaw02_ShuntOnce.j2 q o s a false)) := by
  intro q
  rw [ha]
  simp only [tickinglaw02_ShuntOnce.j1]
  rw [if_neg (by decide)]
  rfl
 by_cases c : (la.length : Int) = 0
 ·obtain ⟨b, hb⟩ := hq (by omega)
  obtain ⟨e, e1, e2, e3⟩ := queuesCheck o k a [] ho hl k0 k1
  have he : e = 10 := by
   rcases e2 with e2 | e2
   ·exfalso
    rcases e3.1 e2 with ⟨h3, _⟩ | ⟨_, h3⟩
    ·exact lanes_qb (by omega) h3 hb
    ·have := h3.1
     simp at this
     omega
   ·exact e2
  subst he
  refine Ev.step (fun q => ?_) (once_j2 o s a ho hl h0 hs hal)
  rw [hst, if_pos c, e1]
  rfl
 ·refine Ev.step (fun q => ?_) (once_j2 o s a ho hl h0 hs hal)
  rw [hst, if_neg c]
theorem once_B (o la s : List Int) (k : Int) (ho : IsOrd o) (hl : o.length ≤ 60) (h0 : 0 < o.length) (k0 : 1 ≤ k) (k1 : k ≤ 60) (hs : s.length = 0 → ¬ TwoCol o) (hs2 : 0 < s.length → TwoCol o) (hq : la.length = 0 → ∃ b, QB o k b) (x y t : List Int) (ht : t.length ≤ 61) :
  Ev (fun q => if (s.length : Int) > 0 then ((shunt_CheckStacks.f q o ([] : List Int) t).bind fun t720 => (tickinglaw02_ShuntOnce.j1 q k o la s (t720 != 10) x y)) else (tickinglaw02_ShuntOnce.j1 q k o la s false x y)) true := by
 have hj := once_j1 o la s k ho hl h0 k0 k1 hs hq x y
 by_cases c : (s.length : Int) > 0
 ·obtain ⟨e, e1, e2, e3⟩ := checkStacks_ev o [] t ho hl (by omega)
  have he : e = 10 := by
   rcases e2 with e2 | e2
   ·exfalso
    have h3 := e3.1 e2
    rw [if_neg (fun h => by have := h.1; simp at this; omega)] at h3
    exact cyc_no h3.2 (hs2 (by omega))
   ·exact e2
  subst he
  refine Ev.congr (f := fun q => (shunt_CheckStacks.f q o ([] : List Int) t).bind fun t720 => (tickinglaw02_ShuntOnce.j1 q k o la s (t720 != 10) x y)) (fun q => if_pos c) ?_
  exact Ev.bind (f := fun q t720 => (tickinglaw02_ShuntOnce.j1 q k o la s (t720 != 10) x y)) e1 hj
 ·exact Ev.congr (fun q => if_neg c) hj
theorem once_A (o la s : List Int) (k : Int) (ho : IsOrd o) (hl : o.length ≤ 60) (h0 : 0 < o.length) (k0 : 1 ≤ k) (k1 : k ≤ 60) (hs : s.length = 0 → ¬ TwoCol o) (hs2 : 0 < s.length → TwoCol o) (hq : la.length = 0 → ∃ b, QB o k b) (hq2 : 0 < la.length → LanesP o k la) (x y t : List Int) (ht : t.length ≤ 61) :
  Ev (fun q => if (la.length : Int) > 0 then ((shunt_CheckQueues.f o k ([] : List Int) t).bind fun t719 => (if t719 = 10 then (if (s.length : Int) > 0 then ((shunt_CheckStacks.f q o ([] : List Int) t).bind fun t720 => (tickinglaw02_ShuntOnce.j1 q k o la s (t720 != 10) x y)) else (tickinglaw02_ShuntOnce.j1 q k o la s false x y)) else (tickinglaw02_ShuntOnce.j1 q k o la s true x y))) else (if (s.length : Int) > 0 then ((shunt_CheckStacks.f q o ([] : List Int) t).bind fun t721 => (tickinglaw02_ShuntOnce.j1 q k o la s (t721 != 10) x y)) else (tickinglaw02_ShuntOnce.j1 q k o la s false x y))) true := by
 have hB := once_B o la s k ho hl h0 k0 k1 hs hs2 hq x y t ht
 by_cases c : (la.length : Int) > 0
 ·obtain ⟨e, e1, e2, e3⟩ := queuesCheck o k [] t ho hl k0 k1
  have he : e = 10 := by
   rcases e2 with e2 | e2
   ·exfalso
    rcases e3.1 e2 with ⟨h3, _⟩ | ⟨_, h3⟩
    ·have := h3.1
     simp at this
     omega
    ·exact lanes_qb (by omega) (hq2 (by omega)) h3
   ·exact e2
  subst he
  refine Ev.congr (fun q => ?_) hB
  rw [if_pos c, e1]
  simp only [Option.bind_some, if_true]
 ·exact Ev.congr (fun q => if_neg c) hB
theorem once_blk {o b : List Int} (hn : No231 o) (hb : Blk o b) : False := by
 obtain ⟨x, y, z, rfl, h0, h1, h2, h3, h4, h5⟩ := hb
 rw [no231_pos] at hn
 have := hn x.toNat y.toNat z.toNat (by omega) (by omega) (by omega)
 rw [show ((z.toNat : Nat) : Int) = z by omega, show ((x.toNat : Nat) : Int) = x by omega, show ((y.toNat : Nat) : Int) = y by omega] at this
 exact this ⟨h4, h5⟩
def ShuntOnce.Is : Prop := ∀ (l0 : List Int) (a1 : Int) (l2 l3 : List Int), l0.length ≤ maxLen → l0.length * 8 ≤ 140737488351232 → (∀ x ∈ l0, (Lit.int .i64 x).wf = true) → (Lit.int .i64 a1).wf = true → l2.length ≤ maxLen → (∀ x ∈ l2, (Lit.int .i64 x).wf = true) → l3.length ≤ maxLen → (∀ x ∈ l3, (Lit.int .i64 x).wf = true) → ∃ k, tickinglaw02_ShuntOnce.f k l0 a1 l2 l3 = some true
theorem ShuntOnce : ShuntOnce.Is := by
 intro l0 a1 l2 l3 _ _ _ _ _ _ _ hw3
 apply Ev.rounds
 obtain ⟨o, hoe⟩ : ∃ o, o = tameL l0 (min l0.length 30) := ⟨_, rfl⟩
 have ho : IsOrd o := by rw [hoe]; exact tameL_ord _ _
 have hlen : o.length ≤ 30 := by rw [hoe, tameL_len]; omega
 have htm := tame_ev l0 30 (by omega)
 rw [← hoe] at htm
 refine Ev.bind (f := fun k (t692 : List Int) => (if (t692.length : Int) = 0 then ((tickinglaw02_awake.f k).bind fun t695 => (some t695)) else ((tickinglaw02_mod.f a1 6).bind fun t696 => ((shunt_Stack.f k t692).bind fun bt697 => ((shunt_Queues.f k t692 (wrap64 (1 + t696))).bind fun bt702 => ((shunt_Stacks.f k t692).bind fun bt709 => (if bt697.2.2 = 0 then (if bt702.2.2 = 0 then (tickinglaw02_ShuntOnce.j0 k (wrap64 (1 + t696)) t692 bt697.1 bt702.1 bt709.1 (bt709.2.2 != 0) l2 l3) else (tickinglaw02_ShuntOnce.j0 k (wrap64 (1 + t696)) t692 bt697.1 bt702.1 bt709.1 true l2 l3)) else (tickinglaw02_ShuntOnce.j0 k (wrap64 (1 + t696)) t692 bt697.1 bt702.1 bt709.1 true l2 l3)))))))) htm ?_
 by_cases c0 : (o.length : Int) = 0
 ·exact once_end fun k => if_pos c0
 have h0 : 0 < o.length := by omega
 obtain ⟨m, hm, m0, m1⟩ := once_mod a1
 obtain ⟨k, hk⟩ : ∃ k, k = 1 + m := ⟨_, rfl⟩
 have hkw : wrap64 (1 + m) = k := by rw [hk, w64 (by omega) (by omega)]
 obtain ⟨p, pb, hst, hcase⟩ := Stack_ev o ho (by omega)
 obtain ⟨n, _, hn⟩ := Least_ev o ho (by omega)
 obtain ⟨la, lb, hqe, hqc⟩ := Queues_ev o k ho (by omega) (by omega) (by omega) n hn
 obtain ⟨s, c, hse, hsc⟩ := Stacks_ev o ho (by omega)
 refine Ev.congr (f := fun q => ((shunt_Stack.f q o).bind fun bt697 => ((shunt_Queues.f q o k).bind fun bt702 => ((shunt_Stacks.f q o).bind fun bt709 => (if bt697.2.2 = 0 then (if bt702.2.2 = 0 then (tickinglaw02_ShuntOnce.j0 q k o bt697.1 bt702.1 bt709.1 (bt709.2.2 != 0) l2 l3) else (tickinglaw02_ShuntOnce.j0 q k o bt697.1 bt702.1 bt709.1 true l2 l3)) else (tickinglaw02_ShuntOnce.j0 q k o bt697.1 bt702.1 bt709.1 true l2 l3)))))) (fun q => ?_) ?_
 ·rw [if_neg c0, hm]
  simp only [Option.bind_some, hkw]
 refine Ev.bind (f := fun q (bt697 : ByteArray × List Int × Int) => _) hst ?_
 refine Ev.bind (f := fun q (bt702 : List Int × List Int × Int) => _) hqe ?_
 refine Ev.bind (f := fun q (bt709 : List Int × List Int × Int) => _) hse ?_
 refine Ev.congr (f := fun q => tickinglaw02_ShuntOnce.j0 q k o p la s false l2 l3) (fun q => by rw [if_pos rfl, if_pos rfl]; rfl) ?_
 have hs : s.length = 0 → ¬ TwoCol o := by
  intro e
  rcases hsc with ⟨_, h2, _⟩ | ⟨_, _, h2⟩
  ·omega
  ·exact h2
 have hs2 : 0 < s.length → TwoCol o := by
  intro e
  rcases hsc with ⟨_, h2, h3⟩ | ⟨h2, _, _⟩
  ·exact sides_two h2 h3
  ·rw [h2] at e; simp at e
 have hq : la.length = 0 → ∃ b, QB o k b := by
  intro e
  rcases hqc with ⟨_, h2, _⟩ | ⟨_, _, h2⟩
  ·have := h2.1; omega
  ·exact ⟨_, h2⟩
 have hq2 : 0 < la.length → LanesP o k la := by
  intro e
  rcases hqc with ⟨_, h2, _⟩ | ⟨_, h2, _⟩
  ·exact h2
  ·rw [h2] at e; simp at e
 obtain ⟨t, hte⟩ : ∃ t, t = l3.take 61 := ⟨_, rfl⟩
 have htl : t.length ≤ 61 := by rw [hte, List.length_take]; omega
 have htw : ∀ v ∈ t, (Lit.int .i64 v).wf = true := fun v hv => hw3 v (by rw [hte] at hv; exact List.mem_of_mem_take hv)
 have hA := once_A o la s k ho (by omega) h0 (by omega) (by omega) hs hs2 hq hq2 l2 l3 t htl
 have hst0 : ∀ q, tickinglaw02_ShuntOnce.j0 (q + 1) k o p la s false l2 l3 = (if p.toList = ([] : List UInt8) then (if (la.length : Int) > 0 then ((shunt_CheckQueues.f o k ([] : List Int) t).bind fun t719 => (if t719 = 10 then (if (s.length : Int) > 0 then ((shunt_CheckStacks.f q o ([] : List Int) t).bind fun t720 => (tickinglaw02_ShuntOnce.j1 q k o la s (t720 != 10) l2 l3)) else (tickinglaw02_ShuntOnce.j1 q k o la s false l2 l3)) else (tickinglaw02_ShuntOnce.j1 q k o la s true l2 l3))) else (if (s.length : Int) > 0 then ((shunt_CheckStacks.f q o ([] : List Int) t).bind fun t721 => (tickinglaw02_ShuntOnce.j1 q k o la s (t721 != 10) l2 l3)) else (tickinglaw02_ShuntOnce.j1 q k o la s false l2 l3))) else ((shunt_CheckStack.f q o (⟨#[]⟩ : ByteArray) t).bind fun t722 => (if t722 = 10 then (if (la.length : Int) > 0 then ((shunt_CheckQueues.f o k ([] : List Int) t).bind fun t723 => (if t723 = 10 then (if (s.length : Int) > 0 then ((shunt_CheckStacks.f q o ([] : List Int) t).bind fun t724 => (tickinglaw02_ShuntOnce.j1 q k o la s (t724 != 10) l2 l3)) else (tickinglaw02_ShuntOnce.j1 q k o la s false l2 l3)) else (tickinglaw02_ShuntOnce.j1 q k o la s true l2 l3))) else (if (s.length : Int) > 0 then ((shunt_CheckStacks.f q o ([] : List Int) t).bind fun t725 => (tickinglaw02_ShuntOnce.j1 q k o la s (t725 != 10) l2 l3)) else (tickinglaw02_ShuntOnce.j1 q k o la s false l2 l3))) else (tickinglaw02_ShuntOnce.j1 q k o la s true l2 l3)))) := by
  intro q
  rw [hte]
  simp only [tickinglaw02_ShuntOnce.j0]
  rw [if_neg (by decide)]
  rfl
 by_cases cp : p.toList = ([] : List UInt8)
 ·refine Ev.step (fun q => ?_) hA
  rw [hst0, if_pos cp]
 ·have hno : No231 o := by
   rcases hcase with ⟨h1, _, _⟩ | ⟨_, h2, _⟩
   ·exact h1
   ·exact absurd (by rw [h2]; exact (bytes_nil _).2 rfl) cp
  obtain ⟨e, e1, e2, e3⟩ := check_ev o ⟨#[]⟩ t ho (by omega) htw
  have he : e = 10 := by
   rcases e2 with e2 | e2
   ·exfalso
    rcases e3.1 e2 with ⟨h3, _⟩ | ⟨_, h3⟩
    ·unfold sortsB at h3
     rw [Bool.and_eq_true, decide_eq_true_eq] at h3
     have := h3.1
     have hz : ((⟨#[]⟩ : ByteArray).size : Int) = 0 := rfl
     omega
    ·exact once_blk hno h3
   ·exact e2
  subst he
  refine Ev.step (fun q => (hst0 q).trans (if_neg cp)) ?_
  refine Ev.bind (f := fun q t722 => _) e1 ?_
  exact Ev.congr (fun q => if_pos rfl) hA
end Go.Proofs.Ytjbjongahnocdaa.Pure
