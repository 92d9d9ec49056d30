-- Written by wip/bundle2.py: texts of this claim, one behind the other.
import Derived.Test.YtnfmeafiaipplaaBLoopsChecks3
import Derived.RowKit
import Derived.Test.YtnfmeafiaipplaaVLoopsChecksWords
import Derived.KernelRfl
import Derived.WalkKit
import Derived.ProofKit
import Derived.OpenShut
import Derived.ShutString
import Derived.ChangeOld
import Derived.Below
import Derived.SizedLaws
import Derived.Deep.Slices
import Derived.Laws.IdiomArrays
import Derived.Lib.SmallJoins
set_option linter.unusedVariables false
set_option linter.unusedSimpArgs false

namespace Go.Proofs.Ytnfmeafiaipplaa.S
open Go.Proofs.Ytnfmeafiaipplaa.Lib
open Go.Maps (Keyed)
open Go.RowKit Go.Proofs.YtnfmeafiaipplaaW.PrintWords Go.Proofs.YtnfmeafiaipplaaW.PrintLast Go.Proofs.YtnfmeafiaipplaaW.PrintMore
attribute [local go_sem] max2_int min2_int max_two min_two max_three min_three max_four min_four
set_option linter.unusedVariables false
set_option linter.unusedSimpArgs false

def tickinglaw06_LoopsChecks.f (k : Nat) (l0 : List (S39)) (a1_0 : Int) (a1_1 : Int) (a2_0 : Bool) (l2_1 : List (S23)) (a2_2 : ByteArray) : Option (Bool) := (tickinglaw06_own.f l0).bind fun t558 => ((tickinglaw06_finding.f a2_0 l2_1 a2_2).bind fun bt561 => ((loops_Check.f k t558 a1_0 a1_1 bt561.1 bt561.2.1 bt561.2.2).bind fun t567 => ((tickinglaw06_bad.f k t558 a1_0 a1_1).bind fun t568 => (if t568 = true then (if t567 = 2 then ((tickinglaw06_awake.f k).bind fun t569 => (some t569)) else (some false)) else ((tickingref06_Right.f k t558 a1_0 a1_1 bt561.1 bt561.2.1 bt561.2.2).bind fun t570 => (if t570 = true then (if t567 = 0 then ((tickinglaw06_awake.f k).bind fun t571 => (some t571)) else (some false)) else (if t567 = 10 then ((tickinglaw06_awake.f k).bind fun t572 => (some t572)) else (some false))))))))
set_option maxHeartbeats 8000000 in
set_option maxRecDepth 100000 in
theorem tickinglaw06_LoopsChecks.calls (k : Nat) (A0 : Option Addr) (c0 : Nat) (l0 : List (S39)) (a1_0 : Int) (a1_1 : Int) (a2_0 : Bool) (A2_1 : Option Addr) (c2_1 : Nat) (l2_1 : List (S23)) (a2_2 : ByteArray) (r : Bool) (w : World) (hr0 : Kd.C k39 w A0 l0.length l0) (hc0 : l0.length ≤ c0) (hr2_1 : Kd.C k23 w A2_1 l2_1.length l2_1) (hc2_1 : l2_1.length ≤ c2_1) (h : tickinglaw06_LoopsChecks.f k l0 a1_0 a1_1 a2_0 l2_1 a2_2 = some r) (htrue : r = true) :
  Calls Try.prog 10 #[.slice A0 l0.length c0, .agg #[.int .i64 a1_0, .int .i64 a1_1], .agg #[.bool a2_0, .slice A2_1 l2_1.length c2_1, .string a2_2]] w fun e w' => e = .returned (.bool r) ∧ Below w.heap.size w w' := by
 have HTR := Aside0.mk htrue
 clear htrue
 have hu23 := Try.underlying23
 have hu55 := Try.underlying55
 have HR0 := Aside0.mk hr0
 have HC0 := Aside0.mk hc0
 clear hr0 hc0
 have HR2_1 := Aside0.mk hr2_1
 have HC2_1 := Aside0.mk hc2_1
 clear hr2_1 hc2_1
 have HB := Aside0.mk (Below.refl w.heap.size w)
 have H : ((tickinglaw06_own.f l0).bind fun t558 => ((tickinglaw06_finding.f a2_0 l2_1 a2_2).bind fun bt561 => ((loops_Check.f k t558 a1_0 a1_1 bt561.1 bt561.2.1 bt561.2.2).bind fun t567 => ((tickinglaw06_bad.f k t558 a1_0 a1_1).bind fun t568 => (if t568 = true then (if t567 = 2 then ((tickinglaw06_awake.f k).bind fun t569 => (some t569)) else (some false)) else ((tickingref06_Right.f k t558 a1_0 a1_1 bt561.1 bt561.2.1 bt561.2.2).bind fun t570 => (if t570 = true then (if t567 = 0 then ((tickinglaw06_awake.f k).bind fun t571 => (some t571)) else (some false)) else (if t567 = 10 then ((tickinglaw06_awake.f k).bind fun t572 => (some t572)) else (some false))))))))) = some r := h
 clear h
 replace H := Option.bind_eq_some_iff.mp H
 obtain ⟨t558, A40, H⟩ := H
 replace H : ((tickinglaw06_finding.f a2_0 l2_1 a2_2).bind fun bt561 => ((loops_Check.f k t558 a1_0 a1_1 bt561.1 bt561.2.1 bt561.2.2).bind fun t567 => ((tickinglaw06_bad.f k t558 a1_0 a1_1).bind fun t568 => (if t568 = true then (if t567 = 2 then ((tickinglaw06_awake.f k).bind fun t569 => (some t569)) else (some false)) else ((tickingref06_Right.f k t558 a1_0 a1_1 bt561.1 bt561.2.1 bt561.2.2).bind fun t570 => (if t570 = true then (if t567 = 0 then ((tickinglaw06_awake.f k).bind fun t571 => (some t571)) else (some false)) else (if t567 = 10 then ((tickinglaw06_awake.f k).bind fun t572 => (some t572)) else (some false)))))))) = some r := H
 have A4 := Aside0.mk A40
 clear A40
 replace H := Option.bind_eq_some_iff.mp H
 obtain ⟨⟨t561, t562, t565⟩, A50, H⟩ := H
 replace H : ((loops_Check.f k t558 a1_0 a1_1 t561 t562 t565).bind fun t567 => ((tickinglaw06_bad.f k t558 a1_0 a1_1).bind fun t568 => (if t568 = true then (if t567 = 2 then ((tickinglaw06_awake.f k).bind fun t569 => (some t569)) else (some false)) else ((tickingref06_Right.f k t558 a1_0 a1_1 t561 t562 t565).bind fun t570 => (if t570 = true then (if t567 = 0 then ((tickinglaw06_awake.f k).bind fun t571 => (some t571)) else (some false)) else (if t567 = 10 then ((tickinglaw06_awake.f k).bind fun t572 => (some t572)) else (some false))))))) = some r := H
 have A5 := Aside0.mk A50
 clear A50
 replace H := Option.bind_eq_some_iff.mp H
 obtain ⟨t567, A60, H⟩ := H
 replace H : ((tickinglaw06_bad.f k t558 a1_0 a1_1).bind fun t568 => (if t568 = true then (if t567 = 2 then ((tickinglaw06_awake.f k).bind fun t569 => (some t569)) else (some false)) else ((tickingref06_Right.f k t558 a1_0 a1_1 t561 t562 t565).bind fun t570 => (if t570 = true then (if t567 = 0 then ((tickinglaw06_awake.f k).bind fun t571 => (some t571)) else (some false)) else (if t567 = 10 then ((tickinglaw06_awake.f k).bind fun t572 => (some t572)) else (some false)))))) = some r := H
 have A6 := Aside0.mk A60
 clear A60
 replace H := Option.bind_eq_some_iff.mp H
 obtain ⟨t568, A70, H⟩ := H
 replace H : (if t568 = true then (if t567 = 2 then ((tickinglaw06_awake.f k).bind fun t569 => (some t569)) else (some false)) else ((tickingref06_Right.f k t558 a1_0 a1_1 t561 t562 t565).bind fun t570 => (if t570 = true then (if t567 = 0 then ((tickinglaw06_awake.f k).bind fun t571 => (some t571)) else (some false)) else (if t567 = 10 then ((tickinglaw06_awake.f k).bind fun t572 => (some t572)) else (some false))))) = some r := H
 have A7 := Aside0.mk A70
 clear A70
 by_cases c8 : t568 = true
 ·subst c8
  have H1 : (if t567 = 2 then ((tickinglaw06_awake.f k).bind fun t569 => (some t569)) else (some false)) = some r := by rw [if_pos rfl] at H; exact H
  clear H
  have H := H1
  clear H1
  by_cases c9 : t567 = 2
  rotate_left
  ·rw [if_neg c9] at H
   have c9b0 : (t567 == 2) = false := beq_eq_false_iff_ne.mpr c9
   have c9b1 : (t567 != 2) = true := bne_iff_ne.mpr c9
   exact absurd ((Option.some.inj H).trans HTR.out) (by decide)
  rw [if_pos c9] at H
  have c9b0 : (t567 == 2) = true := beq_iff_eq.mpr c9
  have c9b1 : (t567 != 2) = false := bne_eq_false_iff_eq.mpr c9
  clear c9
  replace H := Option.bind_eq_some_iff.mp H
  obtain ⟨t569, A100, H⟩ := H
  replace H : (some t569) = some r := H
  have A10 := Aside0.mk A100
  clear A100
  obtain rfl := Option.some.inj H
  go_enter Try.func10, Try.ntmps10
  try go_wp2_with (first | ((with_reducible refine gate_dst (N := 4) rfl ?_); refine box_event ?hg (N := 4) ?hd (cs := #[.int .i64 a1_0, .int .i64 a1_1]) (t := 23) ?hr ?_; (case hd => rfl); (case hg => rfl); (case hr => first | (go_simp; done) | (go_simp; rfl)); intro gb556 hg w11 hbox hb; have n0_ := Aside0.mk (below_step (by repeat (first | (with_reducible first | exact HB.out | apply below_alloc | apply pw_below_drewN | apply below_drew1) | exact HB.out)) hb); have n1_ := Aside0.mk (hbox); have n2_ := Aside0.mk ((by rw [hg]; exact (below_size (by repeat (first | (with_reducible first | exact HB.out | apply below_alloc | apply pw_below_drewN | apply below_drew1) | exact HB.out))) : w.heap.size ≤ gb556)); have n3_ := Aside0.mk ((by rw [hg]; exact (below_size (by repeat (first | (with_reducible first | exact HB.out | apply below_alloc | apply pw_below_drewN | apply below_drew1) | exact HB.out))) : w.heap.size ≤ gb556)); clear HB; have HB := n0_; have BK556 := n1_; have GW556 := n2_; have GE556 := n3_; clear n0_ n1_ n2_ n3_; clear hb hbox hg) | ((with_reducible refine gate_dst (N := 5) rfl ?_); refine box_event ?hg (N := 5) ?hd (cs := #[.bool a2_0, .slice A2_1 l2_1.length c2_1, .string a2_2]) (t := 55) ?hr ?_; (case hd => rfl); (case hg => rfl); (case hr => first | (go_simp; done) | (go_simp; rfl)); intro gb557 hg w12 hbox hb; have n0_ := Aside0.mk (blk_below (g := gb556) (o := .cells #[.int .i64 a1_0, .int .i64 a1_1] 23 (0, 0)) (by (with_reducible repeat (first | refine blk_drewN ?_ _ | refine blk_drew ?_ | refine blk_alloc ?_ _)); exact BK556.out) hb); have n1_ := Aside0.mk (below_step (by repeat (first | (with_reducible first | exact HB.out | apply below_alloc | apply pw_below_drewN | apply below_drew1 | refine below_set ?_ GE556.out) | exact HB.out)) hb); have n2_ := Aside0.mk (hbox); have n3_ := Aside0.mk ((by rw [hg]; exact (below_size (by repeat (first | (with_reducible first | exact HB.out | apply below_alloc | apply pw_below_drewN | apply below_drew1 | refine below_set ?_ GE556.out) | exact HB.out))) : w.heap.size ≤ gb557)); have n4_ := Aside0.mk ((by rw [hg]; exact (below_size (by repeat (first | (with_reducible first | exact HB.out | apply below_alloc | apply pw_below_drewN | apply below_drew1 | refine below_set ?_ GE556.out) | exact HB.out))) : w.heap.size ≤ gb557)); have n5_ := Aside0.mk ((by rw [hg]; exact Nat.ne_of_lt (blk_lt (g := gb556) (o := .cells #[.int .i64 a1_0, .int .i64 a1_1] 23 (0, 0)) (by (with_reducible repeat (first | refine blk_drewN ?_ _ | refine blk_drew ?_ | refine blk_alloc ?_ _)); exact BK556.out)) : gb556 ≠ gb557)); have n6_ := Aside0.mk ((by rw [hg]; exact Nat.ne_of_gt (blk_lt (g := gb556) (o := .cells #[.int .i64 a1_0, .int .i64 a1_1] 23 (0, 0)) (by (with_reducible repeat (first | refine blk_drewN ?_ _ | refine blk_drew ?_ | refine blk_alloc ?_ _)); exact BK556.out)) : gb557 ≠ gb556)); clear BK556; clear HB; have BK556 := n0_; have HB := n1_; have BK557 := n2_; have GW557 := n3_; have GE557 := n4_; have NB556_557 := n5_; have NB557_556 := n6_; clear n0_ n1_ n2_ n3_ n4_ n5_ n6_; clear hb hbox hg))
  have n0_ := Aside0.mk (blk_drew BK556.out)
  have n1_ := Aside0.mk (blk_drew BK557.out)
  have n2_ := Aside0.mk (below_drew1 HB.out)
  clear BK556
  clear BK557
  clear HB
  have BK556 := n0_
  have BK557 := n1_
  have HB := n2_
  clear n0_ n1_ n2_
  refine start_ (n := 7) (S := fun w' => w'.cell? ⟨gb557, 0, none⟩ = some (.bool a2_0) ∧ w'.cell? ⟨gb557, 1, none⟩ = some (.slice A2_1 l2_1.length c2_1) ∧ w'.cell? ⟨gb557, 2, none⟩ = some (.string a2_2)) (ds := []) #[false, false, false, false, false, false, false] (by kernel_rfl) rfl rfl ⟨(blk_cell BK557.out 0).trans rfl, (blk_cell BK557.out 1).trans rfl, (blk_cell BK557.out 2).trans rfl⟩ (fun hHeld => ?_)
  generalize w12.drew = w13 at BK556 BK557 HB hHeld ⊢
  refine pure_ (i := 0) (N := some 12) (v := ?_) (a' := ?_) #[true, false, false, false, false, false, false] rfl rfl (by kernel_rfl) (fun _ _ _ h => h) (Or.inl ⟨by rfl, ?_⟩) ?_ ?_
  rotate_left
  ·intro w'
   go_simp
   with_reducible rfl
  rotate_left
  ·simp only [Act.put, List.setIfInBounds_toArray, List.set_cons_zero, List.set_cons_succ, i64_w, i32_w]
   rfl
  refine take_ (i := 2) (N := some 14) (v := ?_) (a' := ?_) #[true, false, true, false, false, false, false] rfl rfl (by kernel_rfl) (fun _ _ _ h => h) (Or.inl ⟨by rfl, ?_⟩) hHeld ?_ ?_
  rotate_left
  ·rintro w' ⟨s0, s1, s2⟩
   go_simp
   with_reducible rfl
  rotate_left
  ·simp only [Act.put, List.setIfInBounds_toArray, List.set_cons_zero, List.set_cons_succ, i64_w, i32_w]
   rfl
  refine join_ (σ := Value × Value × Nat) 2 #[true, true, true, true, true, false, false] (fun s_ => [(13, s_.1), (15, .agg #[.bool t561, s_.2.1, .string t565]), (8, .pointer (some ⟨s_.2.2, 0, none⟩))]) (fun s_ w' => (w'.cell? ⟨gb557, 0, none⟩ = some (.bool a2_0) ∧ w'.cell? ⟨gb557, 1, none⟩ = some (.slice A2_1 l2_1.length c2_1) ∧ w'.cell? ⟨gb557, 2, none⟩ = some (.string a2_2)) ∧ (Kd.R k39 39 w' w.heap.size (fun _ => True) s_.1 t558) ∧ (Kd.R k23 23 w' w.heap.size (fun k_ => k_ ≠ gb556) s_.2.1 t562) ∧ (w'.heap[gb556]? = some (.cells #[.int .i64 a1_0, .int .i64 a1_1] 23 (0, 0))) ∧ (w'.heap[gb557]? = some (.cells #[.bool a2_0, .slice A2_1 l2_1.length c2_1, .string a2_2] 55 (0, 0))) ∧ (w'.heap[s_.2.2]? = some (.cells #[.bool false, .slice none 0 0, .string (⟨#[]⟩ : ByteArray)] 55 (0, 0))) ∧ (w.heap.size ≤ s_.2.2) ∧ (w.heap.size ≤ s_.2.2) ∧ (gb556 ≠ s_.2.2) ∧ (s_.2.2 ≠ gb556) ∧ (gb557 ≠ s_.2.2) ∧ (s_.2.2 ≠ gb557) ∧ (Below w.heap.size w w')) ?_ ?_
  rotate_left
  ·intro hCont
   refine two_ (i := 1) (j := 4) (Ni := some 13) (Nj := some 8) #[true, true, true, false, false, false, false] #[true, false, true, false, true, false, false] rfl rfl rfl rfl (by kernel_rfl) (by decide) (by decide) (fun K hK => ?_) (fun K hK => ?_)
   ·skip
    refine goes_ Try.func15 (by kernel_rfl) rfl #[.slice A0 l0.length c0] (by rfl) rfl rfl (by (try simp only [List.map_toArray, List.map_cons, List.map_nil]); first | done | rfl | (simp only [List.length_drop, List.length_take]; rfl)) ?_
    with_reducible refine (tickinglaw06_own.calls _ _ l0 t558 _ ?side1 ?side2 A4.out).mono ?_
    (case side1 => repeat (first | exact (Kd.C_below HR0.out HB.out) | (with_reducible refine Kd.C_alloc ?_ _) | (with_reducible refine Kd.C_drewN ?_ _) | (with_reducible refine Kd.C_drew ?_)))
    (case side2 => exact HC0.out)
    rintro e w14 ⟨v559, rfl, ho0, hb⟩
    refine ⟨_, rfl, ?_⟩
    have n0_ := Aside0.mk (Kd.R_lower ho0 (below_size (by repeat (first | (with_reducible first | exact HB.out | apply below_alloc | apply pw_below_drewN | apply below_drew1 | refine below_set ?_ GE556.out | refine below_set ?_ GE557.out) | exact HB.out))))
    have n1_ := Aside0.mk (blk_below (g := gb556) (o := .cells #[.int .i64 a1_0, .int .i64 a1_1] 23 (0, 0)) (by (with_reducible repeat (first | refine blk_drewN ?_ _ | refine blk_drew ?_ | refine blk_alloc ?_ _)); exact BK556.out) hb)
    have n2_ := Aside0.mk (blk_below (g := gb557) (o := .cells #[.bool a2_0, .slice A2_1 l2_1.length c2_1, .string a2_2] 55 (0, 0)) (by (with_reducible repeat (first | refine blk_drewN ?_ _ | refine blk_drew ?_ | refine blk_alloc ?_ _)); exact BK557.out) hb)
    have n3_ := Aside0.mk (below_step (by repeat (first | (with_reducible first | exact HB.out | apply below_alloc | apply pw_below_drewN | apply below_drew1 | refine below_set ?_ GE556.out | refine below_set ?_ GE557.out) | exact HB.out)) hb)
    clear BK556
    clear BK557
    clear HB
    have HO560 := n0_
    have BK556 := n1_
    have BK557 := n2_
    have HB := n3_
    clear n0_ n1_ n2_ n3_
    (try clear hb)
    (try clear hb2)
    (try clear hk)
    (try clear hi)
    (try clear ho0)
    refine hK.out _ _ ⟨(blk_cell BK557.out 0).trans rfl, (blk_cell BK557.out 1).trans rfl, (blk_cell BK557.out 2).trans rfl⟩ (fun hHeld => ?_)
    clear hK K
    refine norm_ (a' := ?_) ?_ ?_
    rotate_left
    ·show Act.put _ (some 13) _ = _
     simp only [Act.put, List.setIfInBounds_toArray, List.set_cons_zero, List.set_cons_succ, i64_w, i32_w]
     rfl
    refine two_ (i := 3) (j := 4) (Ni := some 15) (Nj := some 8) #[true, true, true, true, false, false, false] #[true, true, true, false, true, false, false] rfl rfl rfl rfl (by kernel_rfl) (by decide) (by decide) (fun K hK => ?_) (fun K hK => ?_)
    ·skip
     refine goes_ Try.func36 (by kernel_rfl) rfl #[.agg #[.bool a2_0, .slice A2_1 l2_1.length c2_1, .string a2_2]] (by rfl) rfl rfl (by (try simp only [List.map_toArray, List.map_cons, List.map_nil]); first | done | rfl | (simp only [List.length_drop, List.length_take]; rfl)) ?_
     with_reducible refine (tickinglaw06_finding.calls a2_0 _ _ l2_1 a2_2 t561 t562 t565 _ ?side1 ?side2 A5.out).mono ?_
     (case side1 => repeat (first | exact (Kd.C_below HR2_1.out HB.out) | (with_reducible refine Kd.C_alloc ?_ _) | (with_reducible refine Kd.C_drewN ?_ _) | (with_reducible refine Kd.C_drew ?_)))
     (case side2 => exact HC2_1.out)
     rintro e w15 ⟨v563, rfl, ho0, hb⟩
     refine ⟨_, rfl, ?_⟩
     have n0_ := Aside0.mk (Kd.R_below (by (with_reducible repeat (first | apply Kd.R_alloc | apply Kd.R_drewN | apply Kd.R_drew)); exact HO560.out) hb)
     have n1_ := Aside0.mk (Kd.R_lower (Kd.R_newB ho0 (g := gb556) (o := .cells #[.int .i64 a1_0, .int .i64 a1_1] 23 (0, 0)) (by (with_reducible repeat (first | refine blk_drewN ?_ _ | refine blk_drew ?_ | refine blk_alloc ?_ _)); exact BK556.out)) (below_size (by repeat (first | (with_reducible first | exact HB.out | apply below_alloc | apply pw_below_drewN | apply below_drew1 | refine below_set ?_ GE556.out | refine below_set ?_ GE557.out) | exact HB.out))))
     have n2_ := Aside0.mk (blk_below (g := gb556) (o := .cells #[.int .i64 a1_0, .int .i64 a1_1] 23 (0, 0)) (by (with_reducible repeat (first | refine blk_drewN ?_ _ | refine blk_drew ?_ | refine blk_alloc ?_ _)); exact BK556.out) hb)
     have n3_ := Aside0.mk (blk_below (g := gb557) (o := .cells #[.bool a2_0, .slice A2_1 l2_1.length c2_1, .string a2_2] 55 (0, 0)) (by (with_reducible repeat (first | refine blk_drewN ?_ _ | refine blk_drew ?_ | refine blk_alloc ?_ _)); exact BK557.out) hb)
     have n4_ := Aside0.mk (below_step (by repeat (first | (with_reducible first | exact HB.out | apply below_alloc | apply pw_below_drewN | apply below_drew1 | refine below_set ?_ GE556.out | refine below_set ?_ GE557.out) | exact HB.out)) hb)
     clear HO560
     clear BK556
     clear BK557
     clear HB
     have HO560 := n0_
     have HO564 := n1_
     have BK556 := n2_
     have BK557 := n3_
     have HB := n4_
     clear n0_ n1_ n2_ n3_ n4_
     (try clear hb)
     (try clear hb2)
     (try clear hk)
     (try clear hi)
     (try clear ho0)
     refine hK.out _ _ ⟨(blk_cell BK557.out 0).trans rfl, (blk_cell BK557.out 1).trans rfl, (blk_cell BK557.out 2).trans rfl⟩ (fun hHeld => ?_)
     clear hK K
     refine norm_ (a' := ?_) ?_ ?_
     rotate_left
     ·show Act.put _ (some 15) _ = _
      simp only [Act.put, List.setIfInBounds_toArray, List.set_cons_zero, List.set_cons_succ, i64_w, i32_w]
      rfl
     refine one_ (i := 4) (N := some 8) #[true, true, true, true, true, false, false] rfl rfl (by kernel_rfl) (by decide) (fun K hK => ?_)
     refine box_step ?hg (N := 8) ?hd (cs := #[.bool false, .slice none 0 0, .string (⟨#[]⟩ : ByteArray)]) (t := 55) ?hr ?_; (case hd => rfl); (case hg => rfl); (case hr => first | (go_simp; done) | (go_simp; rfl))
     intro gb566 hg w16 hbox hb
     have n0_ := Aside0.mk (Kd.R_below (by (with_reducible repeat (first | apply Kd.R_alloc | apply Kd.R_drewN | apply Kd.R_drew)); exact HO560.out) hb)
     have n1_ := Aside0.mk (Kd.R_below (by (with_reducible repeat (first | apply Kd.R_alloc | apply Kd.R_drewN | apply Kd.R_drew)); exact HO564.out) hb)
     have n2_ := Aside0.mk (blk_below (g := gb556) (o := .cells #[.int .i64 a1_0, .int .i64 a1_1] 23 (0, 0)) (by (with_reducible repeat (first | refine blk_drewN ?_ _ | refine blk_drew ?_ | refine blk_alloc ?_ _)); exact BK556.out) hb)
     have n3_ := Aside0.mk (blk_below (g := gb557) (o := .cells #[.bool a2_0, .slice A2_1 l2_1.length c2_1, .string a2_2] 55 (0, 0)) (by (with_reducible repeat (first | refine blk_drewN ?_ _ | refine blk_drew ?_ | refine blk_alloc ?_ _)); exact BK557.out) hb)
     have n4_ := Aside0.mk (below_step (by repeat (first | (with_reducible first | exact HB.out | apply below_alloc | apply pw_below_drewN | apply below_drew1 | refine below_set ?_ GE556.out | refine below_set ?_ GE557.out) | exact HB.out)) hb)
     have n5_ := Aside0.mk (hbox)
     have n6_ := Aside0.mk ((by rw [hg]; exact (below_size (by repeat (first | (with_reducible first | exact HB.out | apply below_alloc | apply pw_below_drewN | apply below_drew1 | refine below_set ?_ GE556.out | refine below_set ?_ GE557.out) | exact HB.out))) : w.heap.size ≤ gb566))
     have n7_ := Aside0.mk ((by rw [hg]; exact (below_size (by repeat (first | (with_reducible first | exact HB.out | apply below_alloc | apply pw_below_drewN | apply below_drew1 | refine below_set ?_ GE556.out | refine below_set ?_ GE557.out) | exact HB.out))) : w.heap.size ≤ gb566))
     have n8_ := Aside0.mk ((by rw [hg]; exact Nat.ne_of_lt (blk_lt (g := gb556) (o := .cells #[.int .i64 a1_0, .int .i64 a1_1] 23 (0, 0)) (by (with_reducible repeat (first | refine blk_drewN ?_ _ | refine blk_drew ?_ | refine blk_alloc ?_ _)); exact BK556.out)) : gb556 ≠ gb566))
     have n9_ := Aside0.mk ((by rw [hg]; exact Nat.ne_of_gt (blk_lt (g := gb556) (o := .cells #[.int .i64 a1_0, .int .i64 a1_1] 23 (0, 0)) (by (with_reducible repeat (first | refine blk_drewN ?_ _ | refine blk_drew ?_ | refine blk_alloc ?_ _)); exact BK556.out)) : gb566 ≠ gb556))
     have n10_ := Aside0.mk ((by rw [hg]; exact Nat.ne_of_lt (blk_lt (g := gb557) (o := .cells #[.bool a2_0, .slice A2_1 l2_1.length c2_1, .string a2_2] 55 (0, 0)) (by (with_reducible repeat (first | refine blk_drewN ?_ _ | refine blk_drew ?_ | refine blk_alloc ?_ _)); exact BK557.out)) : gb557 ≠ gb566))
     have n11_ := Aside0.mk ((by rw [hg]; exact Nat.ne_of_gt (blk_lt (g := gb557) (o := .cells #[.bool a2_0, .slice A2_1 l2_1.length c2_1, .string a2_2] 55 (0, 0)) (by (with_reducible repeat (first | refine blk_drewN ?_ _ | refine blk_drew ?_ | refine blk_alloc ?_ _)); exact BK557.out)) : gb566 ≠ gb557))
     clear HO560
     clear HO564
     clear BK556
     clear BK557
     clear HB
     have HO560 := n0_
     have HO564 := n1_
     have BK556 := n2_
     have BK557 := n3_
     have HB := n4_
     have BK566 := n5_
     have GW566 := n6_
     have GE566 := n7_
     have NB556_566 := n8_
     have NB566_556 := n9_
     have NB557_566 := n10_
     have NB566_557 := n11_
     clear n0_ n1_ n2_ n3_ n4_ n5_ n6_ n7_ n8_ n9_ n10_ n11_
     clear hb hbox hg
     refine hK.out _ _ ⟨(blk_cell BK557.out 0).trans rfl, (blk_cell BK557.out 1).trans rfl, (blk_cell BK557.out 2).trans rfl⟩ (fun hHeld => ?_)
     clear hK K
     refine norm_ (a' := ?_) ?_ ?_
     rotate_left
     ·show Act.put _ (some 8) _ = _
      simp only [Act.put, List.setIfInBounds_toArray, List.set_cons_zero, List.set_cons_succ, i64_w, i32_w]
      rfl
     exact norm_ (by simp only [putAll, Act.put, List.setIfInBounds_toArray, List.set_cons_zero, List.set_cons_succ]) (hCont (v559, v563, gb566) _ ⟨hHeld, (by (with_reducible repeat (first | apply Kd.R_alloc | apply Kd.R_drewN | apply Kd.R_drew)); exact HO560.out), (by (with_reducible repeat (first | apply Kd.R_alloc | apply Kd.R_drewN | apply Kd.R_drew)); exact Kd.R_mono HO564.out (fun _ hk => hk.2)), (by (with_reducible repeat (first | refine blk_drewN ?_ _ | refine blk_drew ?_ | refine blk_alloc ?_ _)); exact BK556.out), (by (with_reducible repeat (first | refine blk_drewN ?_ _ | refine blk_drew ?_ | refine blk_alloc ?_ _)); exact BK557.out), (by (with_reducible repeat (first | refine blk_drewN ?_ _ | refine blk_drew ?_ | refine blk_alloc ?_ _)); exact BK566.out), GW566.out, GE566.out, NB556_566.out, NB566_556.out, NB557_566.out, NB566_557.out, (by repeat (first | (with_reducible first | exact HB.out | apply below_alloc | apply pw_below_drewN | apply below_drew1 | refine below_set ?_ GE556.out | refine below_set ?_ GE557.out | refine below_set ?_ GE566.out) | exact HB.out))⟩)
    skip
    refine box_step ?hg (N := 8) ?hd (cs := #[.bool false, .slice none 0 0, .string (⟨#[]⟩ : ByteArray)]) (t := 55) ?hr ?_; (case hd => rfl); (case hg => rfl); (case hr => first | (go_simp; done) | (go_simp; rfl))
    intro gb566 hg w15 hbox hb
    have n0_ := Aside0.mk (Kd.R_below (by (with_reducible repeat (first | apply Kd.R_alloc | apply Kd.R_drewN | apply Kd.R_drew)); exact HO560.out) hb)
    have n1_ := Aside0.mk (blk_below (g := gb556) (o := .cells #[.int .i64 a1_0, .int .i64 a1_1] 23 (0, 0)) (by (with_reducible repeat (first | refine blk_drewN ?_ _ | refine blk_drew ?_ | refine blk_alloc ?_ _)); exact BK556.out) hb)
    have n2_ := Aside0.mk (blk_below (g := gb557) (o := .cells #[.bool a2_0, .slice A2_1 l2_1.length c2_1, .string a2_2] 55 (0, 0)) (by (with_reducible repeat (first | refine blk_drewN ?_ _ | refine blk_drew ?_ | refine blk_alloc ?_ _)); exact BK557.out) hb)
    have n3_ := Aside0.mk (below_step (by repeat (first | (with_reducible first | exact HB.out | apply below_alloc | apply pw_below_drewN | apply below_drew1 | refine below_set ?_ GE556.out | refine below_set ?_ GE557.out) | exact HB.out)) hb)
    have n4_ := Aside0.mk (hbox)
    have n5_ := Aside0.mk ((by rw [hg]; exact (below_size (by repeat (first | (with_reducible first | exact HB.out | apply below_alloc | apply pw_below_drewN | apply below_drew1 | refine below_set ?_ GE556.out | refine below_set ?_ GE557.out) | exact HB.out))) : w.heap.size ≤ gb566))
    have n6_ := Aside0.mk ((by rw [hg]; exact (below_size (by repeat (first | (with_reducible first | exact HB.out | apply below_alloc | apply pw_below_drewN | apply below_drew1 | refine below_set ?_ GE556.out | refine below_set ?_ GE557.out) | exact HB.out))) : w.heap.size ≤ gb566))
    have n7_ := Aside0.mk ((by rw [hg]; exact Nat.ne_of_lt (blk_lt (g := gb556) (o := .cells #[.int .i64 a1_0, .int .i64 a1_1] 23 (0, 0)) (by (with_reducible repeat (first | refine blk_drewN ?_ _ | refine blk_drew ?_ | refine blk_alloc ?_ _)); exact BK556.out)) : gb556 ≠ gb566))
    have n8_ := Aside0.mk ((by rw [hg]; exact Nat.ne_of_gt (blk_lt (g := gb556) (o := .cells #[.int .i64 a1_0, .int .i64 a1_1] 23 (0, 0)) (by (with_reducible repeat (first | refine blk_drewN ?_ _ | refine blk_drew ?_ | refine blk_alloc ?_ _)); exact BK556.out)) : gb566 ≠ gb556))
    have n9_ := Aside0.mk ((by rw [hg]; exact Nat.ne_of_lt (blk_lt (g := gb557) (o := .cells #[.bool a2_0, .slice A2_1 l2_1.length c2_1, .string a2_2] 55 (0, 0)) (by (with_reducible repeat (first | refine blk_drewN ?_ _ | refine blk_drew ?_ | refine blk_alloc ?_ _)); exact BK557.out)) : gb557 ≠ gb566))
    have n10_ := Aside0.mk ((by rw [hg]; exact Nat.ne_of_gt (blk_lt (g := gb557) (o := .cells #[.bool a2_0, .slice A2_1 l2_1.length c2_1, .string a2_2] 55 (0, 0)) (by (with_reducible repeat (first | refine blk_drewN ?_ _ | refine blk_drew ?_ | refine blk_alloc ?_ _)); exact BK557.out)) : gb566 ≠ gb557))
    clear HO560
    clear BK556
    clear BK557
    clear HB
    have HO560 := n0_
    have BK556 := n1_
    have BK557 := n2_
    have HB := n3_
    have BK566 := n4_
    have GW566 := n5_
    have GE566 := n6_
    have NB556_566 := n7_
    have NB566_556 := n8_
    have NB557_566 := n9_
    have NB566_557 := n10_
    clear n0_ n1_ n2_ n3_ n4_ n5_ n6_ n7_ n8_ n9_ n10_
    clear hb hbox hg
    refine hK.out _ _ ⟨(blk_cell BK557.out 0).trans rfl, (blk_cell BK557.out 1).trans rfl, (blk_cell BK557.out 2).trans rfl⟩ (fun hHeld => ?_)
    clear hK K
    refine norm_ (a' := ?_) ?_ ?_
    rotate_left
    ·show Act.put _ (some 8) _ = _
     simp only [Act.put, List.setIfInBounds_toArray, List.set_cons_zero, List.set_cons_succ, i64_w, i32_w]
     rfl
    refine one_ (i := 3) (N := some 15) #[true, true, true, true, true, false, false] rfl rfl (by kernel_rfl) (by decide) (fun K hK => ?_)
    refine goes_ Try.func36 (by kernel_rfl) rfl #[.agg #[.bool a2_0, .slice A2_1 l2_1.length c2_1, .string a2_2]] (by rfl) rfl rfl (by (try simp only [List.map_toArray, List.map_cons, List.map_nil]); first | done | rfl | (simp only [List.length_drop, List.length_take]; rfl)) ?_
    with_reducible refine (tickinglaw06_finding.calls a2_0 _ _ l2_1 a2_2 t561 t562 t565 _ ?side1 ?side2 A5.out).mono ?_
    (case side1 => repeat (first | exact (Kd.C_below HR2_1.out HB.out) | (with_reducible refine Kd.C_alloc ?_ _) | (with_reducible refine Kd.C_drewN ?_ _) | (with_reducible refine Kd.C_drew ?_)))
    (case side2 => exact HC2_1.out)
    rintro e w16 ⟨v563, rfl, ho0, hb⟩
    refine ⟨_, rfl, ?_⟩
    have n0_ := Aside0.mk (Kd.R_below (by (with_reducible repeat (first | apply Kd.R_alloc | apply Kd.R_drewN | apply Kd.R_drew)); exact HO560.out) hb)
    have n1_ := Aside0.mk (Kd.R_lower (Kd.R_newB ho0 (g := gb556) (o := .cells #[.int .i64 a1_0, .int .i64 a1_1] 23 (0, 0)) (by (with_reducible repeat (first | refine blk_drewN ?_ _ | refine blk_drew ?_ | refine blk_alloc ?_ _)); exact BK556.out)) (below_size (by repeat (first | (with_reducible first | exact HB.out | apply below_alloc | apply pw_below_drewN | apply below_drew1 | refine below_set ?_ GE556.out | refine below_set ?_ GE557.out | refine below_set ?_ GE566.out) | exact HB.out))))
    have n2_ := Aside0.mk (blk_below (g := gb556) (o := .cells #[.int .i64 a1_0, .int .i64 a1_1] 23 (0, 0)) (by (with_reducible repeat (first | refine blk_drewN ?_ _ | refine blk_drew ?_ | refine blk_alloc ?_ _)); exact BK556.out) hb)
    have n3_ := Aside0.mk (blk_below (g := gb557) (o := .cells #[.bool a2_0, .slice A2_1 l2_1.length c2_1, .string a2_2] 55 (0, 0)) (by (with_reducible repeat (first | refine blk_drewN ?_ _ | refine blk_drew ?_ | refine blk_alloc ?_ _)); exact BK557.out) hb)
    have n4_ := Aside0.mk (blk_below (g := gb566) (o := .cells #[.bool false, .slice none 0 0, .string (⟨#[]⟩ : ByteArray)] 55 (0, 0)) (by (with_reducible repeat (first | refine blk_drewN ?_ _ | refine blk_drew ?_ | refine blk_alloc ?_ _)); exact BK566.out) hb)
    have n5_ := Aside0.mk (below_step (by repeat (first | (with_reducible first | exact HB.out | apply below_alloc | apply pw_below_drewN | apply below_drew1 | refine below_set ?_ GE556.out | refine below_set ?_ GE557.out | refine below_set ?_ GE566.out) | exact HB.out)) hb)
    clear HO560
    clear BK556
    clear BK557
    clear BK566
    clear HB
    have HO560 := n0_
    have HO564 := n1_
    have BK556 := n2_
    have BK557 := n3_
    have BK566 := n4_
    have HB := n5_
    clear n0_ n1_ n2_ n3_ n4_ n5_
    (try clear hb)
    (try clear hb2)
    (try clear hk)
    (try clear hi)
    (try clear ho0)
    refine hK.out _ _ ⟨(blk_cell BK557.out 0).trans rfl, (blk_cell BK557.out 1).trans rfl, (blk_cell BK557.out 2).trans rfl⟩ (fun hHeld => ?_)
    clear hK K
    refine norm_ (a' := ?_) ?_ ?_
    rotate_left
    ·show Act.put _ (some 15) _ = _
     simp only [Act.put, List.setIfInBounds_toArray, List.set_cons_zero, List.set_cons_succ, i64_w, i32_w]
     rfl
    exact norm_ (by simp only [putAll, Act.put, List.setIfInBounds_toArray, List.set_cons_zero, List.set_cons_succ]) (hCont (v559, v563, gb566) _ ⟨hHeld, (by (with_reducible repeat (first | apply Kd.R_alloc | apply Kd.R_drewN | apply Kd.R_drew)); exact HO560.out), (by (with_reducible repeat (first | apply Kd.R_alloc | apply Kd.R_drewN | apply Kd.R_drew)); exact Kd.R_mono HO564.out (fun _ hk => hk.2)), (by (with_reducible repeat (first | refine blk_drewN ?_ _ | refine blk_drew ?_ | refine blk_alloc ?_ _)); exact BK556.out), (by (with_reducible repeat (first | refine blk_drewN ?_ _ | refine blk_drew ?_ | refine blk_alloc ?_ _)); exact BK557.out), (by (with_reducible repeat (first | refine blk_drewN ?_ _ | refine blk_drew ?_ | refine blk_alloc ?_ _)); exact BK566.out), GW566.out, GE566.out, NB556_566.out, NB566_556.out, NB557_566.out, NB566_557.out, (by repeat (first | (with_reducible first | exact HB.out | apply below_alloc | apply pw_below_drewN | apply below_drew1 | refine below_set ?_ GE556.out | refine below_set ?_ GE557.out | refine below_set ?_ GE566.out) | exact HB.out))⟩)
   skip
   refine box_step ?hg (N := 8) ?hd (cs := #[.bool false, .slice none 0 0, .string (⟨#[]⟩ : ByteArray)]) (t := 55) ?hr ?_; (case hd => rfl); (case hg => rfl); (case hr => first | (go_simp; done) | (go_simp; rfl))
   intro gb566 hg w14 hbox hb
   have n0_ := Aside0.mk (blk_below (g := gb556) (o := .cells #[.int .i64 a1_0, .int .i64 a1_1] 23 (0, 0)) (by (with_reducible repeat (first | refine blk_drewN ?_ _ | refine blk_drew ?_ | refine blk_alloc ?_ _)); exact BK556.out) hb)
   have n1_ := Aside0.mk (blk_below (g := gb557) (o := .cells #[.bool a2_0, .slice A2_1 l2_1.length c2_1, .string a2_2] 55 (0, 0)) (by (with_reducible repeat (first | refine blk_drewN ?_ _ | refine blk_drew ?_ | refine blk_alloc ?_ _)); exact BK557.out) hb)
   have n2_ := Aside0.mk (below_step (by repeat (first | (with_reducible first | exact HB.out | apply below_alloc | apply pw_below_drewN | apply below_drew1 | refine below_set ?_ GE556.out | refine below_set ?_ GE557.out) | exact HB.out)) hb)
   have n3_ := Aside0.mk (hbox)
   have n4_ := Aside0.mk ((by rw [hg]; exact (below_size (by repeat (first | (with_reducible first | exact HB.out | apply below_alloc | apply pw_below_drewN | apply below_drew1 | refine below_set ?_ GE556.out | refine below_set ?_ GE557.out) | exact HB.out))) : w.heap.size ≤ gb566))
   have n5_ := Aside0.mk ((by rw [hg]; exact (below_size (by repeat (first | (with_reducible first | exact HB.out | apply below_alloc | apply pw_below_drewN | apply below_drew1 | refine below_set ?_ GE556.out | refine below_set ?_ GE557.out) | exact HB.out))) : w.heap.size ≤ gb566))
   have n6_ := Aside0.mk ((by rw [hg]; exact Nat.ne_of_lt (blk_lt (g := gb556) (o := .cells #[.int .i64 a1_0, .int .i64 a1_1] 23 (0, 0)) (by (with_reducible repeat (first | refine blk_drewN ?_ _ | refine blk_drew ?_ | refine blk_alloc ?_ _)); exact BK556.out)) : gb556 ≠ gb566))
   have n7_ := Aside0.mk ((by rw [hg]; exact Nat.ne_of_gt (blk_lt (g := gb556) (o := .cells #[.int .i64 a1_0, .int .i64 a1_1] 23 (0, 0)) (by (with_reducible repeat (first | refine blk_drewN ?_ _ | refine blk_drew ?_ | refine blk_alloc ?_ _)); exact BK556.out)) : gb566 ≠ gb556))
   have n8_ := Aside0.mk ((by rw [hg]; exact Nat.ne_of_lt (blk_lt (g := gb557) (o := .cells #[.bool a2_0, .slice A2_1 l2_1.length c2_1, .string a2_2] 55 (0, 0)) (by (with_reducible repeat (first | refine blk_drewN ?_ _ | refine blk_drew ?_ | refine blk_alloc ?_ _)); exact BK557.out)) : gb557 ≠ gb566))
   have n9_ := Aside0.mk ((by rw [hg]; exact Nat.ne_of_gt (blk_lt (g := gb557) (o := .cells #[.bool a2_0, .slice A2_1 l2_1.length c2_1, .string a2_2] 55 (0, 0)) (by (with_reducible repeat (first | refine blk_drewN ?_ _ | refine blk_drew ?_ | refine blk_alloc ?_ _)); exact BK557.out)) : gb566 ≠ gb557))
   clear BK556
   clear BK557
   clear HB
   have BK556 := n0_
   have BK557 := n1_
   have HB := n2_
   have BK566 := n3_
   have GW566 := n4_
   have GE566 := n5_
   have NB556_566 := n6_
   have NB566_556 := n7_
   have NB557_566 := n8_
   have NB566_557 := n9_
   clear n0_ n1_ n2_ n3_ n4_ n5_ n6_ n7_ n8_ n9_
   clear hb hbox hg
   refine hK.out _ _ ⟨(blk_cell BK557.out 0).trans rfl, (blk_cell BK557.out 1).trans rfl, (blk_cell BK557.out 2).trans rfl⟩ (fun hHeld => ?_)
   clear hK K
   refine norm_ (a' := ?_) ?_ ?_
   rotate_left
   ·show Act.put _ (some 8) _ = _
    simp only [Act.put, List.setIfInBounds_toArray, List.set_cons_zero, List.set_cons_succ, i64_w, i32_w]
    rfl
   refine one_ (i := 1) (N := some 13) #[true, true, true, false, true, false, false] rfl rfl (by kernel_rfl) (by decide) (fun K hK => ?_)
   refine goes_ Try.func15 (by kernel_rfl) rfl #[.slice A0 l0.length c0] (by rfl) rfl rfl (by (try simp only [List.map_toArray, List.map_cons, List.map_nil]); first | done | rfl | (simp only [List.length_drop, List.length_take]; rfl)) ?_
   with_reducible refine (tickinglaw06_own.calls _ _ l0 t558 _ ?side1 ?side2 A4.out).mono ?_
   (case side1 => repeat (first | exact (Kd.C_below HR0.out HB.out) | (with_reducible refine Kd.C_alloc ?_ _) | (with_reducible refine Kd.C_drewN ?_ _) | (with_reducible refine Kd.C_drew ?_)))
   (case side2 => exact HC0.out)
   rintro e w15 ⟨v559, rfl, ho0, hb⟩
   refine ⟨_, rfl, ?_⟩
   have n0_ := Aside0.mk (Kd.R_lower ho0 (below_size (by repeat (first | (with_reducible first | exact HB.out | apply below_alloc | apply pw_below_drewN | apply below_drew1 | refine below_set ?_ GE556.out | refine below_set ?_ GE557.out | refine below_set ?_ GE566.out) | exact HB.out))))
   have n1_ := Aside0.mk (blk_below (g := gb556) (o := .cells #[.int .i64 a1_0, .int .i64 a1_1] 23 (0, 0)) (by (with_reducible repeat (first | refine blk_drewN ?_ _ | refine blk_drew ?_ | refine blk_alloc ?_ _)); exact BK556.out) hb)
   have n2_ := Aside0.mk (blk_below (g := gb557) (o := .cells #[.bool a2_0, .slice A2_1 l2_1.length c2_1, .string a2_2] 55 (0, 0)) (by (with_reducible repeat (first | refine blk_drewN ?_ _ | refine blk_drew ?_ | refine blk_alloc ?_ _)); exact BK557.out) hb)
   have n3_ := Aside0.mk (blk_below (g := gb566) (o := .cells #[.bool false, .slice none 0 0, .string (⟨#[]⟩ : ByteArray)] 55 (0, 0)) (by (with_reducible repeat (first | refine blk_drewN ?_ _ | refine blk_drew ?_ | refine blk_alloc ?_ _)); exact BK566.out) hb)
   have n4_ := Aside0.mk (below_step (by repeat (first | (with_reducible first | exact HB.out | apply below_alloc | apply pw_below_drewN | apply below_drew1 | refine below_set ?_ GE556.out | refine below_set ?_ GE557.out | refine below_set ?_ GE566.out) | exact HB.out)) hb)
   clear BK556
   clear BK557
   clear BK566
   clear HB
   have HO560 := n0_
   have BK556 := n1_
   have BK557 := n2_
   have BK566 := n3_
   have HB := n4_
   clear n0_ n1_ n2_ n3_ n4_
   (try clear hb)
   (try clear hb2)
   (try clear hk)
   (try clear hi)
   (try clear ho0)
   refine hK.out _ _ ⟨(blk_cell BK557.out 0).trans rfl, (blk_cell BK557.out 1).trans rfl, (blk_cell BK557.out 2).trans rfl⟩ (fun hHeld => ?_)
   clear hK K
   refine norm_ (a' := ?_) ?_ ?_
   rotate_left
   ·show Act.put _ (some 13) _ = _
    simp only [Act.put, List.setIfInBounds_toArray, List.set_cons_zero, List.set_cons_succ, i64_w, i32_w]
    rfl
   refine one_ (i := 3) (N := some 15) #[true, true, true, true, true, false, false] rfl rfl (by kernel_rfl) (by decide) (fun K hK => ?_)
   refine goes_ Try.func36 (by kernel_rfl) rfl #[.agg #[.bool a2_0, .slice A2_1 l2_1.length c2_1, .string a2_2]] (by rfl) rfl rfl (by (try simp only [List.map_toArray, List.map_cons, List.map_nil]); first | done | rfl | (simp only [List.length_drop, List.length_take]; rfl)) ?_
   with_reducible refine (tickinglaw06_finding.calls a2_0 _ _ l2_1 a2_2 t561 t562 t565 _ ?side1 ?side2 A5.out).mono ?_
   (case side1 => repeat (first | exact (Kd.C_below HR2_1.out HB.out) | (with_reducible refine Kd.C_alloc ?_ _) | (with_reducible refine Kd.C_drewN ?_ _) | (with_reducible refine Kd.C_drew ?_)))
   (case side2 => exact HC2_1.out)
   rintro e w16 ⟨v563, rfl, ho0, hb⟩
   refine ⟨_, rfl, ?_⟩
   have n0_ := Aside0.mk (Kd.R_below (by (with_reducible repeat (first | apply Kd.R_alloc | apply Kd.R_drewN | apply Kd.R_drew)); exact HO560.out) hb)
   have n1_ := Aside0.mk (Kd.R_lower (Kd.R_newB ho0 (g := gb556) (o := .cells #[.int .i64 a1_0, .int .i64 a1_1] 23 (0, 0)) (by (with_reducible repeat (first | refine blk_drewN ?_ _ | refine blk_drew ?_ | refine blk_alloc ?_ _)); exact BK556.out)) (below_size (by repeat (first | (with_reducible first | exact HB.out | apply below_alloc | apply pw_below_drewN | apply below_drew1 | refine below_set ?_ GE556.out | refine below_set ?_ GE557.out | refine below_set ?_ GE566.out) | exact HB.out))))
   have n2_ := Aside0.mk (blk_below (g := gb556) (o := .cells #[.int .i64 a1_0, .int .i64 a1_1] 23 (0, 0)) (by (with_reducible repeat (first | refine blk_drewN ?_ _ | refine blk_drew ?_ | refine blk_alloc ?_ _)); exact BK556.out) hb)
   have n3_ := Aside0.mk (blk_below (g := gb557) (o := .cells #[.bool a2_0, .slice A2_1 l2_1.length c2_1, .string a2_2] 55 (0, 0)) (by (with_reducible repeat (first | refine blk_drewN ?_ _ | refine blk_drew ?_ | refine blk_alloc ?_ _)); exact BK557.out) hb)
   have n4_ := Aside0.mk (blk_below (g := gb566) (o := .cells #[.bool false, .slice none 0 0, .string (⟨#[]⟩ : ByteArray)] 55 (0, 0)) (by (with_reducible repeat (first | refine blk_drewN ?_ _ | refine blk_drew ?_ | refine blk_alloc ?_ _)); exact BK566.out) hb)
   have n5_ := Aside0.mk (below_step (by repeat (first | (with_reducible first | exact HB.out | apply below_alloc | apply pw_below_drewN | apply below_drew1 | refine below_set ?_ GE556.out | refine below_set ?_ GE557.out | refine below_set ?_ GE566.out) | exact HB.out)) hb)
   clear HO560
   clear BK556
   clear BK557
   clear BK566
   clear HB
   have HO560 := n0_
   have HO564 := n1_
   have BK556 := n2_
   have BK557 := n3_
   have BK566 := n4_
   have HB := n5_
   clear n0_ n1_ n2_ n3_ n4_ n5_
   (try clear hb)
   (try clear hb2)
   (try clear hk)
   (try clear hi)
   (try clear ho0)
   refine hK.out _ _ ⟨(blk_cell BK557.out 0).trans rfl, (blk_cell BK557.out 1).trans rfl, (blk_cell BK557.out 2).trans rfl⟩ (fun hHeld => ?_)
   clear hK K
   refine norm_ (a' := ?_) ?_ ?_
   rotate_left
   ·show Act.put _ (some 15) _ = _
    simp only [Act.put, List.setIfInBounds_toArray, List.set_cons_zero, List.set_cons_succ, i64_w, i32_w]
    rfl
   exact norm_ (by simp only [putAll, Act.put, List.setIfInBounds_toArray, List.set_cons_zero, List.set_cons_succ]) (hCont (v559, v563, gb566) _ ⟨hHeld, (by (with_reducible repeat (first | apply Kd.R_alloc | apply Kd.R_drewN | apply Kd.R_drew)); exact HO560.out), (by (with_reducible repeat (first | apply Kd.R_alloc | apply Kd.R_drewN | apply Kd.R_drew)); exact Kd.R_mono HO564.out (fun _ hk => hk.2)), (by (with_reducible repeat (first | refine blk_drewN ?_ _ | refine blk_drew ?_ | refine blk_alloc ?_ _)); exact BK556.out), (by (with_reducible repeat (first | refine blk_drewN ?_ _ | refine blk_drew ?_ | refine blk_alloc ?_ _)); exact BK557.out), (by (with_reducible repeat (first | refine blk_drewN ?_ _ | refine blk_drew ?_ | refine blk_alloc ?_ _)); exact BK566.out), GW566.out, GE566.out, NB556_566.out, NB566_556.out, NB557_566.out, NB566_557.out, (by repeat (first | (with_reducible first | exact HB.out | apply below_alloc | apply pw_below_drewN | apply below_drew1 | refine below_set ?_ GE556.out | refine below_set ?_ GE557.out | refine below_set ?_ GE566.out) | exact HB.out))⟩)
  rintro ⟨v559, v563, gb566⟩ w17 ⟨hS_, h0_, h1_, h2_, h3_, h4_, h5_, h6_, h7_, h8_, h9_, h10_, h11_⟩
  have n0_ : Aside0 (Kd.R k39 39 w17 w.heap.size (fun _ => True) v559 t558) := ⟨h0_⟩
  have n1_ : Aside0 (Kd.R k23 23 w17 w.heap.size (fun k_ => k_ ≠ gb556) v563 t562) := ⟨h1_⟩
  have n2_ : Aside0 (w17.heap[gb556]? = some (.cells #[.int .i64 a1_0, .int .i64 a1_1] 23 (0, 0))) := ⟨h2_⟩
  have n3_ : Aside0 (w17.heap[gb557]? = some (.cells #[.bool a2_0, .slice A2_1 l2_1.length c2_1, .string a2_2] 55 (0, 0))) := ⟨h3_⟩
  have n4_ : Aside0 (w17.heap[gb566]? = some (.cells #[.bool false, .slice none 0 0, .string (⟨#[]⟩ : ByteArray)] 55 (0, 0))) := ⟨h4_⟩
  have n5_ : Aside0 (w.heap.size ≤ gb566) := ⟨h5_⟩
  have n6_ : Aside0 (w.heap.size ≤ gb566) := ⟨h6_⟩
  have n7_ : Aside0 (gb556 ≠ gb566) := ⟨h7_⟩
  have n8_ : Aside0 (gb566 ≠ gb556) := ⟨h8_⟩
  have n9_ : Aside0 (gb557 ≠ gb566) := ⟨h9_⟩
  have n10_ : Aside0 (gb566 ≠ gb557) := ⟨h10_⟩
  have n11_ : Aside0 (Below w.heap.size w w17) := ⟨h11_⟩
  clear BK556
  clear BK557
  clear HB
  clear h0_ h1_ h2_ h3_ h4_ h5_ h6_ h7_ h8_ h9_ h10_ h11_
  have HO560 := n0_
  have HO564 := n1_
  have BK556 := n2_
  have BK557 := n3_
  have BK566 := n4_
  have GW566 := n5_
  have GE566 := n6_
  have NB556_566 := n7_
  have NB566_556 := n8_
  have NB557_566 := n9_
  have NB566_557 := n10_
  have HB := n11_
  clear n0_ n1_ n2_ n3_ n4_ n5_ n6_ n7_ n8_ n9_ n10_ n11_
  have hHeld : w17.cell? ⟨gb557, 0, none⟩ = some (.bool a2_0) ∧ w17.cell? ⟨gb557, 1, none⟩ = some (.slice A2_1 l2_1.length c2_1) ∧ w17.cell? ⟨gb557, 2, none⟩ = some (.string a2_2) := hS_
  obtain ⟨Ao19, co19, eo19⟩ := Kd.R_slice HO564.out
  (first | subst eo19 | (injection eo19 with f1_ f2_ f3_; have f4_ := f1_.symm; have f5_ := f3_.symm; clear f1_ f2_ f3_; subst f4_; subst f5_))
  refine norm_ (a' := ?_) ?_ ?_
  rotate_left
  ·simp only [putAll, Act.put, List.setIfInBounds_toArray, List.set_cons_zero, List.set_cons_succ]
   rfl
  refine pure_ (i := 5) (N := some 7) (v := ?_) (a' := ?_) #[true, true, true, true, true, true, false] rfl rfl (by kernel_rfl) (fun _ _ _ h => h) (Or.inl ⟨by rfl, ?_⟩) ?_ ?_
  rotate_left
  ·intro w'
   go_simp
   with_reducible rfl
  rotate_left
  ·simp only [Act.put, List.setIfInBounds_toArray, List.set_cons_zero, List.set_cons_succ, i64_w, i32_w]
   rfl
  refine one_ (i := 6) (N := none) #[true, true, true, true, true, true, true] rfl rfl (by kernel_rfl) (by decide) (fun K hK => ?_)
  have hs18 : w17.cell? ⟨gb566, 0, none⟩ = some (.bool false) := (blk_cell BK566.out 0).trans rfl
  have hfs18 := blk_frozen BK566.out 0
  have hns18_0 := NB556_566.out
  have hns18_1 := NB557_566.out
  have hms18_0 := NB566_556.out
  have hms18_1 := NB566_557.out
  have hs20 : w17.cell? ⟨gb566, 1, none⟩ = some (.slice none 0 0) := (blk_cell BK566.out 1).trans rfl
  have hfs20 := blk_frozen BK566.out 1
  have hns20_0 := NB556_566.out
  have hns20_1 := NB557_566.out
  have hms20_0 := NB566_556.out
  have hms20_1 := NB566_557.out
  have hs21 : w17.cell? ⟨gb566, 2, none⟩ = some (.string (⟨#[]⟩ : ByteArray)) := (blk_cell BK566.out 2).trans rfl
  have hfs21 := blk_frozen BK566.out 2
  have hns21_0 := NB556_566.out
  have hns21_1 := NB557_566.out
  have hms21_0 := NB566_556.out
  have hms21_1 := NB566_557.out
  refine skip_ (w1 := ?_) (by rfl) rfl ?_ ?_
  rotate_left
  ·go_simp
   rfl
  refine hK.out _ _ ⟨((cell_far (p := ⟨gb566, _, none⟩) NB557_566.out _).trans (((cell_far (p := ⟨gb566, _, none⟩) NB557_566.out _).trans (((cell_far (p := ⟨gb566, _, none⟩) NB557_566.out _).trans (hHeld.1)))))), ((cell_far (p := ⟨gb566, _, none⟩) NB557_566.out _).trans (((cell_far (p := ⟨gb566, _, none⟩) NB557_566.out _).trans (((cell_far (p := ⟨gb566, _, none⟩) NB557_566.out _).trans (hHeld.2.1)))))), ((cell_far (p := ⟨gb566, _, none⟩) NB557_566.out _).trans (((cell_far (p := ⟨gb566, _, none⟩) NB557_566.out _).trans (((cell_far (p := ⟨gb566, _, none⟩) NB557_566.out _).trans (hHeld.2.2))))))⟩ (fun hHeld => ?_)
  clear hK K
  refine done_ (by kernel_rfl) ?_
  try go_wp2
  have n0_ : Aside0 (Kd.R k39 39 (((w17.setCell ⟨gb566, 0, none⟩ (.bool t561)).setCell ⟨gb566, 1, none⟩ (.slice Ao19 t562.length co19)).setCell ⟨gb566, 2, none⟩ (.string t565)) w.heap.size (fun _ => True) v559 t558) := ⟨by (with_reducible repeat (first | apply Kd.R_alloc | apply Kd.R_drewN | apply Kd.R_drew)); exact Kd.R_mono (Kd.R_far (p := ⟨gb566, 2, none⟩) (Kd.R_far (p := ⟨gb566, 1, none⟩) (Kd.R_far (p := ⟨gb566, 0, none⟩) (Kd.R_types HO560.out BK566.out (by decide)) (fun _ hk => hk.2) (.bool t561)) (fun _ hk => hk.2) (.slice Ao19 t562.length co19)) (fun _ hk => hk.2) (.string t565)) (fun _ hk => trivial)⟩
  have n1_ : Aside0 (Kd.R k23 23 (((w17.setCell ⟨gb566, 0, none⟩ (.bool t561)).setCell ⟨gb566, 1, none⟩ (.slice Ao19 t562.length co19)).setCell ⟨gb566, 2, none⟩ (.string t565)) w.heap.size (fun k_ => k_ ≠ gb556) (.slice Ao19 t562.length co19) t562) := ⟨by (with_reducible repeat (first | apply Kd.R_alloc | apply Kd.R_drewN | apply Kd.R_drew)); exact Kd.R_mono (Kd.R_far (p := ⟨gb566, 2, none⟩) (Kd.R_far (p := ⟨gb566, 1, none⟩) (Kd.R_far (p := ⟨gb566, 0, none⟩) (Kd.R_types HO564.out BK566.out (by decide)) (fun _ hk => hk.2) (.bool t561)) (fun _ hk => hk.2) (.slice Ao19 t562.length co19)) (fun _ hk => hk.2) (.string t565)) (fun _ hk => hk.1)⟩
  have n2_ : Aside0 ((((w17.setCell ⟨gb566, 0, none⟩ (.bool t561)).setCell ⟨gb566, 1, none⟩ (.slice Ao19 t562.length co19)).setCell ⟨gb566, 2, none⟩ (.string t565)).heap[gb556]? = some (.cells #[.int .i64 a1_0, .int .i64 a1_1] 23 (0, 0))) := ⟨by (with_reducible repeat (first | refine blk_drewN ?_ _ | refine blk_drew ?_ | refine blk_alloc ?_ _)); refine blk_far ?_ NB556_566.out _; (with_reducible repeat (first | refine blk_drewN ?_ _ | refine blk_drew ?_ | refine blk_alloc ?_ _)); refine blk_far ?_ NB556_566.out _; (with_reducible repeat (first | refine blk_drewN ?_ _ | refine blk_drew ?_ | refine blk_alloc ?_ _)); refine blk_far ?_ NB556_566.out _; (with_reducible repeat (first | refine blk_drewN ?_ _ | refine blk_drew ?_ | refine blk_alloc ?_ _)); exact BK556.out⟩
  have n3_ : Aside0 ((((w17.setCell ⟨gb566, 0, none⟩ (.bool t561)).setCell ⟨gb566, 1, none⟩ (.slice Ao19 t562.length co19)).setCell ⟨gb566, 2, none⟩ (.string t565)).heap[gb557]? = some (.cells #[.bool a2_0, .slice A2_1 l2_1.length c2_1, .string a2_2] 55 (0, 0))) := ⟨by (with_reducible repeat (first | refine blk_drewN ?_ _ | refine blk_drew ?_ | refine blk_alloc ?_ _)); refine blk_far ?_ NB557_566.out _; (with_reducible repeat (first | refine blk_drewN ?_ _ | refine blk_drew ?_ | refine blk_alloc ?_ _)); refine blk_far ?_ NB557_566.out _; (with_reducible repeat (first | refine blk_drewN ?_ _ | refine blk_drew ?_ | refine blk_alloc ?_ _)); refine blk_far ?_ NB557_566.out _; (with_reducible repeat (first | refine blk_drewN ?_ _ | refine blk_drew ?_ | refine blk_alloc ?_ _)); exact BK557.out⟩
  have n4_ : Aside0 ((((w17.setCell ⟨gb566, 0, none⟩ (.bool t561)).setCell ⟨gb566, 1, none⟩ (.slice Ao19 t562.length co19)).setCell ⟨gb566, 2, none⟩ (.string t565)).heap[gb566]? = some (.cells #[.bool t561, .slice Ao19 t562.length co19, .string t565] 55 (0, 0))) := ⟨by (with_reducible repeat (first | refine blk_drewN ?_ _ | refine blk_drew ?_ | refine blk_alloc ?_ _)); refine blk_put (cs := #[.bool t561, .slice Ao19 t562.length co19, .string (⟨#[]⟩ : ByteArray)]) ?_ 2 _ rfl; (with_reducible repeat (first | refine blk_drewN ?_ _ | refine blk_drew ?_ | refine blk_alloc ?_ _)); refine blk_put (cs := #[.bool t561, .slice none 0 0, .string (⟨#[]⟩ : ByteArray)]) ?_ 1 _ rfl; (with_reducible repeat (first | refine blk_drewN ?_ _ | refine blk_drew ?_ | refine blk_alloc ?_ _)); refine blk_put (cs := #[.bool false, .slice none 0 0, .string (⟨#[]⟩ : ByteArray)]) ?_ 0 _ rfl; (with_reducible repeat (first | refine blk_drewN ?_ _ | refine blk_drew ?_ | refine blk_alloc ?_ _)); exact BK566.out⟩
  have n5_ : Aside0 (Below w.heap.size w (((w17.setCell ⟨gb566, 0, none⟩ (.bool t561)).setCell ⟨gb566, 1, none⟩ (.slice Ao19 t562.length co19)).setCell ⟨gb566, 2, none⟩ (.string t565))) := ⟨by repeat (first | (with_reducible first | exact HB.out | apply below_alloc | apply pw_below_drewN | apply below_drew1 | refine below_set ?_ GE556.out | refine below_set ?_ GE557.out | refine below_set ?_ GE566.out) | exact HB.out)⟩
  (try clear HO560)
  (try clear HO564)
  (try clear BK556)
  (try clear BK557)
  (try clear BK566)
  (try clear HB)
  generalize (((w17.setCell ⟨gb566, 0, none⟩ (.bool t561)).setCell ⟨gb566, 1, none⟩ (.slice Ao19 t562.length co19)).setCell ⟨gb566, 2, none⟩ (.string t565)) = w22 at n0_ n1_ n2_ n3_ n4_ n5_ ⊢
  have HO560 := n0_
  have HO564 := n1_
  have BK556 := n2_
  have BK557 := n3_
  have BK566 := n4_
  have HB := n5_
  clear n0_ n1_ n2_ n3_ n4_ n5_
  have n0_ := Aside0.mk (Kd.R_drew HO560.out)
  have n1_ := Aside0.mk (Kd.R_drew HO564.out)
  have n2_ := Aside0.mk (blk_drew BK556.out)
  have n3_ := Aside0.mk (blk_drew BK557.out)
  have n4_ := Aside0.mk (blk_drew BK566.out)
  have n5_ := Aside0.mk (below_drew1 HB.out)
  clear HO560
  clear HO564
  clear BK556
  clear BK557
  clear BK566
  clear HB
  have HO560 := n0_
  have HO564 := n1_
  have BK556 := n2_
  have BK557 := n3_
  have BK566 := n4_
  have HB := n5_
  clear n0_ n1_ n2_ n3_ n4_ n5_
  refine start_ (n := 6) (S := fun w' => w'.cell? ⟨gb556, 0, none⟩ = some (.int .i64 a1_0) ∧ w'.cell? ⟨gb556, 1, none⟩ = some (.int .i64 a1_1)) (ds := []) #[false, false, false, false, false, false] (by kernel_rfl) rfl rfl ⟨(blk_cell BK556.out 0).trans rfl, (blk_cell BK556.out 1).trans rfl⟩ (fun hHeld => ?_)
  generalize w22.drew = w23 at HO560 HO564 BK556 BK557 BK566 HB hHeld ⊢
  refine pure_ (i := 0) (N := some 16) (v := ?_) (a' := ?_) #[true, false, false, false, false, false] rfl rfl (by kernel_rfl) (fun _ _ _ h => h) (Or.inl ⟨by rfl, ?_⟩) ?_ ?_
  rotate_left
  ·intro w'
   go_simp
   with_reducible rfl
  rotate_left
  ·simp only [Act.put, List.setIfInBounds_toArray, List.set_cons_zero, List.set_cons_succ, i64_w, i32_w]
   rfl
  refine pure_ (i := 2) (N := some 18) (v := ?_) (a' := ?_) #[true, false, true, false, false, false] rfl rfl (by kernel_rfl) (fun _ _ _ h => h) (Or.inl ⟨by rfl, ?_⟩) ?_ ?_
  rotate_left
  ·intro w'
   go_simp
   with_reducible rfl
  rotate_left
  ·simp only [Act.put, List.setIfInBounds_toArray, List.set_cons_zero, List.set_cons_succ, i64_w, i32_w]
   rfl
  refine take_ (i := 1) (N := some 17) (v := ?_) (a' := ?_) #[true, true, true, false, false, false] rfl rfl (by kernel_rfl) (fun _ _ _ h => h) (Or.inl ⟨by rfl, ?_⟩) hHeld ?_ ?_
  rotate_left
  ·rintro w' ⟨s0, s1⟩
   go_simp
   with_reducible rfl
  rotate_left
  ·simp only [Act.put, List.setIfInBounds_toArray, List.set_cons_zero, List.set_cons_succ, i64_w, i32_w]
   rfl
  refine pure_ (i := 4) (N := some 9) (v := ?_) (a' := ?_) #[true, true, true, false, true, false] rfl rfl (by kernel_rfl) (fun _ _ _ h => h) (Or.inl ⟨by rfl, ?_⟩) ?_ ?_
  rotate_left
  ·intro w'
   go_simp
   with_reducible rfl
  rotate_left
  ·simp only [Act.put, List.setIfInBounds_toArray, List.set_cons_zero, List.set_cons_succ, i64_w, i32_w]
   rfl
  refine take_ (i := 3) (N := some 19) (v := ?_) (a' := ?_) #[true, true, true, true, true, false] rfl rfl (by kernel_rfl) (fun _ _ _ h => h) (Or.inl ⟨by rfl, ?_⟩) hHeld ?_ ?_
  rotate_left
  ·rintro w' ⟨s0, s1⟩
   go_simp
   with_reducible rfl
  rotate_left
  ·simp only [Act.put, List.setIfInBounds_toArray, List.set_cons_zero, List.set_cons_succ, i64_w, i32_w]
   rfl
  refine pure_ (i := 5) (N := some 10) (v := ?_) (a' := ?_) #[true, true, true, true, true, true] rfl rfl (by kernel_rfl) (fun _ _ _ h => h) (Or.inl ⟨by rfl, ?_⟩) ?_ ?_
  rotate_left
  ·intro w'
   go_simp
   with_reducible rfl
  rotate_left
  ·simp only [Act.put, List.setIfInBounds_toArray, List.set_cons_zero, List.set_cons_succ, i64_w, i32_w]
   rfl
  refine done_ (by kernel_rfl) ?_
  have hnb24 := NB566_556.out
  have hnc24 := NB556_566.out
  have hnb25 := NB566_557.out
  have hnc25 := NB557_566.out
  have hcz26_0 : w23.cell? ⟨gb566, 0, none⟩ = some (.bool t561) := (blk_cell BK566.out 0).trans rfl
  have hcz26_1 : w23.cell? ⟨gb566, 1, none⟩ = some (.slice Ao19 t562.length co19) := (blk_cell BK566.out 1).trans rfl
  have hcz26_2 : w23.cell? ⟨gb566, 2, none⟩ = some (.string t565) := (blk_cell BK566.out 2).trans rfl
  have hfz26_0 := blk_frozen BK566.out 0
  have hfz26_1 := blk_frozen BK566.out 1
  have hfz26_2 := blk_frozen BK566.out 2
  obtain ⟨Ao27, co27, eo27⟩ := Kd.R_slice HO560.out
  subst eo27
  try go_wp2_with (first | ((with_reducible refine gate_callee (f := 35) rfl ?_); refine goesL_ (some 24) rfl rfl Try.func35 (by kernel_rfl) rfl #[.slice Ao27 t558.length co27, .int .i64 a1_0, .int .i64 a1_1, .agg #[.bool t561, .slice Ao19 t562.length co19, .string t565]] rfl (by (try simp only [List.map_toArray, List.map_cons, List.map_nil]); first | done | rfl | (simp only [List.length_drop, List.length_take]; rfl)) ?_; (with_reducible refine (loops_Check.calls k _ _ t558 a1_0 a1_1 t561 _ _ t562 t565 t567 _ ?side1 ?side2 ?side3 ?side4 A6.out).mono ?_); (case side1 => repeat (first | exact (Kd.R_reads' HO560.out).2.2 | (with_reducible refine Kd.C_alloc ?_ _) | (with_reducible refine Kd.C_drewN ?_ _) | (with_reducible refine Kd.C_drew ?_))); (case side2 => exact (Kd.R_reads' HO560.out).2.1); (case side3 => repeat (first | exact (Kd.R_reads' HO564.out).2.2 | (with_reducible refine Kd.C_alloc ?_ _) | (with_reducible refine Kd.C_drewN ?_ _) | (with_reducible refine Kd.C_drew ?_))); (case side4 => exact (Kd.R_reads' HO564.out).2.1); rintro e w28 ⟨rfl, hb⟩; refine ⟨_, rfl, ?_⟩; have n0_ := Aside0.mk (Kd.R_below (by (with_reducible repeat (first | apply Kd.R_alloc | apply Kd.R_drewN | apply Kd.R_drew)); exact HO560.out) hb); have n1_ := Aside0.mk (Kd.R_below (by (with_reducible repeat (first | apply Kd.R_alloc | apply Kd.R_drewN | apply Kd.R_drew)); exact HO564.out) hb); have n2_ := Aside0.mk (blk_below (g := gb556) (o := .cells #[.int .i64 a1_0, .int .i64 a1_1] 23 (0, 0)) (by (with_reducible repeat (first | refine blk_drewN ?_ _ | refine blk_drew ?_ | refine blk_alloc ?_ _)); exact BK556.out) hb); have n3_ := Aside0.mk (blk_below (g := gb557) (o := .cells #[.bool a2_0, .slice A2_1 l2_1.length c2_1, .string a2_2] 55 (0, 0)) (by (with_reducible repeat (first | refine blk_drewN ?_ _ | refine blk_drew ?_ | refine blk_alloc ?_ _)); exact BK557.out) hb); have n4_ := Aside0.mk (blk_below (g := gb566) (o := .cells #[.bool t561, .slice Ao19 t562.length co19, .string t565] 55 (0, 0)) (by (with_reducible repeat (first | refine blk_drewN ?_ _ | refine blk_drew ?_ | refine blk_alloc ?_ _)); exact BK566.out) hb); have n5_ := Aside0.mk (below_step (by repeat (first | (with_reducible first | exact HB.out | apply below_alloc | apply pw_below_drewN | apply below_drew1 | refine below_set ?_ GE556.out | refine below_set ?_ GE557.out | refine below_set ?_ GE566.out) | exact HB.out)) hb); clear HO560; clear HO564; clear BK556; clear BK557; clear BK566; clear HB; have HO560 := n0_; have HO564 := n1_; have BK556 := n2_; have BK557 := n3_; have BK566 := n4_; have HB := n5_; clear n0_ n1_ n2_ n3_ n4_ n5_; (try clear hb); (try clear hb2); (try clear hk); (try clear hi)) | ((with_reducible refine gate_callee (f := 18) rfl ?_); refine goesL_ (some 28) rfl rfl Try.func18 (by kernel_rfl) rfl #[.slice Ao27 t558.length co27, .int .i64 a1_0, .int .i64 a1_1] rfl (by (try simp only [List.map_toArray, List.map_cons, List.map_nil]); first | done | rfl | (simp only [List.length_drop, List.length_take]; rfl)) ?_; (with_reducible refine (tickinglaw06_bad.calls k _ _ t558 a1_0 a1_1 true _ ?side1 ?side2 A7.out).mono ?_); (case side1 => repeat (first | exact (Kd.R_reads' HO560.out).2.2 | (with_reducible refine Kd.C_alloc ?_ _) | (with_reducible refine Kd.C_drewN ?_ _) | (with_reducible refine Kd.C_drew ?_))); (case side2 => exact (Kd.R_reads' HO560.out).2.1); rintro e w29 ⟨rfl, hb⟩; refine ⟨_, rfl, ?_⟩; have n0_ := Aside0.mk (Kd.R_below (by (with_reducible repeat (first | apply Kd.R_alloc | apply Kd.R_drewN | apply Kd.R_drew)); exact HO560.out) hb); have n1_ := Aside0.mk (Kd.R_below (by (with_reducible repeat (first | apply Kd.R_alloc | apply Kd.R_drewN | apply Kd.R_drew)); exact HO564.out) hb); have n2_ := Aside0.mk (blk_below (g := gb556) (o := .cells #[.int .i64 a1_0, .int .i64 a1_1] 23 (0, 0)) (by (with_reducible repeat (first | refine blk_drewN ?_ _ | refine blk_drew ?_ | refine blk_alloc ?_ _)); exact BK556.out) hb); have n3_ := Aside0.mk (blk_below (g := gb557) (o := .cells #[.bool a2_0, .slice A2_1 l2_1.length c2_1, .string a2_2] 55 (0, 0)) (by (with_reducible repeat (first | refine blk_drewN ?_ _ | refine blk_drew ?_ | refine blk_alloc ?_ _)); exact BK557.out) hb); have n4_ := Aside0.mk (blk_below (g := gb566) (o := .cells #[.bool t561, .slice Ao19 t562.length co19, .string t565] 55 (0, 0)) (by (with_reducible repeat (first | refine blk_drewN ?_ _ | refine blk_drew ?_ | refine blk_alloc ?_ _)); exact BK566.out) hb); have n5_ := Aside0.mk (below_step (by repeat (first | (with_reducible first | exact HB.out | apply below_alloc | apply pw_below_drewN | apply below_drew1 | refine below_set ?_ GE556.out | refine below_set ?_ GE557.out | refine below_set ?_ GE566.out) | exact HB.out)) hb); clear HO560; clear HO564; clear BK556; clear BK557; clear BK566; clear HB; have HO560 := n0_; have HO564 := n1_; have BK556 := n2_; have BK557 := n3_; have BK566 := n4_; have HB := n5_; clear n0_ n1_ n2_ n3_ n4_ n5_; (try clear hb); (try clear hb2); (try clear hk); (try clear hi)) | (go_at_call 19; (with_reducible refine (tickinglaw06_awake.calls k  t569 _ A10.out).mono ?_); rintro e w30 ⟨rfl, hb⟩; have n0_ := Aside0.mk (Kd.R_below (by (with_reducible repeat (first | apply Kd.R_alloc | apply Kd.R_drewN | apply Kd.R_drew)); exact HO560.out) hb); have n1_ := Aside0.mk (Kd.R_below (by (with_reducible repeat (first | apply Kd.R_alloc | apply Kd.R_drewN | apply Kd.R_drew)); exact HO564.out) hb); have n2_ := Aside0.mk (blk_below (g := gb556) (o := .cells #[.int .i64 a1_0, .int .i64 a1_1] 23 (0, 0)) (by (with_reducible repeat (first | refine blk_drewN ?_ _ | refine blk_drew ?_ | refine blk_alloc ?_ _)); exact BK556.out) hb); have n3_ := Aside0.mk (blk_below (g := gb557) (o := .cells #[.bool a2_0, .slice A2_1 l2_1.length c2_1, .string a2_2] 55 (0, 0)) (by (with_reducible repeat (first | refine blk_drewN ?_ _ | refine blk_drew ?_ | refine blk_alloc ?_ _)); exact BK557.out) hb); have n4_ := Aside0.mk (blk_below (g := gb566) (o := .cells #[.bool t561, .slice Ao19 t562.length co19, .string t565] 55 (0, 0)) (by (with_reducible repeat (first | refine blk_drewN ?_ _ | refine blk_drew ?_ | refine blk_alloc ?_ _)); exact BK566.out) hb); have n5_ := Aside0.mk (below_step (by repeat (first | (with_reducible first | exact HB.out | apply below_alloc | apply pw_below_drewN | apply below_drew1 | refine below_set ?_ GE556.out | refine below_set ?_ GE557.out | refine below_set ?_ GE566.out) | exact HB.out)) hb); clear HO560; clear HO564; clear BK556; clear BK557; clear BK566; clear HB; have HO560 := n0_; have HO564 := n1_; have BK556 := n2_; have BK557 := n3_; have BK566 := n4_; have HB := n5_; clear n0_ n1_ n2_ n3_ n4_ n5_; (try clear hb); (try clear hb2); (try clear hk); (try clear hi)))
  go_ret
  exact ⟨by first | rfl | (simp [errW_none, errW_some] <;> rfl) | (simp [*, errW_none, errW_some] <;> rfl), by repeat (first | (with_reducible first | exact HB.out | apply below_alloc | apply pw_below_drewN | apply below_drew1 | refine below_set ?_ GE556.out | refine below_set ?_ GE557.out | refine below_set ?_ GE566.out) | exact HB.out)⟩
 replace c8 := Bool.eq_false_iff.mpr c8
 subst c8
 have H1 : ((tickingref06_Right.f k t558 a1_0 a1_1 t561 t562 t565).bind fun t570 => (if t570 = true then (if t567 = 0 then ((tickinglaw06_awake.f k).bind fun t571 => (some t571)) else (some false)) else (if t567 = 10 then ((tickinglaw06_awake.f k).bind fun t572 => (some t572)) else (some false)))) = some r := by rw [if_neg (show ¬ (false = true) by decide)] at H; exact H
 clear H
 have H := H1
 clear H1
 replace H := Option.bind_eq_some_iff.mp H
 obtain ⟨t570, A500, H⟩ := H
 replace H : (if t570 = true then (if t567 = 0 then ((tickinglaw06_awake.f k).bind fun t571 => (some t571)) else (some false)) else (if t567 = 10 then ((tickinglaw06_awake.f k).bind fun t572 => (some t572)) else (some false))) = some r := H
 have A50 := Aside0.mk A500
 clear A500
 by_cases c51 : t570 = true
 ·subst c51
  have H1 : (if t567 = 0 then ((tickinglaw06_awake.f k).bind fun t571 => (some t571)) else (some false)) = some r := by rw [if_pos rfl] at H; exact H
  clear H
  have H := H1
  clear H1
  by_cases c52 : t567 = 0
  rotate_left
  ·rw [if_neg c52] at H
   have c52b0 : (t567 == 0) = false := beq_eq_false_iff_ne.mpr c52
   have c52b1 : (t567 != 0) = true := bne_iff_ne.mpr c52
   exact absurd ((Option.some.inj H).trans HTR.out) (by decide)
  rw [if_pos c52] at H
  have c52b0 : (t567 == 0) = true := beq_iff_eq.mpr c52
  have c52b1 : (t567 != 0) = false := bne_eq_false_iff_eq.mpr c52
  clear c52
  replace H := Option.bind_eq_some_iff.mp H
  obtain ⟨t571, A530, H⟩ := H
  replace H : (some t571) = some r := H
  have A53 := Aside0.mk A530
  clear A530
  obtain rfl := Option.some.inj H
  go_enter Try.func10, Try.ntmps10
  try go_wp2_with (first | ((with_reducible refine gate_dst (N := 4) rfl ?_); refine box_event ?hg (N := 4) ?hd (cs := #[.int .i64 a1_0, .int .i64 a1_1]) (t := 23) ?hr ?_; (case hd => rfl); (case hg => rfl); (case hr => first | (go_simp; done) | (go_simp; rfl)); intro gb556 hg w54 hbox hb; have n0_ := Aside0.mk (below_step (by repeat (first | (with_reducible first | exact HB.out | apply below_alloc | apply pw_below_drewN | apply below_drew1) | exact HB.out)) hb); have n1_ := Aside0.mk (hbox); have n2_ := Aside0.mk ((by rw [hg]; exact (below_size (by repeat (first | (with_reducible first | exact HB.out | apply below_alloc | apply pw_below_drewN | apply below_drew1) | exact HB.out))) : w.heap.size ≤ gb556)); have n3_ := Aside0.mk ((by rw [hg]; exact (below_size (by repeat (first | (with_reducible first | exact HB.out | apply below_alloc | apply pw_below_drewN | apply below_drew1) | exact HB.out))) : w.heap.size ≤ gb556)); clear HB; have HB := n0_; have BK556 := n1_; have GW556 := n2_; have GE556 := n3_; clear n0_ n1_ n2_ n3_; clear hb hbox hg) | ((with_reducible refine gate_dst (N := 5) rfl ?_); refine box_event ?hg (N := 5) ?hd (cs := #[.bool a2_0, .slice A2_1 l2_1.length c2_1, .string a2_2]) (t := 55) ?hr ?_; (case hd => rfl); (case hg => rfl); (case hr => first | (go_simp; done) | (go_simp; rfl)); intro gb557 hg w55 hbox hb; have n0_ := Aside0.mk (blk_below (g := gb556) (o := .cells #[.int .i64 a1_0, .int .i64 a1_1] 23 (0, 0)) (by (with_reducible repeat (first | refine blk_drewN ?_ _ | refine blk_drew ?_ | refine blk_alloc ?_ _)); exact BK556.out) hb); have n1_ := Aside0.mk (below_step (by repeat (first | (with_reducible first | exact HB.out | apply below_alloc | apply pw_below_drewN | apply below_drew1 | refine below_set ?_ GE556.out) | exact HB.out)) hb); have n2_ := Aside0.mk (hbox); have n3_ := Aside0.mk ((by rw [hg]; exact (below_size (by repeat (first | (with_reducible first | exact HB.out | apply below_alloc | apply pw_below_drewN | apply below_drew1 | refine below_set ?_ GE556.out) | exact HB.out))) : w.heap.size ≤ gb557)); have n4_ := Aside0.mk ((by rw [hg]; exact (below_size (by repeat (first | (with_reducible first | exact HB.out | apply below_alloc | apply pw_below_drewN | apply below_drew1 | refine below_set ?_ GE556.out) | exact HB.out))) : w.heap.size ≤ gb557)); have n5_ := Aside0.mk ((by rw [hg]; exact Nat.ne_of_lt (blk_lt (g := gb556) (o := .cells #[.int .i64 a1_0, .int .i64 a1_1] 23 (0, 0)) (by (with_reducible repeat (first | refine blk_drewN ?_ _ | refine blk_drew ?_ | refine blk_alloc ?_ _)); exact BK556.out)) : gb556 ≠ gb557)); have n6_ := Aside0.mk ((by rw [hg]; exact Nat.ne_of_gt (blk_lt (g := gb556) (o := .cells #[.int .i64 a1_0, .int .i64 a1_1] 23 (0, 0)) (by (with_reducible repeat (first | refine blk_drewN ?_ _ | refine blk_drew ?_ | refine blk_alloc ?_ _)); exact BK556.out)) : gb557 ≠ gb556)); clear BK556; clear HB; have BK556 := n0_; have HB := n1_; have BK557 := n2_; have GW557 := n3_; have GE557 := n4_; have NB556_557 := n5_; have NB557_556 := n6_; clear n0_ n1_ n2_ n3_ n4_ n5_ n6_; clear hb hbox hg))
  have n0_ := Aside0.mk (blk_drew BK556.out)
  have n1_ := Aside0.mk (blk_drew BK557.out)
  have n2_ := Aside0.mk (below_drew1 HB.out)
  clear BK556
  clear BK557
  clear HB
  have BK556 := n0_
  have BK557 := n1_
  have HB := n2_
  clear n0_ n1_ n2_
  refine start_ (n := 7) (S := fun w' => w'.cell? ⟨gb557, 0, none⟩ = some (.bool a2_0) ∧ w'.cell? ⟨gb557, 1, none⟩ = some (.slice A2_1 l2_1.length c2_1) ∧ w'.cell? ⟨gb557, 2, none⟩ = some (.string a2_2)) (ds := []) #[false, false, false, false, false, false, false] (by kernel_rfl) rfl rfl ⟨(blk_cell BK557.out 0).trans rfl, (blk_cell BK557.out 1).trans rfl, (blk_cell BK557.out 2).trans rfl⟩ (fun hHeld => ?_)
  generalize w55.drew = w56 at BK556 BK557 HB hHeld ⊢
  refine pure_ (i := 0) (N := some 12) (v := ?_) (a' := ?_) #[true, false, false, false, false, false, false] rfl rfl (by kernel_rfl) (fun _ _ _ h => h) (Or.inl ⟨by rfl, ?_⟩) ?_ ?_
  rotate_left
  ·intro w'
   go_simp
   with_reducible rfl
  rotate_left
  ·simp only [Act.put, List.setIfInBounds_toArray, List.set_cons_zero, List.set_cons_succ, i64_w, i32_w]
   rfl
  refine take_ (i := 2) (N := some 14) (v := ?_) (a' := ?_) #[true, false, true, false, false, false, false] rfl rfl (by kernel_rfl) (fun _ _ _ h => h) (Or.inl ⟨by rfl, ?_⟩) hHeld ?_ ?_
  rotate_left
  ·rintro w' ⟨s0, s1, s2⟩
   go_simp
   with_reducible rfl
  rotate_left
  ·simp only [Act.put, List.setIfInBounds_toArray, List.set_cons_zero, List.set_cons_succ, i64_w, i32_w]
   rfl
  refine join_ (σ := Value × Value × Nat) 2 #[true, true, true, true, true, false, false] (fun s_ => [(13, s_.1), (15, .agg #[.bool t561, s_.2.1, .string t565]), (8, .pointer (some ⟨s_.2.2, 0, none⟩))]) (fun s_ w' => (w'.cell? ⟨gb557, 0, none⟩ = some (.bool a2_0) ∧ w'.cell? ⟨gb557, 1, none⟩ = some (.slice A2_1 l2_1.length c2_1) ∧ w'.cell? ⟨gb557, 2, none⟩ = some (.string a2_2)) ∧ (Kd.R k39 39 w' w.heap.size (fun _ => True) s_.1 t558) ∧ (Kd.R k23 23 w' w.heap.size (fun k_ => k_ ≠ gb556) s_.2.1 t562) ∧ (w'.heap[gb556]? = some (.cells #[.int .i64 a1_0, .int .i64 a1_1] 23 (0, 0))) ∧ (w'.heap[gb557]? = some (.cells #[.bool a2_0, .slice A2_1 l2_1.length c2_1, .string a2_2] 55 (0, 0))) ∧ (w'.heap[s_.2.2]? = some (.cells #[.bool false, .slice none 0 0, .string (⟨#[]⟩ : ByteArray)] 55 (0, 0))) ∧ (w.heap.size ≤ s_.2.2) ∧ (w.heap.size ≤ s_.2.2) ∧ (gb556 ≠ s_.2.2) ∧ (s_.2.2 ≠ gb556) ∧ (gb557 ≠ s_.2.2) ∧ (s_.2.2 ≠ gb557) ∧ (Below w.heap.size w w')) ?_ ?_
  rotate_left
  ·intro hCont
   refine two_ (i := 1) (j := 4) (Ni := some 13) (Nj := some 8) #[true, true, true, false, false, false, false] #[true, false, true, false, true, false, false] rfl rfl rfl rfl (by kernel_rfl) (by decide) (by decide) (fun K hK => ?_) (fun K hK => ?_)
   ·skip
    refine goes_ Try.func15 (by kernel_rfl) rfl #[.slice A0 l0.length c0] (by rfl) rfl rfl (by (try simp only [List.map_toArray, List.map_cons, List.map_nil]); first | done | rfl | (simp only [List.length_drop, List.length_take]; rfl)) ?_
    with_reducible refine (tickinglaw06_own.calls _ _ l0 t558 _ ?side1 ?side2 A4.out).mono ?_
    (case side1 => repeat (first | exact (Kd.C_below HR0.out HB.out) | (with_reducible refine Kd.C_alloc ?_ _) | (with_reducible refine Kd.C_drewN ?_ _) | (with_reducible refine Kd.C_drew ?_)))
    (case side2 => exact HC0.out)
    rintro e w57 ⟨v559, rfl, ho0, hb⟩
    refine ⟨_, rfl, ?_⟩
    have n0_ := Aside0.mk (Kd.R_lower ho0 (below_size (by repeat (first | (with_reducible first | exact HB.out | apply below_alloc | apply pw_below_drewN | apply below_drew1 | refine below_set ?_ GE556.out | refine below_set ?_ GE557.out) | exact HB.out))))
    have n1_ := Aside0.mk (blk_below (g := gb556) (o := .cells #[.int .i64 a1_0, .int .i64 a1_1] 23 (0, 0)) (by (with_reducible repeat (first | refine blk_drewN ?_ _ | refine blk_drew ?_ | refine blk_alloc ?_ _)); exact BK556.out) hb)
    have n2_ := Aside0.mk (blk_below (g := gb557) (o := .cells #[.bool a2_0, .slice A2_1 l2_1.length c2_1, .string a2_2] 55 (0, 0)) (by (with_reducible repeat (first | refine blk_drewN ?_ _ | refine blk_drew ?_ | refine blk_alloc ?_ _)); exact BK557.out) hb)
    have n3_ := Aside0.mk (below_step (by repeat (first | (with_reducible first | exact HB.out | apply below_alloc | apply pw_below_drewN | apply below_drew1 | refine below_set ?_ GE556.out | refine below_set ?_ GE557.out) | exact HB.out)) hb)
    clear BK556
    clear BK557
    clear HB
    have HO560 := n0_
    have BK556 := n1_
    have BK557 := n2_
    have HB := n3_
    clear n0_ n1_ n2_ n3_
    (try clear hb)
    (try clear hb2)
    (try clear hk)
    (try clear hi)
    (try clear ho0)
    refine hK.out _ _ ⟨(blk_cell BK557.out 0).trans rfl, (blk_cell BK557.out 1).trans rfl, (blk_cell BK557.out 2).trans rfl⟩ (fun hHeld => ?_)
    clear hK K
    refine norm_ (a' := ?_) ?_ ?_
    rotate_left
    ·show Act.put _ (some 13) _ = _
     simp only [Act.put, List.setIfInBounds_toArray, List.set_cons_zero, List.set_cons_succ, i64_w, i32_w]
     rfl
    refine two_ (i := 3) (j := 4) (Ni := some 15) (Nj := some 8) #[true, true, true, true, false, false, false] #[true, true, true, false, true, false, false] rfl rfl rfl rfl (by kernel_rfl) (by decide) (by decide) (fun K hK => ?_) (fun K hK => ?_)
    ·skip
     refine goes_ Try.func36 (by kernel_rfl) rfl #[.agg #[.bool a2_0, .slice A2_1 l2_1.length c2_1, .string a2_2]] (by rfl) rfl rfl (by (try simp only [List.map_toArray, List.map_cons, List.map_nil]); first | done | rfl | (simp only [List.length_drop, List.length_take]; rfl)) ?_
     with_reducible refine (tickinglaw06_finding.calls a2_0 _ _ l2_1 a2_2 t561 t562 t565 _ ?side1 ?side2 A5.out).mono ?_
     (case side1 => repeat (first | exact (Kd.C_below HR2_1.out HB.out) | (with_reducible refine Kd.C_alloc ?_ _) | (with_reducible refine Kd.C_drewN ?_ _) | (with_reducible refine Kd.C_drew ?_)))
     (case side2 => exact HC2_1.out)
     rintro e w58 ⟨v563, rfl, ho0, hb⟩
     refine ⟨_, rfl, ?_⟩
     have n0_ := Aside0.mk (Kd.R_below (by (with_reducible repeat (first | apply Kd.R_alloc | apply Kd.R_drewN | apply Kd.R_drew)); exact HO560.out) hb)
     have n1_ := Aside0.mk (Kd.R_lower (Kd.R_newB ho0 (g := gb556) (o := .cells #[.int .i64 a1_0, .int .i64 a1_1] 23 (0, 0)) (by (with_reducible repeat (first | refine blk_drewN ?_ _ | refine blk_drew ?_ | refine blk_alloc ?_ _)); exact BK556.out)) (below_size (by repeat (first | (with_reducible first | exact HB.out | apply below_alloc | apply pw_below_drewN | apply below_drew1 | refine below_set ?_ GE556.out | refine below_set ?_ GE557.out) | exact HB.out))))
     have n2_ := Aside0.mk (blk_below (g := gb556) (o := .cells #[.int .i64 a1_0, .int .i64 a1_1] 23 (0, 0)) (by (with_reducible repeat (first | refine blk_drewN ?_ _ | refine blk_drew ?_ | refine blk_alloc ?_ _)); exact BK556.out) hb)
     have n3_ := Aside0.mk (blk_below (g := gb557) (o := .cells #[.bool a2_0, .slice A2_1 l2_1.length c2_1, .string a2_2] 55 (0, 0)) (by (with_reducible repeat (first | refine blk_drewN ?_ _ | refine blk_drew ?_ | refine blk_alloc ?_ _)); exact BK557.out) hb)
     have n4_ := Aside0.mk (below_step (by repeat (first | (with_reducible first | exact HB.out | apply below_alloc | apply pw_below_drewN | apply below_drew1 | refine below_set ?_ GE556.out | refine below_set ?_ GE557.out) | exact HB.out)) hb)
     clear HO560
     clear BK556
     clear BK557
     clear HB
     have HO560 := n0_
     have HO564 := n1_
     have BK556 := n2_
     have BK557 := n3_
     have HB := n4_
     clear n0_ n1_ n2_ n3_ n4_
     (try clear hb)
     (try clear hb2)
     (try clear hk)
     (try clear hi)
     (try clear ho0)
     refine hK.out _ _ ⟨(blk_cell BK557.out 0).trans rfl, (blk_cell BK557.out 1).trans rfl, (blk_cell BK557.out 2).trans rfl⟩ (fun hHeld => ?_)
     clear hK K
     refine norm_ (a' := ?_) ?_ ?_
     rotate_left
     ·show Act.put _ (some 15) _ = _
      simp only [Act.put, List.setIfInBounds_toArray, List.set_cons_zero, List.set_cons_succ, i64_w, i32_w]
      rfl
     refine one_ (i := 4) (N := some 8) #[true, true, true, true, true, false, false] rfl rfl (by kernel_rfl) (by decide) (fun K hK => ?_)
     refine box_step ?hg (N := 8) ?hd (cs := #[.bool false, .slice none 0 0, .string (⟨#[]⟩ : ByteArray)]) (t := 55) ?hr ?_; (case hd => rfl); (case hg => rfl); (case hr => first | (go_simp; done) | (go_simp; rfl))
     intro gb566 hg w59 hbox hb
     have n0_ := Aside0.mk (Kd.R_below (by (with_reducible repeat (first | apply Kd.R_alloc | apply Kd.R_drewN | apply Kd.R_drew)); exact HO560.out) hb)
     have n1_ := Aside0.mk (Kd.R_below (by (with_reducible repeat (first | apply Kd.R_alloc | apply Kd.R_drewN | apply Kd.R_drew)); exact HO564.out) hb)
     have n2_ := Aside0.mk (blk_below (g := gb556) (o := .cells #[.int .i64 a1_0, .int .i64 a1_1] 23 (0, 0)) (by (with_reducible repeat (first | refine blk_drewN ?_ _ | refine blk_drew ?_ | refine blk_alloc ?_ _)); exact BK556.out) hb)
     have n3_ := Aside0.mk (blk_below (g := gb557) (o := .cells #[.bool a2_0, .slice A2_1 l2_1.length c2_1, .string a2_2] 55 (0, 0)) (by (with_reducible repeat (first | refine blk_drewN ?_ _ | refine blk_drew ?_ | refine blk_alloc ?_ _)); exact BK557.out) hb)
     have n4_ := Aside0.mk (below_step (by repeat (first | (with_reducible first | exact HB.out | apply below_alloc | apply pw_below_drewN | apply below_drew1 | refine below_set ?_ GE556.out | refine below_set ?_ GE557.out) | exact HB.out)) hb)
     have n5_ := Aside0.mk (hbox)
     have n6_ := Aside0.mk ((by rw [hg]; exact (below_size (by repeat (first | (with_reducible first | exact HB.out | apply below_alloc | apply pw_below_drewN | apply below_drew1 | refine below_set ?_ GE556.out | refine below_set ?_ GE557.out) | exact HB.out))) : w.heap.size ≤ gb566))
     have n7_ := Aside0.mk ((by rw [hg]; exact (below_size (by repeat (first | (with_reducible first | exact HB.out | apply below_alloc | apply pw_below_drewN | apply below_drew1 | refine below_set ?_ GE556.out | refine below_set ?_ GE557.out) | exact HB.out))) : w.heap.size ≤ gb566))
     have n8_ := Aside0.mk ((by rw [hg]; exact Nat.ne_of_lt (blk_lt (g := gb556) (o := .cells #[.int .i64 a1_0, .int .i64 a1_1] 23 (0, 0)) (by (with_reducible repeat (first | refine blk_drewN ?_ _ | refine blk_drew ?_ | refine blk_alloc ?_ _)); exact BK556.out)) : gb556 ≠ gb566))
     have n9_ := Aside0.mk ((by rw [hg]; exact Nat.ne_of_gt (blk_lt (g := gb556) (o := .cells #[.int .i64 a1_0, .int .i64 a1_1] 23 (0, 0)) (by (with_reducible repeat (first | refine blk_drewN ?_ _ | refine blk_drew ?_ | refine blk_alloc ?_ _)); exact BK556.out)) : gb566 ≠ gb556))
     have n10_ := Aside0.mk ((by rw [hg]; exact Nat.ne_of_lt (blk_lt (g := gb557) (o := .cells #[.bool a2_0, .slice A2_1 l2_1.length c2_1, .string a2_2] 55 (0, 0)) (by (with_reducible repeat (first | refine blk_drewN ?_ _ | refine blk_drew ?_ | refine blk_alloc ?_ _)); exact BK557.out)) : gb557 ≠ gb566))
     have n11_ := Aside0.mk ((by rw [hg]; exact Nat.ne_of_gt (blk_lt (g := gb557) (o := .cells #[.bool a2_0, .slice A2_1 l2_1.length c2_1, .string a2_2] 55 (0, 0)) (by (with_reducible repeat (first | refine blk_drewN ?_ _ | refine blk_drew ?_ | refine blk_alloc ?_ _)); exact BK557.out)) : gb566 ≠ gb557))
     clear HO560
     clear HO564
     clear BK556
     clear BK557
     clear HB
     have HO560 := n0_
     have HO564 := n1_
     have BK556 := n2_
     have BK557 := n3_
     have HB := n4_
     have BK566 := n5_
     have GW566 := n6_
     have GE566 := n7_
     have NB556_566 := n8_
     have NB566_556 := n9_
     have NB557_566 := n10_
     have NB566_557 := n11_
     clear n0_ n1_ n2_ n3_ n4_ n5_ n6_ n7_ n8_ n9_ n10_ n11_
     clear hb hbox hg
     refine hK.out _ _ ⟨(blk_cell BK557.out 0).trans rfl, (blk_cell BK557.out 1).trans rfl, (blk_cell BK557.out 2).trans rfl⟩ (fun hHeld => ?_)
     clear hK K
     refine norm_ (a' := ?_) ?_ ?_
     rotate_left
     ·show Act.put _ (some 8) _ = _
      simp only [Act.put, List.setIfInBounds_toArray, List.set_cons_zero, List.set_cons_succ, i64_w, i32_w]
      rfl
     exact norm_ (by simp only [putAll, Act.put, List.setIfInBounds_toArray, List.set_cons_zero, List.set_cons_succ]) (hCont (v559, v563, gb566) _ ⟨hHeld, (by (with_reducible repeat (first | apply Kd.R_alloc | apply Kd.R_drewN | apply Kd.R_drew)); exact HO560.out), (by (with_reducible repeat (first | apply Kd.R_alloc | apply Kd.R_drewN | apply Kd.R_drew)); exact Kd.R_mono HO564.out (fun _ hk => hk.2)), (by (with_reducible repeat (first | refine blk_drewN ?_ _ | refine blk_drew ?_ | refine blk_alloc ?_ _)); exact BK556.out), (by (with_reducible repeat (first | refine blk_drewN ?_ _ | refine blk_drew ?_ | refine blk_alloc ?_ _)); exact BK557.out), (by (with_reducible repeat (first | refine blk_drewN ?_ _ | refine blk_drew ?_ | refine blk_alloc ?_ _)); exact BK566.out), GW566.out, GE566.out, NB556_566.out, NB566_556.out, NB557_566.out, NB566_557.out, (by repeat (first | (with_reducible first | exact HB.out | apply below_alloc | apply pw_below_drewN | apply below_drew1 | refine below_set ?_ GE556.out | refine below_set ?_ GE557.out | refine below_set ?_ GE566.out) | exact HB.out))⟩)
    skip
    refine box_step ?hg (N := 8) ?hd (cs := #[.bool false, .slice none 0 0, .string (⟨#[]⟩ : ByteArray)]) (t := 55) ?hr ?_; (case hd => rfl); (case hg => rfl); (case hr => first | (go_simp; done) | (go_simp; rfl))
    intro gb566 hg w58 hbox hb
    have n0_ := Aside0.mk (Kd.R_below (by (with_reducible repeat (first | apply Kd.R_alloc | apply Kd.R_drewN | apply Kd.R_drew)); exact HO560.out) hb)
    have n1_ := Aside0.mk (blk_below (g := gb556) (o := .cells #[.int .i64 a1_0, .int .i64 a1_1] 23 (0, 0)) (by (with_reducible repeat (first | refine blk_drewN ?_ _ | refine blk_drew ?_ | refine blk_alloc ?_ _)); exact BK556.out) hb)
    have n2_ := Aside0.mk (blk_below (g := gb557) (o := .cells #[.bool a2_0, .slice A2_1 l2_1.length c2_1, .string a2_2] 55 (0, 0)) (by (with_reducible repeat (first | refine blk_drewN ?_ _ | refine blk_drew ?_ | refine blk_alloc ?_ _)); exact BK557.out) hb)
    have n3_ := Aside0.mk (below_step (by repeat (first | (with_reducible first | exact HB.out | apply below_alloc | apply pw_below_drewN | apply below_drew1 | refine below_set ?_ GE556.out | refine below_set ?_ GE557.out) | exact HB.out)) hb)
    have n4_ := Aside0.mk (hbox)
    have n5_ := Aside0.mk ((by rw [hg]; exact (below_size (by repeat (first | (with_reducible first | exact HB.out | apply below_alloc | apply pw_below_drewN | apply below_drew1 | refine below_set ?_ GE556.out | refine below_set ?_ GE557.out) | exact HB.out))) : w.heap.size ≤ gb566))
    have n6_ := Aside0.mk ((by rw [hg]; exact (below_size (by repeat (first | (with_reducible first | exact HB.out | apply below_alloc | apply pw_below_drewN | apply below_drew1 | refine below_set ?_ GE556.out | refine below_set ?_ GE557.out) | exact HB.out))) : w.heap.size ≤ gb566))
    have n7_ := Aside0.mk ((by rw [hg]; exact Nat.ne_of_lt (blk_lt (g := gb556) (o := .cells #[.int .i64 a1_0, .int .i64 a1_1] 23 (0, 0)) (by (with_reducible repeat (first | refine blk_drewN ?_ _ | refine blk_drew ?_ | refine blk_alloc ?_ _)); exact BK556.out)) : gb556 ≠ gb566))
    have n8_ := Aside0.mk ((by rw [hg]; exact Nat.ne_of_gt (blk_lt (g := gb556) (o := .cells #[.int .i64 a1_0, .int .i64 a1_1] 23 (0, 0)) (by (with_reducible repeat (first | refine blk_drewN ?_ _ | refine blk_drew ?_ | refine blk_alloc ?_ _)); exact BK556.out)) : gb566 ≠ gb556))
    have n9_ := Aside0.mk ((by rw [hg]; exact Nat.ne_of_lt (blk_lt (g := gb557) (o := .cells #[.bool a2_0, .slice A2_1 l2_1.length c2_1, .string a2_2] 55 (0, 0)) (by (with_reducible repeat (first | refine blk_drewN ?_ _ | refine blk_drew ?_ | refine blk_alloc ?_ _)); exact BK557.out)) : gb557 ≠ gb566))
    have n10_ := Aside0.mk ((by rw [hg]; exact Nat.ne_of_gt (blk_lt (g := gb557) (o := .cells #[.bool a2_0, .slice A2_1 l2_1.length c2_1, .string a2_2] 55 (0, 0)) (by (with_reducible repeat (first | refine blk_drewN ?_ _ | refine blk_drew ?_ | refine blk_alloc ?_ _)); exact BK557.out)) : gb566 ≠ gb557))
    clear HO560
    clear BK556
    clear BK557
    clear HB
    have HO560 := n0_
    have BK556 := n1_
    have BK557 := n2_
    have HB := n3_
    have BK566 := n4_
    have GW566 := n5_
    have GE566 := n6_
    have NB556_566 := n7_
    have NB566_556 := n8_
    have NB557_566 := n9_
    have NB566_557 := n10_
    clear n0_ n1_ n2_ n3_ n4_ n5_ n6_ n7_ n8_ n9_ n10_
    clear hb hbox hg
    refine hK.out _ _ ⟨(blk_cell BK557.out 0).trans rfl, (blk_cell BK557.out 1).trans rfl, (blk_cell BK557.out 2).trans rfl⟩ (fun hHeld => ?_)
    clear hK K
    refine norm_ (a' := ?_) ?_ ?_
    rotate_left
    ·show Act.put _ (some 8) _ = _
     simp only [Act.put, List.setIfInBounds_toArray, List.set_cons_zero, List.set_cons_succ, i64_w, i32_w]
     rfl
    refine one_ (i := 3) (N := some 15) #[true, true, true, true, true, false, false] rfl rfl (by kernel_rfl) (by decide) (fun K hK => ?_)
    refine goes_ Try.func36 (by kernel_rfl) rfl #[.agg #[.bool a2_0, .slice A2_1 l2_1.length c2_1, .string a2_2]] (by rfl) rfl rfl (by (try simp only [List.map_toArray, List.map_cons, List.map_nil]); first | done | rfl | (simp only [List.length_drop, List.length_take]; rfl)) ?_
    with_reducible refine (tickinglaw06_finding.calls a2_0 _ _ l2_1 a2_2 t561 t562 t565 _ ?side1 ?side2 A5.out).mono ?_
    (case side1 => repeat (first | exact (Kd.C_below HR2_1.out HB.out) | (with_reducible refine Kd.C_alloc ?_ _) | (with_reducible refine Kd.C_drewN ?_ _) | (with_reducible refine Kd.C_drew ?_)))
    (case side2 => exact HC2_1.out)
    rintro e w59 ⟨v563, rfl, ho0, hb⟩
    refine ⟨_, rfl, ?_⟩
    have n0_ := Aside0.mk (Kd.R_below (by (with_reducible repeat (first | apply Kd.R_alloc | apply Kd.R_drewN | apply Kd.R_drew)); exact HO560.out) hb)
    have n1_ := Aside0.mk (Kd.R_lower (Kd.R_newB ho0 (g := gb556) (o := .cells #[.int .i64 a1_0, .int .i64 a1_1] 23 (0, 0)) (by (with_reducible repeat (first | refine blk_drewN ?_ _ | refine blk_drew ?_ | refine blk_alloc ?_ _)); exact BK556.out)) (below_size (by repeat (first | (with_reducible first | exact HB.out | apply below_alloc | apply pw_below_drewN | apply below_drew1 | refine below_set ?_ GE556.out | refine below_set ?_ GE557.out | refine below_set ?_ GE566.out) | exact HB.out))))
    have n2_ := Aside0.mk (blk_below (g := gb556) (o := .cells #[.int .i64 a1_0, .int .i64 a1_1] 23 (0, 0)) (by (with_reducible repeat (first | refine blk_drewN ?_ _ | refine blk_drew ?_ | refine blk_alloc ?_ _)); exact BK556.out) hb)
    have n3_ := Aside0.mk (blk_below (g := gb557) (o := .cells #[.bool a2_0, .slice A2_1 l2_1.length c2_1, .string a2_2] 55 (0, 0)) (by (with_reducible repeat (first | refine blk_drewN ?_ _ | refine blk_drew ?_ | refine blk_alloc ?_ _)); exact BK557.out) hb)
    have n4_ := Aside0.mk (blk_below (g := gb566) (o := .cells #[.bool false, .slice none 0 0, .string (⟨#[]⟩ : ByteArray)] 55 (0, 0)) (by (with_reducible repeat (first | refine blk_drewN ?_ _ | refine blk_drew ?_ | refine blk_alloc ?_ _)); exact BK566.out) hb)
    have n5_ := Aside0.mk (below_step (by repeat (first | (with_reducible first | exact HB.out | apply below_alloc | apply pw_below_drewN | apply below_drew1 | refine below_set ?_ GE556.out | refine below_set ?_ GE557.out | refine below_set ?_ GE566.out) | exact HB.out)) hb)
    clear HO560
    clear BK556
    clear BK557
    clear BK566
    clear HB
    have HO560 := n0_
    have HO564 := n1_
    have BK556 := n2_
    have BK557 := n3_
    have BK566 := n4_
    have HB := n5_
    clear n0_ n1_ n2_ n3_ n4_ n5_
    (try clear hb)
    (try clear hb2)
    (try clear hk)
    (try clear hi)
    (try clear ho0)
    refine hK.out _ _ ⟨(blk_cell BK557.out 0).trans rfl, (blk_cell BK557.out 1).trans rfl, (blk_cell BK557.out 2).trans rfl⟩ (fun hHeld => ?_)
    clear hK K
    refine norm_ (a' := ?_) ?_ ?_
    rotate_left
    ·show Act.put _ (some 15) _ = _
     simp only [Act.put, List.setIfInBounds_toArray, List.set_cons_zero, List.set_cons_succ, i64_w, i32_w]
     rfl
    exact norm_ (by simp only [putAll, Act.put, List.setIfInBounds_toArray, List.set_cons_zero, List.set_cons_succ]) (hCont (v559, v563, gb566) _ ⟨hHeld, (by (with_reducible repeat (first | apply Kd.R_alloc | apply Kd.R_drewN | apply Kd.R_drew)); exact HO560.out), (by (with_reducible repeat (first | apply Kd.R_alloc | apply Kd.R_drewN | apply Kd.R_drew)); exact Kd.R_mono HO564.out (fun _ hk => hk.2)), (by (with_reducible repeat (first | refine blk_drewN ?_ _ | refine blk_drew ?_ | refine blk_alloc ?_ _)); exact BK556.out), (by (with_reducible repeat (first | refine blk_drewN ?_ _ | refine blk_drew ?_ | refine blk_alloc ?_ _)); exact BK557.out), (by (with_reducible repeat (first | refine blk_drewN ?_ _ | refine blk_drew ?_ | refine blk_alloc ?_ _)); exact BK566.out), GW566.out, GE566.out, NB556_566.out, NB566_556.out, NB557_566.out, NB566_557.out, (by repeat (first | (with_reducible first | exact HB.out | apply below_alloc | apply pw_below_drewN | apply below_drew1 | refine below_set ?_ GE556.out | refine below_set ?_ GE557.out | refine below_set ?_ GE566.out) | exact HB.out))⟩)
   skip
   refine box_step ?hg (N := 8) ?hd (cs := #[.bool false, .slice none 0 0, .string (⟨#[]⟩ : ByteArray)]) (t := 55) ?hr ?_; (case hd => rfl); (case hg => rfl); (case hr => first | (go_simp; done) | (go_simp; rfl))
   intro gb566 hg w57 hbox hb
   have n0_ := Aside0.mk (blk_below (g := gb556) (o := .cells #[.int .i64 a1_0, .int .i64 a1_1] 23 (0, 0)) (by (with_reducible repeat (first | refine blk_drewN ?_ _ | refine blk_drew ?_ | refine blk_alloc ?_ _)); exact BK556.out) hb)
   have n1_ := Aside0.mk (blk_below (g := gb557) (o := .cells #[.bool a2_0, .slice A2_1 l2_1.length c2_1, .string a2_2] 55 (0, 0)) (by (with_reducible repeat (first | refine blk_drewN ?_ _ | refine blk_drew ?_ | refine blk_alloc ?_ _)); exact BK557.out) hb)
   have n2_ := Aside0.mk (below_step (by repeat (first | (with_reducible first | exact HB.out | apply below_alloc | apply pw_below_drewN | apply below_drew1 | refine below_set ?_ GE556.out | refine below_set ?_ GE557.out) | exact HB.out)) hb)
   have n3_ := Aside0.mk (hbox)
   have n4_ := Aside0.mk ((by rw [hg]; exact (below_size (by repeat (first | (with_reducible first | exact HB.out | apply below_alloc | apply pw_below_drewN | apply below_drew1 | refine below_set ?_ GE556.out | refine below_set ?_ GE557.out) | exact HB.out))) : w.heap.size ≤ gb566))
   have n5_ := Aside0.mk ((by rw [hg]; exact (below_size (by repeat (first | (with_reducible first | exact HB.out | apply below_alloc | apply pw_below_drewN | apply below_drew1 | refine below_set ?_ GE556.out | refine below_set ?_ GE557.out) | exact HB.out))) : w.heap.size ≤ gb566))
   have n6_ := Aside0.mk ((by rw [hg]; exact Nat.ne_of_lt (blk_lt (g := gb556) (o := .cells #[.int .i64 a1_0, .int .i64 a1_1] 23 (0, 0)) (by (with_reducible repeat (first | refine blk_drewN ?_ _ | refine blk_drew ?_ | refine blk_alloc ?_ _)); exact BK556.out)) : gb556 ≠ gb566))
   have n7_ := Aside0.mk ((by rw [hg]; exact Nat.ne_of_gt (blk_lt (g := gb556) (o := .cells #[.int .i64 a1_0, .int .i64 a1_1] 23 (0, 0)) (by (with_reducible repeat (first | refine blk_drewN ?_ _ | refine blk_drew ?_ | refine blk_alloc ?_ _)); exact BK556.out)) : gb566 ≠ gb556))
   have n8_ := Aside0.mk ((by rw [hg]; exact Nat.ne_of_lt (blk_lt (g := gb557) (o := .cells #[.bool a2_0, .slice A2_1 l2_1.length c2_1, .string a2_2] 55 (0, 0)) (by (with_reducible repeat (first | refine blk_drewN ?_ _ | refine blk_drew ?_ | refine blk_alloc ?_ _)); exact BK557.out)) : gb557 ≠ gb566))
   have n9_ := Aside0.mk ((by rw [hg]; exact Nat.ne_of_gt (blk_lt (g := gb557) (o := .cells #[.bool a2_0, .slice A2_1 l2_1.length c2_1, .string a2_2] 55 (0, 0)) (by (with_reducible repeat (first | refine blk_drewN ?_ _ | refine blk_drew ?_ | refine blk_alloc ?_ _)); exact BK557.out)) : gb566 ≠ gb557))
   clear BK556
   clear BK557
   clear HB
   have BK556 := n0_
   have BK557 := n1_
   have HB := n2_
   have BK566 := n3_
   have GW566 := n4_
   have GE566 := n5_
   have NB556_566 := n6_
   have NB566_556 := n7_
   have NB557_566 := n8_
   have NB566_557 := n9_
   clear n0_ n1_ n2_ n3_ n4_ n5_ n6_ n7_ n8_ n9_
   clear hb hbox hg
   refine hK.out _ _ ⟨(blk_cell BK557.out 0).trans rfl, (blk_cell BK557.out 1).trans rfl, (blk_cell BK557.out 2).trans rfl⟩ (fun hHeld => ?_)
   clear hK K
   refine norm_ (a' := ?_) ?_ ?_
   rotate_left
   ·show Act.put _ (some 8) _ = _
    simp only [Act.put, List.setIfInBounds_toArray, List.set_cons_zero, List.set_cons_succ, i64_w, i32_w]
    rfl
   refine one_ (i := 1) (N := some 13) #[true, true, true, false, true, false, false] rfl rfl (by kernel_rfl) (by decide) (fun K hK => ?_)
   refine goes_ Try.func15 (by kernel_rfl) rfl #[.slice A0 l0.length c0] (by rfl) rfl rfl (by (try simp only [List.map_toArray, List.map_cons, List.map_nil]); first | done | rfl | (simp only [List.length_drop, List.length_take]; rfl)) ?_
   with_reducible refine (tickinglaw06_own.calls _ _ l0 t558 _ ?side1 ?side2 A4.out).mono ?_
   (case side1 => repeat (first | exact (Kd.C_below HR0.out HB.out) | (with_reducible refine Kd.C_alloc ?_ _) | (with_reducible refine Kd.C_drewN ?_ _) | (with_reducible refine Kd.C_drew ?_)))
   (case side2 => exact HC0.out)
   rintro e w58 ⟨v559, rfl, ho0, hb⟩
   refine ⟨_, rfl, ?_⟩
   have n0_ := Aside0.mk (Kd.R_lower ho0 (below_size (by repeat (first | (with_reducible first | exact HB.out | apply below_alloc | apply pw_below_drewN | apply below_drew1 | refine below_set ?_ GE556.out | refine below_set ?_ GE557.out | refine below_set ?_ GE566.out) | exact HB.out))))
   have n1_ := Aside0.mk (blk_below (g := gb556) (o := .cells #[.int .i64 a1_0, .int .i64 a1_1] 23 (0, 0)) (by (with_reducible repeat (first | refine blk_drewN ?_ _ | refine blk_drew ?_ | refine blk_alloc ?_ _)); exact BK556.out) hb)
   have n2_ := Aside0.mk (blk_below (g := gb557) (o := .cells #[.bool a2_0, .slice A2_1 l2_1.length c2_1, .string a2_2] 55 (0, 0)) (by (with_reducible repeat (first | refine blk_drewN ?_ _ | refine blk_drew ?_ | refine blk_alloc ?_ _)); exact BK557.out) hb)
   have n3_ := Aside0.mk (blk_below (g := gb566) (o := .cells #[.bool false, .slice none 0 0, .string (⟨#[]⟩ : ByteArray)] 55 (0, 0)) (by (with_reducible repeat (first | refine blk_drewN ?_ _ | refine blk_drew ?_ | refine blk_alloc ?_ _)); exact BK566.out) hb)
   have n4_ := Aside0.mk (below_step (by repeat (first | (with_reducible first | exact HB.out | apply below_alloc | apply pw_below_drewN | apply below_drew1 | refine below_set ?_ GE556.out | refine below_set ?_ GE557.out | refine below_set ?_ GE566.out) | exact HB.out)) hb)
   clear BK556
   clear BK557
   clear BK566
   clear HB
   have HO560 := n0_
   have BK556 := n1_
   have BK557 := n2_
   have BK566 := n3_
   have HB := n4_
   clear n0_ n1_ n2_ n3_ n4_
   (try clear hb)
   (try clear hb2)
   (try clear hk)
   (try clear hi)
   (try clear ho0)
   refine hK.out _ _ ⟨(blk_cell BK557.out 0).trans rfl, (blk_cell BK557.out 1).trans rfl, (blk_cell BK557.out 2).trans rfl⟩ (fun hHeld => ?_)
   clear hK K
   refine norm_ (a' := ?_) ?_ ?_
   rotate_left
   ·show Act.put _ (some 13) _ = _
    simp only [Act.put, List.setIfInBounds_toArray, List.set_cons_zero, List.set_cons_succ, i64_w, i32_w]
    rfl
   refine one_ (i := 3) (N := some 15) #[true, true, true, true, true, false, false] rfl rfl (by kernel_rfl) (by decide) (fun K hK => ?_)
   refine goes_ Try.func36 (by kernel_rfl) rfl #[.agg #[.bool a2_0, .slice A2_1 l2_1.length c2_1, .string a2_2]] (by rfl) rfl rfl (by (try simp only [List.map_toArray, List.map_cons, List.map_nil]); first | done | rfl | (simp only [List.length_drop, List.length_take]; rfl)) ?_
   with_reducible refine (tickinglaw06_finding.calls a2_0 _ _ l2_1 a2_2 t561 t562 t565 _ ?side1 ?side2 A5.out).mono ?_
   (case side1 => repeat (first | exact (Kd.C_below HR2_1.out HB.out) | (with_reducible refine Kd.C_alloc ?_ _) | (with_reducible refine Kd.C_drewN ?_ _) | (with_reducible refine Kd.C_drew ?_)))
   (case side2 => exact HC2_1.out)
   rintro e w59 ⟨v563, rfl, ho0, hb⟩
   refine ⟨_, rfl, ?_⟩
   have n0_ := Aside0.mk (Kd.R_below (by (with_reducible repeat (first | apply Kd.R_alloc | apply Kd.R_drewN | apply Kd.R_drew)); exact HO560.out) hb)
   have n1_ := Aside0.mk (Kd.R_lower (Kd.R_newB ho0 (g := gb556) (o := .cells #[.int .i64 a1_0, .int .i64 a1_1] 23 (0, 0)) (by (with_reducible repeat (first | refine blk_drewN ?_ _ | refine blk_drew ?_ | refine blk_alloc ?_ _)); exact BK556.out)) (below_size (by repeat (first | (with_reducible first | exact HB.out | apply below_alloc | apply pw_below_drewN | apply below_drew1 | refine below_set ?_ GE556.out | refine below_set ?_ GE557.out | refine below_set ?_ GE566.out) | exact HB.out))))
   have n2_ := Aside0.mk (blk_below (g := gb556) (o := .cells #[.int .i64 a1_0, .int .i64 a1_1] 23 (0, 0)) (by (with_reducible repeat (first | refine blk_drewN ?_ _ | refine blk_drew ?_ | refine blk_alloc ?_ _)); exact BK556.out) hb)
   have n3_ := Aside0.mk (blk_below (g := gb557) (o := .cells #[.bool a2_0, .slice A2_1 l2_1.length c2_1, .string a2_2] 55 (0, 0)) (by (with_reducible repeat (first | refine blk_drewN ?_ _ | refine blk_drew ?_ | refine blk_alloc ?_ _)); exact BK557.out) hb)
   have n4_ := Aside0.mk (blk_below (g := gb566) (o := .cells #[.bool false, .slice none 0 0, .string (⟨#[]⟩ : ByteArray)] 55 (0, 0)) (by (with_reducible repeat (first | refine blk_drewN ?_ _ | refine blk_drew ?_ | refine blk_alloc ?_ _)); exact BK566.out) hb)
   have n5_ := Aside0.mk (below_step (by repeat (first | (with_reducible first | exact HB.out | apply below_alloc | apply pw_below_drewN | apply below_drew1 | refine below_set ?_ GE556.out | refine below_set ?_ GE557.out | refine below_set ?_ GE566.out) | exact HB.out)) hb)
   clear HO560
   clear BK556
   clear BK557
   clear BK566
   clear HB
   have HO560 := n0_
   have HO564 := n1_
   have BK556 := n2_
   have BK557 := n3_
   have BK566 := n4_
   have HB := n5_
   clear n0_ n1_ n2_ n3_ n4_ n5_
   (try clear hb)
   (try clear hb2)
   (try clear hk)
   (try clear hi)
   (try clear ho0)
   refine hK.out _ _ ⟨(blk_cell BK557.out 0).trans rfl, (blk_cell BK557.out 1).trans rfl, (blk_cell BK557.out 2).trans rfl⟩ (fun hHeld => ?_)
   clear hK K
   refine norm_ (a' := ?_) ?_ ?_
   rotate_left
   ·show Act.put _ (some 15) _ = _
    simp only [Act.put, List.setIfInBounds_toArray, List.set_cons_zero, List.set_cons_succ, i64_w, i32_w]
    rfl
   exact norm_ (by simp only [putAll, Act.put, List.setIfInBounds_toArray, List.set_cons_zero, List.set_cons_succ]) (hCont (v559, v563, gb566) _ ⟨hHeld, (by (with_reducible repeat (first | apply Kd.R_alloc | apply Kd.R_drewN | apply Kd.R_drew)); exact HO560.out), (by (with_reducible repeat (first | apply Kd.R_alloc | apply Kd.R_drewN | apply Kd.R_drew)); exact Kd.R_mono HO564.out (fun _ hk => hk.2)), (by (with_reducible repeat (first | refine blk_drewN ?_ _ | refine blk_drew ?_ | refine blk_alloc ?_ _)); exact BK556.out), (by (with_reducible repeat (first | refine blk_drewN ?_ _ | refine blk_drew ?_ | refine blk_alloc ?_ _)); exact BK557.out), (by (with_reducible repeat (first | refine blk_drewN ?_ _ | refine blk_drew ?_ | refine blk_alloc ?_ _)); exact BK566.out), GW566.out, GE566.out, NB556_566.out, NB566_556.out, NB557_566.out, NB566_557.out, (by repeat (first | (with_reducible first | exact HB.out | apply below_alloc | apply pw_below_drewN | apply below_drew1 | refine below_set ?_ GE556.out | refine below_set ?_ GE557.out | refine below_set ?_ GE566.out) | exact HB.out))⟩)
  rintro ⟨v559, v563, gb566⟩ w60 ⟨hS_, h0_, h1_, h2_, h3_, h4_, h5_, h6_, h7_, h8_, h9_, h10_, h11_⟩
  have n0_ : Aside0 (Kd.R k39 39 w60 w.heap.size (fun _ => True) v559 t558) := ⟨h0_⟩
  have n1_ : Aside0 (Kd.R k23 23 w60 w.heap.size (fun k_ => k_ ≠ gb556) v563 t562) := ⟨h1_⟩
  have n2_ : Aside0 (w60.heap[gb556]? = some (.cells #[.int .i64 a1_0, .int .i64 a1_1] 23 (0, 0))) := ⟨h2_⟩
  have n3_ : Aside0 (w60.heap[gb557]? = some (.cells #[.bool a2_0, .slice A2_1 l2_1.length c2_1, .string a2_2] 55 (0, 0))) := ⟨h3_⟩
  have n4_ : Aside0 (w60.heap[gb566]? = some (.cells #[.bool false, .slice none 0 0, .string (⟨#[]⟩ : ByteArray)] 55 (0, 0))) := ⟨h4_⟩
  have n5_ : Aside0 (w.heap.size ≤ gb566) := ⟨h5_⟩
  have n6_ : Aside0 (w.heap.size ≤ gb566) := ⟨h6_⟩
  have n7_ : Aside0 (gb556 ≠ gb566) := ⟨h7_⟩
  have n8_ : Aside0 (gb566 ≠ gb556) := ⟨h8_⟩
  have n9_ : Aside0 (gb557 ≠ gb566) := ⟨h9_⟩
  have n10_ : Aside0 (gb566 ≠ gb557) := ⟨h10_⟩
  have n11_ : Aside0 (Below w.heap.size w w60) := ⟨h11_⟩
  clear BK556
  clear BK557
  clear HB
  clear h0_ h1_ h2_ h3_ h4_ h5_ h6_ h7_ h8_ h9_ h10_ h11_
  have HO560 := n0_
  have HO564 := n1_
  have BK556 := n2_
  have BK557 := n3_
  have BK566 := n4_
  have GW566 := n5_
  have GE566 := n6_
  have NB556_566 := n7_
  have NB566_556 := n8_
  have NB557_566 := n9_
  have NB566_557 := n10_
  have HB := n11_
  clear n0_ n1_ n2_ n3_ n4_ n5_ n6_ n7_ n8_ n9_ n10_ n11_
  have hHeld : w60.cell? ⟨gb557, 0, none⟩ = some (.bool a2_0) ∧ w60.cell? ⟨gb557, 1, none⟩ = some (.slice A2_1 l2_1.length c2_1) ∧ w60.cell? ⟨gb557, 2, none⟩ = some (.string a2_2) := hS_
  obtain ⟨Ao62, co62, eo62⟩ := Kd.R_slice HO564.out
  (first | subst eo62 | (injection eo62 with f1_ f2_ f3_; have f4_ := f1_.symm; have f5_ := f3_.symm; clear f1_ f2_ f3_; subst f4_; subst f5_))
  refine norm_ (a' := ?_) ?_ ?_
  rotate_left
  ·simp only [putAll, Act.put, List.setIfInBounds_toArray, List.set_cons_zero, List.set_cons_succ]
   rfl
  refine pure_ (i := 5) (N := some 7) (v := ?_) (a' := ?_) #[true, true, true, true, true, true, false] rfl rfl (by kernel_rfl) (fun _ _ _ h => h) (Or.inl ⟨by rfl, ?_⟩) ?_ ?_
  rotate_left
  ·intro w'
   go_simp
   with_reducible rfl
  rotate_left
  ·simp only [Act.put, List.setIfInBounds_toArray, List.set_cons_zero, List.set_cons_succ, i64_w, i32_w]
   rfl
  refine one_ (i := 6) (N := none) #[true, true, true, true, true, true, true] rfl rfl (by kernel_rfl) (by decide) (fun K hK => ?_)
  have hs61 : w60.cell? ⟨gb566, 0, none⟩ = some (.bool false) := (blk_cell BK566.out 0).trans rfl
  have hfs61 := blk_frozen BK566.out 0
  have hns61_0 := NB556_566.out
  have hns61_1 := NB557_566.out
  have hms61_0 := NB566_556.out
  have hms61_1 := NB566_557.out
  have hs63 : w60.cell? ⟨gb566, 1, none⟩ = some (.slice none 0 0) := (blk_cell BK566.out 1).trans rfl
  have hfs63 := blk_frozen BK566.out 1
  have hns63_0 := NB556_566.out
  have hns63_1 := NB557_566.out
  have hms63_0 := NB566_556.out
  have hms63_1 := NB566_557.out
  have hs64 : w60.cell? ⟨gb566, 2, none⟩ = some (.string (⟨#[]⟩ : ByteArray)) := (blk_cell BK566.out 2).trans rfl
  have hfs64 := blk_frozen BK566.out 2
  have hns64_0 := NB556_566.out
  have hns64_1 := NB557_566.out
  have hms64_0 := NB566_556.out
  have hms64_1 := NB566_557.out
  refine skip_ (w1 := ?_) (by rfl) rfl ?_ ?_
  rotate_left
  ·go_simp
   rfl
  refine hK.out _ _ ⟨((cell_far (p := ⟨gb566, _, none⟩) NB557_566.out _).trans (((cell_far (p := ⟨gb566, _, none⟩) NB557_566.out _).trans (((cell_far (p := ⟨gb566, _, none⟩) NB557_566.out _).trans (hHeld.1)))))), ((cell_far (p := ⟨gb566, _, none⟩) NB557_566.out _).trans (((cell_far (p := ⟨gb566, _, none⟩) NB557_566.out _).trans (((cell_far (p := ⟨gb566, _, none⟩) NB557_566.out _).trans (hHeld.2.1)))))), ((cell_far (p := ⟨gb566, _, none⟩) NB557_566.out _).trans (((cell_far (p := ⟨gb566, _, none⟩) NB557_566.out _).trans (((cell_far (p := ⟨gb566, _, none⟩) NB557_566.out _).trans (hHeld.2.2))))))⟩ (fun hHeld => ?_)
  clear hK K
  refine done_ (by kernel_rfl) ?_
  try go_wp2
  have n0_ : Aside0 (Kd.R k39 39 (((w60.setCell ⟨gb566, 0, none⟩ (.bool t561)).setCell ⟨gb566, 1, none⟩ (.slice Ao62 t562.length co62)).setCell ⟨gb566, 2, none⟩ (.string t565)) w.heap.size (fun _ => True) v559 t558) := ⟨by (with_reducible repeat (first | apply Kd.R_alloc | apply Kd.R_drewN | apply Kd.R_drew)); exact Kd.R_mono (Kd.R_far (p := ⟨gb566, 2, none⟩) (Kd.R_far (p := ⟨gb566, 1, none⟩) (Kd.R_far (p := ⟨gb566, 0, none⟩) (Kd.R_types HO560.out BK566.out (by decide)) (fun _ hk => hk.2) (.bool t561)) (fun _ hk => hk.2) (.slice Ao62 t562.length co62)) (fun _ hk => hk.2) (.string t565)) (fun _ hk => trivial)⟩
  have n1_ : Aside0 (Kd.R k23 23 (((w60.setCell ⟨gb566, 0, none⟩ (.bool t561)).setCell ⟨gb566, 1, none⟩ (.slice Ao62 t562.length co62)).setCell ⟨gb566, 2, none⟩ (.string t565)) w.heap.size (fun k_ => k_ ≠ gb556) (.slice Ao62 t562.length co62) t562) := ⟨by (with_reducible repeat (first | apply Kd.R_alloc | apply Kd.R_drewN | apply Kd.R_drew)); exact Kd.R_mono (Kd.R_far (p := ⟨gb566, 2, none⟩) (Kd.R_far (p := ⟨gb566, 1, none⟩) (Kd.R_far (p := ⟨gb566, 0, none⟩) (Kd.R_types HO564.out BK566.out (by decide)) (fun _ hk => hk.2) (.bool t561)) (fun _ hk => hk.2) (.slice Ao62 t562.length co62)) (fun _ hk => hk.2) (.string t565)) (fun _ hk => hk.1)⟩
  have n2_ : Aside0 ((((w60.setCell ⟨gb566, 0, none⟩ (.bool t561)).setCell ⟨gb566, 1, none⟩ (.slice Ao62 t562.length co62)).setCell ⟨gb566, 2, none⟩ (.string t565)).heap[gb556]? = some (.cells #[.int .i64 a1_0, .int .i64 a1_1] 23 (0, 0))) := ⟨by (with_reducible repeat (first | refine blk_drewN ?_ _ | refine blk_drew ?_ | refine blk_alloc ?_ _)); refine blk_far ?_ NB556_566.out _; (with_reducible repeat (first | refine blk_drewN ?_ _ | refine blk_drew ?_ | refine blk_alloc ?_ _)); refine blk_far ?_ NB556_566.out _; (with_reducible repeat (first | refine blk_drewN ?_ _ | refine blk_drew ?_ | refine blk_alloc ?_ _)); refine blk_far ?_ NB556_566.out _; (with_reducible repeat (first | refine blk_drewN ?_ _ | refine blk_drew ?_ | refine blk_alloc ?_ _)); exact BK556.out⟩
  have n3_ : Aside0 ((((w60.setCell ⟨gb566, 0, none⟩ (.bool t561)).setCell ⟨gb566, 1, none⟩ (.slice Ao62 t562.length co62)).setCell ⟨gb566, 2, none⟩ (.string t565)).heap[gb557]? = some (.cells #[.bool a2_0, .slice A2_1 l2_1.length c2_1, .string a2_2] 55 (0, 0))) := ⟨by (with_reducible repeat (first | refine blk_drewN ?_ _ | refine blk_drew ?_ | refine blk_alloc ?_ _)); refine blk_far ?_ NB557_566.out _; (with_reducible repeat (first | refine blk_drewN ?_ _ | refine blk_drew ?_ | refine blk_alloc ?_ _)); refine blk_far ?_ NB557_566.out _; (with_reducible repeat (first | refine blk_drewN ?_ _ | refine blk_drew ?_ | refine blk_alloc ?_ _)); refine blk_far ?_ NB557_566.out _; (with_reducible repeat (first | refine blk_drewN ?_ _ | refine blk_drew ?_ | refine blk_alloc ?_ _)); exact BK557.out⟩
  have n4_ : Aside0 ((((w60.setCell ⟨gb566, 0, none⟩ (.bool t561)).setCell ⟨gb566, 1, none⟩ (.slice Ao62 t562.length co62)).setCell ⟨gb566, 2, none⟩ (.string t565)).heap[gb566]? = some (.cells #[.bool t561, .slice Ao62 t562.length co62, .string t565] 55 (0, 0))) := ⟨by (with_reducible repeat (first | refine blk_drewN ?_ _ | refine blk_drew ?_ | refine blk_alloc ?_ _)); refine blk_put (cs := #[.bool t561, .slice Ao62 t562.length co62, .string (⟨#[]⟩ : ByteArray)]) ?_ 2 _ rfl; (with_reducible repeat (first | refine blk_drewN ?_ _ | refine blk_drew ?_ | refine blk_alloc ?_ _)); refine blk_put (cs := #[.bool t561, .slice none 0 0, .string (⟨#[]⟩ : ByteArray)]) ?_ 1 _ rfl; (with_reducible repeat (first | refine blk_drewN ?_ _ | refine blk_drew ?_ | refine blk_alloc ?_ _)); refine blk_put (cs := #[.bool false, .slice none 0 0, .string (⟨#[]⟩ : ByteArray)]) ?_ 0 _ rfl; (with_reducible repeat (first | refine blk_drewN ?_ _ | refine blk_drew ?_ | refine blk_alloc ?_ _)); exact BK566.out⟩
  have n5_ : Aside0 (Below w.heap.size w (((w60.setCell ⟨gb566, 0, none⟩ (.bool t561)).setCell ⟨gb566, 1, none⟩ (.slice Ao62 t562.length co62)).setCell ⟨gb566, 2, none⟩ (.string t565))) := ⟨by repeat (first | (with_reducible first | exact HB.out | apply below_alloc | apply pw_below_drewN | apply below_drew1 | refine below_set ?_ GE556.out | refine below_set ?_ GE557.out | refine below_set ?_ GE566.out) | exact HB.out)⟩
  (try clear HO560)
  (try clear HO564)
  (try clear BK556)
  (try clear BK557)
  (try clear BK566)
  (try clear HB)
  generalize (((w60.setCell ⟨gb566, 0, none⟩ (.bool t561)).setCell ⟨gb566, 1, none⟩ (.slice Ao62 t562.length co62)).setCell ⟨gb566, 2, none⟩ (.string t565)) = w65 at n0_ n1_ n2_ n3_ n4_ n5_ ⊢
  have HO560 := n0_
  have HO564 := n1_
  have BK556 := n2_
  have BK557 := n3_
  have BK566 := n4_
  have HB := n5_
  clear n0_ n1_ n2_ n3_ n4_ n5_
  have n0_ := Aside0.mk (Kd.R_drew HO560.out)
  have n1_ := Aside0.mk (Kd.R_drew HO564.out)
  have n2_ := Aside0.mk (blk_drew BK556.out)
  have n3_ := Aside0.mk (blk_drew BK557.out)
  have n4_ := Aside0.mk (blk_drew BK566.out)
  have n5_ := Aside0.mk (below_drew1 HB.out)
  clear HO560
  clear HO564
  clear BK556
  clear BK557
  clear BK566
  clear HB
  have HO560 := n0_
  have HO564 := n1_
  have BK556 := n2_
  have BK557 := n3_
  have BK566 := n4_
  have HB := n5_
  clear n0_ n1_ n2_ n3_ n4_ n5_
  refine start_ (n := 6) (S := fun w' => w'.cell? ⟨gb556, 0, none⟩ = some (.int .i64 a1_0) ∧ w'.cell? ⟨gb556, 1, none⟩ = some (.int .i64 a1_1)) (ds := []) #[false, false, false, false, false, false] (by kernel_rfl) rfl rfl ⟨(blk_cell BK556.out 0).trans rfl, (blk_cell BK556.out 1).trans rfl⟩ (fun hHeld => ?_)
  generalize w65.drew = w66 at HO560 HO564 BK556 BK557 BK566 HB hHeld ⊢
  refine pure_ (i := 0) (N := some 16) (v := ?_) (a' := ?_) #[true, false, false, false, false, false] rfl rfl (by kernel_rfl) (fun _ _ _ h => h) (Or.inl ⟨by rfl, ?_⟩) ?_ ?_
  rotate_left
  ·intro w'
   go_simp
   with_reducible rfl
  rotate_left
  ·simp only [Act.put, List.setIfInBounds_toArray, List.set_cons_zero, List.set_cons_succ, i64_w, i32_w]
   rfl
  refine pure_ (i := 2) (N := some 18) (v := ?_) (a' := ?_) #[true, false, true, false, false, false] rfl rfl (by kernel_rfl) (fun _ _ _ h => h) (Or.inl ⟨by rfl, ?_⟩) ?_ ?_
  rotate_left
  ·intro w'
   go_simp
   with_reducible rfl
  rotate_left
  ·simp only [Act.put, List.setIfInBounds_toArray, List.set_cons_zero, List.set_cons_succ, i64_w, i32_w]
   rfl
  refine take_ (i := 1) (N := some 17) (v := ?_) (a' := ?_) #[true, true, true, false, false, false] rfl rfl (by kernel_rfl) (fun _ _ _ h => h) (Or.inl ⟨by rfl, ?_⟩) hHeld ?_ ?_
  rotate_left
  ·rintro w' ⟨s0, s1⟩
   go_simp
   with_reducible rfl
  rotate_left
  ·simp only [Act.put, List.setIfInBounds_toArray, List.set_cons_zero, List.set_cons_succ, i64_w, i32_w]
   rfl
  refine pure_ (i := 4) (N := some 9) (v := ?_) (a' := ?_) #[true, true, true, false, true, false] rfl rfl (by kernel_rfl) (fun _ _ _ h => h) (Or.inl ⟨by rfl, ?_⟩) ?_ ?_
  rotate_left
  ·intro w'
   go_simp
   with_reducible rfl
  rotate_left
  ·simp only [Act.put, List.setIfInBounds_toArray, List.set_cons_zero, List.set_cons_succ, i64_w, i32_w]
   rfl
  refine take_ (i := 3) (N := some 19) (v := ?_) (a' := ?_) #[true, true, true, true, true, false] rfl rfl (by kernel_rfl) (fun _ _ _ h => h) (Or.inl ⟨by rfl, ?_⟩) hHeld ?_ ?_
  rotate_left
  ·rintro w' ⟨s0, s1⟩
   go_simp
   with_reducible rfl
  rotate_left
  ·simp only [Act.put, List.setIfInBounds_toArray, List.set_cons_zero, List.set_cons_succ, i64_w, i32_w]
   rfl
  refine pure_ (i := 5) (N := some 10) (v := ?_) (a' := ?_) #[true, true, true, true, true, true] rfl rfl (by kernel_rfl) (fun _ _ _ h => h) (Or.inl ⟨by rfl, ?_⟩) ?_ ?_
  rotate_left
  ·intro w'
   go_simp
   with_reducible rfl
  rotate_left
  ·simp only [Act.put, List.setIfInBounds_toArray, List.set_cons_zero, List.set_cons_succ, i64_w, i32_w]
   rfl
  refine done_ (by kernel_rfl) ?_
  have hnb67 := NB566_556.out
  have hnc67 := NB556_566.out
  have hnb68 := NB566_557.out
  have hnc68 := NB557_566.out
  have hcz69_0 : w66.cell? ⟨gb566, 0, none⟩ = some (.bool t561) := (blk_cell BK566.out 0).trans rfl
  have hcz69_1 : w66.cell? ⟨gb566, 1, none⟩ = some (.slice Ao62 t562.length co62) := (blk_cell BK566.out 1).trans rfl
  have hcz69_2 : w66.cell? ⟨gb566, 2, none⟩ = some (.string t565) := (blk_cell BK566.out 2).trans rfl
  have hfz69_0 := blk_frozen BK566.out 0
  have hfz69_1 := blk_frozen BK566.out 1
  have hfz69_2 := blk_frozen BK566.out 2
  obtain ⟨Ao70, co70, eo70⟩ := Kd.R_slice HO560.out
  subst eo70
  try go_wp2_with (first | ((with_reducible refine gate_callee (f := 35) rfl ?_); refine goesL_ (some 24) rfl rfl Try.func35 (by kernel_rfl) rfl #[.slice Ao70 t558.length co70, .int .i64 a1_0, .int .i64 a1_1, .agg #[.bool t561, .slice Ao62 t562.length co62, .string t565]] rfl (by (try simp only [List.map_toArray, List.map_cons, List.map_nil]); first | done | rfl | (simp only [List.length_drop, List.length_take]; rfl)) ?_; (with_reducible refine (loops_Check.calls k _ _ t558 a1_0 a1_1 t561 _ _ t562 t565 t567 _ ?side1 ?side2 ?side3 ?side4 A6.out).mono ?_); (case side1 => repeat (first | exact (Kd.R_reads' HO560.out).2.2 | (with_reducible refine Kd.C_alloc ?_ _) | (with_reducible refine Kd.C_drewN ?_ _) | (with_reducible refine Kd.C_drew ?_))); (case side2 => exact (Kd.R_reads' HO560.out).2.1); (case side3 => repeat (first | exact (Kd.R_reads' HO564.out).2.2 | (with_reducible refine Kd.C_alloc ?_ _) | (with_reducible refine Kd.C_drewN ?_ _) | (with_reducible refine Kd.C_drew ?_))); (case side4 => exact (Kd.R_reads' HO564.out).2.1); rintro e w71 ⟨rfl, hb⟩; refine ⟨_, rfl, ?_⟩; have n0_ := Aside0.mk (Kd.R_below (by (with_reducible repeat (first | apply Kd.R_alloc | apply Kd.R_drewN | apply Kd.R_drew)); exact HO560.out) hb); have n1_ := Aside0.mk (Kd.R_below (by (with_reducible repeat (first | apply Kd.R_alloc | apply Kd.R_drewN | apply Kd.R_drew)); exact HO564.out) hb); have n2_ := Aside0.mk (blk_below (g := gb556) (o := .cells #[.int .i64 a1_0, .int .i64 a1_1] 23 (0, 0)) (by (with_reducible repeat (first | refine blk_drewN ?_ _ | refine blk_drew ?_ | refine blk_alloc ?_ _)); exact BK556.out) hb); have n3_ := Aside0.mk (blk_below (g := gb557) (o := .cells #[.bool a2_0, .slice A2_1 l2_1.length c2_1, .string a2_2] 55 (0, 0)) (by (with_reducible repeat (first | refine blk_drewN ?_ _ | refine blk_drew ?_ | refine blk_alloc ?_ _)); exact BK557.out) hb); have n4_ := Aside0.mk (blk_below (g := gb566) (o := .cells #[.bool t561, .slice Ao62 t562.length co62, .string t565] 55 (0, 0)) (by (with_reducible repeat (first | refine blk_drewN ?_ _ | refine blk_drew ?_ | refine blk_alloc ?_ _)); exact BK566.out) hb); have n5_ := Aside0.mk (below_step (by repeat (first | (with_reducible first | exact HB.out | apply below_alloc | apply pw_below_drewN | apply below_drew1 | refine below_set ?_ GE556.out | refine below_set ?_ GE557.out | refine below_set ?_ GE566.out) | exact HB.out)) hb); clear HO560; clear HO564; clear BK556; clear BK557; clear BK566; clear HB; have HO560 := n0_; have HO564 := n1_; have BK556 := n2_; have BK557 := n3_; have BK566 := n4_; have HB := n5_; clear n0_ n1_ n2_ n3_ n4_ n5_; (try clear hb); (try clear hb2); (try clear hk); (try clear hi)) | ((with_reducible refine gate_callee (f := 18) rfl ?_); refine goesL_ (some 28) rfl rfl Try.func18 (by kernel_rfl) rfl #[.slice Ao70 t558.length co70, .int .i64 a1_0, .int .i64 a1_1] rfl (by (try simp only [List.map_toArray, List.map_cons, List.map_nil]); first | done | rfl | (simp only [List.length_drop, List.length_take]; rfl)) ?_; (with_reducible refine (tickinglaw06_bad.calls k _ _ t558 a1_0 a1_1 false _ ?side1 ?side2 A7.out).mono ?_); (case side1 => repeat (first | exact (Kd.R_reads' HO560.out).2.2 | (with_reducible refine Kd.C_alloc ?_ _) | (with_reducible refine Kd.C_drewN ?_ _) | (with_reducible refine Kd.C_drew ?_))); (case side2 => exact (Kd.R_reads' HO560.out).2.1); rintro e w72 ⟨rfl, hb⟩; refine ⟨_, rfl, ?_⟩; have n0_ := Aside0.mk (Kd.R_below (by (with_reducible repeat (first | apply Kd.R_alloc | apply Kd.R_drewN | apply Kd.R_drew)); exact HO560.out) hb); have n1_ := Aside0.mk (Kd.R_below (by (with_reducible repeat (first | apply Kd.R_alloc | apply Kd.R_drewN | apply Kd.R_drew)); exact HO564.out) hb); have n2_ := Aside0.mk (blk_below (g := gb556) (o := .cells #[.int .i64 a1_0, .int .i64 a1_1] 23 (0, 0)) (by (with_reducible repeat (first | refine blk_drewN ?_ _ | refine blk_drew ?_ | refine blk_alloc ?_ _)); exact BK556.out) hb); have n3_ := Aside0.mk (blk_below (g := gb557) (o := .cells #[.bool a2_0, .slice A2_1 l2_1.length c2_1, .string a2_2] 55 (0, 0)) (by (with_reducible repeat (first | refine blk_drewN ?_ _ | refine blk_drew ?_ | refine blk_alloc ?_ _)); exact BK557.out) hb); have n4_ := Aside0.mk (blk_below (g := gb566) (o := .cells #[.bool t561, .slice Ao62 t562.length co62, .string t565] 55 (0, 0)) (by (with_reducible repeat (first | refine blk_drewN ?_ _ | refine blk_drew ?_ | refine blk_alloc ?_ _)); exact BK566.out) hb); have n5_ := Aside0.mk (below_step (by repeat (first | (with_reducible first | exact HB.out | apply below_alloc | apply pw_below_drewN | apply below_drew1 | refine below_set ?_ GE556.out | refine below_set ?_ GE557.out | refine below_set ?_ GE566.out) | exact HB.out)) hb); clear HO560; clear HO564; clear BK556; clear BK557; clear BK566; clear HB; have HO560 := n0_; have HO564 := n1_; have BK556 := n2_; have BK557 := n3_; have BK566 := n4_; have HB := n5_; clear n0_ n1_ n2_ n3_ n4_ n5_; (try clear hb); (try clear hb2); (try clear hk); (try clear hi); have hcz73_0 : w72.cell? ⟨gb566, 0, none⟩ = some (.bool t561) := (blk_cell BK566.out 0).trans rfl; have hcz73_1 : w72.cell? ⟨gb566, 1, none⟩ = some (.slice Ao62 t562.length co62) := (blk_cell BK566.out 1).trans rfl; have hcz73_2 : w72.cell? ⟨gb566, 2, none⟩ = some (.string t565) := (blk_cell BK566.out 2).trans rfl; have hfz73_0 := blk_frozen BK566.out 0; have hfz73_1 := blk_frozen BK566.out 1; have hfz73_2 := blk_frozen BK566.out 2) | ((with_reducible refine gate_callee (f := 34) rfl ?_); refine goesL_ (some 38) rfl rfl Try.func34 (by kernel_rfl) rfl #[.slice Ao70 t558.length co70, .int .i64 a1_0, .int .i64 a1_1, .agg #[.bool t561, .slice Ao62 t562.length co62, .string t565]] rfl (by (try simp only [List.map_toArray, List.map_cons, List.map_nil]); first | done | rfl | (simp only [List.length_drop, List.length_take]; rfl)) ?_; (with_reducible refine (tickingref06_Right.calls k _ _ t558 a1_0 a1_1 t561 _ _ t562 t565 true _ ?side1 ?side2 ?side3 ?side4 A50.out).mono ?_); (case side1 => repeat (first | exact (Kd.R_reads' HO560.out).2.2 | (with_reducible refine Kd.C_alloc ?_ _) | (with_reducible refine Kd.C_drewN ?_ _) | (with_reducible refine Kd.C_drew ?_))); (case side2 => exact (Kd.R_reads' HO560.out).2.1); (case side3 => repeat (first | exact (Kd.R_reads' HO564.out).2.2 | (with_reducible refine Kd.C_alloc ?_ _) | (with_reducible refine Kd.C_drewN ?_ _) | (with_reducible refine Kd.C_drew ?_))); (case side4 => exact (Kd.R_reads' HO564.out).2.1); rintro e w74 ⟨rfl, hb⟩; refine ⟨_, rfl, ?_⟩; have n0_ := Aside0.mk (Kd.R_below (by (with_reducible repeat (first | apply Kd.R_alloc | apply Kd.R_drewN | apply Kd.R_drew)); exact HO560.out) hb); have n1_ := Aside0.mk (Kd.R_below (by (with_reducible repeat (first | apply Kd.R_alloc | apply Kd.R_drewN | apply Kd.R_drew)); exact HO564.out) hb); have n2_ := Aside0.mk (blk_below (g := gb556) (o := .cells #[.int .i64 a1_0, .int .i64 a1_1] 23 (0, 0)) (by (with_reducible repeat (first | refine blk_drewN ?_ _ | refine blk_drew ?_ | refine blk_alloc ?_ _)); exact BK556.out) hb); have n3_ := Aside0.mk (blk_below (g := gb557) (o := .cells #[.bool a2_0, .slice A2_1 l2_1.length c2_1, .string a2_2] 55 (0, 0)) (by (with_reducible repeat (first | refine blk_drewN ?_ _ | refine blk_drew ?_ | refine blk_alloc ?_ _)); exact BK557.out) hb); have n4_ := Aside0.mk (blk_below (g := gb566) (o := .cells #[.bool t561, .slice Ao62 t562.length co62, .string t565] 55 (0, 0)) (by (with_reducible repeat (first | refine blk_drewN ?_ _ | refine blk_drew ?_ | refine blk_alloc ?_ _)); exact BK566.out) hb); have n5_ := Aside0.mk (below_step (by repeat (first | (with_reducible first | exact HB.out | apply below_alloc | apply pw_below_drewN | apply below_drew1 | refine below_set ?_ GE556.out | refine below_set ?_ GE557.out | refine below_set ?_ GE566.out) | exact HB.out)) hb); clear HO560; clear HO564; clear BK556; clear BK557; clear BK566; clear HB; have HO560 := n0_; have HO564 := n1_; have BK556 := n2_; have BK557 := n3_; have BK566 := n4_; have HB := n5_; clear n0_ n1_ n2_ n3_ n4_ n5_; (try clear hb); (try clear hb2); (try clear hk); (try clear hi)) | (go_at_call 19; (with_reducible refine (tickinglaw06_awake.calls k  t571 _ A53.out).mono ?_); rintro e w75 ⟨rfl, hb⟩; have n0_ := Aside0.mk (Kd.R_below (by (with_reducible repeat (first | apply Kd.R_alloc | apply Kd.R_drewN | apply Kd.R_drew)); exact HO560.out) hb); have n1_ := Aside0.mk (Kd.R_below (by (with_reducible repeat (first | apply Kd.R_alloc | apply Kd.R_drewN | apply Kd.R_drew)); exact HO564.out) hb); have n2_ := Aside0.mk (blk_below (g := gb556) (o := .cells #[.int .i64 a1_0, .int .i64 a1_1] 23 (0, 0)) (by (with_reducible repeat (first | refine blk_drewN ?_ _ | refine blk_drew ?_ | refine blk_alloc ?_ _)); exact BK556.out) hb); have n3_ := Aside0.mk (blk_below (g := gb557) (o := .cells #[.bool a2_0, .slice A2_1 l2_1.length c2_1, .string a2_2] 55 (0, 0)) (by (with_reducible repeat (first | refine blk_drewN ?_ _ | refine blk_drew ?_ | refine blk_alloc ?_ _)); exact BK557.out) hb); have n4_ := Aside0.mk (blk_below (g := gb566) (o := .cells #[.bool t561, .slice Ao62 t562.length co62, .string t565] 55 (0, 0)) (by (with_reducible repeat (first | refine blk_drewN ?_ _ | refine blk_drew ?_ | refine blk_alloc ?_ _)); exact BK566.out) hb); have n5_ := Aside0.mk (below_step (by repeat (first | (with_reducible first | exact HB.out | apply below_alloc | apply pw_below_drewN | apply below_drew1 | refine below_set ?_ GE556.out | refine below_set ?_ GE557.out | refine below_set ?_ GE566.out) | exact HB.out)) hb); clear HO560; clear HO564; clear BK556; clear BK557; clear BK566; clear HB; have HO560 := n0_; have HO564 := n1_; have BK556 := n2_; have BK557 := n3_; have BK566 := n4_; have HB := n5_; clear n0_ n1_ n2_ n3_ n4_ n5_; (try clear hb); (try clear hb2); (try clear hk); (try clear hi)))
  go_ret
  exact ⟨by first | rfl | (simp [errW_none, errW_some] <;> rfl) | (simp [*, errW_none, errW_some] <;> rfl), by repeat (first | (with_reducible first | exact HB.out | apply below_alloc | apply pw_below_drewN | apply below_drew1 | refine below_set ?_ GE556.out | refine below_set ?_ GE557.out | refine below_set ?_ GE566.out) | exact HB.out)⟩
 replace c51 := Bool.eq_false_iff.mpr c51
 subst c51
 have H1 : (if t567 = 10 then ((tickinglaw06_awake.f k).bind fun t572 => (some t572)) else (some false)) = some r := by rw [if_neg (show ¬ (false = true) by decide)] at H; exact H
 clear H
 have H := H1
 clear H1
 by_cases c97 : t567 = 10
 rotate_left
 ·rw [if_neg c97] at H
  have c97b0 : (t567 == 10) = false := beq_eq_false_iff_ne.mpr c97
  have c97b1 : (t567 != 10) = true := bne_iff_ne.mpr c97
  exact absurd ((Option.some.inj H).trans HTR.out) (by decide)
 rw [if_pos c97] at H
 have c97b0 : (t567 == 10) = true := beq_iff_eq.mpr c97
 have c97b1 : (t567 != 10) = false := bne_eq_false_iff_eq.mpr c97
 clear c97
 replace H := Option.bind_eq_some_iff.mp H
 obtain ⟨t572, A980, H⟩ := H
 replace H : (some t572) = some r := H
 have A98 := Aside0.mk A980
 clear A980
 obtain rfl := Option.some.inj H
 go_enter Try.func10, Try.ntmps10
 try go_wp2_with (first | ((with_reducible refine gate_dst (N := 4) rfl ?_); refine box_event ?hg (N := 4) ?hd (cs := #[.int .i64 a1_0, .int .i64 a1_1]) (t := 23) ?hr ?_; (case hd => rfl); (case hg => rfl); (case hr => first | (go_simp; done) | (go_simp; rfl)); intro gb556 hg w99 hbox hb; have n0_ := Aside0.mk (below_step (by repeat (first | (with_reducible first | exact HB.out | apply below_alloc | apply pw_below_drewN | apply below_drew1) | exact HB.out)) hb); have n1_ := Aside0.mk (hbox); have n2_ := Aside0.mk ((by rw [hg]; exact (below_size (by repeat (first | (with_reducible first | exact HB.out | apply below_alloc | apply pw_below_drewN | apply below_drew1) | exact HB.out))) : w.heap.size ≤ gb556)); have n3_ := Aside0.mk ((by rw [hg]; exact (below_size (by repeat (first | (with_reducible first | exact HB.out | apply below_alloc | apply pw_below_drewN | apply below_drew1) | exact HB.out))) : w.heap.size ≤ gb556)); clear HB; have HB := n0_; have BK556 := n1_; have GW556 := n2_; have GE556 := n3_; clear n0_ n1_ n2_ n3_; clear hb hbox hg) | ((with_reducible refine gate_dst (N := 5) rfl ?_); refine box_event ?hg (N := 5) ?hd (cs := #[.bool a2_0, .slice A2_1 l2_1.length c2_1, .string a2_2]) (t := 55) ?hr ?_; (case hd => rfl); (case hg => rfl); (case hr => first | (go_simp; done) | (go_simp; rfl)); intro gb557 hg w100 hbox hb; have n0_ := Aside0.mk (blk_below (g := gb556) (o := .cells #[.int .i64 a1_0, .int .i64 a1_1] 23 (0, 0)) (by (with_reducible repeat (first | refine blk_drewN ?_ _ | refine blk_drew ?_ | refine blk_alloc ?_ _)); exact BK556.out) hb); have n1_ := Aside0.mk (below_step (by repeat (first | (with_reducible first | exact HB.out | apply below_alloc | apply pw_below_drewN | apply below_drew1 | refine below_set ?_ GE556.out) | exact HB.out)) hb); have n2_ := Aside0.mk (hbox); have n3_ := Aside0.mk ((by rw [hg]; exact (below_size (by repeat (first | (with_reducible first | exact HB.out | apply below_alloc | apply pw_below_drewN | apply below_drew1 | refine below_set ?_ GE556.out) | exact HB.out))) : w.heap.size ≤ gb557)); have n4_ := Aside0.mk ((by rw [hg]; exact (below_size (by repeat (first | (with_reducible first | exact HB.out | apply below_alloc | apply pw_below_drewN | apply below_drew1 | refine below_set ?_ GE556.out) | exact HB.out))) : w.heap.size ≤ gb557)); have n5_ := Aside0.mk ((by rw [hg]; exact Nat.ne_of_lt (blk_lt (g := gb556) (o := .cells #[.int .i64 a1_0, .int .i64 a1_1] 23 (0, 0)) (by (with_reducible repeat (first | refine blk_drewN ?_ _ | refine blk_drew ?_ | refine blk_alloc ?_ _)); exact BK556.out)) : gb556 ≠ gb557)); have n6_ := Aside0.mk ((by rw [hg]; exact Nat.ne_of_gt (blk_lt (g := gb556) (o := .cells #[.int .i64 a1_0, .int .i64 a1_1] 23 (0, 0)) (by (with_reducible repeat (first | refine blk_drewN ?_ _ | refine blk_drew ?_ | refine blk_alloc ?_ _)); exact BK556.out)) : gb557 ≠ gb556)); clear BK556; clear HB; have BK556 := n0_; have HB := n1_; have BK557 := n2_; have GW557 := n3_; have GE557 := n4_; have NB556_557 := n5_; have NB557_556 := n6_; clear n0_ n1_ n2_ n3_ n4_ n5_ n6_; clear hb hbox hg))
 have n0_ := Aside0.mk (blk_drew BK556.out)
 have n1_ := Aside0.mk (blk_drew BK557.out)
 have n2_ := Aside0.mk (below_drew1 HB.out)
 clear BK556
 clear BK557
 clear HB
 have BK556 := n0_
 have BK557 := n1_
 have HB := n2_
 clear n0_ n1_ n2_
 refine start_ (n := 7) (S := fun w' => w'.cell? ⟨gb557, 0, none⟩ = some (.bool a2_0) ∧ w'.cell? ⟨gb557, 1, none⟩ = some (.slice A2_1 l2_1.length c2_1) ∧ w'.cell? ⟨gb557, 2, none⟩ = some (.string a2_2)) (ds := []) #[false, false, false, false, false, false, false] (by kernel_rfl) rfl rfl ⟨(blk_cell BK557.out 0).trans rfl, (blk_cell BK557.out 1).trans rfl, (blk_cell BK557.out 2).trans rfl⟩ (fun hHeld => ?_)
 generalize w100.drew = w101 at BK556 BK557 HB hHeld ⊢
 refine pure_ (i := 0) (N := some 12) (v := ?_) (a' := ?_) #[true, false, false, false, false, false, false] rfl rfl (by kernel_rfl) (fun _ _ _ h => h) (Or.inl ⟨by rfl, ?_⟩) ?_ ?_
 rotate_left
 ·intro w'
  go_simp
  with_reducible rfl
 rotate_left
 ·simp only [Act.put, List.setIfInBounds_toArray, List.set_cons_zero, List.set_cons_succ, i64_w, i32_w]
  rfl
 refine take_ (i := 2) (N := some 14) (v := ?_) (a' := ?_) #[true, false, true, false, false, false, false] rfl rfl (by kernel_rfl) (fun _ _ _ h => h) (Or.inl ⟨by rfl, ?_⟩) hHeld ?_ ?_
 rotate_left
 ·rintro w' ⟨s0, s1, s2⟩
  go_simp
  with_reducible rfl
 rotate_left
 ·simp only [Act.put, List.setIfInBounds_toArray, List.set_cons_zero, List.set_cons_succ, i64_w, i32_w]
  rfl
 refine join_ (σ := Value × Value × Nat) 2 #[true, true, true, true, true, false, false] (fun s_ => [(13, s_.1), (15, .agg #[.bool t561, s_.2.1, .string t565]), (8, .pointer (some ⟨s_.2.2, 0, none⟩))]) (fun s_ w' => (w'.cell? ⟨gb557, 0, none⟩ = some (.bool a2_0) ∧ w'.cell? ⟨gb557, 1, none⟩ = some (.slice A2_1 l2_1.length c2_1) ∧ w'.cell? ⟨gb557, 2, none⟩ = some (.string a2_2)) ∧ (Kd.R k39 39 w' w.heap.size (fun _ => True) s_.1 t558) ∧ (Kd.R k23 23 w' w.heap.size (fun k_ => k_ ≠ gb556) s_.2.1 t562) ∧ (w'.heap[gb556]? = some (.cells #[.int .i64 a1_0, .int .i64 a1_1] 23 (0, 0))) ∧ (w'.heap[gb557]? = some (.cells #[.bool a2_0, .slice A2_1 l2_1.length c2_1, .string a2_2] 55 (0, 0))) ∧ (w'.heap[s_.2.2]? = some (.cells #[.bool false, .slice none 0 0, .string (⟨#[]⟩ : ByteArray)] 55 (0, 0))) ∧ (w.heap.size ≤ s_.2.2) ∧ (w.heap.size ≤ s_.2.2) ∧ (gb556 ≠ s_.2.2) ∧ (s_.2.2 ≠ gb556) ∧ (gb557 ≠ s_.2.2) ∧ (s_.2.2 ≠ gb557) ∧ (Below w.heap.size w w')) ?_ ?_
 rotate_left
 ·intro hCont
  refine two_ (i := 1) (j := 4) (Ni := some 13) (Nj := some 8) #[true, true, true, false, false, false, false] #[true, false, true, false, true, false, false] rfl rfl rfl rfl (by kernel_rfl) (by decide) (by decide) (fun K hK => ?_) (fun K hK => ?_)
  ·skip
   refine goes_ Try.func15 (by kernel_rfl) rfl #[.slice A0 l0.length c0] (by rfl) rfl rfl (by (try simp only [List.map_toArray, List.map_cons, List.map_nil]); first | done | rfl | (simp only [List.length_drop, List.length_take]; rfl)) ?_
   with_reducible refine (tickinglaw06_own.calls _ _ l0 t558 _ ?side1 ?side2 A4.out).mono ?_
   (case side1 => repeat (first | exact (Kd.C_below HR0.out HB.out) | (with_reducible refine Kd.C_alloc ?_ _) | (with_reducible refine Kd.C_drewN ?_ _) | (with_reducible refine Kd.C_drew ?_)))
   (case side2 => exact HC0.out)
   rintro e w102 ⟨v559, rfl, ho0, hb⟩
   refine ⟨_, rfl, ?_⟩
   have n0_ := Aside0.mk (Kd.R_lower ho0 (below_size (by repeat (first | (with_reducible first | exact HB.out | apply below_alloc | apply pw_below_drewN | apply below_drew1 | refine below_set ?_ GE556.out | refine below_set ?_ GE557.out) | exact HB.out))))
   have n1_ := Aside0.mk (blk_below (g := gb556) (o := .cells #[.int .i64 a1_0, .int .i64 a1_1] 23 (0, 0)) (by (with_reducible repeat (first | refine blk_drewN ?_ _ | refine blk_drew ?_ | refine blk_alloc ?_ _)); exact BK556.out) hb)
   have n2_ := Aside0.mk (blk_below (g := gb557) (o := .cells #[.bool a2_0, .slice A2_1 l2_1.length c2_1, .string a2_2] 55 (0, 0)) (by (with_reducible repeat (first | refine blk_drewN ?_ _ | refine blk_drew ?_ | refine blk_alloc ?_ _)); exact BK557.out) hb)
   have n3_ := Aside0.mk (below_step (by repeat (first | (with_reducible first | exact HB.out | apply below_alloc | apply pw_below_drewN | apply below_drew1 | refine below_set ?_ GE556.out | refine below_set ?_ GE557.out) | exact HB.out)) hb)
   clear BK556
   clear BK557
   clear HB
   have HO560 := n0_
   have BK556 := n1_
   have BK557 := n2_
   have HB := n3_
   clear n0_ n1_ n2_ n3_
   (try clear hb)
   (try clear hb2)
   (try clear hk)
   (try clear hi)
   (try clear ho0)
   refine hK.out _ _ ⟨(blk_cell BK557.out 0).trans rfl, (blk_cell BK557.out 1).trans rfl, (blk_cell BK557.out 2).trans rfl⟩ (fun hHeld => ?_)
   clear hK K
   refine norm_ (a' := ?_) ?_ ?_
   rotate_left
   ·show Act.put _ (some 13) _ = _
    simp only [Act.put, List.setIfInBounds_toArray, List.set_cons_zero, List.set_cons_succ, i64_w, i32_w]
    rfl
   refine two_ (i := 3) (j := 4) (Ni := some 15) (Nj := some 8) #[true, true, true, true, false, false, false] #[true, true, true, false, true, false, false] rfl rfl rfl rfl (by kernel_rfl) (by decide) (by decide) (fun K hK => ?_) (fun K hK => ?_)
   ·skip
    refine goes_ Try.func36 (by kernel_rfl) rfl #[.agg #[.bool a2_0, .slice A2_1 l2_1.length c2_1, .string a2_2]] (by rfl) rfl rfl (by (try simp only [List.map_toArray, List.map_cons, List.map_nil]); first | done | rfl | (simp only [List.length_drop, List.length_take]; rfl)) ?_
    with_reducible refine (tickinglaw06_finding.calls a2_0 _ _ l2_1 a2_2 t561 t562 t565 _ ?side1 ?side2 A5.out).mono ?_
    (case side1 => repeat (first | exact (Kd.C_below HR2_1.out HB.out) | (with_reducible refine Kd.C_alloc ?_ _) | (with_reducible refine Kd.C_drewN ?_ _) | (with_reducible refine Kd.C_drew ?_)))
    (case side2 => exact HC2_1.out)
    rintro e w103 ⟨v563, rfl, ho0, hb⟩
    refine ⟨_, rfl, ?_⟩
    have n0_ := Aside0.mk (Kd.R_below (by (with_reducible repeat (first | apply Kd.R_alloc | apply Kd.R_drewN | apply Kd.R_drew)); exact HO560.out) hb)
    have n1_ := Aside0.mk (Kd.R_lower (Kd.R_newB ho0 (g := gb556) (o := .cells #[.int .i64 a1_0, .int .i64 a1_1] 23 (0, 0)) (by (with_reducible repeat (first | refine blk_drewN ?_ _ | refine blk_drew ?_ | refine blk_alloc ?_ _)); exact BK556.out)) (below_size (by repeat (first | (with_reducible first | exact HB.out | apply below_alloc | apply pw_below_drewN | apply below_drew1 | refine below_set ?_ GE556.out | refine below_set ?_ GE557.out) | exact HB.out))))
    have n2_ := Aside0.mk (blk_below (g := gb556) (o := .cells #[.int .i64 a1_0, .int .i64 a1_1] 23 (0, 0)) (by (with_reducible repeat (first | refine blk_drewN ?_ _ | refine blk_drew ?_ | refine blk_alloc ?_ _)); exact BK556.out) hb)
    have n3_ := Aside0.mk (blk_below (g := gb557) (o := .cells #[.bool a2_0, .slice A2_1 l2_1.length c2_1, .string a2_2] 55 (0, 0)) (by (with_reducible repeat (first | refine blk_drewN ?_ _ | refine blk_drew ?_ | refine blk_alloc ?_ _)); exact BK557.out) hb)
    have n4_ := Aside0.mk (below_step (by repeat (first | (with_reducible first | exact HB.out | apply below_alloc | apply pw_below_drewN | apply below_drew1 | refine below_set ?_ GE556.out | refine below_set ?_ GE557.out) | exact HB.out)) hb)
    clear HO560
    clear BK556
    clear BK557
    clear HB
    have HO560 := n0_
    have HO564 := n1_
    have BK556 := n2_
    have BK557 := n3_
    have HB := n4_
    clear n0_ n1_ n2_ n3_ n4_
    (try clear hb)
    (try clear hb2)
    (try clear hk)
    (try clear hi)
    (try clear ho0)
    refine hK.out _ _ ⟨(blk_cell BK557.out 0).trans rfl, (blk_cell BK557.out 1).trans rfl, (blk_cell BK557.out 2).trans rfl⟩ (fun hHeld => ?_)
    clear hK K
    refine norm_ (a' := ?_) ?_ ?_
    rotate_left
    ·show Act.put _ (some 15) _ = _
     simp only [Act.put, List.setIfInBounds_toArray, List.set_cons_zero, List.set_cons_succ, i64_w, i32_w]
     rfl
    refine one_ (i := 4) (N := some 8) #[true, true, true, true, true, false, false] rfl rfl (by kernel_rfl) (by decide) (fun K hK => ?_)
    refine box_step ?hg (N := 8) ?hd (cs := #[.bool false, .slice none 0 0, .string (⟨#[]⟩ : ByteArray)]) (t := 55) ?hr ?_; (case hd => rfl); (case hg => rfl); (case hr => first | (go_simp; done) | (go_simp; rfl))
    intro gb566 hg w104 hbox hb
    have n0_ := Aside0.mk (Kd.R_below (by (with_reducible repeat (first | apply Kd.R_alloc | apply Kd.R_drewN | apply Kd.R_drew)); exact HO560.out) hb)
    have n1_ := Aside0.mk (Kd.R_below (by (with_reducible repeat (first | apply Kd.R_alloc | apply Kd.R_drewN | apply Kd.R_drew)); exact HO564.out) hb)
    have n2_ := Aside0.mk (blk_below (g := gb556) (o := .cells #[.int .i64 a1_0, .int .i64 a1_1] 23 (0, 0)) (by (with_reducible repeat (first | refine blk_drewN ?_ _ | refine blk_drew ?_ | refine blk_alloc ?_ _)); exact BK556.out) hb)
    have n3_ := Aside0.mk (blk_below (g := gb557) (o := .cells #[.bool a2_0, .slice A2_1 l2_1.length c2_1, .string a2_2] 55 (0, 0)) (by (with_reducible repeat (first | refine blk_drewN ?_ _ | refine blk_drew ?_ | refine blk_alloc ?_ _)); exact BK557.out) hb)
    have n4_ := Aside0.mk (below_step (by repeat (first | (with_reducible first | exact HB.out | apply below_alloc | apply pw_below_drewN | apply below_drew1 | refine below_set ?_ GE556.out | refine below_set ?_ GE557.out) | exact HB.out)) hb)
    have n5_ := Aside0.mk (hbox)
    have n6_ := Aside0.mk ((by rw [hg]; exact (below_size (by repeat (first | (with_reducible first | exact HB.out | apply below_alloc | apply pw_below_drewN | apply below_drew1 | refine below_set ?_ GE556.out | refine below_set ?_ GE557.out) | exact HB.out))) : w.heap.size ≤ gb566))
    have n7_ := Aside0.mk ((by rw [hg]; exact (below_size (by repeat (first | (with_reducible first | exact HB.out | apply below_alloc | apply pw_below_drewN | apply below_drew1 | refine below_set ?_ GE556.out | refine below_set ?_ GE557.out) | exact HB.out))) : w.heap.size ≤ gb566))
    have n8_ := Aside0.mk ((by rw [hg]; exact Nat.ne_of_lt (blk_lt (g := gb556) (o := .cells #[.int .i64 a1_0, .int .i64 a1_1] 23 (0, 0)) (by (with_reducible repeat (first | refine blk_drewN ?_ _ | refine blk_drew ?_ | refine blk_alloc ?_ _)); exact BK556.out)) : gb556 ≠ gb566))
    have n9_ := Aside0.mk ((by rw [hg]; exact Nat.ne_of_gt (blk_lt (g := gb556) (o := .cells #[.int .i64 a1_0, .int .i64 a1_1] 23 (0, 0)) (by (with_reducible repeat (first | refine blk_drewN ?_ _ | refine blk_drew ?_ | refine blk_alloc ?_ _)); exact BK556.out)) : gb566 ≠ gb556))
    have n10_ := Aside0.mk ((by rw [hg]; exact Nat.ne_of_lt (blk_lt (g := gb557) (o := .cells #[.bool a2_0, .slice A2_1 l2_1.length c2_1, .string a2_2] 55 (0, 0)) (by (with_reducible repeat (first | refine blk_drewN ?_ _ | refine blk_drew ?_ | refine blk_alloc ?_ _)); exact BK557.out)) : gb557 ≠ gb566))
    have n11_ := Aside0.mk ((by rw [hg]; exact Nat.ne_of_gt (blk_lt (g := gb557) (o := .cells #[.bool a2_0, .slice A2_1 l2_1.length c2_1, .string a2_2] 55 (0, 0)) (by (with_reducible repeat (first | refine blk_drewN ?_ _ | refine blk_drew ?_ | refine blk_alloc ?_ _)); exact BK557.out)) : gb566 ≠ gb557))
    clear HO560
    clear HO564
    clear BK556
    clear BK557
    clear HB
    have HO560 := n0_
    have HO564 := n1_
    have BK556 := n2_
    have BK557 := n3_
    have HB := n4_
    have BK566 := n5_
    have GW566 := n6_
    have GE566 := n7_
    have NB556_566 := n8_
    have NB566_556 := n9_
    have NB557_566 := n10_
    have NB566_557 := n11_
    clear n0_ n1_ n2_ n3_ n4_ n5_ n6_ n7_ n8_ n9_ n10_ n11_
    clear hb hbox hg
    refine hK.out _ _ ⟨(blk_cell BK557.out 0).trans rfl, (blk_cell BK557.out 1).trans rfl, (blk_cell BK557.out 2).trans rfl⟩ (fun hHeld => ?_)
    clear hK K
    refine norm_ (a' := ?_) ?_ ?_
    rotate_left
    ·show Act.put _ (some 8) _ = _
     simp only [Act.put, List.setIfInBounds_toArray, List.set_cons_zero, List.set_cons_succ, i64_w, i32_w]
     rfl
    exact norm_ (by simp only [putAll, Act.put, List.setIfInBounds_toArray, List.set_cons_zero, List.set_cons_succ]) (hCont (v559, v563, gb566) _ ⟨hHeld, (by (with_reducible repeat (first | apply Kd.R_alloc | apply Kd.R_drewN | apply Kd.R_drew)); exact HO560.out), (by (with_reducible repeat (first | apply Kd.R_alloc | apply Kd.R_drewN | apply Kd.R_drew)); exact Kd.R_mono HO564.out (fun _ hk => hk.2)), (by (with_reducible repeat (first | refine blk_drewN ?_ _ | refine blk_drew ?_ | refine blk_alloc ?_ _)); exact BK556.out), (by (with_reducible repeat (first | refine blk_drewN ?_ _ | refine blk_drew ?_ | refine blk_alloc ?_ _)); exact BK557.out), (by (with_reducible repeat (first | refine blk_drewN ?_ _ | refine blk_drew ?_ | refine blk_alloc ?_ _)); exact BK566.out), GW566.out, GE566.out, NB556_566.out, NB566_556.out, NB557_566.out, NB566_557.out, (by repeat (first | (with_reducible first | exact HB.out | apply below_alloc | apply pw_below_drewN | apply below_drew1 | refine below_set ?_ GE556.out | refine below_set ?_ GE557.out | refine below_set ?_ GE566.out) | exact HB.out))⟩)
   skip
   refine box_step ?hg (N := 8) ?hd (cs := #[.bool false, .slice none 0 0, .string (⟨#[]⟩ : ByteArray)]) (t := 55) ?hr ?_; (case hd => rfl); (case hg => rfl); (case hr => first | (go_simp; done) | (go_simp; rfl))
   intro gb566 hg w103 hbox hb
   have n0_ := Aside0.mk (Kd.R_below (by (with_reducible repeat (first | apply Kd.R_alloc | apply Kd.R_drewN | apply Kd.R_drew)); exact HO560.out) hb)
   have n1_ := Aside0.mk (blk_below (g := gb556) (o := .cells #[.int .i64 a1_0, .int .i64 a1_1] 23 (0, 0)) (by (with_reducible repeat (first | refine blk_drewN ?_ _ | refine blk_drew ?_ | refine blk_alloc ?_ _)); exact BK556.out) hb)
   have n2_ := Aside0.mk (blk_below (g := gb557) (o := .cells #[.bool a2_0, .slice A2_1 l2_1.length c2_1, .string a2_2] 55 (0, 0)) (by (with_reducible repeat (first | refine blk_drewN ?_ _ | refine blk_drew ?_ | refine blk_alloc ?_ _)); exact BK557.out) hb)
   have n3_ := Aside0.mk (below_step (by repeat (first | (with_reducible first | exact HB.out | apply below_alloc | apply pw_below_drewN | apply below_drew1 | refine below_set ?_ GE556.out | refine below_set ?_ GE557.out) | exact HB.out)) hb)
   have n4_ := Aside0.mk (hbox)
   have n5_ := Aside0.mk ((by rw [hg]; exact (below_size (by repeat (first | (with_reducible first | exact HB.out | apply below_alloc | apply pw_below_drewN | apply below_drew1 | refine below_set ?_ GE556.out | refine below_set ?_ GE557.out) | exact HB.out))) : w.heap.size ≤ gb566))
   have n6_ := Aside0.mk ((by rw [hg]; exact (below_size (by repeat (first | (with_reducible first | exact HB.out | apply below_alloc | apply pw_below_drewN | apply below_drew1 | refine below_set ?_ GE556.out | refine below_set ?_ GE557.out) | exact HB.out))) : w.heap.size ≤ gb566))
   have n7_ := Aside0.mk ((by rw [hg]; exact Nat.ne_of_lt (blk_lt (g := gb556) (o := .cells #[.int .i64 a1_0, .int .i64 a1_1] 23 (0, 0)) (by (with_reducible repeat (first | refine blk_drewN ?_ _ | refine blk_drew ?_ | refine blk_alloc ?_ _)); exact BK556.out)) : gb556 ≠ gb566))
   have n8_ := Aside0.mk ((by rw [hg]; exact Nat.ne_of_gt (blk_lt (g := gb556) (o := .cells #[.int .i64 a1_0, .int .i64 a1_1] 23 (0, 0)) (by (with_reducible repeat (first | refine blk_drewN ?_ _ | refine blk_drew ?_ | refine blk_alloc ?_ _)); exact BK556.out)) : gb566 ≠ gb556))
   have n9_ := Aside0.mk ((by rw [hg]; exact Nat.ne_of_lt (blk_lt (g := gb557) (o := .cells #[.bool a2_0, .slice A2_1 l2_1.length c2_1, .string a2_2] 55 (0, 0)) (by (with_reducible repeat (first | refine blk_drewN ?_ _ | refine blk_drew ?_ | refine blk_alloc ?_ _)); exact BK557.out)) : gb557 ≠ gb566))
   have n10_ := Aside0.mk ((by rw [hg]; exact Nat.ne_of_gt (blk_lt (g := gb557) (o := .cells #[.bool a2_0, .slice A2_1 l2_1.length c2_1, .string a2_2] 55 (0, 0)) (by (with_reducible repeat (first | refine blk_drewN ?_ _ | refine blk_drew ?_ | refine blk_alloc ?_ _)); exact BK557.out)) : gb566 ≠ gb557))
   clear HO560
   clear BK556
   clear BK557
   clear HB
   have HO560 := n0_
   have BK556 := n1_
   have BK557 := n2_
   have HB := n3_
   have BK566 := n4_
   have GW566 := n5_
   have GE566 := n6_
   have NB556_566 := n7_
   have NB566_556 := n8_
   have NB557_566 := n9_
   have NB566_557 := n10_
   clear n0_ n1_ n2_ n3_ n4_ n5_ n6_ n7_ n8_ n9_ n10_
   clear hb hbox hg
   refine hK.out _ _ ⟨(blk_cell BK557.out 0).trans rfl, (blk_cell BK557.out 1).trans rfl, (blk_cell BK557.out 2).trans rfl⟩ (fun hHeld => ?_)
   clear hK K
   refine norm_ (a' := ?_) ?_ ?_
   rotate_left
   ·show Act.put _ (some 8) _ = _
    simp only [Act.put, List.setIfInBounds_toArray, List.set_cons_zero, List.set_cons_succ, i64_w, i32_w]
    rfl
   refine one_ (i := 3) (N := some 15) #[true, true, true, true, true, false, false] rfl rfl (by kernel_rfl) (by decide) (fun K hK => ?_)
   refine goes_ Try.func36 (by kernel_rfl) rfl #[.agg #[.bool a2_0, .slice A2_1 l2_1.length c2_1, .string a2_2]] (by rfl) rfl rfl (by (try simp only [List.map_toArray, List.map_cons, List.map_nil]); first | done | rfl | (simp only [List.length_drop, List.length_take]; rfl)) ?_
   with_reducible refine (tickinglaw06_finding.calls a2_0 _ _ l2_1 a2_2 t561 t562 t565 _ ?side1 ?side2 A5.out).mono ?_
   (case side1 => repeat (first | exact (Kd.C_below HR2_1.out HB.out) | (with_reducible refine Kd.C_alloc ?_ _) | (with_reducible refine Kd.C_drewN ?_ _) | (with_reducible refine Kd.C_drew ?_)))
   (case side2 => exact HC2_1.out)
   rintro e w104 ⟨v563, rfl, ho0, hb⟩
   refine ⟨_, rfl, ?_⟩
   have n0_ := Aside0.mk (Kd.R_below (by (with_reducible repeat (first | apply Kd.R_alloc | apply Kd.R_drewN | apply Kd.R_drew)); exact HO560.out) hb)
   have n1_ := Aside0.mk (Kd.R_lower (Kd.R_newB ho0 (g := gb556) (o := .cells #[.int .i64 a1_0, .int .i64 a1_1] 23 (0, 0)) (by (with_reducible repeat (first | refine blk_drewN ?_ _ | refine blk_drew ?_ | refine blk_alloc ?_ _)); exact BK556.out)) (below_size (by repeat (first | (with_reducible first | exact HB.out | apply below_alloc | apply pw_below_drewN | apply below_drew1 | refine below_set ?_ GE556.out | refine below_set ?_ GE557.out | refine below_set ?_ GE566.out) | exact HB.out))))
   have n2_ := Aside0.mk (blk_below (g := gb556) (o := .cells #[.int .i64 a1_0, .int .i64 a1_1] 23 (0, 0)) (by (with_reducible repeat (first | refine blk_drewN ?_ _ | refine blk_drew ?_ | refine blk_alloc ?_ _)); exact BK556.out) hb)
   have n3_ := Aside0.mk (blk_below (g := gb557) (o := .cells #[.bool a2_0, .slice A2_1 l2_1.length c2_1, .string a2_2] 55 (0, 0)) (by (with_reducible repeat (first | refine blk_drewN ?_ _ | refine blk_drew ?_ | refine blk_alloc ?_ _)); exact BK557.out) hb)
   have n4_ := Aside0.mk (blk_below (g := gb566) (o := .cells #[.bool false, .slice none 0 0, .string (⟨#[]⟩ : ByteArray)] 55 (0, 0)) (by (with_reducible repeat (first | refine blk_drewN ?_ _ | refine blk_drew ?_ | refine blk_alloc ?_ _)); exact BK566.out) hb)
   have n5_ := Aside0.mk (below_step (by repeat (first | (with_reducible first | exact HB.out | apply below_alloc | apply pw_below_drewN | apply below_drew1 | refine below_set ?_ GE556.out | refine below_set ?_ GE557.out | refine below_set ?_ GE566.out) | exact HB.out)) hb)
   clear HO560
   clear BK556
   clear BK557
   clear BK566
   clear HB
   have HO560 := n0_
   have HO564 := n1_
   have BK556 := n2_
   have BK557 := n3_
   have BK566 := n4_
   have HB := n5_
   clear n0_ n1_ n2_ n3_ n4_ n5_
   (try clear hb)
   (try clear hb2)
   (try clear hk)
   (try clear hi)
   (try clear ho0)
   refine hK.out _ _ ⟨(blk_cell BK557.out 0).trans rfl, (blk_cell BK557.out 1).trans rfl, (blk_cell BK557.out 2).trans rfl⟩ (fun hHeld => ?_)
   clear hK K
   refine norm_ (a' := ?_) ?_ ?_
   rotate_left
   ·show Act.put _ (some 15) _ = _
    simp only [Act.put, List.setIfInBounds_toArray, List.set_cons_zero, List.set_cons_succ, i64_w, i32_w]
    rfl
   exact norm_ (by simp only [putAll, Act.put, List.setIfInBounds_toArray, List.set_cons_zero, List.set_cons_succ]) (hCont (v559, v563, gb566) _ ⟨hHeld, (by (with_reducible repeat (first | apply Kd.R_alloc | apply Kd.R_drewN | apply Kd.R_drew)); exact HO560.out), (by (with_reducible repeat (first | apply Kd.R_alloc | apply Kd.R_drewN | apply Kd.R_drew)); exact Kd.R_mono HO564.out (fun _ hk => hk.2)), (by (with_reducible repeat (first | refine blk_drewN ?_ _ | refine blk_drew ?_ | refine blk_alloc ?_ _)); exact BK556.out), (by (with_reducible repeat (first | refine blk_drewN ?_ _ | refine blk_drew ?_ | refine blk_alloc ?_ _)); exact BK557.out), (by (with_reducible repeat (first | refine blk_drewN ?_ _ | refine blk_drew ?_ | refine blk_alloc ?_ _)); exact BK566.out), GW566.out, GE566.out, NB556_566.out, NB566_556.out, NB557_566.out, NB566_557.out, (by repeat (first | (with_reducible first | exact HB.out | apply below_alloc | apply pw_below_drewN | apply below_drew1 | refine below_set ?_ GE556.out | refine below_set ?_ GE557.out | refine below_set ?_ GE566.out) | exact HB.out))⟩)
  skip
  refine box_step ?hg (N := 8) ?hd (cs := #[.bool false, .slice none 0 0, .string (⟨#[]⟩ : ByteArray)]) (t := 55) ?hr ?_; (case hd => rfl); (case hg => rfl); (case hr => first | (go_simp; done) | (go_simp; rfl))
  intro gb566 hg w102 hbox hb
  have n0_ := Aside0.mk (blk_below (g := gb556) (o := .cells #[.int .i64 a1_0, .int .i64 a1_1] 23 (0, 0)) (by (with_reducible repeat (first | refine blk_drewN ?_ _ | refine blk_drew ?_ | refine blk_alloc ?_ _)); exact BK556.out) hb)
  have n1_ := Aside0.mk (blk_below (g := gb557) (o := .cells #[.bool a2_0, .slice A2_1 l2_1.length c2_1, .string a2_2] 55 (0, 0)) (by (with_reducible repeat (first | refine blk_drewN ?_ _ | refine blk_drew ?_ | refine blk_alloc ?_ _)); exact BK557.out) hb)
  have n2_ := Aside0.mk (below_step (by repeat (first | (with_reducible first | exact HB.out | apply below_alloc | apply pw_below_drewN | apply below_drew1 | refine below_set ?_ GE556.out | refine below_set ?_ GE557.out) | exact HB.out)) hb)
  have n3_ := Aside0.mk (hbox)
  have n4_ := Aside0.mk ((by rw [hg]; exact (below_size (by repeat (first | (with_reducible first | exact HB.out | apply below_alloc | apply pw_below_drewN | apply below_drew1 | refine below_set ?_ GE556.out | refine below_set ?_ GE557.out) | exact HB.out))) : w.heap.size ≤ gb566))
  have n5_ := Aside0.mk ((by rw [hg]; exact (below_size (by repeat (first | (with_reducible first | exact HB.out | apply below_alloc | apply pw_below_drewN | apply below_drew1 | refine below_set ?_ GE556.out | refine below_set ?_ GE557.out) | exact HB.out))) : w.heap.size ≤ gb566))
  have n6_ := Aside0.mk ((by rw [hg]; exact Nat.ne_of_lt (blk_lt (g := gb556) (o := .cells #[.int .i64 a1_0, .int .i64 a1_1] 23 (0, 0)) (by (with_reducible repeat (first | refine blk_drewN ?_ _ | refine blk_drew ?_ | refine blk_alloc ?_ _)); exact BK556.out)) : gb556 ≠ gb566))
  have n7_ := Aside0.mk ((by rw [hg]; exact Nat.ne_of_gt (blk_lt (g := gb556) (o := .cells #[.int .i64 a1_0, .int .i64 a1_1] 23 (0, 0)) (by (with_reducible repeat (first | refine blk_drewN ?_ _ | refine blk_drew ?_ | refine blk_alloc ?_ _)); exact BK556.out)) : gb566 ≠ gb556))
  have n8_ := Aside0.mk ((by rw [hg]; exact Nat.ne_of_lt (blk_lt (g := gb557) (o := .cells #[.bool a2_0, .slice A2_1 l2_1.length c2_1, .string a2_2] 55 (0, 0)) (by (with_reducible repeat (first | refine blk_drewN ?_ _ | refine blk_drew ?_ | refine blk_alloc ?_ _)); exact BK557.out)) : gb557 ≠ gb566))
  have n9_ := Aside0.mk ((by rw [hg]; exact Nat.ne_of_gt (blk_lt (g := gb557) (o := .cells #[.bool a2_0, .slice A2_1 l2_1.length c2_1, .string a2_2] 55 (0, 0)) (by (with_reducible repeat (first | refine blk_drewN ?_ _ | refine blk_drew ?_ | refine blk_alloc ?_ _)); exact BK557.out)) : gb566 ≠ gb557))
  clear BK556
  clear BK557
  clear HB
  have BK556 := n0_
  have BK557 := n1_
  have HB := n2_
  have BK566 := n3_
  have GW566 := n4_
  have GE566 := n5_
  have NB556_566 := n6_
  have NB566_556 := n7_
  have NB557_566 := n8_
  have NB566_557 := n9_
  clear n0_ n1_ n2_ n3_ n4_ n5_ n6_ n7_ n8_ n9_
  clear hb hbox hg
  refine hK.out _ _ ⟨(blk_cell BK557.out 0).trans rfl, (blk_cell BK557.out 1).trans rfl, (blk_cell BK557.out 2).trans rfl⟩ (fun hHeld => ?_)
  clear hK K
  refine norm_ (a' := ?_) ?_ ?_
  rotate_left
  ·show Act.put _ (some 8) _ = _
   simp only [Act.put, List.setIfInBounds_toArray, List.set_cons_zero, List.set_cons_succ, i64_w, i32_w]
   rfl
  refine one_ (i := 1) (N := some 13) #[true, true, true, false, true, false, false] rfl rfl (by kernel_rfl) (by decide) (fun K hK => ?_)
  refine goes_ Try.func15 (by kernel_rfl) rfl #[.slice A0 l0.length c0] (by rfl) rfl rfl (by (try simp only [List.map_toArray, List.map_cons, List.map_nil]); first | done | rfl | (simp only [List.length_drop, List.length_take]; rfl)) ?_
  with_reducible refine (tickinglaw06_own.calls _ _ l0 t558 _ ?side1 ?side2 A4.out).mono ?_
  (case side1 => repeat (first | exact (Kd.C_below HR0.out HB.out) | (with_reducible refine Kd.C_alloc ?_ _) | (with_reducible refine Kd.C_drewN ?_ _) | (with_reducible refine Kd.C_drew ?_)))
  (case side2 => exact HC0.out)
  rintro e w103 ⟨v559, rfl, ho0, hb⟩
  refine ⟨_, rfl, ?_⟩
  have n0_ := Aside0.mk (Kd.R_lower ho0 (below_size (by repeat (first | (with_reducible first | exact HB.out | apply below_alloc | apply pw_below_drewN | apply below_drew1 | refine below_set ?_ GE556.out | refine below_set ?_ GE557.out | refine below_set ?_ GE566.out) | exact HB.out))))
  have n1_ := Aside0.mk (blk_below (g := gb556) (o := .cells #[.int .i64 a1_0, .int .i64 a1_1] 23 (0, 0)) (by (with_reducible repeat (first | refine blk_drewN ?_ _ | refine blk_drew ?_ | refine blk_alloc ?_ _)); exact BK556.out) hb)
  have n2_ := Aside0.mk (blk_below (g := gb557) (o := .cells #[.bool a2_0, .slice A2_1 l2_1.length c2_1, .string a2_2] 55 (0, 0)) (by (with_reducible repeat (first | refine blk_drewN ?_ _ | refine blk_drew ?_ | refine blk_alloc ?_ _)); exact BK557.out) hb)
  have n3_ := Aside0.mk (blk_below (g := gb566) (o := .cells #[.bool false, .slice none 0 0, .string (⟨#[]⟩ : ByteArray)] 55 (0, 0)) (by (with_reducible repeat (first | refine blk_drewN ?_ _ | refine blk_drew ?_ | refine blk_alloc ?_ _)); exact BK566.out) hb)
  have n4_ := Aside0.mk (below_step (by repeat (first | (with_reducible first | exact HB.out | apply below_alloc | apply pw_below_drewN | apply below_drew1 | refine below_set ?_ GE556.out | refine below_set ?_ GE557.out | refine below_set ?_ GE566.out) | exact HB.out)) hb)
  clear BK556
  clear BK557
  clear BK566
  clear HB
  have HO560 := n0_
  have BK556 := n1_
  have BK557 := n2_
  have BK566 := n3_
  have HB := n4_
  clear n0_ n1_ n2_ n3_ n4_
  (try clear hb)
  (try clear hb2)
  (try clear hk)
  (try clear hi)
  (try clear ho0)
  refine hK.out _ _ ⟨(blk_cell BK557.out 0).trans rfl, (blk_cell BK557.out 1).trans rfl, (blk_cell BK557.out 2).trans rfl⟩ (fun hHeld => ?_)
  clear hK K
  refine norm_ (a' := ?_) ?_ ?_
  rotate_left
  ·show Act.put _ (some 13) _ = _
   simp only [Act.put, List.setIfInBounds_toArray, List.set_cons_zero, List.set_cons_succ, i64_w, i32_w]
   rfl
  refine one_ (i := 3) (N := some 15) #[true, true, true, true, true, false, false] rfl rfl (by kernel_rfl) (by decide) (fun K hK => ?_)
  refine goes_ Try.func36 (by kernel_rfl) rfl #[.agg #[.bool a2_0, .slice A2_1 l2_1.length c2_1, .string a2_2]] (by rfl) rfl rfl (by (try simp only [List.map_toArray, List.map_cons, List.map_nil]); first | done | rfl | (simp only [List.length_drop, List.length_take]; rfl)) ?_
  with_reducible refine (tickinglaw06_finding.calls a2_0 _ _ l2_1 a2_2 t561 t562 t565 _ ?side1 ?side2 A5.out).mono ?_
  (case side1 => repeat (first | exact (Kd.C_below HR2_1.out HB.out) | (with_reducible refine Kd.C_alloc ?_ _) | (with_reducible refine Kd.C_drewN ?_ _) | (with_reducible refine Kd.C_drew ?_)))
  (case side2 => exact HC2_1.out)
  rintro e w104 ⟨v563, rfl, ho0, hb⟩
  refine ⟨_, rfl, ?_⟩
  have n0_ := Aside0.mk (Kd.R_below (by (with_reducible repeat (first | apply Kd.R_alloc | apply Kd.R_drewN | apply Kd.R_drew)); exact HO560.out) hb)
  have n1_ := Aside0.mk (Kd.R_lower (Kd.R_newB ho0 (g := gb556) (o := .cells #[.int .i64 a1_0, .int .i64 a1_1] 23 (0, 0)) (by (with_reducible repeat (first | refine blk_drewN ?_ _ | refine blk_drew ?_ | refine blk_alloc ?_ _)); exact BK556.out)) (below_size (by repeat (first | (with_reducible first | exact HB.out | apply below_alloc | apply pw_below_drewN | apply below_drew1 | refine below_set ?_ GE556.out | refine below_set ?_ GE557.out | refine below_set ?_ GE566.out) | exact HB.out))))
  have n2_ := Aside0.mk (blk_below (g := gb556) (o := .cells #[.int .i64 a1_0, .int .i64 a1_1] 23 (0, 0)) (by (with_reducible repeat (first | refine blk_drewN ?_ _ | refine blk_drew ?_ | refine blk_alloc ?_ _)); exact BK556.out) hb)
  have n3_ := Aside0.mk (blk_below (g := gb557) (o := .cells #[.bool a2_0, .slice A2_1 l2_1.length c2_1, .string a2_2] 55 (0, 0)) (by (with_reducible repeat (first | refine blk_drewN ?_ _ | refine blk_drew ?_ | refine blk_alloc ?_ _)); exact BK557.out) hb)
  have n4_ := Aside0.mk (blk_below (g := gb566) (o := .cells #[.bool false, .slice none 0 0, .string (⟨#[]⟩ : ByteArray)] 55 (0, 0)) (by (with_reducible repeat (first | refine blk_drewN ?_ _ | refine blk_drew ?_ | refine blk_alloc ?_ _)); exact BK566.out) hb)
  have n5_ := Aside0.mk (below_step (by repeat (first | (with_reducible first | exact HB.out | apply below_alloc | apply pw_below_drewN | apply below_drew1 | refine below_set ?_ GE556.out | refine below_set ?_ GE557.out | refine below_set ?_ GE566.out) | exact HB.out)) hb)
  clear HO560
  clear BK556
  clear BK557
  clear BK566
  clear HB
  have HO560 := n0_
  have HO564 := n1_
  have BK556 := n2_
  have BK557 := n3_
  have BK566 := n4_
  have HB := n5_
  clear n0_ n1_ n2_ n3_ n4_ n5_
  (try clear hb)
  (try clear hb2)
  (try clear hk)
  (try clear hi)
  (try clear ho0)
  refine hK.out _ _ ⟨(blk_cell BK557.out 0).trans rfl, (blk_cell BK557.out 1).trans rfl, (blk_cell BK557.out 2).trans rfl⟩ (fun hHeld => ?_)
  clear hK K
  refine norm_ (a' := ?_) ?_ ?_
  rotate_left
  ·show Act.put _ (some 15) _ = _
   simp only [Act.put, List.setIfInBounds_toArray, List.set_cons_zero, List.set_cons_succ, i64_w, i32_w]
   rfl
  exact norm_ (by simp only [putAll, Act.put, List.setIfInBounds_toArray, List.set_cons_zero, List.set_cons_succ]) (hCont (v559, v563, gb566) _ ⟨hHeld, (by (with_reducible repeat (first | apply Kd.R_alloc | apply Kd.R_drewN | apply Kd.R_drew)); exact HO560.out), (by (with_reducible repeat (first | apply Kd.R_alloc | apply Kd.R_drewN | apply Kd.R_drew)); exact Kd.R_mono HO564.out (fun _ hk => hk.2)), (by (with_reducible repeat (first | refine blk_drewN ?_ _ | refine blk_drew ?_ | refine blk_alloc ?_ _)); exact BK556.out), (by (with_reducible repeat (first | refine blk_drewN ?_ _ | refine blk_drew ?_ | refine blk_alloc ?_ _)); exact BK557.out), (by (with_reducible repeat (first | refine blk_drewN ?_ _ | refine blk_drew ?_ | refine blk_alloc ?_ _)); exact BK566.out), GW566.out, GE566.out, NB556_566.out, NB566_556.out, NB557_566.out, NB566_557.out, (by repeat (first | (with_reducible first | exact HB.out | apply below_alloc | apply pw_below_drewN | apply below_drew1 | refine below_set ?_ GE556.out | refine below_set ?_ GE557.out | refine below_set ?_ GE566.out) | exact HB.out))⟩)
 rintro ⟨v559, v563, gb566⟩ w105 ⟨hS_, h0_, h1_, h2_, h3_, h4_, h5_, h6_, h7_, h8_, h9_, h10_, h11_⟩
 have n0_ : Aside0 (Kd.R k39 39 w105 w.heap.size (fun _ => True) v559 t558) := ⟨h0_⟩
 have n1_ : Aside0 (Kd.R k23 23 w105 w.heap.size (fun k_ => k_ ≠ gb556) v563 t562) := ⟨h1_⟩
 have n2_ : Aside0 (w105.heap[gb556]? = some (.cells #[.int .i64 a1_0, .int .i64 a1_1] 23 (0, 0))) := ⟨h2_⟩
 have n3_ : Aside0 (w105.heap[gb557]? = some (.cells #[.bool a2_0, .slice A2_1 l2_1.length c2_1, .string a2_2] 55 (0, 0))) := ⟨h3_⟩
 have n4_ : Aside0 (w105.heap[gb566]? = some (.cells #[.bool false, .slice none 0 0, .string (⟨#[]⟩ : ByteArray)] 55 (0, 0))) := ⟨h4_⟩
 have n5_ : Aside0 (w.heap.size ≤ gb566) := ⟨h5_⟩
 have n6_ : Aside0 (w.heap.size ≤ gb566) := ⟨h6_⟩
 have n7_ : Aside0 (gb556 ≠ gb566) := ⟨h7_⟩
 have n8_ : Aside0 (gb566 ≠ gb556) := ⟨h8_⟩
 have n9_ : Aside0 (gb557 ≠ gb566) := ⟨h9_⟩
 have n10_ : Aside0 (gb566 ≠ gb557) := ⟨h10_⟩
 have n11_ : Aside0 (Below w.heap.size w w105) := ⟨h11_⟩
 clear BK556
 clear BK557
 clear HB
 clear h0_ h1_ h2_ h3_ h4_ h5_ h6_ h7_ h8_ h9_ h10_ h11_
 have HO560 := n0_
 have HO564 := n1_
 have BK556 := n2_
 have BK557 := n3_
 have BK566 := n4_
 have GW566 := n5_
 have GE566 := n6_
 have NB556_566 := n7_
 have NB566_556 := n8_
 have NB557_566 := n9_
 have NB566_557 := n10_
 have HB := n11_
 clear n0_ n1_ n2_ n3_ n4_ n5_ n6_ n7_ n8_ n9_ n10_ n11_
 have hHeld : w105.cell? ⟨gb557, 0, none⟩ = some (.bool a2_0) ∧ w105.cell? ⟨gb557, 1, none⟩ = some (.slice A2_1 l2_1.length c2_1) ∧ w105.cell? ⟨gb557, 2, none⟩ = some (.string a2_2) := hS_
 obtain ⟨Ao107, co107, eo107⟩ := Kd.R_slice HO564.out
 (first | subst eo107 | (injection eo107 with f1_ f2_ f3_; have f4_ := f1_.symm; have f5_ := f3_.symm; clear f1_ f2_ f3_; subst f4_; subst f5_))
 refine norm_ (a' := ?_) ?_ ?_
 rotate_left
 ·simp only [putAll, Act.put, List.setIfInBounds_toArray, List.set_cons_zero, List.set_cons_succ]
  rfl
 refine pure_ (i := 5) (N := some 7) (v := ?_) (a' := ?_) #[true, true, true, true, true, true, false] rfl rfl (by kernel_rfl) (fun _ _ _ h => h) (Or.inl ⟨by rfl, ?_⟩) ?_ ?_
 rotate_left
 ·intro w'
  go_simp
  with_reducible rfl
 rotate_left
 ·simp only [Act.put, List.setIfInBounds_toArray, List.set_cons_zero, List.set_cons_succ, i64_w, i32_w]
  rfl
 refine one_ (i := 6) (N := none) #[true, true, true, true, true, true, true] rfl rfl (by kernel_rfl) (by decide) (fun K hK => ?_)
 have hs106 : w105.cell? ⟨gb566, 0, none⟩ = some (.bool false) := (blk_cell BK566.out 0).trans rfl
 have hfs106 := blk_frozen BK566.out 0
 have hns106_0 := NB556_566.out
 have hns106_1 := NB557_566.out
 have hms106_0 := NB566_556.out
 have hms106_1 := NB566_557.out
 have hs108 : w105.cell? ⟨gb566, 1, none⟩ = some (.slice none 0 0) := (blk_cell BK566.out 1).trans rfl
 have hfs108 := blk_frozen BK566.out 1
 have hns108_0 := NB556_566.out
 have hns108_1 := NB557_566.out
 have hms108_0 := NB566_556.out
 have hms108_1 := NB566_557.out
 have hs109 : w105.cell? ⟨gb566, 2, none⟩ = some (.string (⟨#[]⟩ : ByteArray)) := (blk_cell BK566.out 2).trans rfl
 have hfs109 := blk_frozen BK566.out 2
 have hns109_0 := NB556_566.out
 have hns109_1 := NB557_566.out
 have hms109_0 := NB566_556.out
 have hms109_1 := NB566_557.out
 refine skip_ (w1 := ?_) (by rfl) rfl ?_ ?_
 rotate_left
 ·go_simp
  rfl
 refine hK.out _ _ ⟨((cell_far (p := ⟨gb566, _, none⟩) NB557_566.out _).trans (((cell_far (p := ⟨gb566, _, none⟩) NB557_566.out _).trans (((cell_far (p := ⟨gb566, _, none⟩) NB557_566.out _).trans (hHeld.1)))))), ((cell_far (p := ⟨gb566, _, none⟩) NB557_566.out _).trans (((cell_far (p := ⟨gb566, _, none⟩) NB557_566.out _).trans (((cell_far (p := ⟨gb566, _, none⟩) NB557_566.out _).trans (hHeld.2.1)))))), ((cell_far (p := ⟨gb566, _, none⟩) NB557_566.out _).trans (((cell_far (p := ⟨gb566, _, none⟩) NB557_566.out _).trans (((cell_far (p := ⟨gb566, _, none⟩) NB557_566.out _).trans (hHeld.2.2))))))⟩ (fun hHeld => ?_)
 clear hK K
 refine done_ (by kernel_rfl) ?_
 try go_wp2
 have n0_ : Aside0 (Kd.R k39 39 (((w105.setCell ⟨gb566, 0, none⟩ (.bool t561)).setCell ⟨gb566, 1, none⟩ (.slice Ao107 t562.length co107)).setCell ⟨gb566, 2, none⟩ (.string t565)) w.heap.size (fun _ => True) v559 t558) := ⟨by (with_reducible repeat (first | apply Kd.R_alloc | apply Kd.R_drewN | apply Kd.R_drew)); exact Kd.R_mono (Kd.R_far (p := ⟨gb566, 2, none⟩) (Kd.R_far (p := ⟨gb566, 1, none⟩) (Kd.R_far (p := ⟨gb566, 0, none⟩) (Kd.R_types HO560.out BK566.out (by decide)) (fun _ hk => hk.2) (.bool t561)) (fun _ hk => hk.2) (.slice Ao107 t562.length co107)) (fun _ hk => hk.2) (.string t565)) (fun _ hk => trivial)⟩
 have n1_ : Aside0 (Kd.R k23 23 (((w105.setCell ⟨gb566, 0, none⟩ (.bool t561)).setCell ⟨gb566, 1, none⟩ (.slice Ao107 t562.length co107)).setCell ⟨gb566, 2, none⟩ (.string t565)) w.heap.size (fun k_ => k_ ≠ gb556) (.slice Ao107 t562.length co107) t562) := ⟨by (with_reducible repeat (first | apply Kd.R_alloc | apply Kd.R_drewN | apply Kd.R_drew)); exact Kd.R_mono (Kd.R_far (p := ⟨gb566, 2, none⟩) (Kd.R_far (p := ⟨gb566, 1, none⟩) (Kd.R_far (p := ⟨gb566, 0, none⟩) (Kd.R_types HO564.out BK566.out (by decide)) (fun _ hk => hk.2) (.bool t561)) (fun _ hk => hk.2) (.slice Ao107 t562.length co107)) (fun _ hk => hk.2) (.string t565)) (fun _ hk => hk.1)⟩
 have n2_ : Aside0 ((((w105.setCell ⟨gb566, 0, none⟩ (.bool t561)).setCell ⟨gb566, 1, none⟩ (.slice Ao107 t562.length co107)).setCell ⟨gb566, 2, none⟩ (.string t565)).heap[gb556]? = some (.cells #[.int .i64 a1_0, .int .i64 a1_1] 23 (0, 0))) := ⟨by (with_reducible repeat (first | refine blk_drewN ?_ _ | refine blk_drew ?_ | refine blk_alloc ?_ _)); refine blk_far ?_ NB556_566.out _; (with_reducible repeat (first | refine blk_drewN ?_ _ | refine blk_drew ?_ | refine blk_alloc ?_ _)); refine blk_far ?_ NB556_566.out _; (with_reducible repeat (first | refine blk_drewN ?_ _ | refine blk_drew ?_ | refine blk_alloc ?_ _)); refine blk_far ?_ NB556_566.out _; (with_reducible repeat (first | refine blk_drewN ?_ _ | refine blk_drew ?_ | refine blk_alloc ?_ _)); exact BK556.out⟩
 have n3_ : Aside0 ((((w105.setCell ⟨gb566, 0, none⟩ (.bool t561)).setCell ⟨gb566, 1, none⟩ (.slice Ao107 t562.length co107)).setCell ⟨gb566, 2, none⟩ (.string t565)).heap[gb557]? = some (.cells #[.bool a2_0, .slice A2_1 l2_1.length c2_1, .string a2_2] 55 (0, 0))) := ⟨by (with_reducible repeat (first | refine blk_drewN ?_ _ | refine blk_drew ?_ | refine blk_alloc ?_ _)); refine blk_far ?_ NB557_566.out _; (with_reducible repeat (first | refine blk_drewN ?_ _ | refine blk_drew ?_ | refine blk_alloc ?_ _)); refine blk_far ?_ NB557_566.out _; (with_reducible repeat (first | refine blk_drewN ?_ _ | refine blk_drew ?_ | refine blk_alloc ?_ _)); refine blk_far ?_ NB557_566.out _; (with_reducible repeat (first | refine blk_drewN ?_ _ | refine blk_drew ?_ | refine blk_alloc ?_ _)); exact BK557.out⟩
 have n4_ : Aside0 ((((w105.setCell ⟨gb566, 0, none⟩ (.bool t561)).setCell ⟨gb566, 1, none⟩ (.slice Ao107 t562.length co107)).setCell ⟨gb566, 2, none⟩ (.string t565)).heap[gb566]? = some (.cells #[.bool t561, .slice Ao107 t562.length co107, .string t565] 55 (0, 0))) := ⟨by (with_reducible repeat (first | refine blk_drewN ?_ _ | refine blk_drew ?_ | refine blk_alloc ?_ _)); refine blk_put (cs := #[.bool t561, .slice Ao107 t562.length co107, .string (⟨#[]⟩ : ByteArray)]) ?_ 2 _ rfl; (with_reducible repeat (first | refine blk_drewN ?_ _ | refine blk_drew ?_ | refine blk_alloc ?_ _)); refine blk_put (cs := #[.bool t561, .slice none 0 0, .string (⟨#[]⟩ : ByteArray)]) ?_ 1 _ rfl; (with_reducible repeat (first | refine blk_drewN ?_ _ | refine blk_drew ?_ | refine blk_alloc ?_ _)); refine blk_put (cs := #[.bool false, .slice none 0 0, .string (⟨#[]⟩ : ByteArray)]) ?_ 0 _ rfl; (with_reducible repeat (first | refine blk_drewN ?_ _ | refine blk_drew ?_ | refine blk_alloc ?_ _)); exact BK566.out⟩
 have n5_ : Aside0 (Below w.heap.size w (((w105.setCell ⟨gb566, 0, none⟩ (.bool t561)).setCell ⟨gb566, 1, none⟩ (.slice Ao107 t562.length co107)).setCell ⟨gb566, 2, none⟩ (.string t565))) := ⟨by repeat (first | (with_reducible first | exact HB.out | apply below_alloc | apply pw_below_drewN | apply below_drew1 | refine below_set ?_ GE556.out | refine below_set ?_ GE557.out | refine below_set ?_ GE566.out) | exact HB.out)⟩
 (try clear HO560)
 (try clear HO564)
 (try clear BK556)
 (try clear BK557)
 (try clear BK566)
 (try clear HB)
 generalize (((w105.setCell ⟨gb566, 0, none⟩ (.bool t561)).setCell ⟨gb566, 1, none⟩ (.slice Ao107 t562.length co107)).setCell ⟨gb566, 2, none⟩ (.string t565)) = w110 at n0_ n1_ n2_ n3_ n4_ n5_ ⊢
 have HO560 := n0_
 have HO564 := n1_
 have BK556 := n2_
 have BK557 := n3_
 have BK566 := n4_
 have HB := n5_
 clear n0_ n1_ n2_ n3_ n4_ n5_
 have n0_ := Aside0.mk (Kd.R_drew HO560.out)
 have n1_ := Aside0.mk (Kd.R_drew HO564.out)
 have n2_ := Aside0.mk (blk_drew BK556.out)
 have n3_ := Aside0.mk (blk_drew BK557.out)
 have n4_ := Aside0.mk (blk_drew BK566.out)
 have n5_ := Aside0.mk (below_drew1 HB.out)
 clear HO560
 clear HO564
 clear BK556
 clear BK557
 clear BK566
 clear HB
 have HO560 := n0_
 have HO564 := n1_
 have BK556 := n2_
 have BK557 := n3_
 have BK566 := n4_
 have HB := n5_
 clear n0_ n1_ n2_ n3_ n4_ n5_
 refine start_ (n := 6) (S := fun w' => w'.cell? ⟨gb556, 0, none⟩ = some (.int .i64 a1_0) ∧ w'.cell? ⟨gb556, 1, none⟩ = some (.int .i64 a1_1)) (ds := []) #[false, false, false, false, false, false] (by kernel_rfl) rfl rfl ⟨(blk_cell BK556.out 0).trans rfl, (blk_cell BK556.out 1).trans rfl⟩ (fun hHeld => ?_)
 generalize w110.drew = w111 at HO560 HO564 BK556 BK557 BK566 HB hHeld ⊢
 refine pure_ (i := 0) (N := some 16) (v := ?_) (a' := ?_) #[true, false, false, false, false, false] rfl rfl (by kernel_rfl) (fun _ _ _ h => h) (Or.inl ⟨by rfl, ?_⟩) ?_ ?_
 rotate_left
 ·intro w'
  go_simp
  with_reducible rfl
 rotate_left
 ·simp only [Act.put, List.setIfInBounds_toArray, List.set_cons_zero, List.set_cons_succ, i64_w, i32_w]
  rfl
 refine pure_ (i := 2) (N := some 18) (v := ?_) (a' := ?_) #[true, false, true, false, false, false] rfl rfl (by kernel_rfl) (fun _ _ _ h => h) (Or.inl ⟨by rfl, ?_⟩) ?_ ?_
 rotate_left
 ·intro w'
  go_simp
  with_reducible rfl
 rotate_left
 ·simp only [Act.put, List.setIfInBounds_toArray, List.set_cons_zero, List.set_cons_succ, i64_w, i32_w]
  rfl
 refine take_ (i := 1) (N := some 17) (v := ?_) (a' := ?_) #[true, true, true, false, false, false] rfl rfl (by kernel_rfl) (fun _ _ _ h => h) (Or.inl ⟨by rfl, ?_⟩) hHeld ?_ ?_
 rotate_left
 ·rintro w' ⟨s0, s1⟩
  go_simp
  with_reducible rfl
 rotate_left
 ·simp only [Act.put, List.setIfInBounds_toArray, List.set_cons_zero, List.set_cons_succ, i64_w, i32_w]
  rfl
 refine pure_ (i := 4) (N := some 9) (v := ?_) (a' := ?_) #[true, true, true, false, true, false] rfl rfl (by kernel_rfl) (fun _ _ _ h => h) (Or.inl ⟨by rfl, ?_⟩) ?_ ?_
 rotate_left
 ·intro w'
  go_simp
  with_reducible rfl
 rotate_left
 ·simp only [Act.put, List.setIfInBounds_toArray, List.set_cons_zero, List.set_cons_succ, i64_w, i32_w]
  rfl
 refine take_ (i := 3) (N := some 19) (v := ?_) (a' := ?_) #[true, true, true, true, true, false] rfl rfl (by kernel_rfl) (fun _ _ _ h => h) (Or.inl ⟨by rfl, ?_⟩) hHeld ?_ ?_
 rotate_left
 ·rintro w' ⟨s0, s1⟩
  go_simp
  with_reducible rfl
 rotate_left
 ·simp only [Act.put, List.setIfInBounds_toArray, List.set_cons_zero, List.set_cons_succ, i64_w, i32_w]
  rfl
 refine pure_ (i := 5) (N := some 10) (v := ?_) (a' := ?_) #[true, true, true, true, true, true] rfl rfl (by kernel_rfl) (fun _ _ _ h => h) (Or.inl ⟨by rfl, ?_⟩) ?_ ?_
 rotate_left
 ·intro w'
  go_simp
  with_reducible rfl
 rotate_left
 ·simp only [Act.put, List.setIfInBounds_toArray, List.set_cons_zero, List.set_cons_succ, i64_w, i32_w]
  rfl
 refine done_ (by kernel_rfl) ?_
 have hnb112 := NB566_556.out
 have hnc112 := NB556_566.out
 have hnb113 := NB566_557.out
 have hnc113 := NB557_566.out
 have hcz114_0 : w111.cell? ⟨gb566, 0, none⟩ = some (.bool t561) := (blk_cell BK566.out 0).trans rfl
 have hcz114_1 : w111.cell? ⟨gb566, 1, none⟩ = some (.slice Ao107 t562.length co107) := (blk_cell BK566.out 1).trans rfl
 have hcz114_2 : w111.cell? ⟨gb566, 2, none⟩ = some (.string t565) := (blk_cell BK566.out 2).trans rfl
 have hfz114_0 := blk_frozen BK566.out 0
 have hfz114_1 := blk_frozen BK566.out 1
 have hfz114_2 := blk_frozen BK566.out 2
 obtain ⟨Ao115, co115, eo115⟩ := Kd.R_slice HO560.out
 subst eo115
 try go_wp2_with (first | ((with_reducible refine gate_callee (f := 35) rfl ?_); refine goesL_ (some 24) rfl rfl Try.func35 (by kernel_rfl) rfl #[.slice Ao115 t558.length co115, .int .i64 a1_0, .int .i64 a1_1, .agg #[.bool t561, .slice Ao107 t562.length co107, .string t565]] rfl (by (try simp only [List.map_toArray, List.map_cons, List.map_nil]); first | done | rfl | (simp only [List.length_drop, List.length_take]; rfl)) ?_; (with_reducible refine (loops_Check.calls k _ _ t558 a1_0 a1_1 t561 _ _ t562 t565 t567 _ ?side1 ?side2 ?side3 ?side4 A6.out).mono ?_); (case side1 => repeat (first | exact (Kd.R_reads' HO560.out).2.2 | (with_reducible refine Kd.C_alloc ?_ _) | (with_reducible refine Kd.C_drewN ?_ _) | (with_reducible refine Kd.C_drew ?_))); (case side2 => exact (Kd.R_reads' HO560.out).2.1); (case side3 => repeat (first | exact (Kd.R_reads' HO564.out).2.2 | (with_reducible refine Kd.C_alloc ?_ _) | (with_reducible refine Kd.C_drewN ?_ _) | (with_reducible refine Kd.C_drew ?_))); (case side4 => exact (Kd.R_reads' HO564.out).2.1); rintro e w116 ⟨rfl, hb⟩; refine ⟨_, rfl, ?_⟩; have n0_ := Aside0.mk (Kd.R_below (by (with_reducible repeat (first | apply Kd.R_alloc | apply Kd.R_drewN | apply Kd.R_drew)); exact HO560.out) hb); have n1_ := Aside0.mk (Kd.R_below (by (with_reducible repeat (first | apply Kd.R_alloc | apply Kd.R_drewN | apply Kd.R_drew)); exact HO564.out) hb); have n2_ := Aside0.mk (blk_below (g := gb556) (o := .cells #[.int .i64 a1_0, .int .i64 a1_1] 23 (0, 0)) (by (with_reducible repeat (first | refine blk_drewN ?_ _ | refine blk_drew ?_ | refine blk_alloc ?_ _)); exact BK556.out) hb); have n3_ := Aside0.mk (blk_below (g := gb557) (o := .cells #[.bool a2_0, .slice A2_1 l2_1.length c2_1, .string a2_2] 55 (0, 0)) (by (with_reducible repeat (first | refine blk_drewN ?_ _ | refine blk_drew ?_ | refine blk_alloc ?_ _)); exact BK557.out) hb); have n4_ := Aside0.mk (blk_below (g := gb566) (o := .cells #[.bool t561, .slice Ao107 t562.length co107, .string t565] 55 (0, 0)) (by (with_reducible repeat (first | refine blk_drewN ?_ _ | refine blk_drew ?_ | refine blk_alloc ?_ _)); exact BK566.out) hb); have n5_ := Aside0.mk (below_step (by repeat (first | (with_reducible first | exact HB.out | apply below_alloc | apply pw_below_drewN | apply below_drew1 | refine below_set ?_ GE556.out | refine below_set ?_ GE557.out | refine below_set ?_ GE566.out) | exact HB.out)) hb); clear HO560; clear HO564; clear BK556; clear BK557; clear BK566; clear HB; have HO560 := n0_; have HO564 := n1_; have BK556 := n2_; have BK557 := n3_; have BK566 := n4_; have HB := n5_; clear n0_ n1_ n2_ n3_ n4_ n5_; (try clear hb); (try clear hb2); (try clear hk); (try clear hi)) | ((with_reducible refine gate_callee (f := 18) rfl ?_); refine goesL_ (some 28) rfl rfl Try.func18 (by kernel_rfl) rfl #[.slice Ao115 t558.length co115, .int .i64 a1_0, .int .i64 a1_1] rfl (by (try simp only [List.map_toArray, List.map_cons, List.map_nil]); first | done | rfl | (simp only [List.length_drop, List.length_take]; rfl)) ?_; (with_reducible refine (tickinglaw06_bad.calls k _ _ t558 a1_0 a1_1 false _ ?side1 ?side2 A7.out).mono ?_); (case side1 => repeat (first | exact (Kd.R_reads' HO560.out).2.2 | (with_reducible refine Kd.C_alloc ?_ _) | (with_reducible refine Kd.C_drewN ?_ _) | (with_reducible refine Kd.C_drew ?_))); (case side2 => exact (Kd.R_reads' HO560.out).2.1); rintro e w117 ⟨rfl, hb⟩; refine ⟨_, rfl, ?_⟩; have n0_ := Aside0.mk (Kd.R_below (by (with_reducible repeat (first | apply Kd.R_alloc | apply Kd.R_drewN | apply Kd.R_drew)); exact HO560.out) hb); have n1_ := Aside0.mk (Kd.R_below (by (with_reducible repeat (first | apply Kd.R_alloc | apply Kd.R_drewN | apply Kd.R_drew)); exact HO564.out) hb); have n2_ := Aside0.mk (blk_below (g := gb556) (o := .cells #[.int .i64 a1_0, .int .i64 a1_1] 23 (0, 0)) (by (with_reducible repeat (first | refine blk_drewN ?_ _ | refine blk_drew ?_ | refine blk_alloc ?_ _)); exact BK556.out) hb); have n3_ := Aside0.mk (blk_below (g := gb557) (o := .cells #[.bool a2_0, .slice A2_1 l2_1.length c2_1, .string a2_2] 55 (0, 0)) (by (with_reducible repeat (first | refine blk_drewN ?_ _ | refine blk_drew ?_ | refine blk_alloc ?_ _)); exact BK557.out) hb); have n4_ := Aside0.mk (blk_below (g := gb566) (o := .cells #[.bool t561, .slice Ao107 t562.length co107, .string t565] 55 (0, 0)) (by (with_reducible repeat (first | refine blk_drewN ?_ _ | refine blk_drew ?_ | refine blk_alloc ?_ _)); exact BK566.out) hb); have n5_ := Aside0.mk (below_step (by repeat (first | (with_reducible first | exact HB.out | apply below_alloc | apply pw_below_drewN | apply below_drew1 | refine below_set ?_ GE556.out | refine below_set ?_ GE557.out | refine below_set ?_ GE566.out) | exact HB.out)) hb); clear HO560; clear HO564; clear BK556; clear BK557; clear BK566; clear HB; have HO560 := n0_; have HO564 := n1_; have BK556 := n2_; have BK557 := n3_; have BK566 := n4_; have HB := n5_; clear n0_ n1_ n2_ n3_ n4_ n5_; (try clear hb); (try clear hb2); (try clear hk); (try clear hi); have hcz118_0 : w117.cell? ⟨gb566, 0, none⟩ = some (.bool t561) := (blk_cell BK566.out 0).trans rfl; have hcz118_1 : w117.cell? ⟨gb566, 1, none⟩ = some (.slice Ao107 t562.length co107) := (blk_cell BK566.out 1).trans rfl; have hcz118_2 : w117.cell? ⟨gb566, 2, none⟩ = some (.string t565) := (blk_cell BK566.out 2).trans rfl; have hfz118_0 := blk_frozen BK566.out 0; have hfz118_1 := blk_frozen BK566.out 1; have hfz118_2 := blk_frozen BK566.out 2) | ((with_reducible refine gate_callee (f := 34) rfl ?_); refine goesL_ (some 38) rfl rfl Try.func34 (by kernel_rfl) rfl #[.slice Ao115 t558.length co115, .int .i64 a1_0, .int .i64 a1_1, .agg #[.bool t561, .slice Ao107 t562.length co107, .string t565]] rfl (by (try simp only [List.map_toArray, List.map_cons, List.map_nil]); first | done | rfl | (simp only [List.length_drop, List.length_take]; rfl)) ?_; (with_reducible refine (tickingref06_Right.calls k _ _ t558 a1_0 a1_1 t561 _ _ t562 t565 false _ ?side1 ?side2 ?side3 ?side4 A50.out).mono ?_); (case side1 => repeat (first | exact (Kd.R_reads' HO560.out).2.2 | (with_reducible refine Kd.C_alloc ?_ _) | (with_reducible refine Kd.C_drewN ?_ _) | (with_reducible refine Kd.C_drew ?_))); (case side2 => exact (Kd.R_reads' HO560.out).2.1); (case side3 => repeat (first | exact (Kd.R_reads' HO564.out).2.2 | (with_reducible refine Kd.C_alloc ?_ _) | (with_reducible refine Kd.C_drewN ?_ _) | (with_reducible refine Kd.C_drew ?_))); (case side4 => exact (Kd.R_reads' HO564.out).2.1); rintro e w119 ⟨rfl, hb⟩; refine ⟨_, rfl, ?_⟩; have n0_ := Aside0.mk (Kd.R_below (by (with_reducible repeat (first | apply Kd.R_alloc | apply Kd.R_drewN | apply Kd.R_drew)); exact HO560.out) hb); have n1_ := Aside0.mk (Kd.R_below (by (with_reducible repeat (first | apply Kd.R_alloc | apply Kd.R_drewN | apply Kd.R_drew)); exact HO564.out) hb); have n2_ := Aside0.mk (blk_below (g := gb556) (o := .cells #[.int .i64 a1_0, .int .i64 a1_1] 23 (0, 0)) (by (with_reducible repeat (first | refine blk_drewN ?_ _ | refine blk_drew ?_ | refine blk_alloc ?_ _)); exact BK556.out) hb); have n3_ := Aside0.mk (blk_below (g := gb557) (o := .cells #[.bool a2_0, .slice A2_1 l2_1.length c2_1, .string a2_2] 55 (0, 0)) (by (with_reducible repeat (first | refine blk_drewN ?_ _ | refine blk_drew ?_ | refine blk_alloc ?_ _)); exact BK557.out) hb); have n4_ := Aside0.mk (blk_below (g := gb566) (o := .cells #[.bool t561, .slice Ao107 t562.length co107, .string t565] 55 (0, 0)) (by (with_reducible repeat (first | refine blk_drewN ?_ _ | refine blk_drew ?_ | refine blk_alloc ?_ _)); exact BK566.out) hb); have n5_ := Aside0.mk (below_step (by repeat (first | (with_reducible first | exact HB.out | apply below_alloc | apply pw_below_drewN | apply below_drew1 | refine below_set ?_ GE556.out | refine below_set ?_ GE557.out | refine below_set ?_ GE566.out) | exact HB.out)) hb); clear HO560; clear HO564; clear BK556; clear BK557; clear BK566; clear HB; have HO560 := n0_; have HO564 := n1_; have BK556 := n2_; have BK557 := n3_; have BK566 := n4_; have HB := n5_; clear n0_ n1_ n2_ n3_ n4_ n5_; (try clear hb); (try clear hb2); (try clear hk); (try clear hi)) | (go_at_call 19; (with_reducible refine (tickinglaw06_awake.calls k  t572 _ A98.out).mono ?_); rintro e w120 ⟨rfl, hb⟩; have n0_ := Aside0.mk (Kd.R_below (by (with_reducible repeat (first | apply Kd.R_alloc | apply Kd.R_drewN | apply Kd.R_drew)); exact HO560.out) hb); have n1_ := Aside0.mk (Kd.R_below (by (with_reducible repeat (first | apply Kd.R_alloc | apply Kd.R_drewN | apply Kd.R_drew)); exact HO564.out) hb); have n2_ := Aside0.mk (blk_below (g := gb556) (o := .cells #[.int .i64 a1_0, .int .i64 a1_1] 23 (0, 0)) (by (with_reducible repeat (first | refine blk_drewN ?_ _ | refine blk_drew ?_ | refine blk_alloc ?_ _)); exact BK556.out) hb); have n3_ := Aside0.mk (blk_below (g := gb557) (o := .cells #[.bool a2_0, .slice A2_1 l2_1.length c2_1, .string a2_2] 55 (0, 0)) (by (with_reducible repeat (first | refine blk_drewN ?_ _ | refine blk_drew ?_ | refine blk_alloc ?_ _)); exact BK557.out) hb); have n4_ := Aside0.mk (blk_below (g := gb566) (o := .cells #[.bool t561, .slice Ao107 t562.length co107, .string t565] 55 (0, 0)) (by (with_reducible repeat (first | refine blk_drewN ?_ _ | refine blk_drew ?_ | refine blk_alloc ?_ _)); exact BK566.out) hb); have n5_ := Aside0.mk (below_step (by repeat (first | (with_reducible first | exact HB.out | apply below_alloc | apply pw_below_drewN | apply below_drew1 | refine below_set ?_ GE556.out | refine below_set ?_ GE557.out | refine below_set ?_ GE566.out) | exact HB.out)) hb); clear HO560; clear HO564; clear BK556; clear BK557; clear BK566; clear HB; have HO560 := n0_; have HO564 := n1_; have BK556 := n2_; have BK557 := n3_; have BK566 := n4_; have HB := n5_; clear n0_ n1_ n2_ n3_ n4_ n5_; (try clear hb); (try clear hb2); (try clear hk); (try clear hi)))
 go_ret
 exact ⟨by first | rfl | (simp [errW_none, errW_some] <;> rfl) | (simp [*, errW_none, errW_some] <;> rfl), by repeat (first | (with_reducible first | exact HB.out | apply below_alloc | apply pw_below_drewN | apply below_drew1 | refine below_set ?_ GE556.out | refine below_set ?_ GE557.out | refine below_set ?_ GE566.out) | exact HB.out)⟩
end Go.Proofs.Ytnfmeafiaipplaa.S

namespace Go.Proofs.Ytnfmeafiaipplaa.P
open Go.RowKit Go.Proofs.YtnfmeafiaipplaaW.PrintWords

theorem w64 {x : Int} (h0 : -9223372036854775808 ≤ x) (h1 : x ≤ 9223372036854775807) : wrap64 x = x := by
 unfold wrap64
 omega
theorem nodup_len : ∀ (n : Nat) (l : List Int) (lo : Int), l.Nodup → (∀ a ∈ l, lo < a ∧ a ≤ lo + n) → l.length ≤ n
 | 0, l, lo, _, h => by
  cases l with
  | nil => simp
  | cons a t => have := h a (by simp); omega
 | n + 1, l, lo, hd, h => by
  have h1 := nodup_len n (l.erase (lo + 1)) (lo + 1) (hd.erase _) (fun a ha => by
   have hm := List.mem_of_mem_erase ha
   have hne : a ≠ lo + 1 := fun e => by
    subst e
    exact (List.Nodup.not_mem_erase hd) ha
   have := h a hm
   omega)
  have h2 : l.length ≤ (l.erase (lo + 1)).length + 1 := by
   rw [List.length_erase]
   split <;> omega
  omega
end Go.Proofs.Ytnfmeafiaipplaa.P

namespace Go.Proofs.Ytnfmeafiaipplaa.P
open Go.RowKit Go.Proofs.Ytnfmeafiaipplaa.S Go.Proofs.YtnfmeafiaipplaaW.PrintWords
set_option linter.unusedVariables false

/-- A node of a list, by its position. -/
abbrev nd (t : List S39) (i : Int) : S39 := rd_T39 t i
inductive T where
 | leaf (k : Int)
 | node (k : Int) (a b : T)
 deriving DecidableEq
/-- What a node shows down to a depth. -/
def tr (t : List S39) : Nat → Int → T
 | 0, i => .leaf (nd t i).f0
 | d + 1, i => if 4 ≤ (nd t i).f0 then .node (nd t i).f0 (tr t d (nd t i).f1) (tr t d (nd t i).f2) else .leaf (nd t i).f0
def okN (t : List S39) (i : Int) : Prop :=
 (0 ≤ (nd t i).f0 ∧ (nd t i).f0 ≤ 5) ∧ ((nd t i).f0 < 4 → (nd t i).f1 = 0 ∧ (nd t i).f2 = 0) ∧ (0 ≤ (nd t i).f1 ∧ (nd t i).f1 < t.length) ∧ (0 ≤ (nd t i).f2 ∧ (nd t i).f2 < t.length)
instance (t : List S39) (i : Int) : Decidable (okN t i) := by unfold okN; infer_instance
/-- Types: not empty, every node in order. -/
def IsTy (t : List S39) : Prop := 1 ≤ t.length ∧ ∀ i : Int, 0 ≤ i → i < t.length → okN t i
theorem T.kind_node {k k' : Int} {a b a' b' : T} (h : T.node k a b = T.node k' a' b') : k = k' ∧ a = a' ∧ b = b' := by
 injection h with h1 h2 h3
 exact ⟨h1, h2, h3⟩
theorem tr_kind {t t' : List S39} {d : Nat} {i j : Int} (h : tr t d i = tr t' d j) : (nd t i).f0 = (nd t' j).f0 := by
 cases d with
 | zero => injection h
 | succ d =>
  unfold tr at h
  split at h <;> split at h
  ·exact (T.kind_node h).1
  ·cases h
  ·cases h
  injection h
/-- Two nodes stand for the same tree. -/
def Same (t : List S39) (i : Int) (t' : List S39) (j : Int) : Prop := ∀ d, tr t d i = tr t' d j
theorem Same.refl (t : List S39) (i : Int) : Same t i t i := fun _ => rfl
theorem Same.symm {t t' : List S39} {i j : Int} (h : Same t i t' j) : Same t' j t i := fun d => (h d).symm
theorem Same.trans {t t' t'' : List S39} {i j k : Int} (h : Same t i t' j) (h' : Same t' j t'' k) : Same t i t'' k := fun d => (h d).trans (h' d)
theorem same_iff {t t' : List S39} {i j : Int} : Same t i t' j ↔ (nd t i).f0 = (nd t' j).f0 ∧ (4 ≤ (nd t i).f0 → Same t (nd t i).f1 t' (nd t' j).f1 ∧ Same t (nd t i).f2 t' (nd t' j).f2) := by
 constructor
 ·intro h
  have hk := tr_kind (h 0)
  refine ⟨hk, fun c => ?_⟩
  have hh : ∀ d, tr t d (nd t i).f1 = tr t' d (nd t' j).f1 ∧ tr t d (nd t i).f2 = tr t' d (nd t' j).f2 := fun d => by
   have := h (d + 1)
   rw [show tr t (d + 1) i = .node (nd t i).f0 (tr t d (nd t i).f1) (tr t d (nd t i).f2) from if_pos c, show tr t' (d + 1) j = .node (nd t' j).f0 (tr t' d (nd t' j).f1) (tr t' d (nd t' j).f2) from if_pos (by rw [← hk]; exact c)] at this
   exact (T.kind_node this).2
  exact ⟨fun d => (hh d).1, fun d => (hh d).2⟩
 rintro ⟨hk, h⟩ d
 cases d with
 | zero => unfold tr; rw [hk]
 | succ d =>
  unfold tr
  by_cases c : 4 ≤ (nd t i).f0
  rotate_left
  ·rw [if_neg c, if_neg (by rw [← hk]; exact c), hk]
  rw [if_pos c, if_pos (by rw [← hk]; exact c), hk, (h c).1 d, (h c).2 d]
noncomputable def sameB (t : List S39) (i j : Int) : Bool := @decide (Same t i t j) (Classical.propDecidable _)

theorem w64s {j : Nat} (h : j ≤ 1000000) : wrap64 ((j : Int) + 1) = ((j + 1 : Nat) : Int) := by
 rw [w64 (by omega) (by omega)]
 rfl
theorem cast0 (k : Nat) : (0 : Int) ≤ (k : Int) := Int.natCast_nonneg k
theorem castlt {a b : Nat} (h : a < b) : (a : Int) < (b : Int) := Int.ofNat_lt.2 h
section
variable {t : List S39} (hv : ∀ i : Int, 0 ≤ i → i < t.length → okN t i) (hn : t.length ≤ 1000)
include hv hn

omit hv hn in
omit hv in
omit hv in
end
end Go.Proofs.Ytnfmeafiaipplaa.P

namespace Go.Proofs.Ytnfmeafiaipplaa.P
open Go.RowKit Go.Proofs.Ytnfmeafiaipplaa.S Go.Proofs.Ytnfmeafiaipplaa.Lib Go.Proofs.YtnfmeafiaipplaaW.PrintWords
set_option linter.unusedVariables false
set_option linter.unusedSectionVars false

section
variable {α : Type} [DecidableEq α]
theorem nodup_sub_len : ∀ {R L : List α}, R.Nodup → (∀ x ∈ R, x ∈ L) → R.length ≤ L.length
 | [], _, _, _ => by simp
 | a :: R, L, hn, hs => by
  have ha : a ∈ L := hs a (by simp)
  have h1 := nodup_sub_len (R := R) (L := L.erase a) (List.nodup_cons.1 hn).2 (fun x hx => by
   have hxa : x ≠ a := fun e => (List.nodup_cons.1 hn).1 (e ▸ hx)
   exact (List.mem_erase_of_ne hxa).2 (hs x (by simp [hx])))
  rw [List.length_erase_of_mem ha] at h1
  have : 0 < L.length := List.length_pos_of_mem ha
  simp
  omega
end
section
variable {t : List S39} (hv : ∀ i : Int, 0 ≤ i → i < t.length → okN t i) (hn : t.length ≤ 1000)
include hv hn

omit hv hn in
omit hn in
omit hn in
omit hv in
end

/-- Where a list has a node that is equal to x first. -/
noncomputable def ixS (t : List S39) (ns : List Int) (x : Int) : Nat := ns.findIdx (fun y => sameB t y x)
noncomputable def reS (t : List S39) (ns : List Int) (x : Int) : List Int := if ixS t ns x < ns.length then ns else ns ++ [x]
noncomputable def canS (t : List S39) : Nat → List Int → Nat → List S39 → Option (List S39)
  | 0, _, _, _ => none
  | f + 1, ns, k, out =>
    if k < ns.length then
      (if 4 ≤ (nd t (rd ns k)).f0 then canS t f (reS t (reS t ns (nd t (rd ns k)).f1) (nd t (rd ns k)).f2) (k + 1)
        (out ++ [⟨(nd t (rd ns k)).f0, (ixS t (reS t ns (nd t (rd ns k)).f1) (nd t (rd ns k)).f1 : Int), (ixS t (reS t (reS t ns (nd t (rd ns k)).f1) (nd t (rd ns k)).f2) (nd t (rd ns k)).f2 : Int)⟩])
       else canS t f ns (k + 1) (out ++ [nd t (rd ns k)]))
    else some out
/-- Nodes of the list, no two equal. -/
def Apart (t : List S39) (ns : List Int) : Prop := (∀ x ∈ ns, 0 ≤ x ∧ x < t.length) ∧ ns.Pairwise (fun x y => ¬ Same t x t y)
theorem Apart.nodup {t : List S39} {ns : List Int} (h : Apart t ns) : ns.Nodup := h.2.imp (fun hs e => hs (by rw [e]; exact Same.refl _ _))
theorem Apart.len {t : List S39} {ns : List Int} (h : Apart t ns) : ns.length ≤ t.length := nodup_len t.length ns (-1) h.nodup (fun a ha => by have := h.1 a ha; omega)
section
variable {t : List S39} (hv : ∀ i : Int, 0 ≤ i → i < t.length → okN t i) (hn : t.length ≤ 100)
include hv hn
omit hv hn in
end

noncomputable def tyB (t : List S39) (m : Int) : Bool := @decide (IsTy t ∧ (t.length : Int) ≤ m) (Classical.propDecidable _)
theorem tyB_iff {t : List S39} {m : Int} : tyB t m = true ↔ IsTy t ∧ (t.length : Int) ≤ m := by
  unfold tyB
  exact @decide_eq_true_iff _ (Classical.propDecidable _)
theorem tyB_false {t : List S39} {m : Int} (h : ¬ (IsTy t ∧ (t.length : Int) ≤ m)) : tyB t m = false := by
  cases e : tyB t m with
  | false => rfl
  | true => exact absurd (tyB_iff.1 e) h
theorem tyB_not {t : List S39} {m : Int} {i : Nat} (hi : i < t.length) (h : ¬ okN t i) : tyB t m = false := tyB_false (fun hh => h (hh.1.2 i (by omega) (by omega)))
theorem types_l0 {t : List S39} (hn : t.length ≤ 1000) (m : Int) : ∀ (d i : Nat), i + d = t.length → (∀ j : Nat, j < i → okN t j) → Ev (fun k => tickingref06_Types.l0 k t m (i : Int)) (tyB t m)
  | 0, i, h, ho => by
    refine Ev.step (fun k => ?_) (Ev.now (tyB t m))
    have hty : 1 ≤ t.length → IsTy t := fun h1 => ⟨h1, fun j j0 j1 => by
      have := ho j.toNat (by omega)
      rwa [Int.toNat_of_nonneg j0] at this⟩
    simp only [tickingref06_Types.l0]
    rw [if_neg (by omega)]
    by_cases c : (t.length : Int) ≥ 1
    · rw [if_pos c]
      by_cases c2 : (t.length : Int) ≤ m
      · rw [tyB_iff.2 ⟨hty (by omega), c2⟩, decide_eq_true c2]
      · rw [tyB_false (fun hh => c2 hh.2), decide_eq_false c2]
    · rw [if_neg c, tyB_false (fun hh => c (by have := hh.1.1; omega))]
  | d + 1, i, h, ho => by
    have hi : i < t.length := by omega
    have z := cast0 i
    have hlt := castlt hi
    by_cases hok : okN t i
    · have ih := types_l0 hn m d (i + 1) (by omega) (fun j hj => by
        by_cases e : j = i
        · rw [e]; exact hok
        · exact ho j (by omega))
      refine Ev.step (f := fun k => tickingref06_Types.l0 k t m ((i + 1 : Nat) : Int)) (fun k => ?_) ih
      unfold okN nd at hok
      obtain ⟨⟨k0, k1⟩, k2, ⟨a0, a1⟩, ⟨b0, b1⟩⟩ := hok
      have e2 := w64s (j := i) (by omega)
      simp only [tickingref06_Types.l0]
      rw [if_pos hlt, if_pos z, e2]
      clear e2 ih
      repeat' split
      all_goals first | rfl | (exfalso; omega)
    · rw [tyB_not hi hok]
      refine Ev.step (fun k => ?_) (Ev.now false)
      simp only [tickingref06_Types.l0]
      rw [if_pos hlt, if_pos z]
      repeat' split
      all_goals first | rfl | (refine absurd ?_ hok; unfold okN nd; refine ⟨⟨?_, ?_⟩, fun h => ⟨?_, ?_⟩, ⟨?_, ?_⟩, ⟨?_, ?_⟩⟩ <;> omega)
theorem Types_ev {t : List S39} (hn : t.length ≤ 1000) (m : Int) : Ev (fun k => tickingref06_Types.f k t m) (tyB t m) := types_l0 hn m t.length 0 (by omega) (fun j hj => by omega)
theorem within_eq (a b c : Int) : loops_within.f a b c = some (decide (b ≤ a ∧ a ≤ c)) := by
  unfold loops_within.f
  by_cases h : a ≥ b
  rotate_left
  · rw [if_neg h, decide_eq_false (fun hh => h hh.1)]
  rw [if_pos h]
  by_cases h2 : a ≤ c
  · rw [decide_eq_true h2, decide_eq_true ⟨h, h2⟩]
  rw [decide_eq_false h2, decide_eq_false (fun hh => h2 hh.2)]
theorem areTypes_l0 {t : List S39} (h1 : 1 ≤ t.length) (hn : t.length ≤ 24) : ∀ (d i : Nat), i + d = t.length → (∀ j : Nat, j < i → okN t j) → Ev (fun k => loops_areTypes.l0 k t t t.length (i : Int)) (tyB t 24)
  | 0, i, h, ho => by
    refine Ev.step (fun k => ?_) (Ev.now (tyB t 24))
    simp only [loops_areTypes.l0]
    rw [if_neg (by omega), tyB_iff.2 ⟨⟨h1, fun j j0 j1 => by
      have := ho j.toNat (by omega)
      rwa [Int.toNat_of_nonneg j0] at this⟩, by omega⟩]
  | d + 1, i, h, ho => by
    have hi : i < t.length := by omega
    have z := cast0 i
    have hlt := castlt hi
    have hw : wrap64 ((t.length : Int) - 1) = (t.length : Int) - 1 := w64 (by omega) (by omega)
    obtain ⟨x5, hx5⟩ : ∃ x5, x5 = if 4 ≤ (nd t i).f0 then (t.length : Int) - 1 else 0 := ⟨_, rfl⟩
    have go : ∀ r, Ev (fun k => loops_areTypes.j1 k t x5 t t.length (i : Int) (nd t i).f0 (nd t i).f1 (nd t i).f2) r → (0 ≤ (nd t i).f0 → (nd t i).f0 ≤ 5 → Ev (fun k => loops_areTypes.l0 k t t t.length (i : Int)) r) := fun r hr f0 f5 => by
      refine Ev.step (fun k => ?_) hr
      simp only [loops_areTypes.l0]
      rw [if_pos hlt, if_pos z, if_pos hlt, hw]
      by_cases c : 4 ≤ (nd t i).f0
      · rw [if_pos c] at hx5
        have : loops_hasParts.f (rd_T39 t i).f0 (rd_T39 t i).f1 (rd_T39 t i).f2 = some true := by
          unfold loops_hasParts.f
          by_cases c4 : (nd t i).f0 = 4
          · rw [if_pos c4]
          · have c5 : (nd t i).f0 = 5 := by omega
            rw [if_neg c4, beq_iff_eq.2 c5]
        rw [this, Option.bind_some, if_pos rfl, hx5]
      · rw [if_neg c] at hx5
        have : loops_hasParts.f (rd_T39 t i).f0 (rd_T39 t i).f1 (rd_T39 t i).f2 = some false := by
          unfold loops_hasParts.f
          have c4 : ¬ (rd_T39 t i).f0 = 4 := fun e => c (by rw [e]; decide)
          have c5 : ¬ (rd_T39 t i).f0 = 5 := fun e => c (by rw [e]; decide)
          rw [if_neg c4, beq_eq_false_iff_ne.2 c5]
        rw [this, Option.bind_some, if_neg (by decide), hx5]
    have z5 : 0 ≤ x5 := by rw [hx5]; split <;> omega
    by_cases hok : okN t i
    · have ih := areTypes_l0 h1 hn d (i + 1) (by omega) (fun j hj => by
        by_cases e : j = i
        · rw [e]; exact hok
        · exact ho j (by omega))
      obtain ⟨⟨k0, k1⟩, k2, ⟨a0, a1⟩, ⟨b0, b1⟩⟩ := hok
      refine go _ ?_ k0 k1
      refine Ev.step (f := fun k => loops_areTypes.l0 k t t t.length ((i + 1 : Nat) : Int)) (fun k => ?_) ih
      have e2 := w64s (j := i) (by omega)
      have q1 : (nd t i).f1 ≤ x5 := by rw [hx5]; split <;> omega
      have q2 : (nd t i).f2 ≤ x5 := by rw [hx5]; split <;> omega
      simp only [loops_areTypes.j1]
      rw [within_eq, decide_eq_true ⟨k0, k1⟩, within_eq, decide_eq_true ⟨a0, q1⟩, within_eq, decide_eq_true ⟨b0, q2⟩, e2]
      rfl
    rw [tyB_not hi hok]
    by_cases hk : 0 ≤ (nd t i).f0 ∧ (nd t i).f0 ≤ 5
    · refine go _ ?_ hk.1 hk.2
      refine Ev.step (fun k => ?_) (Ev.now false)
      simp only [loops_areTypes.j1]
      rw [within_eq, decide_eq_true hk, Option.bind_some, if_pos rfl, within_eq]
      by_cases c1 : 0 ≤ (nd t i).f1 ∧ (nd t i).f1 ≤ x5
      · rw [decide_eq_true c1, Option.bind_some, if_pos rfl, within_eq]
        by_cases c2 : 0 ≤ (nd t i).f2 ∧ (nd t i).f2 ≤ x5
        · exfalso
          apply hok
          have q : ¬ 4 ≤ (nd t i).f0 → x5 = 0 := fun c => by rw [hx5, if_neg c]
          have q' : x5 ≤ (t.length : Int) - 1 := by rw [hx5]; split <;> omega
          refine ⟨hk, fun h => ⟨?_, ?_⟩, ⟨?_, ?_⟩, ⟨?_, ?_⟩⟩ <;> omega
        · rw [decide_eq_false c2]
          rfl
      · rw [decide_eq_false c1]
        rfl
    -- a kind that is none: both ways end so
    refine Ev.step (f := fun k => loops_areTypes.j1 k t (if (nd t i).f0 = 4 ∨ (nd t i).f0 = 5 then (t.length : Int) - 1 else 0) t t.length (i : Int) (nd t i).f0 (nd t i).f1 (nd t i).f2) (fun k => ?_) (Ev.step (fun k => ?_) (Ev.now false))
    · simp only [loops_areTypes.l0]
      have c4 : ¬ (rd_T39 t i).f0 = 4 := fun e => hk ⟨by show 0 ≤ (rd_T39 t i).f0; omega, by show (rd_T39 t i).f0 ≤ 5; omega⟩
      have c5 : ¬ (rd_T39 t i).f0 = 5 := fun e => hk ⟨by show 0 ≤ (rd_T39 t i).f0; omega, by show (rd_T39 t i).f0 ≤ 5; omega⟩
      have : loops_hasParts.f (rd_T39 t i).f0 (rd_T39 t i).f1 (rd_T39 t i).f2 = some false := by
        unfold loops_hasParts.f
        rw [if_neg c4, beq_eq_false_iff_ne.2 c5]
      rw [if_pos hlt, if_pos z, if_pos hlt, this, Option.bind_some, if_neg (by decide), if_neg (show ¬ ((nd t i).f0 = 4 ∨ (nd t i).f0 = 5) from fun h => h.elim c4 c5)]
    simp only [loops_areTypes.j1]
    rw [within_eq, decide_eq_false hk]
    rfl
theorem areTypes_ev {t : List S39} (hn : t.length ≤ 1000) : Ev (fun k => loops_areTypes.f k t) (tyB t 24) := by
  unfold loops_areTypes.f
  simp only [within_eq]
  by_cases c : 1 ≤ (t.length : Int) ∧ (t.length : Int) ≤ 24
  · refine Ev.congr (fun k => ?_) (areTypes_l0 (by omega) (by omega) t.length 0 (by omega) (fun j hj => by omega))
    rw [decide_eq_true c]
    rfl
  rw [tyB_false (fun hh => c ⟨by have := hh.1.1; omega, hh.2⟩)]
  refine Ev.congr (fun k => ?_) (Ev.now false)
  rw [decide_eq_false c]
  rfl
/-- All of some nodes lie in a list. -/
def inB (t : List S39) (is : List Int) : Bool := is.all (fun i => decide (0 ≤ i ∧ i < t.length))
theorem areNodes_ev {t : List S39} (hn : t.length ≤ 1000) (is : List Int) : Ev (fun k => loops_areNodes.f k t is) (tyB t 24 && inB t is) := by
  unfold loops_areNodes.f
  refine Ev.bind (f := fun k (b : Bool) => if b = true then some (!(is.any (badNode t.length))) else some false) (areTypes_ev hn) ?_
  refine Ev.congr (fun k => ?_) (Ev.now _)
  cases tyB t 24 with
  | false => rfl
  | true =>
    rw [if_pos rfl, Bool.true_and]
    congr 1
    unfold inB
    rw [List.not_any_eq_all_not]
    congr 1
    funext i
    unfold badNode
    rw [Bool.not_not]
    apply decide_eq_decide.2
    omega
theorem bad_ev {t : List S39} (hn : t.length ≤ 1000) (a b : Int) : Ev (fun k => tickinglaw06_bad.f k t a b) (!(tyB t 24 && inB t [a, b])) := by
  unfold tickinglaw06_bad.f
  refine Ev.bind (f := fun k (x : Bool) => if x = true then (if a < 0 then (some true) else (if a ≥ (t.length : Int) then (some true) else (if b < 0 then (some true) else (some (decide (b ≥ (t.length : Int))))))) else (some true)) (Types_ev hn 24) ?_
  refine Ev.congr (fun k => ?_) (Ev.now _)
  cases tyB t 24 with
  | false => rfl
  | true =>
    rw [if_pos rfl, Bool.true_and]
    unfold inB
    simp only [List.all_cons, List.all_nil, Bool.and_true]
    repeat' split
    all_goals first
      | (have hd : decide (0 ≤ a ∧ a < t.length) = false := decide_eq_false (by omega); rw [hd]; rfl)
      | (have hd : decide (0 ≤ b ∧ b < t.length) = false := decide_eq_false (by omega); rw [hd, Bool.and_false]; rfl)
      | (have hd : decide (0 ≤ a ∧ a < t.length) = true := decide_eq_true (by omega)
         rw [hd, Bool.true_and]
         congr 1
         by_cases c : b < t.length
         · rw [decide_eq_true (p := 0 ≤ b ∧ b < t.length) (by omega), decide_eq_false (by omega)]
           rfl
         · rw [decide_eq_false (p := 0 ≤ b ∧ b < t.length) (by omega), decide_eq_true (by omega)]
           rfl)
theorem own_eq (t : List S39) : tickinglaw06_own.f t = some (t.take 25) := by
  unfold tickinglaw06_own.f
  have hm : mn (t.length : Int) 25 = ((min t.length 25 : Nat) : Int) := by
    unfold mn
    split <;> omega
  rw [hm, if_pos (by omega), if_pos (by omega), Option.bind_some, if_pos (by simp; omega), List.nil_append, Int.toNat_natCast]
  congr 1
  rw [List.take_eq_take_iff]
  omega
theorem own_len (t : List S39) : (t.take 25).length ≤ 25 := by simp; omega
/-- The canonical list. -/
noncomputable def canL (t : List S39) (i : Int) : List S39 := (canS t 200 [i] 0 []).getD []
theorem inB_two {t : List S39} {i j : Int} : inB t [i, j] = true ↔ (0 ≤ i ∧ i < t.length) ∧ (0 ≤ j ∧ j < t.length) := by simp [inB]
end Go.Proofs.Ytnfmeafiaipplaa.P

namespace Go.Proofs.Ytnfmeafiaipplaa.P
open Go.RowKit Go.Proofs.Ytnfmeafiaipplaa.S Go.Proofs.Ytnfmeafiaipplaa.Lib Go.Proofs.YtnfmeafiaipplaaW.PrintWords
set_option linter.unusedVariables false
def awT : List S39 := [(⟨4, 1, 0⟩ : S39), (⟨2, 0, 0⟩ : S39), (⟨3, 0, 0⟩ : S39), (⟨5, 4, 1⟩ : S39), (⟨1, 0, 0⟩ : S39), (⟨5, 1, 4⟩ : S39)]
theorem aw_can : loops_Canonical.f 40 awT 0 = some ([⟨4, 1, 0⟩, ⟨2, 0, 0⟩], 0) := by kernel_rfl
theorem aw_dep3 : loops_Depth.f 40 awT 3 = some (1, 0) := by kernel_rfl
theorem aw_dep0 : loops_Depth.f 40 awT 0 = some (0, 6) := by kernel_rfl
theorem aw_sub12 : (loops_Sub.f 40 awT 1 2).map (fun x => (x.1, x.2.2)) = some (false, ByteArray.empty, 0) := by kernel_rfl
theorem aw_sub35 : (loops_Sub.f 40 awT 3 5).map (fun x => (x.1, x.2.2.2)) = some (true, 0) := by kernel_rfl
theorem aw_types : tickinglaw06_types.f 40 [(⟨4, 1, 0⟩ : S39), ⟨2, 0, 0⟩] [(⟨4, 1, 0⟩ : S39), ⟨2, 0, 0⟩] = some true := by kernel_rfl
theorem aw_empty : ByteArray.empty.toList = ([] : List UInt8) := by
 unfold ByteArray.toList ByteArray.toList.loop
 rfl
theorem awake_40 : tickinglaw06_awake.f 40 = some true := by
 obtain ⟨x, hx, ex⟩ := Option.map_eq_some_iff.1 aw_sub12
 obtain ⟨y, hy, ey⟩ := Option.map_eq_some_iff.1 aw_sub35
 obtain ⟨x1, x2⟩ := Prod.mk.inj ex
 obtain ⟨x3, x4⟩ := Prod.mk.inj x2
 obtain ⟨y1, y2⟩ := Prod.mk.inj ey
 unfold tickinglaw06_awake.f
 rw [Option.bind_some]
 show ((loops_Sub.f 40 awT 1 2).bind fun bt170 => ((loops_Sub.f 40 awT 3 5).bind fun bt177 => ((loops_Canonical.f 40 awT 0).bind fun bt184 => ((loops_Depth.f 40 awT 3).bind fun bt188 => ((loops_Depth.f 40 awT 0).bind fun bt190 => _))))) = some true
 rw [hx, hy, aw_can, aw_dep3, aw_dep0]
 simp only [Option.bind_some]
 rw [if_pos x4, if_neg (by rw [x1]; decide), if_pos (by rw [x3]; exact aw_empty), if_pos y2, if_pos y1]
 simp only [if_true, aw_types, Option.bind_some]
 rfl
theorem awake_ev : Ev (fun k => tickinglaw06_awake.f k) true := Ev.of (fun k => tickinglaw06_awake.mono k) awake_40
end Go.Proofs.Ytnfmeafiaipplaa.P

namespace Go.Proofs.Ytnfmeafiaipplaa.P
open Go.RowKit Go.Proofs.Ytnfmeafiaipplaa.S Go.Proofs.Ytnfmeafiaipplaa.Lib Go.Proofs.YtnfmeafiaipplaaW.PrintWords
set_option linter.unusedVariables false
set_option linter.unusedSectionVars false

/-- What a relation of subtypes must bear, at two nodes. -/
def Stp (t : List S39) (R : Int → Int → Prop) (i j : Int) : Prop :=
  ((nd t i).f0 = 0 ∨ (nd t j).f0 = 1) ∨ ((nd t i).f0 = (nd t j).f0 ∧ ((nd t i).f0 = 4 → R (nd t i).f1 (nd t j).f1 ∧ R (nd t i).f2 (nd t j).f2) ∧ ((nd t i).f0 = 5 → R (nd t j).f1 (nd t i).f1 ∧ R (nd t i).f2 (nd t j).f2))
theorem Stp.mono {t : List S39} {R R' : Int → Int → Prop} {i j : Int} (h : Stp t R i j) (hR : ∀ a b, R a b → R' a b) : Stp t R' i j := by
  rcases h with h | ⟨h1, h2, h3⟩
  · exact .inl h
  exact .inr ⟨h1, fun c => ⟨hR _ _ (h2 c).1, hR _ _ (h2 c).2⟩, fun c => ⟨hR _ _ (h3 c).1, hR _ _ (h3 c).2⟩⟩
def SubC (t : List S39) (i j : Int) : Prop := ∃ R : Int → Int → Prop, (∀ a b, R a b → Stp t R a b) ∧ R i j
theorem SubC.step {t : List S39} {i j : Int} (h : SubC t i j) : Stp t (SubC t) i j := by
  obtain ⟨R, h1, h2⟩ := h
  exact (h1 i j h2).mono (fun a b hab => ⟨R, h1, hab⟩)
theorem SubC.of_same {t : List S39} {i j : Int} (h : Same t i t j) : SubC t i j :=
  ⟨fun a b => Same t a t b, fun a b hab => .inr ⟨(same_iff.1 hab).1, fun c => (same_iff.1 hab).2 (by omega), fun c => ⟨((same_iff.1 hab).2 (by omega)).1.symm, ((same_iff.1 hab).2 (by omega)).2⟩⟩, h⟩
theorem SubC.refl (t : List S39) (i : Int) : SubC t i i := .of_same (Same.refl t i)
theorem SubC.trans {t : List S39} {i j k : Int} (h : SubC t i j) (h' : SubC t j k) : SubC t i k := by
  refine ⟨fun a c => ∃ b, SubC t a b ∧ SubC t b c, ?_, j, h, h'⟩
  rintro a c ⟨b, h1, h2⟩
  rcases h1.step with (p | p) | ⟨p1, p2, p3⟩
  · exact .inl (.inl p)
  · rcases h2.step with (q | q) | ⟨q1, _, _⟩
    · omega
    · exact .inl (.inr q)
    · exact .inl (.inr (by omega))
  rcases h2.step with (q | q) | ⟨q1, q2, q3⟩
  · exact .inl (.inl (by omega))
  · exact .inl (.inr q)
  exact .inr ⟨by omega, fun c => ⟨⟨_, (p2 c).1, (q2 (by omega)).1⟩, ⟨_, (p2 c).2, (q2 (by omega)).2⟩⟩, fun c => ⟨⟨_, (q3 (by omega)).1, (p3 c).1⟩, ⟨_, (p3 c).2, (q3 (by omega)).2⟩⟩⟩
def inP (t : List S39) (p : S23) : Prop := (0 ≤ p.f0 ∧ p.f0 < t.length) ∧ (0 ≤ p.f1 ∧ p.f1 < t.length)
theorem l23_inj {p q : S23} (h : l23 p = l23 q) : p = q := by
  obtain ⟨a, b⟩ := p
  obtain ⟨c, d⟩ := q
  simp [l23] at h
  rw [h.1, h.2]
theorem hasK_cons (bs : Bad) (k : List Int) (c : Int) (q : List Int) : hasK ((k, c) :: bs) q = (q == k || hasK bs q) := by
  unfold hasK
  rw [List.lookup_cons]
  cases h : q == k <;> simp
theorem letOf_cons (bs : Bad) (k : List Int) (c : Int) (q : List Int) : letOf ((k, c) :: bs) q = if q = k then c else letOf bs q := by
  unfold letOf
  rw [List.lookup_cons]
  by_cases h : q = k
  · rw [if_pos h, h]
    simp
  rw [if_neg h, beq_eq_false_iff_ne.2 h]
/-- Why a pair is refuted, by a list. -/
def Why (t : List S39) (bs : Bad) (p : S23) (c : Int) : Prop :=
  (c = 0 ∧ needsF (nd t p.f0) (nd t p.f1) = none) ∨ ((c = 97 ∨ c = 98) ∧ ∃ m q, needsF (nd t p.f0) (nd t p.f1) = some m ∧ needGet m c = some q ∧ hasK bs q = true)
inductive Rk (t : List S39) : Bad → Prop where
  | nil : Rk t []
  | cons (p : S23) (c : Int) (bs : Bad) : Rk t bs → inP t p → hasK bs (l23 p) = false → Why t bs p c → Rk t ((l23 p, c) :: bs)
theorem need_inP {t : List S39} (hv : ∀ i : Int, 0 ≤ i → i < t.length → okN t i) {p : S23} (hp : inP t p) {m : Option (List Int × List Int)} (hm : needsF (nd t p.f0) (nd t p.f1) = some m) {c : Int} {q : List Int} (hq : needGet m c = some q) : q = l23 (s23 q) ∧ inP t (s23 q) := by
  obtain ⟨_, _, a1, b1⟩ := hv _ hp.1.1 hp.1.2
  obtain ⟨_, _, a2, b2⟩ := hv _ hp.2.1 hp.2.2
  unfold needsF at hm
  repeat' split at hm
  all_goals first
    | (cases hm; done)
    | (cases hm; cases hq; done)
    | (cases hm; simp only [needGet] at hq; split at hq
       · cases hq; exact ⟨rfl, by first | exact ⟨a1, a2⟩ | exact ⟨a2, a1⟩⟩
       · split at hq
         · cases hq; exact ⟨rfl, ⟨b1, b2⟩⟩
         · cases hq)
/-- All pairs of nodes. -/
def allP (t : List S39) : List (List Int) := (List.range t.length).flatMap (fun i : Nat => (List.range t.length).map (fun j : Nat => [(i : Int), (j : Int)]))
theorem sum_const (n : Nat) : ∀ l : List Nat, (l.map (fun _ => n)).sum = l.length * n
  | [] => by simp
  | a :: l => by rw [List.map_cons, List.sum_cons, sum_const n l, List.length_cons, Nat.succ_mul, Nat.add_comm]
theorem allP_len (t : List S39) : (allP t).length = t.length * t.length := by
  unfold allP
  rw [List.length_flatMap]
  simp only [List.length_map, List.length_range]
  rw [sum_const, List.length_range]
theorem allP_mem {t : List S39} {p : S23} (h : inP t p) : l23 p ∈ allP t := by
  unfold allP
  refine List.mem_flatMap.2 ⟨p.f0.toNat, List.mem_range.2 (by have := h.1; omega), List.mem_map.2 ⟨p.f1.toNat, List.mem_range.2 (by have := h.2; omega), ?_⟩⟩
  unfold l23
  rw [Int.toNat_of_nonneg h.1.1, Int.toNat_of_nonneg h.2.1]
theorem Rk.keys {t : List S39} {bs : Bad} (h : Rk t bs) : (bs.map (·.1)).Nodup ∧ (∀ k ∈ bs.map (·.1), k ∈ allP t) ∧ ∀ k, k ∈ bs.map (·.1) ↔ hasK bs k = true := by
  induction h with
  | nil => exact ⟨List.nodup_nil, fun k hk => by simp at hk, fun k => ⟨fun hk => by simp at hk, fun hk => by cases hk⟩⟩
  | cons p c bs hr hin hno hw ih =>
    refine ⟨?_, fun k hk => ?_, fun k => ?_⟩
    · rw [List.map_cons, List.nodup_cons]
      exact ⟨(fun hm => by rw [(ih.2.2 _).1 hm] at hno; cases hno), ih.1⟩
    · rcases List.mem_cons.1 hk with rfl | hk
      · exact allP_mem hin
      · exact ih.2.1 k hk
    rw [List.map_cons, List.mem_cons, hasK_cons, Bool.or_eq_true, ih.2.2 k, beq_iff_eq]
theorem Rk.len {t : List S39} {bs : Bad} (h : Rk t bs) : bs.length ≤ t.length * t.length := by
  have := nodup_sub_len h.keys.1 h.keys.2.1
  rwa [List.length_map, allP_len] at this

/-- A pair that a stage leaves: nothing that it needs is refuted. -/
def Fine (t : List S39) (bs : Bad) (p : S23) : Prop := ∃ m, needsF (nd t p.f0) (nd t p.f1) = some m ∧ ∀ c q, needGet m c = some q → hasK bs q = false
/-- A stage under way: the pairs that it has been at are told by D. -/
structure Stg (t : List S39) (bs : Bad) (D : S23 → Prop) (st : List S23 × Bad) : Prop where
 dup : st.1.Nodup
 what : ∀ p ∈ st.1, inP t p ∧ D p ∧ hasK bs (l23 p) = false ∧ Why t bs p (letOf st.2 (l23 p))
 rest : ∀ p, inP t p → D p → hasK bs (l23 p) = false → p ∈ st.1 ∨ Fine t bs p
 new : ∀ p, ¬ D p → letOf st.2 (l23 p) = 0
 len : st.2.length ≤ st.1.length
theorem Stg.size {t : List S39} {bs : Bad} {D : S23 → Prop} {st : List S23 × Bad} (h : Stg t bs D st) : st.1.length ≤ t.length * t.length := by
 have hnd : (st.1.map l23).Nodup := by
  rw [List.Nodup, List.pairwise_map]
  exact h.dup.imp (fun hne e => hne (l23_inj e))
 have := nodup_sub_len hnd (fun k hk => by
  obtain ⟨p, hp, rfl⟩ := List.mem_map.1 hk
  exact allP_mem (h.what p hp).1)
 rwa [List.length_map, allP_len] at this
theorem Stg.cell {t : List S39} {bs : Bad} {D : S23 → Prop} {st : List S23 × Bad} (h : Stg t bs D st) {i j : Int} (hp : inP t ⟨i, j⟩) (hD : ¬ D ⟨i, j⟩) : Stg t bs (fun p => D p ∨ p = ⟨i, j⟩) (cellStep t bs i j st) := by
 have hn : (⟨i, j⟩ : S23) ∉ st.1 := fun hm => hD (h.what _ hm).2.1
 have hlet := h.new _ hD
 -- a pair that is taken
 have take : ∀ (ls : Bad), (∀ q, q ≠ l23 ⟨i, j⟩ → letOf ls q = letOf st.2 q) → ls.length ≤ st.2.length + 1 → hasK bs (l23 ⟨i, j⟩) = false → Why t bs ⟨i, j⟩ (letOf ls (l23 ⟨i, j⟩)) → Stg t bs (fun p => D p ∨ p = ⟨i, j⟩) (st.1 ++ [⟨i, j⟩], ls) := fun ls h1 h2 h3 h4 => by
  refine ⟨?_, fun p hpp => ?_, fun p hpp hd hk => ?_, fun p hd => ?_, ?_⟩
  ·exact List.nodup_append.2 ⟨h.dup, by simp, fun a ha b hb => by simp at hb; subst hb; exact fun e => hn (e ▸ ha)⟩
  ·rcases List.mem_append.1 hpp with hpp | hpp
   ·obtain ⟨a, b, c, d⟩ := h.what p hpp
    refine ⟨a, .inl b, c, ?_⟩
    rw [show letOf (st.1 ++ [(⟨i, j⟩ : S23)], ls).2 (l23 p) = letOf st.2 (l23 p) from h1 _ (fun e => hn (l23_inj e ▸ hpp))]
    exact d
   ·simp at hpp
    subst hpp
    exact ⟨hp, .inr rfl, h3, h4⟩
  ·rcases hd with hd | rfl
   ·rcases h.rest p hpp hd hk with hm | hf
    ·exact .inl (List.mem_append_left _ hm)
    ·exact .inr hf
   ·exact .inl (by simp)
  ·have hne : p ≠ ⟨i, j⟩ := fun e => hd (.inr e)
   rw [show letOf (st.1 ++ [(⟨i, j⟩ : S23)], ls).2 (l23 p) = letOf st.2 (l23 p) from h1 _ (fun e => hne (l23_inj e))]
   exact h.new p (fun hh => hd (.inl hh))
  ·have := h.len
   simp
   omega
 -- a pair that is left
 have leave : (hasK bs (l23 ⟨i, j⟩) = false → Fine t bs ⟨i, j⟩) → Stg t bs (fun p => D p ∨ p = ⟨i, j⟩) st := fun h1 => by
  refine ⟨h.dup, fun p hpp => ?_, fun p hpp hd hk => ?_, fun p hd => h.new p (fun hh => hd (.inl hh)), h.len⟩
  ·obtain ⟨a, b, c, d⟩ := h.what p hpp
   exact ⟨a, .inl b, c, d⟩
  ·rcases hd with hd | rfl
   ·exact h.rest p hpp hd hk
   ·exact .inr (h1 hk)
 have letc : ∀ c : Int, (∀ q, q ≠ l23 ⟨i, j⟩ → letOf ((l23 ⟨i, j⟩, c) :: st.2) q = letOf st.2 q) := fun c q hq => by rw [letOf_cons, if_neg hq]
 unfold cellStep
 by_cases hk : hasK bs [i, j] = true
 ·rw [if_pos hk]
  exact leave (fun hf => by have hf' : hasK bs [i, j] = false := hf; rw [hk] at hf'; cases hf')
 rw [if_neg hk]
 have hkf : hasK bs (l23 ⟨i, j⟩) = false := by
  cases e : hasK bs (l23 ⟨i, j⟩) with
  | false => rfl
  | true => exact absurd e hk
 cases hm : needsF (rd_T39 t i) (rd_T39 t j) with
 | none => exact take st.2 (fun q _ => rfl) (by omega) hkf (.inl ⟨hlet, hm⟩)
 | some m =>
  have hm' : needsF (nd t i) (nd t j) = some m := hm
  show Stg t bs _ (abIn bs ⟨i, j⟩ m 0 st)
  unfold abIn
  rw [if_pos rfl]
  have hfine : (∀ c q, (c = 97 ∨ c = 98) → needGet m c = some q → hasK bs q = false) → Fine t bs ⟨i, j⟩ := fun hh => ⟨m, hm', fun c q hq => by
   refine hh c q ?_ hq
   unfold needGet at hq
   split at hq
   ·cases hq
   ·split at hq
    ·exact .inl ‹_›
    ·split at hq
     ·exact .inr ‹_›
     ·cases hq⟩
  have s98 : (∀ q, needGet m 97 = some q → hasK bs q = false) → Stg t bs (fun p => D p ∨ p = ⟨i, j⟩) (abStep bs ⟨i, j⟩ (needGet m 98) 98 st) := fun h97 => by
   unfold abStep
   cases h98 : needGet m 98 with
   | none =>
    exact leave (fun _ => hfine (fun c q hc hq => by
     rcases hc with rfl | rfl
     ·exact h97 q hq
     ·rw [h98] at hq; cases hq))
   | some q =>
    simp only []
    by_cases hb : hasK bs q = true
    ·rw [if_pos ⟨hlet, hb⟩]
     exact take _ (letc 98) (by simp) hkf (by
      rw [letOf_cons, if_pos rfl]
      exact .inr ⟨.inr rfl, m, q, hm', h98, hb⟩)
    ·rw [if_neg (fun hh => hb hh.2)]
     exact leave (fun _ => hfine (fun c q' hc hq => by
      rcases hc with rfl | rfl
      ·exact h97 q' hq
      ·rw [h98] at hq
       cases hq
       simpa using hb))
  have e97 : abStep bs ⟨i, j⟩ (needGet m 97) 97 st = st ∧ (∀ q, needGet m 97 = some q → hasK bs q = false) ∨ (∃ q, needGet m 97 = some q ∧ hasK bs q = true) ∧ abStep bs ⟨i, j⟩ (needGet m 97) 97 st = (st.1 ++ [⟨i, j⟩], (l23 ⟨i, j⟩, 97) :: st.2) := by
   unfold abStep
   cases h97 : needGet m 97 with
   | none => exact .inl ⟨rfl, fun q hq => by cases hq⟩
   | some q =>
    simp only []
    by_cases hb : hasK bs q = true
    ·exact .inr ⟨⟨q, rfl, hb⟩, if_pos ⟨hlet, hb⟩⟩
    ·exact .inl ⟨if_neg (fun hh => hb hh.2), fun q' hq => by cases hq; simpa using hb⟩
  rcases e97 with ⟨e, h97⟩ | ⟨⟨q, hq, hb⟩, e⟩
  ·rw [e]
   exact s98 h97
  rw [e]
  have hl97 : letOf ((l23 ⟨i, j⟩, 97) :: st.2) (l23 ⟨i, j⟩) = 97 := by rw [letOf_cons, if_pos rfl]
  have : abStep bs ⟨i, j⟩ (needGet m 98) 98 (st.1 ++ [⟨i, j⟩], (l23 ⟨i, j⟩, 97) :: st.2) = (st.1 ++ [⟨i, j⟩], (l23 ⟨i, j⟩, 97) :: st.2) := by
   unfold abStep
   cases needGet m 98 with
   | none => rfl
   | some q' =>
    simp only []
    rw [if_neg (fun hh => by rw [hl97] at hh; exact absurd hh.1 (by decide))]
  rw [this]
  exact take _ (letc 97) (by simp) hkf (by
   rw [hl97]
   exact .inr ⟨.inl rfl, m, q, hm', hq, hb⟩)
section
variable {t : List S39} (hv : ∀ i : Int, 0 ≤ i → i < t.length → okN t i) (hn : t.length ≤ 24) {bs : Bad}
include hv hn
omit hv in
end
noncomputable def subB (t : List S39) (i j : Int) : Bool := @decide (SubC t i j) (Classical.propDecidable _)

theorem rd23_nat (L : List S23) {k : Nat} (h : k < L.length) : rd_T23 L (k : Int) = L[k] := by
 unfold rd_T23
 rw [List.getD_eq_getElem?_getD, Int.toNat_natCast, List.getElem?_eq_getElem h, Option.getD_some]
theorem has_go (L : List S23) (hn : L.length ≤ 1000) (a b : Int) : ∀ (d i : Nat), i + d = L.length → (⟨a, b⟩ : S23) ∈ L.drop i → Ev (fun k => tickingref06_has.l0 k L a b (i : Int)) true
 | 0, i, h, hm => by
  rw [List.drop_eq_nil_of_le (by omega)] at hm
  cases hm
 | d + 1, i, h, hm => by
  have hi : i < L.length := by omega
  have e := rd23_nat L hi
  rw [List.drop_eq_getElem_cons hi] at hm
  by_cases c : L[i] = ⟨a, b⟩
  ·refine Ev.step (fun k => ?_) (Ev.now true)
   simp only [tickingref06_has.l0]
   rw [if_pos (castlt hi), if_pos (cast0 _), e, c]
   simp
  ·have ih := has_go L hn a b d (i + 1) (by omega) ((List.mem_cons.1 hm).resolve_left (fun h => c h.symm))
   have e2 := w64s (j := i) (by omega)
   refine Ev.step (f := fun k => tickingref06_has.l0 k L a b ((i + 1 : Nat) : Int)) (fun k => ?_) ih
   simp only [tickingref06_has.l0]
   rw [if_pos (castlt hi), if_pos (cast0 _), e, e2]
   by_cases c1 : L[i].f0 = a
   ·rw [if_pos c1, if_neg (fun c2 => c (by
     rw [← c1, ← c2]))]
   ·rw [if_neg c1]
theorem has_ev {L : List S23} (hn : L.length ≤ 1000) {a b : Int} (h : (⟨a, b⟩ : S23) ∈ L) : Ev (fun k => tickingref06_has.f k L a b) true := has_go L hn a b L.length 0 (by omega) (by rwa [List.drop_zero])
section
variable {t : List S39} (hv : ∀ i : Int, 0 ≤ i → i < t.length → okN t i) (hn : t.length ≤ 24) {L : List S23} (hL : L.length ≤ 600) (hin : ∀ p ∈ L, inP t p) (hcl : ∀ p ∈ L, Stp t (fun a b => (⟨a, b⟩ : S23) ∈ L) p.f0 p.f1)
include hv hn hL hin hcl
end

theorem mem_l23 {L : List S23} {a b : Int} : [a, b] ∈ L.map l23 ↔ (⟨a, b⟩ : S23) ∈ L := by
 constructor
 ·intro h
  obtain ⟨x, hx, e⟩ := List.mem_map.1 h
  have : x = ⟨a, b⟩ := by
   obtain ⟨x0, x1⟩ := x
   unfold l23 at e
   simp at e
   rw [e.1, e.2]
  rw [← this]; exact hx
 intro h
 exact List.mem_map.2 ⟨_, h, rfl⟩
theorem has_no (L : List S23) (hn : L.length ≤ 1000) (a b : Int) (hm : (⟨a, b⟩ : S23) ∉ L) : ∀ (d i : Nat), i + d = L.length → Ev (fun k => tickingref06_has.l0 k L a b (i : Int)) false
 | 0, i, h => by
  refine Ev.step (fun k => ?_) (Ev.now false)
  simp only [tickingref06_has.l0]
  rw [if_neg (by omega)]
 | d + 1, i, h => by
  have hi : i < L.length := by omega
  have e := rd23_nat L hi
  have c : L[i] ≠ ⟨a, b⟩ := fun c => hm (c ▸ List.getElem_mem hi)
  have ih := has_no L hn a b hm d (i + 1) (by omega)
  have e2 := w64s (j := i) (by omega)
  refine Ev.step (f := fun k => tickingref06_has.l0 k L a b ((i + 1 : Nat) : Int)) (fun k => ?_) ih
  simp only [tickingref06_has.l0]
  rw [if_pos (castlt hi), if_pos (cast0 _), e, e2]
  by_cases c1 : L[i].f0 = a
  ·rw [if_pos c1, if_neg (fun c2 => c (by rw [← c1, ← c2]))]
  ·rw [if_neg c1]
theorem has_all {L : List S23} (hn : L.length ≤ 1000) (a b : Int) : Ev (fun k => tickingref06_has.f k L a b) (decide ([a, b] ∈ L.map l23)) := by
 by_cases h : (⟨a, b⟩ : S23) ∈ L
 ·rw [decide_eq_true (mem_l23.2 h)]
  exact has_ev hn h
 rw [decide_eq_false (fun hh => h (mem_l23.1 hh))]
 exact has_no L hn a b h L.length 0 (by omega)
def okR (t : List S39) (L : List S23) (p : S23) : Bool := inR t.length p && needB t (L.map l23) p
section
variable {t : List S39} (hv : ∀ i : Int, 0 ≤ i → i < t.length → okN t i) (hn : t.length ≤ 24) {L : List S23} (hL : L.length ≤ 1000)
include hv hn hL
theorem closed_all : ∀ (d i : Nat), i + d = L.length → Ev (fun k => tickingref06_Closed.l0 k t L (i : Int)) ((L.drop i).all (okR t L) && decide (L.length ≤ 600))
 | 0, i, h => by
  refine Ev.step (fun k => ?_) (Ev.now _)
  simp only [tickingref06_Closed.l0]
  rw [if_neg (by omega), List.drop_eq_nil_of_le (by omega)]
  simp only [List.all_nil, Bool.true_and]
  congr 1
  simp only [decide_eq_decide]
  omega
 | d + 1, i, h => by
  have hi : i < L.length := by omega
  have ih := closed_all d (i + 1) (by omega)
  have e := rd23_nat L hi
  rw [List.drop_eq_getElem_cons hi, List.all_cons, Bool.and_assoc]
  generalize hB : ((L.drop (i + 1)).all (okR t L) && decide (L.length ≤ 600)) = B at *
  generalize L[i] = p at *
  have has : ∀ x y : Int, Ev (fun k => tickingref06_has.f k L x y) (decide ([x, y] ∈ L.map l23)) := fun x y => has_all hL x y
  by_cases hin : (0 ≤ p.f0 ∧ p.f0 < t.length) ∧ (0 ≤ p.f1 ∧ p.f1 < t.length)
  case neg =>
   have e0 : okR t L p = false := by
    unfold okR inR
    rw [Bool.and_eq_false_iff]
    left
    rw [Bool.and_eq_false_iff]
    by_cases h0 : 0 ≤ p.f0 ∧ p.f0 < t.length
    ·right; exact decide_eq_false (by omega)
    ·left; exact decide_eq_false (by omega)
   rw [e0, Bool.false_and]
   refine Ev.step (f := fun k => tickingref06_Closed.j1 k t L (i : Int) p.f0 p.f1 true) (fun k => ?_) (Ev.step (fun k => ?_) (Ev.now false))
   ·simp only [tickingref06_Closed.l0]
    rw [if_pos (castlt hi), if_pos (cast0 _), e]
    by_cases h0 : p.f0 < 0
    ·rw [if_pos h0]
    rw [if_neg h0]
    by_cases h1 : p.f0 ≥ t.length
    ·rw [if_pos h1]
    rw [if_neg h1]
    by_cases h2 : p.f1 < 0
    ·rw [if_pos h2]
    rw [if_neg h2, decide_eq_true (show p.f1 ≥ t.length by omega)]
   ·simp only [tickingref06_Closed.j1]
    rw [if_pos trivial]
  obtain ⟨⟨a0, a1⟩, ⟨b0, b1⟩⟩ := hin
  obtain ⟨⟨k0, k1⟩, _⟩ := hv _ a0 a1
  have eR : okR t L p = needB t (L.map l23) p := by
   unfold okR inR
   rw [decide_eq_true (by omega), decide_eq_true (by omega)]
   rfl
  rw [eR]
  unfold needB
  refine Ev.step (f := fun k => tickingref06_Closed.j1 k t L (i : Int) p.f0 p.f1 false) (fun k => ?_) ?_
  ·simp only [tickingref06_Closed.l0]
   rw [if_pos (castlt hi), if_pos (cast0 _), e, if_neg (by omega), if_neg (by omega), if_neg (by omega), decide_eq_false (by omega)]
  have next : Ev (fun k => tickingref06_Closed.l0 k t L (wrap64 ((i : Int) + 1))) B := by
   have e2 := w64s (j := i) (by omega)
   rw [e2]; exact ih
  have on : Ev (fun k => tickingref06_Closed.j2 k t L (i : Int) true (nd t p.f0).f0 (nd t p.f0).f1 (nd t p.f0).f2 (nd t p.f1).f0 (nd t p.f1).f1 (nd t p.f1).f2) B := Ev.step (fun k => by
   simp only [tickingref06_Closed.j2]
   rw [if_pos trivial]) next
  by_cases q0 : (nd t p.f0).f0 = 0
  ·rw [show needsF (rd_T39 t p.f0) (rd_T39 t p.f1) = some none from if_pos (.inl q0)]
   refine Ev.congr (fun _ => rfl) (f := fun k => tickingref06_Closed.j1 k t L (i : Int) p.f0 p.f1 false) (Ev.step (fun k => ?_) on)
   simp only [tickingref06_Closed.j1]
   rw [if_neg (by decide), if_pos a0, if_pos a1, if_pos b0, if_pos b1, if_pos q0]
  by_cases q1 : (nd t p.f1).f0 = 1
  ·rw [show needsF (rd_T39 t p.f0) (rd_T39 t p.f1) = some none from if_pos (.inr q1)]
   refine Ev.step (fun k => ?_) on
   simp only [tickingref06_Closed.j1]
   rw [if_neg (by decide), if_pos a0, if_pos a1, if_pos b0, if_pos b1, if_neg q0, if_pos q1]
  have q01 : ¬ ((rd_T39 t p.f0).f0 = 0 ∨ (rd_T39 t p.f1).f0 = 1) := fun h => h.elim q0 q1
  by_cases hk : (nd t p.f0).f0 = (nd t p.f1).f0
  case neg =>
   have hk' : (rd_T39 t p.f0).f0 ≠ (rd_T39 t p.f1).f0 := hk
   rw [show needsF (rd_T39 t p.f0) (rd_T39 t p.f1) = none by unfold needsF; rw [if_neg q01, if_pos hk']]
   refine Ev.step (f := fun k => tickingref06_Closed.j2 k t L (i : Int) false (nd t p.f0).f0 (nd t p.f0).f1 (nd t p.f0).f2 (nd t p.f1).f0 (nd t p.f1).f1 (nd t p.f1).f2) (fun k => ?_) (Ev.step (f := fun k => tickingref06_Closed.j3 k t L (i : Int) true (nd t p.f0).f0 (nd t p.f0).f1 (nd t p.f0).f2 (nd t p.f1).f0 (nd t p.f1).f1 (nd t p.f1).f2) (fun k => ?_) (Ev.step (fun k => ?_) (Ev.now false)))
   ·simp only [tickingref06_Closed.j1]
    rw [if_neg (by decide), if_pos a0, if_pos a1, if_pos b0, if_pos b1, if_neg q0, if_neg q1, if_neg hk]
   ·simp only [tickingref06_Closed.j2]
    rw [if_neg (by decide), if_neg hk]
   simp only [tickingref06_Closed.j3]
   rw [if_pos trivial]
  have hkk : ¬ (rd_T39 t p.f0).f0 ≠ (rd_T39 t p.f1).f0 := fun h => h hk
  by_cases c : (nd t p.f0).f0 < 4
  ·have c4 : ¬ (rd_T39 t p.f0).f0 = 4 := by have : (rd_T39 t p.f0).f0 < 4 := c; omega
   have c5 : ¬ (rd_T39 t p.f0).f0 = 5 := by have : (rd_T39 t p.f0).f0 < 4 := c; omega
   rw [show needsF (rd_T39 t p.f0) (rd_T39 t p.f1) = some none by unfold needsF; rw [if_neg q01, if_neg hkk, if_neg c4, if_neg c5]]
   refine Ev.step (fun k => ?_) on
   simp only [tickingref06_Closed.j1]
   rw [if_neg (by decide), if_pos a0, if_pos a1, if_pos b0, if_pos b1, if_neg q0, if_neg q1, if_pos hk, decide_eq_true (show (rd_T39 t p.f0).f0 < 4 from c)]
  refine Ev.step (f := fun k => tickingref06_Closed.j2 k t L (i : Int) false (nd t p.f0).f0 (nd t p.f0).f1 (nd t p.f0).f2 (nd t p.f1).f0 (nd t p.f1).f1 (nd t p.f1).f2) (fun k => ?_) ?_
  ·simp only [tickingref06_Closed.j1]
   rw [if_neg (by decide), if_pos a0, if_pos a1, if_pos b0, if_pos b1, if_neg q0, if_neg q1, if_pos hk, decide_eq_false (show ¬ (rd_T39 t p.f0).f0 < 4 from c)]
  refine Ev.step (f := fun k => (tickingref06_has.f k L (nd t p.f0).f2 (nd t p.f1).f2).bind fun t460 => (tickingref06_Closed.j3 k t L (i : Int) (!t460) (nd t p.f0).f0 (nd t p.f0).f1 (nd t p.f0).f2 (nd t p.f1).f0 (nd t p.f1).f1 (nd t p.f1).f2)) (fun k => ?_) ?_
  ·simp only [tickingref06_Closed.j2]
   rw [if_neg (by decide), if_pos hk]
  refine Ev.bind (f := fun k (z : Bool) => tickingref06_Closed.j3 k t L (i : Int) (!z) (nd t p.f0).f0 (nd t p.f0).f1 (nd t p.f0).f2 (nd t p.f1).f0 (nd t p.f1).f1 (nd t p.f1).f2) (has _ _) ?_
  by_cases c4 : (nd t p.f0).f0 = 4
  ·rw [show needsF (rd_T39 t p.f0) (rd_T39 t p.f1) = some (some ([(rd_T39 t p.f0).f1, (rd_T39 t p.f1).f1], [(rd_T39 t p.f0).f2, (rd_T39 t p.f1).f2])) by unfold needsF; rw [if_neg q01, if_neg hkk, if_pos (show (rd_T39 t p.f0).f0 = 4 from c4)]]
   show Ev _ ((decide ([(nd t p.f0).f1, (nd t p.f1).f1] ∈ L.map l23) && decide ([(nd t p.f0).f2, (nd t p.f1).f2] ∈ L.map l23)) && B)
   by_cases m2 : [(nd t p.f0).f2, (nd t p.f1).f2] ∈ L.map l23
   case neg =>
    rw [decide_eq_false m2, Bool.and_false, Bool.false_and]
    refine Ev.step (fun k => ?_) (Ev.now false)
    simp only [tickingref06_Closed.j3]
    rw [if_pos (show (!false) = true from rfl)]
   rw [decide_eq_true m2, Bool.and_true]
   refine Ev.step (f := fun k => (tickingref06_has.f k L (nd t p.f0).f1 (nd t p.f1).f1).bind fun t461 => (if t461 = true then (tickingref06_Closed.l0 k t L (wrap64 ((i : Int) + 1))) else (some false))) (fun k => ?_) ?_
   ·simp only [tickingref06_Closed.j3]
    rw [if_neg (by decide), if_pos c4, if_neg (show ¬ (nd t p.f0).f0 = 5 by omega)]
   refine Ev.bind (f := fun k (z : Bool) => if z = true then (tickingref06_Closed.l0 k t L (wrap64 ((i : Int) + 1))) else (some false)) (has _ _) ?_
   by_cases m1 : [(nd t p.f0).f1, (nd t p.f1).f1] ∈ L.map l23
   ·rw [decide_eq_true m1, Bool.true_and]
    exact Ev.congr (fun k => if_pos rfl) next
   rw [decide_eq_false m1, Bool.false_and]
   exact Ev.congr (fun k => if_neg (by decide)) (Ev.now false)
  have c5 : (nd t p.f0).f0 = 5 := by omega
  rw [show needsF (rd_T39 t p.f0) (rd_T39 t p.f1) = some (some ([(rd_T39 t p.f1).f1, (rd_T39 t p.f0).f1], [(rd_T39 t p.f0).f2, (rd_T39 t p.f1).f2])) by unfold needsF; rw [if_neg q01, if_neg hkk, if_neg (show ¬ (rd_T39 t p.f0).f0 = 4 from c4), if_pos (show (rd_T39 t p.f0).f0 = 5 from c5)]]
  show Ev _ ((decide ([(nd t p.f1).f1, (nd t p.f0).f1] ∈ L.map l23) && decide ([(nd t p.f0).f2, (nd t p.f1).f2] ∈ L.map l23)) && B)
  by_cases m2 : [(nd t p.f0).f2, (nd t p.f1).f2] ∈ L.map l23
  case neg =>
   rw [decide_eq_false m2, Bool.and_false, Bool.false_and]
   refine Ev.step (fun k => ?_) (Ev.now false)
   simp only [tickingref06_Closed.j3]
   rw [if_pos (show (!false) = true from rfl)]
  rw [decide_eq_true m2, Bool.and_true]
  refine Ev.step (f := fun k => (tickingref06_has.f k L (nd t p.f1).f1 (nd t p.f0).f1).bind fun t463 => (if t463 = true then (tickingref06_Closed.l0 k t L (wrap64 ((i : Int) + 1))) else (some false))) (fun k => ?_) ?_
  ·simp only [tickingref06_Closed.j3]
   rw [if_neg (by decide), if_neg c4, if_pos c5]
  refine Ev.bind (f := fun k (z : Bool) => if z = true then (tickingref06_Closed.l0 k t L (wrap64 ((i : Int) + 1))) else (some false)) (has _ _) ?_
  by_cases m1 : [(nd t p.f1).f1, (nd t p.f0).f1] ∈ L.map l23
  ·rw [decide_eq_true m1, Bool.true_and]
   exact Ev.congr (fun k => if_pos rfl) next
  rw [decide_eq_false m1, Bool.false_and]
  exact Ev.congr (fun k => if_neg (by decide)) (Ev.now false)
theorem Closed_all : Ev (fun k => tickingref06_Closed.f k t L) (L.all (okR t L) && decide (L.length ≤ 600)) := by
 have := closed_all hv hn hL L.length 0 (by omega)
 rwa [List.drop_zero] at this
omit hL in
theorem rf_all {path : ByteArray} (hp : path.size ≤ 1000000) : ∀ (d pos : Nat) (p : S23), pos + d = path.size → inP t p →
  ∃ b, rfGo t path (d + 1) pos p = some b ∧ Ev (fun k => tickingref06_Refutes.l0 k t p.f0 p.f1 path (pos : Int)) b := by
 intro d
 induction d with
 | zero =>
  intro pos p h hin
  obtain ⟨⟨a0, a1⟩, ⟨b0, b1⟩⟩ := hin
  have hnot : ¬ pos < path.data.size := by have : path.data.size = path.size := rfl; omega
  refine ⟨(needsF (rd_T39 t p.f0) (rd_T39 t p.f1)).isNone, ?_, ?_⟩
  ·unfold rfGo
   rw [if_pos ⟨⟨a0, a1⟩, ⟨b0, b1⟩⟩, dif_neg hnot]
  have l1 : (pos : Int) ≤ (path.size : Int) := by omega
  by_cases q : (nd t p.f0).f0 = 0 ∨ (nd t p.f1).f0 = 1
  ·rw [show needsF (rd_T39 t p.f0) (rd_T39 t p.f1) = some none from if_pos q]
   refine Ev.step (f := fun k => tickingref06_Refutes.j1 k t path (pos : Int) true (nd t p.f0).f0 (nd t p.f0).f1 (nd t p.f0).f2 (nd t p.f1).f0 (nd t p.f1).f1 (nd t p.f1).f2) (fun k => ?_) (Ev.step (fun k => ?_) (Ev.now false))
   ·simp only [tickingref06_Refutes.l0]
    rw [if_pos l1, if_pos a0, if_pos a1, if_pos b0, if_pos b1]
    by_cases q0 : (nd t p.f0).f0 = 0
    ·rw [if_pos q0]
    rw [if_neg q0]
    have q1 : ((nd t p.f1).f0 == 1) = true := beq_iff_eq.2 (q.resolve_left q0)
    rw [q1]
   simp only [tickingref06_Refutes.j1]
   rw [if_pos trivial]
  have q0 : ¬ (nd t p.f0).f0 = 0 := fun h => q (.inl h)
  have q1 : ((nd t p.f1).f0 == 1) = false := beq_eq_false_iff_ne.2 (fun h => q (.inr h))
  refine Ev.step (f := fun k => tickingref06_Refutes.j1 k t path (pos : Int) false (nd t p.f0).f0 (nd t p.f0).f1 (nd t p.f0).f2 (nd t p.f1).f0 (nd t p.f1).f1 (nd t p.f1).f2) (fun k => ?_) (Ev.step (fun k => ?_) (Ev.now _))
  ·simp only [tickingref06_Refutes.l0]
   rw [if_pos l1, if_pos a0, if_pos a1, if_pos b0, if_pos b1, if_neg q0, q1]
  simp only [tickingref06_Refutes.j1]
  rw [if_neg (by decide), if_pos (show (pos : Int) = (path.size : Int) by omega)]
  have q' : ¬ ((rd_T39 t p.f0).f0 = 0 ∨ (rd_T39 t p.f1).f0 = 1) := q
  by_cases hk : (nd t p.f0).f0 = (nd t p.f1).f0
  rotate_left
  ·have hk' : (rd_T39 t p.f0).f0 ≠ (rd_T39 t p.f1).f0 := hk
   rw [show needsF (rd_T39 t p.f0) (rd_T39 t p.f1) = none by unfold needsF; rw [if_neg q', if_pos hk']]
   simp [hk]
  have hk' : ¬ (rd_T39 t p.f0).f0 ≠ (rd_T39 t p.f1).f0 := fun h => h hk
  have : (needsF (rd_T39 t p.f0) (rd_T39 t p.f1)).isNone = false := by
   unfold needsF
   rw [if_neg q', if_neg hk']
   split
   ·rfl
   ·split <;> rfl
  rw [this, hk]
  simp
 | succ d ih =>
  intro pos p h hin
  have hin2 := hin
  obtain ⟨⟨a0, a1⟩, ⟨b0, b1⟩⟩ := hin
  obtain ⟨⟨k0, k1⟩, _⟩ := hv _ a0 a1
  have hlt : pos < path.data.size := by have : path.data.size = path.size := rfl; omega
  have l2 : (pos : Int) < (path.size : Int) := by omega
  have l1 : (pos : Int) ≤ (path.size : Int) := Int.le_of_lt l2
  have l3 : ¬ (pos : Int) = (path.size : Int) := Int.ne_of_lt l2
  have w := w64s (j := pos) (by omega)
  have hbt : bt path (pos : Int) = (path.data[pos].toNat : Int) := by
   rw [← rd_bytesOf]
   unfold rd bytesOf
   rw [Int.toNat_natCast, List.getD_eq_getElem?_getD, List.getElem?_map, Array.getElem?_toList, Array.getElem?_eq_getElem hlt]
   rfl
  obtain ⟨c, hc⟩ : ∃ c, c = (path.data[pos].toNat : Int) := ⟨_, rfl⟩
  rw [← hc] at hbt
  unfold rfGo
  rw [if_pos (show (0 ≤ p.f0 ∧ p.f0 < t.length) ∧ (0 ≤ p.f1 ∧ p.f1 < t.length) from hin2), dif_pos hlt, ← hc]
  -- ends that say no
  have no1 : ((nd t p.f0).f0 = 0 ∨ (nd t p.f1).f0 = 1) → Ev (fun k => tickingref06_Refutes.l0 k t p.f0 p.f1 path (pos : Int)) false := fun q => by
   refine Ev.step (f := fun k => tickingref06_Refutes.j1 k t path (pos : Int) true (nd t p.f0).f0 (nd t p.f0).f1 (nd t p.f0).f2 (nd t p.f1).f0 (nd t p.f1).f1 (nd t p.f1).f2) (fun k => ?_) (Ev.step (fun k => ?_) (Ev.now false))
   ·simp only [tickingref06_Refutes.l0]
    rw [if_pos l1, if_pos a0, if_pos a1, if_pos b0, if_pos b1]
    by_cases q0 : (nd t p.f0).f0 = 0
    ·rw [if_pos q0]
    ·rw [if_neg q0]
     have q1 : ((nd t p.f1).f0 == 1) = true := beq_iff_eq.2 (q.resolve_left q0)
     rw [q1]
   ·simp only [tickingref06_Refutes.j1]
    rw [if_pos trivial]
  have toJ2 : ¬ ((nd t p.f0).f0 = 0 ∨ (nd t p.f1).f0 = 1) → ∀ (z b : Bool), (z = (if (nd t p.f0).f0 = (nd t p.f1).f0 then (if (nd t p.f0).f0 < 4 then true else (if c = 97 then false else c != 98)) else true)) → Ev (fun k => tickingref06_Refutes.j2 k t path (pos : Int) z (nd t p.f0).f0 (nd t p.f0).f1 (nd t p.f0).f2 (nd t p.f1).f0 (nd t p.f1).f1 (nd t p.f1).f2) b → Ev (fun k => tickingref06_Refutes.l0 k t p.f0 p.f1 path (pos : Int)) b := fun q z b hz hb => by
   have q0 : ¬ (nd t p.f0).f0 = 0 := fun h => q (.inl h)
   have q1 : ((nd t p.f1).f0 == 1) = false := beq_eq_false_iff_ne.2 (fun h => q (.inr h))
   refine Ev.step (f := fun k => tickingref06_Refutes.j1 k t path (pos : Int) false (nd t p.f0).f0 (nd t p.f0).f1 (nd t p.f0).f2 (nd t p.f1).f0 (nd t p.f1).f1 (nd t p.f1).f2) (fun k => ?_) (Ev.step (f := fun k => tickingref06_Refutes.j2 k t path (pos : Int) z (nd t p.f0).f0 (nd t p.f0).f1 (nd t p.f0).f2 (nd t p.f1).f0 (nd t p.f1).f1 (nd t p.f1).f2) (fun k => ?_) hb)
   ·simp only [tickingref06_Refutes.l0]
    rw [if_pos l1, if_pos a0, if_pos a1, if_pos b0, if_pos b1, if_neg q0, q1]
   ·simp only [tickingref06_Refutes.j1]
    rw [if_neg (by decide), if_neg l3, hz]
    by_cases c1 : (nd t p.f0).f0 = (nd t p.f1).f0
    ·rw [if_pos c1, if_pos c1]
     by_cases c2 : (nd t p.f0).f0 < 4
     ·rw [if_pos c2, if_pos c2]
     ·rw [if_neg c2, if_neg c2, if_pos (cast0 _), if_pos l2, hbt]
      by_cases c3 : c = 97
      ·rw [if_pos c3, if_pos c3]
      ·rw [if_neg c3, if_neg c3]
    ·rw [if_neg c1, if_neg c1]
  have no2 : Ev (fun k => tickingref06_Refutes.j2 k t path (pos : Int) true (nd t p.f0).f0 (nd t p.f0).f1 (nd t p.f0).f2 (nd t p.f1).f0 (nd t p.f1).f1 (nd t p.f1).f2) false := Ev.step (fun k => by
   simp only [tickingref06_Refutes.j2]
   rw [if_pos trivial]) (Ev.now false)
  by_cases q : (nd t p.f0).f0 = 0 ∨ (nd t p.f1).f0 = 1
  ·rw [show needsF (rd_T39 t p.f0) (rd_T39 t p.f1) = some none from if_pos q]
   exact ⟨false, rfl, no1 q⟩
  have q' : ¬ ((rd_T39 t p.f0).f0 = 0 ∨ (rd_T39 t p.f1).f0 = 1) := q
  by_cases hk : (nd t p.f0).f0 = (nd t p.f1).f0
  case neg =>
   have hk' : (rd_T39 t p.f0).f0 ≠ (rd_T39 t p.f1).f0 := hk
   rw [show needsF (rd_T39 t p.f0) (rd_T39 t p.f1) = none by unfold needsF; rw [if_neg q', if_pos hk']]
   exact ⟨false, rfl, toJ2 q true false (by rw [if_neg hk]) no2⟩
  have hkk : ¬ (rd_T39 t p.f0).f0 ≠ (rd_T39 t p.f1).f0 := fun h => h hk
  by_cases c4 : (nd t p.f0).f0 < 4
  ·have d4 : ¬ (rd_T39 t p.f0).f0 = 4 := by have : (rd_T39 t p.f0).f0 < 4 := c4; omega
   have d5 : ¬ (rd_T39 t p.f0).f0 = 5 := by have : (rd_T39 t p.f0).f0 < 4 := c4; omega
   rw [show needsF (rd_T39 t p.f0) (rd_T39 t p.f1) = some none by unfold needsF; rw [if_neg q', if_neg hkk, if_neg d4, if_neg d5]]
   exact ⟨false, rfl, toJ2 q true false (by rw [if_pos hk, if_pos c4]) no2⟩
  -- two nodes with parts
  have go : ∀ (m : List Int × List Int), needsF (rd_T39 t p.f0) (rd_T39 t p.f1) = some (some m) → (∀ k, (if (nd t p.f0).f0 = 4 then (tickingref06_Refutes.l0 k t (nd t p.f0).f1 (nd t p.f1).f1 path (wrap64 ((pos : Int) + 1))) else (tickingref06_Refutes.l0 k t (nd t p.f1).f1 (nd t p.f0).f1 path (wrap64 ((pos : Int) + 1)))) = tickingref06_Refutes.l0 k t (s23 m.1).f0 (s23 m.1).f1 path (wrap64 ((pos : Int) + 1))) → m.2 = [(nd t p.f0).f2, (nd t p.f1).f2] →
    ∃ b, (match needGet ((some (some m) : Option (Option (List Int × List Int))).getD none) c with | none => some false | some q => rfGo t path (d + 1) (pos + 1) (s23 q)) = some b ∧ Ev (fun k => tickingref06_Refutes.l0 k t p.f0 p.f1 path (pos : Int)) b := fun m hm h1 h2 => by
   obtain ⟨m1, m2⟩ := m
   by_cases ca : c = 97
   ·subst ca
    obtain ⟨b, hb1, hb2⟩ := ih (pos + 1) (s23 m1) (by omega) (need_inP hv hin2 (c := 97) (q := m1) hm rfl).2
    refine ⟨b, hb1, toJ2 q false b (by rw [if_pos hk, if_neg c4, if_pos rfl]) (Ev.step (f := fun k => tickingref06_Refutes.l0 k t (s23 m1).f0 (s23 m1).f1 path ((pos + 1 : Nat) : Int)) (fun k => ?_) hb2)⟩
    simp only [tickingref06_Refutes.j2]
    rw [if_neg (by decide), if_pos (cast0 _), if_pos l2, hbt, if_neg (by decide), h1 k, w]
   ·by_cases cb : c = 98
    ·subst cb
     obtain ⟨b, hb1, hb2⟩ := ih (pos + 1) (s23 m2) (by omega) (need_inP hv hin2 (c := 98) (q := m2) hm rfl).2
     refine ⟨b, hb1, toJ2 q false b (by rw [if_pos hk, if_neg c4, if_neg (by decide)]; rfl) (Ev.step (f := fun k => tickingref06_Refutes.l0 k t (s23 m2).f0 (s23 m2).f1 path ((pos + 1 : Nat) : Int)) (fun k => ?_) hb2)⟩
     simp only [tickingref06_Refutes.j2]
     rw [if_neg (by decide), if_pos (cast0 _), if_pos l2, hbt, if_pos rfl, w]
     have h2' : m2 = [(nd t p.f0).f2, (nd t p.f1).f2] := h2
     rw [h2']
     rfl
    ·refine ⟨false, ?_, toJ2 q true false (by rw [if_pos hk, if_neg c4, if_neg ca]; simp [cb]) no2⟩
     simp [needGet, ca, cb]
  by_cases c5 : (nd t p.f0).f0 = 4
  ·have hm : needsF (rd_T39 t p.f0) (rd_T39 t p.f1) = some (some ([(nd t p.f0).f1, (nd t p.f1).f1], [(nd t p.f0).f2, (nd t p.f1).f2])) := by
    unfold needsF
    rw [if_neg q', if_neg hkk, if_pos (show (rd_T39 t p.f0).f0 = 4 from c5)]
   rw [hm]
   exact go _ hm (fun k => by rw [if_pos c5]; rfl) rfl
  have c6 : (rd_T39 t p.f0).f0 = 5 := by have h1 : ¬ (rd_T39 t p.f0).f0 < 4 := c4; have h2 : ¬ (rd_T39 t p.f0).f0 = 4 := c5; have h3 : (rd_T39 t p.f0).f0 ≤ 5 := k1; omega
  have hm : needsF (rd_T39 t p.f0) (rd_T39 t p.f1) = some (some ([(nd t p.f1).f1, (nd t p.f0).f1], [(nd t p.f0).f2, (nd t p.f1).f2])) := by
   unfold needsF
   rw [if_neg q', if_neg hkk, if_neg (show ¬ (rd_T39 t p.f0).f0 = 4 from c5), if_pos c6]
  rw [hm]
  exact go _ hm (fun k => by rw [if_neg c5]; rfl) rfl
end

theorem Ev.one {α : Type} {g : Nat → Option α} {a b : α} (h : Ev g a) (h' : Ev g b) : a = b := by
 obtain ⟨K, h⟩ := h
 obtain ⟨K', h'⟩ := h'
 have h1 := h (K + K') (by omega)
 have h2 := h' (K + K') (by omega)
 rw [h1] at h2
 exact Option.some.inj h2
def rfB (t : List S39) (path : ByteArray) (p : S23) : Bool := (rfGo t path (path.size + 1) 0 p).getD false
def rightB (t : List S39) (i j : Int) (holds : Bool) (L : List S23) (path : ByteArray) : Bool :=
 if holds = true then decide (path.toList = ([] : List UInt8)) && closedB t L ⟨i, j⟩ else decide (L.length = 0) && rfB t path ⟨i, j⟩
theorem all_t39 {t : List S39} (hv : ∀ i : Int, 0 ≤ i → i < t.length → okN t i) (hn : t.length ≤ 24) : t.all t39B = true := List.all_eq_true.2 (fun x hx => by
  obtain ⟨k, hk, rfl⟩ := List.getElem_of_mem hx
  have := hv k (by omega) (by omega)
  have e : nd t (k : Int) = t[k] := by
   unfold nd rd_T39
   rw [List.getD_eq_getElem?_getD, Int.toNat_natCast, List.getElem?_eq_getElem hk, Option.getD_some]
  unfold okN at this
  rw [e] at this
  obtain ⟨⟨k0, k1⟩, _, ⟨a0, a1⟩, ⟨c0, c1⟩⟩ := this
  unfold t39B i64B
  rw [Bool.and_eq_true, Bool.and_eq_true]
  exact ⟨decide_eq_true ⟨by omega, by omega⟩, decide_eq_true ⟨by omega, by omega⟩, decide_eq_true ⟨by omega, by omega⟩⟩)
section
variable {t : List S39} (ht : tyB t 24 = true) {i j : Int} (i0 : 0 ≤ i) (i1 : i < t.length) (j0 : 0 ≤ j) (j1 : j < t.length)
include ht i0 i1 j0 j1
theorem rf_eq {path : ByteArray} (hp : path.size ≤ 1000000) : rfGo t path (path.size + 1) 0 ⟨i, j⟩ = some (rfB t path ⟨i, j⟩) ∧ Ev (fun k => tickingref06_Refutes.f k t i j path) (rfB t path ⟨i, j⟩) := by
 obtain ⟨⟨h1, hv⟩, hl⟩ := tyB_iff.1 ht
 obtain ⟨b, h2, h3⟩ := rf_all hv (by omega) hp path.size 0 ⟨i, j⟩ (by omega) ⟨⟨i0, i1⟩, ⟨j0, j1⟩⟩
 have e : rfB t path ⟨i, j⟩ = b := by
  unfold rfB
  rw [h2]
  rfl
 rw [e]
 exact ⟨h2, h3⟩
theorem Check_ev (holds : Bool) (L : List S23) {path : ByteArray} (hp : path.size ≤ 1000000) : Ev (fun k => loops_Check.f k t i j holds L path) (if rightB t i j holds L path = true then 0 else 10) := by
 obtain ⟨⟨h1, hv⟩, hl⟩ := tyB_iff.1 ht
 have hall := all_t39 hv (by omega)
 obtain ⟨hr, _⟩ := rf_eq ht i0 i1 j0 j1 hp
 have hcl : loops_isClosed.f t L i j = some (closedB t L ⟨i, j⟩) := by
  unfold loops_isClosed.f
  rw [if_pos ⟨hall, by omega, by unfold i64B; exact decide_eq_true ⟨by omega, by omega⟩, by unfold i64B; exact decide_eq_true ⟨by omega, by omega⟩⟩]
 have hrf : loops_refutes.f t path i j = some (rfB t path ⟨i, j⟩) := by
  unfold loops_refutes.f
  rw [if_pos ⟨hall, hp⟩]
  exact hr
 have hj : ∀ z : Bool, Ev (fun k => loops_Check.j0 k t z holds L path i j) (if (if holds = true then z else (decide (L.length = 0) && rfB t path ⟨i, j⟩)) = true then 0 else 10) := fun z => by
  refine Ev.step (fun k => ?_) (Ev.now _)
  simp only [loops_Check.j0]
  by_cases hh : holds = true
  ·rw [if_pos hh, if_pos hh]
   by_cases hz : z = true
   ·rw [if_pos hz, if_pos hz]
   ·rw [if_neg hz, if_neg hz]
  ·rw [if_neg hh, if_neg hh]
   by_cases hL : L.length = 0
   ·rw [if_pos (show (L.length : Int) = 0 by omega), hrf, Option.bind_some, decide_eq_true hL, Bool.true_and]
    by_cases hb : rfB t path ⟨i, j⟩ = true
    ·rw [if_pos hb, if_pos hb]
    ·rw [if_neg hb, if_neg hb]
   ·rw [if_neg (show ¬ (L.length : Int) = 0 by omega), decide_eq_false hL, Bool.false_and, if_neg (by decide)]
 unfold loops_Check.f
 refine Ev.bind (f := fun k (z : Bool) => _) (areNodes_ev (by omega) [i, j]) ?_
 rw [ht, inB_two.2 ⟨⟨i0, i1⟩, ⟨j0, j1⟩⟩]
 by_cases he : path.toList = ([] : List UInt8)
 rotate_left
 ·refine Ev.congr (f := fun k => loops_Check.j0 k t false holds L path i j) (fun k => ?_) ?_
  ·rw [if_pos (show (true && true) = true from rfl), if_neg he]
  have := hj false
  unfold rightB
  rw [decide_eq_false he, Bool.false_and]
  exact this
 refine Ev.congr (f := fun k => loops_Check.j0 k t (closedB t L ⟨i, j⟩) holds L path i j) (fun k => ?_) ?_
 ·rw [if_pos (show (true && true) = true from rfl), if_pos he, hcl, Option.bind_some]
 have := hj (closedB t L ⟨i, j⟩)
 unfold rightB
 rw [decide_eq_true he, Bool.true_and]
 exact this
theorem closed_eq (L : List S23) : (L.all (okR t L) && decide (L.length ≤ 600)) = (decide (L.length ≤ 600) && (L.all (inR t.length) && L.all (needB t (L.map l23)))) := by
 have : L.all (okR t L) = (L.all (inR t.length) && L.all (needB t (L.map l23))) := by
  rw [Bool.eq_iff_iff, Bool.and_eq_true, List.all_eq_true, List.all_eq_true, List.all_eq_true]
  unfold okR
  constructor
  ·intro h
   exact ⟨fun x hx => (Bool.and_eq_true_iff.1 (h x hx)).1, fun x hx => (Bool.and_eq_true_iff.1 (h x hx)).2⟩
  ·rintro ⟨h1, h2⟩ x hx
   rw [h1 x hx, h2 x hx]
   rfl
 rw [this, Bool.and_comm]
theorem Right_ev (holds : Bool) {L : List S23} (hL : L.length ≤ 1000) {path : ByteArray} (hp : path.size ≤ 1000000) : Ev (fun k => tickingref06_Right.f k t i j holds L path) (rightB t i j holds L path) := by
 obtain ⟨⟨h1, hv⟩, hl⟩ := tyB_iff.1 ht
 obtain ⟨_, hr⟩ := rf_eq ht i0 i1 j0 j1 hp
 unfold tickingref06_Right.f rightB
 by_cases hh : holds = true
 rotate_left
 ·rw [if_neg hh]
  by_cases hz : L.length = 0
  rotate_left
  ·rw [decide_eq_false hz, Bool.false_and]
   exact Ev.congr (fun k => by rw [if_neg hh, if_neg (show ¬ (L.length : Int) = 0 by omega)]) (Ev.now false)
  rw [decide_eq_true hz, Bool.true_and]
  refine Ev.congr (fun k => ?_) hr
  rw [if_neg hh, if_pos (show (L.length : Int) = 0 by omega)]
  cases tickingref06_Refutes.f k t i j path <;> rfl
 rw [if_pos hh]
 by_cases he : path.toList = ([] : List UInt8)
 rotate_left
 ·rw [decide_eq_false he, Bool.false_and]
  exact Ev.congr (fun k => by rw [if_pos hh, if_neg he]) (Ev.now false)
 rw [decide_eq_true he, Bool.true_and]
 refine Ev.congr (f := fun k => (tickingref06_Closed.f k t L).bind fun t469 => (if t469 = true then ((tickingref06_has.f k L i j).bind fun t470 => (some t470)) else (some false))) (fun k => ?_) ?_
 ·rw [if_pos hh, if_pos he]
 refine Ev.bind (f := fun k (z : Bool) => if z = true then ((tickingref06_has.f k L i j).bind fun t470 => (some t470)) else (some false)) (Closed_all hv (by omega) hL) ?_
 rw [closed_eq ht i0 i1 j0 j1]
 unfold closedB
 rw [show (decide (L.length ≤ 600) && (L.all (inR t.length) && (L.all (needB t (L.map l23)) && decide (l23 ⟨i, j⟩ ∈ L.map l23)))) = ((decide (L.length ≤ 600) && (L.all (inR t.length) && L.all (needB t (L.map l23)))) && decide (l23 ⟨i, j⟩ ∈ L.map l23)) by simp only [Bool.and_assoc]]
 generalize (decide (L.length ≤ 600) && (L.all (inR t.length) && L.all (needB t (L.map l23)))) = B
 cases B with
 | true =>
  rw [Bool.true_and]
  refine Ev.congr (fun k => ?_) (has_all hL i j)
  simp only [if_true]
  cases tickingref06_has.f k L i j <;> rfl
 | false =>
  rw [Bool.false_and]
  exact Ev.congr (fun k => if_neg (by decide)) (Ev.now false)
end
theorem Check_bad {t : List S39} (hn : t.length ≤ 1000) {i j : Int} (hb : (tyB t 24 && inB t [i, j]) = false) (holds : Bool) (L : List S23) (path : ByteArray) : Ev (fun k => loops_Check.f k t i j holds L path) 2 := by
 unfold loops_Check.f
 refine Ev.bind (f := fun k (z : Bool) => _) (areNodes_ev hn [i, j]) ?_
 rw [hb]
 exact Ev.congr (fun k => if_neg (by decide)) (Ev.now 2)
theorem finding_eq (h : Bool) {L : List S23} (hL : L.length ≤ 9223372036854775807) {p : ByteArray} (hp : p.size ≤ 9223372036854775807) : ∃ p', tickinglaw06_finding.f h L p = some (h, L.take 601, p') ∧ p'.size ≤ 700 := by
 refine ⟨p.extract 0 ((mn (p.size : Int) 700) : Int).toNat, ?_, ?_⟩
 ·unfold tickinglaw06_finding.f
  have m1 : mn (p.size : Int) 700 = min (p.size : Int) 700 := by unfold mn; split <;> omega
  have m2 : mn (L.length : Int) 601 = min (L.length : Int) 601 := by unfold mn; split <;> omega
  have hlen : (L.take ((mn (L.length : Int) 601) : Int).toNat).length ≤ 601 := by rw [List.length_take, m2]; omega
  rw [if_pos (by rw [m1]; omega), if_pos (by rw [m1]; omega), if_pos (by rw [m2]; omega), if_pos (by rw [m2]; omega), Option.bind_some, if_pos (by simp only [List.length_nil]; omega), List.nil_append]
  have : L.take ((mn (L.length : Int) 601) : Int).toNat = L.take 601 := by
   rw [m2]
   by_cases hc : L.length ≤ 601
   ·rw [List.take_of_length_le (by omega), List.take_of_length_le hc]
   ·rw [show (min (L.length : Int) 601).toNat = 601 by omega]
  rw [this]
 have m1 : mn (p.size : Int) 700 = min (p.size : Int) 700 := by unfold mn; split <;> omega
 rw [ByteArray.size_extract, m1]
 omega
theorem LoopsChecks_ev (l : List S39) (i j : Int) (h : Bool) (L : List S23) (hL : L.length ≤ 9223372036854775807) (p : ByteArray) (hp : p.size ≤ 9223372036854775807) : Ev (fun k => tickinglaw06_LoopsChecks.f k l i j h L p) true := by
 unfold tickinglaw06_LoopsChecks.f
 obtain ⟨q, hq, hq7⟩ := finding_eq h hL hp
 rw [own_eq, hq]
 simp only [Option.bind_some]
 have hl := own_len l
 have hLl : (L.take 601).length ≤ 601 := by rw [List.length_take]; omega
 generalize l.take 25 = t at *
 generalize L.take 601 = M at *
 have hbad := bad_ev (t := t) (by omega) i j
 cases hb : (tyB t 24 && inB t [i, j]) with
 | false =>
  rw [hb] at hbad
  refine Ev.bind (f := fun k (z : Int) => _) (Check_bad (by omega) hb _ _ _) ?_
  refine Ev.bind (f := fun k (z : Bool) => _) hbad ?_
  refine Ev.congr (fun k => ?_) awake_ev
  rw [if_pos (show (!false) = true from rfl), if_pos rfl]
  cases tickinglaw06_awake.f k <;> rfl
 | true =>
  rw [hb] at hbad
  obtain ⟨ht, hin⟩ := Bool.and_eq_true_iff.1 hb
  obtain ⟨⟨i0, i1⟩, ⟨j0, j1⟩⟩ := inB_two.1 hin
  refine Ev.bind (f := fun k (z : Int) => _) (Check_ev ht i0 i1 j0 j1 h M (path := q) (by omega)) ?_
  refine Ev.bind (f := fun k (z : Bool) => _) hbad ?_
  refine Ev.congr (f := fun k => (tickingref06_Right.f k t i j h M q).bind fun t570 => (if t570 = true then (if (if rightB t i j h M q = true then (0 : Int) else 10) = 0 then ((tickinglaw06_awake.f k).bind fun t571 => (some t571)) else (some false)) else (if (if rightB t i j h M q = true then (0 : Int) else 10) = 10 then ((tickinglaw06_awake.f k).bind fun t572 => (some t572)) else (some false)))) (fun k => ?_) ?_
  ·rw [if_neg (show ¬ (!true) = true by decide)]
  refine Ev.bind (f := fun k (z : Bool) => _) (Right_ev ht i0 i1 j0 j1 h (L := M) (by omega) (path := q) (by omega)) ?_
  refine Ev.congr (fun k => ?_) awake_ev
  cases hr : rightB t i j h M q with
  | true =>
   simp only [if_true]
   cases tickinglaw06_awake.f k <;> rfl
  | false =>
   simp only [Bool.false_eq_true, if_false, if_true]
   cases tickinglaw06_awake.f k <;> rfl
theorem LoopsChecks (l : List S39) (i j : Int) (h : Bool) (L : List S23) (hL : L.length ≤ 9223372036854775807) (p : ByteArray) (hp : p.size ≤ 9223372036854775807) : ∃ k, tickinglaw06_LoopsChecks.f k l i j h L p = some true := (LoopsChecks_ev l i j h L hL p hp).rounds
end Go.Proofs.Ytnfmeafiaipplaa.P

namespace Go.Proofs.Ytnfmeafiaipplaa.Open
instance : Inhabited Go.Proofs.Ytnfmeafiaipplaa.S.S39 := ⟨⟨0, 0, 0⟩⟩
open Go.ChangeShapes Go.WideShapes Go.ChangeAt Go.RowKit
open Go.Proofs.Ytnfmeafiaipplaa.S Go.Proofs.Ytnfmeafiaipplaa.Lib Go.Proofs.YtnfmeafiaipplaaW.PrintWords Go.Proofs.YtnfmeafiaipplaaW.PrintLast Go.Proofs.YtnfmeafiaipplaaW.PrintMore
set_option linter.unusedVariables false
set_option maxRecDepth 100000

theorem add_add (a : Addr) (i j : Nat) : (a.add i).add j = a.add (i + j) := by
 unfold Addr.add
 by_cases hi : i = 0
 ·subst hi
  simp
 by_cases hj : j = 0
 ·subst hj
  simp [hi]
 simp [hi, hj, Nat.add_assoc]
theorem cells3 : Try.prog.cellsOf 39 = 3 := by kernel_rfl
theorem cells1 : Try.prog.cellsOf 3 = 1 := by kernel_rfl
section
variable {H : Type} {enc : TypeId × Value → H} {W : World} {base : Nat} {spare : Nat → Bool} {held : Bool}
/-- A node's cells. -/
theorem open_node {fuel : Nat} {cs : List Value} {x : DataW H × List MemPlace} (h : DataW.trod enc Try.prog W base spare held fuel 39 cs = some x) : ∃ n : S39, cs = [.int .i64 n.f0, .int .i64 n.f1, .int .i64 n.f2] := by
 obtain ⟨xs, n, _, _, hl, hxl, hf⟩ := DataW.trod_struct Try.underlying39 h
 rw [cells3] at hl
 obtain ⟨c0, c1, c2, rfl⟩ : ∃ c0 c1 c2, cs = [c0, c1, c2] := by
  match cs, hl with
  | [a, b, c], _ => exact ⟨a, b, c, rfl⟩
 have f0 : DataW.trod enc Try.prog W base spare held n 3 (([c0, c1, c2].drop 0).take (Try.prog.cellsOf 3)) = xs[0]? := hf 0 _ rfl
 have f1 : DataW.trod enc Try.prog W base spare held n 3 (([c0, c1, c2].drop 1).take (Try.prog.cellsOf 3)) = xs[1]? := hf 1 _ rfl
 have f2 : DataW.trod enc Try.prog W base spare held n 3 (([c0, c1, c2].drop 2).take (Try.prog.cellsOf 3)) = xs[2]? := hf 2 _ rfl
 rw [cells1] at f0 f1 f2
 have hxl3 : xs.length = 3 := hxl
 rw [List.getElem?_eq_getElem (by omega)] at f0 f1 f2
 obtain ⟨n0, h0, _⟩ := DataW.trod_int Try.underlying3 f0
 obtain ⟨n1, h1, _⟩ := DataW.trod_int Try.underlying3 f1
 obtain ⟨n2, h2, _⟩ := DataW.trod_int Try.underlying3 f2
 refine ⟨⟨n0, n1, n2⟩, ?_⟩
 simp at h0 h1 h2
 rw [h0, h1, h2]
theorem open_types {a : Option Addr} {len cap : Nat} {d : DataW H} {ps : List MemPlace} (h : DataW.Trod enc Try.prog W base spare held 22 (.slice a len cap) d ps) :
  ∃ zs : List S39, zs.length = len ∧ Kd.C k39 W a zs.length zs ∧ zs.length ≤ cap := by
 obtain ⟨fuel, hf⟩ := h
 rcases Go.Deep.open_slice Try.underlying22 hf with ⟨hcs, _⟩ | ⟨x, l, c, m, n, D, Pl, hcs, _, hl, hm, hmm, _, hx⟩
 ·simp [Value.cells] at hcs
  obtain ⟨rfl, rfl, rfl⟩ := hcs
  exact ⟨[], rfl, ⟨rfl, by simp, fun hp => absurd hp (by simp)⟩, by simp⟩
 simp [Value.cells] at hcs
 obtain ⟨rfl, rfl, rfl⟩ := hcs
 have hlm : len ≤ m := by rw [hmm]; split <;> omega
 obtain ⟨Z, hZ⟩ := Go.Deep.choose_lt (α := S39) (n := len) (p := fun i z => ∀ j u, [Value.int .i64 z.f0, .int .i64 z.f1, .int .i64 z.f2][j]? = some u → W.cell? (x.add (i * 3 + j)) = some u) (fun i hi => by
  obtain ⟨cs', h1, h2⟩ := hx i (by omega)
  obtain ⟨z, rfl⟩ := open_node h2
  obtain ⟨_, _, h3⟩ := World.cells?_some h1
  rw [cells3] at h3
  refine ⟨z, fun j u hu => ?_⟩
  have hj : j < 3 := by
   have := (List.getElem?_eq_some_iff.1 hu).1
   simpa using this
  rw [← add_add, h3 j hj, hu])
 have hml : len ≤ 9223372036854775807 := by simp only [maxLen] at hm; omega
 refine ⟨(List.range len).map Z, by simp, ⟨by simp, by simpa using hml, fun _ => ⟨x, rfl, fun j p hj => ?_⟩⟩, by simpa using hl⟩
 obtain ⟨hj1, hj2⟩ := List.getElem?_eq_some_iff.1 hj
 simp at hj1 hj2
 refine ⟨_, rfl, k39_mk W p, fun i u hu => ?_⟩
 rw [← hj2] at hu
 exact hZ j hj1 i u hu
theorem okWide_array {P : Program} {w : World} {r : Reach} {b0 n : Nat} {t e : TypeId} {v : Value} (ht : P.underlying t = some (.array n e)) (h : Value.okWide P w r b0 t v) : ∃ cs, v = .agg cs ∧ cs.size = P.cellsOf t := by
 simp only [Value.okWide, ht] at h
 obtain ⟨cs, h1, h2, _⟩ := h
 exact ⟨cs, h1, h2⟩
theorem open_two {r : Reach} {b0 : Nat} {v : Value} {d : DataW H} {ps : List MemPlace} (hv : Value.okWide Try.prog W r b0 23 v) (h : DataW.Trod enc Try.prog W base spare held 23 v d ps) :
  ∃ a b : Int, v = .agg #[.int .i64 a, .int .i64 b] ∧ (Lit.int .i64 a).wf = true ∧ (Lit.int .i64 b).wf = true := by
 obtain ⟨cs, rfl, hsz⟩ := okWide_array Try.underlying23 hv
 obtain ⟨fuel, hf⟩ := h
 have hc : Try.prog.cellsOf 23 = 2 := by kernel_rfl
 rw [hc] at hsz
 obtain ⟨xs, m, _, _, _, hxl, hel⟩ := DataW.trod_array Try.underlying23 hf
 obtain ⟨c0, c1, rfl⟩ : ∃ c0 c1, cs = #[c0, c1] := by
  obtain ⟨l⟩ := cs
  match l, hsz with
  | [a, b], _ => exact ⟨a, b, rfl⟩
 have e0 := hel 0 (by omega)
 have e1 := hel 1 (by omega)
 simp only [cells1] at e0 e1
 rw [List.getElem?_eq_getElem (by omega)] at e0 e1
 obtain ⟨n0, h0, _, w0⟩ := DataW.trod_int Try.underlying3 e0
 obtain ⟨n1, h1, _, w1⟩ := DataW.trod_int Try.underlying3 e1
 refine ⟨n0, n1, ?_, w0, w1⟩
 simp [Value.cells] at h0 h1
 rw [h0, h1]
end
instance : Inhabited Go.Proofs.Ytnfmeafiaipplaa.S.S23 := ⟨⟨0, 0⟩⟩
open Go.ChangeShapes Go.WideShapes Go.ChangeAt Go.RowKit
open Go.Proofs.Ytnfmeafiaipplaa.S Go.Proofs.Ytnfmeafiaipplaa.Lib Go.Proofs.YtnfmeafiaipplaaW.PrintWords Go.Proofs.YtnfmeafiaipplaaW.PrintLast Go.Proofs.YtnfmeafiaipplaaW.PrintMore
set_option linter.unusedVariables false
set_option maxRecDepth 100000
theorem cells23 : Try.prog.cellsOf 23 = 2 := by kernel_rfl
section
variable {H : Type} {enc : TypeId × Value → H} {W : World} {base : Nat} {spare : Nat → Bool} {held : Bool}
theorem open_pair {fuel : Nat} {cs : List Value} {x : DataW H × List MemPlace} (hl : cs.length = 2) (h : DataW.trod enc Try.prog W base spare held fuel 23 cs = some x) : ∃ n : S23, cs = [.int .i64 n.f0, .int .i64 n.f1] := by
 obtain ⟨xs, m, _, _, _, hxl, hel⟩ := DataW.trod_array Try.underlying23 h
 obtain ⟨c0, c1, rfl⟩ : ∃ c0 c1, cs = [c0, c1] := by
  match cs, hl with
  | [a, b], _ => exact ⟨a, b, rfl⟩
 have e0 := hel 0 (by omega)
 have e1 := hel 1 (by omega)
 simp only [cells1] at e0 e1
 rw [List.getElem?_eq_getElem (by omega)] at e0 e1
 obtain ⟨n0, h0, _, w0⟩ := DataW.trod_int Try.underlying3 e0
 obtain ⟨n1, h1, _, w1⟩ := DataW.trod_int Try.underlying3 e1
 refine ⟨⟨n0, n1⟩, ?_⟩
 simp at h0 h1
 rw [h0, h1]
theorem open_pairs {fuel : Nat} {v : Value} {x : DataW H × List MemPlace} (hf : DataW.trod enc Try.prog W base spare held fuel 48 [v] = some x) :
  ∃ (a : Option Addr) (cap : Nat) (zs : List S23), v = .slice a zs.length cap ∧ Kd.C k23 W a zs.length zs ∧ zs.length ≤ cap ∧ zs.length ≤ 9223372036854775807 := by
 rcases Go.Deep.open_slice Try.underlying48 hf with ⟨hcs, _⟩ | ⟨x, l, c, m, n, D, Pl, hcs, _, hl, hm, hmm, _, hx⟩
 ·injection hcs with hcs
  exact ⟨none, 0, [], hcs, ⟨rfl, by simp, fun hp => absurd hp (by simp)⟩, by simp, by simp⟩
 injection hcs with hcs
 subst hcs
 have hlm : l ≤ m := by rw [hmm]; split <;> omega
 obtain ⟨Z, hZ⟩ := Go.Deep.choose_lt (α := S23) (n := l) (p := fun i z => ∀ j u, [Value.int .i64 z.f0, .int .i64 z.f1][j]? = some u → W.cell? (x.add (i * 2 + j)) = some u) (fun i hi => by
  obtain ⟨cs', h1, h2⟩ := hx i (by omega)
  obtain ⟨g1, g2, h3⟩ := World.cells?_some h1
  rw [cells23] at h3 g1 g2
  obtain ⟨z, rfl⟩ := open_pair (by first | exact g1 | exact g2 | simpa using g1 | simpa using g2) h2
  refine ⟨z, fun j u hu => ?_⟩
  have hj : j < 2 := by
   have := (List.getElem?_eq_some_iff.1 hu).1
   simpa using this
  rw [← add_add, h3 j hj, hu])
 have hml : l ≤ 9223372036854775807 := by simp only [maxLen] at hm; omega
 refine ⟨some x, c, (List.range l).map Z, by simp, ⟨by simp, by simpa using hml, fun _ => ⟨x, rfl, fun j p hj => ?_⟩⟩, by simpa using hl, by simpa using hml⟩
 obtain ⟨hj1, hj2⟩ := List.getElem?_eq_some_iff.1 hj
 simp at hj1 hj2
 refine ⟨_, rfl, k23_mk W p, fun i u hu => ?_⟩
 rw [← hj2] at hu
 exact hZ j hj1 i u hu
theorem open_finding {r : Reach} {b0 : Nat} {v : Value} {d : DataW H} {ps : List MemPlace} (hv : Value.okWide Try.prog W r b0 55 v) (h : DataW.Trod enc Try.prog W base spare held 55 v d ps) :
  ∃ (b : Bool) (a : Option Addr) (cap : Nat) (L : List S23) (s : ByteArray), v = .agg #[.bool b, .slice a L.length cap, .string s] ∧ Kd.C k23 W a L.length L ∧ L.length ≤ cap ∧ L.length ≤ 9223372036854775807 ∧ s.size ≤ 9223372036854775807 := by
 obtain ⟨u0, u1, u2, y0, y1, y2, n, rfl, _, _, h0, h1, h2⟩ := Go.Joins.open_agg3 Try.underlying55 (by kernel_rfl) (by kernel_rfl) hv h
 obtain ⟨b, hb, _⟩ := DataW.trod_bool Try.underlying4 h0
 obtain ⟨a, cap, L, hL, hC, hc, hlm⟩ := open_pairs h1
 obtain ⟨s, hs, _, hsz⟩ := DataW.trod_string Try.underlying9 h2
 injection hb with hb
 injection hs with hs
 refine ⟨b, a, cap, L, s, by rw [hb, hL, hs], hC, hc, hlm, ?_⟩
 simp only [maxLen] at hsz
 omega
end
end Go.Proofs.Ytnfmeafiaipplaa.Open
