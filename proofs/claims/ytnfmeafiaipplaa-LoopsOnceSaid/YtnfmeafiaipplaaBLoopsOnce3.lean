-- Written by wip/bundle2.py: texts of this claim, one behind the other.
import Derived.Test.YtnfmeafiaipplaaBLoopsOnce2
import Derived.RowKit
import Derived.Test.YtnfmeafiaipplaaVLoopsOnceWords
import Derived.KernelRfl
import Derived.WalkKit
import Derived.ProofKit
import Derived.OpenShut
import Derived.ShutString
import Derived.ChangeOld
import Derived.Below
import Derived.SizedLaws
import Derived.Deep.Slices
import Derived.Laws.IdiomArrays
import Derived.Lib.SmallJoins
set_option linter.unusedVariables false
set_option linter.unusedSimpArgs false

namespace Go.Proofs.Ytnfmeafiaipplaa.S
open Go.Proofs.Ytnfmeafiaipplaa.Lib
open Go.Maps (Keyed)
open Go.RowKit Go.Proofs.YtnfmeafiaipplaaW.PrintWords Go.Proofs.YtnfmeafiaipplaaW.PrintLast Go.Proofs.YtnfmeafiaipplaaW.PrintMore
attribute [local go_sem] max2_int min2_int max_two min_two max_three min_three max_four min_four
set_option linter.unusedVariables false
set_option linter.unusedSimpArgs false

def tickinglaw06_LoopsOnce.j0 : Nat → List (S39) → Int → Int → Bool → Bool → List (S23) → ByteArray → Bool → List (S23) → ByteArray → Option (Bool)
 | 0, _, _, _, _, _, _, _, _, _, _ => none
 | k + 1, x7, x8, x9, x41, x575000, x575001, x575002, x587000, x587001, x587002 => if x41 = true then (some false) else ((tickinglaw06_finding.f x575000 x575001 x575002).bind fun bt588 => (if x587000 = true then ((loops_Check.f k x7 x8 x9 (!x587000) ([] : List (S23)) bt588.2.2).bind fun t594 => (if t594 = 10 then ((tickinglaw06_awake.f k).bind fun t595 => (some t595)) else (some false))) else ((loops_Check.f k x7 x8 x9 (!x587000) bt588.2.1 (⟨#[]⟩ : ByteArray)).bind fun t596 => (if t596 = 10 then ((tickinglaw06_awake.f k).bind fun t597 => (some t597)) else (some false)))))
def tickinglaw06_LoopsOnce.f (k : Nat) (l0 : List (S39)) (a1_0 : Int) (a1_1 : Int) (a2_0 : Bool) (l2_1 : List (S23)) (a2_2 : ByteArray) : Option (Bool) := (tickinglaw06_tame.f k l0 24).bind fun t575 => ((tickinglaw06_mod.f a1_0 (t575.length : Int)).bind fun t578 => ((tickinglaw06_mod.f a1_1 (t575.length : Int)).bind fun t579 => ((loops_Sub.f k t575 t578 t579).bind fun bt580 => (if bt580.2.2.2 = 0 then ((loops_Check.f k t575 t578 t579 bt580.1 bt580.2.1 bt580.2.2.1).bind fun t587 => (tickinglaw06_LoopsOnce.j0 k t575 t578 t579 (t587 != 0) a2_0 l2_1 a2_2 bt580.1 bt580.2.1 bt580.2.2.1)) else (tickinglaw06_LoopsOnce.j0 k t575 t578 t579 true a2_0 l2_1 a2_2 bt580.1 bt580.2.1 bt580.2.2.1)))))
set_option maxHeartbeats 8000000 in
set_option maxRecDepth 100000 in
theorem tickinglaw06_LoopsOnce.calls (k : Nat) (A0 : Option Addr) (c0 : Nat) (l0 : List (S39)) (a1_0 : Int) (a1_1 : Int) (a2_0 : Bool) (A2_1 : Option Addr) (c2_1 : Nat) (l2_1 : List (S23)) (a2_2 : ByteArray) (r : Bool) (w : World) (hr0 : Kd.C k39 w A0 l0.length l0) (hc0 : l0.length ≤ c0) (hr2_1 : Kd.C k23 w A2_1 l2_1.length l2_1) (hc2_1 : l2_1.length ≤ c2_1) (h : tickinglaw06_LoopsOnce.f k l0 a1_0 a1_1 a2_0 l2_1 a2_2 = some r) (htrue : r = true) :
  Calls Try.prog 11 #[.slice A0 l0.length c0, .agg #[.int .i64 a1_0, .int .i64 a1_1], .agg #[.bool a2_0, .slice A2_1 l2_1.length c2_1, .string a2_2]] w fun e w' => e = .returned (.bool r) ∧ Below w.heap.size w w' := by
 have HTR := Aside0.mk htrue
 clear htrue
 have hu23 := Try.underlying23
 have hu55 := Try.underlying55
 have HR0 := Aside0.mk hr0
 have HC0 := Aside0.mk hc0
 clear hr0 hc0
 have HR2_1 := Aside0.mk hr2_1
 have HC2_1 := Aside0.mk hc2_1
 clear hr2_1 hc2_1
 have HB := Aside0.mk (Below.refl w.heap.size w)
 have H : ((tickinglaw06_tame.f k l0 24).bind fun t575 => ((tickinglaw06_mod.f a1_0 (t575.length : Int)).bind fun t578 => ((tickinglaw06_mod.f a1_1 (t575.length : Int)).bind fun t579 => ((loops_Sub.f k t575 t578 t579).bind fun bt580 => (if bt580.2.2.2 = 0 then ((loops_Check.f k t575 t578 t579 bt580.1 bt580.2.1 bt580.2.2.1).bind fun t587 => (tickinglaw06_LoopsOnce.j0 k t575 t578 t579 (t587 != 0) a2_0 l2_1 a2_2 bt580.1 bt580.2.1 bt580.2.2.1)) else (tickinglaw06_LoopsOnce.j0 k t575 t578 t579 true a2_0 l2_1 a2_2 bt580.1 bt580.2.1 bt580.2.2.1)))))) = some r := h
 clear h
 replace H := Option.bind_eq_some_iff.mp H
 obtain ⟨t575, A40, H⟩ := H
 replace H : ((tickinglaw06_mod.f a1_0 (t575.length : Int)).bind fun t578 => ((tickinglaw06_mod.f a1_1 (t575.length : Int)).bind fun t579 => ((loops_Sub.f k t575 t578 t579).bind fun bt580 => (if bt580.2.2.2 = 0 then ((loops_Check.f k t575 t578 t579 bt580.1 bt580.2.1 bt580.2.2.1).bind fun t587 => (tickinglaw06_LoopsOnce.j0 k t575 t578 t579 (t587 != 0) a2_0 l2_1 a2_2 bt580.1 bt580.2.1 bt580.2.2.1)) else (tickinglaw06_LoopsOnce.j0 k t575 t578 t579 true a2_0 l2_1 a2_2 bt580.1 bt580.2.1 bt580.2.2.1))))) = some r := H
 have A4 := Aside0.mk A40
 clear A40
 replace H := Option.bind_eq_some_iff.mp H
 obtain ⟨t578, A50, H⟩ := H
 replace H : ((tickinglaw06_mod.f a1_1 (t575.length : Int)).bind fun t579 => ((loops_Sub.f k t575 t578 t579).bind fun bt580 => (if bt580.2.2.2 = 0 then ((loops_Check.f k t575 t578 t579 bt580.1 bt580.2.1 bt580.2.2.1).bind fun t587 => (tickinglaw06_LoopsOnce.j0 k t575 t578 t579 (t587 != 0) a2_0 l2_1 a2_2 bt580.1 bt580.2.1 bt580.2.2.1)) else (tickinglaw06_LoopsOnce.j0 k t575 t578 t579 true a2_0 l2_1 a2_2 bt580.1 bt580.2.1 bt580.2.2.1)))) = some r := H
 have A5 := Aside0.mk A50
 clear A50
 replace H := Option.bind_eq_some_iff.mp H
 obtain ⟨t579, A60, H⟩ := H
 replace H : ((loops_Sub.f k t575 t578 t579).bind fun bt580 => (if bt580.2.2.2 = 0 then ((loops_Check.f k t575 t578 t579 bt580.1 bt580.2.1 bt580.2.2.1).bind fun t587 => (tickinglaw06_LoopsOnce.j0 k t575 t578 t579 (t587 != 0) a2_0 l2_1 a2_2 bt580.1 bt580.2.1 bt580.2.2.1)) else (tickinglaw06_LoopsOnce.j0 k t575 t578 t579 true a2_0 l2_1 a2_2 bt580.1 bt580.2.1 bt580.2.2.1))) = some r := H
 have A6 := Aside0.mk A60
 clear A60
 replace H := Option.bind_eq_some_iff.mp H
 obtain ⟨⟨t580, t581, t584, t585⟩, A70, H⟩ := H
 replace H : (if t585 = 0 then ((loops_Check.f k t575 t578 t579 t580 t581 t584).bind fun t587 => (tickinglaw06_LoopsOnce.j0 k t575 t578 t579 (t587 != 0) a2_0 l2_1 a2_2 t580 t581 t584)) else (tickinglaw06_LoopsOnce.j0 k t575 t578 t579 true a2_0 l2_1 a2_2 t580 t581 t584)) = some r := H
 have A7 := Aside0.mk A70
 clear A70
 have HC8 := Aside0.mk H
 clear H
 go_enter Try.func11, Try.ntmps11
 go_upto_region 4 with (first | ((with_reducible refine gate_dst (N := 4) rfl ?_); refine box_event ?hg (N := 4) ?hd (cs := #[.int .i64 a1_0, .int .i64 a1_1]) (t := 23) ?hr ?_; (case hd => rfl); (case hg => rfl); (case hr => first | (go_simp; done) | (go_simp; rfl)); intro gb573 hg w9 hbox hb; have n0_ := Aside0.mk (below_step (by repeat (first | (with_reducible first | exact HB.out | apply below_alloc | apply pw_below_drewN | apply below_drew1) | exact HB.out)) hb); have n1_ := Aside0.mk (hbox); have n2_ := Aside0.mk ((by rw [hg]; exact (below_size (by repeat (first | (with_reducible first | exact HB.out | apply below_alloc | apply pw_below_drewN | apply below_drew1) | exact HB.out))) : w.heap.size ≤ gb573)); have n3_ := Aside0.mk ((by rw [hg]; exact (below_size (by repeat (first | (with_reducible first | exact HB.out | apply below_alloc | apply pw_below_drewN | apply below_drew1) | exact HB.out))) : w.heap.size ≤ gb573)); clear HB; have HB := n0_; have BK573 := n1_; have GW573 := n2_; have GE573 := n3_; clear n0_ n1_ n2_ n3_; clear hb hbox hg) | ((with_reducible refine gate_dst (N := 5) rfl ?_); refine box_event ?hg (N := 5) ?hd (cs := #[.bool a2_0, .slice A2_1 l2_1.length c2_1, .string a2_2]) (t := 55) ?hr ?_; (case hd => rfl); (case hg => rfl); (case hr => first | (go_simp; done) | (go_simp; rfl)); intro gb574 hg w10 hbox hb; have n0_ := Aside0.mk (blk_below (g := gb573) (o := .cells #[.int .i64 a1_0, .int .i64 a1_1] 23 (0, 0)) (by (with_reducible repeat (first | refine blk_drewN ?_ _ | refine blk_drew ?_ | refine blk_alloc ?_ _)); exact BK573.out) hb); have n1_ := Aside0.mk (below_step (by repeat (first | (with_reducible first | exact HB.out | apply below_alloc | apply pw_below_drewN | apply below_drew1 | refine below_set ?_ GE573.out) | exact HB.out)) hb); have n2_ := Aside0.mk (hbox); have n3_ := Aside0.mk ((by rw [hg]; exact (below_size (by repeat (first | (with_reducible first | exact HB.out | apply below_alloc | apply pw_below_drewN | apply below_drew1 | refine below_set ?_ GE573.out) | exact HB.out))) : w.heap.size ≤ gb574)); have n4_ := Aside0.mk ((by rw [hg]; exact (below_size (by repeat (first | (with_reducible first | exact HB.out | apply below_alloc | apply pw_below_drewN | apply below_drew1 | refine below_set ?_ GE573.out) | exact HB.out))) : w.heap.size ≤ gb574)); have n5_ := Aside0.mk ((by rw [hg]; exact Nat.ne_of_lt (blk_lt (g := gb573) (o := .cells #[.int .i64 a1_0, .int .i64 a1_1] 23 (0, 0)) (by (with_reducible repeat (first | refine blk_drewN ?_ _ | refine blk_drew ?_ | refine blk_alloc ?_ _)); exact BK573.out)) : gb573 ≠ gb574)); have n6_ := Aside0.mk ((by rw [hg]; exact Nat.ne_of_gt (blk_lt (g := gb573) (o := .cells #[.int .i64 a1_0, .int .i64 a1_1] 23 (0, 0)) (by (with_reducible repeat (first | refine blk_drewN ?_ _ | refine blk_drew ?_ | refine blk_alloc ?_ _)); exact BK573.out)) : gb574 ≠ gb573)); clear BK573; clear HB; have BK573 := n0_; have HB := n1_; have BK574 := n2_; have GW574 := n3_; have GE574 := n4_; have NB573_574 := n5_; have NB574_573 := n6_; clear n0_ n1_ n2_ n3_ n4_ n5_ n6_; clear hb hbox hg) | (go_at_call 23; (with_reducible refine (tickinglaw06_tame.calls k _ _ l0 24 t575 _ ?side1 ?side2 A4.out).mono ?_); (case side1 => repeat (first | exact (Kd.C_below HR0.out HB.out) | (with_reducible refine Kd.C_alloc ?_ _) | (with_reducible refine Kd.C_drewN ?_ _) | (with_reducible refine Kd.C_drew ?_))); (case side2 => exact HC0.out); rintro e w11 ⟨v576, rfl, ho0, hb⟩; have n0_ := Aside0.mk (Kd.R_lower ho0 (below_size (by repeat (first | (with_reducible first | exact HB.out | apply below_alloc | apply pw_below_drewN | apply below_drew1 | refine below_set ?_ GE573.out | refine below_set ?_ GE574.out) | exact HB.out)))); have n1_ := Aside0.mk (blk_below (g := gb573) (o := .cells #[.int .i64 a1_0, .int .i64 a1_1] 23 (0, 0)) (by (with_reducible repeat (first | refine blk_drewN ?_ _ | refine blk_drew ?_ | refine blk_alloc ?_ _)); exact BK573.out) hb); have n2_ := Aside0.mk (blk_below (g := gb574) (o := .cells #[.bool a2_0, .slice A2_1 l2_1.length c2_1, .string a2_2] 55 (0, 0)) (by (with_reducible repeat (first | refine blk_drewN ?_ _ | refine blk_drew ?_ | refine blk_alloc ?_ _)); exact BK574.out) hb); have n3_ := Aside0.mk (below_step (by repeat (first | (with_reducible first | exact HB.out | apply below_alloc | apply pw_below_drewN | apply below_drew1 | refine below_set ?_ GE573.out | refine below_set ?_ GE574.out) | exact HB.out)) hb); clear BK573; clear BK574; clear HB; have HO577 := n0_; have BK573 := n1_; have BK574 := n2_; have HB := n3_; clear n0_ n1_ n2_ n3_; (try clear hb); (try clear hb2); (try clear hk); (try clear hi); (try clear ho0); have hnb12 := NB573_574.out; have hnc12 := NB574_573.out; have hcz13_0 : w11.cell? ⟨gb573, 0, none⟩ = some (.int .i64 a1_0) := (blk_cell BK573.out 0).trans rfl; have hcz13_1 : w11.cell? ⟨gb573, 1, none⟩ = some (.int .i64 a1_1) := (blk_cell BK573.out 1).trans rfl; have hfz13_0 := blk_frozen BK573.out 0; have hfz13_1 := blk_frozen BK573.out 1; obtain ⟨Ao14, co14, eo14⟩ := Kd.R_slice HO577.out; subst eo14) | (go_at_call 24; (with_reducible refine (tickinglaw06_mod.calls a1_0 (t575.length : Int) t578 _ A5.out).mono ?_); rintro e w' ⟨rfl, ⟨nd, rfl⟩⟩; (try first | exact ⟨rfl, _, World.drewN_drewN _ _ _⟩ | exact ⟨rfl, _, Eq.trans (World.drewN_drewN _ _ _) (congrArg (World.drewN _) (Nat.add_assoc _ _ _))⟩)) | (go_at_call 24; (with_reducible refine (tickinglaw06_mod.calls a1_1 (t575.length : Int) t579 _ A6.out).mono ?_); rintro e w' ⟨rfl, ⟨nd, rfl⟩⟩; (try first | exact ⟨rfl, _, World.drewN_drewN _ _ _⟩ | exact ⟨rfl, _, Eq.trans (World.drewN_drewN _ _ _) (congrArg (World.drewN _) (Nat.add_assoc _ _ _))⟩)) | (go_at_call 33; (with_reducible refine (loops_Sub.calls k _ _ t575 t578 t579 t580 t581 t584 t585 _ ?side1 ?side2 A7.out).mono ?_); (case side1 => repeat (first | exact (Kd.R_reads' HO577.out).2.2 | (with_reducible refine Kd.C_alloc ?_ _) | (with_reducible refine Kd.C_drewN ?_ _) | (with_reducible refine Kd.C_drew ?_))); (case side2 => exact (Kd.R_reads' HO577.out).2.1); rintro e w15 ⟨v582, rfl, ho0, hb⟩; have n0_ := Aside0.mk (Kd.R_below (by (with_reducible repeat (first | apply Kd.R_alloc | apply Kd.R_drewN | apply Kd.R_drew)); exact HO577.out) hb); have n1_ := Aside0.mk (Kd.R_lower (Kd.R_newB ho0 (g := gb573) (o := .cells #[.int .i64 a1_0, .int .i64 a1_1] 23 (0, 0)) (by (with_reducible repeat (first | refine blk_drewN ?_ _ | refine blk_drew ?_ | refine blk_alloc ?_ _)); exact BK573.out)) (below_size (by repeat (first | (with_reducible first | exact HB.out | apply below_alloc | apply pw_below_drewN | apply below_drew1 | refine below_set ?_ GE573.out | refine below_set ?_ GE574.out) | exact HB.out)))); have n2_ := Aside0.mk (blk_below (g := gb573) (o := .cells #[.int .i64 a1_0, .int .i64 a1_1] 23 (0, 0)) (by (with_reducible repeat (first | refine blk_drewN ?_ _ | refine blk_drew ?_ | refine blk_alloc ?_ _)); exact BK573.out) hb); have n3_ := Aside0.mk (blk_below (g := gb574) (o := .cells #[.bool a2_0, .slice A2_1 l2_1.length c2_1, .string a2_2] 55 (0, 0)) (by (with_reducible repeat (first | refine blk_drewN ?_ _ | refine blk_drew ?_ | refine blk_alloc ?_ _)); exact BK574.out) hb); have n4_ := Aside0.mk (below_step (by repeat (first | (with_reducible first | exact HB.out | apply below_alloc | apply pw_below_drewN | apply below_drew1 | refine below_set ?_ GE573.out | refine below_set ?_ GE574.out) | exact HB.out)) hb); clear HO577; clear BK573; clear BK574; clear HB; have HO577 := n0_; have HO583 := n1_; have BK573 := n2_; have BK574 := n3_; have HB := n4_; clear n0_ n1_ n2_ n3_ n4_; (try clear hb); (try clear hb2); (try clear hk); (try clear hi); (try clear ho0)) | ((with_reducible refine gate_dst (N := 10) rfl ?_); refine box_event ?hg (N := 10) ?hd (cs := #[.bool false, .slice none 0 0, .string (⟨#[]⟩ : ByteArray)]) (t := 55) ?hr ?_; (case hd => rfl); (case hg => rfl); (case hr => first | (go_simp; done) | (go_simp; rfl)); intro gb586 hg w16 hbox hb; have n0_ := Aside0.mk (Kd.R_below (by (with_reducible repeat (first | apply Kd.R_alloc | apply Kd.R_drewN | apply Kd.R_drew)); exact HO577.out) hb); have n1_ := Aside0.mk (Kd.R_below (by (with_reducible repeat (first | apply Kd.R_alloc | apply Kd.R_drewN | apply Kd.R_drew)); exact HO583.out) hb); have n2_ := Aside0.mk (blk_below (g := gb573) (o := .cells #[.int .i64 a1_0, .int .i64 a1_1] 23 (0, 0)) (by (with_reducible repeat (first | refine blk_drewN ?_ _ | refine blk_drew ?_ | refine blk_alloc ?_ _)); exact BK573.out) hb); have n3_ := Aside0.mk (blk_below (g := gb574) (o := .cells #[.bool a2_0, .slice A2_1 l2_1.length c2_1, .string a2_2] 55 (0, 0)) (by (with_reducible repeat (first | refine blk_drewN ?_ _ | refine blk_drew ?_ | refine blk_alloc ?_ _)); exact BK574.out) hb); have n4_ := Aside0.mk (below_step (by repeat (first | (with_reducible first | exact HB.out | apply below_alloc | apply pw_below_drewN | apply below_drew1 | refine below_set ?_ GE573.out | refine below_set ?_ GE574.out) | exact HB.out)) hb); have n5_ := Aside0.mk (hbox); have n6_ := Aside0.mk ((by rw [hg]; exact (below_size (by repeat (first | (with_reducible first | exact HB.out | apply below_alloc | apply pw_below_drewN | apply below_drew1 | refine below_set ?_ GE573.out | refine below_set ?_ GE574.out) | exact HB.out))) : w.heap.size ≤ gb586)); have n7_ := Aside0.mk ((by rw [hg]; exact (below_size (by repeat (first | (with_reducible first | exact HB.out | apply below_alloc | apply pw_below_drewN | apply below_drew1 | refine below_set ?_ GE573.out | refine below_set ?_ GE574.out) | exact HB.out))) : w.heap.size ≤ gb586)); have n8_ := Aside0.mk ((by rw [hg]; exact Nat.ne_of_lt (blk_lt (g := gb573) (o := .cells #[.int .i64 a1_0, .int .i64 a1_1] 23 (0, 0)) (by (with_reducible repeat (first | refine blk_drewN ?_ _ | refine blk_drew ?_ | refine blk_alloc ?_ _)); exact BK573.out)) : gb573 ≠ gb586)); have n9_ := Aside0.mk ((by rw [hg]; exact Nat.ne_of_gt (blk_lt (g := gb573) (o := .cells #[.int .i64 a1_0, .int .i64 a1_1] 23 (0, 0)) (by (with_reducible repeat (first | refine blk_drewN ?_ _ | refine blk_drew ?_ | refine blk_alloc ?_ _)); exact BK573.out)) : gb586 ≠ gb573)); have n10_ := Aside0.mk ((by rw [hg]; exact Nat.ne_of_lt (blk_lt (g := gb574) (o := .cells #[.bool a2_0, .slice A2_1 l2_1.length c2_1, .string a2_2] 55 (0, 0)) (by (with_reducible repeat (first | refine blk_drewN ?_ _ | refine blk_drew ?_ | refine blk_alloc ?_ _)); exact BK574.out)) : gb574 ≠ gb586)); have n11_ := Aside0.mk ((by rw [hg]; exact Nat.ne_of_gt (blk_lt (g := gb574) (o := .cells #[.bool a2_0, .slice A2_1 l2_1.length c2_1, .string a2_2] 55 (0, 0)) (by (with_reducible repeat (first | refine blk_drewN ?_ _ | refine blk_drew ?_ | refine blk_alloc ?_ _)); exact BK574.out)) : gb586 ≠ gb574)); clear HO577; clear HO583; clear BK573; clear BK574; clear HB; have HO577 := n0_; have HO583 := n1_; have BK573 := n2_; have BK574 := n3_; have HB := n4_; have BK586 := n5_; have GW586 := n6_; have GE586 := n7_; have NB573_586 := n8_; have NB586_573 := n9_; have NB574_586 := n10_; have NB586_574 := n11_; clear n0_ n1_ n2_ n3_ n4_ n5_ n6_ n7_ n8_ n9_ n10_ n11_; clear hb hbox hg; have hnb17 := NB586_573.out; have hnc17 := NB573_586.out; have hnb18 := NB586_574.out; have hnc18 := NB574_586.out; have hcz19_0 : w16.cell? ⟨gb586, 0, none⟩ = some (.bool false) := (blk_cell BK586.out 0).trans rfl; have hcz19_1 : w16.cell? ⟨gb586, 1, none⟩ = some (.slice none 0 0) := (blk_cell BK586.out 1).trans rfl; have hcz19_2 : w16.cell? ⟨gb586, 2, none⟩ = some (.string (⟨#[]⟩ : ByteArray)) := (blk_cell BK586.out 2).trans rfl; have hfz19_0 := blk_frozen BK586.out 0; have hfz19_1 := blk_frozen BK586.out 1; have hfz19_2 := blk_frozen BK586.out 2; obtain ⟨Ao20, co20, eo20⟩ := Kd.R_slice HO583.out; subst eo20))
 repeat (go_quiet (first | ((with_reducible refine gate_dst (N := 4) rfl ?_); refine box_event ?hg (N := 4) ?hd (cs := #[.int .i64 a1_0, .int .i64 a1_1]) (t := 23) ?hr ?_; (case hd => rfl); (case hg => rfl); (case hr => first | (go_simp; done) | (go_simp; rfl)); intro gb573 hg w9 hbox hb; have n0_ := Aside0.mk (below_step (by repeat (first | (with_reducible first | exact HB.out | apply below_alloc | apply pw_below_drewN | apply below_drew1) | exact HB.out)) hb); have n1_ := Aside0.mk (hbox); have n2_ := Aside0.mk ((by rw [hg]; exact (below_size (by repeat (first | (with_reducible first | exact HB.out | apply below_alloc | apply pw_below_drewN | apply below_drew1) | exact HB.out))) : w.heap.size ≤ gb573)); have n3_ := Aside0.mk ((by rw [hg]; exact (below_size (by repeat (first | (with_reducible first | exact HB.out | apply below_alloc | apply pw_below_drewN | apply below_drew1) | exact HB.out))) : w.heap.size ≤ gb573)); clear HB; have HB := n0_; have BK573 := n1_; have GW573 := n2_; have GE573 := n3_; clear n0_ n1_ n2_ n3_; clear hb hbox hg) | ((with_reducible refine gate_dst (N := 5) rfl ?_); refine box_event ?hg (N := 5) ?hd (cs := #[.bool a2_0, .slice A2_1 l2_1.length c2_1, .string a2_2]) (t := 55) ?hr ?_; (case hd => rfl); (case hg => rfl); (case hr => first | (go_simp; done) | (go_simp; rfl)); intro gb574 hg w10 hbox hb; have n0_ := Aside0.mk (blk_below (g := gb573) (o := .cells #[.int .i64 a1_0, .int .i64 a1_1] 23 (0, 0)) (by (with_reducible repeat (first | refine blk_drewN ?_ _ | refine blk_drew ?_ | refine blk_alloc ?_ _)); exact BK573.out) hb); have n1_ := Aside0.mk (below_step (by repeat (first | (with_reducible first | exact HB.out | apply below_alloc | apply pw_below_drewN | apply below_drew1 | refine below_set ?_ GE573.out) | exact HB.out)) hb); have n2_ := Aside0.mk (hbox); have n3_ := Aside0.mk ((by rw [hg]; exact (below_size (by repeat (first | (with_reducible first | exact HB.out | apply below_alloc | apply pw_below_drewN | apply below_drew1 | refine below_set ?_ GE573.out) | exact HB.out))) : w.heap.size ≤ gb574)); have n4_ := Aside0.mk ((by rw [hg]; exact (below_size (by repeat (first | (with_reducible first | exact HB.out | apply below_alloc | apply pw_below_drewN | apply below_drew1 | refine below_set ?_ GE573.out) | exact HB.out))) : w.heap.size ≤ gb574)); have n5_ := Aside0.mk ((by rw [hg]; exact Nat.ne_of_lt (blk_lt (g := gb573) (o := .cells #[.int .i64 a1_0, .int .i64 a1_1] 23 (0, 0)) (by (with_reducible repeat (first | refine blk_drewN ?_ _ | refine blk_drew ?_ | refine blk_alloc ?_ _)); exact BK573.out)) : gb573 ≠ gb574)); have n6_ := Aside0.mk ((by rw [hg]; exact Nat.ne_of_gt (blk_lt (g := gb573) (o := .cells #[.int .i64 a1_0, .int .i64 a1_1] 23 (0, 0)) (by (with_reducible repeat (first | refine blk_drewN ?_ _ | refine blk_drew ?_ | refine blk_alloc ?_ _)); exact BK573.out)) : gb574 ≠ gb573)); clear BK573; clear HB; have BK573 := n0_; have HB := n1_; have BK574 := n2_; have GW574 := n3_; have GE574 := n4_; have NB573_574 := n5_; have NB574_573 := n6_; clear n0_ n1_ n2_ n3_ n4_ n5_ n6_; clear hb hbox hg) | (go_at_call 23; (with_reducible refine (tickinglaw06_tame.calls k _ _ l0 24 t575 _ ?side1 ?side2 A4.out).mono ?_); (case side1 => repeat (first | exact (Kd.C_below HR0.out HB.out) | (with_reducible refine Kd.C_alloc ?_ _) | (with_reducible refine Kd.C_drewN ?_ _) | (with_reducible refine Kd.C_drew ?_))); (case side2 => exact HC0.out); rintro e w11 ⟨v576, rfl, ho0, hb⟩; have n0_ := Aside0.mk (Kd.R_lower ho0 (below_size (by repeat (first | (with_reducible first | exact HB.out | apply below_alloc | apply pw_below_drewN | apply below_drew1 | refine below_set ?_ GE573.out | refine below_set ?_ GE574.out) | exact HB.out)))); have n1_ := Aside0.mk (blk_below (g := gb573) (o := .cells #[.int .i64 a1_0, .int .i64 a1_1] 23 (0, 0)) (by (with_reducible repeat (first | refine blk_drewN ?_ _ | refine blk_drew ?_ | refine blk_alloc ?_ _)); exact BK573.out) hb); have n2_ := Aside0.mk (blk_below (g := gb574) (o := .cells #[.bool a2_0, .slice A2_1 l2_1.length c2_1, .string a2_2] 55 (0, 0)) (by (with_reducible repeat (first | refine blk_drewN ?_ _ | refine blk_drew ?_ | refine blk_alloc ?_ _)); exact BK574.out) hb); have n3_ := Aside0.mk (below_step (by repeat (first | (with_reducible first | exact HB.out | apply below_alloc | apply pw_below_drewN | apply below_drew1 | refine below_set ?_ GE573.out | refine below_set ?_ GE574.out) | exact HB.out)) hb); clear BK573; clear BK574; clear HB; have HO577 := n0_; have BK573 := n1_; have BK574 := n2_; have HB := n3_; clear n0_ n1_ n2_ n3_; (try clear hb); (try clear hb2); (try clear hk); (try clear hi); (try clear ho0); have hnb12 := NB573_574.out; have hnc12 := NB574_573.out; have hcz13_0 : w11.cell? ⟨gb573, 0, none⟩ = some (.int .i64 a1_0) := (blk_cell BK573.out 0).trans rfl; have hcz13_1 : w11.cell? ⟨gb573, 1, none⟩ = some (.int .i64 a1_1) := (blk_cell BK573.out 1).trans rfl; have hfz13_0 := blk_frozen BK573.out 0; have hfz13_1 := blk_frozen BK573.out 1; obtain ⟨Ao14, co14, eo14⟩ := Kd.R_slice HO577.out; subst eo14) | (go_at_call 24; (with_reducible refine (tickinglaw06_mod.calls a1_0 (t575.length : Int) t578 _ A5.out).mono ?_); rintro e w' ⟨rfl, ⟨nd, rfl⟩⟩; (try first | exact ⟨rfl, _, World.drewN_drewN _ _ _⟩ | exact ⟨rfl, _, Eq.trans (World.drewN_drewN _ _ _) (congrArg (World.drewN _) (Nat.add_assoc _ _ _))⟩)) | (go_at_call 24; (with_reducible refine (tickinglaw06_mod.calls a1_1 (t575.length : Int) t579 _ A6.out).mono ?_); rintro e w' ⟨rfl, ⟨nd, rfl⟩⟩; (try first | exact ⟨rfl, _, World.drewN_drewN _ _ _⟩ | exact ⟨rfl, _, Eq.trans (World.drewN_drewN _ _ _) (congrArg (World.drewN _) (Nat.add_assoc _ _ _))⟩)) | (go_at_call 33; (with_reducible refine (loops_Sub.calls k _ _ t575 t578 t579 t580 t581 t584 t585 _ ?side1 ?side2 A7.out).mono ?_); (case side1 => repeat (first | exact (Kd.R_reads' HO577.out).2.2 | (with_reducible refine Kd.C_alloc ?_ _) | (with_reducible refine Kd.C_drewN ?_ _) | (with_reducible refine Kd.C_drew ?_))); (case side2 => exact (Kd.R_reads' HO577.out).2.1); rintro e w15 ⟨v582, rfl, ho0, hb⟩; have n0_ := Aside0.mk (Kd.R_below (by (with_reducible repeat (first | apply Kd.R_alloc | apply Kd.R_drewN | apply Kd.R_drew)); exact HO577.out) hb); have n1_ := Aside0.mk (Kd.R_lower (Kd.R_newB ho0 (g := gb573) (o := .cells #[.int .i64 a1_0, .int .i64 a1_1] 23 (0, 0)) (by (with_reducible repeat (first | refine blk_drewN ?_ _ | refine blk_drew ?_ | refine blk_alloc ?_ _)); exact BK573.out)) (below_size (by repeat (first | (with_reducible first | exact HB.out | apply below_alloc | apply pw_below_drewN | apply below_drew1 | refine below_set ?_ GE573.out | refine below_set ?_ GE574.out) | exact HB.out)))); have n2_ := Aside0.mk (blk_below (g := gb573) (o := .cells #[.int .i64 a1_0, .int .i64 a1_1] 23 (0, 0)) (by (with_reducible repeat (first | refine blk_drewN ?_ _ | refine blk_drew ?_ | refine blk_alloc ?_ _)); exact BK573.out) hb); have n3_ := Aside0.mk (blk_below (g := gb574) (o := .cells #[.bool a2_0, .slice A2_1 l2_1.length c2_1, .string a2_2] 55 (0, 0)) (by (with_reducible repeat (first | refine blk_drewN ?_ _ | refine blk_drew ?_ | refine blk_alloc ?_ _)); exact BK574.out) hb); have n4_ := Aside0.mk (below_step (by repeat (first | (with_reducible first | exact HB.out | apply below_alloc | apply pw_below_drewN | apply below_drew1 | refine below_set ?_ GE573.out | refine below_set ?_ GE574.out) | exact HB.out)) hb); clear HO577; clear BK573; clear BK574; clear HB; have HO577 := n0_; have HO583 := n1_; have BK573 := n2_; have BK574 := n3_; have HB := n4_; clear n0_ n1_ n2_ n3_ n4_; (try clear hb); (try clear hb2); (try clear hk); (try clear hi); (try clear ho0)) | ((with_reducible refine gate_dst (N := 10) rfl ?_); refine box_event ?hg (N := 10) ?hd (cs := #[.bool false, .slice none 0 0, .string (⟨#[]⟩ : ByteArray)]) (t := 55) ?hr ?_; (case hd => rfl); (case hg => rfl); (case hr => first | (go_simp; done) | (go_simp; rfl)); intro gb586 hg w16 hbox hb; have n0_ := Aside0.mk (Kd.R_below (by (with_reducible repeat (first | apply Kd.R_alloc | apply Kd.R_drewN | apply Kd.R_drew)); exact HO577.out) hb); have n1_ := Aside0.mk (Kd.R_below (by (with_reducible repeat (first | apply Kd.R_alloc | apply Kd.R_drewN | apply Kd.R_drew)); exact HO583.out) hb); have n2_ := Aside0.mk (blk_below (g := gb573) (o := .cells #[.int .i64 a1_0, .int .i64 a1_1] 23 (0, 0)) (by (with_reducible repeat (first | refine blk_drewN ?_ _ | refine blk_drew ?_ | refine blk_alloc ?_ _)); exact BK573.out) hb); have n3_ := Aside0.mk (blk_below (g := gb574) (o := .cells #[.bool a2_0, .slice A2_1 l2_1.length c2_1, .string a2_2] 55 (0, 0)) (by (with_reducible repeat (first | refine blk_drewN ?_ _ | refine blk_drew ?_ | refine blk_alloc ?_ _)); exact BK574.out) hb); have n4_ := Aside0.mk (below_step (by repeat (first | (with_reducible first | exact HB.out | apply below_alloc | apply pw_below_drewN | apply below_drew1 | refine below_set ?_ GE573.out | refine below_set ?_ GE574.out) | exact HB.out)) hb); have n5_ := Aside0.mk (hbox); have n6_ := Aside0.mk ((by rw [hg]; exact (below_size (by repeat (first | (with_reducible first | exact HB.out | apply below_alloc | apply pw_below_drewN | apply below_drew1 | refine below_set ?_ GE573.out | refine below_set ?_ GE574.out) | exact HB.out))) : w.heap.size ≤ gb586)); have n7_ := Aside0.mk ((by rw [hg]; exact (below_size (by repeat (first | (with_reducible first | exact HB.out | apply below_alloc | apply pw_below_drewN | apply below_drew1 | refine below_set ?_ GE573.out | refine below_set ?_ GE574.out) | exact HB.out))) : w.heap.size ≤ gb586)); have n8_ := Aside0.mk ((by rw [hg]; exact Nat.ne_of_lt (blk_lt (g := gb573) (o := .cells #[.int .i64 a1_0, .int .i64 a1_1] 23 (0, 0)) (by (with_reducible repeat (first | refine blk_drewN ?_ _ | refine blk_drew ?_ | refine blk_alloc ?_ _)); exact BK573.out)) : gb573 ≠ gb586)); have n9_ := Aside0.mk ((by rw [hg]; exact Nat.ne_of_gt (blk_lt (g := gb573) (o := .cells #[.int .i64 a1_0, .int .i64 a1_1] 23 (0, 0)) (by (with_reducible repeat (first | refine blk_drewN ?_ _ | refine blk_drew ?_ | refine blk_alloc ?_ _)); exact BK573.out)) : gb586 ≠ gb573)); have n10_ := Aside0.mk ((by rw [hg]; exact Nat.ne_of_lt (blk_lt (g := gb574) (o := .cells #[.bool a2_0, .slice A2_1 l2_1.length c2_1, .string a2_2] 55 (0, 0)) (by (with_reducible repeat (first | refine blk_drewN ?_ _ | refine blk_drew ?_ | refine blk_alloc ?_ _)); exact BK574.out)) : gb574 ≠ gb586)); have n11_ := Aside0.mk ((by rw [hg]; exact Nat.ne_of_gt (blk_lt (g := gb574) (o := .cells #[.bool a2_0, .slice A2_1 l2_1.length c2_1, .string a2_2] 55 (0, 0)) (by (with_reducible repeat (first | refine blk_drewN ?_ _ | refine blk_drew ?_ | refine blk_alloc ?_ _)); exact BK574.out)) : gb586 ≠ gb574)); clear HO577; clear HO583; clear BK573; clear BK574; clear HB; have HO577 := n0_; have HO583 := n1_; have BK573 := n2_; have BK574 := n3_; have HB := n4_; have BK586 := n5_; have GW586 := n6_; have GE586 := n7_; have NB573_586 := n8_; have NB586_573 := n9_; have NB574_586 := n10_; have NB586_574 := n11_; clear n0_ n1_ n2_ n3_ n4_ n5_ n6_ n7_ n8_ n9_ n10_ n11_; clear hb hbox hg; have hnb17 := NB586_573.out; have hnc17 := NB573_586.out; have hnb18 := NB586_574.out; have hnc18 := NB574_586.out; have hcz19_0 : w16.cell? ⟨gb586, 0, none⟩ = some (.bool false) := (blk_cell BK586.out 0).trans rfl; have hcz19_1 : w16.cell? ⟨gb586, 1, none⟩ = some (.slice none 0 0) := (blk_cell BK586.out 1).trans rfl; have hcz19_2 : w16.cell? ⟨gb586, 2, none⟩ = some (.string (⟨#[]⟩ : ByteArray)) := (blk_cell BK586.out 2).trans rfl; have hfz19_0 := blk_frozen BK586.out 0; have hfz19_1 := blk_frozen BK586.out 1; have hfz19_2 := blk_frozen BK586.out 2; obtain ⟨Ao20, co20, eo20⟩ := Kd.R_slice HO583.out; subst eo20)); go_upto_region 4 with (first | ((with_reducible refine gate_dst (N := 4) rfl ?_); refine box_event ?hg (N := 4) ?hd (cs := #[.int .i64 a1_0, .int .i64 a1_1]) (t := 23) ?hr ?_; (case hd => rfl); (case hg => rfl); (case hr => first | (go_simp; done) | (go_simp; rfl)); intro gb573 hg w9 hbox hb; have n0_ := Aside0.mk (below_step (by repeat (first | (with_reducible first | exact HB.out | apply below_alloc | apply pw_below_drewN | apply below_drew1) | exact HB.out)) hb); have n1_ := Aside0.mk (hbox); have n2_ := Aside0.mk ((by rw [hg]; exact (below_size (by repeat (first | (with_reducible first | exact HB.out | apply below_alloc | apply pw_below_drewN | apply below_drew1) | exact HB.out))) : w.heap.size ≤ gb573)); have n3_ := Aside0.mk ((by rw [hg]; exact (below_size (by repeat (first | (with_reducible first | exact HB.out | apply below_alloc | apply pw_below_drewN | apply below_drew1) | exact HB.out))) : w.heap.size ≤ gb573)); clear HB; have HB := n0_; have BK573 := n1_; have GW573 := n2_; have GE573 := n3_; clear n0_ n1_ n2_ n3_; clear hb hbox hg) | ((with_reducible refine gate_dst (N := 5) rfl ?_); refine box_event ?hg (N := 5) ?hd (cs := #[.bool a2_0, .slice A2_1 l2_1.length c2_1, .string a2_2]) (t := 55) ?hr ?_; (case hd => rfl); (case hg => rfl); (case hr => first | (go_simp; done) | (go_simp; rfl)); intro gb574 hg w10 hbox hb; have n0_ := Aside0.mk (blk_below (g := gb573) (o := .cells #[.int .i64 a1_0, .int .i64 a1_1] 23 (0, 0)) (by (with_reducible repeat (first | refine blk_drewN ?_ _ | refine blk_drew ?_ | refine blk_alloc ?_ _)); exact BK573.out) hb); have n1_ := Aside0.mk (below_step (by repeat (first | (with_reducible first | exact HB.out | apply below_alloc | apply pw_below_drewN | apply below_drew1 | refine below_set ?_ GE573.out) | exact HB.out)) hb); have n2_ := Aside0.mk (hbox); have n3_ := Aside0.mk ((by rw [hg]; exact (below_size (by repeat (first | (with_reducible first | exact HB.out | apply below_alloc | apply pw_below_drewN | apply below_drew1 | refine below_set ?_ GE573.out) | exact HB.out))) : w.heap.size ≤ gb574)); have n4_ := Aside0.mk ((by rw [hg]; exact (below_size (by repeat (first | (with_reducible first | exact HB.out | apply below_alloc | apply pw_below_drewN | apply below_drew1 | refine below_set ?_ GE573.out) | exact HB.out))) : w.heap.size ≤ gb574)); have n5_ := Aside0.mk ((by rw [hg]; exact Nat.ne_of_lt (blk_lt (g := gb573) (o := .cells #[.int .i64 a1_0, .int .i64 a1_1] 23 (0, 0)) (by (with_reducible repeat (first | refine blk_drewN ?_ _ | refine blk_drew ?_ | refine blk_alloc ?_ _)); exact BK573.out)) : gb573 ≠ gb574)); have n6_ := Aside0.mk ((by rw [hg]; exact Nat.ne_of_gt (blk_lt (g := gb573) (o := .cells #[.int .i64 a1_0, .int .i64 a1_1] 23 (0, 0)) (by (with_reducible repeat (first | refine blk_drewN ?_ _ | refine blk_drew ?_ | refine blk_alloc ?_ _)); exact BK573.out)) : gb574 ≠ gb573)); clear BK573; clear HB; have BK573 := n0_; have HB := n1_; have BK574 := n2_; have GW574 := n3_; have GE574 := n4_; have NB573_574 := n5_; have NB574_573 := n6_; clear n0_ n1_ n2_ n3_ n4_ n5_ n6_; clear hb hbox hg) | (go_at_call 23; (with_reducible refine (tickinglaw06_tame.calls k _ _ l0 24 t575 _ ?side1 ?side2 A4.out).mono ?_); (case side1 => repeat (first | exact (Kd.C_below HR0.out HB.out) | (with_reducible refine Kd.C_alloc ?_ _) | (with_reducible refine Kd.C_drewN ?_ _) | (with_reducible refine Kd.C_drew ?_))); (case side2 => exact HC0.out); rintro e w11 ⟨v576, rfl, ho0, hb⟩; have n0_ := Aside0.mk (Kd.R_lower ho0 (below_size (by repeat (first | (with_reducible first | exact HB.out | apply below_alloc | apply pw_below_drewN | apply below_drew1 | refine below_set ?_ GE573.out | refine below_set ?_ GE574.out) | exact HB.out)))); have n1_ := Aside0.mk (blk_below (g := gb573) (o := .cells #[.int .i64 a1_0, .int .i64 a1_1] 23 (0, 0)) (by (with_reducible repeat (first | refine blk_drewN ?_ _ | refine blk_drew ?_ | refine blk_alloc ?_ _)); exact BK573.out) hb); have n2_ := Aside0.mk (blk_below (g := gb574) (o := .cells #[.bool a2_0, .slice A2_1 l2_1.length c2_1, .string a2_2] 55 (0, 0)) (by (with_reducible repeat (first | refine blk_drewN ?_ _ | refine blk_drew ?_ | refine blk_alloc ?_ _)); exact BK574.out) hb); have n3_ := Aside0.mk (below_step (by repeat (first | (with_reducible first | exact HB.out | apply below_alloc | apply pw_below_drewN | apply below_drew1 | refine below_set ?_ GE573.out | refine below_set ?_ GE574.out) | exact HB.out)) hb); clear BK573; clear BK574; clear HB; have HO577 := n0_; have BK573 := n1_; have BK574 := n2_; have HB := n3_; clear n0_ n1_ n2_ n3_; (try clear hb); (try clear hb2); (try clear hk); (try clear hi); (try clear ho0); have hnb12 := NB573_574.out; have hnc12 := NB574_573.out; have hcz13_0 : w11.cell? ⟨gb573, 0, none⟩ = some (.int .i64 a1_0) := (blk_cell BK573.out 0).trans rfl; have hcz13_1 : w11.cell? ⟨gb573, 1, none⟩ = some (.int .i64 a1_1) := (blk_cell BK573.out 1).trans rfl; have hfz13_0 := blk_frozen BK573.out 0; have hfz13_1 := blk_frozen BK573.out 1; obtain ⟨Ao14, co14, eo14⟩ := Kd.R_slice HO577.out; subst eo14) | (go_at_call 24; (with_reducible refine (tickinglaw06_mod.calls a1_0 (t575.length : Int) t578 _ A5.out).mono ?_); rintro e w' ⟨rfl, ⟨nd, rfl⟩⟩; (try first | exact ⟨rfl, _, World.drewN_drewN _ _ _⟩ | exact ⟨rfl, _, Eq.trans (World.drewN_drewN _ _ _) (congrArg (World.drewN _) (Nat.add_assoc _ _ _))⟩)) | (go_at_call 24; (with_reducible refine (tickinglaw06_mod.calls a1_1 (t575.length : Int) t579 _ A6.out).mono ?_); rintro e w' ⟨rfl, ⟨nd, rfl⟩⟩; (try first | exact ⟨rfl, _, World.drewN_drewN _ _ _⟩ | exact ⟨rfl, _, Eq.trans (World.drewN_drewN _ _ _) (congrArg (World.drewN _) (Nat.add_assoc _ _ _))⟩)) | (go_at_call 33; (with_reducible refine (loops_Sub.calls k _ _ t575 t578 t579 t580 t581 t584 t585 _ ?side1 ?side2 A7.out).mono ?_); (case side1 => repeat (first | exact (Kd.R_reads' HO577.out).2.2 | (with_reducible refine Kd.C_alloc ?_ _) | (with_reducible refine Kd.C_drewN ?_ _) | (with_reducible refine Kd.C_drew ?_))); (case side2 => exact (Kd.R_reads' HO577.out).2.1); rintro e w15 ⟨v582, rfl, ho0, hb⟩; have n0_ := Aside0.mk (Kd.R_below (by (with_reducible repeat (first | apply Kd.R_alloc | apply Kd.R_drewN | apply Kd.R_drew)); exact HO577.out) hb); have n1_ := Aside0.mk (Kd.R_lower (Kd.R_newB ho0 (g := gb573) (o := .cells #[.int .i64 a1_0, .int .i64 a1_1] 23 (0, 0)) (by (with_reducible repeat (first | refine blk_drewN ?_ _ | refine blk_drew ?_ | refine blk_alloc ?_ _)); exact BK573.out)) (below_size (by repeat (first | (with_reducible first | exact HB.out | apply below_alloc | apply pw_below_drewN | apply below_drew1 | refine below_set ?_ GE573.out | refine below_set ?_ GE574.out) | exact HB.out)))); have n2_ := Aside0.mk (blk_below (g := gb573) (o := .cells #[.int .i64 a1_0, .int .i64 a1_1] 23 (0, 0)) (by (with_reducible repeat (first | refine blk_drewN ?_ _ | refine blk_drew ?_ | refine blk_alloc ?_ _)); exact BK573.out) hb); have n3_ := Aside0.mk (blk_below (g := gb574) (o := .cells #[.bool a2_0, .slice A2_1 l2_1.length c2_1, .string a2_2] 55 (0, 0)) (by (with_reducible repeat (first | refine blk_drewN ?_ _ | refine blk_drew ?_ | refine blk_alloc ?_ _)); exact BK574.out) hb); have n4_ := Aside0.mk (below_step (by repeat (first | (with_reducible first | exact HB.out | apply below_alloc | apply pw_below_drewN | apply below_drew1 | refine below_set ?_ GE573.out | refine below_set ?_ GE574.out) | exact HB.out)) hb); clear HO577; clear BK573; clear BK574; clear HB; have HO577 := n0_; have HO583 := n1_; have BK573 := n2_; have BK574 := n3_; have HB := n4_; clear n0_ n1_ n2_ n3_ n4_; (try clear hb); (try clear hb2); (try clear hk); (try clear hi); (try clear ho0)) | ((with_reducible refine gate_dst (N := 10) rfl ?_); refine box_event ?hg (N := 10) ?hd (cs := #[.bool false, .slice none 0 0, .string (⟨#[]⟩ : ByteArray)]) (t := 55) ?hr ?_; (case hd => rfl); (case hg => rfl); (case hr => first | (go_simp; done) | (go_simp; rfl)); intro gb586 hg w16 hbox hb; have n0_ := Aside0.mk (Kd.R_below (by (with_reducible repeat (first | apply Kd.R_alloc | apply Kd.R_drewN | apply Kd.R_drew)); exact HO577.out) hb); have n1_ := Aside0.mk (Kd.R_below (by (with_reducible repeat (first | apply Kd.R_alloc | apply Kd.R_drewN | apply Kd.R_drew)); exact HO583.out) hb); have n2_ := Aside0.mk (blk_below (g := gb573) (o := .cells #[.int .i64 a1_0, .int .i64 a1_1] 23 (0, 0)) (by (with_reducible repeat (first | refine blk_drewN ?_ _ | refine blk_drew ?_ | refine blk_alloc ?_ _)); exact BK573.out) hb); have n3_ := Aside0.mk (blk_below (g := gb574) (o := .cells #[.bool a2_0, .slice A2_1 l2_1.length c2_1, .string a2_2] 55 (0, 0)) (by (with_reducible repeat (first | refine blk_drewN ?_ _ | refine blk_drew ?_ | refine blk_alloc ?_ _)); exact BK574.out) hb); have n4_ := Aside0.mk (below_step (by repeat (first | (with_reducible first | exact HB.out | apply below_alloc | apply pw_below_drewN | apply below_drew1 | refine below_set ?_ GE573.out | refine below_set ?_ GE574.out) | exact HB.out)) hb); have n5_ := Aside0.mk (hbox); have n6_ := Aside0.mk ((by rw [hg]; exact (below_size (by repeat (first | (with_reducible first | exact HB.out | apply below_alloc | apply pw_below_drewN | apply below_drew1 | refine below_set ?_ GE573.out | refine below_set ?_ GE574.out) | exact HB.out))) : w.heap.size ≤ gb586)); have n7_ := Aside0.mk ((by rw [hg]; exact (below_size (by repeat (first | (with_reducible first | exact HB.out | apply below_alloc | apply pw_below_drewN | apply below_drew1 | refine below_set ?_ GE573.out | refine below_set ?_ GE574.out) | exact HB.out))) : w.heap.size ≤ gb586)); have n8_ := Aside0.mk ((by rw [hg]; exact Nat.ne_of_lt (blk_lt (g := gb573) (o := .cells #[.int .i64 a1_0, .int .i64 a1_1] 23 (0, 0)) (by (with_reducible repeat (first | refine blk_drewN ?_ _ | refine blk_drew ?_ | refine blk_alloc ?_ _)); exact BK573.out)) : gb573 ≠ gb586)); have n9_ := Aside0.mk ((by rw [hg]; exact Nat.ne_of_gt (blk_lt (g := gb573) (o := .cells #[.int .i64 a1_0, .int .i64 a1_1] 23 (0, 0)) (by (with_reducible repeat (first | refine blk_drewN ?_ _ | refine blk_drew ?_ | refine blk_alloc ?_ _)); exact BK573.out)) : gb586 ≠ gb573)); have n10_ := Aside0.mk ((by rw [hg]; exact Nat.ne_of_lt (blk_lt (g := gb574) (o := .cells #[.bool a2_0, .slice A2_1 l2_1.length c2_1, .string a2_2] 55 (0, 0)) (by (with_reducible repeat (first | refine blk_drewN ?_ _ | refine blk_drew ?_ | refine blk_alloc ?_ _)); exact BK574.out)) : gb574 ≠ gb586)); have n11_ := Aside0.mk ((by rw [hg]; exact Nat.ne_of_gt (blk_lt (g := gb574) (o := .cells #[.bool a2_0, .slice A2_1 l2_1.length c2_1, .string a2_2] 55 (0, 0)) (by (with_reducible repeat (first | refine blk_drewN ?_ _ | refine blk_drew ?_ | refine blk_alloc ?_ _)); exact BK574.out)) : gb586 ≠ gb574)); clear HO577; clear HO583; clear BK573; clear BK574; clear HB; have HO577 := n0_; have HO583 := n1_; have BK573 := n2_; have BK574 := n3_; have HB := n4_; have BK586 := n5_; have GW586 := n6_; have GE586 := n7_; have NB573_586 := n8_; have NB586_573 := n9_; have NB574_586 := n10_; have NB586_574 := n11_; clear n0_ n1_ n2_ n3_ n4_ n5_ n6_ n7_ n8_ n9_ n10_ n11_; clear hb hbox hg; have hnb17 := NB586_573.out; have hnc17 := NB573_586.out; have hnb18 := NB586_574.out; have hnc18 := NB574_586.out; have hcz19_0 : w16.cell? ⟨gb586, 0, none⟩ = some (.bool false) := (blk_cell BK586.out 0).trans rfl; have hcz19_1 : w16.cell? ⟨gb586, 1, none⟩ = some (.slice none 0 0) := (blk_cell BK586.out 1).trans rfl; have hcz19_2 : w16.cell? ⟨gb586, 2, none⟩ = some (.string (⟨#[]⟩ : ByteArray)) := (blk_cell BK586.out 2).trans rfl; have hfz19_0 := blk_frozen BK586.out 0; have hfz19_1 := blk_frozen BK586.out 1; have hfz19_2 := blk_frozen BK586.out 2; obtain ⟨Ao20, co20, eo20⟩ := Kd.R_slice HO583.out; subst eo20)))
 (try simp only [Act.put, List.setIfInBounds_toArray, List.set_cons_zero, List.set_cons_succ])
 go_cut [41] (fun v41 wc => ∃ (kq : Nat) (x41_7 : Bool), v41 = .bool x41_7 ∧ Aside0 (tickinglaw06_LoopsOnce.j0 kq t575 t578 t579 x41_7 a2_0 l2_1 a2_2 t580 t581 t584 = some r) ∧ Aside0 (kq ≤ k) ∧ Aside0 (Kd.R k39 39 wc w.heap.size (fun _ => True) (.slice Ao14 t575.length co14) t575) ∧ Aside0 (Kd.R k23 23 wc w.heap.size (fun k_ => k_ ≠ gb573) (.slice Ao20 t581.length co20) t581) ∧ Aside0 (wc.heap[gb573]? = some (.cells #[.int .i64 a1_0, .int .i64 a1_1] 23 (0, 0))) ∧ Aside0 (wc.heap[gb574]? = some (.cells #[.bool a2_0, (.slice A2_1 l2_1.length c2_1), .string a2_2] 55 (0, 0))) ∧ Aside0 (wc.heap[gb586]? = some (.cells #[.bool t580, (.slice Ao20 t581.length co20), .string t584] 55 (0, 0))) ∧ Aside0 (Below w.heap.size w wc))
 case first =>
  have H := HC8.out
  clear HC8
  by_cases c21 : t585 = 0
  rotate_left
  ·rw [if_neg c21] at H
   have c21b0 : (t585 == 0) = false := beq_eq_false_iff_ne.mpr c21
   have c21b1 : (t585 != 0) = true := bne_iff_ne.mpr c21
   (first | rw [c21b0] | (simp only [i64_w, i32_w]; rw [c21b0]) | skip)
   have H' := Aside0.mk H
   clear H
   go_wp2
   repeat (go_quiet (fail); try go_wp2)
   go_meet
   exact ⟨_, (true), (by first | rfl | (simp; done) | (simp [*]; done)), H', ⟨by first | omega | exact Nat.le_refl _⟩, ⟨by (with_reducible repeat (first | apply Kd.R_alloc | apply Kd.R_drewN | apply Kd.R_drew)); exact Kd.R_mono (Kd.R_far (p := ⟨gb586, 2, none⟩) (Kd.R_far (p := ⟨gb586, 1, none⟩) (Kd.R_far (p := ⟨gb586, 0, none⟩) (Kd.R_types HO577.out BK586.out (by decide)) (fun _ hk => hk.2) (.bool t580)) (fun _ hk => hk.2) (.slice Ao20 t581.length co20)) (fun _ hk => hk.2) (.string t584)) (fun _ hk => trivial)⟩, ⟨by (with_reducible repeat (first | apply Kd.R_alloc | apply Kd.R_drewN | apply Kd.R_drew)); exact Kd.R_mono (Kd.R_far (p := ⟨gb586, 2, none⟩) (Kd.R_far (p := ⟨gb586, 1, none⟩) (Kd.R_far (p := ⟨gb586, 0, none⟩) (Kd.R_types HO583.out BK586.out (by decide)) (fun _ hk => hk.2) (.bool t580)) (fun _ hk => hk.2) (.slice Ao20 t581.length co20)) (fun _ hk => hk.2) (.string t584)) (fun _ hk => hk.1.2)⟩, ⟨by (with_reducible repeat (first | refine blk_drewN ?_ _ | refine blk_drew ?_ | refine blk_alloc ?_ _)); refine blk_far ?_ NB573_586.out _; (with_reducible repeat (first | refine blk_drewN ?_ _ | refine blk_drew ?_ | refine blk_alloc ?_ _)); refine blk_far ?_ NB573_586.out _; (with_reducible repeat (first | refine blk_drewN ?_ _ | refine blk_drew ?_ | refine blk_alloc ?_ _)); refine blk_far ?_ NB573_586.out _; (with_reducible repeat (first | refine blk_drewN ?_ _ | refine blk_drew ?_ | refine blk_alloc ?_ _)); exact BK573.out⟩, ⟨by (with_reducible repeat (first | refine blk_drewN ?_ _ | refine blk_drew ?_ | refine blk_alloc ?_ _)); refine blk_far ?_ NB574_586.out _; (with_reducible repeat (first | refine blk_drewN ?_ _ | refine blk_drew ?_ | refine blk_alloc ?_ _)); refine blk_far ?_ NB574_586.out _; (with_reducible repeat (first | refine blk_drewN ?_ _ | refine blk_drew ?_ | refine blk_alloc ?_ _)); refine blk_far ?_ NB574_586.out _; (with_reducible repeat (first | refine blk_drewN ?_ _ | refine blk_drew ?_ | refine blk_alloc ?_ _)); exact BK574.out⟩, ⟨by (with_reducible repeat (first | refine blk_drewN ?_ _ | refine blk_drew ?_ | refine blk_alloc ?_ _)); refine blk_put (cs := #[.bool t580, .slice Ao20 t581.length co20, .string (⟨#[]⟩ : ByteArray)]) ?_ 2 _ rfl; (with_reducible repeat (first | refine blk_drewN ?_ _ | refine blk_drew ?_ | refine blk_alloc ?_ _)); refine blk_put (cs := #[.bool t580, .slice none 0 0, .string (⟨#[]⟩ : ByteArray)]) ?_ 1 _ rfl; (with_reducible repeat (first | refine blk_drewN ?_ _ | refine blk_drew ?_ | refine blk_alloc ?_ _)); refine blk_put (cs := #[.bool false, .slice none 0 0, .string (⟨#[]⟩ : ByteArray)]) ?_ 0 _ rfl; (with_reducible repeat (first | refine blk_drewN ?_ _ | refine blk_drew ?_ | refine blk_alloc ?_ _)); exact BK586.out⟩, ⟨by repeat (first | (with_reducible first | exact HB.out | apply below_alloc | apply pw_below_drewN | apply below_drew1 | refine below_set ?_ GE573.out | refine below_set ?_ GE574.out | refine below_set ?_ GE586.out) | exact HB.out)⟩⟩
  rw [if_pos c21] at H
  have c21b0 : (t585 == 0) = true := beq_iff_eq.mpr c21
  have c21b1 : (t585 != 0) = false := bne_eq_false_iff_eq.mpr c21
  clear c21
  (first | rw [c21b0] | (simp only [i64_w, i32_w]; rw [c21b0]) | skip)
  replace H := Option.bind_eq_some_iff.mp H
  obtain ⟨t587, A220, H⟩ := H
  replace H : (tickinglaw06_LoopsOnce.j0 k t575 t578 t579 (t587 != 0) a2_0 l2_1 a2_2 t580 t581 t584) = some r := H
  have A22 := Aside0.mk A220
  clear A220
  have H' := Aside0.mk H
  clear H
  have hnb23 := NB586_573.out
  have hnc23 := NB573_586.out
  have hnb24 := NB586_574.out
  have hnc24 := NB574_586.out
  have hcz25_0 : w16.cell? ⟨gb586, 0, none⟩ = some (.bool false) := (blk_cell BK586.out 0).trans rfl
  have hcz25_1 : w16.cell? ⟨gb586, 1, none⟩ = some (.slice none 0 0) := (blk_cell BK586.out 1).trans rfl
  have hcz25_2 : w16.cell? ⟨gb586, 2, none⟩ = some (.string (⟨#[]⟩ : ByteArray)) := (blk_cell BK586.out 2).trans rfl
  have hfz25_0 := blk_frozen BK586.out 0
  have hfz25_1 := blk_frozen BK586.out 1
  have hfz25_2 := blk_frozen BK586.out 2
  go_wp2_with (first | (go_at_call 35; (with_reducible refine (loops_Check.calls k _ _ t575 t578 t579 t580 _ _ t581 t584 t587 _ ?side1 ?side2 ?side3 ?side4 A22.out).mono ?_); (case side1 => refine (Kd.R_reads' (e := 39) (base := w.heap.size) (ok := fun k_ => True) (n := t575.length) (c := co14) ?_).2.2; exact (by (with_reducible repeat (first | apply Kd.R_alloc | apply Kd.R_drewN | apply Kd.R_drew)); exact (Kd.R_mono (Kd.R_far (p := ⟨gb586, 2, none⟩) (Kd.R_far (p := ⟨gb586, 1, none⟩) (Kd.R_far (p := ⟨gb586, 0, none⟩) (Kd.R_types HO577.out BK586.out (by decide)) (fun _ hk => hk.2) (.bool t580)) (fun _ hk => hk.2) (.slice Ao20 t581.length co20)) (fun _ hk => hk.2) (.string t584)) (fun _ h_ => h_.1)))); (case side2 => exact (Kd.R_reads' HO577.out).2.1); (case side3 => refine (Kd.R_reads' (e := 23) (base := w.heap.size) (ok := fun k_ => (True ∧ k_ ≠ gb573)) (n := t581.length) (c := co20) ?_).2.2; exact (by (with_reducible repeat (first | apply Kd.R_alloc | apply Kd.R_drewN | apply Kd.R_drew)); exact (Kd.R_mono (Kd.R_far (p := ⟨gb586, 2, none⟩) (Kd.R_far (p := ⟨gb586, 1, none⟩) (Kd.R_far (p := ⟨gb586, 0, none⟩) (Kd.R_types HO583.out BK586.out (by decide)) (fun _ hk => hk.2) (.bool t580)) (fun _ hk => hk.2) (.slice Ao20 t581.length co20)) (fun _ hk => hk.2) (.string t584)) (fun _ h_ => h_.1)))); (case side4 => exact (Kd.R_reads' HO583.out).2.1); rintro e w26 ⟨rfl, hb⟩; have n0_ := Aside0.mk (Kd.R_below (by (with_reducible repeat (first | apply Kd.R_alloc | apply Kd.R_drewN | apply Kd.R_drew)); exact (Kd.R_mono (Kd.R_far (p := ⟨gb586, 2, none⟩) (Kd.R_far (p := ⟨gb586, 1, none⟩) (Kd.R_far (p := ⟨gb586, 0, none⟩) (Kd.R_types HO577.out BK586.out (by decide)) (fun _ hk => hk.2) (.bool t580)) (fun _ hk => hk.2) (.slice Ao20 t581.length co20)) (fun _ hk => hk.2) (.string t584)) (fun _ h_ => h_.1))) hb); have n1_ := Aside0.mk (Kd.R_below (by (with_reducible repeat (first | apply Kd.R_alloc | apply Kd.R_drewN | apply Kd.R_drew)); exact (Kd.R_mono (Kd.R_far (p := ⟨gb586, 2, none⟩) (Kd.R_far (p := ⟨gb586, 1, none⟩) (Kd.R_far (p := ⟨gb586, 0, none⟩) (Kd.R_types HO583.out BK586.out (by decide)) (fun _ hk => hk.2) (.bool t580)) (fun _ hk => hk.2) (.slice Ao20 t581.length co20)) (fun _ hk => hk.2) (.string t584)) (fun _ h_ => h_.1))) hb); have n2_ := Aside0.mk (blk_below (g := gb573) (o := .cells #[.int .i64 a1_0, .int .i64 a1_1] 23 (0, 0)) (by (with_reducible repeat (first | refine blk_drewN ?_ _ | refine blk_drew ?_ | refine blk_alloc ?_ _)); refine blk_far ?_ NB573_586.out _; (with_reducible repeat (first | refine blk_drewN ?_ _ | refine blk_drew ?_ | refine blk_alloc ?_ _)); refine blk_far ?_ NB573_586.out _; (with_reducible repeat (first | refine blk_drewN ?_ _ | refine blk_drew ?_ | refine blk_alloc ?_ _)); refine blk_far ?_ NB573_586.out _; (with_reducible repeat (first | refine blk_drewN ?_ _ | refine blk_drew ?_ | refine blk_alloc ?_ _)); exact BK573.out) hb); have n3_ := Aside0.mk (blk_below (g := gb574) (o := .cells #[.bool a2_0, .slice A2_1 l2_1.length c2_1, .string a2_2] 55 (0, 0)) (by (with_reducible repeat (first | refine blk_drewN ?_ _ | refine blk_drew ?_ | refine blk_alloc ?_ _)); refine blk_far ?_ NB574_586.out _; (with_reducible repeat (first | refine blk_drewN ?_ _ | refine blk_drew ?_ | refine blk_alloc ?_ _)); refine blk_far ?_ NB574_586.out _; (with_reducible repeat (first | refine blk_drewN ?_ _ | refine blk_drew ?_ | refine blk_alloc ?_ _)); refine blk_far ?_ NB574_586.out _; (with_reducible repeat (first | refine blk_drewN ?_ _ | refine blk_drew ?_ | refine blk_alloc ?_ _)); exact BK574.out) hb); have n4_ := Aside0.mk (blk_below (g := gb586) (o := .cells #[.bool t580, .slice Ao20 t581.length co20, .string t584] 55 (0, 0)) (by (with_reducible repeat (first | refine blk_drewN ?_ _ | refine blk_drew ?_ | refine blk_alloc ?_ _)); refine blk_put (cs := #[.bool t580, .slice Ao20 t581.length co20, .string (⟨#[]⟩ : ByteArray)]) ?_ 2 _ rfl; (with_reducible repeat (first | refine blk_drewN ?_ _ | refine blk_drew ?_ | refine blk_alloc ?_ _)); refine blk_put (cs := #[.bool t580, .slice none 0 0, .string (⟨#[]⟩ : ByteArray)]) ?_ 1 _ rfl; (with_reducible repeat (first | refine blk_drewN ?_ _ | refine blk_drew ?_ | refine blk_alloc ?_ _)); refine blk_put (cs := #[.bool false, .slice none 0 0, .string (⟨#[]⟩ : ByteArray)]) ?_ 0 _ rfl; (with_reducible repeat (first | refine blk_drewN ?_ _ | refine blk_drew ?_ | refine blk_alloc ?_ _)); exact BK586.out) hb); have n5_ := Aside0.mk (below_step (by repeat (first | (with_reducible first | exact HB.out | apply below_alloc | apply pw_below_drewN | apply below_drew1 | refine below_set ?_ GE573.out | refine below_set ?_ GE574.out | refine below_set ?_ GE586.out) | exact HB.out)) hb); clear HO577; clear HO583; clear BK573; clear BK574; clear BK586; clear HB; have HO577 := n0_; have HO583 := n1_; have BK573 := n2_; have BK574 := n3_; have BK586 := n4_; have HB := n5_; clear n0_ n1_ n2_ n3_ n4_ n5_; (try clear hb); (try clear hb2); (try clear hk); (try clear hi)))
  repeat (go_quiet (first | (go_at_call 35; (with_reducible refine (loops_Check.calls k _ _ t575 t578 t579 t580 _ _ t581 t584 t587 _ ?side1 ?side2 ?side3 ?side4 A22.out).mono ?_); (case side1 => refine (Kd.R_reads' (e := 39) (base := w.heap.size) (ok := fun k_ => True) (n := t575.length) (c := co14) ?_).2.2; exact (by (with_reducible repeat (first | apply Kd.R_alloc | apply Kd.R_drewN | apply Kd.R_drew)); exact (Kd.R_mono (Kd.R_far (p := ⟨gb586, 2, none⟩) (Kd.R_far (p := ⟨gb586, 1, none⟩) (Kd.R_far (p := ⟨gb586, 0, none⟩) (Kd.R_types HO577.out BK586.out (by decide)) (fun _ hk => hk.2) (.bool t580)) (fun _ hk => hk.2) (.slice Ao20 t581.length co20)) (fun _ hk => hk.2) (.string t584)) (fun _ h_ => h_.1)))); (case side2 => exact (Kd.R_reads' HO577.out).2.1); (case side3 => refine (Kd.R_reads' (e := 23) (base := w.heap.size) (ok := fun k_ => (True ∧ k_ ≠ gb573)) (n := t581.length) (c := co20) ?_).2.2; exact (by (with_reducible repeat (first | apply Kd.R_alloc | apply Kd.R_drewN | apply Kd.R_drew)); exact (Kd.R_mono (Kd.R_far (p := ⟨gb586, 2, none⟩) (Kd.R_far (p := ⟨gb586, 1, none⟩) (Kd.R_far (p := ⟨gb586, 0, none⟩) (Kd.R_types HO583.out BK586.out (by decide)) (fun _ hk => hk.2) (.bool t580)) (fun _ hk => hk.2) (.slice Ao20 t581.length co20)) (fun _ hk => hk.2) (.string t584)) (fun _ h_ => h_.1)))); (case side4 => exact (Kd.R_reads' HO583.out).2.1); rintro e w26 ⟨rfl, hb⟩; have n0_ := Aside0.mk (Kd.R_below (by (with_reducible repeat (first | apply Kd.R_alloc | apply Kd.R_drewN | apply Kd.R_drew)); exact (Kd.R_mono (Kd.R_far (p := ⟨gb586, 2, none⟩) (Kd.R_far (p := ⟨gb586, 1, none⟩) (Kd.R_far (p := ⟨gb586, 0, none⟩) (Kd.R_types HO577.out BK586.out (by decide)) (fun _ hk => hk.2) (.bool t580)) (fun _ hk => hk.2) (.slice Ao20 t581.length co20)) (fun _ hk => hk.2) (.string t584)) (fun _ h_ => h_.1))) hb); have n1_ := Aside0.mk (Kd.R_below (by (with_reducible repeat (first | apply Kd.R_alloc | apply Kd.R_drewN | apply Kd.R_drew)); exact (Kd.R_mono (Kd.R_far (p := ⟨gb586, 2, none⟩) (Kd.R_far (p := ⟨gb586, 1, none⟩) (Kd.R_far (p := ⟨gb586, 0, none⟩) (Kd.R_types HO583.out BK586.out (by decide)) (fun _ hk => hk.2) (.bool t580)) (fun _ hk => hk.2) (.slice Ao20 t581.length co20)) (fun _ hk => hk.2) (.string t584)) (fun _ h_ => h_.1))) hb); have n2_ := Aside0.mk (blk_below (g := gb573) (o := .cells #[.int .i64 a1_0, .int .i64 a1_1] 23 (0, 0)) (by (with_reducible repeat (first | refine blk_drewN ?_ _ | refine blk_drew ?_ | refine blk_alloc ?_ _)); refine blk_far ?_ NB573_586.out _; (with_reducible repeat (first | refine blk_drewN ?_ _ | refine blk_drew ?_ | refine blk_alloc ?_ _)); refine blk_far ?_ NB573_586.out _; (with_reducible repeat (first | refine blk_drewN ?_ _ | refine blk_drew ?_ | refine blk_alloc ?_ _)); refine blk_far ?_ NB573_586.out _; (with_reducible repeat (first | refine blk_drewN ?_ _ | refine blk_drew ?_ | refine blk_alloc ?_ _)); exact BK573.out) hb); have n3_ := Aside0.mk (blk_below (g := gb574) (o := .cells #[.bool a2_0, .slice A2_1 l2_1.length c2_1, .string a2_2] 55 (0, 0)) (by (with_reducible repeat (first | refine blk_drewN ?_ _ | refine blk_drew ?_ | refine blk_alloc ?_ _)); refine blk_far ?_ NB574_586.out _; (with_reducible repeat (first | refine blk_drewN ?_ _ | refine blk_drew ?_ | refine blk_alloc ?_ _)); refine blk_far ?_ NB574_586.out _; (with_reducible repeat (first | refine blk_drewN ?_ _ | refine blk_drew ?_ | refine blk_alloc ?_ _)); refine blk_far ?_ NB574_586.out _; (with_reducible repeat (first | refine blk_drewN ?_ _ | refine blk_drew ?_ | refine blk_alloc ?_ _)); exact BK574.out) hb); have n4_ := Aside0.mk (blk_below (g := gb586) (o := .cells #[.bool t580, .slice Ao20 t581.length co20, .string t584] 55 (0, 0)) (by (with_reducible repeat (first | refine blk_drewN ?_ _ | refine blk_drew ?_ | refine blk_alloc ?_ _)); refine blk_put (cs := #[.bool t580, .slice Ao20 t581.length co20, .string (⟨#[]⟩ : ByteArray)]) ?_ 2 _ rfl; (with_reducible repeat (first | refine blk_drewN ?_ _ | refine blk_drew ?_ | refine blk_alloc ?_ _)); refine blk_put (cs := #[.bool t580, .slice none 0 0, .string (⟨#[]⟩ : ByteArray)]) ?_ 1 _ rfl; (with_reducible repeat (first | refine blk_drewN ?_ _ | refine blk_drew ?_ | refine blk_alloc ?_ _)); refine blk_put (cs := #[.bool false, .slice none 0 0, .string (⟨#[]⟩ : ByteArray)]) ?_ 0 _ rfl; (with_reducible repeat (first | refine blk_drewN ?_ _ | refine blk_drew ?_ | refine blk_alloc ?_ _)); exact BK586.out) hb); have n5_ := Aside0.mk (below_step (by repeat (first | (with_reducible first | exact HB.out | apply below_alloc | apply pw_below_drewN | apply below_drew1 | refine below_set ?_ GE573.out | refine below_set ?_ GE574.out | refine below_set ?_ GE586.out) | exact HB.out)) hb); clear HO577; clear HO583; clear BK573; clear BK574; clear BK586; clear HB; have HO577 := n0_; have HO583 := n1_; have BK573 := n2_; have BK574 := n3_; have BK586 := n4_; have HB := n5_; clear n0_ n1_ n2_ n3_ n4_ n5_; (try clear hb); (try clear hb2); (try clear hk); (try clear hi))); try go_wp2_with (first | (go_at_call 35; (with_reducible refine (loops_Check.calls k _ _ t575 t578 t579 t580 _ _ t581 t584 t587 _ ?side1 ?side2 ?side3 ?side4 A22.out).mono ?_); (case side1 => refine (Kd.R_reads' (e := 39) (base := w.heap.size) (ok := fun k_ => True) (n := t575.length) (c := co14) ?_).2.2; exact (by (with_reducible repeat (first | apply Kd.R_alloc | apply Kd.R_drewN | apply Kd.R_drew)); exact (Kd.R_mono (Kd.R_far (p := ⟨gb586, 2, none⟩) (Kd.R_far (p := ⟨gb586, 1, none⟩) (Kd.R_far (p := ⟨gb586, 0, none⟩) (Kd.R_types HO577.out BK586.out (by decide)) (fun _ hk => hk.2) (.bool t580)) (fun _ hk => hk.2) (.slice Ao20 t581.length co20)) (fun _ hk => hk.2) (.string t584)) (fun _ h_ => h_.1)))); (case side2 => exact (Kd.R_reads' HO577.out).2.1); (case side3 => refine (Kd.R_reads' (e := 23) (base := w.heap.size) (ok := fun k_ => (True ∧ k_ ≠ gb573)) (n := t581.length) (c := co20) ?_).2.2; exact (by (with_reducible repeat (first | apply Kd.R_alloc | apply Kd.R_drewN | apply Kd.R_drew)); exact (Kd.R_mono (Kd.R_far (p := ⟨gb586, 2, none⟩) (Kd.R_far (p := ⟨gb586, 1, none⟩) (Kd.R_far (p := ⟨gb586, 0, none⟩) (Kd.R_types HO583.out BK586.out (by decide)) (fun _ hk => hk.2) (.bool t580)) (fun _ hk => hk.2) (.slice Ao20 t581.length co20)) (fun _ hk => hk.2) (.string t584)) (fun _ h_ => h_.1)))); (case side4 => exact (Kd.R_reads' HO583.out).2.1); rintro e w26 ⟨rfl, hb⟩; have n0_ := Aside0.mk (Kd.R_below (by (with_reducible repeat (first | apply Kd.R_alloc | apply Kd.R_drewN | apply Kd.R_drew)); exact (Kd.R_mono (Kd.R_far (p := ⟨gb586, 2, none⟩) (Kd.R_far (p := ⟨gb586, 1, none⟩) (Kd.R_far (p := ⟨gb586, 0, none⟩) (Kd.R_types HO577.out BK586.out (by decide)) (fun _ hk => hk.2) (.bool t580)) (fun _ hk => hk.2) (.slice Ao20 t581.length co20)) (fun _ hk => hk.2) (.string t584)) (fun _ h_ => h_.1))) hb); have n1_ := Aside0.mk (Kd.R_below (by (with_reducible repeat (first | apply Kd.R_alloc | apply Kd.R_drewN | apply Kd.R_drew)); exact (Kd.R_mono (Kd.R_far (p := ⟨gb586, 2, none⟩) (Kd.R_far (p := ⟨gb586, 1, none⟩) (Kd.R_far (p := ⟨gb586, 0, none⟩) (Kd.R_types HO583.out BK586.out (by decide)) (fun _ hk => hk.2) (.bool t580)) (fun _ hk => hk.2) (.slice Ao20 t581.length co20)) (fun _ hk => hk.2) (.string t584)) (fun _ h_ => h_.1))) hb); have n2_ := Aside0.mk (blk_below (g := gb573) (o := .cells #[.int .i64 a1_0, .int .i64 a1_1] 23 (0, 0)) (by (with_reducible repeat (first | refine blk_drewN ?_ _ | refine blk_drew ?_ | refine blk_alloc ?_ _)); refine blk_far ?_ NB573_586.out _; (with_reducible repeat (first | refine blk_drewN ?_ _ | refine blk_drew ?_ | refine blk_alloc ?_ _)); refine blk_far ?_ NB573_586.out _; (with_reducible repeat (first | refine blk_drewN ?_ _ | refine blk_drew ?_ | refine blk_alloc ?_ _)); refine blk_far ?_ NB573_586.out _; (with_reducible repeat (first | refine blk_drewN ?_ _ | refine blk_drew ?_ | refine blk_alloc ?_ _)); exact BK573.out) hb); have n3_ := Aside0.mk (blk_below (g := gb574) (o := .cells #[.bool a2_0, .slice A2_1 l2_1.length c2_1, .string a2_2] 55 (0, 0)) (by (with_reducible repeat (first | refine blk_drewN ?_ _ | refine blk_drew ?_ | refine blk_alloc ?_ _)); refine blk_far ?_ NB574_586.out _; (with_reducible repeat (first | refine blk_drewN ?_ _ | refine blk_drew ?_ | refine blk_alloc ?_ _)); refine blk_far ?_ NB574_586.out _; (with_reducible repeat (first | refine blk_drewN ?_ _ | refine blk_drew ?_ | refine blk_alloc ?_ _)); refine blk_far ?_ NB574_586.out _; (with_reducible repeat (first | refine blk_drewN ?_ _ | refine blk_drew ?_ | refine blk_alloc ?_ _)); exact BK574.out) hb); have n4_ := Aside0.mk (blk_below (g := gb586) (o := .cells #[.bool t580, .slice Ao20 t581.length co20, .string t584] 55 (0, 0)) (by (with_reducible repeat (first | refine blk_drewN ?_ _ | refine blk_drew ?_ | refine blk_alloc ?_ _)); refine blk_put (cs := #[.bool t580, .slice Ao20 t581.length co20, .string (⟨#[]⟩ : ByteArray)]) ?_ 2 _ rfl; (with_reducible repeat (first | refine blk_drewN ?_ _ | refine blk_drew ?_ | refine blk_alloc ?_ _)); refine blk_put (cs := #[.bool t580, .slice none 0 0, .string (⟨#[]⟩ : ByteArray)]) ?_ 1 _ rfl; (with_reducible repeat (first | refine blk_drewN ?_ _ | refine blk_drew ?_ | refine blk_alloc ?_ _)); refine blk_put (cs := #[.bool false, .slice none 0 0, .string (⟨#[]⟩ : ByteArray)]) ?_ 0 _ rfl; (with_reducible repeat (first | refine blk_drewN ?_ _ | refine blk_drew ?_ | refine blk_alloc ?_ _)); exact BK586.out) hb); have n5_ := Aside0.mk (below_step (by repeat (first | (with_reducible first | exact HB.out | apply below_alloc | apply pw_below_drewN | apply below_drew1 | refine below_set ?_ GE573.out | refine below_set ?_ GE574.out | refine below_set ?_ GE586.out) | exact HB.out)) hb); clear HO577; clear HO583; clear BK573; clear BK574; clear BK586; clear HB; have HO577 := n0_; have HO583 := n1_; have BK573 := n2_; have BK574 := n3_; have BK586 := n4_; have HB := n5_; clear n0_ n1_ n2_ n3_ n4_ n5_; (try clear hb); (try clear hb2); (try clear hk); (try clear hi))))
  go_meet
  exact ⟨_, ((t587 != 0)), (by first | rfl | (simp; done) | (simp [*]; done)), H', ⟨by first | omega | exact Nat.le_refl _⟩, ⟨by (with_reducible repeat (first | apply Kd.R_alloc | apply Kd.R_drewN | apply Kd.R_drew)); exact HO577.out⟩, ⟨by (with_reducible repeat (first | apply Kd.R_alloc | apply Kd.R_drewN | apply Kd.R_drew)); exact Kd.R_mono HO583.out (fun _ hk => hk.2)⟩, ⟨by (with_reducible repeat (first | refine blk_drewN ?_ _ | refine blk_drew ?_ | refine blk_alloc ?_ _)); exact BK573.out⟩, ⟨by (with_reducible repeat (first | refine blk_drewN ?_ _ | refine blk_drew ?_ | refine blk_alloc ?_ _)); exact BK574.out⟩, ⟨by (with_reducible repeat (first | refine blk_drewN ?_ _ | refine blk_drew ?_ | refine blk_alloc ?_ _)); exact BK586.out⟩, ⟨by repeat (first | (with_reducible first | exact HB.out | apply below_alloc | apply pw_below_drewN | apply below_drew1 | refine below_set ?_ GE573.out | refine below_set ?_ GE574.out | refine below_set ?_ GE586.out) | exact HB.out)⟩⟩
 case rest =>
  clear HC8
  try clear c1
  try clear c2
  try clear p2
  try clear c11
  try clear c12
  try clear c17
  try clear c18
  try clear c21
  try clear c21b0
  try clear c21b1
  try clear c23
  try clear c24
  try clear hcz13_0
  try clear hcz13_1
  try clear hcz19_0
  try clear hcz19_1
  try clear hcz19_2
  try clear hcz25_0
  try clear hcz25_1
  try clear hcz25_2
  try clear hfz13_0
  try clear hfz13_1
  try clear hfz19_0
  try clear hfz19_1
  try clear hfz19_2
  try clear hfz25_0
  try clear hfz25_1
  try clear hfz25_2
  obtain ⟨kq, x41_7, rfl, HA, HJ7, HO_7, HO_587001, BK573, BK574, BK586, HB⟩ := hcut
  cases kq with
  | zero => exact absurd HA.out (by simp [tickinglaw06_LoopsOnce.j0])
  | succ kj7 =>
   have H := HA.out
   clear HA
   simp only [tickinglaw06_LoopsOnce.j0] at H
   by_cases c27 : x41_7 = true
   ·subst c27
    have H1 : (some false) = some r := by rw [if_pos rfl] at H; exact H
    clear H
    have H := H1
    clear H1
    exact absurd ((Option.some.inj H).trans HTR.out) (by decide)
   replace c27 := Bool.eq_false_iff.mpr c27
   subst c27
   have H1 : ((tickinglaw06_finding.f a2_0 l2_1 a2_2).bind fun bt588 => (if t580 = true then ((loops_Check.f kj7 t575 t578 t579 (!t580) ([] : List (S23)) bt588.2.2).bind fun t594 => (if t594 = 10 then ((tickinglaw06_awake.f kj7).bind fun t595 => (some t595)) else (some false))) else ((loops_Check.f kj7 t575 t578 t579 (!t580) bt588.2.1 (⟨#[]⟩ : ByteArray)).bind fun t596 => (if t596 = 10 then ((tickinglaw06_awake.f kj7).bind fun t597 => (some t597)) else (some false))))) = some r := by rw [if_neg (show ¬ (false = true) by decide)] at H; exact H
   clear H
   have H := H1
   clear H1
   replace H := Option.bind_eq_some_iff.mp H
   obtain ⟨⟨t588, t589, t592⟩, A280, H⟩ := H
   replace H : (if t580 = true then ((loops_Check.f kj7 t575 t578 t579 (!t580) ([] : List (S23)) t592).bind fun t594 => (if t594 = 10 then ((tickinglaw06_awake.f kj7).bind fun t595 => (some t595)) else (some false))) else ((loops_Check.f kj7 t575 t578 t579 (!t580) t589 (⟨#[]⟩ : ByteArray)).bind fun t596 => (if t596 = 10 then ((tickinglaw06_awake.f kj7).bind fun t597 => (some t597)) else (some false)))) = some r := H
   have A28 := Aside0.mk A280
   clear A280
   obtain c29 | c29 : t580 = true ∨ t580 = false := by cases t580 <;> simp
   ·subst c29
    have H1 : ((loops_Check.f kj7 t575 t578 t579 false ([] : List (S23)) t592).bind fun t594 => (if t594 = 10 then ((tickinglaw06_awake.f kj7).bind fun t595 => (some t595)) else (some false))) = some r := H
    clear H
    obtain ⟨tc, AC0, H⟩ := Option.bind_eq_some_iff.mp H1
    clear H1
    by_cases c31 : tc = 10
    case neg =>
     rw [if_neg c31] at H
     exact absurd ((Option.some.inj H).trans HTR.out) (by decide)
    subst c31
    have AC := Aside0.mk AC0
    clear AC0
    replace H : ((tickinglaw06_awake.f kj7).bind fun t595 => (some t595)) = some r := H
    obtain ⟨t595, A320, H⟩ := Option.bind_eq_some_iff.mp H
    have A32 := Aside0.mk A320
    clear A320
    obtain rfl := Option.some.inj H
    have hcz35_0 : wc.cell? ⟨gb574, 0, none⟩ = some (.bool a2_0) := (blk_cell BK574.out 0).trans rfl
    have hcz35_1 : wc.cell? ⟨gb574, 1, none⟩ = some (.slice A2_1 l2_1.length c2_1) := (blk_cell BK574.out 1).trans rfl
    have hcz35_2 : wc.cell? ⟨gb574, 2, none⟩ = some (.string a2_2) := (blk_cell BK574.out 2).trans rfl
    go_wp2_with (first
     | (go_at_call 36; go_must (
         (with_reducible refine (tickinglaw06_finding.calls a2_0 _ _ l2_1 a2_2 t588 t589 t592 _ (Kd.C_below HR2_1.out HB.out) HC2_1.out A28.out).mono ?_); rintro e w36 ⟨v590, rfl, ho0, hb⟩;
         obtain ⟨Ah, ch, eh⟩ := Kd.R_slice ho0; subst eh;
         have hz1 := hb.size;
         have hb1 : (w36.alloc (.cells #[.bool t588, .slice Ah t589.length ch, .string t592] 55)).heap[w36.heap.size]? = some (.cells #[.bool t588, .slice Ah t589.length ch, .string t592] 55 (0, 0)) := heap_alloc_new w36 _;
         have h1f0 := blk_frozen hb1 0;
         have h1c0 : (w36.alloc (.cells #[.bool t588, .slice Ah t589.length ch, .string t592] 55)).cell? ⟨w36.heap.size, 0, none⟩ = some (.bool t588) := (blk_cell hb1 0).trans rfl;
         have hg0 : (w36.alloc (.cells #[.bool t588, .slice Ah t589.length ch, .string t592] 55)).cell? ⟨gb586, 0, none⟩ = some (.bool true) := (blk_cell (blk_below (blk_below BK586.out hb) (below_alloc (Below.refl _ _) _)) 0).trans rfl;
         have hb2 : (w36.alloc (.cells #[.bool false, .slice Ah t589.length ch, .string t592] 55)).heap[w36.heap.size]? = some (.cells #[.bool false, .slice Ah t589.length ch, .string t592] 55 (0, 0)) := heap_alloc_new w36 _;
         have h2f := blk_frozen hb2 1;
         have h2c0 : (w36.alloc (.cells #[.bool false, .slice Ah t589.length ch, .string t592] 55)).cell? ⟨w36.heap.size, 0, none⟩ = some (.bool false) := (blk_cell hb2 0).trans rfl;
         have h2c1 : (w36.alloc (.cells #[.bool false, .slice Ah t589.length ch, .string t592] 55)).cell? ⟨w36.heap.size, 1, none⟩ = some (.slice Ah t589.length ch) := (blk_cell hb2 1).trans rfl;
         have hb3 : (w36.alloc (.cells #[.bool false, .slice none 0 0, .string t592] 55)).heap[w36.heap.size]? = some (.cells #[.bool false, .slice none 0 0, .string t592] 55 (0, 0)) := heap_alloc_new w36 _;
         have h3c0 : (w36.alloc (.cells #[.bool false, .slice none 0 0, .string t592] 55)).cell? ⟨w36.heap.size, 0, none⟩ = some (.bool false) := (blk_cell hb3 0).trans rfl;
         have h3c1 : (w36.alloc (.cells #[.bool false, .slice none 0 0, .string t592] 55)).cell? ⟨w36.heap.size, 1, none⟩ = some (.slice none 0 0) := (blk_cell hb3 1).trans rfl;
         have h3c2 : (w36.alloc (.cells #[.bool false, .slice none 0 0, .string t592] 55)).cell? ⟨w36.heap.size, 2, none⟩ = some (.string t592) := (blk_cell hb3 2).trans rfl;
         have hB3w : Below w36.heap.size w36 (w36.alloc (.cells #[.bool false, .slice none 0 0, .string t592] 55)) := below_alloc (Below.refl _ _) _;
         have HB3w := Aside0.mk hB3w;
         have HB3 := Aside0.mk (below_then hb hb.size hB3w);
         have HO5 := Aside0.mk ho0;
         clear ho0 hb hb1 hb2 hb3 hB3w hz1))
     | (go_at_call 35; go_must (
         (refine (loops_Check.calls kj7 _ _ t575 t578 t579 false _ _ ([] : List S23) t592 10 _ (Kd.C_below (Kd.R_reads' HO_7.out).2.2 HB3.out) (Kd.R_reads' HO_7.out).2.1 (Kd.C_nil _ _) (Nat.le_refl _) AC.out).mono ?_); rintro e w45 ⟨rfl, hb5⟩;
         have HB5 := Aside0.mk (below_then HB3.out HB3.out.size hb5);
         clear hb5))
     | (go_at_call 19; go_must (
         (with_reducible refine (tickinglaw06_awake.calls kj7 t595 _ A32.out).mono ?_); rintro e w46 ⟨rfl, hb6⟩;
         have HB6 := Aside0.mk (below_then HB.out HB.out.size (below_then HB5.out HB5.out.size hb6));
         clear hb6)))
    go_ret
    exact ⟨rfl, HB6.out⟩
   subst c29
   have H1 : ((loops_Check.f kj7 t575 t578 t579 true t589 ⟨#[]⟩).bind fun t594 => (if t594 = 10 then ((tickinglaw06_awake.f kj7).bind fun t595 => (some t595)) else (some false))) = some r := H
   clear H
   obtain ⟨tc, AC0, H⟩ := Option.bind_eq_some_iff.mp H1
   clear H1
   by_cases c31 : tc = 10
   case neg =>
    rw [if_neg c31] at H
    exact absurd ((Option.some.inj H).trans HTR.out) (by decide)
   subst c31
   have AC := Aside0.mk AC0
   clear AC0
   replace H : ((tickinglaw06_awake.f kj7).bind fun t595 => (some t595)) = some r := H
   obtain ⟨t595, A320, H⟩ := Option.bind_eq_some_iff.mp H
   have A32 := Aside0.mk A320
   clear A320
   obtain rfl := Option.some.inj H
   have hcz35_0 : wc.cell? ⟨gb574, 0, none⟩ = some (.bool a2_0) := (blk_cell BK574.out 0).trans rfl
   have hcz35_1 : wc.cell? ⟨gb574, 1, none⟩ = some (.slice A2_1 l2_1.length c2_1) := (blk_cell BK574.out 1).trans rfl
   have hcz35_2 : wc.cell? ⟨gb574, 2, none⟩ = some (.string a2_2) := (blk_cell BK574.out 2).trans rfl
   go_wp2_with (first
    | (go_at_call 36; go_must (
        (with_reducible refine (tickinglaw06_finding.calls a2_0 _ _ l2_1 a2_2 t588 t589 t592 _ (Kd.C_below HR2_1.out HB.out) HC2_1.out A28.out).mono ?_); rintro e w36 ⟨v590, rfl, ho0, hb⟩;
        obtain ⟨Ah, ch, eh⟩ := Kd.R_slice ho0; subst eh;
        have hz1 := hb.size;
        have hb1 : (w36.alloc (.cells #[.bool t588, .slice Ah t589.length ch, .string t592] 55)).heap[w36.heap.size]? = some (.cells #[.bool t588, .slice Ah t589.length ch, .string t592] 55 (0, 0)) := heap_alloc_new w36 _;
        have h1f0 := blk_frozen hb1 0;
        have h1c0 : (w36.alloc (.cells #[.bool t588, .slice Ah t589.length ch, .string t592] 55)).cell? ⟨w36.heap.size, 0, none⟩ = some (.bool t588) := (blk_cell hb1 0).trans rfl;
        have hg0 : (w36.alloc (.cells #[.bool t588, .slice Ah t589.length ch, .string t592] 55)).cell? ⟨gb586, 0, none⟩ = some (.bool false) := (blk_cell (blk_below (blk_below BK586.out hb) (below_alloc (Below.refl _ _) _)) 0).trans rfl;
        have hb2 : (w36.alloc (.cells #[.bool true, .slice Ah t589.length ch, .string t592] 55)).heap[w36.heap.size]? = some (.cells #[.bool true, .slice Ah t589.length ch, .string t592] 55 (0, 0)) := heap_alloc_new w36 _;
        have h2f := blk_frozen hb2 2;
        have h2c0 : (w36.alloc (.cells #[.bool true, .slice Ah t589.length ch, .string t592] 55)).cell? ⟨w36.heap.size, 0, none⟩ = some (.bool true) := (blk_cell hb2 0).trans rfl;
        have h2c2 : (w36.alloc (.cells #[.bool true, .slice Ah t589.length ch, .string t592] 55)).cell? ⟨w36.heap.size, 2, none⟩ = some (.string t592) := (blk_cell hb2 2).trans rfl;
        have hb3 : (w36.alloc (.cells #[.bool true, .slice Ah t589.length ch, .string ⟨#[]⟩] 55)).heap[w36.heap.size]? = some (.cells #[.bool true, .slice Ah t589.length ch, .string ⟨#[]⟩] 55 (0, 0)) := heap_alloc_new w36 _;
        have h3c0 : (w36.alloc (.cells #[.bool true, .slice Ah t589.length ch, .string ⟨#[]⟩] 55)).cell? ⟨w36.heap.size, 0, none⟩ = some (.bool true) := (blk_cell hb3 0).trans rfl;
        have h3c1 : (w36.alloc (.cells #[.bool true, .slice Ah t589.length ch, .string ⟨#[]⟩] 55)).cell? ⟨w36.heap.size, 1, none⟩ = some (.slice Ah t589.length ch) := (blk_cell hb3 1).trans rfl;
        have h3c2 : (w36.alloc (.cells #[.bool true, .slice Ah t589.length ch, .string ⟨#[]⟩] 55)).cell? ⟨w36.heap.size, 2, none⟩ = some (.string ⟨#[]⟩) := (blk_cell hb3 2).trans rfl;
        have hB3w : Below w36.heap.size w36 (w36.alloc (.cells #[.bool true, .slice Ah t589.length ch, .string ⟨#[]⟩] 55)) := below_alloc (Below.refl _ _) _;
        have HB3w := Aside0.mk hB3w;
        have HB3 := Aside0.mk (below_then hb hb.size hB3w);
        have HO5 := Aside0.mk ho0;
        clear ho0 hb hb1 hb2 hb3 hB3w hz1))
    | (go_at_call 35; go_must (
        (refine (loops_Check.calls kj7 _ _ t575 t578 t579 true _ _ t589 ⟨#[]⟩ 10 _ (Kd.C_below (Kd.R_reads' HO_7.out).2.2 HB3.out) (Kd.R_reads' HO_7.out).2.1 (Kd.C_below (Kd.R_reads' HO5.out).2.2 HB3w.out) (Kd.R_reads' HO5.out).2.1 AC.out).mono ?_); rintro e w45 ⟨rfl, hb5⟩;
        have HB5 := Aside0.mk (below_then HB3.out HB3.out.size hb5);
        clear hb5))
    | (go_at_call 19; go_must (
        (with_reducible refine (tickinglaw06_awake.calls kj7 t595 _ A32.out).mono ?_); rintro e w46 ⟨rfl, hb6⟩;
        have HB6 := Aside0.mk (below_then HB.out HB.out.size (below_then HB5.out HB5.out.size hb6));
        clear hb6)))
   go_ret
   exact ⟨rfl, HB6.out⟩
end Go.Proofs.Ytnfmeafiaipplaa.S

namespace Go.Proofs.Ytnfmeafiaipplaa.P
open Go.RowKit Go.Proofs.YtnfmeafiaipplaaW.PrintWords

theorem w64 {x : Int} (h0 : -9223372036854775808 ≤ x) (h1 : x ≤ 9223372036854775807) : wrap64 x = x := by
 unfold wrap64
 omega
theorem nodup_len : ∀ (n : Nat) (l : List Int) (lo : Int), l.Nodup → (∀ a ∈ l, lo < a ∧ a ≤ lo + n) → l.length ≤ n
 | 0, l, lo, _, h => by
  cases l with
  | nil => simp
  | cons a t => have := h a (by simp); omega
 | n + 1, l, lo, hd, h => by
  have h1 := nodup_len n (l.erase (lo + 1)) (lo + 1) (hd.erase _) (fun a ha => by
   have hm := List.mem_of_mem_erase ha
   have hne : a ≠ lo + 1 := fun e => by
    subst e
    exact (List.Nodup.not_mem_erase hd) ha
   have := h a hm
   omega)
  have h2 : l.length ≤ (l.erase (lo + 1)).length + 1 := by
   rw [List.length_erase]
   split <;> omega
  omega
end Go.Proofs.Ytnfmeafiaipplaa.P

namespace Go.Proofs.Ytnfmeafiaipplaa.P
open Go.RowKit Go.Proofs.Ytnfmeafiaipplaa.S Go.Proofs.YtnfmeafiaipplaaW.PrintWords
set_option linter.unusedVariables false

/-- A node of a list, by its position. -/
abbrev nd (t : List S39) (i : Int) : S39 := rd_T39 t i
inductive T where
 | leaf (k : Int)
 | node (k : Int) (a b : T)
 deriving DecidableEq
/-- What a node shows down to a depth. -/
def tr (t : List S39) : Nat → Int → T
 | 0, i => .leaf (nd t i).f0
 | d + 1, i => if 4 ≤ (nd t i).f0 then .node (nd t i).f0 (tr t d (nd t i).f1) (tr t d (nd t i).f2) else .leaf (nd t i).f0
def okN (t : List S39) (i : Int) : Prop :=
 (0 ≤ (nd t i).f0 ∧ (nd t i).f0 ≤ 5) ∧ ((nd t i).f0 < 4 → (nd t i).f1 = 0 ∧ (nd t i).f2 = 0) ∧ (0 ≤ (nd t i).f1 ∧ (nd t i).f1 < t.length) ∧ (0 ≤ (nd t i).f2 ∧ (nd t i).f2 < t.length)
instance (t : List S39) (i : Int) : Decidable (okN t i) := by unfold okN; infer_instance
/-- Types: not empty, every node in order. -/
def IsTy (t : List S39) : Prop := 1 ≤ t.length ∧ ∀ i : Int, 0 ≤ i → i < t.length → okN t i
theorem T.kind_node {k k' : Int} {a b a' b' : T} (h : T.node k a b = T.node k' a' b') : k = k' ∧ a = a' ∧ b = b' := by
 injection h with h1 h2 h3
 exact ⟨h1, h2, h3⟩
theorem tr_kind {t t' : List S39} {d : Nat} {i j : Int} (h : tr t d i = tr t' d j) : (nd t i).f0 = (nd t' j).f0 := by
 cases d with
 | zero => injection h
 | succ d =>
  unfold tr at h
  split at h <;> split at h
  ·exact (T.kind_node h).1
  ·cases h
  ·cases h
  injection h
/-- Two nodes stand for the same tree. -/
def Same (t : List S39) (i : Int) (t' : List S39) (j : Int) : Prop := ∀ d, tr t d i = tr t' d j
theorem Same.refl (t : List S39) (i : Int) : Same t i t i := fun _ => rfl
theorem Same.symm {t t' : List S39} {i j : Int} (h : Same t i t' j) : Same t' j t i := fun d => (h d).symm
theorem Same.trans {t t' t'' : List S39} {i j k : Int} (h : Same t i t' j) (h' : Same t' j t'' k) : Same t i t'' k := fun d => (h d).trans (h' d)
theorem same_iff {t t' : List S39} {i j : Int} : Same t i t' j ↔ (nd t i).f0 = (nd t' j).f0 ∧ (4 ≤ (nd t i).f0 → Same t (nd t i).f1 t' (nd t' j).f1 ∧ Same t (nd t i).f2 t' (nd t' j).f2) := by
 constructor
 ·intro h
  have hk := tr_kind (h 0)
  refine ⟨hk, fun c => ?_⟩
  have hh : ∀ d, tr t d (nd t i).f1 = tr t' d (nd t' j).f1 ∧ tr t d (nd t i).f2 = tr t' d (nd t' j).f2 := fun d => by
   have := h (d + 1)
   rw [show tr t (d + 1) i = .node (nd t i).f0 (tr t d (nd t i).f1) (tr t d (nd t i).f2) from if_pos c, show tr t' (d + 1) j = .node (nd t' j).f0 (tr t' d (nd t' j).f1) (tr t' d (nd t' j).f2) from if_pos (by rw [← hk]; exact c)] at this
   exact (T.kind_node this).2
  exact ⟨fun d => (hh d).1, fun d => (hh d).2⟩
 rintro ⟨hk, h⟩ d
 cases d with
 | zero => unfold tr; rw [hk]
 | succ d =>
  unfold tr
  by_cases c : 4 ≤ (nd t i).f0
  rotate_left
  ·rw [if_neg c, if_neg (by rw [← hk]; exact c), hk]
  rw [if_pos c, if_pos (by rw [← hk]; exact c), hk, (h c).1 d, (h c).2 d]
noncomputable def sameB (t : List S39) (i j : Int) : Bool := @decide (Same t i t j) (Classical.propDecidable _)

theorem w64s {j : Nat} (h : j ≤ 1000000) : wrap64 ((j : Int) + 1) = ((j + 1 : Nat) : Int) := by
 rw [w64 (by omega) (by omega)]
 rfl
theorem cast0 (k : Nat) : (0 : Int) ≤ (k : Int) := Int.natCast_nonneg k
theorem castlt {a b : Nat} (h : a < b) : (a : Int) < (b : Int) := Int.ofNat_lt.2 h
section
variable {t : List S39} (hv : ∀ i : Int, 0 ≤ i → i < t.length → okN t i) (hn : t.length ≤ 1000)
include hv hn

omit hv hn in
omit hv in
omit hv in
end
end Go.Proofs.Ytnfmeafiaipplaa.P

namespace Go.Proofs.Ytnfmeafiaipplaa.P
open Go.RowKit Go.Proofs.Ytnfmeafiaipplaa.S Go.Proofs.Ytnfmeafiaipplaa.Lib Go.Proofs.YtnfmeafiaipplaaW.PrintWords
set_option linter.unusedVariables false
set_option linter.unusedSectionVars false

section
variable {α : Type} [DecidableEq α]
theorem nodup_sub_len : ∀ {R L : List α}, R.Nodup → (∀ x ∈ R, x ∈ L) → R.length ≤ L.length
 | [], _, _, _ => by simp
 | a :: R, L, hn, hs => by
  have ha : a ∈ L := hs a (by simp)
  have h1 := nodup_sub_len (R := R) (L := L.erase a) (List.nodup_cons.1 hn).2 (fun x hx => by
   have hxa : x ≠ a := fun e => (List.nodup_cons.1 hn).1 (e ▸ hx)
   exact (List.mem_erase_of_ne hxa).2 (hs x (by simp [hx])))
  rw [List.length_erase_of_mem ha] at h1
  have : 0 < L.length := List.length_pos_of_mem ha
  simp
  omega
end
section
variable {t : List S39} (hv : ∀ i : Int, 0 ≤ i → i < t.length → okN t i) (hn : t.length ≤ 1000)
include hv hn

omit hv hn in
omit hn in
omit hn in
omit hv in
end

/-- Where a list has a node that is equal to x first. -/
noncomputable def ixS (t : List S39) (ns : List Int) (x : Int) : Nat := ns.findIdx (fun y => sameB t y x)
noncomputable def reS (t : List S39) (ns : List Int) (x : Int) : List Int := if ixS t ns x < ns.length then ns else ns ++ [x]
noncomputable def canS (t : List S39) : Nat → List Int → Nat → List S39 → Option (List S39)
  | 0, _, _, _ => none
  | f + 1, ns, k, out =>
    if k < ns.length then
      (if 4 ≤ (nd t (rd ns k)).f0 then canS t f (reS t (reS t ns (nd t (rd ns k)).f1) (nd t (rd ns k)).f2) (k + 1)
        (out ++ [⟨(nd t (rd ns k)).f0, (ixS t (reS t ns (nd t (rd ns k)).f1) (nd t (rd ns k)).f1 : Int), (ixS t (reS t (reS t ns (nd t (rd ns k)).f1) (nd t (rd ns k)).f2) (nd t (rd ns k)).f2 : Int)⟩])
       else canS t f ns (k + 1) (out ++ [nd t (rd ns k)]))
    else some out
/-- Nodes of the list, no two equal. -/
def Apart (t : List S39) (ns : List Int) : Prop := (∀ x ∈ ns, 0 ≤ x ∧ x < t.length) ∧ ns.Pairwise (fun x y => ¬ Same t x t y)
theorem Apart.nodup {t : List S39} {ns : List Int} (h : Apart t ns) : ns.Nodup := h.2.imp (fun hs e => hs (by rw [e]; exact Same.refl _ _))
theorem Apart.len {t : List S39} {ns : List Int} (h : Apart t ns) : ns.length ≤ t.length := nodup_len t.length ns (-1) h.nodup (fun a ha => by have := h.1 a ha; omega)
section
variable {t : List S39} (hv : ∀ i : Int, 0 ≤ i → i < t.length → okN t i) (hn : t.length ≤ 100)
include hv hn
omit hv hn in
end

noncomputable def tyB (t : List S39) (m : Int) : Bool := @decide (IsTy t ∧ (t.length : Int) ≤ m) (Classical.propDecidable _)
theorem tyB_iff {t : List S39} {m : Int} : tyB t m = true ↔ IsTy t ∧ (t.length : Int) ≤ m := by
 unfold tyB
 exact @decide_eq_true_iff _ (Classical.propDecidable _)
theorem tyB_false {t : List S39} {m : Int} (h : ¬ (IsTy t ∧ (t.length : Int) ≤ m)) : tyB t m = false := by
 cases e : tyB t m with
 | false => rfl
 | true => exact absurd (tyB_iff.1 e) h
theorem tyB_not {t : List S39} {m : Int} {i : Nat} (hi : i < t.length) (h : ¬ okN t i) : tyB t m = false := tyB_false (fun hh => h (hh.1.2 i (by omega) (by omega)))
theorem within_eq (a b c : Int) : loops_within.f a b c = some (decide (b ≤ a ∧ a ≤ c)) := by
 unfold loops_within.f
 by_cases h : a ≥ b
 rotate_left
 ·rw [if_neg h, decide_eq_false (fun hh => h hh.1)]
 rw [if_pos h]
 by_cases h2 : a ≤ c
 ·rw [decide_eq_true h2, decide_eq_true ⟨h, h2⟩]
 rw [decide_eq_false h2, decide_eq_false (fun hh => h2 hh.2)]
theorem areTypes_l0 {t : List S39} (h1 : 1 ≤ t.length) (hn : t.length ≤ 24) : ∀ (d i : Nat), i + d = t.length → (∀ j : Nat, j < i → okN t j) → Ev (fun k => loops_areTypes.l0 k t t t.length (i : Int)) (tyB t 24)
 | 0, i, h, ho => by
  refine Ev.step (fun k => ?_) (Ev.now (tyB t 24))
  simp only [loops_areTypes.l0]
  rw [if_neg (by omega), tyB_iff.2 ⟨⟨h1, fun j j0 j1 => by
   have := ho j.toNat (by omega)
   rwa [Int.toNat_of_nonneg j0] at this⟩, by omega⟩]
 | d + 1, i, h, ho => by
  have hi : i < t.length := by omega
  have z := cast0 i
  have hlt := castlt hi
  have hw : wrap64 ((t.length : Int) - 1) = (t.length : Int) - 1 := w64 (by omega) (by omega)
  obtain ⟨x5, hx5⟩ : ∃ x5, x5 = if 4 ≤ (nd t i).f0 then (t.length : Int) - 1 else 0 := ⟨_, rfl⟩
  have go : ∀ r, Ev (fun k => loops_areTypes.j1 k t x5 t t.length (i : Int) (nd t i).f0 (nd t i).f1 (nd t i).f2) r → (0 ≤ (nd t i).f0 → (nd t i).f0 ≤ 5 → Ev (fun k => loops_areTypes.l0 k t t t.length (i : Int)) r) := fun r hr f0 f5 => by
   refine Ev.step (fun k => ?_) hr
   simp only [loops_areTypes.l0]
   rw [if_pos hlt, if_pos z, if_pos hlt, hw]
   by_cases c : 4 ≤ (nd t i).f0
   ·rw [if_pos c] at hx5
    have : loops_hasParts.f (rd_T39 t i).f0 (rd_T39 t i).f1 (rd_T39 t i).f2 = some true := by
     unfold loops_hasParts.f
     by_cases c4 : (nd t i).f0 = 4
     ·rw [if_pos c4]
     ·have c5 : (nd t i).f0 = 5 := by omega
      rw [if_neg c4, beq_iff_eq.2 c5]
    rw [this, Option.bind_some, if_pos rfl, hx5]
   ·rw [if_neg c] at hx5
    have : loops_hasParts.f (rd_T39 t i).f0 (rd_T39 t i).f1 (rd_T39 t i).f2 = some false := by
     unfold loops_hasParts.f
     have c4 : ¬ (rd_T39 t i).f0 = 4 := fun e => c (by rw [e]; decide)
     have c5 : ¬ (rd_T39 t i).f0 = 5 := fun e => c (by rw [e]; decide)
     rw [if_neg c4, beq_eq_false_iff_ne.2 c5]
    rw [this, Option.bind_some, if_neg (by decide), hx5]
  have z5 : 0 ≤ x5 := by rw [hx5]; split <;> omega
  by_cases hok : okN t i
  ·have ih := areTypes_l0 h1 hn d (i + 1) (by omega) (fun j hj => by
    by_cases e : j = i
    ·rw [e]; exact hok
    ·exact ho j (by omega))
   obtain ⟨⟨k0, k1⟩, k2, ⟨a0, a1⟩, ⟨b0, b1⟩⟩ := hok
   refine go _ ?_ k0 k1
   refine Ev.step (f := fun k => loops_areTypes.l0 k t t t.length ((i + 1 : Nat) : Int)) (fun k => ?_) ih
   have e2 := w64s (j := i) (by omega)
   have q1 : (nd t i).f1 ≤ x5 := by rw [hx5]; split <;> omega
   have q2 : (nd t i).f2 ≤ x5 := by rw [hx5]; split <;> omega
   simp only [loops_areTypes.j1]
   rw [within_eq, decide_eq_true ⟨k0, k1⟩, within_eq, decide_eq_true ⟨a0, q1⟩, within_eq, decide_eq_true ⟨b0, q2⟩, e2]
   rfl
  rw [tyB_not hi hok]
  by_cases hk : 0 ≤ (nd t i).f0 ∧ (nd t i).f0 ≤ 5
  ·refine go _ ?_ hk.1 hk.2
   refine Ev.step (fun k => ?_) (Ev.now false)
   simp only [loops_areTypes.j1]
   rw [within_eq, decide_eq_true hk, Option.bind_some, if_pos rfl, within_eq]
   by_cases c1 : 0 ≤ (nd t i).f1 ∧ (nd t i).f1 ≤ x5
   rotate_left
   ·rw [decide_eq_false c1]
    rfl
   rw [decide_eq_true c1, Option.bind_some, if_pos rfl, within_eq]
   by_cases c2 : 0 ≤ (nd t i).f2 ∧ (nd t i).f2 ≤ x5
   rotate_left
   ·rw [decide_eq_false c2]
    rfl
   exfalso
   apply hok
   have q : ¬ 4 ≤ (nd t i).f0 → x5 = 0 := fun c => by rw [hx5, if_neg c]
   have q' : x5 ≤ (t.length : Int) - 1 := by rw [hx5]; split <;> omega
   refine ⟨hk, fun h => ⟨?_, ?_⟩, ⟨?_, ?_⟩, ⟨?_, ?_⟩⟩ <;> omega
  -- a kind that is none: both ways end so
  refine Ev.step (f := fun k => loops_areTypes.j1 k t (if (nd t i).f0 = 4 ∨ (nd t i).f0 = 5 then (t.length : Int) - 1 else 0) t t.length (i : Int) (nd t i).f0 (nd t i).f1 (nd t i).f2) (fun k => ?_) (Ev.step (fun k => ?_) (Ev.now false))
  ·simp only [loops_areTypes.l0]
   have c4 : ¬ (rd_T39 t i).f0 = 4 := fun e => hk ⟨by show 0 ≤ (rd_T39 t i).f0; omega, by show (rd_T39 t i).f0 ≤ 5; omega⟩
   have c5 : ¬ (rd_T39 t i).f0 = 5 := fun e => hk ⟨by show 0 ≤ (rd_T39 t i).f0; omega, by show (rd_T39 t i).f0 ≤ 5; omega⟩
   have : loops_hasParts.f (rd_T39 t i).f0 (rd_T39 t i).f1 (rd_T39 t i).f2 = some false := by
    unfold loops_hasParts.f
    rw [if_neg c4, beq_eq_false_iff_ne.2 c5]
   rw [if_pos hlt, if_pos z, if_pos hlt, this, Option.bind_some, if_neg (by decide), if_neg (show ¬ ((nd t i).f0 = 4 ∨ (nd t i).f0 = 5) from fun h => h.elim c4 c5)]
  simp only [loops_areTypes.j1]
  rw [within_eq, decide_eq_false hk]
  rfl
theorem areTypes_ev {t : List S39} (hn : t.length ≤ 1000) : Ev (fun k => loops_areTypes.f k t) (tyB t 24) := by
 unfold loops_areTypes.f
 simp only [within_eq]
 by_cases c : 1 ≤ (t.length : Int) ∧ (t.length : Int) ≤ 24
 rotate_left
 ·rw [tyB_false (fun hh => c ⟨by have := hh.1.1; omega, hh.2⟩)]
  refine Ev.congr (fun k => ?_) (Ev.now false)
  rw [decide_eq_false c]
  rfl
 refine Ev.congr (fun k => ?_) (areTypes_l0 (by omega) (by omega) t.length 0 (by omega) (fun j hj => by omega))
 rw [decide_eq_true c]
 rfl
/-- All of some nodes lie in a list. -/
def inB (t : List S39) (is : List Int) : Bool := is.all (fun i => decide (0 ≤ i ∧ i < t.length))
theorem areNodes_ev {t : List S39} (hn : t.length ≤ 1000) (is : List Int) : Ev (fun k => loops_areNodes.f k t is) (tyB t 24 && inB t is) := by
 unfold loops_areNodes.f
 refine Ev.bind (f := fun k (b : Bool) => if b = true then some (!(is.any (badNode t.length))) else some false) (areTypes_ev hn) ?_
 refine Ev.congr (fun k => ?_) (Ev.now _)
 cases tyB t 24 with
 | false => rfl
 | true =>
  rw [if_pos rfl, Bool.true_and]
  congr 1
  unfold inB
  rw [List.not_any_eq_all_not]
  congr 1
  funext i
  unfold badNode
  rw [Bool.not_not]
  apply decide_eq_decide.2
  omega
/-- The canonical list. -/
noncomputable def canL (t : List S39) (i : Int) : List S39 := (canS t 200 [i] 0 []).getD []
theorem inB_two {t : List S39} {i j : Int} : inB t [i, j] = true ↔ (0 ≤ i ∧ i < t.length) ∧ (0 ≤ j ∧ j < t.length) := by simp [inB]
end Go.Proofs.Ytnfmeafiaipplaa.P

namespace Go.Proofs.Ytnfmeafiaipplaa.P
open Go.RowKit Go.Proofs.Ytnfmeafiaipplaa.S Go.Proofs.Ytnfmeafiaipplaa.Lib Go.Proofs.YtnfmeafiaipplaaW.PrintWords
set_option linter.unusedVariables false
def awT : List S39 := [(⟨4, 1, 0⟩ : S39), (⟨2, 0, 0⟩ : S39), (⟨3, 0, 0⟩ : S39), (⟨5, 4, 1⟩ : S39), (⟨1, 0, 0⟩ : S39), (⟨5, 1, 4⟩ : S39)]
theorem aw_can : loops_Canonical.f 40 awT 0 = some ([⟨4, 1, 0⟩, ⟨2, 0, 0⟩], 0) := by kernel_rfl
theorem aw_dep3 : loops_Depth.f 40 awT 3 = some (1, 0) := by kernel_rfl
theorem aw_dep0 : loops_Depth.f 40 awT 0 = some (0, 6) := by kernel_rfl
theorem aw_sub12 : (loops_Sub.f 40 awT 1 2).map (fun x => (x.1, x.2.2)) = some (false, ByteArray.empty, 0) := by kernel_rfl
theorem aw_sub35 : (loops_Sub.f 40 awT 3 5).map (fun x => (x.1, x.2.2.2)) = some (true, 0) := by kernel_rfl
theorem aw_types : tickinglaw06_types.f 40 [(⟨4, 1, 0⟩ : S39), ⟨2, 0, 0⟩] [(⟨4, 1, 0⟩ : S39), ⟨2, 0, 0⟩] = some true := by kernel_rfl
theorem aw_empty : ByteArray.empty.toList = ([] : List UInt8) := by
 unfold ByteArray.toList ByteArray.toList.loop
 rfl
theorem awake_40 : tickinglaw06_awake.f 40 = some true := by
 obtain ⟨x, hx, ex⟩ := Option.map_eq_some_iff.1 aw_sub12
 obtain ⟨y, hy, ey⟩ := Option.map_eq_some_iff.1 aw_sub35
 obtain ⟨x1, x2⟩ := Prod.mk.inj ex
 obtain ⟨x3, x4⟩ := Prod.mk.inj x2
 obtain ⟨y1, y2⟩ := Prod.mk.inj ey
 unfold tickinglaw06_awake.f
 rw [Option.bind_some]
 show ((loops_Sub.f 40 awT 1 2).bind fun bt170 => ((loops_Sub.f 40 awT 3 5).bind fun bt177 => ((loops_Canonical.f 40 awT 0).bind fun bt184 => ((loops_Depth.f 40 awT 3).bind fun bt188 => ((loops_Depth.f 40 awT 0).bind fun bt190 => _))))) = some true
 rw [hx, hy, aw_can, aw_dep3, aw_dep0]
 simp only [Option.bind_some]
 rw [if_pos x4, if_neg (by rw [x1]; decide), if_pos (by rw [x3]; exact aw_empty), if_pos y2, if_pos y1]
 simp only [if_true, aw_types, Option.bind_some]
 rfl
theorem awake_ev : Ev (fun k => tickinglaw06_awake.f k) true := Ev.of (fun k => tickinglaw06_awake.mono k) awake_40
end Go.Proofs.Ytnfmeafiaipplaa.P

namespace Go.Proofs.Ytnfmeafiaipplaa.P
open Go.RowKit Go.Proofs.Ytnfmeafiaipplaa.S Go.Proofs.Ytnfmeafiaipplaa.Lib Go.Proofs.YtnfmeafiaipplaaW.PrintWords
set_option linter.unusedVariables false
set_option linter.unusedSectionVars false

theorem u64_nonneg (a : Int) : 0 ≤ IntKind.u64.wrap a := by
 simp [IntKind.wrap, IntKind.signed, IntKind.bits]
 omega
theorem u64_id {a : Int} (h0 : 0 ≤ a) (h1 : a ≤ 1000000) : IntKind.u64.wrap a = a := by
 simp [IntKind.wrap, IntKind.signed, IntKind.bits]
 omega
theorem mod_ok (a : Int) {b : Int} (b1 : 1 ≤ b) (b2 : b ≤ 1000) : ∃ m, tickinglaw06_mod.f a b = some m ∧ 0 ≤ m ∧ m < b := by
 unfold tickinglaw06_mod.f
 rw [u64_id (by omega) (by omega), if_neg (by omega), Int.tmod_eq_emod_of_nonneg (u64_nonneg a)]
 have h0 := Int.emod_nonneg (IntKind.u64.wrap a) (show b ≠ 0 by omega)
 have h1 := Int.emod_lt_of_pos (IntKind.u64.wrap a) (show 0 < b by omega)
 rw [w64 (by omega) (by omega)]
 exact ⟨_, rfl, h0, h1⟩
/-- A node in order, of a list that will have n. -/
def okV (n : Int) (x : S39) : Prop := (0 ≤ x.f0 ∧ x.f0 ≤ 5) ∧ (x.f0 < 4 → x.f1 = 0 ∧ x.f2 = 0) ∧ (0 ≤ x.f1 ∧ x.f1 < n) ∧ (0 ≤ x.f2 ∧ x.f2 < n)
theorem ty_of {t : List S39} (h1 : 1 ≤ t.length) (h : ∀ x ∈ t, okV t.length x) : IsTy t := ⟨h1, fun i i0 i1 => by
 have hi : i.toNat < t.length := by omega
 have := h _ (List.getElem_mem hi)
 have e : nd t i = t[i.toNat] := by
  unfold nd rd_T39
  rw [List.getD_eq_getElem?_getD, List.getElem?_eq_getElem hi, Option.getD_some]
 unfold okN
 rw [e]
 exact this⟩
theorem tame_l0 (l : List S39) {n : Nat} (n1 : 1 ≤ n) (n2 : n ≤ 1000) : ∀ (d i : Nat) (out : List S39), i + d = n → out.length = i → (∀ x ∈ out, okV n x) → ∃ r, Ev (fun k => tickinglaw06_tame.l0 k l n out (i : Int)) r ∧ r.length = n ∧ ∀ x ∈ r, okV n x
 | 0, i, out, h, ho, hx => ⟨out, Ev.step (fun k => by
   simp only [tickinglaw06_tame.l0]
   rw [if_neg (by omega)]) (Ev.now out), by omega, hx⟩
 | d + 1, i, out, h, ho, hx => by
  have hb : out.length < 5864062014805 := by omega
  have hin : (i : Int) < (n : Int) := by omega
  have add : ∀ x, okV n x → ∀ y ∈ out ++ [x], okV n y := fun x hxx y hy => by
   rcases List.mem_append.1 hy with hy | hy
   ·exact hx y hy
   ·simp at hy
    rw [hy]; exact hxx
  have e2 := w64s (j := i) (by omega)
  by_cases c : (i : Int) < (l.length : Int)
  ·obtain ⟨a, ha, a0, a1⟩ := mod_ok ((rd_T39 l i).f0) (b := 6) (by omega) (by omega)
   by_cases c4 : a ≥ 4
   ·obtain ⟨b, hb1, b0, b1⟩ := mod_ok ((rd_T39 l i).f1) (b := n) (by omega) (by omega)
    obtain ⟨e, he1, e0, e1⟩ := mod_ok ((rd_T39 l i).f2) (b := n) (by omega) (by omega)
    obtain ⟨r, r1, r2⟩ := tame_l0 l n1 n2 d (i + 1) (out ++ [⟨a, b, e⟩]) (by omega) (by simp [ho]) (add _ ⟨⟨a0, show a ≤ 5 by omega⟩, fun h4 => by have : a < 4 := h4; omega, ⟨b0, b1⟩, ⟨e0, e1⟩⟩)
    refine ⟨r, Ev.step (f := fun k => tickinglaw06_tame.l0 k l n (out ++ [⟨a, b, e⟩]) ((i + 1 : Nat) : Int)) (fun k => ?_) r1, r2⟩
    simp only [tickinglaw06_tame.l0]
    rw [if_pos hin, if_pos c, if_pos (cast0 _), ha, Option.bind_some, if_pos c4, hb1, Option.bind_some, he1, Option.bind_some, if_pos hb, e2]
   ·obtain ⟨r, r1, r2⟩ := tame_l0 l n1 n2 d (i + 1) (out ++ [⟨a, 0, 0⟩]) (by omega) (by simp [ho]) (add _ ⟨⟨a0, show a ≤ 5 by omega⟩, fun _ => ⟨rfl, rfl⟩, ⟨Int.le_refl _, show (0 : Int) < n by omega⟩, ⟨Int.le_refl _, show (0 : Int) < n by omega⟩⟩)
    refine ⟨r, Ev.step (f := fun k => tickinglaw06_tame.l0 k l n (out ++ [⟨a, 0, 0⟩]) ((i + 1 : Nat) : Int)) (fun k => ?_) r1, r2⟩
    simp only [tickinglaw06_tame.l0]
    rw [if_pos hin, if_pos c, if_pos (cast0 _), ha, Option.bind_some, if_neg c4, if_pos hb, e2]
  ·obtain ⟨r, r1, r2⟩ := tame_l0 l n1 n2 d (i + 1) (out ++ [⟨0, 0, 0⟩]) (by omega) (by simp [ho]) (add _ ⟨⟨Int.le_refl _, by show (0 : Int) ≤ 5; decide⟩, fun _ => ⟨rfl, rfl⟩, ⟨Int.le_refl _, show (0 : Int) < n by omega⟩, ⟨Int.le_refl _, show (0 : Int) < n by omega⟩⟩)
   refine ⟨r, Ev.step (f := fun k => tickinglaw06_tame.l0 k l n (out ++ [⟨0, 0, 0⟩]) ((i + 1 : Nat) : Int)) (fun k => ?_) r1, r2⟩
   simp only [tickinglaw06_tame.l0]
   rw [if_pos hin, if_neg c, if_pos hb, e2]
theorem tame_ev (l : List S39) {m : Int} (m1 : 1 ≤ m) (m2 : m ≤ 24) : ∃ t, Ev (fun k => tickinglaw06_tame.f k l m) t ∧ IsTy t ∧ (t.length : Int) ≤ m := by
 obtain ⟨q, hq, q0, q1⟩ := mod_ok (wrap64 ((l.length : Int) - 1)) (b := m) m1 (by omega)
 have hw : wrap64 (1 + q) = ((q.toNat + 1 : Nat) : Int) := by
  rw [w64 (by omega) (by omega)]
  omega
 obtain ⟨t, t1, t2, t3⟩ := tame_l0 l (n := q.toNat + 1) (by omega) (by omega) (q.toNat + 1) 0 [] (by omega) rfl (fun x hx => by simp at hx)
 refine ⟨t, ?_, ty_of (by omega) (by rw [t2]; exact t3), by omega⟩
 unfold tickinglaw06_tame.f
 rw [hq]
 simp only [Option.bind_some, hw]
 exact t1

/-- What a relation of subtypes must bear, at two nodes. -/
def Stp (t : List S39) (R : Int → Int → Prop) (i j : Int) : Prop :=
  ((nd t i).f0 = 0 ∨ (nd t j).f0 = 1) ∨ ((nd t i).f0 = (nd t j).f0 ∧ ((nd t i).f0 = 4 → R (nd t i).f1 (nd t j).f1 ∧ R (nd t i).f2 (nd t j).f2) ∧ ((nd t i).f0 = 5 → R (nd t j).f1 (nd t i).f1 ∧ R (nd t i).f2 (nd t j).f2))
theorem Stp.mono {t : List S39} {R R' : Int → Int → Prop} {i j : Int} (h : Stp t R i j) (hR : ∀ a b, R a b → R' a b) : Stp t R' i j := by
  rcases h with h | ⟨h1, h2, h3⟩
  · exact .inl h
  exact .inr ⟨h1, fun c => ⟨hR _ _ (h2 c).1, hR _ _ (h2 c).2⟩, fun c => ⟨hR _ _ (h3 c).1, hR _ _ (h3 c).2⟩⟩
def SubC (t : List S39) (i j : Int) : Prop := ∃ R : Int → Int → Prop, (∀ a b, R a b → Stp t R a b) ∧ R i j
theorem SubC.step {t : List S39} {i j : Int} (h : SubC t i j) : Stp t (SubC t) i j := by
  obtain ⟨R, h1, h2⟩ := h
  exact (h1 i j h2).mono (fun a b hab => ⟨R, h1, hab⟩)
theorem SubC.of_same {t : List S39} {i j : Int} (h : Same t i t j) : SubC t i j :=
  ⟨fun a b => Same t a t b, fun a b hab => .inr ⟨(same_iff.1 hab).1, fun c => (same_iff.1 hab).2 (by omega), fun c => ⟨((same_iff.1 hab).2 (by omega)).1.symm, ((same_iff.1 hab).2 (by omega)).2⟩⟩, h⟩
theorem SubC.refl (t : List S39) (i : Int) : SubC t i i := .of_same (Same.refl t i)
theorem SubC.trans {t : List S39} {i j k : Int} (h : SubC t i j) (h' : SubC t j k) : SubC t i k := by
  refine ⟨fun a c => ∃ b, SubC t a b ∧ SubC t b c, ?_, j, h, h'⟩
  rintro a c ⟨b, h1, h2⟩
  rcases h1.step with (p | p) | ⟨p1, p2, p3⟩
  · exact .inl (.inl p)
  · rcases h2.step with (q | q) | ⟨q1, _, _⟩
    · omega
    · exact .inl (.inr q)
    · exact .inl (.inr (by omega))
  rcases h2.step with (q | q) | ⟨q1, q2, q3⟩
  · exact .inl (.inl (by omega))
  · exact .inl (.inr q)
  exact .inr ⟨by omega, fun c => ⟨⟨_, (p2 c).1, (q2 (by omega)).1⟩, ⟨_, (p2 c).2, (q2 (by omega)).2⟩⟩, fun c => ⟨⟨_, (q3 (by omega)).1, (p3 c).1⟩, ⟨_, (p3 c).2, (q3 (by omega)).2⟩⟩⟩
theorem stp_needs {t : List S39} (hv : ∀ i : Int, 0 ≤ i → i < t.length → okN t i) {i j : Int} (i0 : 0 ≤ i) (i1 : i < t.length) {R : Int → Int → Prop} : Stp t R i j ↔ ∃ m, needsF (nd t i) (nd t j) = some m ∧ ∀ c q, needGet m c = some q → R (s23 q).f0 (s23 q).f1 := by
  obtain ⟨⟨k0, k1⟩, _⟩ := hv i i0 i1
  unfold needsF Stp
  by_cases c0 : (nd t i).f0 = 0 ∨ (nd t j).f0 = 1
  · rw [if_pos c0]
    exact ⟨fun _ => ⟨none, rfl, fun c q h => by cases h⟩, fun _ => .inl c0⟩
  rw [if_neg c0]
  by_cases c1 : (nd t i).f0 = (nd t j).f0
  rotate_left
  · rw [if_pos c1]
    constructor
    · rintro (h | ⟨h, _⟩)
      · exact absurd h c0
      · exact absurd h c1
    · rintro ⟨m, hm, _⟩
      cases hm
  rw [if_neg (by simpa using c1)]
  by_cases c4 : (nd t i).f0 = 4
  · rw [if_pos c4]
    constructor
    · rintro (h | ⟨_, h, _⟩)
      · exact absurd h c0
      · refine ⟨_, rfl, fun c q hq => ?_⟩
        simp only [needGet] at hq
        split at hq
        · cases hq; exact (h c4).1
        · split at hq
          · cases hq; exact (h c4).2
          · cases hq
    · rintro ⟨m, hm, h⟩
      cases hm
      exact .inr ⟨c1, fun _ => ⟨h 97 _ rfl, h 98 _ rfl⟩, fun c5 => by omega⟩
  rw [if_neg c4]
  by_cases c5 : (nd t i).f0 = 5
  rotate_left
  · rw [if_neg c5]
    exact ⟨fun _ => ⟨none, rfl, fun c q h => by cases h⟩, fun _ => .inr ⟨c1, fun c => absurd c c4, fun c => absurd c c5⟩⟩
  rw [if_pos c5]
  constructor
  · rintro (h | ⟨_, _, h⟩)
    · exact absurd h c0
    · refine ⟨_, rfl, fun c q hq => ?_⟩
      simp only [needGet] at hq
      split at hq
      · cases hq; exact (h c5).1
      · split at hq
        · cases hq; exact (h c5).2
        · cases hq
  rintro ⟨m, hm, h⟩
  cases hm
  exact .inr ⟨c1, fun c4' => absurd c4' c4, fun _ => ⟨h 97 _ rfl, h 98 _ rfl⟩⟩
def inP (t : List S39) (p : S23) : Prop := (0 ≤ p.f0 ∧ p.f0 < t.length) ∧ (0 ≤ p.f1 ∧ p.f1 < t.length)
theorem l23_inj {p q : S23} (h : l23 p = l23 q) : p = q := by
  obtain ⟨a, b⟩ := p
  obtain ⟨c, d⟩ := q
  simp [l23] at h
  rw [h.1, h.2]
theorem hasK_cons (bs : Bad) (k : List Int) (c : Int) (q : List Int) : hasK ((k, c) :: bs) q = (q == k || hasK bs q) := by
  unfold hasK
  rw [List.lookup_cons]
  cases h : q == k <;> simp
theorem letOf_cons (bs : Bad) (k : List Int) (c : Int) (q : List Int) : letOf ((k, c) :: bs) q = if q = k then c else letOf bs q := by
  unfold letOf
  rw [List.lookup_cons]
  by_cases h : q = k
  · rw [if_pos h, h]
    simp
  rw [if_neg h, beq_eq_false_iff_ne.2 h]
/-- Why a pair is refuted, by a list. -/
def Why (t : List S39) (bs : Bad) (p : S23) (c : Int) : Prop :=
  (c = 0 ∧ needsF (nd t p.f0) (nd t p.f1) = none) ∨ ((c = 97 ∨ c = 98) ∧ ∃ m q, needsF (nd t p.f0) (nd t p.f1) = some m ∧ needGet m c = some q ∧ hasK bs q = true)
inductive Rk (t : List S39) : Bad → Prop where
  | nil : Rk t []
  | cons (p : S23) (c : Int) (bs : Bad) : Rk t bs → inP t p → hasK bs (l23 p) = false → Why t bs p c → Rk t ((l23 p, c) :: bs)
theorem need_inP {t : List S39} (hv : ∀ i : Int, 0 ≤ i → i < t.length → okN t i) {p : S23} (hp : inP t p) {m : Option (List Int × List Int)} (hm : needsF (nd t p.f0) (nd t p.f1) = some m) {c : Int} {q : List Int} (hq : needGet m c = some q) : q = l23 (s23 q) ∧ inP t (s23 q) := by
  obtain ⟨_, _, a1, b1⟩ := hv _ hp.1.1 hp.1.2
  obtain ⟨_, _, a2, b2⟩ := hv _ hp.2.1 hp.2.2
  unfold needsF at hm
  repeat' split at hm
  all_goals first
    | (cases hm; done)
    | (cases hm; cases hq; done)
    | (cases hm; simp only [needGet] at hq; split at hq
       · cases hq; exact ⟨rfl, by first | exact ⟨a1, a2⟩ | exact ⟨a2, a1⟩⟩
       · split at hq
         · cases hq; exact ⟨rfl, ⟨b1, b2⟩⟩
         · cases hq)
theorem Rk.sound {t : List S39} (hv : ∀ i : Int, 0 ≤ i → i < t.length → okN t i) {bs : Bad} (h : Rk t bs) : ∀ p : S23, hasK bs (l23 p) = true → ¬ SubC t p.f0 p.f1 := by
  induction h with
  | nil => intro p hp; cases hp
  | cons p c bs hr hin hno hw ih =>
    intro x hx hs
    rw [hasK_cons, Bool.or_eq_true] at hx
    rcases hx with hx | hx
    · have e := l23_inj (beq_iff_eq.1 hx)
      subst e
      obtain ⟨m, hm, hall⟩ := (stp_needs hv hin.1.1 hin.1.2).1 hs.step
      rcases hw with ⟨_, hn⟩ | ⟨_, m', q, hm', hq, hb⟩
      · rw [hn] at hm; cases hm
      · rw [hm] at hm'
        cases hm'
        have := (need_inP hv hin hm hq).1
        exact ih (s23 q) (by rw [← this]; exact hb) (hall c q hq)
    exact ih x hx hs
theorem Rk.let_suf {t : List S39} {suf : Bad} {k : List Int} (hk : hasK suf k = true) : ∀ {pre : Bad}, Rk t (pre ++ suf) → letOf (pre ++ suf) k = letOf suf k
  | [], _ => rfl
  | x :: pre, h => by
    cases h with
    | cons p c bs hr hin hno hw =>
      have hin2 : hasK (pre ++ suf) k = true := by
        clear hno hr hw
        induction pre with
        | nil => exact hk
        | cons y pre ih =>
          obtain ⟨a, b⟩ := y
          rw [List.cons_append, hasK_cons, ih, Bool.or_true]
      have hno' : hasK (pre ++ suf) (l23 p) = false := hno
      rw [List.cons_append, letOf_cons, if_neg (fun e => by rw [e, hno'] at hin2; cases hin2)]
      exact Rk.let_suf hk hr
theorem Rk.suf {t : List S39} {suf : Bad} : ∀ {pre : Bad}, Rk t (pre ++ suf) → Rk t suf
  | [], h => h
  | x :: pre, h => by
    cases h with
    | cons p c bs hr hin hno hw => exact Rk.suf hr
/-- All pairs of nodes. -/
def allP (t : List S39) : List (List Int) := (List.range t.length).flatMap (fun i : Nat => (List.range t.length).map (fun j : Nat => [(i : Int), (j : Int)]))
theorem sum_const (n : Nat) : ∀ l : List Nat, (l.map (fun _ => n)).sum = l.length * n
  | [] => by simp
  | a :: l => by rw [List.map_cons, List.sum_cons, sum_const n l, List.length_cons, Nat.succ_mul, Nat.add_comm]
theorem allP_len (t : List S39) : (allP t).length = t.length * t.length := by
  unfold allP
  rw [List.length_flatMap]
  simp only [List.length_map, List.length_range]
  rw [sum_const, List.length_range]
theorem allP_mem {t : List S39} {p : S23} (h : inP t p) : l23 p ∈ allP t := by
  unfold allP
  refine List.mem_flatMap.2 ⟨p.f0.toNat, List.mem_range.2 (by have := h.1; omega), List.mem_map.2 ⟨p.f1.toNat, List.mem_range.2 (by have := h.2; omega), ?_⟩⟩
  unfold l23
  rw [Int.toNat_of_nonneg h.1.1, Int.toNat_of_nonneg h.2.1]
theorem Rk.keys {t : List S39} {bs : Bad} (h : Rk t bs) : (bs.map (·.1)).Nodup ∧ (∀ k ∈ bs.map (·.1), k ∈ allP t) ∧ ∀ k, k ∈ bs.map (·.1) ↔ hasK bs k = true := by
  induction h with
  | nil => exact ⟨List.nodup_nil, fun k hk => by simp at hk, fun k => ⟨fun hk => by simp at hk, fun hk => by cases hk⟩⟩
  | cons p c bs hr hin hno hw ih =>
    refine ⟨?_, fun k hk => ?_, fun k => ?_⟩
    · rw [List.map_cons, List.nodup_cons]
      exact ⟨(fun hm => by rw [(ih.2.2 _).1 hm] at hno; cases hno), ih.1⟩
    · rcases List.mem_cons.1 hk with rfl | hk
      · exact allP_mem hin
      · exact ih.2.1 k hk
    rw [List.map_cons, List.mem_cons, hasK_cons, Bool.or_eq_true, ih.2.2 k, beq_iff_eq]
theorem Rk.len {t : List S39} {bs : Bad} (h : Rk t bs) : bs.length ≤ t.length * t.length := by
  have := nodup_sub_len h.keys.1 h.keys.2.1
  rwa [List.length_map, allP_len] at this

/-- A pair that a stage leaves: nothing that it needs is refuted. -/
def Fine (t : List S39) (bs : Bad) (p : S23) : Prop := ∃ m, needsF (nd t p.f0) (nd t p.f1) = some m ∧ ∀ c q, needGet m c = some q → hasK bs q = false
/-- A stage under way: the pairs that it has been at are told by D. -/
structure Stg (t : List S39) (bs : Bad) (D : S23 → Prop) (st : List S23 × Bad) : Prop where
 dup : st.1.Nodup
 what : ∀ p ∈ st.1, inP t p ∧ D p ∧ hasK bs (l23 p) = false ∧ Why t bs p (letOf st.2 (l23 p))
 rest : ∀ p, inP t p → D p → hasK bs (l23 p) = false → p ∈ st.1 ∨ Fine t bs p
 new : ∀ p, ¬ D p → letOf st.2 (l23 p) = 0
 len : st.2.length ≤ st.1.length
theorem Stg.size {t : List S39} {bs : Bad} {D : S23 → Prop} {st : List S23 × Bad} (h : Stg t bs D st) : st.1.length ≤ t.length * t.length := by
 have hnd : (st.1.map l23).Nodup := by
  rw [List.Nodup, List.pairwise_map]
  exact h.dup.imp (fun hne e => hne (l23_inj e))
 have := nodup_sub_len hnd (fun k hk => by
  obtain ⟨p, hp, rfl⟩ := List.mem_map.1 hk
  exact allP_mem (h.what p hp).1)
 rwa [List.length_map, allP_len] at this
theorem Stg.iff {t : List S39} {bs : Bad} {D D' : S23 → Prop} {st : List S23 × Bad} (h : Stg t bs D st) (e : ∀ p, inP t p → (D p ↔ D' p)) (e' : ∀ p, ¬ D' p → ¬ D p) : Stg t bs D' st :=
 ⟨h.dup, fun p hp => by
  obtain ⟨a, b, c, d⟩ := h.what p hp
  exact ⟨a, (e p a).1 b, c, d⟩, fun p hp hd => h.rest p hp ((e p hp).2 hd), fun p hd => h.new p (e' p hd), h.len⟩
theorem Stg.cell {t : List S39} {bs : Bad} {D : S23 → Prop} {st : List S23 × Bad} (h : Stg t bs D st) {i j : Int} (hp : inP t ⟨i, j⟩) (hD : ¬ D ⟨i, j⟩) : Stg t bs (fun p => D p ∨ p = ⟨i, j⟩) (cellStep t bs i j st) := by
 have hn : (⟨i, j⟩ : S23) ∉ st.1 := fun hm => hD (h.what _ hm).2.1
 have hlet := h.new _ hD
 -- a pair that is taken
 have take : ∀ (ls : Bad), (∀ q, q ≠ l23 ⟨i, j⟩ → letOf ls q = letOf st.2 q) → ls.length ≤ st.2.length + 1 → hasK bs (l23 ⟨i, j⟩) = false → Why t bs ⟨i, j⟩ (letOf ls (l23 ⟨i, j⟩)) → Stg t bs (fun p => D p ∨ p = ⟨i, j⟩) (st.1 ++ [⟨i, j⟩], ls) := fun ls h1 h2 h3 h4 => by
  refine ⟨?_, fun p hpp => ?_, fun p hpp hd hk => ?_, fun p hd => ?_, ?_⟩
  ·exact List.nodup_append.2 ⟨h.dup, by simp, fun a ha b hb => by simp at hb; subst hb; exact fun e => hn (e ▸ ha)⟩
  ·rcases List.mem_append.1 hpp with hpp | hpp
   ·obtain ⟨a, b, c, d⟩ := h.what p hpp
    refine ⟨a, .inl b, c, ?_⟩
    rw [show letOf (st.1 ++ [(⟨i, j⟩ : S23)], ls).2 (l23 p) = letOf st.2 (l23 p) from h1 _ (fun e => hn (l23_inj e ▸ hpp))]
    exact d
   ·simp at hpp
    subst hpp
    exact ⟨hp, .inr rfl, h3, h4⟩
  ·rcases hd with hd | rfl
   ·rcases h.rest p hpp hd hk with hm | hf
    ·exact .inl (List.mem_append_left _ hm)
    ·exact .inr hf
   ·exact .inl (by simp)
  ·have hne : p ≠ ⟨i, j⟩ := fun e => hd (.inr e)
   rw [show letOf (st.1 ++ [(⟨i, j⟩ : S23)], ls).2 (l23 p) = letOf st.2 (l23 p) from h1 _ (fun e => hne (l23_inj e))]
   exact h.new p (fun hh => hd (.inl hh))
  ·have := h.len
   simp
   omega
 -- a pair that is left
 have leave : (hasK bs (l23 ⟨i, j⟩) = false → Fine t bs ⟨i, j⟩) → Stg t bs (fun p => D p ∨ p = ⟨i, j⟩) st := fun h1 => by
  refine ⟨h.dup, fun p hpp => ?_, fun p hpp hd hk => ?_, fun p hd => h.new p (fun hh => hd (.inl hh)), h.len⟩
  ·obtain ⟨a, b, c, d⟩ := h.what p hpp
   exact ⟨a, .inl b, c, d⟩
  ·rcases hd with hd | rfl
   ·exact h.rest p hpp hd hk
   ·exact .inr (h1 hk)
 have letc : ∀ c : Int, (∀ q, q ≠ l23 ⟨i, j⟩ → letOf ((l23 ⟨i, j⟩, c) :: st.2) q = letOf st.2 q) := fun c q hq => by rw [letOf_cons, if_neg hq]
 unfold cellStep
 by_cases hk : hasK bs [i, j] = true
 ·rw [if_pos hk]
  exact leave (fun hf => by have hf' : hasK bs [i, j] = false := hf; rw [hk] at hf'; cases hf')
 rw [if_neg hk]
 have hkf : hasK bs (l23 ⟨i, j⟩) = false := by
  cases e : hasK bs (l23 ⟨i, j⟩) with
  | false => rfl
  | true => exact absurd e hk
 cases hm : needsF (rd_T39 t i) (rd_T39 t j) with
 | none => exact take st.2 (fun q _ => rfl) (by omega) hkf (.inl ⟨hlet, hm⟩)
 | some m =>
  have hm' : needsF (nd t i) (nd t j) = some m := hm
  show Stg t bs _ (abIn bs ⟨i, j⟩ m 0 st)
  unfold abIn
  rw [if_pos rfl]
  have hfine : (∀ c q, (c = 97 ∨ c = 98) → needGet m c = some q → hasK bs q = false) → Fine t bs ⟨i, j⟩ := fun hh => ⟨m, hm', fun c q hq => by
   refine hh c q ?_ hq
   unfold needGet at hq
   split at hq
   ·cases hq
   ·split at hq
    ·exact .inl ‹_›
    ·split at hq
     ·exact .inr ‹_›
     ·cases hq⟩
  have s98 : (∀ q, needGet m 97 = some q → hasK bs q = false) → Stg t bs (fun p => D p ∨ p = ⟨i, j⟩) (abStep bs ⟨i, j⟩ (needGet m 98) 98 st) := fun h97 => by
   unfold abStep
   cases h98 : needGet m 98 with
   | none =>
    exact leave (fun _ => hfine (fun c q hc hq => by
     rcases hc with rfl | rfl
     ·exact h97 q hq
     ·rw [h98] at hq; cases hq))
   | some q =>
    simp only []
    by_cases hb : hasK bs q = true
    ·rw [if_pos ⟨hlet, hb⟩]
     exact take _ (letc 98) (by simp) hkf (by
      rw [letOf_cons, if_pos rfl]
      exact .inr ⟨.inr rfl, m, q, hm', h98, hb⟩)
    ·rw [if_neg (fun hh => hb hh.2)]
     exact leave (fun _ => hfine (fun c q' hc hq => by
      rcases hc with rfl | rfl
      ·exact h97 q' hq
      ·rw [h98] at hq
       cases hq
       simpa using hb))
  have e97 : abStep bs ⟨i, j⟩ (needGet m 97) 97 st = st ∧ (∀ q, needGet m 97 = some q → hasK bs q = false) ∨ (∃ q, needGet m 97 = some q ∧ hasK bs q = true) ∧ abStep bs ⟨i, j⟩ (needGet m 97) 97 st = (st.1 ++ [⟨i, j⟩], (l23 ⟨i, j⟩, 97) :: st.2) := by
   unfold abStep
   cases h97 : needGet m 97 with
   | none => exact .inl ⟨rfl, fun q hq => by cases hq⟩
   | some q =>
    simp only []
    by_cases hb : hasK bs q = true
    ·exact .inr ⟨⟨q, rfl, hb⟩, if_pos ⟨hlet, hb⟩⟩
    ·exact .inl ⟨if_neg (fun hh => hb hh.2), fun q' hq => by cases hq; simpa using hb⟩
  rcases e97 with ⟨e, h97⟩ | ⟨⟨q, hq, hb⟩, e⟩
  ·rw [e]
   exact s98 h97
  rw [e]
  have hl97 : letOf ((l23 ⟨i, j⟩, 97) :: st.2) (l23 ⟨i, j⟩) = 97 := by rw [letOf_cons, if_pos rfl]
  have : abStep bs ⟨i, j⟩ (needGet m 98) 98 (st.1 ++ [⟨i, j⟩], (l23 ⟨i, j⟩, 97) :: st.2) = (st.1 ++ [⟨i, j⟩], (l23 ⟨i, j⟩, 97) :: st.2) := by
   unfold abStep
   cases needGet m 98 with
   | none => rfl
   | some q' =>
    simp only []
    rw [if_neg (fun hh => by rw [hl97] at hh; exact absurd hh.1 (by decide))]
  rw [this]
  exact take _ (letc 97) (by simp) hkf (by
   rw [hl97]
   exact .inr ⟨.inl rfl, m, q, hm', hq, hb⟩)
section
variable {t : List S39} (hv : ∀ i : Int, 0 ≤ i → i < t.length → okN t i) (hn : t.length ≤ 24) {bs : Bad}
include hv hn
theorem sq_le : t.length * t.length ≤ 576 := Nat.mul_le_mul hn hn
theorem jGo_ok {i : Int} (i0 : 0 ≤ i) (i1 : i < t.length) : ∀ (d j f : Nat) (st : List S23 × Bad), j + d = t.length → d < f → Stg t bs (fun p => p.f0 < i ∨ (p.f0 = i ∧ p.f1 < j)) st → ∃ st', jGo t bs i f j st = some st' ∧ Stg t bs (fun p => p.f0 < i + 1) st'
 | 0, j, f, st, h, hf, hS => by
  obtain ⟨f, rfl⟩ : ∃ g, f = g + 1 := ⟨f - 1, by omega⟩
  refine ⟨st, ?_, hS.iff (fun p hp => ?_) (fun p hd hh => hd ?_)⟩
  ·unfold jGo
   rw [if_neg (by omega)]
  ·have := hp.2.2
   omega
  ·omega
 | d + 1, j, f, st, h, hf, hS => by
  obtain ⟨f, rfl⟩ : ∃ g, f = g + 1 := ⟨f - 1, by omega⟩
  have hsz := hS.size
  have hl := hS.len
  have hsq := sq_le hv hn
  have hin : inP t ⟨i, (j : Int)⟩ := ⟨⟨i0, i1⟩, ⟨by show (0 : Int) ≤ (j : Int); omega, by show (j : Int) < _; omega⟩⟩
  have hc := hS.cell hin (fun hd => by
   rcases hd with hd | ⟨_, hd⟩
   ·have hd : i < i := hd; omega
   ·have hd : (j : Int) < (j : Int) := hd; omega)
  obtain ⟨st', e, hS'⟩ := jGo_ok i0 i1 d (j + 1) f (cellStep t bs i j st) (by omega) (by omega) (hc.iff (fun p _ => by
   constructor
   ·rintro (h | h)
    ·omega
    ·rw [h]; right; exact ⟨rfl, by show (j : Int) < _; omega⟩
   ·intro h
    by_cases e : p.f0 = i ∧ p.f1 = j
    ·right
     obtain ⟨a, b⟩ := p
     simp only at e
     rw [e.1, e.2]
    ·left; omega) (fun p hd hh => hd (by
   rcases hh with h | h
   ·omega
   ·rw [h]; right; exact ⟨rfl, by show (j : Int) < _; omega⟩)))
  refine ⟨st', ?_, hS'⟩
  unfold jGo
  rw [if_pos (by omega), if_pos ⟨by omega, by omega, by omega⟩]
  exact e
theorem iGo_ok : ∀ (d i f : Nat) (st : List S23 × Bad), i + d = t.length → d < f → Stg t bs (fun p => p.f0 < i) st → ∃ st', iGo t bs f i st = some st' ∧ Stg t bs (fun p => p.f0 < t.length) st'
 | 0, i, f, st, h, hf, hS => by
  obtain ⟨f, rfl⟩ : ∃ g, f = g + 1 := ⟨f - 1, by omega⟩
  have : i = t.length := by omega
  subst this
  refine ⟨st, ?_, hS⟩
  unfold iGo
  rw [if_neg (by omega)]
 | d + 1, i, f, st, h, hf, hS => by
  obtain ⟨f, rfl⟩ : ∃ g, f = g + 1 := ⟨f - 1, by omega⟩
  obtain ⟨st1, e1, hS1⟩ := jGo_ok hv hn (bs := bs) (i := i) (by omega) (by omega) t.length 0 200 st (by omega) (by omega) (by
   refine hS.iff (fun p hp => ?_) (fun p hd hh => hd (.inl hh))
   have := hp.2.1
   omega)
  obtain ⟨st2, e2, hS2⟩ := iGo_ok d (i + 1) f st1 (by omega) (by omega) hS1
  refine ⟨st2, ?_, hS2⟩
  unfold iGo
  rw [if_pos (by omega), if_pos (by omega)]
  show ((jGo t bs i 200 ((0 : Nat) : Int) st).bind _) = _
  rw [e1]
  exact e2
omit hv in
theorem addGo_ok {fs : List S23} {ls : Bad} (hnd : fs.Nodup) (hw : ∀ p ∈ fs, inP t p ∧ hasK bs (l23 p) = false ∧ Why t bs p (letOf ls (l23 p))) (hfl : fs.length ≤ 20000) : ∀ (d k f : Nat) (cur : Bad), k + d = fs.length → d < f → Rk t cur → (∀ q, hasK bs q = true → hasK cur q = true) → (∀ q, hasK cur q = true → hasK bs q = true ∨ ∃ m, ∃ h : m < fs.length, m < k ∧ q = l23 fs[m]) → cur.length = bs.length + k →
  ∃ r, addGo fs ls f k cur = some r ∧ Rk t r ∧ (∀ q, hasK bs q = true → hasK r q = true) ∧ r.length = bs.length + fs.length
 | 0, k, f, cur, h, hf, hR, h1, h2, hl => by
  obtain ⟨f, rfl⟩ : ∃ g, f = g + 1 := ⟨f - 1, by omega⟩
  refine ⟨cur, ?_, hR, h1, by omega⟩
  unfold addGo
  rw [if_neg (by omega)]
 | d + 1, k, f, cur, h, hf, hR, h1, h2, hl => by
  obtain ⟨f, rfl⟩ : ∃ g, f = g + 1 := ⟨f - 1, by omega⟩
  have hk : k < fs.length := by omega
  obtain ⟨w1, w2, w3⟩ := hw _ (List.getElem_mem hk)
  have e : rd_T23 fs (k : Int) = fs[k] := by
   unfold rd_T23
   rw [List.getD_eq_getElem?_getD, Int.toNat_natCast, List.getElem?_eq_getElem hk, Option.getD_some]
  have hno : hasK cur (l23 fs[k]) = false := by
   cases ec : hasK cur (l23 fs[k]) with
   | false => rfl
   | true =>
    rcases h2 _ ec with h | ⟨m, hm, hmk, hq⟩
    ·rw [w2] at h; cases h
    ·have := l23_inj hq
     have := (List.getElem_inj hnd).1 this
     omega
  have hwhy : Why t cur fs[k] (letOf ls (l23 fs[k])) := by
   rcases w3 with h | ⟨hc, m, q, a, b, c⟩
   ·exact .inl h
   ·exact .inr ⟨hc, m, q, a, b, h1 q c⟩
  have hcl := hR.len
  have hsq : t.length * t.length ≤ 576 := Nat.mul_le_mul hn hn
  obtain ⟨r, r1, r2, r3, r4⟩ := addGo_ok hnd hw hfl d (k + 1) f ((l23 fs[k], letOf ls (l23 fs[k])) :: cur) (by omega) (by omega) (.cons _ _ _ hR w1 hno hwhy) (fun q hq => by
   rw [hasK_cons, h1 q hq, Bool.or_true]) (fun q hq => by
   rw [hasK_cons, Bool.or_eq_true] at hq
   rcases hq with hq | hq
   ·exact .inr ⟨k, hk, by omega, beq_iff_eq.1 hq⟩
   ·rcases h2 q hq with h | ⟨m, hm, hmk, hq⟩
    ·exact .inl h
    ·exact .inr ⟨m, hm, by omega, hq⟩) (by simp; omega)
  refine ⟨r, ?_, r2, r3, r4⟩
  unfold addGo
  rw [if_pos (by omega), e, if_pos]
  ·exact r1
  have a1 := w1.1; have a2 := w1.2
  refine ⟨by omega, by omega, ?_, ?_⟩
  ·unfold i64B; exact decide_eq_true ⟨by omega, by omega⟩
  unfold i64B; exact decide_eq_true ⟨by omega, by omega⟩
/-- The refuted pairs: those that no closed relation has. -/
theorem refGo_ok : ∀ (d f : Nat) (bs : Bad), t.length * t.length ≤ bs.length + d → d + 1 < f → Rk t bs → ∃ r, refGo t f true bs = some r ∧ Rk t r ∧ ∀ p, inP t p → hasK r (l23 p) = false → Fine t r p := by
 intro d
 induction d using Nat.strongRecOn with
 | _ d ih =>
  intro f bs hd hf hR
  obtain ⟨f, rfl⟩ : ∃ g, f = g + 2 := ⟨f - 2, by omega⟩
  have hbl := hR.len
  have hsq := sq_le hv hn
  obtain ⟨st, e1, hS⟩ := iGo_ok hv hn (bs := bs) t.length 0 200 ([], []) (by omega) (by omega) ⟨List.nodup_nil, fun p hp => (by cases hp), fun p hp hd => by have := hp.1.1; omega, fun p _ => rfl, Nat.le_refl _⟩
  have hsz := hS.size
  obtain ⟨r, r1, r2, r3, r4⟩ := addGo_ok hn (bs := bs) (fs := st.1) (ls := st.2) hS.dup (fun p hp => by
   obtain ⟨a, _, c, d⟩ := hS.what p hp
   exact ⟨a, c, d⟩) (by omega) st.1.length 0 30000 bs (by omega) (by omega) hR (fun q h => h) (fun q h => .inl h) (by omega)
  have hgo : refGo t (f + 2) true bs = refGo t (f + 1) (decide (0 < st.1.length)) r := by
   conv => lhs; unfold refGo
   rw [if_pos rfl, if_pos ⟨by omega, by omega⟩]
   show ((iGo t bs 200 ((0 : Nat) : Int) ([], [])).bind _) = _
   rw [e1, Option.bind_some, if_pos (by omega)]
   show ((addGo st.1 st.2 30000 ((0 : Nat) : Int) bs).bind _) = _
   rw [r1]
   rfl
  rw [hgo]
  by_cases hfr : 0 < st.1.length
  ·rw [decide_eq_true hfr]
   have hrl := r2.len
   exact ih (d - st.1.length) (by omega) (f + 1) r (by omega) (by omega) r2
  rw [decide_eq_false hfr]
  have hnil : st.1 = [] := List.length_eq_zero_iff.1 (by omega)
  have hrb : r = bs := by
   unfold addGo at r1
   rw [if_neg (by omega)] at r1
   exact (Option.some.inj r1).symm
  subst hrb
  refine ⟨r, ?_, r2, fun p hp hk => ?_⟩
  ·unfold refGo
   rw [if_neg (by decide)]
  rcases hS.rest p hp hp.1.2 hk with h | h
  ·rw [hnil] at h; cases h
  exact h
end
noncomputable def subB (t : List S39) (i j : Int) : Bool := @decide (SubC t i j) (Classical.propDecidable _)
theorem subB_iff {t : List S39} {i j : Int} : subB t i j = true ↔ SubC t i j := by
 unfold subB
 exact @decide_eq_true_iff _ (Classical.propDecidable _)
end Go.Proofs.Ytnfmeafiaipplaa.P

namespace Go.Proofs.Ytnfmeafiaipplaa.S
open Go.Proofs.Ytnfmeafiaipplaa.Lib
open Go.Maps (Keyed)
open Go.RowKit Go.Proofs.YtnfmeafiaipplaaW.PrintWords Go.Proofs.YtnfmeafiaipplaaW.PrintLast Go.Proofs.YtnfmeafiaipplaaW.PrintMore
attribute [local go_sem] max2_int min2_int max_two min_two max_three min_three max_four min_four
set_option linter.unusedVariables false
set_option linter.unusedSimpArgs false

def tickingref06_has.l0 : Nat → List (S23) → Int → Int → Int → Option (Bool)
 | 0, _, _, _, _ => none
 | k + 1, x0, x1, x2, x7 => if x7 < (x0.length : Int) then (if 0 ≤ x7 then (if ((rd_T23 x0 x7).f0) = x1 then (if ((rd_T23 x0 x7).f1) = x2 then (some true) else (tickingref06_has.l0 k x0 x1 x2 (wrap64 (x7 + 1)))) else (tickingref06_has.l0 k x0 x1 x2 (wrap64 (x7 + 1)))) else (none)) else (some false)
def tickingref06_has.f (k : Nat) (l0 : List (S23)) (a1 : Int) (a2 : Int) : Option (Bool) := tickingref06_has.l0 k l0 a1 a2 0

mutual
def tickingref06_Closed.l0 : Nat → List (S39) → List (S23) → Int → Option (Bool)
 | 0, _, _, _ => none
 | k + 1, x0, x1, x5 => if x5 < (x1.length : Int) then (if 0 ≤ x5 then (if ((rd_T23 x1 x5).f0) < 0 then (tickingref06_Closed.j1 k x0 x1 x5 ((rd_T23 x1 x5).f0) ((rd_T23 x1 x5).f1) true) else (if ((rd_T23 x1 x5).f0) ≥ (x0.length : Int) then (tickingref06_Closed.j1 k x0 x1 x5 ((rd_T23 x1 x5).f0) ((rd_T23 x1 x5).f1) true) else (if ((rd_T23 x1 x5).f1) < 0 then (tickingref06_Closed.j1 k x0 x1 x5 ((rd_T23 x1 x5).f0) ((rd_T23 x1 x5).f1) true) else (tickingref06_Closed.j1 k x0 x1 x5 ((rd_T23 x1 x5).f0) ((rd_T23 x1 x5).f1) (decide (((rd_T23 x1 x5).f1) ≥ (x0.length : Int))))))) else (none)) else (some (decide ((x1.length : Int) ≤ 600)))
def tickingref06_Closed.j1 : Nat → List (S39) → List (S23) → Int → Int → Int → Bool → Option (Bool)
 | 0, _, _, _, _, _, _ => none
 | k + 1, x0, x1, x5, x6, x7, x43 => if x43 = true then (some false) else (if 0 ≤ x6 then (if x6 < (x0.length : Int) then (if 0 ≤ x7 then (if x7 < (x0.length : Int) then (if ((rd_T39 x0 x6).f0) = 0 then (tickingref06_Closed.j2 k x0 x1 x5 true ((rd_T39 x0 x6).f0) ((rd_T39 x0 x6).f1) ((rd_T39 x0 x6).f2) ((rd_T39 x0 x7).f0) ((rd_T39 x0 x7).f1) ((rd_T39 x0 x7).f2)) else (if ((rd_T39 x0 x7).f0) = 1 then (tickingref06_Closed.j2 k x0 x1 x5 true ((rd_T39 x0 x6).f0) ((rd_T39 x0 x6).f1) ((rd_T39 x0 x6).f2) ((rd_T39 x0 x7).f0) ((rd_T39 x0 x7).f1) ((rd_T39 x0 x7).f2)) else (if ((rd_T39 x0 x6).f0) = ((rd_T39 x0 x7).f0) then (tickingref06_Closed.j2 k x0 x1 x5 (decide (((rd_T39 x0 x6).f0) < 4)) ((rd_T39 x0 x6).f0) ((rd_T39 x0 x6).f1) ((rd_T39 x0 x6).f2) ((rd_T39 x0 x7).f0) ((rd_T39 x0 x7).f1) ((rd_T39 x0 x7).f2)) else (tickingref06_Closed.j2 k x0 x1 x5 false ((rd_T39 x0 x6).f0) ((rd_T39 x0 x6).f1) ((rd_T39 x0 x6).f2) ((rd_T39 x0 x7).f0) ((rd_T39 x0 x7).f1) ((rd_T39 x0 x7).f2))))) else (none)) else (none)) else (none)) else (none))
def tickingref06_Closed.j2 : Nat → List (S39) → List (S23) → Int → Bool → Int → Int → Int → Int → Int → Int → Option (Bool)
 | 0, _, _, _, _, _, _, _, _, _, _ => none
 | k + 1, x0, x1, x5, x71, x459000, x459001, x459002, x460000, x460001, x460002 => if x71 = true then (tickingref06_Closed.l0 k x0 x1 (wrap64 (x5 + 1))) else (if x459000 = x460000 then ((tickingref06_has.f k x1 x459002 x460002).bind fun t460 => (tickingref06_Closed.j3 k x0 x1 x5 (!t460) x459000 x459001 x459002 x460000 x460001 x460002)) else (tickingref06_Closed.j3 k x0 x1 x5 true x459000 x459001 x459002 x460000 x460001 x460002))
def tickingref06_Closed.j3 : Nat → List (S39) → List (S23) → Int → Bool → Int → Int → Int → Int → Int → Int → Option (Bool)
 | 0, _, _, _, _, _, _, _, _, _, _ => none
 | k + 1, x0, x1, x5, x85, x459000, x459001, x459002, x460000, x460001, x460002 => if x85 = true then (some false) else (if x459000 = 4 then ((tickingref06_has.f k x1 x459001 x460001).bind fun t461 => (if t461 = true then (if x459000 = 5 then ((tickingref06_has.f k x1 x460001 x459001).bind fun t462 => (if t462 = true then (tickingref06_Closed.l0 k x0 x1 (wrap64 (x5 + 1))) else (some false))) else (tickingref06_Closed.l0 k x0 x1 (wrap64 (x5 + 1)))) else (some false))) else (if x459000 = 5 then ((tickingref06_has.f k x1 x460001 x459001).bind fun t463 => (if t463 = true then (tickingref06_Closed.l0 k x0 x1 (wrap64 (x5 + 1))) else (some false))) else (tickingref06_Closed.l0 k x0 x1 (wrap64 (x5 + 1)))))
end
def tickingref06_Closed.f (k : Nat) (l0 : List (S39)) (l1 : List (S23)) : Option (Bool) := tickingref06_Closed.l0 k l0 l1 0

mutual
def tickingref06_Refutes.l0 : Nat → List (S39) → Int → Int → ByteArray → Int → Option (Bool)
 | 0, _, _, _, _, _ => none
 | k + 1, x0, x1, x2, x3, x9 => if x9 ≤ (x3.size : Int) then (if 0 ≤ x1 then (if x1 < (x0.length : Int) then (if 0 ≤ x2 then (if x2 < (x0.length : Int) then (if ((rd_T39 x0 x1).f0) = 0 then (tickingref06_Refutes.j1 k x0 x3 x9 true ((rd_T39 x0 x1).f0) ((rd_T39 x0 x1).f1) ((rd_T39 x0 x1).f2) ((rd_T39 x0 x2).f0) ((rd_T39 x0 x2).f1) ((rd_T39 x0 x2).f2)) else (tickingref06_Refutes.j1 k x0 x3 x9 (((rd_T39 x0 x2).f0) == 1) ((rd_T39 x0 x1).f0) ((rd_T39 x0 x1).f1) ((rd_T39 x0 x1).f2) ((rd_T39 x0 x2).f0) ((rd_T39 x0 x2).f1) ((rd_T39 x0 x2).f2))) else (none)) else (none)) else (none)) else (none)) else (some false)
def tickingref06_Refutes.j1 : Nat → List (S39) → ByteArray → Int → Bool → Int → Int → Int → Int → Int → Int → Option (Bool)
 | 0, _, _, _, _, _, _, _, _, _, _ => none
 | k + 1, x0, x3, x9, x33, x467000, x467001, x467002, x468000, x468001, x468002 => if x33 = true then (some false) else (if x9 = (x3.size : Int) then (some (x467000 != x468000)) else (if x467000 = x468000 then (if x467000 < 4 then (tickingref06_Refutes.j2 k x0 x3 x9 true x467000 x467001 x467002 x468000 x468001 x468002) else (if 0 ≤ x9 then (if x9 < (x3.size : Int) then (if (bt x3 x9) = 97 then (tickingref06_Refutes.j2 k x0 x3 x9 false x467000 x467001 x467002 x468000 x468001 x468002) else (tickingref06_Refutes.j2 k x0 x3 x9 ((bt x3 x9) != 98) x467000 x467001 x467002 x468000 x468001 x468002)) else (none)) else (none))) else (tickingref06_Refutes.j2 k x0 x3 x9 true x467000 x467001 x467002 x468000 x468001 x468002)))
def tickingref06_Refutes.j2 : Nat → List (S39) → ByteArray → Int → Bool → Int → Int → Int → Int → Int → Int → Option (Bool)
 | 0, _, _, _, _, _, _, _, _, _, _ => none
 | k + 1, x0, x3, x9, x64, x467000, x467001, x467002, x468000, x468001, x468002 => if x64 = true then (some false) else (if 0 ≤ x9 then (if x9 < (x3.size : Int) then (if (bt x3 x9) = 98 then (tickingref06_Refutes.l0 k x0 x467002 x468002 x3 (wrap64 (x9 + 1))) else (if x467000 = 4 then (tickingref06_Refutes.l0 k x0 x467001 x468001 x3 (wrap64 (x9 + 1))) else (tickingref06_Refutes.l0 k x0 x468001 x467001 x3 (wrap64 (x9 + 1))))) else (none)) else (none))
end
def tickingref06_Refutes.f (k : Nat) (l0 : List (S39)) (a1 : Int) (a2 : Int) (a3 : ByteArray) : Option (Bool) := tickingref06_Refutes.l0 k l0 a1 a2 a3 0

def tickingref06_Right.f (k : Nat) (l0 : List (S39)) (a1 : Int) (a2 : Int) (a3_0 : Bool) (l3_1 : List (S23)) (a3_2 : ByteArray) : Option (Bool) := if a3_0 = true then (if a3_2.toList = ([] : List UInt8) then ((tickingref06_Closed.f k l0 l3_1).bind fun t469 => (if t469 = true then ((tickingref06_has.f k l3_1 a1 a2).bind fun t470 => (some t470)) else (some false))) else (some false)) else (if (l3_1.length : Int) = 0 then ((tickingref06_Refutes.f k l0 a1 a2 a3_2).bind fun t471 => (some t471)) else (some false))
end Go.Proofs.Ytnfmeafiaipplaa.S

namespace Go.Proofs.Ytnfmeafiaipplaa.P
open Go.RowKit Go.Proofs.Ytnfmeafiaipplaa.S Go.Proofs.Ytnfmeafiaipplaa.Lib Go.Proofs.YtnfmeafiaipplaaW.PrintWords
set_option linter.unusedVariables false
set_option linter.unusedSectionVars false

theorem rd23_nat (L : List S23) {k : Nat} (h : k < L.length) : rd_T23 L (k : Int) = L[k] := by
 unfold rd_T23
 rw [List.getD_eq_getElem?_getD, Int.toNat_natCast, List.getElem?_eq_getElem h, Option.getD_some]
theorem has_go (L : List S23) (hn : L.length ≤ 1000) (a b : Int) : ∀ (d i : Nat), i + d = L.length → (⟨a, b⟩ : S23) ∈ L.drop i → Ev (fun k => tickingref06_has.l0 k L a b (i : Int)) true
 | 0, i, h, hm => by
  rw [List.drop_eq_nil_of_le (by omega)] at hm
  cases hm
 | d + 1, i, h, hm => by
  have hi : i < L.length := by omega
  have e := rd23_nat L hi
  rw [List.drop_eq_getElem_cons hi] at hm
  by_cases c : L[i] = ⟨a, b⟩
  ·refine Ev.step (fun k => ?_) (Ev.now true)
   simp only [tickingref06_has.l0]
   rw [if_pos (castlt hi), if_pos (cast0 _), e, c]
   simp
  ·have ih := has_go L hn a b d (i + 1) (by omega) ((List.mem_cons.1 hm).resolve_left (fun h => c h.symm))
   have e2 := w64s (j := i) (by omega)
   refine Ev.step (f := fun k => tickingref06_has.l0 k L a b ((i + 1 : Nat) : Int)) (fun k => ?_) ih
   simp only [tickingref06_has.l0]
   rw [if_pos (castlt hi), if_pos (cast0 _), e, e2]
   by_cases c1 : L[i].f0 = a
   ·rw [if_pos c1, if_neg (fun c2 => c (by
     rw [← c1, ← c2]))]
   ·rw [if_neg c1]
theorem has_ev {L : List S23} (hn : L.length ≤ 1000) {a b : Int} (h : (⟨a, b⟩ : S23) ∈ L) : Ev (fun k => tickingref06_has.f k L a b) true := has_go L hn a b L.length 0 (by omega) (by rwa [List.drop_zero])
section
variable {t : List S39} (hv : ∀ i : Int, 0 ≤ i → i < t.length → okN t i) (hn : t.length ≤ 24) {L : List S23} (hL : L.length ≤ 600) (hin : ∀ p ∈ L, inP t p) (hcl : ∀ p ∈ L, Stp t (fun a b => (⟨a, b⟩ : S23) ∈ L) p.f0 p.f1)
include hv hn hL hin hcl
theorem closed_go : ∀ (d i : Nat), i + d = L.length → Ev (fun k => tickingref06_Closed.l0 k t L (i : Int)) true
 | 0, i, h => by
  refine Ev.step (fun k => ?_) (Ev.now true)
  simp only [tickingref06_Closed.l0]
  rw [if_neg (by omega), decide_eq_true (by omega)]
 | d + 1, i, h => by
  have hi : i < L.length := by omega
  have ih := closed_go d (i + 1) (by omega)
  have e := rd23_nat L hi
  obtain ⟨⟨a0, a1⟩, ⟨b0, b1⟩⟩ := hin _ (List.getElem_mem hi)
  have hst := hcl _ (List.getElem_mem hi)
  obtain ⟨⟨k0, k1⟩, _⟩ := hv _ a0 a1
  have has : ∀ {x y : Int}, (⟨x, y⟩ : S23) ∈ L → Ev (fun k => tickingref06_has.f k L x y) true := fun h => has_ev (by omega) h
  generalize L[i] = p at *
  refine Ev.step (f := fun k => tickingref06_Closed.j1 k t L (i : Int) p.f0 p.f1 false) (fun k => ?_) ?_
  ·simp only [tickingref06_Closed.l0]
   rw [if_pos (castlt hi), if_pos (cast0 _), e, if_neg (by omega), if_neg (by omega), if_neg (by omega), decide_eq_false (by omega)]
  have next : Ev (fun k => tickingref06_Closed.l0 k t L (wrap64 ((i : Int) + 1))) true := by
   have e2 := w64s (j := i) (by omega)
   rw [e2]; exact ih
  have on : Ev (fun k => tickingref06_Closed.j2 k t L (i : Int) true (nd t p.f0).f0 (nd t p.f0).f1 (nd t p.f0).f2 (nd t p.f1).f0 (nd t p.f1).f1 (nd t p.f1).f2) true := Ev.step (fun k => by
   simp only [tickingref06_Closed.j2]
   rw [if_pos trivial]) next
  by_cases q0 : (nd t p.f0).f0 = 0
  ·refine Ev.step (fun k => ?_) on
   simp only [tickingref06_Closed.j1]
   rw [if_neg (by decide), if_pos a0, if_pos a1, if_pos b0, if_pos b1, if_pos q0]
  by_cases q1 : (nd t p.f1).f0 = 1
  ·refine Ev.step (fun k => ?_) on
   simp only [tickingref06_Closed.j1]
   rw [if_neg (by decide), if_pos a0, if_pos a1, if_pos b0, if_pos b1, if_neg q0, if_pos q1]
  rcases hst with hh | ⟨hk, h4, h5⟩
  ·exact absurd hh (fun hh => hh.elim q0 q1)
  by_cases c : (nd t p.f0).f0 < 4
  ·refine Ev.step (fun k => ?_) on
   simp only [tickingref06_Closed.j1]
   rw [if_neg (by decide), if_pos a0, if_pos a1, if_pos b0, if_pos b1, if_neg q0, if_neg q1, if_pos hk, decide_eq_true (show (rd_T39 t p.f0).f0 < 4 from c)]
  refine Ev.step (f := fun k => tickingref06_Closed.j2 k t L (i : Int) false (nd t p.f0).f0 (nd t p.f0).f1 (nd t p.f0).f2 (nd t p.f1).f0 (nd t p.f1).f1 (nd t p.f1).f2) (fun k => ?_) ?_
  ·simp only [tickingref06_Closed.j1]
   rw [if_neg (by decide), if_pos a0, if_pos a1, if_pos b0, if_pos b1, if_neg q0, if_neg q1, if_pos hk, decide_eq_false (show ¬ (rd_T39 t p.f0).f0 < 4 from c)]
  by_cases c4 : (nd t p.f0).f0 = 4
  ·obtain ⟨m1, m2⟩ := h4 c4
   refine Ev.step (f := fun k => (tickingref06_has.f k L (nd t p.f0).f2 (nd t p.f1).f2).bind fun t460 => (tickingref06_Closed.j3 k t L (i : Int) (!t460) (nd t p.f0).f0 (nd t p.f0).f1 (nd t p.f0).f2 (nd t p.f1).f0 (nd t p.f1).f1 (nd t p.f1).f2)) (fun k => ?_) ?_
   ·simp only [tickingref06_Closed.j2]
    rw [if_neg (by decide), if_pos hk]
   refine Ev.bind (f := fun k (z : Bool) => _) (has m2) ?_
   refine Ev.step (f := fun k => (tickingref06_has.f k L (nd t p.f0).f1 (nd t p.f1).f1).bind fun t461 => (if t461 = true then (tickingref06_Closed.l0 k t L (wrap64 ((i : Int) + 1))) else (some false))) (fun k => ?_) ?_
   ·simp only [tickingref06_Closed.j3]
    rw [if_neg (by decide), if_pos c4, if_neg (show ¬ (nd t p.f0).f0 = 5 by omega)]
   refine Ev.bind (f := fun k (z : Bool) => _) (has m1) ?_
   simp only [if_true]
   exact next
  have c5 : (nd t p.f0).f0 = 5 := by omega
  obtain ⟨m1, m2⟩ := h5 c5
  refine Ev.step (f := fun k => (tickingref06_has.f k L (nd t p.f0).f2 (nd t p.f1).f2).bind fun t460 => (tickingref06_Closed.j3 k t L (i : Int) (!t460) (nd t p.f0).f0 (nd t p.f0).f1 (nd t p.f0).f2 (nd t p.f1).f0 (nd t p.f1).f1 (nd t p.f1).f2)) (fun k => ?_) ?_
  ·simp only [tickingref06_Closed.j2]
   rw [if_neg (by decide), if_pos hk]
  refine Ev.bind (f := fun k (z : Bool) => _) (has m2) ?_
  refine Ev.step (f := fun k => (tickingref06_has.f k L (nd t p.f1).f1 (nd t p.f0).f1).bind fun t463 => (if t463 = true then (tickingref06_Closed.l0 k t L (wrap64 ((i : Int) + 1))) else (some false))) (fun k => ?_) ?_
  ·simp only [tickingref06_Closed.j3]
   rw [if_neg (by decide), if_neg c4, if_pos c5]
  refine Ev.bind (f := fun k (z : Bool) => _) (has m1) ?_
  simp only [if_true]
  exact next
theorem Closed_ev : Ev (fun k => tickingref06_Closed.f k t L) true := closed_go hv hn hL hin hcl L.length 0 (by omega)
end
theorem bytesOf_append (a b : ByteArray) : bytesOf (a ++ b) = bytesOf a ++ bytesOf b := by
 simp [bytesOf, ByteArray.data_append]
set_option maxHeartbeats 2000000 in
/-- A path that goes on behind another and refutes. -/
theorem refutes_ok {t : List S39} (hv : ∀ i : Int, 0 ≤ i → i < t.length → okN t i) {bad : Bad} (hR : Rk t bad) : ∀ (suf pre : Bad) (p : S23) (f : Nat) (path : ByteArray), bad = pre ++ suf → hasK suf (l23 p) = true → suf.length ≤ f → path.size + suf.length ≤ 2000 →
  ∃ r, pathGo t bad f p path = some r ∧ (∃ X, bytesOf r = bytesOf path ++ X) ∧ r.size + 1 ≤ path.size + suf.length ∧ Ev (fun k => tickingref06_Refutes.l0 k t p.f0 p.f1 r (path.size : Int)) true
 | [], _, _, _, _, _, h, _, _ => by cases h
 | (k, c) :: suf, pre, p, f, path, e, h, hf, hb => by
  obtain ⟨f, rfl⟩ : ∃ g, f = g + 1 := ⟨f - 1, by simp at hf; omega⟩
  have hf' : suf.length ≤ f := by simpa using hf
  have hps : path.size ≤ 1000000 := by omega
  have hb' : path.size + suf.length + 1 ≤ 2000 := by simpa [Nat.add_assoc] using hb
  by_cases hk : l23 p = k
  ·have hR' := hR
   rw [e] at hR'
   have hl : letOf bad (l23 p) = c := by
    rw [e, Rk.let_suf h hR', letOf_cons, if_pos hk]
   cases Rk.suf hR' with
   | cons p' c' bs hr hin hno hw =>
    have := l23_inj hk
    subst this
    obtain ⟨⟨a0, a1⟩, ⟨b0, b1⟩⟩ := hin
    obtain ⟨⟨k0, k1⟩, _⟩ := hv _ a0 a1
    unfold pathGo
    rw [hl]
    rcases hw with ⟨rfl, hnone⟩ | ⟨hc, m, q, hm, hq, hbq⟩
    ·refine ⟨path, if_pos rfl, ⟨[], by simp⟩, by simp, ?_⟩
     have hno' : ¬ ((nd t p.f0).f0 = 0 ∨ (nd t p.f1).f0 = 1) ∧ (nd t p.f0).f0 ≠ (nd t p.f1).f0 := by
      unfold needsF at hnone
      split at hnone
      ·cases hnone
      ·rename_i c1
       refine ⟨c1, fun c2 => ?_⟩
       rw [if_neg (by simpa using c2)] at hnone
       repeat' split at hnone
       all_goals cases hnone
     have q0 : ¬ (nd t p.f0).f0 = 0 := fun h => hno'.1 (.inl h)
     have q1 : ((nd t p.f1).f0 == 1) = false := beq_eq_false_iff_ne.2 (fun h => hno'.1 (.inr h))
     refine Ev.step (f := fun k => tickingref06_Refutes.j1 k t path (path.size : Int) false (nd t p.f0).f0 (nd t p.f0).f1 (nd t p.f0).f2 (nd t p.f1).f0 (nd t p.f1).f1 (nd t p.f1).f2) (fun k => ?_) (Ev.step (fun k => ?_) (Ev.now true))
     ·simp only [tickingref06_Refutes.l0]
      rw [if_pos (Int.le_refl _), if_pos a0, if_pos a1, if_pos b0, if_pos b1, if_neg q0, q1]
     simp only [tickingref06_Refutes.j1]
     rw [if_neg (by decide), if_pos trivial]
     simp [hno'.2]
    have hin' : inP t p := ⟨⟨a0, a1⟩, ⟨b0, b1⟩⟩
    rw [if_neg (by omega), if_pos ⟨hc, hin'⟩]
    obtain ⟨q1, q2⟩ := need_inP hv hin' hm hq
    have hm' : needsF (rd_T39 t p.f0) (rd_T39 t p.f1) = some m := hm
    rw [hm', Option.getD_some, hq]
    have hsz1 : (path ++ (⟨#[if c = 97 then 97 else 98]⟩ : ByteArray)).size = path.size + 1 := by rw [ByteArray.size_append]; rfl
    obtain ⟨r, r1, ⟨X, hX⟩, r3, r4⟩ := refutes_ok hv hR suf (pre ++ [(l23 p, c)]) (s23 q) f (path ++ (⟨#[if c = 97 then 97 else 98]⟩ : ByteArray)) (by rw [e]; simp) (by rw [← q1]; exact hbq) hf' (by rw [hsz1]; omega)
    rw [hsz1] at r3 r4
    rw [bytesOf_append] at hX
    refine ⟨r, r1, ⟨_, by rw [hX, List.append_assoc]⟩, by simp; omega, ?_⟩
    have hone : bytesOf (⟨#[if c = 97 then 97 else 98]⟩ : ByteArray) = [c] := by
     rcases hc with rfl | rfl <;> rfl
    have hrs : path.size < r.size := by
     have h1 : (bytesOf r).length = (bytesOf path ++ bytesOf (⟨#[if c = 97 then 97 else 98]⟩ : ByteArray) ++ X).length := by rw [hX]
     rw [bytesOf_length, hone] at h1
     simp [bytesOf_length] at h1
     omega
    have hbt : bt r (path.size : Int) = c := by
     rw [← rd_bytesOf, hX, hone]
     unfold rd
     rw [Int.toNat_natCast, List.getD_eq_getElem?_getD, List.append_assoc, List.getElem?_append_right (by rw [bytesOf_length]; omega), bytesOf_length, Nat.sub_self]
     rfl
    -- what the needs say of the two nodes
    have hnd : ¬ ((nd t p.f0).f0 = 0 ∨ (nd t p.f1).f0 = 1) ∧ (nd t p.f0).f0 = (nd t p.f1).f0 ∧ ¬ (nd t p.f0).f0 < 4 ∧ s23 q = (if c = 98 then ⟨(nd t p.f0).f2, (nd t p.f1).f2⟩ else if (nd t p.f0).f0 = 4 then ⟨(nd t p.f0).f1, (nd t p.f1).f1⟩ else ⟨(nd t p.f1).f1, (nd t p.f0).f1⟩) := by
     unfold needsF at hm
     split at hm
     ·cases hm; cases hq
     ·rename_i c1
      split at hm
      ·cases hm
      ·rename_i c2
       have c2' : (nd t p.f0).f0 = (nd t p.f1).f0 := by simpa using c2
       split at hm
       ·rename_i c4
        cases hm
        refine ⟨c1, c2', by omega, ?_⟩
        rcases hc with rfl | rfl
        ·cases hq
         rw [if_neg (by decide), if_pos c4]
         rfl
        ·cases hq
         rw [if_pos rfl]
         rfl
       ·rename_i c4
        split at hm
        ·rename_i c5
         cases hm
         refine ⟨c1, c2', by omega, ?_⟩
         rcases hc with rfl | rfl
         ·cases hq
          rw [if_neg (by decide), if_neg c4]
          rfl
         ·cases hq
          rw [if_pos rfl]
          rfl
        ·cases hm; cases hq
    obtain ⟨n1, n2, n3, n4⟩ := hnd
    have q0 : ¬ (nd t p.f0).f0 = 0 := fun h => n1 (.inl h)
    have q1 : ((nd t p.f1).f0 == 1) = false := beq_eq_false_iff_ne.2 (fun h => n1 (.inr h))
    have l2 : (path.size : Int) < (r.size : Int) := castlt hrs
    have l1 : (path.size : Int) ≤ (r.size : Int) := Int.le_of_lt l2
    have l3 : ¬ (path.size : Int) = (r.size : Int) := Int.ne_of_lt l2
    have w := w64s (j := path.size) hps
    refine Ev.step (f := fun k => tickingref06_Refutes.j1 k t r (path.size : Int) false (nd t p.f0).f0 (nd t p.f0).f1 (nd t p.f0).f2 (nd t p.f1).f0 (nd t p.f1).f1 (nd t p.f1).f2) (fun k => ?_) (Ev.step (f := fun k => tickingref06_Refutes.j2 k t r (path.size : Int) false (nd t p.f0).f0 (nd t p.f0).f1 (nd t p.f0).f2 (nd t p.f1).f0 (nd t p.f1).f1 (nd t p.f1).f2) (fun k => ?_) (Ev.step (f := fun k => tickingref06_Refutes.l0 k t (s23 q).f0 (s23 q).f1 r ((path.size + 1 : Nat) : Int)) (fun k => ?_) r4))
    ·simp only [tickingref06_Refutes.l0]
     rw [if_pos l1, if_pos a0, if_pos a1, if_pos b0, if_pos b1, if_neg q0, q1]
    ·simp only [tickingref06_Refutes.j1]
     rw [if_neg (by decide), if_neg l3, if_pos n2, if_neg n3, if_pos (cast0 _), if_pos l2, hbt]
     rcases hc with rfl | rfl
     ·rw [if_pos rfl]
     rw [if_neg (by decide)]
     rfl
    simp only [tickingref06_Refutes.j2]
    rw [if_neg (by decide), if_pos (cast0 _), if_pos l2, hbt, w, n4]
    by_cases c98 : c = 98
    ·rw [if_pos c98, if_pos c98]
    rw [if_neg c98, if_neg c98]
    by_cases c4 : (nd t p.f0).f0 = 4
    ·rw [if_pos c4, if_pos c4]
    rw [if_neg c4, if_neg c4]
  obtain ⟨r, r1, r2, r3, r4⟩ := refutes_ok hv hR suf (pre ++ [(k, c)]) p (f + 1) path (by rw [e]; simp) (by
   rw [hasK_cons, Bool.or_eq_true] at h
   exact h.resolve_left (fun hh => hk (beq_iff_eq.1 hh))) (by omega) (by omega)
  exact ⟨r, r1, r2, by simp; omega, r4⟩
section
variable {t : List S39} (hv : ∀ i : Int, 0 ≤ i → i < t.length → okN t i) (hn : t.length ≤ 24)
include hv hn
/-- What a pair needs lies in a list. -/
def NeedIn (t : List S39) (L : List S23) (p : S23) : Prop := ∀ c q, needGet ((needsF (nd t p.f0) (nd t p.f1)).getD none) c = some q → s23 q ∈ L
theorem rel2_ok : ∀ (d f i : Nat) (out : List S23), t.length * t.length ≤ i + d → d < f → i ≤ out.length → out.Nodup → (∀ p ∈ out, inP t p ∧ SubC t p.f0 p.f1) → (∀ k (h : k < out.length), k < i → NeedIn t out out[k]) →
    ∃ r, relGo t f i out = some r ∧ (∀ p ∈ out, p ∈ r) ∧ r.length ≤ 600 ∧ (∀ p ∈ r, inP t p ∧ SubC t p.f0 p.f1) ∧ ∀ p ∈ r, NeedIn t r p := by
  intro d
  induction d with
  | zero =>
    intro f i out h hf hi hnd hin hne
    obtain ⟨f, rfl⟩ : ∃ g, f = g + 1 := ⟨f - 1, by omega⟩
    have hsq := sq_le hv hn
    have hsz : out.length ≤ t.length * t.length := by
      have hnd' : (out.map l23).Nodup := by
        rw [List.Nodup, List.pairwise_map]
        exact hnd.imp (fun hne e => hne (l23_inj e))
      have := nodup_sub_len hnd' (fun k hk => by
        obtain ⟨p, hp, rfl⟩ := List.mem_map.1 hk
        exact allP_mem (hin p hp).1)
      rwa [List.length_map, allP_len] at this
    refine ⟨out, ?_, fun p hp => hp, by omega, hin, fun p hp => ?_⟩
    · unfold relGo
      rw [if_neg (by omega)]
    obtain ⟨k, hk, rfl⟩ := List.getElem_of_mem hp
    exact hne k hk (by omega)
  | succ d ih =>
    intro f i out h hf hi hnd hin hne
    obtain ⟨f, rfl⟩ : ∃ g, f = g + 1 := ⟨f - 1, by omega⟩
    have hsq := sq_le hv hn
    have hsz : out.length ≤ t.length * t.length := by
      have hnd' : (out.map l23).Nodup := by
        rw [List.Nodup, List.pairwise_map]
        exact hnd.imp (fun hne e => hne (l23_inj e))
      have := nodup_sub_len hnd' (fun k hk => by
        obtain ⟨p, hp, rfl⟩ := List.mem_map.1 hk
        exact allP_mem (hin p hp).1)
      rwa [List.length_map, allP_len] at this
    by_cases c : i < out.length
    rotate_left
    · refine ⟨out, ?_, fun p hp => hp, by omega, hin, fun p hp => ?_⟩
      · unfold relGo
        rw [if_neg (by omega)]
      · obtain ⟨k, hk, rfl⟩ := List.getElem_of_mem hp
        exact hne k hk (by omega)
    have e := rd23_nat out c
    obtain ⟨hp, hps⟩ := hin _ (List.getElem_mem c)
    have add : ∀ (o : List S23) (q : Option (List Int)), o.Nodup → (∀ p ∈ o, inP t p ∧ SubC t p.f0 p.f1) → (∀ x, q = some x → x = l23 (s23 x) ∧ inP t (s23 x) ∧ SubC t (s23 x).f0 (s23 x).f1) → (relAdd o q).Nodup ∧ (∀ p ∈ relAdd o q, inP t p ∧ SubC t p.f0 p.f1) ∧ (∃ M, relAdd o q = o ++ M) ∧ ∀ x, q = some x → s23 x ∈ relAdd o q := fun o q h1 h2 h3 => by
      unfold relAdd
      cases q with
      | none => exact ⟨h1, h2, ⟨[], by simp⟩, fun x hx => by cases hx⟩
      | some x =>
        simp only []
        obtain ⟨x1, x2, x3⟩ := h3 x rfl
        split
        · rename_i hx
          refine ⟨h1, h2, ⟨[], by simp⟩, fun y hy => ?_⟩
          cases hy
          obtain ⟨a, ha, hax⟩ := List.mem_map.1 hx
          have : a = s23 x := by rw [← hax]; rfl
          rw [← this]; exact ha
        · rename_i hx
          refine ⟨List.nodup_append.2 ⟨h1, by simp, fun a ha b hb => by
            simp at hb
            subst hb
            intro e
            exact hx (List.mem_map.2 ⟨a, ha, by rw [e]; exact x1.symm⟩)⟩, fun p hp => ?_, ⟨[s23 x], rfl⟩, fun y hy => by cases hy; simp⟩
          rcases List.mem_append.1 hp with hp | hp
          · exact h2 p hp
          · simp at hp
            rw [hp]; exact ⟨x2, x3⟩
    obtain ⟨m, hm, hms⟩ := (stp_needs hv hp.1.1 hp.1.2).1 hps.step
    have hneed : ∀ c x, needGet ((needsF (nd t out[i].f0) (nd t out[i].f1)).getD none) c = some x → x = l23 (s23 x) ∧ inP t (s23 x) ∧ SubC t (s23 x).f0 (s23 x).f1 := fun c x hx => by
      rw [hm] at hx
      obtain ⟨x1, x2⟩ := need_inP hv hp hm hx
      exact ⟨x1, x2, hms c x hx⟩
    obtain ⟨a1, a2, ⟨M1, a3⟩, a4⟩ := add out (needGet ((needsF (nd t out[i].f0) (nd t out[i].f1)).getD none) 97) hnd hin (hneed 97)
    obtain ⟨b1, b2, ⟨M2, b3⟩, b4⟩ := add _ (needGet ((needsF (nd t out[i].f0) (nd t out[i].f1)).getD none) 98) a1 a2 (hneed 98)
    have hext : ∀ p ∈ out, p ∈ relAdd (relAdd out (needGet ((needsF (nd t out[i].f0) (nd t out[i].f1)).getD none) 97)) (needGet ((needsF (nd t out[i].f0) (nd t out[i].f1)).getD none) 98) := fun p hp => by
      rw [b3, a3]; simp [hp]
    have hnew : NeedIn t (relAdd (relAdd out (needGet ((needsF (nd t out[i].f0) (nd t out[i].f1)).getD none) 97)) (needGet ((needsF (nd t out[i].f0) (nd t out[i].f1)).getD none) 98)) out[i] := fun c q hq => by
      have hc : c = 97 ∨ c = 98 := by
        have hq2 := hq
        unfold needGet at hq2
        split at hq2
        · cases hq2
        · split at hq2
          · exact .inl ‹_›
          · split at hq2
            · exact .inr ‹_›
            · cases hq2
      rcases hc with rfl | rfl
      · rw [b3]
        exact List.mem_append_left _ (a4 q hq)
      · exact b4 q hq
    have hlen : i + 1 ≤ (relAdd (relAdd out (needGet ((needsF (nd t out[i].f0) (nd t out[i].f1)).getD none) 97)) (needGet ((needsF (nd t out[i].f0) (nd t out[i].f1)).getD none) 98)).length := by
      rw [b3, a3]; simp; omega
    obtain ⟨r, hr, h1, h2, h3, h4⟩ := ih f (i + 1) _ (by omega) (by omega) hlen b1 b2 (fun k hk hki => by
      have hko : k < out.length := by omega
      have ek : (relAdd (relAdd out (needGet ((needsF (nd t out[i].f0) (nd t out[i].f1)).getD none) 97)) (needGet ((needsF (nd t out[i].f0) (nd t out[i].f1)).getD none) 98))[k] = out[k] := by
        have hE : relAdd (relAdd out (needGet ((needsF (nd t out[i].f0) (nd t out[i].f1)).getD none) 97)) (needGet ((needsF (nd t out[i].f0) (nd t out[i].f1)).getD none) 98) = out ++ (M1 ++ M2) := by rw [b3, a3, List.append_assoc]
        simp only [hE]
        rw [List.getElem_append_left hko]
      rw [ek]
      by_cases ei : k = i
      · subst ei; exact hnew
      · exact fun c q hq => hext _ (hne k hko (by omega) c q hq))
    refine ⟨r, ?_, fun p hp => h1 p (hext p hp), h2, h3, h4⟩
    unfold relGo
    rw [if_pos (by omega), e, if_pos ⟨by omega, by omega, hp.1, hp.2⟩]
    unfold relIn
    rw [if_pos rfl]
    exact hr
end
theorem empty_list : (⟨#[]⟩ : ByteArray).toList = ([] : List UInt8) := by
  unfold ByteArray.toList ByteArray.toList.loop
  rfl
/-- What Sub says of two nodes is right, as the reference says. -/
theorem Find_ev {t : List S39} (ht : tyB t 24 = true) {i j : Int} (i0 : 0 ≤ i) (i1 : i < t.length) (j0 : 0 ≤ j) (j1 : j < t.length) : ∃ (rel : List S23) (path : ByteArray), Ev (fun k => loops_Sub.f k t i j) (subB t i j, rel, path, 0) ∧ rel.length ≤ 600 ∧ path.size ≤ 600 ∧ Ev (fun k => tickingref06_Right.f k t i j (subB t i j) rel path) true := by
  obtain ⟨⟨h1, hv⟩, hl⟩ := tyB_iff.1 ht
  have hn : t.length ≤ 24 := by omega
  have hsq : t.length * t.length ≤ 576 := Nat.mul_le_mul hn hn
  obtain ⟨bad, b1, b2, b3⟩ := refGo_ok hv hn 576 1000 [] (by simp; omega) (by omega) .nil
  have hin : inP t ⟨i, j⟩ := ⟨⟨i0, i1⟩, ⟨j0, j1⟩⟩
  have hall : t.all t39B = true := List.all_eq_true.2 (fun x hx => by
    obtain ⟨k, hk, rfl⟩ := List.getElem_of_mem hx
    have := hv k (by omega) (by omega)
    have e : nd t (k : Int) = t[k] := by
      unfold nd rd_T39
      rw [List.getD_eq_getElem?_getD, Int.toNat_natCast, List.getElem?_eq_getElem hk, Option.getD_some]
    unfold okN at this
    rw [e] at this
    obtain ⟨⟨k0, k1⟩, _, ⟨a0, a1⟩, ⟨c0, c1⟩⟩ := this
    unfold t39B i64B
    rw [Bool.and_eq_true, Bool.and_eq_true]
    exact ⟨decide_eq_true ⟨by omega, by omega⟩, decide_eq_true ⟨by omega, by omega⟩, decide_eq_true ⟨by omega, by omega⟩⟩)
  have key : ∀ rel path, (if hasK bad [i, j] = true then (pathGo t bad 1000 ⟨i, j⟩ (⟨#[]⟩ : ByteArray)).bind fun p => some (false, [], p, (0 : Int)) else (relGo t 10000 0 [⟨i, j⟩]).bind fun r => some (true, r, (⟨#[]⟩ : ByteArray), 0)) = some (subB t i j, rel, path, (0 : Int)) → Ev (fun k => loops_Sub.f k t i j) (subB t i j, rel, path, 0) := fun rel path h => by
    unfold loops_Sub.f
    refine Ev.bind (f := fun k (ok : Bool) => if ok = true then
      (if t.all t39B = true ∧ (0 ≤ i ∧ i < t.length) ∧ (0 ≤ j ∧ j < t.length) ∧ t.length ≤ 100 then
        (refGo t 1000 true []).bind fun bad =>
          if hasK bad [i, j] = true then (pathGo t bad 1000 ⟨i, j⟩ (⟨#[]⟩ : ByteArray)).bind fun p => some (false, [], p, (0 : Int))
          else (relGo t 10000 0 [⟨i, j⟩]).bind fun r => some (true, r, (⟨#[]⟩ : ByteArray), 0)
       else none)
    else some (false, [], (⟨#[]⟩ : ByteArray), 2)) (areNodes_ev (by omega) [i, j]) ?_
    rw [ht, inB_two.2 ⟨⟨i0, i1⟩, ⟨j0, j1⟩⟩]
    refine Ev.congr (fun k => ?_) (Ev.now _)
    rw [if_pos (show (true && true) = true from rfl), if_pos ⟨hall, ⟨i0, i1⟩, ⟨j0, j1⟩, by omega⟩, b1, Option.bind_some]
    exact h
  by_cases hb : hasK bad [i, j] = true
  · have hns := b2.sound hv ⟨i, j⟩ hb
    have hs : subB t i j = false := by
      cases e : subB t i j with
      | false => rfl
      | true => exact absurd (subB_iff.1 e) hns
    have hbl := b2.len
    obtain ⟨p, hp, _, p3, p4⟩ := refutes_ok hv b2 bad [] ⟨i, j⟩ 1000 (⟨#[]⟩ : ByteArray) rfl hb (by omega) (by show 0 + bad.length ≤ 2000; omega)
    have p3' : p.size + 1 ≤ 0 + bad.length := p3
    refine ⟨[], p, key [] p (by rw [if_pos hb, hp, hs]; rfl), by simp, by omega, ?_⟩
    rw [hs]
    unfold tickingref06_Right.f tickingref06_Refutes.f
    refine Ev.congr (fun k => ?_) p4
    rw [if_neg (by decide), if_pos (show ((([] : List S23).length : Nat) : Int) = 0 from rfl)]
    show (tickingref06_Refutes.l0 k t i j p 0).bind (fun z => some z) = tickingref06_Refutes.l0 k t i j p 0
    cases tickingref06_Refutes.l0 k t i j p 0 <;> rfl
  have hs : SubC t i j := ⟨fun a b => inP t ⟨a, b⟩ ∧ hasK bad [a, b] = false, fun a b hab => by
    obtain ⟨m, hm, hall2⟩ := b3 ⟨a, b⟩ hab.1 hab.2
    refine (stp_needs hv hab.1.1.1 hab.1.1.2).2 ⟨m, hm, fun c q hq => ?_⟩
    obtain ⟨q1, q2⟩ := need_inP hv hab.1 hm hq
    refine ⟨q2, ?_⟩
    have := hall2 c q hq
    rw [q1] at this
    exact this, hin, by simpa using hb⟩
  have hsB : subB t i j = true := subB_iff.2 hs
  obtain ⟨r, hr, r1, r2, r3, r4⟩ := rel2_ok hv hn 576 10000 0 [⟨i, j⟩] (by omega) (by omega) (by simp) (by simp) (fun p hp => by simp at hp; rw [hp]; exact ⟨hin, hs⟩) (fun k hk h0 => by omega)
  have hr' : relGo t 10000 0 [⟨i, j⟩] = some r := hr
  refine ⟨r, (⟨#[]⟩ : ByteArray), key r (⟨#[]⟩ : ByteArray) (by rw [if_neg hb, hsB, hr']; rfl), r2, by show 0 ≤ 600; omega, ?_⟩
  rw [hsB]
  unfold tickingref06_Right.f
  have hc := Closed_ev hv hn (L := r) r2 (fun p hp => (r3 p hp).1) (fun p hp => by
    obtain ⟨hpi, hps⟩ := r3 p hp
    obtain ⟨m, hm, _⟩ := (stp_needs hv hpi.1.1 hpi.1.2).1 hps.step
    refine (stp_needs hv hpi.1.1 hpi.1.2).2 ⟨m, hm, fun c q hq => ?_⟩
    exact r4 p hp c q (by rw [hm]; exact hq))
  refine Ev.congr (f := fun k => (tickingref06_Closed.f k t r).bind fun t469 => (if t469 = true then ((tickingref06_has.f k r i j).bind fun t470 => (some t470)) else (some false))) (fun k => ?_) ?_
  · rw [if_pos rfl, if_pos empty_list]
  refine Ev.bind (f := fun k (z : Bool) => _) hc ?_
  simp only [if_true]
  refine Ev.congr (fun k => ?_) (has_ev (L := r) (by omega) (r1 ⟨i, j⟩ (by simp)))
  cases tickingref06_has.f k r i j <;> rfl

theorem mem_l23 {L : List S23} {a b : Int} : [a, b] ∈ L.map l23 ↔ (⟨a, b⟩ : S23) ∈ L := by
 constructor
 ·intro h
  obtain ⟨x, hx, e⟩ := List.mem_map.1 h
  have : x = ⟨a, b⟩ := by
   obtain ⟨x0, x1⟩ := x
   unfold l23 at e
   simp at e
   rw [e.1, e.2]
  rw [← this]; exact hx
 intro h
 exact List.mem_map.2 ⟨_, h, rfl⟩
theorem has_no (L : List S23) (hn : L.length ≤ 1000) (a b : Int) (hm : (⟨a, b⟩ : S23) ∉ L) : ∀ (d i : Nat), i + d = L.length → Ev (fun k => tickingref06_has.l0 k L a b (i : Int)) false
 | 0, i, h => by
  refine Ev.step (fun k => ?_) (Ev.now false)
  simp only [tickingref06_has.l0]
  rw [if_neg (by omega)]
 | d + 1, i, h => by
  have hi : i < L.length := by omega
  have e := rd23_nat L hi
  have c : L[i] ≠ ⟨a, b⟩ := fun c => hm (c ▸ List.getElem_mem hi)
  have ih := has_no L hn a b hm d (i + 1) (by omega)
  have e2 := w64s (j := i) (by omega)
  refine Ev.step (f := fun k => tickingref06_has.l0 k L a b ((i + 1 : Nat) : Int)) (fun k => ?_) ih
  simp only [tickingref06_has.l0]
  rw [if_pos (castlt hi), if_pos (cast0 _), e, e2]
  by_cases c1 : L[i].f0 = a
  ·rw [if_pos c1, if_neg (fun c2 => c (by rw [← c1, ← c2]))]
  ·rw [if_neg c1]
theorem has_all {L : List S23} (hn : L.length ≤ 1000) (a b : Int) : Ev (fun k => tickingref06_has.f k L a b) (decide ([a, b] ∈ L.map l23)) := by
 by_cases h : (⟨a, b⟩ : S23) ∈ L
 ·rw [decide_eq_true (mem_l23.2 h)]
  exact has_ev hn h
 rw [decide_eq_false (fun hh => h (mem_l23.1 hh))]
 exact has_no L hn a b h L.length 0 (by omega)
def okR (t : List S39) (L : List S23) (p : S23) : Bool := inR t.length p && needB t (L.map l23) p
section
variable {t : List S39} (hv : ∀ i : Int, 0 ≤ i → i < t.length → okN t i) (hn : t.length ≤ 24) {L : List S23} (hL : L.length ≤ 1000)
include hv hn hL
theorem closed_all : ∀ (d i : Nat), i + d = L.length → Ev (fun k => tickingref06_Closed.l0 k t L (i : Int)) ((L.drop i).all (okR t L) && decide (L.length ≤ 600))
 | 0, i, h => by
  refine Ev.step (fun k => ?_) (Ev.now _)
  simp only [tickingref06_Closed.l0]
  rw [if_neg (by omega), List.drop_eq_nil_of_le (by omega)]
  simp only [List.all_nil, Bool.true_and]
  congr 1
  simp only [decide_eq_decide]
  omega
 | d + 1, i, h => by
  have hi : i < L.length := by omega
  have ih := closed_all d (i + 1) (by omega)
  have e := rd23_nat L hi
  rw [List.drop_eq_getElem_cons hi, List.all_cons, Bool.and_assoc]
  generalize hB : ((L.drop (i + 1)).all (okR t L) && decide (L.length ≤ 600)) = B at *
  generalize L[i] = p at *
  have has : ∀ x y : Int, Ev (fun k => tickingref06_has.f k L x y) (decide ([x, y] ∈ L.map l23)) := fun x y => has_all hL x y
  by_cases hin : (0 ≤ p.f0 ∧ p.f0 < t.length) ∧ (0 ≤ p.f1 ∧ p.f1 < t.length)
  case neg =>
   have e0 : okR t L p = false := by
    unfold okR inR
    rw [Bool.and_eq_false_iff]
    left
    rw [Bool.and_eq_false_iff]
    by_cases h0 : 0 ≤ p.f0 ∧ p.f0 < t.length
    ·right; exact decide_eq_false (by omega)
    ·left; exact decide_eq_false (by omega)
   rw [e0, Bool.false_and]
   refine Ev.step (f := fun k => tickingref06_Closed.j1 k t L (i : Int) p.f0 p.f1 true) (fun k => ?_) (Ev.step (fun k => ?_) (Ev.now false))
   ·simp only [tickingref06_Closed.l0]
    rw [if_pos (castlt hi), if_pos (cast0 _), e]
    by_cases h0 : p.f0 < 0
    ·rw [if_pos h0]
    rw [if_neg h0]
    by_cases h1 : p.f0 ≥ t.length
    ·rw [if_pos h1]
    rw [if_neg h1]
    by_cases h2 : p.f1 < 0
    ·rw [if_pos h2]
    rw [if_neg h2, decide_eq_true (show p.f1 ≥ t.length by omega)]
   ·simp only [tickingref06_Closed.j1]
    rw [if_pos trivial]
  obtain ⟨⟨a0, a1⟩, ⟨b0, b1⟩⟩ := hin
  obtain ⟨⟨k0, k1⟩, _⟩ := hv _ a0 a1
  have eR : okR t L p = needB t (L.map l23) p := by
   unfold okR inR
   rw [decide_eq_true (by omega), decide_eq_true (by omega)]
   rfl
  rw [eR]
  unfold needB
  refine Ev.step (f := fun k => tickingref06_Closed.j1 k t L (i : Int) p.f0 p.f1 false) (fun k => ?_) ?_
  ·simp only [tickingref06_Closed.l0]
   rw [if_pos (castlt hi), if_pos (cast0 _), e, if_neg (by omega), if_neg (by omega), if_neg (by omega), decide_eq_false (by omega)]
  have next : Ev (fun k => tickingref06_Closed.l0 k t L (wrap64 ((i : Int) + 1))) B := by
   have e2 := w64s (j := i) (by omega)
   rw [e2]; exact ih
  have on : Ev (fun k => tickingref06_Closed.j2 k t L (i : Int) true (nd t p.f0).f0 (nd t p.f0).f1 (nd t p.f0).f2 (nd t p.f1).f0 (nd t p.f1).f1 (nd t p.f1).f2) B := Ev.step (fun k => by
   simp only [tickingref06_Closed.j2]
   rw [if_pos trivial]) next
  by_cases q0 : (nd t p.f0).f0 = 0
  ·rw [show needsF (rd_T39 t p.f0) (rd_T39 t p.f1) = some none from if_pos (.inl q0)]
   refine Ev.congr (fun _ => rfl) (f := fun k => tickingref06_Closed.j1 k t L (i : Int) p.f0 p.f1 false) (Ev.step (fun k => ?_) on)
   simp only [tickingref06_Closed.j1]
   rw [if_neg (by decide), if_pos a0, if_pos a1, if_pos b0, if_pos b1, if_pos q0]
  by_cases q1 : (nd t p.f1).f0 = 1
  ·rw [show needsF (rd_T39 t p.f0) (rd_T39 t p.f1) = some none from if_pos (.inr q1)]
   refine Ev.step (fun k => ?_) on
   simp only [tickingref06_Closed.j1]
   rw [if_neg (by decide), if_pos a0, if_pos a1, if_pos b0, if_pos b1, if_neg q0, if_pos q1]
  have q01 : ¬ ((rd_T39 t p.f0).f0 = 0 ∨ (rd_T39 t p.f1).f0 = 1) := fun h => h.elim q0 q1
  by_cases hk : (nd t p.f0).f0 = (nd t p.f1).f0
  case neg =>
   have hk' : (rd_T39 t p.f0).f0 ≠ (rd_T39 t p.f1).f0 := hk
   rw [show needsF (rd_T39 t p.f0) (rd_T39 t p.f1) = none by unfold needsF; rw [if_neg q01, if_pos hk']]
   refine Ev.step (f := fun k => tickingref06_Closed.j2 k t L (i : Int) false (nd t p.f0).f0 (nd t p.f0).f1 (nd t p.f0).f2 (nd t p.f1).f0 (nd t p.f1).f1 (nd t p.f1).f2) (fun k => ?_) (Ev.step (f := fun k => tickingref06_Closed.j3 k t L (i : Int) true (nd t p.f0).f0 (nd t p.f0).f1 (nd t p.f0).f2 (nd t p.f1).f0 (nd t p.f1).f1 (nd t p.f1).f2) (fun k => ?_) (Ev.step (fun k => ?_) (Ev.now false)))
   ·simp only [tickingref06_Closed.j1]
    rw [if_neg (by decide), if_pos a0, if_pos a1, if_pos b0, if_pos b1, if_neg q0, if_neg q1, if_neg hk]
   ·simp only [tickingref06_Closed.j2]
    rw [if_neg (by decide), if_neg hk]
   simp only [tickingref06_Closed.j3]
   rw [if_pos trivial]
  have hkk : ¬ (rd_T39 t p.f0).f0 ≠ (rd_T39 t p.f1).f0 := fun h => h hk
  by_cases c : (nd t p.f0).f0 < 4
  ·have c4 : ¬ (rd_T39 t p.f0).f0 = 4 := by have : (rd_T39 t p.f0).f0 < 4 := c; omega
   have c5 : ¬ (rd_T39 t p.f0).f0 = 5 := by have : (rd_T39 t p.f0).f0 < 4 := c; omega
   rw [show needsF (rd_T39 t p.f0) (rd_T39 t p.f1) = some none by unfold needsF; rw [if_neg q01, if_neg hkk, if_neg c4, if_neg c5]]
   refine Ev.step (fun k => ?_) on
   simp only [tickingref06_Closed.j1]
   rw [if_neg (by decide), if_pos a0, if_pos a1, if_pos b0, if_pos b1, if_neg q0, if_neg q1, if_pos hk, decide_eq_true (show (rd_T39 t p.f0).f0 < 4 from c)]
  refine Ev.step (f := fun k => tickingref06_Closed.j2 k t L (i : Int) false (nd t p.f0).f0 (nd t p.f0).f1 (nd t p.f0).f2 (nd t p.f1).f0 (nd t p.f1).f1 (nd t p.f1).f2) (fun k => ?_) ?_
  ·simp only [tickingref06_Closed.j1]
   rw [if_neg (by decide), if_pos a0, if_pos a1, if_pos b0, if_pos b1, if_neg q0, if_neg q1, if_pos hk, decide_eq_false (show ¬ (rd_T39 t p.f0).f0 < 4 from c)]
  refine Ev.step (f := fun k => (tickingref06_has.f k L (nd t p.f0).f2 (nd t p.f1).f2).bind fun t460 => (tickingref06_Closed.j3 k t L (i : Int) (!t460) (nd t p.f0).f0 (nd t p.f0).f1 (nd t p.f0).f2 (nd t p.f1).f0 (nd t p.f1).f1 (nd t p.f1).f2)) (fun k => ?_) ?_
  ·simp only [tickingref06_Closed.j2]
   rw [if_neg (by decide), if_pos hk]
  refine Ev.bind (f := fun k (z : Bool) => tickingref06_Closed.j3 k t L (i : Int) (!z) (nd t p.f0).f0 (nd t p.f0).f1 (nd t p.f0).f2 (nd t p.f1).f0 (nd t p.f1).f1 (nd t p.f1).f2) (has _ _) ?_
  by_cases c4 : (nd t p.f0).f0 = 4
  ·rw [show needsF (rd_T39 t p.f0) (rd_T39 t p.f1) = some (some ([(rd_T39 t p.f0).f1, (rd_T39 t p.f1).f1], [(rd_T39 t p.f0).f2, (rd_T39 t p.f1).f2])) by unfold needsF; rw [if_neg q01, if_neg hkk, if_pos (show (rd_T39 t p.f0).f0 = 4 from c4)]]
   show Ev _ ((decide ([(nd t p.f0).f1, (nd t p.f1).f1] ∈ L.map l23) && decide ([(nd t p.f0).f2, (nd t p.f1).f2] ∈ L.map l23)) && B)
   by_cases m2 : [(nd t p.f0).f2, (nd t p.f1).f2] ∈ L.map l23
   case neg =>
    rw [decide_eq_false m2, Bool.and_false, Bool.false_and]
    refine Ev.step (fun k => ?_) (Ev.now false)
    simp only [tickingref06_Closed.j3]
    rw [if_pos (show (!false) = true from rfl)]
   rw [decide_eq_true m2, Bool.and_true]
   refine Ev.step (f := fun k => (tickingref06_has.f k L (nd t p.f0).f1 (nd t p.f1).f1).bind fun t461 => (if t461 = true then (tickingref06_Closed.l0 k t L (wrap64 ((i : Int) + 1))) else (some false))) (fun k => ?_) ?_
   ·simp only [tickingref06_Closed.j3]
    rw [if_neg (by decide), if_pos c4, if_neg (show ¬ (nd t p.f0).f0 = 5 by omega)]
   refine Ev.bind (f := fun k (z : Bool) => if z = true then (tickingref06_Closed.l0 k t L (wrap64 ((i : Int) + 1))) else (some false)) (has _ _) ?_
   by_cases m1 : [(nd t p.f0).f1, (nd t p.f1).f1] ∈ L.map l23
   ·rw [decide_eq_true m1, Bool.true_and]
    exact Ev.congr (fun k => if_pos rfl) next
   rw [decide_eq_false m1, Bool.false_and]
   exact Ev.congr (fun k => if_neg (by decide)) (Ev.now false)
  have c5 : (nd t p.f0).f0 = 5 := by omega
  rw [show needsF (rd_T39 t p.f0) (rd_T39 t p.f1) = some (some ([(rd_T39 t p.f1).f1, (rd_T39 t p.f0).f1], [(rd_T39 t p.f0).f2, (rd_T39 t p.f1).f2])) by unfold needsF; rw [if_neg q01, if_neg hkk, if_neg (show ¬ (rd_T39 t p.f0).f0 = 4 from c4), if_pos (show (rd_T39 t p.f0).f0 = 5 from c5)]]
  show Ev _ ((decide ([(nd t p.f1).f1, (nd t p.f0).f1] ∈ L.map l23) && decide ([(nd t p.f0).f2, (nd t p.f1).f2] ∈ L.map l23)) && B)
  by_cases m2 : [(nd t p.f0).f2, (nd t p.f1).f2] ∈ L.map l23
  case neg =>
   rw [decide_eq_false m2, Bool.and_false, Bool.false_and]
   refine Ev.step (fun k => ?_) (Ev.now false)
   simp only [tickingref06_Closed.j3]
   rw [if_pos (show (!false) = true from rfl)]
  rw [decide_eq_true m2, Bool.and_true]
  refine Ev.step (f := fun k => (tickingref06_has.f k L (nd t p.f1).f1 (nd t p.f0).f1).bind fun t463 => (if t463 = true then (tickingref06_Closed.l0 k t L (wrap64 ((i : Int) + 1))) else (some false))) (fun k => ?_) ?_
  ·simp only [tickingref06_Closed.j3]
   rw [if_neg (by decide), if_neg c4, if_pos c5]
  refine Ev.bind (f := fun k (z : Bool) => if z = true then (tickingref06_Closed.l0 k t L (wrap64 ((i : Int) + 1))) else (some false)) (has _ _) ?_
  by_cases m1 : [(nd t p.f1).f1, (nd t p.f0).f1] ∈ L.map l23
  ·rw [decide_eq_true m1, Bool.true_and]
   exact Ev.congr (fun k => if_pos rfl) next
  rw [decide_eq_false m1, Bool.false_and]
  exact Ev.congr (fun k => if_neg (by decide)) (Ev.now false)
theorem Closed_all : Ev (fun k => tickingref06_Closed.f k t L) (L.all (okR t L) && decide (L.length ≤ 600)) := by
 have := closed_all hv hn hL L.length 0 (by omega)
 rwa [List.drop_zero] at this
omit hL in
theorem rf_all {path : ByteArray} (hp : path.size ≤ 1000000) : ∀ (d pos : Nat) (p : S23), pos + d = path.size → inP t p →
  ∃ b, rfGo t path (d + 1) pos p = some b ∧ Ev (fun k => tickingref06_Refutes.l0 k t p.f0 p.f1 path (pos : Int)) b := by
 intro d
 induction d with
 | zero =>
  intro pos p h hin
  obtain ⟨⟨a0, a1⟩, ⟨b0, b1⟩⟩ := hin
  have hnot : ¬ pos < path.data.size := by have : path.data.size = path.size := rfl; omega
  refine ⟨(needsF (rd_T39 t p.f0) (rd_T39 t p.f1)).isNone, ?_, ?_⟩
  ·unfold rfGo
   rw [if_pos ⟨⟨a0, a1⟩, ⟨b0, b1⟩⟩, dif_neg hnot]
  have l1 : (pos : Int) ≤ (path.size : Int) := by omega
  by_cases q : (nd t p.f0).f0 = 0 ∨ (nd t p.f1).f0 = 1
  ·rw [show needsF (rd_T39 t p.f0) (rd_T39 t p.f1) = some none from if_pos q]
   refine Ev.step (f := fun k => tickingref06_Refutes.j1 k t path (pos : Int) true (nd t p.f0).f0 (nd t p.f0).f1 (nd t p.f0).f2 (nd t p.f1).f0 (nd t p.f1).f1 (nd t p.f1).f2) (fun k => ?_) (Ev.step (fun k => ?_) (Ev.now false))
   ·simp only [tickingref06_Refutes.l0]
    rw [if_pos l1, if_pos a0, if_pos a1, if_pos b0, if_pos b1]
    by_cases q0 : (nd t p.f0).f0 = 0
    ·rw [if_pos q0]
    rw [if_neg q0]
    have q1 : ((nd t p.f1).f0 == 1) = true := beq_iff_eq.2 (q.resolve_left q0)
    rw [q1]
   simp only [tickingref06_Refutes.j1]
   rw [if_pos trivial]
  have q0 : ¬ (nd t p.f0).f0 = 0 := fun h => q (.inl h)
  have q1 : ((nd t p.f1).f0 == 1) = false := beq_eq_false_iff_ne.2 (fun h => q (.inr h))
  refine Ev.step (f := fun k => tickingref06_Refutes.j1 k t path (pos : Int) false (nd t p.f0).f0 (nd t p.f0).f1 (nd t p.f0).f2 (nd t p.f1).f0 (nd t p.f1).f1 (nd t p.f1).f2) (fun k => ?_) (Ev.step (fun k => ?_) (Ev.now _))
  ·simp only [tickingref06_Refutes.l0]
   rw [if_pos l1, if_pos a0, if_pos a1, if_pos b0, if_pos b1, if_neg q0, q1]
  simp only [tickingref06_Refutes.j1]
  rw [if_neg (by decide), if_pos (show (pos : Int) = (path.size : Int) by omega)]
  have q' : ¬ ((rd_T39 t p.f0).f0 = 0 ∨ (rd_T39 t p.f1).f0 = 1) := q
  by_cases hk : (nd t p.f0).f0 = (nd t p.f1).f0
  rotate_left
  ·have hk' : (rd_T39 t p.f0).f0 ≠ (rd_T39 t p.f1).f0 := hk
   rw [show needsF (rd_T39 t p.f0) (rd_T39 t p.f1) = none by unfold needsF; rw [if_neg q', if_pos hk']]
   simp [hk]
  have hk' : ¬ (rd_T39 t p.f0).f0 ≠ (rd_T39 t p.f1).f0 := fun h => h hk
  have : (needsF (rd_T39 t p.f0) (rd_T39 t p.f1)).isNone = false := by
   unfold needsF
   rw [if_neg q', if_neg hk']
   split
   ·rfl
   ·split <;> rfl
  rw [this, hk]
  simp
 | succ d ih =>
  intro pos p h hin
  have hin2 := hin
  obtain ⟨⟨a0, a1⟩, ⟨b0, b1⟩⟩ := hin
  obtain ⟨⟨k0, k1⟩, _⟩ := hv _ a0 a1
  have hlt : pos < path.data.size := by have : path.data.size = path.size := rfl; omega
  have l2 : (pos : Int) < (path.size : Int) := by omega
  have l1 : (pos : Int) ≤ (path.size : Int) := Int.le_of_lt l2
  have l3 : ¬ (pos : Int) = (path.size : Int) := Int.ne_of_lt l2
  have w := w64s (j := pos) (by omega)
  have hbt : bt path (pos : Int) = (path.data[pos].toNat : Int) := by
   rw [← rd_bytesOf]
   unfold rd bytesOf
   rw [Int.toNat_natCast, List.getD_eq_getElem?_getD, List.getElem?_map, Array.getElem?_toList, Array.getElem?_eq_getElem hlt]
   rfl
  obtain ⟨c, hc⟩ : ∃ c, c = (path.data[pos].toNat : Int) := ⟨_, rfl⟩
  rw [← hc] at hbt
  unfold rfGo
  rw [if_pos (show (0 ≤ p.f0 ∧ p.f0 < t.length) ∧ (0 ≤ p.f1 ∧ p.f1 < t.length) from hin2), dif_pos hlt, ← hc]
  -- ends that say no
  have no1 : ((nd t p.f0).f0 = 0 ∨ (nd t p.f1).f0 = 1) → Ev (fun k => tickingref06_Refutes.l0 k t p.f0 p.f1 path (pos : Int)) false := fun q => by
   refine Ev.step (f := fun k => tickingref06_Refutes.j1 k t path (pos : Int) true (nd t p.f0).f0 (nd t p.f0).f1 (nd t p.f0).f2 (nd t p.f1).f0 (nd t p.f1).f1 (nd t p.f1).f2) (fun k => ?_) (Ev.step (fun k => ?_) (Ev.now false))
   ·simp only [tickingref06_Refutes.l0]
    rw [if_pos l1, if_pos a0, if_pos a1, if_pos b0, if_pos b1]
    by_cases q0 : (nd t p.f0).f0 = 0
    ·rw [if_pos q0]
    ·rw [if_neg q0]
     have q1 : ((nd t p.f1).f0 == 1) = true := beq_iff_eq.2 (q.resolve_left q0)
     rw [q1]
   ·simp only [tickingref06_Refutes.j1]
    rw [if_pos trivial]
  have toJ2 : ¬ ((nd t p.f0).f0 = 0 ∨ (nd t p.f1).f0 = 1) → ∀ (z b : Bool), (z = (if (nd t p.f0).f0 = (nd t p.f1).f0 then (if (nd t p.f0).f0 < 4 then true else (if c = 97 then false else c != 98)) else true)) → Ev (fun k => tickingref06_Refutes.j2 k t path (pos : Int) z (nd t p.f0).f0 (nd t p.f0).f1 (nd t p.f0).f2 (nd t p.f1).f0 (nd t p.f1).f1 (nd t p.f1).f2) b → Ev (fun k => tickingref06_Refutes.l0 k t p.f0 p.f1 path (pos : Int)) b := fun q z b hz hb => by
   have q0 : ¬ (nd t p.f0).f0 = 0 := fun h => q (.inl h)
   have q1 : ((nd t p.f1).f0 == 1) = false := beq_eq_false_iff_ne.2 (fun h => q (.inr h))
   refine Ev.step (f := fun k => tickingref06_Refutes.j1 k t path (pos : Int) false (nd t p.f0).f0 (nd t p.f0).f1 (nd t p.f0).f2 (nd t p.f1).f0 (nd t p.f1).f1 (nd t p.f1).f2) (fun k => ?_) (Ev.step (f := fun k => tickingref06_Refutes.j2 k t path (pos : Int) z (nd t p.f0).f0 (nd t p.f0).f1 (nd t p.f0).f2 (nd t p.f1).f0 (nd t p.f1).f1 (nd t p.f1).f2) (fun k => ?_) hb)
   ·simp only [tickingref06_Refutes.l0]
    rw [if_pos l1, if_pos a0, if_pos a1, if_pos b0, if_pos b1, if_neg q0, q1]
   ·simp only [tickingref06_Refutes.j1]
    rw [if_neg (by decide), if_neg l3, hz]
    by_cases c1 : (nd t p.f0).f0 = (nd t p.f1).f0
    ·rw [if_pos c1, if_pos c1]
     by_cases c2 : (nd t p.f0).f0 < 4
     ·rw [if_pos c2, if_pos c2]
     ·rw [if_neg c2, if_neg c2, if_pos (cast0 _), if_pos l2, hbt]
      by_cases c3 : c = 97
      ·rw [if_pos c3, if_pos c3]
      ·rw [if_neg c3, if_neg c3]
    ·rw [if_neg c1, if_neg c1]
  have no2 : Ev (fun k => tickingref06_Refutes.j2 k t path (pos : Int) true (nd t p.f0).f0 (nd t p.f0).f1 (nd t p.f0).f2 (nd t p.f1).f0 (nd t p.f1).f1 (nd t p.f1).f2) false := Ev.step (fun k => by
   simp only [tickingref06_Refutes.j2]
   rw [if_pos trivial]) (Ev.now false)
  by_cases q : (nd t p.f0).f0 = 0 ∨ (nd t p.f1).f0 = 1
  ·rw [show needsF (rd_T39 t p.f0) (rd_T39 t p.f1) = some none from if_pos q]
   exact ⟨false, rfl, no1 q⟩
  have q' : ¬ ((rd_T39 t p.f0).f0 = 0 ∨ (rd_T39 t p.f1).f0 = 1) := q
  by_cases hk : (nd t p.f0).f0 = (nd t p.f1).f0
  case neg =>
   have hk' : (rd_T39 t p.f0).f0 ≠ (rd_T39 t p.f1).f0 := hk
   rw [show needsF (rd_T39 t p.f0) (rd_T39 t p.f1) = none by unfold needsF; rw [if_neg q', if_pos hk']]
   exact ⟨false, rfl, toJ2 q true false (by rw [if_neg hk]) no2⟩
  have hkk : ¬ (rd_T39 t p.f0).f0 ≠ (rd_T39 t p.f1).f0 := fun h => h hk
  by_cases c4 : (nd t p.f0).f0 < 4
  ·have d4 : ¬ (rd_T39 t p.f0).f0 = 4 := by have : (rd_T39 t p.f0).f0 < 4 := c4; omega
   have d5 : ¬ (rd_T39 t p.f0).f0 = 5 := by have : (rd_T39 t p.f0).f0 < 4 := c4; omega
   rw [show needsF (rd_T39 t p.f0) (rd_T39 t p.f1) = some none by unfold needsF; rw [if_neg q', if_neg hkk, if_neg d4, if_neg d5]]
   exact ⟨false, rfl, toJ2 q true false (by rw [if_pos hk, if_pos c4]) no2⟩
  -- two nodes with parts
  have go : ∀ (m : List Int × List Int), needsF (rd_T39 t p.f0) (rd_T39 t p.f1) = some (some m) → (∀ k, (if (nd t p.f0).f0 = 4 then (tickingref06_Refutes.l0 k t (nd t p.f0).f1 (nd t p.f1).f1 path (wrap64 ((pos : Int) + 1))) else (tickingref06_Refutes.l0 k t (nd t p.f1).f1 (nd t p.f0).f1 path (wrap64 ((pos : Int) + 1)))) = tickingref06_Refutes.l0 k t (s23 m.1).f0 (s23 m.1).f1 path (wrap64 ((pos : Int) + 1))) → m.2 = [(nd t p.f0).f2, (nd t p.f1).f2] →
    ∃ b, (match needGet ((some (some m) : Option (Option (List Int × List Int))).getD none) c with | none => some false | some q => rfGo t path (d + 1) (pos + 1) (s23 q)) = some b ∧ Ev (fun k => tickingref06_Refutes.l0 k t p.f0 p.f1 path (pos : Int)) b := fun m hm h1 h2 => by
   obtain ⟨m1, m2⟩ := m
   by_cases ca : c = 97
   ·subst ca
    obtain ⟨b, hb1, hb2⟩ := ih (pos + 1) (s23 m1) (by omega) (need_inP hv hin2 (c := 97) (q := m1) hm rfl).2
    refine ⟨b, hb1, toJ2 q false b (by rw [if_pos hk, if_neg c4, if_pos rfl]) (Ev.step (f := fun k => tickingref06_Refutes.l0 k t (s23 m1).f0 (s23 m1).f1 path ((pos + 1 : Nat) : Int)) (fun k => ?_) hb2)⟩
    simp only [tickingref06_Refutes.j2]
    rw [if_neg (by decide), if_pos (cast0 _), if_pos l2, hbt, if_neg (by decide), h1 k, w]
   ·by_cases cb : c = 98
    ·subst cb
     obtain ⟨b, hb1, hb2⟩ := ih (pos + 1) (s23 m2) (by omega) (need_inP hv hin2 (c := 98) (q := m2) hm rfl).2
     refine ⟨b, hb1, toJ2 q false b (by rw [if_pos hk, if_neg c4, if_neg (by decide)]; rfl) (Ev.step (f := fun k => tickingref06_Refutes.l0 k t (s23 m2).f0 (s23 m2).f1 path ((pos + 1 : Nat) : Int)) (fun k => ?_) hb2)⟩
     simp only [tickingref06_Refutes.j2]
     rw [if_neg (by decide), if_pos (cast0 _), if_pos l2, hbt, if_pos rfl, w]
     have h2' : m2 = [(nd t p.f0).f2, (nd t p.f1).f2] := h2
     rw [h2']
     rfl
    ·refine ⟨false, ?_, toJ2 q true false (by rw [if_pos hk, if_neg c4, if_neg ca]; simp [cb]) no2⟩
     simp [needGet, ca, cb]
  by_cases c5 : (nd t p.f0).f0 = 4
  ·have hm : needsF (rd_T39 t p.f0) (rd_T39 t p.f1) = some (some ([(nd t p.f0).f1, (nd t p.f1).f1], [(nd t p.f0).f2, (nd t p.f1).f2])) := by
    unfold needsF
    rw [if_neg q', if_neg hkk, if_pos (show (rd_T39 t p.f0).f0 = 4 from c5)]
   rw [hm]
   exact go _ hm (fun k => by rw [if_pos c5]; rfl) rfl
  have c6 : (rd_T39 t p.f0).f0 = 5 := by have h1 : ¬ (rd_T39 t p.f0).f0 < 4 := c4; have h2 : ¬ (rd_T39 t p.f0).f0 = 4 := c5; have h3 : (rd_T39 t p.f0).f0 ≤ 5 := k1; omega
  have hm : needsF (rd_T39 t p.f0) (rd_T39 t p.f1) = some (some ([(nd t p.f1).f1, (nd t p.f0).f1], [(nd t p.f0).f2, (nd t p.f1).f2])) := by
   unfold needsF
   rw [if_neg q', if_neg hkk, if_neg (show ¬ (rd_T39 t p.f0).f0 = 4 from c5), if_pos c6]
  rw [hm]
  exact go _ hm (fun k => by rw [if_neg c5]; rfl) rfl
end

theorem Ev.one {α : Type} {g : Nat → Option α} {a b : α} (h : Ev g a) (h' : Ev g b) : a = b := by
 obtain ⟨K, h⟩ := h
 obtain ⟨K', h'⟩ := h'
 have h1 := h (K + K') (by omega)
 have h2 := h' (K + K') (by omega)
 rw [h1] at h2
 exact Option.some.inj h2
def rfB (t : List S39) (path : ByteArray) (p : S23) : Bool := (rfGo t path (path.size + 1) 0 p).getD false
def rightB (t : List S39) (i j : Int) (holds : Bool) (L : List S23) (path : ByteArray) : Bool :=
 if holds = true then decide (path.toList = ([] : List UInt8)) && closedB t L ⟨i, j⟩ else decide (L.length = 0) && rfB t path ⟨i, j⟩
theorem all_t39 {t : List S39} (hv : ∀ i : Int, 0 ≤ i → i < t.length → okN t i) (hn : t.length ≤ 24) : t.all t39B = true := List.all_eq_true.2 (fun x hx => by
  obtain ⟨k, hk, rfl⟩ := List.getElem_of_mem hx
  have := hv k (by omega) (by omega)
  have e : nd t (k : Int) = t[k] := by
   unfold nd rd_T39
   rw [List.getD_eq_getElem?_getD, Int.toNat_natCast, List.getElem?_eq_getElem hk, Option.getD_some]
  unfold okN at this
  rw [e] at this
  obtain ⟨⟨k0, k1⟩, _, ⟨a0, a1⟩, ⟨c0, c1⟩⟩ := this
  unfold t39B i64B
  rw [Bool.and_eq_true, Bool.and_eq_true]
  exact ⟨decide_eq_true ⟨by omega, by omega⟩, decide_eq_true ⟨by omega, by omega⟩, decide_eq_true ⟨by omega, by omega⟩⟩)
section
variable {t : List S39} (ht : tyB t 24 = true) {i j : Int} (i0 : 0 ≤ i) (i1 : i < t.length) (j0 : 0 ≤ j) (j1 : j < t.length)
include ht i0 i1 j0 j1
theorem rf_eq {path : ByteArray} (hp : path.size ≤ 1000000) : rfGo t path (path.size + 1) 0 ⟨i, j⟩ = some (rfB t path ⟨i, j⟩) ∧ Ev (fun k => tickingref06_Refutes.f k t i j path) (rfB t path ⟨i, j⟩) := by
 obtain ⟨⟨h1, hv⟩, hl⟩ := tyB_iff.1 ht
 obtain ⟨b, h2, h3⟩ := rf_all hv (by omega) hp path.size 0 ⟨i, j⟩ (by omega) ⟨⟨i0, i1⟩, ⟨j0, j1⟩⟩
 have e : rfB t path ⟨i, j⟩ = b := by
  unfold rfB
  rw [h2]
  rfl
 rw [e]
 exact ⟨h2, h3⟩
theorem Check_ev (holds : Bool) (L : List S23) {path : ByteArray} (hp : path.size ≤ 1000000) : Ev (fun k => loops_Check.f k t i j holds L path) (if rightB t i j holds L path = true then 0 else 10) := by
 obtain ⟨⟨h1, hv⟩, hl⟩ := tyB_iff.1 ht
 have hall := all_t39 hv (by omega)
 obtain ⟨hr, _⟩ := rf_eq ht i0 i1 j0 j1 hp
 have hcl : loops_isClosed.f t L i j = some (closedB t L ⟨i, j⟩) := by
  unfold loops_isClosed.f
  rw [if_pos ⟨hall, by omega, by unfold i64B; exact decide_eq_true ⟨by omega, by omega⟩, by unfold i64B; exact decide_eq_true ⟨by omega, by omega⟩⟩]
 have hrf : loops_refutes.f t path i j = some (rfB t path ⟨i, j⟩) := by
  unfold loops_refutes.f
  rw [if_pos ⟨hall, hp⟩]
  exact hr
 have hj : ∀ z : Bool, Ev (fun k => loops_Check.j0 k t z holds L path i j) (if (if holds = true then z else (decide (L.length = 0) && rfB t path ⟨i, j⟩)) = true then 0 else 10) := fun z => by
  refine Ev.step (fun k => ?_) (Ev.now _)
  simp only [loops_Check.j0]
  by_cases hh : holds = true
  ·rw [if_pos hh, if_pos hh]
   by_cases hz : z = true
   ·rw [if_pos hz, if_pos hz]
   ·rw [if_neg hz, if_neg hz]
  ·rw [if_neg hh, if_neg hh]
   by_cases hL : L.length = 0
   ·rw [if_pos (show (L.length : Int) = 0 by omega), hrf, Option.bind_some, decide_eq_true hL, Bool.true_and]
    by_cases hb : rfB t path ⟨i, j⟩ = true
    ·rw [if_pos hb, if_pos hb]
    ·rw [if_neg hb, if_neg hb]
   ·rw [if_neg (show ¬ (L.length : Int) = 0 by omega), decide_eq_false hL, Bool.false_and, if_neg (by decide)]
 unfold loops_Check.f
 refine Ev.bind (f := fun k (z : Bool) => _) (areNodes_ev (by omega) [i, j]) ?_
 rw [ht, inB_two.2 ⟨⟨i0, i1⟩, ⟨j0, j1⟩⟩]
 by_cases he : path.toList = ([] : List UInt8)
 rotate_left
 ·refine Ev.congr (f := fun k => loops_Check.j0 k t false holds L path i j) (fun k => ?_) ?_
  ·rw [if_pos (show (true && true) = true from rfl), if_neg he]
  have := hj false
  unfold rightB
  rw [decide_eq_false he, Bool.false_and]
  exact this
 refine Ev.congr (f := fun k => loops_Check.j0 k t (closedB t L ⟨i, j⟩) holds L path i j) (fun k => ?_) ?_
 ·rw [if_pos (show (true && true) = true from rfl), if_pos he, hcl, Option.bind_some]
 have := hj (closedB t L ⟨i, j⟩)
 unfold rightB
 rw [decide_eq_true he, Bool.true_and]
 exact this
theorem closed_eq (L : List S23) : (L.all (okR t L) && decide (L.length ≤ 600)) = (decide (L.length ≤ 600) && (L.all (inR t.length) && L.all (needB t (L.map l23)))) := by
 have : L.all (okR t L) = (L.all (inR t.length) && L.all (needB t (L.map l23))) := by
  rw [Bool.eq_iff_iff, Bool.and_eq_true, List.all_eq_true, List.all_eq_true, List.all_eq_true]
  unfold okR
  constructor
  ·intro h
   exact ⟨fun x hx => (Bool.and_eq_true_iff.1 (h x hx)).1, fun x hx => (Bool.and_eq_true_iff.1 (h x hx)).2⟩
  ·rintro ⟨h1, h2⟩ x hx
   rw [h1 x hx, h2 x hx]
   rfl
 rw [this, Bool.and_comm]
theorem Right_ev (holds : Bool) {L : List S23} (hL : L.length ≤ 1000) {path : ByteArray} (hp : path.size ≤ 1000000) : Ev (fun k => tickingref06_Right.f k t i j holds L path) (rightB t i j holds L path) := by
 obtain ⟨⟨h1, hv⟩, hl⟩ := tyB_iff.1 ht
 obtain ⟨_, hr⟩ := rf_eq ht i0 i1 j0 j1 hp
 unfold tickingref06_Right.f rightB
 by_cases hh : holds = true
 rotate_left
 ·rw [if_neg hh]
  by_cases hz : L.length = 0
  rotate_left
  ·rw [decide_eq_false hz, Bool.false_and]
   exact Ev.congr (fun k => by rw [if_neg hh, if_neg (show ¬ (L.length : Int) = 0 by omega)]) (Ev.now false)
  rw [decide_eq_true hz, Bool.true_and]
  refine Ev.congr (fun k => ?_) hr
  rw [if_neg hh, if_pos (show (L.length : Int) = 0 by omega)]
  cases tickingref06_Refutes.f k t i j path <;> rfl
 rw [if_pos hh]
 by_cases he : path.toList = ([] : List UInt8)
 rotate_left
 ·rw [decide_eq_false he, Bool.false_and]
  exact Ev.congr (fun k => by rw [if_pos hh, if_neg he]) (Ev.now false)
 rw [decide_eq_true he, Bool.true_and]
 refine Ev.congr (f := fun k => (tickingref06_Closed.f k t L).bind fun t469 => (if t469 = true then ((tickingref06_has.f k L i j).bind fun t470 => (some t470)) else (some false))) (fun k => ?_) ?_
 ·rw [if_pos hh, if_pos he]
 refine Ev.bind (f := fun k (z : Bool) => if z = true then ((tickingref06_has.f k L i j).bind fun t470 => (some t470)) else (some false)) (Closed_all hv (by omega) hL) ?_
 rw [closed_eq ht i0 i1 j0 j1]
 unfold closedB
 rw [show (decide (L.length ≤ 600) && (L.all (inR t.length) && (L.all (needB t (L.map l23)) && decide (l23 ⟨i, j⟩ ∈ L.map l23)))) = ((decide (L.length ≤ 600) && (L.all (inR t.length) && L.all (needB t (L.map l23)))) && decide (l23 ⟨i, j⟩ ∈ L.map l23)) by simp only [Bool.and_assoc]]
 generalize (decide (L.length ≤ 600) && (L.all (inR t.length) && L.all (needB t (L.map l23)))) = B
 cases B with
 | true =>
  rw [Bool.true_and]
  refine Ev.congr (fun k => ?_) (has_all hL i j)
  simp only [if_true]
  cases tickingref06_has.f k L i j <;> rfl
 | false =>
  rw [Bool.false_and]
  exact Ev.congr (fun k => if_neg (by decide)) (Ev.now false)
end
theorem finding_eq (h : Bool) {L : List S23} (hL : L.length ≤ 9223372036854775807) {p : ByteArray} (hp : p.size ≤ 9223372036854775807) : ∃ p', tickinglaw06_finding.f h L p = some (h, L.take 601, p') ∧ p'.size ≤ 700 := by
 refine ⟨p.extract 0 ((mn (p.size : Int) 700) : Int).toNat, ?_, ?_⟩
 ·unfold tickinglaw06_finding.f
  have m1 : mn (p.size : Int) 700 = min (p.size : Int) 700 := by unfold mn; split <;> omega
  have m2 : mn (L.length : Int) 601 = min (L.length : Int) 601 := by unfold mn; split <;> omega
  have hlen : (L.take ((mn (L.length : Int) 601) : Int).toNat).length ≤ 601 := by rw [List.length_take, m2]; omega
  rw [if_pos (by rw [m1]; omega), if_pos (by rw [m1]; omega), if_pos (by rw [m2]; omega), if_pos (by rw [m2]; omega), Option.bind_some, if_pos (by simp only [List.length_nil]; omega), List.nil_append]
  have : L.take ((mn (L.length : Int) 601) : Int).toNat = L.take 601 := by
   rw [m2]
   by_cases hc : L.length ≤ 601
   ·rw [List.take_of_length_le (by omega), List.take_of_length_le hc]
   ·rw [show (min (L.length : Int) 601).toNat = 601 by omega]
  rw [this]
 have m1 : mn (p.size : Int) 700 = min (p.size : Int) 700 := by unfold mn; split <;> omega
 rw [ByteArray.size_extract, m1]
 omega
section
variable {t : List S39} (hv : ∀ i : Int, 0 ≤ i → i < t.length → okN t i)
include hv
theorem rf_no (path : ByteArray) : ∀ (f pos : Nat) (p : S23), inP t p → SubC t p.f0 p.f1 → rfGo t path f pos p ≠ some true
 | 0, _, _, _, _ => by simp [rfGo]
 | f + 1, pos, p, hin, hs => by
  obtain ⟨m, hm, hms⟩ := (stp_needs hv hin.1.1 hin.1.2).1 hs.step
  have hm' : needsF (rd_T39 t p.f0) (rd_T39 t p.f1) = some m := hm
  unfold rfGo
  rw [hm', Option.getD_some]
  split
  ·split
   ·cases hq : needGet m (path.data[pos].toNat : Int) with
    | none => simp
    | some q =>
     simp only []
     exact rf_no path f (pos + 1) (s23 q) (need_inP hv hin hm hq).2 (hms _ q hq)
   ·simp
  ·simp
theorem closed_sub {L : List S23} {i j : Int} (h : closedB t L ⟨i, j⟩ = true) : SubC t i j := by
 unfold closedB at h
 obtain ⟨h1, h⟩ := Bool.and_eq_true_iff.1 h
 obtain ⟨h2, h⟩ := Bool.and_eq_true_iff.1 h
 obtain ⟨h3, h4⟩ := Bool.and_eq_true_iff.1 h
 rw [List.all_eq_true] at h2 h3
 have h5 := mem_l23.1 (of_decide_eq_true h4)
 refine ⟨fun a b => (⟨a, b⟩ : S23) ∈ L, fun a b hab => ?_, h5⟩
 have hi := h2 _ hab
 have hn := h3 _ hab
 unfold inR at hi
 rw [Bool.and_eq_true, decide_eq_true_eq, decide_eq_true_eq] at hi
 have hin : inP t ⟨a, b⟩ := ⟨⟨hi.1.1, by have := hi.1.2; omega⟩, ⟨hi.2.1, by have := hi.2.2; omega⟩⟩
 unfold needB at hn
 cases hm : needsF (rd_T39 t a) (rd_T39 t b) with
 | none =>
  have hm' : needsF (rd_T39 t (⟨a, b⟩ : S23).f0) (rd_T39 t (⟨a, b⟩ : S23).f1) = none := hm
  rw [hm'] at hn
  cases hn
 | some m =>
  have hm' : needsF (rd_T39 t (⟨a, b⟩ : S23).f0) (rd_T39 t (⟨a, b⟩ : S23).f1) = some m := hm
  rw [hm'] at hn
  refine (stp_needs hv hin.1.1 hin.1.2).2 ⟨m, hm, fun c q hq => ?_⟩
  obtain ⟨q1, q2⟩ := need_inP hv hin hm hq
  have : q ∈ L.map l23 := by
   cases m with
   | none => cases hq
   | some pq =>
    obtain ⟨pa, pb⟩ := pq
    have hn' : (decide (pa ∈ L.map l23) && decide (pb ∈ L.map l23)) = true := hn
    obtain ⟨n1, n2⟩ := Bool.and_eq_true_iff.1 hn'
    have hq' : (if c = 97 then some pa else if c = 98 then some pb else none) = some q := hq
    clear hq
    have hq := hq'
    clear hq'
    split at hq
    ·injection hq with hq; rw [← hq]; exact of_decide_eq_true n1
    ·split at hq
     ·injection hq with hq; rw [← hq]; exact of_decide_eq_true n2
     ·cases hq
  rw [q1] at this
  exact mem_l23.1 this
end
theorem LoopsOnce_ev (l : List S39) (a b : Int) (h : Bool) (L : List S23) (hL : L.length ≤ 9223372036854775807) (p : ByteArray) (hp : p.size ≤ 9223372036854775807) : Ev (fun k => tickinglaw06_LoopsOnce.f k l a b h L p) true := by
 unfold tickinglaw06_LoopsOnce.f
 obtain ⟨t, t1, t2, t3⟩ := tame_ev l (m := 24) (by omega) (by omega)
 have ht : tyB t 24 = true := tyB_iff.2 ⟨t2, by omega⟩
 have hlen := t2.1
 have hv := t2.2
 refine Ev.bind (f := fun k (z : List S39) => _) t1 ?_
 obtain ⟨i, hi, i0, i1⟩ := mod_ok a (b := t.length) (by omega) (by omega)
 obtain ⟨j, hj, j0, j1⟩ := mod_ok b (b := t.length) (by omega) (by omega)
 rw [hi, hj]
 simp only [Option.bind_some]
 obtain ⟨rel, path, s1, s2, s3, s4⟩ := Find_ev ht i0 i1 j0 j1
 have hR : rightB t i j (subB t i j) rel path = true := Ev.one (Right_ev ht i0 i1 j0 j1 _ (by omega) (by omega)) s4
 have hC := Check_ev ht i0 i1 j0 j1 (subB t i j) rel (path := path) (by omega)
 rw [if_pos hR] at hC
 refine Ev.bind (f := fun k (z : Bool × List S23 × ByteArray × Int) => _) s1 ?_
 refine Ev.congr (f := fun k => (loops_Check.f k t i j (subB t i j) rel path).bind fun t587 => (tickinglaw06_LoopsOnce.j0 k t i j (t587 != 0) h L p (subB t i j) rel path)) (fun k => by rw [if_pos (show ((subB t i j, rel, path, (0 : Int)) : Bool × List S23 × ByteArray × Int).2.2.2 = 0 from rfl)]) ?_
 refine Ev.bind (f := fun k (z : Int) => tickinglaw06_LoopsOnce.j0 k t i j (z != 0) h L p (subB t i j) rel path) hC ?_
 obtain ⟨q, hq, hq7⟩ := finding_eq h hL hp
 have hMl : (L.take 601).length ≤ 601 := by rw [List.length_take]; omega
 generalize L.take 601 = M at *
 cases hs : subB t i j with
 | true =>
  have hsub := subB_iff.1 hs
  have hno : rightB t i j false [] q = false := by
   unfold rightB rfB
   rw [if_neg (by decide)]
   have := rf_no hv q (q.size + 1) 0 ⟨i, j⟩ ⟨⟨i0, i1⟩, ⟨j0, j1⟩⟩ hsub
   cases hr : rfGo t q (q.size + 1) 0 ⟨i, j⟩ with
   | none => rfl
   | some z =>
    cases z with
    | false => rfl
    | true => exact absurd hr this
  have hC2 := Check_ev ht i0 i1 j0 j1 false [] (path := q) (by omega)
  rw [hno] at hC2
  refine Ev.step (f := fun k => (loops_Check.f k t i j false [] q).bind fun t594 => (if t594 = 10 then ((tickinglaw06_awake.f k).bind fun t595 => (some t595)) else (some false))) (fun k => ?_) ?_
  ·simp only [tickinglaw06_LoopsOnce.j0]
   rw [if_neg (by decide), hq, Option.bind_some, if_pos trivial]
   rfl
  refine Ev.bind (f := fun k (z : Int) => if z = 10 then ((tickinglaw06_awake.f k).bind fun t595 => (some t595)) else (some false)) hC2 ?_
  refine Ev.congr (fun k => ?_) awake_ev
  rw [if_pos (show (if false = true then (0 : Int) else 10) = 10 from rfl)]
  cases tickinglaw06_awake.f k <;> rfl
 | false =>
  have hno : rightB t i j true M (⟨#[]⟩ : ByteArray) = false := by
   unfold rightB
   rw [if_pos rfl]
   cases hc : closedB t M ⟨i, j⟩ with
   | false => rw [Bool.and_false]
   | true =>
    rw [subB_iff.2 (closed_sub hv hc)] at hs
    cases hs
  have hC2 := Check_ev ht i0 i1 j0 j1 true M (path := (⟨#[]⟩ : ByteArray)) (by show 0 ≤ 1000000; omega)
  rw [hno] at hC2
  refine Ev.step (f := fun k => (loops_Check.f k t i j true M (⟨#[]⟩ : ByteArray)).bind fun t596 => (if t596 = 10 then ((tickinglaw06_awake.f k).bind fun t597 => (some t597)) else (some false))) (fun k => ?_) ?_
  ·simp only [tickinglaw06_LoopsOnce.j0]
   rw [if_neg (by decide), hq, Option.bind_some, if_neg (by decide)]
   rfl
  refine Ev.bind (f := fun k (z : Int) => if z = 10 then ((tickinglaw06_awake.f k).bind fun t597 => (some t597)) else (some false)) hC2 ?_
  refine Ev.congr (fun k => ?_) awake_ev
  rw [if_pos (show (if false = true then (0 : Int) else 10) = 10 from rfl)]
  cases tickinglaw06_awake.f k <;> rfl
theorem LoopsOnce (l : List S39) (a b : Int) (h : Bool) (L : List S23) (hL : L.length ≤ 9223372036854775807) (p : ByteArray) (hp : p.size ≤ 9223372036854775807) : ∃ k, tickinglaw06_LoopsOnce.f k l a b h L p = some true := (LoopsOnce_ev l a b h L hL p hp).rounds
end Go.Proofs.Ytnfmeafiaipplaa.P

namespace Go.Proofs.Ytnfmeafiaipplaa.Open
instance : Inhabited Go.Proofs.Ytnfmeafiaipplaa.S.S39 := ⟨⟨0, 0, 0⟩⟩
open Go.ChangeShapes Go.WideShapes Go.ChangeAt Go.RowKit
open Go.Proofs.Ytnfmeafiaipplaa.S Go.Proofs.Ytnfmeafiaipplaa.Lib Go.Proofs.YtnfmeafiaipplaaW.PrintWords Go.Proofs.YtnfmeafiaipplaaW.PrintLast Go.Proofs.YtnfmeafiaipplaaW.PrintMore
set_option linter.unusedVariables false
set_option maxRecDepth 100000

theorem add_add (a : Addr) (i j : Nat) : (a.add i).add j = a.add (i + j) := by
 unfold Addr.add
 by_cases hi : i = 0
 ·subst hi
  simp
 by_cases hj : j = 0
 ·subst hj
  simp [hi]
 simp [hi, hj, Nat.add_assoc]
theorem cells3 : Try.prog.cellsOf 39 = 3 := by kernel_rfl
theorem cells1 : Try.prog.cellsOf 3 = 1 := by kernel_rfl
section
variable {H : Type} {enc : TypeId × Value → H} {W : World} {base : Nat} {spare : Nat → Bool} {held : Bool}
/-- A node's cells. -/
theorem open_node {fuel : Nat} {cs : List Value} {x : DataW H × List MemPlace} (h : DataW.trod enc Try.prog W base spare held fuel 39 cs = some x) : ∃ n : S39, cs = [.int .i64 n.f0, .int .i64 n.f1, .int .i64 n.f2] := by
 obtain ⟨xs, n, _, _, hl, hxl, hf⟩ := DataW.trod_struct Try.underlying39 h
 rw [cells3] at hl
 obtain ⟨c0, c1, c2, rfl⟩ : ∃ c0 c1 c2, cs = [c0, c1, c2] := by
  match cs, hl with
  | [a, b, c], _ => exact ⟨a, b, c, rfl⟩
 have f0 : DataW.trod enc Try.prog W base spare held n 3 (([c0, c1, c2].drop 0).take (Try.prog.cellsOf 3)) = xs[0]? := hf 0 _ rfl
 have f1 : DataW.trod enc Try.prog W base spare held n 3 (([c0, c1, c2].drop 1).take (Try.prog.cellsOf 3)) = xs[1]? := hf 1 _ rfl
 have f2 : DataW.trod enc Try.prog W base spare held n 3 (([c0, c1, c2].drop 2).take (Try.prog.cellsOf 3)) = xs[2]? := hf 2 _ rfl
 rw [cells1] at f0 f1 f2
 have hxl3 : xs.length = 3 := hxl
 rw [List.getElem?_eq_getElem (by omega)] at f0 f1 f2
 obtain ⟨n0, h0, _⟩ := DataW.trod_int Try.underlying3 f0
 obtain ⟨n1, h1, _⟩ := DataW.trod_int Try.underlying3 f1
 obtain ⟨n2, h2, _⟩ := DataW.trod_int Try.underlying3 f2
 refine ⟨⟨n0, n1, n2⟩, ?_⟩
 simp at h0 h1 h2
 rw [h0, h1, h2]
theorem open_types {a : Option Addr} {len cap : Nat} {d : DataW H} {ps : List MemPlace} (h : DataW.Trod enc Try.prog W base spare held 22 (.slice a len cap) d ps) :
  ∃ zs : List S39, zs.length = len ∧ Kd.C k39 W a zs.length zs ∧ zs.length ≤ cap := by
 obtain ⟨fuel, hf⟩ := h
 rcases Go.Deep.open_slice Try.underlying22 hf with ⟨hcs, _⟩ | ⟨x, l, c, m, n, D, Pl, hcs, _, hl, hm, hmm, _, hx⟩
 ·simp [Value.cells] at hcs
  obtain ⟨rfl, rfl, rfl⟩ := hcs
  exact ⟨[], rfl, ⟨rfl, by simp, fun hp => absurd hp (by simp)⟩, by simp⟩
 simp [Value.cells] at hcs
 obtain ⟨rfl, rfl, rfl⟩ := hcs
 have hlm : len ≤ m := by rw [hmm]; split <;> omega
 obtain ⟨Z, hZ⟩ := Go.Deep.choose_lt (α := S39) (n := len) (p := fun i z => ∀ j u, [Value.int .i64 z.f0, .int .i64 z.f1, .int .i64 z.f2][j]? = some u → W.cell? (x.add (i * 3 + j)) = some u) (fun i hi => by
  obtain ⟨cs', h1, h2⟩ := hx i (by omega)
  obtain ⟨z, rfl⟩ := open_node h2
  obtain ⟨_, _, h3⟩ := World.cells?_some h1
  rw [cells3] at h3
  refine ⟨z, fun j u hu => ?_⟩
  have hj : j < 3 := by
   have := (List.getElem?_eq_some_iff.1 hu).1
   simpa using this
  rw [← add_add, h3 j hj, hu])
 have hml : len ≤ 9223372036854775807 := by simp only [maxLen] at hm; omega
 refine ⟨(List.range len).map Z, by simp, ⟨by simp, by simpa using hml, fun _ => ⟨x, rfl, fun j p hj => ?_⟩⟩, by simpa using hl⟩
 obtain ⟨hj1, hj2⟩ := List.getElem?_eq_some_iff.1 hj
 simp at hj1 hj2
 refine ⟨_, rfl, k39_mk W p, fun i u hu => ?_⟩
 rw [← hj2] at hu
 exact hZ j hj1 i u hu
theorem okWide_array {P : Program} {w : World} {r : Reach} {b0 n : Nat} {t e : TypeId} {v : Value} (ht : P.underlying t = some (.array n e)) (h : Value.okWide P w r b0 t v) : ∃ cs, v = .agg cs ∧ cs.size = P.cellsOf t := by
 simp only [Value.okWide, ht] at h
 obtain ⟨cs, h1, h2, _⟩ := h
 exact ⟨cs, h1, h2⟩
theorem open_two {r : Reach} {b0 : Nat} {v : Value} {d : DataW H} {ps : List MemPlace} (hv : Value.okWide Try.prog W r b0 23 v) (h : DataW.Trod enc Try.prog W base spare held 23 v d ps) :
  ∃ a b : Int, v = .agg #[.int .i64 a, .int .i64 b] ∧ (Lit.int .i64 a).wf = true ∧ (Lit.int .i64 b).wf = true := by
 obtain ⟨cs, rfl, hsz⟩ := okWide_array Try.underlying23 hv
 obtain ⟨fuel, hf⟩ := h
 have hc : Try.prog.cellsOf 23 = 2 := by kernel_rfl
 rw [hc] at hsz
 obtain ⟨xs, m, _, _, _, hxl, hel⟩ := DataW.trod_array Try.underlying23 hf
 obtain ⟨c0, c1, rfl⟩ : ∃ c0 c1, cs = #[c0, c1] := by
  obtain ⟨l⟩ := cs
  match l, hsz with
  | [a, b], _ => exact ⟨a, b, rfl⟩
 have e0 := hel 0 (by omega)
 have e1 := hel 1 (by omega)
 simp only [cells1] at e0 e1
 rw [List.getElem?_eq_getElem (by omega)] at e0 e1
 obtain ⟨n0, h0, _, w0⟩ := DataW.trod_int Try.underlying3 e0
 obtain ⟨n1, h1, _, w1⟩ := DataW.trod_int Try.underlying3 e1
 refine ⟨n0, n1, ?_, w0, w1⟩
 simp [Value.cells] at h0 h1
 rw [h0, h1]
end
instance : Inhabited Go.Proofs.Ytnfmeafiaipplaa.S.S23 := ⟨⟨0, 0⟩⟩
open Go.ChangeShapes Go.WideShapes Go.ChangeAt Go.RowKit
open Go.Proofs.Ytnfmeafiaipplaa.S Go.Proofs.Ytnfmeafiaipplaa.Lib Go.Proofs.YtnfmeafiaipplaaW.PrintWords Go.Proofs.YtnfmeafiaipplaaW.PrintLast Go.Proofs.YtnfmeafiaipplaaW.PrintMore
set_option linter.unusedVariables false
set_option maxRecDepth 100000
theorem cells23 : Try.prog.cellsOf 23 = 2 := by kernel_rfl
section
variable {H : Type} {enc : TypeId × Value → H} {W : World} {base : Nat} {spare : Nat → Bool} {held : Bool}
theorem open_pair {fuel : Nat} {cs : List Value} {x : DataW H × List MemPlace} (hl : cs.length = 2) (h : DataW.trod enc Try.prog W base spare held fuel 23 cs = some x) : ∃ n : S23, cs = [.int .i64 n.f0, .int .i64 n.f1] := by
 obtain ⟨xs, m, _, _, _, hxl, hel⟩ := DataW.trod_array Try.underlying23 h
 obtain ⟨c0, c1, rfl⟩ : ∃ c0 c1, cs = [c0, c1] := by
  match cs, hl with
  | [a, b], _ => exact ⟨a, b, rfl⟩
 have e0 := hel 0 (by omega)
 have e1 := hel 1 (by omega)
 simp only [cells1] at e0 e1
 rw [List.getElem?_eq_getElem (by omega)] at e0 e1
 obtain ⟨n0, h0, _, w0⟩ := DataW.trod_int Try.underlying3 e0
 obtain ⟨n1, h1, _, w1⟩ := DataW.trod_int Try.underlying3 e1
 refine ⟨⟨n0, n1⟩, ?_⟩
 simp at h0 h1
 rw [h0, h1]
theorem open_pairs {fuel : Nat} {v : Value} {x : DataW H × List MemPlace} (hf : DataW.trod enc Try.prog W base spare held fuel 48 [v] = some x) :
  ∃ (a : Option Addr) (cap : Nat) (zs : List S23), v = .slice a zs.length cap ∧ Kd.C k23 W a zs.length zs ∧ zs.length ≤ cap ∧ zs.length ≤ 9223372036854775807 := by
 rcases Go.Deep.open_slice Try.underlying48 hf with ⟨hcs, _⟩ | ⟨x, l, c, m, n, D, Pl, hcs, _, hl, hm, hmm, _, hx⟩
 ·injection hcs with hcs
  exact ⟨none, 0, [], hcs, ⟨rfl, by simp, fun hp => absurd hp (by simp)⟩, by simp, by simp⟩
 injection hcs with hcs
 subst hcs
 have hlm : l ≤ m := by rw [hmm]; split <;> omega
 obtain ⟨Z, hZ⟩ := Go.Deep.choose_lt (α := S23) (n := l) (p := fun i z => ∀ j u, [Value.int .i64 z.f0, .int .i64 z.f1][j]? = some u → W.cell? (x.add (i * 2 + j)) = some u) (fun i hi => by
  obtain ⟨cs', h1, h2⟩ := hx i (by omega)
  obtain ⟨g1, g2, h3⟩ := World.cells?_some h1
  rw [cells23] at h3 g1 g2
  obtain ⟨z, rfl⟩ := open_pair (by first | exact g1 | exact g2 | simpa using g1 | simpa using g2) h2
  refine ⟨z, fun j u hu => ?_⟩
  have hj : j < 2 := by
   have := (List.getElem?_eq_some_iff.1 hu).1
   simpa using this
  rw [← add_add, h3 j hj, hu])
 have hml : l ≤ 9223372036854775807 := by simp only [maxLen] at hm; omega
 refine ⟨some x, c, (List.range l).map Z, by simp, ⟨by simp, by simpa using hml, fun _ => ⟨x, rfl, fun j p hj => ?_⟩⟩, by simpa using hl, by simpa using hml⟩
 obtain ⟨hj1, hj2⟩ := List.getElem?_eq_some_iff.1 hj
 simp at hj1 hj2
 refine ⟨_, rfl, k23_mk W p, fun i u hu => ?_⟩
 rw [← hj2] at hu
 exact hZ j hj1 i u hu
theorem open_finding {r : Reach} {b0 : Nat} {v : Value} {d : DataW H} {ps : List MemPlace} (hv : Value.okWide Try.prog W r b0 55 v) (h : DataW.Trod enc Try.prog W base spare held 55 v d ps) :
  ∃ (b : Bool) (a : Option Addr) (cap : Nat) (L : List S23) (s : ByteArray), v = .agg #[.bool b, .slice a L.length cap, .string s] ∧ Kd.C k23 W a L.length L ∧ L.length ≤ cap ∧ L.length ≤ 9223372036854775807 ∧ s.size ≤ 9223372036854775807 := by
 obtain ⟨u0, u1, u2, y0, y1, y2, n, rfl, _, _, h0, h1, h2⟩ := Go.Joins.open_agg3 Try.underlying55 (by kernel_rfl) (by kernel_rfl) hv h
 obtain ⟨b, hb, _⟩ := DataW.trod_bool Try.underlying4 h0
 obtain ⟨a, cap, L, hL, hC, hc, hlm⟩ := open_pairs h1
 obtain ⟨s, hs, _, hsz⟩ := DataW.trod_string Try.underlying9 h2
 injection hb with hb
 injection hs with hs
 refine ⟨b, a, cap, L, s, by rw [hb, hL, hs], hC, hc, hlm, ?_⟩
 simp only [maxLen] at hsz
 omega
end
end Go.Proofs.Ytnfmeafiaipplaa.Open
