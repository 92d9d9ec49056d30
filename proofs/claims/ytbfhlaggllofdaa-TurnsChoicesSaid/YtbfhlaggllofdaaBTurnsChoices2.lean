-- Written by wip/bundle2.py: texts of this claim, one behind the other.
import Derived.Test.YtbfhlaggllofdaaBTurnsChoices1
import Derived.WalkKit
import Derived.ProofKit
import Derived.OpenShut
import Derived.ShutString
import Derived.ChangeOld
import Derived.Below
import Derived.SizedLaws
import Derived.Deep.Slices
import Derived.Laws.IdiomArrays
set_option linter.unusedVariables false
set_option linter.unusedSimpArgs false

namespace Go.Proofs.Ytbfhlaggllofdaa.S
open Go.Proofs.Ytbfhlaggllofdaa.Lib
open Go.Maps (Keyed)
open Go.RowKit Go.Proofs.YtbfhlaggllofdaaW.PrintWords Go.Proofs.YtbfhlaggllofdaaW.PrintLast Go.Proofs.YtbfhlaggllofdaaW.PrintMore
attribute [local go_sem] max2_int min2_int max_two min_two max_three min_three max_four min_four
set_option linter.unusedVariables false
set_option linter.unusedSimpArgs false

mutual
def w10_TurnsChoices.j0 : Nat → Int → List Int → Int → Int → List Int → Int → Int → Int → Int → Int → Bool → Option (Bool)
 | 0,_,_,_,_,_,_,_,_,_,_,_=>none
 | k + 1,x0,x7,x8,x9,x10,x11,x12,x13,x14,x15,x46=>if x46 = true then(if(x10.length : Int) = 0 then(if x11 = 2 then(if x12 = 0 then(if x13 = 2 then(if x14 = 0 then(if x15 = 2 then((w10_awake.f k).bind fun t329=>(some t329)) else(some false)) else(some false)) else(some false)) else(some false)) else(some false)) else(some false)) else(if x8 < 0 then(w10_TurnsChoices.j1 k x0 x7 x8 x9 x10 x11 x12 x13 x14 x15 true) else(w10_TurnsChoices.j1 k x0 x7 x8 x9 x10 x11 x12 x13 x14 x15 (decide (x8 > x0))))
def w10_TurnsChoices.j4 : Nat → Int → List Int → Int → Int → Option (Bool)
 | 0,_,_,_,_=>none
 | k + 1,x0,x7,x12,x13=>(q10_Sets.f k x0 x7).bind fun t335=>(if t335 = true then((q10_ChoiceAt.f k x0 x7).bind fun t336=>(if x12 = t336 then(if x13 = 0 then((w10_awake.f k).bind fun t337=>(some t337)) else(some false)) else(some false))) else(if x12 = 0 then(if x13 = 2 then((w10_awake.f k).bind fun t338=>(some t338)) else(some false)) else(some false)))
def w10_TurnsChoices.j1 : Nat → Int → List Int → Int → Int → List Int → Int → Int → Int → Int → Int → Bool → Option (Bool)
 | 0,_,_,_,_,_,_,_,_,_,_,_=>none
 | k + 1,x0,x7,x8,x9,x10,x11,x12,x13,x14,x15,x73=>if x73 = true then(if(x10.length : Int) = 0 then(if x11 = 2 then(if x14 = 0 then(if x15 = 2 then(w10_TurnsChoices.j4 k x0 x7 x12 x13) else(some false)) else(some false)) else(some false)) else(some false)) else((q10_Many.f k x0 x8).bind fun t330=>(if x14 = t330 then(w10_TurnsChoices.j2 k x0 x7 x8 x9 x10 x11 x12 x13 x14 (x15 != 0)) else(w10_TurnsChoices.j2 k x0 x7 x8 x9 x10 x11 x12 x13 x14 true)))
def w10_TurnsChoices.j2 : Nat → Int → List Int → Int → Int → List Int → Int → Int → Int → Int → Bool → Option (Bool)
 | 0,_,_,_,_,_,_,_,_,_,_=>none
 | k + 1,x0,x7,x8,x9,x10,x11,x12,x13,x14,x96=>if x96 = true then(some false) else(if x9 < 0 then(w10_TurnsChoices.j3 k x0 x7 x8 x9 x10 x11 x12 x13 true) else(w10_TurnsChoices.j3 k x0 x7 x8 x9 x10 x11 x12 x13 (decide (x9 ≥ x14))))
def w10_TurnsChoices.j3 : Nat → Int → List Int → Int → Int → List Int → Int → Int → Int → Bool → Option (Bool)
 | 0,_,_,_,_,_,_,_,_,_=>none
 | k + 1,x0,x7,x8,x9,x10,x11,x12,x13,x106=>if x106 = true then(if(x10.length : Int) = 0 then(if x11 = 2 then(w10_TurnsChoices.j4 k x0 x7 x12 x13) else(some false)) else(some false)) else((q10_Choice.f k x0 x8 x9).bind fun t331=>((w10_ints.f k x10 t331).bind fun t334=>(if t334 = true then(if x11 = 0 then(w10_TurnsChoices.j4 k x0 x7 x12 x13) else(some false)) else(some false))))
end
def w10_TurnsChoices.f (k : Nat) (a0 : Int) (a1_0 : Int) (a1_1 : Int) (l2 : List Int) : Option (Bool):=(w10_list.f l2).bind fun t318=>((turns_Choice.f a0 a1_0 a1_1).bind fun bt321=>((turns_ChoiceAt.f k a0 t318).bind fun bt325=>((turns_Many.f a0 a1_0).bind fun bt327=>(if a0 < 0 then(w10_TurnsChoices.j0 k a0 t318 a1_0 a1_1 bt321.1 bt321.2 bt325.1 bt325.2 bt327.1 bt327.2 true) else(w10_TurnsChoices.j0 k a0 t318 a1_0 a1_1 bt321.1 bt321.2 bt325.1 bt325.2 bt327.1 bt327.2 (decide (a0 > 40)))))))
set_option maxHeartbeats 8000000 in
set_option maxRecDepth 100000 in
theorem w10_TurnsChoices.calls (k : Nat) (a0 : Int) (a1_0 : Int) (a1_1 : Int) (A2 : Option Addr) (c2 : Nat) (l2 : List Int) (r : Bool) (w : World) (hr2 : Kd.C (Kd.int .i64) w A2 l2.length l2) (hc2 : l2.length ≤ c2) (h : w10_TurnsChoices.f k a0 a1_0 a1_1 l2 = some r) :
  Calls Try.prog 6 #[.int .i64 a0,.agg #[.int .i64 a1_0,.int .i64 a1_1],.slice A2 l2.length c2] w fun e w'=>e = .returned (.bool r)∧Below w.heap.size w w':=by
 have hu45:=Try.underlying45
 have HR2:=Aside0.mk hr2
 have HC2:=Aside0.mk hc2
 clear hr2 hc2
 have HB:=Aside0.mk (Below.refl w.heap.size w)
 have H :((w10_list.f l2).bind fun t318=>((turns_Choice.f a0 a1_0 a1_1).bind fun bt321=>((turns_ChoiceAt.f k a0 t318).bind fun bt325=>((turns_Many.f a0 a1_0).bind fun bt327=>(if a0 < 0 then(w10_TurnsChoices.j0 k a0 t318 a1_0 a1_1 bt321.1 bt321.2 bt325.1 bt325.2 bt327.1 bt327.2 true) else(w10_TurnsChoices.j0 k a0 t318 a1_0 a1_1 bt321.1 bt321.2 bt325.1 bt325.2 bt327.1 bt327.2 (decide (a0 > 40)))))))) = some r:=h
 clear h
 replace H:=Option.bind_eq_some_iff.mp H
 obtain ⟨t318,A40,H⟩:=H
 replace H :((turns_Choice.f a0 a1_0 a1_1).bind fun bt321=>((turns_ChoiceAt.f k a0 t318).bind fun bt325=>((turns_Many.f a0 a1_0).bind fun bt327=>(if a0 < 0 then(w10_TurnsChoices.j0 k a0 t318 a1_0 a1_1 bt321.1 bt321.2 bt325.1 bt325.2 bt327.1 bt327.2 true) else(w10_TurnsChoices.j0 k a0 t318 a1_0 a1_1 bt321.1 bt321.2 bt325.1 bt325.2 bt327.1 bt327.2 (decide (a0 > 40))))))) = some r:=H
 have A4:=Aside0.mk A40
 clear A40
 replace H:=Option.bind_eq_some_iff.mp H
 obtain ⟨⟨t321,t322⟩,A50,H⟩:=H
 replace H :((turns_ChoiceAt.f k a0 t318).bind fun bt325=>((turns_Many.f a0 a1_0).bind fun bt327=>(if a0 < 0 then(w10_TurnsChoices.j0 k a0 t318 a1_0 a1_1 t321 t322 bt325.1 bt325.2 bt327.1 bt327.2 true) else(w10_TurnsChoices.j0 k a0 t318 a1_0 a1_1 t321 t322 bt325.1 bt325.2 bt327.1 bt327.2 (decide (a0 > 40)))))) = some r:=H
 have A5:=Aside0.mk A50
 clear A50
 replace H:=Option.bind_eq_some_iff.mp H
 obtain ⟨⟨t325,t326⟩,A60,H⟩:=H
 replace H :((turns_Many.f a0 a1_0).bind fun bt327=>(if a0 < 0 then(w10_TurnsChoices.j0 k a0 t318 a1_0 a1_1 t321 t322 t325 t326 bt327.1 bt327.2 true) else(w10_TurnsChoices.j0 k a0 t318 a1_0 a1_1 t321 t322 t325 t326 bt327.1 bt327.2 (decide (a0 > 40))))) = some r:=H
 have A6:=Aside0.mk A60
 clear A60
 replace H:=Option.bind_eq_some_iff.mp H
 obtain ⟨⟨t327,t328⟩,A70,H⟩:=H
 replace H :(if a0 < 0 then(w10_TurnsChoices.j0 k a0 t318 a1_0 a1_1 t321 t322 t325 t326 t327 t328 true) else(w10_TurnsChoices.j0 k a0 t318 a1_0 a1_1 t321 t322 t325 t326 t327 t328 (decide (a0 > 40)))) = some r:=H
 have A7:=Aside0.mk A70
 clear A70
 have HC8:=Aside0.mk H
 clear H
 go_enter Try.func6,Try.ntmps6
 go_upto_region 6 with (first |((with_reducible refine gate_dst (N:=4) rfl ?_);refine box_event ?hg (N:=4) ?hd (cs:=#[.int .i64 a1_0,.int .i64 a1_1]) (t:=45) ?hr ?_;(case hd=>rfl);(case hg=>rfl);(case hr=>first |(go_simp;done) |(go_simp;rfl));intro gb317 hg w9 hbox hb;have n0_:=Aside0.mk (bwT (by repeat(first |(with_reducible first | exact HB.out | apply bwA | apply bwN | apply bw1) | exact HB.out)) hb);have n1_:=Aside0.mk (hbox);have n2_:=Aside0.mk ((by rw [hg];exact(bwZ (by repeat(first |(with_reducible first | exact HB.out | apply bwA | apply bwN | apply bw1) | exact HB.out))) : w.heap.size≤gb317));have n3_:=Aside0.mk ((by rw [hg];exact(bwZ (by repeat(first |(with_reducible first | exact HB.out | apply bwA | apply bwN | apply bw1) | exact HB.out))) : w.heap.size≤gb317));clear HB;have HB:=n0_;have BK317:=n1_;have GW317:=n2_;have GE317:=n3_;clear n0_ n1_ n2_ n3_;clear hb hbox hg) |(go_at_call 16;(with_reducible refine(w10_list.calls _ _ l2 t318 _ ?side1 ?side2 A4.out).mono ?_);(case side1=>repeat(first | exact(Kd.C_below HR2.out HB.out) |(with_reducible refine Kd.C_alloc ?_ _) |(with_reducible refine Kd.C_drewN ?_ _) |(with_reducible refine Kd.C_drew ?_)));(case side2=>exact HC2.out);rintro e w10 ⟨v319,rfl,ho0,hb⟩;have n0_:=Aside0.mk (Kd.R_lower ho0 (bwZ (by repeat(first |(with_reducible first | exact HB.out | apply bwA | apply bwN | apply bw1 | refine bwS ?_ GE317.out) | exact HB.out))));have n1_:=Aside0.mk (bkB (g:=gb317) (o:=.cells #[.int .i64 a1_0,.int .i64 a1_1] 45 (0,0)) (by(with_reducible repeat(first | refine bkN ?_ _ | refine bkD ?_ | refine bkA ?_ _));exact BK317.out) hb);have n2_:=Aside0.mk (bwT (by repeat(first |(with_reducible first | exact HB.out | apply bwA | apply bwN | apply bw1 | refine bwS ?_ GE317.out) | exact HB.out)) hb);clear BK317;clear HB;have HO320:=n0_;have BK317:=n1_;have HB:=n2_;clear n0_ n1_ n2_;(try clear hb);(try clear hb2);(try clear hk);(try clear hi);(try clear ho0);have hcz11_0 : w10.cell? ⟨gb317,0,none⟩ = some (.int .i64 a1_0):=(bkC BK317.out 0).trans rfl;have hcz11_1 : w10.cell? ⟨gb317,1,none⟩ = some (.int .i64 a1_1):=(bkC BK317.out 1).trans rfl;have hfz11_0:=bkF BK317.out 0;have hfz11_1:=bkF BK317.out 1) |(go_at_call 31;(with_reducible refine(turns_Choice.calls a0 a1_0 a1_1 t321 t322 _ A5.out).mono ?_);rintro e w12 ⟨v323,rfl,ho0,hb⟩;have n0_:=Aside0.mk (Kd.R_elder' (by(with_reducible repeat(first | apply Kd.R_alloc | apply Kd.R_drewN | apply Kd.R_drew));exact HO320.out) (Kd.R_base ho0) hb);have n1_:=Aside0.mk (Kd.R_lower (Kd.R_new' ho0 (Kd.R_lt (by(with_reducible repeat(first | apply Kd.R_alloc | apply Kd.R_drewN | apply Kd.R_drew));exact HO320.out))) (bwZ (by repeat(first |(with_reducible first | exact HB.out | apply bwA | apply bwN | apply bw1 | refine bwS ?_ GE317.out) | exact HB.out))));have n2_:=Aside0.mk (bkB (g:=gb317) (o:=.cells #[.int .i64 a1_0,.int .i64 a1_1] 45 (0,0)) (by(with_reducible repeat(first | refine bkN ?_ _ | refine bkD ?_ | refine bkA ?_ _));exact BK317.out) hb);have n3_:=Aside0.mk (bwT (by repeat(first |(with_reducible first | exact HB.out | apply bwA | apply bwN | apply bw1 | refine bwS ?_ GE317.out) | exact HB.out)) hb);clear HO320;clear BK317;clear HB;have HO320:=n0_;have HO324:=n1_;have BK317:=n2_;have HB:=n3_;clear n0_ n1_ n2_ n3_;(try clear hb);(try clear hb2);(try clear hk);(try clear hi);(try clear ho0);obtain ⟨Ao13,co13,eo13⟩:=Kd.R_slice HO320.out;subst eo13) |(go_at_call 32;(with_reducible refine(turns_ChoiceAt.calls k a0 _ _ t318 t325 t326 _ ?side1 ?side2 A6.out).mono ?_);(case side1=>repeat(first | exact(Kd.R_reads' HO320.out).2.2 |(with_reducible refine Kd.C_alloc ?_ _) |(with_reducible refine Kd.C_drewN ?_ _) |(with_reducible refine Kd.C_drew ?_)));(case side2=>exact(Kd.R_reads' HO320.out).2.1);rintro e w14 ⟨rfl,hb⟩;have n0_:=Aside0.mk (Kd.R_below (by(with_reducible repeat(first | apply Kd.R_alloc | apply Kd.R_drewN | apply Kd.R_drew));exact HO320.out) hb);have n1_:=Aside0.mk (Kd.R_below (by(with_reducible repeat(first | apply Kd.R_alloc | apply Kd.R_drewN | apply Kd.R_drew));exact HO324.out) hb);have n2_:=Aside0.mk (bkB (g:=gb317) (o:=.cells #[.int .i64 a1_0,.int .i64 a1_1] 45 (0,0)) (by(with_reducible repeat(first | refine bkN ?_ _ | refine bkD ?_ | refine bkA ?_ _));exact BK317.out) hb);have n3_:=Aside0.mk (bwT (by repeat(first |(with_reducible first | exact HB.out | apply bwA | apply bwN | apply bw1 | refine bwS ?_ GE317.out) | exact HB.out)) hb);clear HO320;clear HO324;clear BK317;clear HB;have HO320:=n0_;have HO324:=n1_;have BK317:=n2_;have HB:=n3_;clear n0_ n1_ n2_ n3_;(try clear hb);(try clear hb2);(try clear hk);(try clear hi)) |(go_at_call 27;(with_reducible refine(turns_Many.calls a0 a1_0 t327 t328 _ A7.out).mono ?_);rintro e w15 ⟨rfl,hb⟩;have n0_:=Aside0.mk (Kd.R_below (by(with_reducible repeat(first | apply Kd.R_alloc | apply Kd.R_drewN | apply Kd.R_drew));exact HO320.out) hb);have n1_:=Aside0.mk (Kd.R_below (by(with_reducible repeat(first | apply Kd.R_alloc | apply Kd.R_drewN | apply Kd.R_drew));exact HO324.out) hb);have n2_:=Aside0.mk (bkB (g:=gb317) (o:=.cells #[.int .i64 a1_0,.int .i64 a1_1] 45 (0,0)) (by(with_reducible repeat(first | refine bkN ?_ _ | refine bkD ?_ | refine bkA ?_ _));exact BK317.out) hb);have n3_:=Aside0.mk (bwT (by repeat(first |(with_reducible first | exact HB.out | apply bwA | apply bwN | apply bw1 | refine bwS ?_ GE317.out) | exact HB.out)) hb);clear HO320;clear HO324;clear BK317;clear HB;have HO320:=n0_;have HO324:=n1_;have BK317:=n2_;have HB:=n3_;clear n0_ n1_ n2_ n3_;(try clear hb);(try clear hb2);(try clear hk);(try clear hi)))
 repeat(go_quiet (first |((with_reducible refine gate_dst (N:=4) rfl ?_);refine box_event ?hg (N:=4) ?hd (cs:=#[.int .i64 a1_0,.int .i64 a1_1]) (t:=45) ?hr ?_;(case hd=>rfl);(case hg=>rfl);(case hr=>first |(go_simp;done) |(go_simp;rfl));intro gb317 hg w9 hbox hb;have n0_:=Aside0.mk (bwT (by repeat(first |(with_reducible first | exact HB.out | apply bwA | apply bwN | apply bw1) | exact HB.out)) hb);have n1_:=Aside0.mk (hbox);have n2_:=Aside0.mk ((by rw [hg];exact(bwZ (by repeat(first |(with_reducible first | exact HB.out | apply bwA | apply bwN | apply bw1) | exact HB.out))) : w.heap.size≤gb317));have n3_:=Aside0.mk ((by rw [hg];exact(bwZ (by repeat(first |(with_reducible first | exact HB.out | apply bwA | apply bwN | apply bw1) | exact HB.out))) : w.heap.size≤gb317));clear HB;have HB:=n0_;have BK317:=n1_;have GW317:=n2_;have GE317:=n3_;clear n0_ n1_ n2_ n3_;clear hb hbox hg) |(go_at_call 16;(with_reducible refine(w10_list.calls _ _ l2 t318 _ ?side1 ?side2 A4.out).mono ?_);(case side1=>repeat(first | exact(Kd.C_below HR2.out HB.out) |(with_reducible refine Kd.C_alloc ?_ _) |(with_reducible refine Kd.C_drewN ?_ _) |(with_reducible refine Kd.C_drew ?_)));(case side2=>exact HC2.out);rintro e w10 ⟨v319,rfl,ho0,hb⟩;have n0_:=Aside0.mk (Kd.R_lower ho0 (bwZ (by repeat(first |(with_reducible first | exact HB.out | apply bwA | apply bwN | apply bw1 | refine bwS ?_ GE317.out) | exact HB.out))));have n1_:=Aside0.mk (bkB (g:=gb317) (o:=.cells #[.int .i64 a1_0,.int .i64 a1_1] 45 (0,0)) (by(with_reducible repeat(first | refine bkN ?_ _ | refine bkD ?_ | refine bkA ?_ _));exact BK317.out) hb);have n2_:=Aside0.mk (bwT (by repeat(first |(with_reducible first | exact HB.out | apply bwA | apply bwN | apply bw1 | refine bwS ?_ GE317.out) | exact HB.out)) hb);clear BK317;clear HB;have HO320:=n0_;have BK317:=n1_;have HB:=n2_;clear n0_ n1_ n2_;(try clear hb);(try clear hb2);(try clear hk);(try clear hi);(try clear ho0);have hcz11_0 : w10.cell? ⟨gb317,0,none⟩ = some (.int .i64 a1_0):=(bkC BK317.out 0).trans rfl;have hcz11_1 : w10.cell? ⟨gb317,1,none⟩ = some (.int .i64 a1_1):=(bkC BK317.out 1).trans rfl;have hfz11_0:=bkF BK317.out 0;have hfz11_1:=bkF BK317.out 1) |(go_at_call 31;(with_reducible refine(turns_Choice.calls a0 a1_0 a1_1 t321 t322 _ A5.out).mono ?_);rintro e w12 ⟨v323,rfl,ho0,hb⟩;have n0_:=Aside0.mk (Kd.R_elder' (by(with_reducible repeat(first | apply Kd.R_alloc | apply Kd.R_drewN | apply Kd.R_drew));exact HO320.out) (Kd.R_base ho0) hb);have n1_:=Aside0.mk (Kd.R_lower (Kd.R_new' ho0 (Kd.R_lt (by(with_reducible repeat(first | apply Kd.R_alloc | apply Kd.R_drewN | apply Kd.R_drew));exact HO320.out))) (bwZ (by repeat(first |(with_reducible first | exact HB.out | apply bwA | apply bwN | apply bw1 | refine bwS ?_ GE317.out) | exact HB.out))));have n2_:=Aside0.mk (bkB (g:=gb317) (o:=.cells #[.int .i64 a1_0,.int .i64 a1_1] 45 (0,0)) (by(with_reducible repeat(first | refine bkN ?_ _ | refine bkD ?_ | refine bkA ?_ _));exact BK317.out) hb);have n3_:=Aside0.mk (bwT (by repeat(first |(with_reducible first | exact HB.out | apply bwA | apply bwN | apply bw1 | refine bwS ?_ GE317.out) | exact HB.out)) hb);clear HO320;clear BK317;clear HB;have HO320:=n0_;have HO324:=n1_;have BK317:=n2_;have HB:=n3_;clear n0_ n1_ n2_ n3_;(try clear hb);(try clear hb2);(try clear hk);(try clear hi);(try clear ho0);obtain ⟨Ao13,co13,eo13⟩:=Kd.R_slice HO320.out;subst eo13) |(go_at_call 32;(with_reducible refine(turns_ChoiceAt.calls k a0 _ _ t318 t325 t326 _ ?side1 ?side2 A6.out).mono ?_);(case side1=>repeat(first | exact(Kd.R_reads' HO320.out).2.2 |(with_reducible refine Kd.C_alloc ?_ _) |(with_reducible refine Kd.C_drewN ?_ _) |(with_reducible refine Kd.C_drew ?_)));(case side2=>exact(Kd.R_reads' HO320.out).2.1);rintro e w14 ⟨rfl,hb⟩;have n0_:=Aside0.mk (Kd.R_below (by(with_reducible repeat(first | apply Kd.R_alloc | apply Kd.R_drewN | apply Kd.R_drew));exact HO320.out) hb);have n1_:=Aside0.mk (Kd.R_below (by(with_reducible repeat(first | apply Kd.R_alloc | apply Kd.R_drewN | apply Kd.R_drew));exact HO324.out) hb);have n2_:=Aside0.mk (bkB (g:=gb317) (o:=.cells #[.int .i64 a1_0,.int .i64 a1_1] 45 (0,0)) (by(with_reducible repeat(first | refine bkN ?_ _ | refine bkD ?_ | refine bkA ?_ _));exact BK317.out) hb);have n3_:=Aside0.mk (bwT (by repeat(first |(with_reducible first | exact HB.out | apply bwA | apply bwN | apply bw1 | refine bwS ?_ GE317.out) | exact HB.out)) hb);clear HO320;clear HO324;clear BK317;clear HB;have HO320:=n0_;have HO324:=n1_;have BK317:=n2_;have HB:=n3_;clear n0_ n1_ n2_ n3_;(try clear hb);(try clear hb2);(try clear hk);(try clear hi)) |(go_at_call 27;(with_reducible refine(turns_Many.calls a0 a1_0 t327 t328 _ A7.out).mono ?_);rintro e w15 ⟨rfl,hb⟩;have n0_:=Aside0.mk (Kd.R_below (by(with_reducible repeat(first | apply Kd.R_alloc | apply Kd.R_drewN | apply Kd.R_drew));exact HO320.out) hb);have n1_:=Aside0.mk (Kd.R_below (by(with_reducible repeat(first | apply Kd.R_alloc | apply Kd.R_drewN | apply Kd.R_drew));exact HO324.out) hb);have n2_:=Aside0.mk (bkB (g:=gb317) (o:=.cells #[.int .i64 a1_0,.int .i64 a1_1] 45 (0,0)) (by(with_reducible repeat(first | refine bkN ?_ _ | refine bkD ?_ | refine bkA ?_ _));exact BK317.out) hb);have n3_:=Aside0.mk (bwT (by repeat(first |(with_reducible first | exact HB.out | apply bwA | apply bwN | apply bw1 | refine bwS ?_ GE317.out) | exact HB.out)) hb);clear HO320;clear HO324;clear BK317;clear HB;have HO320:=n0_;have HO324:=n1_;have BK317:=n2_;have HB:=n3_;clear n0_ n1_ n2_ n3_;(try clear hb);(try clear hb2);(try clear hk);(try clear hi)));go_upto_region 6 with (first |((with_reducible refine gate_dst (N:=4) rfl ?_);refine box_event ?hg (N:=4) ?hd (cs:=#[.int .i64 a1_0,.int .i64 a1_1]) (t:=45) ?hr ?_;(case hd=>rfl);(case hg=>rfl);(case hr=>first |(go_simp;done) |(go_simp;rfl));intro gb317 hg w9 hbox hb;have n0_:=Aside0.mk (bwT (by repeat(first |(with_reducible first | exact HB.out | apply bwA | apply bwN | apply bw1) | exact HB.out)) hb);have n1_:=Aside0.mk (hbox);have n2_:=Aside0.mk ((by rw [hg];exact(bwZ (by repeat(first |(with_reducible first | exact HB.out | apply bwA | apply bwN | apply bw1) | exact HB.out))) : w.heap.size≤gb317));have n3_:=Aside0.mk ((by rw [hg];exact(bwZ (by repeat(first |(with_reducible first | exact HB.out | apply bwA | apply bwN | apply bw1) | exact HB.out))) : w.heap.size≤gb317));clear HB;have HB:=n0_;have BK317:=n1_;have GW317:=n2_;have GE317:=n3_;clear n0_ n1_ n2_ n3_;clear hb hbox hg) |(go_at_call 16;(with_reducible refine(w10_list.calls _ _ l2 t318 _ ?side1 ?side2 A4.out).mono ?_);(case side1=>repeat(first | exact(Kd.C_below HR2.out HB.out) |(with_reducible refine Kd.C_alloc ?_ _) |(with_reducible refine Kd.C_drewN ?_ _) |(with_reducible refine Kd.C_drew ?_)));(case side2=>exact HC2.out);rintro e w10 ⟨v319,rfl,ho0,hb⟩;have n0_:=Aside0.mk (Kd.R_lower ho0 (bwZ (by repeat(first |(with_reducible first | exact HB.out | apply bwA | apply bwN | apply bw1 | refine bwS ?_ GE317.out) | exact HB.out))));have n1_:=Aside0.mk (bkB (g:=gb317) (o:=.cells #[.int .i64 a1_0,.int .i64 a1_1] 45 (0,0)) (by(with_reducible repeat(first | refine bkN ?_ _ | refine bkD ?_ | refine bkA ?_ _));exact BK317.out) hb);have n2_:=Aside0.mk (bwT (by repeat(first |(with_reducible first | exact HB.out | apply bwA | apply bwN | apply bw1 | refine bwS ?_ GE317.out) | exact HB.out)) hb);clear BK317;clear HB;have HO320:=n0_;have BK317:=n1_;have HB:=n2_;clear n0_ n1_ n2_;(try clear hb);(try clear hb2);(try clear hk);(try clear hi);(try clear ho0);have hcz11_0 : w10.cell? ⟨gb317,0,none⟩ = some (.int .i64 a1_0):=(bkC BK317.out 0).trans rfl;have hcz11_1 : w10.cell? ⟨gb317,1,none⟩ = some (.int .i64 a1_1):=(bkC BK317.out 1).trans rfl;have hfz11_0:=bkF BK317.out 0;have hfz11_1:=bkF BK317.out 1) |(go_at_call 31;(with_reducible refine(turns_Choice.calls a0 a1_0 a1_1 t321 t322 _ A5.out).mono ?_);rintro e w12 ⟨v323,rfl,ho0,hb⟩;have n0_:=Aside0.mk (Kd.R_elder' (by(with_reducible repeat(first | apply Kd.R_alloc | apply Kd.R_drewN | apply Kd.R_drew));exact HO320.out) (Kd.R_base ho0) hb);have n1_:=Aside0.mk (Kd.R_lower (Kd.R_new' ho0 (Kd.R_lt (by(with_reducible repeat(first | apply Kd.R_alloc | apply Kd.R_drewN | apply Kd.R_drew));exact HO320.out))) (bwZ (by repeat(first |(with_reducible first | exact HB.out | apply bwA | apply bwN | apply bw1 | refine bwS ?_ GE317.out) | exact HB.out))));have n2_:=Aside0.mk (bkB (g:=gb317) (o:=.cells #[.int .i64 a1_0,.int .i64 a1_1] 45 (0,0)) (by(with_reducible repeat(first | refine bkN ?_ _ | refine bkD ?_ | refine bkA ?_ _));exact BK317.out) hb);have n3_:=Aside0.mk (bwT (by repeat(first |(with_reducible first | exact HB.out | apply bwA | apply bwN | apply bw1 | refine bwS ?_ GE317.out) | exact HB.out)) hb);clear HO320;clear BK317;clear HB;have HO320:=n0_;have HO324:=n1_;have BK317:=n2_;have HB:=n3_;clear n0_ n1_ n2_ n3_;(try clear hb);(try clear hb2);(try clear hk);(try clear hi);(try clear ho0);obtain ⟨Ao13,co13,eo13⟩:=Kd.R_slice HO320.out;subst eo13) |(go_at_call 32;(with_reducible refine(turns_ChoiceAt.calls k a0 _ _ t318 t325 t326 _ ?side1 ?side2 A6.out).mono ?_);(case side1=>repeat(first | exact(Kd.R_reads' HO320.out).2.2 |(with_reducible refine Kd.C_alloc ?_ _) |(with_reducible refine Kd.C_drewN ?_ _) |(with_reducible refine Kd.C_drew ?_)));(case side2=>exact(Kd.R_reads' HO320.out).2.1);rintro e w14 ⟨rfl,hb⟩;have n0_:=Aside0.mk (Kd.R_below (by(with_reducible repeat(first | apply Kd.R_alloc | apply Kd.R_drewN | apply Kd.R_drew));exact HO320.out) hb);have n1_:=Aside0.mk (Kd.R_below (by(with_reducible repeat(first | apply Kd.R_alloc | apply Kd.R_drewN | apply Kd.R_drew));exact HO324.out) hb);have n2_:=Aside0.mk (bkB (g:=gb317) (o:=.cells #[.int .i64 a1_0,.int .i64 a1_1] 45 (0,0)) (by(with_reducible repeat(first | refine bkN ?_ _ | refine bkD ?_ | refine bkA ?_ _));exact BK317.out) hb);have n3_:=Aside0.mk (bwT (by repeat(first |(with_reducible first | exact HB.out | apply bwA | apply bwN | apply bw1 | refine bwS ?_ GE317.out) | exact HB.out)) hb);clear HO320;clear HO324;clear BK317;clear HB;have HO320:=n0_;have HO324:=n1_;have BK317:=n2_;have HB:=n3_;clear n0_ n1_ n2_ n3_;(try clear hb);(try clear hb2);(try clear hk);(try clear hi)) |(go_at_call 27;(with_reducible refine(turns_Many.calls a0 a1_0 t327 t328 _ A7.out).mono ?_);rintro e w15 ⟨rfl,hb⟩;have n0_:=Aside0.mk (Kd.R_below (by(with_reducible repeat(first | apply Kd.R_alloc | apply Kd.R_drewN | apply Kd.R_drew));exact HO320.out) hb);have n1_:=Aside0.mk (Kd.R_below (by(with_reducible repeat(first | apply Kd.R_alloc | apply Kd.R_drewN | apply Kd.R_drew));exact HO324.out) hb);have n2_:=Aside0.mk (bkB (g:=gb317) (o:=.cells #[.int .i64 a1_0,.int .i64 a1_1] 45 (0,0)) (by(with_reducible repeat(first | refine bkN ?_ _ | refine bkD ?_ | refine bkA ?_ _));exact BK317.out) hb);have n3_:=Aside0.mk (bwT (by repeat(first |(with_reducible first | exact HB.out | apply bwA | apply bwN | apply bw1 | refine bwS ?_ GE317.out) | exact HB.out)) hb);clear HO320;clear HO324;clear BK317;clear HB;have HO320:=n0_;have HO324:=n1_;have BK317:=n2_;have HB:=n3_;clear n0_ n1_ n2_ n3_;(try clear hb);(try clear hb2);(try clear hk);(try clear hi))))
 (try simp only [Act.put,List.setIfInBounds_toArray,List.set_cons_zero,List.set_cons_succ])
 go_cut [46] (fun v46 wc=>∃ (kq : Nat) (x46_7 : Bool),v46 = .bool x46_7∧Aside0 (w10_TurnsChoices.j0 kq a0 t318 a1_0 a1_1 t321 t322 t325 t326 t327 t328 x46_7 = some r)∧Aside0 (kq≤k)∧Aside0 (Kd.R (Kd.int .i64) 3 wc w.heap.size (fun k_=>some k_ ≠(v323 : Value).ownBlock) (.slice Ao13 t318.length co13) t318)∧Aside0 (Kd.R (Kd.int .i64) 3 wc w.heap.size (fun k_=>some k_ ≠((.slice Ao13 t318.length co13) : Value).ownBlock) v323 t321)∧Aside0 (wc.heap[gb317]? = some (.cells #[.int .i64 a1_0,.int .i64 a1_1] 45 (0,0)))∧Aside0 (Below w.heap.size w wc))
 case first =>
  have H:=HC8.out
  clear HC8
  by_cases c16 : a0 < 0
  ·rw [if_pos c16] at H
   have c16b0 : decide (a0 < 0) = true:=decide_eq_true c16
   clear c16
   (first | rw [c16b0] |(simp only [i64_w,i32_w];rw [c16b0]) | skip)
   have H':=Aside0.mk H
   clear H
   go_wp2
   repeat(go_quiet (fail);try go_wp2)
   go_meet
   exact⟨_,(true),(by first | rfl |(simp;done) |(simp [*];done)),H',⟨by first | omega | exact Nat.le_refl _⟩,⟨by(with_reducible repeat(first | apply Kd.R_alloc | apply Kd.R_drewN | apply Kd.R_drew));exact Kd.R_mono HO320.out (fun _ hk=>hk.2)⟩,⟨by(with_reducible repeat(first | apply Kd.R_alloc | apply Kd.R_drewN | apply Kd.R_drew));exact Kd.R_mono HO324.out (fun _ hk=>hk.2)⟩,⟨by(with_reducible repeat(first | refine bkN ?_ _ | refine bkD ?_ | refine bkA ?_ _));exact BK317.out⟩,⟨by repeat(first |(with_reducible first | exact HB.out | apply bwA | apply bwN | apply bw1 | refine bwS ?_ GE317.out) | exact HB.out)⟩⟩
  rw [if_neg c16] at H
  have c16b0 : decide (a0 < 0) = false:=decide_eq_false c16
  clear c16
  (first | rw [c16b0] |(simp only [i64_w,i32_w];rw [c16b0]) | skip)
  have H':=Aside0.mk H
  clear H
  go_wp2
  repeat(go_quiet (fail);try go_wp2)
  go_meet
  exact⟨_,(decide (a0 > 40)),(by first | rfl |(simp;done) |(simp [*];done)),H',⟨by first | omega | exact Nat.le_refl _⟩,⟨by(with_reducible repeat(first | apply Kd.R_alloc | apply Kd.R_drewN | apply Kd.R_drew));exact Kd.R_mono HO320.out (fun _ hk=>hk.2)⟩,⟨by(with_reducible repeat(first | apply Kd.R_alloc | apply Kd.R_drewN | apply Kd.R_drew));exact Kd.R_mono HO324.out (fun _ hk=>hk.2)⟩,⟨by(with_reducible repeat(first | refine bkN ?_ _ | refine bkD ?_ | refine bkA ?_ _));exact BK317.out⟩,⟨by repeat(first |(with_reducible first | exact HB.out | apply bwA | apply bwN | apply bw1 | refine bwS ?_ GE317.out) | exact HB.out)⟩⟩
 case rest =>
  clear HC8
  try clear c1
  try clear c2
  try clear p2
  try clear c6
  try clear c16
  try clear c16b0
  try clear hcz11_0
  try clear hcz11_1
  try clear hfz11_0
  try clear hfz11_1
  obtain ⟨kq,x46_7,rfl,HA,HJ7,HO_7,HO_10,BK317,HB⟩:=hcut
  cases kq with
  | zero=>exact absurd HA.out (by simp [w10_TurnsChoices.j0])
  | succ kj7 =>
   have H:=HA.out
   clear HA
   simp only [w10_TurnsChoices.j0] at H
   by_cases c17 : x46_7 = true
   ·subst c17
    have H1 :(if(t321.length : Int) = 0 then(if t322 = 2 then(if t325 = 0 then(if t326 = 2 then(if t327 = 0 then(if t328 = 2 then((w10_awake.f kj7).bind fun t329=>(some t329)) else(some false)) else(some false)) else(some false)) else(some false)) else(some false)) else(some false)) = some r:=by rw [if_pos rfl] at H;exact H
    clear H
    have H:=H1
    clear H1
    by_cases c18 :(t321.length : Int) = 0
    rotate_left
    ·rw [if_neg c18] at H
     have c18b0 :((t321.length : Int) == 0) = false:=beq_eq_false_iff_ne.mpr c18
     have c18b1 :((t321.length : Int) != 0) = true:=bne_iff_ne.mpr c18
     have c18b2 : ¬ (t321 = []):=fun h_=>c18 (by rw [h_];rfl)
     obtain rfl:=Option.some.inj H
     obtain ⟨Ao32,co32,eo32⟩:=Kd.R_slice HO_10.out
     subst eo32
     go_wp2
     repeat(go_quiet (fail);try go_wp2)
     go_ret
     exact⟨by first | rfl |(simp [errW_none,errW_some] <;> rfl) |(simp [*,errW_none,errW_some] <;> rfl),by repeat(first |(with_reducible first | exact HB.out | apply bwA | apply bwN | apply bw1 | refine bwS ?_ GE317.out) | exact HB.out)⟩
    rw [if_pos c18] at H
    have c18b0 :((t321.length : Int) == 0) = true:=beq_iff_eq.mpr c18
    have c18b1 :((t321.length : Int) != 0) = false:=bne_eq_false_iff_eq.mpr c18
    clear c18
    by_cases c19 : t322 = 2
    rotate_left
    ·rw [if_neg c19] at H
     have c19b0 :(t322 == 2) = false:=beq_eq_false_iff_ne.mpr c19
     have c19b1 :(t322 != 2) = true:=bne_iff_ne.mpr c19
     obtain rfl:=Option.some.inj H
     obtain ⟨Ao31,co31,eo31⟩:=Kd.R_slice HO_10.out
     subst eo31
     go_wp2
     repeat(go_quiet (fail);try go_wp2)
     go_ret
     exact⟨by first | rfl |(simp [errW_none,errW_some] <;> rfl) |(simp [*,errW_none,errW_some] <;> rfl),by repeat(first |(with_reducible first | exact HB.out | apply bwA | apply bwN | apply bw1 | refine bwS ?_ GE317.out) | exact HB.out)⟩
    rw [if_pos c19] at H
    have c19b0 :(t322 == 2) = true:=beq_iff_eq.mpr c19
    have c19b1 :(t322 != 2) = false:=bne_eq_false_iff_eq.mpr c19
    clear c19
    by_cases c20 : t325 = 0
    rotate_left
    ·rw [if_neg c20] at H
     have c20b0 :(t325 == 0) = false:=beq_eq_false_iff_ne.mpr c20
     have c20b1 :(t325 != 0) = true:=bne_iff_ne.mpr c20
     obtain rfl:=Option.some.inj H
     obtain ⟨Ao30,co30,eo30⟩:=Kd.R_slice HO_10.out
     subst eo30
     go_wp2
     repeat(go_quiet (fail);try go_wp2)
     go_ret
     exact⟨by first | rfl |(simp [errW_none,errW_some] <;> rfl) |(simp [*,errW_none,errW_some] <;> rfl),by repeat(first |(with_reducible first | exact HB.out | apply bwA | apply bwN | apply bw1 | refine bwS ?_ GE317.out) | exact HB.out)⟩
    rw [if_pos c20] at H
    have c20b0 :(t325 == 0) = true:=beq_iff_eq.mpr c20
    have c20b1 :(t325 != 0) = false:=bne_eq_false_iff_eq.mpr c20
    clear c20
    by_cases c21 : t326 = 2
    rotate_left
    ·rw [if_neg c21] at H
     have c21b0 :(t326 == 2) = false:=beq_eq_false_iff_ne.mpr c21
     have c21b1 :(t326 != 2) = true:=bne_iff_ne.mpr c21
     obtain rfl:=Option.some.inj H
     obtain ⟨Ao29,co29,eo29⟩:=Kd.R_slice HO_10.out
     subst eo29
     go_wp2
     repeat(go_quiet (fail);try go_wp2)
     go_ret
     exact⟨by first | rfl |(simp [errW_none,errW_some] <;> rfl) |(simp [*,errW_none,errW_some] <;> rfl),by repeat(first |(with_reducible first | exact HB.out | apply bwA | apply bwN | apply bw1 | refine bwS ?_ GE317.out) | exact HB.out)⟩
    rw [if_pos c21] at H
    have c21b0 :(t326 == 2) = true:=beq_iff_eq.mpr c21
    have c21b1 :(t326 != 2) = false:=bne_eq_false_iff_eq.mpr c21
    clear c21
    by_cases c22 : t327 = 0
    rotate_left
    ·rw [if_neg c22] at H
     have c22b0 :(t327 == 0) = false:=beq_eq_false_iff_ne.mpr c22
     have c22b1 :(t327 != 0) = true:=bne_iff_ne.mpr c22
     obtain rfl:=Option.some.inj H
     obtain ⟨Ao28,co28,eo28⟩:=Kd.R_slice HO_10.out
     subst eo28
     go_wp2
     repeat(go_quiet (fail);try go_wp2)
     go_ret
     exact⟨by first | rfl |(simp [errW_none,errW_some] <;> rfl) |(simp [*,errW_none,errW_some] <;> rfl),by repeat(first |(with_reducible first | exact HB.out | apply bwA | apply bwN | apply bw1 | refine bwS ?_ GE317.out) | exact HB.out)⟩
    rw [if_pos c22] at H
    have c22b0 :(t327 == 0) = true:=beq_iff_eq.mpr c22
    have c22b1 :(t327 != 0) = false:=bne_eq_false_iff_eq.mpr c22
    clear c22
    by_cases c23 : t328 = 2
    rotate_left
    ·rw [if_neg c23] at H
     have c23b0 :(t328 == 2) = false:=beq_eq_false_iff_ne.mpr c23
     have c23b1 :(t328 != 2) = true:=bne_iff_ne.mpr c23
     obtain rfl:=Option.some.inj H
     obtain ⟨Ao27,co27,eo27⟩:=Kd.R_slice HO_10.out
     subst eo27
     go_wp2
     repeat(go_quiet (fail);try go_wp2)
     go_ret
     exact⟨by first | rfl |(simp [errW_none,errW_some] <;> rfl) |(simp [*,errW_none,errW_some] <;> rfl),by repeat(first |(with_reducible first | exact HB.out | apply bwA | apply bwN | apply bw1 | refine bwS ?_ GE317.out) | exact HB.out)⟩
    rw [if_pos c23] at H
    have c23b0 :(t328 == 2) = true:=beq_iff_eq.mpr c23
    have c23b1 :(t328 != 2) = false:=bne_eq_false_iff_eq.mpr c23
    clear c23
    replace H:=Option.bind_eq_some_iff.mp H
    obtain ⟨t329,A240,H⟩:=H
    replace H :(some t329) = some r:=H
    have A24:=Aside0.mk A240
    clear A240
    obtain rfl:=Option.some.inj H
    obtain ⟨Ao25,co25,eo25⟩:=Kd.R_slice HO_10.out
    subst eo25
    go_wp2_with (first |(go_at_call 20;(with_reducible refine(w10_awake.calls kj7  t329 _ A24.out).mono ?_);rintro e w26 ⟨rfl,hb⟩;have n0_:=Aside0.mk (Kd.R_below (by(with_reducible repeat(first | apply Kd.R_alloc | apply Kd.R_drewN | apply Kd.R_drew));exact HO_7.out) hb);have n1_:=Aside0.mk (Kd.R_below (by(with_reducible repeat(first | apply Kd.R_alloc | apply Kd.R_drewN | apply Kd.R_drew));exact HO_10.out) hb);have n2_:=Aside0.mk (bkB (g:=gb317) (o:=.cells #[.int .i64 a1_0,.int .i64 a1_1] 45 (0,0)) (by(with_reducible repeat(first | refine bkN ?_ _ | refine bkD ?_ | refine bkA ?_ _));exact BK317.out) hb);have n3_:=Aside0.mk (bwT (by repeat(first |(with_reducible first | exact HB.out | apply bwA | apply bwN | apply bw1 | refine bwS ?_ GE317.out) | exact HB.out)) hb);clear HO_7;clear HO_10;clear BK317;clear HB;have HO_7:=n0_;have HO_10:=n1_;have BK317:=n2_;have HB:=n3_;clear n0_ n1_ n2_ n3_;(try clear hb);(try clear hb2);(try clear hk);(try clear hi)))
    repeat(go_quiet (first |(go_at_call 20;(with_reducible refine(w10_awake.calls kj7  t329 _ A24.out).mono ?_);rintro e w26 ⟨rfl,hb⟩;have n0_:=Aside0.mk (Kd.R_below (by(with_reducible repeat(first | apply Kd.R_alloc | apply Kd.R_drewN | apply Kd.R_drew));exact HO_7.out) hb);have n1_:=Aside0.mk (Kd.R_below (by(with_reducible repeat(first | apply Kd.R_alloc | apply Kd.R_drewN | apply Kd.R_drew));exact HO_10.out) hb);have n2_:=Aside0.mk (bkB (g:=gb317) (o:=.cells #[.int .i64 a1_0,.int .i64 a1_1] 45 (0,0)) (by(with_reducible repeat(first | refine bkN ?_ _ | refine bkD ?_ | refine bkA ?_ _));exact BK317.out) hb);have n3_:=Aside0.mk (bwT (by repeat(first |(with_reducible first | exact HB.out | apply bwA | apply bwN | apply bw1 | refine bwS ?_ GE317.out) | exact HB.out)) hb);clear HO_7;clear HO_10;clear BK317;clear HB;have HO_7:=n0_;have HO_10:=n1_;have BK317:=n2_;have HB:=n3_;clear n0_ n1_ n2_ n3_;(try clear hb);(try clear hb2);(try clear hk);(try clear hi)));try go_wp2_with (first |(go_at_call 20;(with_reducible refine(w10_awake.calls kj7  t329 _ A24.out).mono ?_);rintro e w26 ⟨rfl,hb⟩;have n0_:=Aside0.mk (Kd.R_below (by(with_reducible repeat(first | apply Kd.R_alloc | apply Kd.R_drewN | apply Kd.R_drew));exact HO_7.out) hb);have n1_:=Aside0.mk (Kd.R_below (by(with_reducible repeat(first | apply Kd.R_alloc | apply Kd.R_drewN | apply Kd.R_drew));exact HO_10.out) hb);have n2_:=Aside0.mk (bkB (g:=gb317) (o:=.cells #[.int .i64 a1_0,.int .i64 a1_1] 45 (0,0)) (by(with_reducible repeat(first | refine bkN ?_ _ | refine bkD ?_ | refine bkA ?_ _));exact BK317.out) hb);have n3_:=Aside0.mk (bwT (by repeat(first |(with_reducible first | exact HB.out | apply bwA | apply bwN | apply bw1 | refine bwS ?_ GE317.out) | exact HB.out)) hb);clear HO_7;clear HO_10;clear BK317;clear HB;have HO_7:=n0_;have HO_10:=n1_;have BK317:=n2_;have HB:=n3_;clear n0_ n1_ n2_ n3_;(try clear hb);(try clear hb2);(try clear hk);(try clear hi))))
    go_ret
    exact⟨by first | rfl |(simp [errW_none,errW_some] <;> rfl) |(simp [*,errW_none,errW_some] <;> rfl),by repeat(first |(with_reducible first | exact HB.out | apply bwA | apply bwN | apply bw1 | refine bwS ?_ GE317.out) | exact HB.out)⟩
   replace c17:=Bool.eq_false_iff.mpr c17
   subst c17
   have H1 :(if a1_0 < 0 then(w10_TurnsChoices.j1 kj7 a0 t318 a1_0 a1_1 t321 t322 t325 t326 t327 t328 true) else(w10_TurnsChoices.j1 kj7 a0 t318 a1_0 a1_1 t321 t322 t325 t326 t327 t328 (decide (a1_0 > a0)))) = some r:=by rw [if_neg (show ¬ (false = true) by decide)] at H;exact H
   clear H
   have H:=H1
   clear H1
   have HC33:=Aside0.mk H
   clear H
   go_upto_block 0 with (fail)
   repeat(go_quiet (fail);go_upto_block 0 with (fail))
   go_cut [] (fun wc=>∃ (kq : Nat),Aside0 (w10_TurnsChoices.j4 kq a0 t318 t325 t326 = some r)∧Aside0 (kq≤kj7)∧Aside0 (Kd.R (Kd.int .i64) 3 wc w.heap.size (fun _=>True) (.slice Ao13 t318.length co13) t318)∧Aside0 (wc.heap[gb317]? = some (.cells #[.int .i64 a1_0,.int .i64 a1_1] 45 (0,0)))∧Aside0 (Below w.heap.size w wc))
   case first =>
    have H:=HC33.out
    clear HC33
    have HC34:=Aside0.mk H
    clear H
    go_upto_region 8 with (fail)
    repeat(go_quiet (fail);go_upto_region 8 with (fail))
    go_cut [73] (fun v73 wc=>∃ (kq : Nat) (x73_33 : Bool),v73 = .bool x73_33∧Aside0 (w10_TurnsChoices.j1 kq a0 t318 a1_0 a1_1 t321 t322 t325 t326 t327 t328 x73_33 = some r)∧Aside0 (kq≤kj7)∧Aside0 (Kd.R (Kd.int .i64) 3 wc w.heap.size (fun k_=>some k_ ≠(v323 : Value).ownBlock) (.slice Ao13 t318.length co13) t318)∧Aside0 (Kd.R (Kd.int .i64) 3 wc w.heap.size (fun k_=>some k_ ≠((.slice Ao13 t318.length co13) : Value).ownBlock) v323 t321)∧Aside0 (wc.heap[gb317]? = some (.cells #[.int .i64 a1_0,.int .i64 a1_1] 45 (0,0)))∧Aside0 (Below w.heap.size w wc))
    case first =>
     have H:=HC34.out
     clear HC34
     by_cases c35 : a1_0 < 0
     ·rw [if_pos c35] at H
      have c35b0 : decide (a1_0 < 0) = true:=decide_eq_true c35
      clear c35
      (first | rw [c35b0] |(simp only [i64_w,i32_w];rw [c35b0]) | skip)
      have H':=Aside0.mk H
      clear H
      go_wp2
      repeat(go_quiet (fail);try go_wp2)
      go_meet
      exact⟨_,(true),(by first | rfl |(simp;done) |(simp [*];done)),H',⟨by have:=HJ7.out;first | omega | exact Nat.le_refl _⟩,⟨by(with_reducible repeat(first | apply Kd.R_alloc | apply Kd.R_drewN | apply Kd.R_drew));exact HO_7.out⟩,⟨by(with_reducible repeat(first | apply Kd.R_alloc | apply Kd.R_drewN | apply Kd.R_drew));exact HO_10.out⟩,⟨by(with_reducible repeat(first | refine bkN ?_ _ | refine bkD ?_ | refine bkA ?_ _));exact BK317.out⟩,⟨by repeat(first |(with_reducible first | exact HB.out | apply bwA | apply bwN | apply bw1 | refine bwS ?_ GE317.out) | exact HB.out)⟩⟩
     rw [if_neg c35] at H
     have c35b0 : decide (a1_0 < 0) = false:=decide_eq_false c35
     clear c35
     (first | rw [c35b0] |(simp only [i64_w,i32_w];rw [c35b0]) | skip)
     have H':=Aside0.mk H
     clear H
     go_wp2
     repeat(go_quiet (fail);try go_wp2)
     go_meet
     exact⟨_,(decide (a1_0 > a0)),(by first | rfl |(simp;done) |(simp [*];done)),H',⟨by have:=HJ7.out;first | omega | exact Nat.le_refl _⟩,⟨by(with_reducible repeat(first | apply Kd.R_alloc | apply Kd.R_drewN | apply Kd.R_drew));exact HO_7.out⟩,⟨by(with_reducible repeat(first | apply Kd.R_alloc | apply Kd.R_drewN | apply Kd.R_drew));exact HO_10.out⟩,⟨by(with_reducible repeat(first | refine bkN ?_ _ | refine bkD ?_ | refine bkA ?_ _));exact BK317.out⟩,⟨by repeat(first |(with_reducible first | exact HB.out | apply bwA | apply bwN | apply bw1 | refine bwS ?_ GE317.out) | exact HB.out)⟩⟩
    case rest =>
     clear HC34
     try clear c1
     try clear c2
     try clear p2
     try clear c3
     try clear c6
     try clear c16
     try clear c16b0
     try clear c17
     try clear c18
     try clear c18b0
     try clear c18b1
     try clear c18b2
     try clear c19
     try clear c19b0
     try clear c19b1
     try clear c20
     try clear c20b0
     try clear c20b1
     try clear c21
     try clear c21b0
     try clear c21b1
     try clear c22
     try clear c22b0
     try clear c22b1
     try clear c23
     try clear c23b0
     try clear c23b1
     try clear c35
     try clear c35b0
     try clear hcz11_0
     try clear hcz11_1
     try clear hfz11_0
     try clear hfz11_1
     try clear p2
     obtain ⟨kq,x73_33,rfl,HA,HJ33,HO_7,HO_10,BK317,HB⟩:=hcut
     cases kq with
     | zero=>exact absurd HA.out (by simp [w10_TurnsChoices.j1])
     | succ kj33 =>
      have H:=HA.out
      clear HA
      simp only [w10_TurnsChoices.j1] at H
      by_cases c36 : x73_33 = true
      ·subst c36
       have H1 :(if(t321.length : Int) = 0 then(if t322 = 2 then(if t327 = 0 then(if t328 = 2 then(w10_TurnsChoices.j4 kj33 a0 t318 t325 t326) else(some false)) else(some false)) else(some false)) else(some false)) = some r:=by rw [if_pos rfl] at H;exact H
       clear H
       have H:=H1
       clear H1
       by_cases c37 :(t321.length : Int) = 0
       rotate_left
       ·rw [if_neg c37] at H
        have c37b0 :((t321.length : Int) == 0) = false:=beq_eq_false_iff_ne.mpr c37
        have c37b1 :((t321.length : Int) != 0) = true:=bne_iff_ne.mpr c37
        have c37b2 : ¬ (t321 = []):=fun h_=>c37 (by rw [h_];rfl)
        obtain rfl:=Option.some.inj H
        obtain ⟨Ao45,co45,eo45⟩:=Kd.R_slice HO_10.out
        subst eo45
        go_wp2
        repeat(go_quiet (fail);try go_wp2)
        go_ret
        exact⟨by first | rfl |(simp [errW_none,errW_some] <;> rfl) |(simp [*,errW_none,errW_some] <;> rfl),by repeat(first |(with_reducible first | exact HB.out | apply bwA | apply bwN | apply bw1 | refine bwS ?_ GE317.out) | exact HB.out)⟩
       rw [if_pos c37] at H
       have c37b0 :((t321.length : Int) == 0) = true:=beq_iff_eq.mpr c37
       have c37b1 :((t321.length : Int) != 0) = false:=bne_eq_false_iff_eq.mpr c37
       clear c37
       by_cases c38 : t322 = 2
       rotate_left
       ·rw [if_neg c38] at H
        have c38b0 :(t322 == 2) = false:=beq_eq_false_iff_ne.mpr c38
        have c38b1 :(t322 != 2) = true:=bne_iff_ne.mpr c38
        obtain rfl:=Option.some.inj H
        obtain ⟨Ao44,co44,eo44⟩:=Kd.R_slice HO_10.out
        subst eo44
        go_wp2
        repeat(go_quiet (fail);try go_wp2)
        go_ret
        exact⟨by first | rfl |(simp [errW_none,errW_some] <;> rfl) |(simp [*,errW_none,errW_some] <;> rfl),by repeat(first |(with_reducible first | exact HB.out | apply bwA | apply bwN | apply bw1 | refine bwS ?_ GE317.out) | exact HB.out)⟩
       rw [if_pos c38] at H
       have c38b0 :(t322 == 2) = true:=beq_iff_eq.mpr c38
       have c38b1 :(t322 != 2) = false:=bne_eq_false_iff_eq.mpr c38
       clear c38
       by_cases c39 : t327 = 0
       rotate_left
       ·rw [if_neg c39] at H
        have c39b0 :(t327 == 0) = false:=beq_eq_false_iff_ne.mpr c39
        have c39b1 :(t327 != 0) = true:=bne_iff_ne.mpr c39
        obtain rfl:=Option.some.inj H
        obtain ⟨Ao43,co43,eo43⟩:=Kd.R_slice HO_10.out
        subst eo43
        go_wp2
        repeat(go_quiet (fail);try go_wp2)
        go_ret
        exact⟨by first | rfl |(simp [errW_none,errW_some] <;> rfl) |(simp [*,errW_none,errW_some] <;> rfl),by repeat(first |(with_reducible first | exact HB.out | apply bwA | apply bwN | apply bw1 | refine bwS ?_ GE317.out) | exact HB.out)⟩
       rw [if_pos c39] at H
       have c39b0 :(t327 == 0) = true:=beq_iff_eq.mpr c39
       have c39b1 :(t327 != 0) = false:=bne_eq_false_iff_eq.mpr c39
       clear c39
       by_cases c40 : t328 = 2
       rotate_left
       ·rw [if_neg c40] at H
        have c40b0 :(t328 == 2) = false:=beq_eq_false_iff_ne.mpr c40
        have c40b1 :(t328 != 2) = true:=bne_iff_ne.mpr c40
        obtain rfl:=Option.some.inj H
        obtain ⟨Ao42,co42,eo42⟩:=Kd.R_slice HO_10.out
        subst eo42
        go_wp2
        repeat(go_quiet (fail);try go_wp2)
        go_ret
        exact⟨by first | rfl |(simp [errW_none,errW_some] <;> rfl) |(simp [*,errW_none,errW_some] <;> rfl),by repeat(first |(with_reducible first | exact HB.out | apply bwA | apply bwN | apply bw1 | refine bwS ?_ GE317.out) | exact HB.out)⟩
       rw [if_pos c40] at H
       have c40b0 :(t328 == 2) = true:=beq_iff_eq.mpr c40
       have c40b1 :(t328 != 2) = false:=bne_eq_false_iff_eq.mpr c40
       clear c40
       have H':=Aside0.mk H
       clear H
       obtain ⟨Ao41,co41,eo41⟩:=Kd.R_slice HO_10.out
       subst eo41
       go_wp2
       repeat(go_quiet (fail);try go_wp2)
       go_meet
       exact⟨_,H',⟨by have:=HJ7.out;have:=HJ33.out;first | omega | exact Nat.le_refl _⟩,⟨by(with_reducible repeat(first | apply Kd.R_alloc | apply Kd.R_drewN | apply Kd.R_drew));exact Kd.R_mono HO_7.out (fun _ hk=>trivial)⟩,⟨by(with_reducible repeat(first | refine bkN ?_ _ | refine bkD ?_ | refine bkA ?_ _));exact BK317.out⟩,⟨by repeat(first |(with_reducible first | exact HB.out | apply bwA | apply bwN | apply bw1 | refine bwS ?_ GE317.out) | exact HB.out)⟩⟩
      replace c36:=Bool.eq_false_iff.mpr c36
      subst c36
      have H1 :((q10_Many.f kj33 a0 a1_0).bind fun t330=>(if t327 = t330 then(w10_TurnsChoices.j2 kj33 a0 t318 a1_0 a1_1 t321 t322 t325 t326 t327 (t328 != 0)) else(w10_TurnsChoices.j2 kj33 a0 t318 a1_0 a1_1 t321 t322 t325 t326 t327 true))) = some r:=by rw [if_neg (show ¬ (false = true) by decide)] at H;exact H
      clear H
      have H:=H1
      clear H1
      have HC46:=Aside0.mk H
      clear H
      go_upto_region 11 with (fail)
      repeat(go_quiet (fail);go_upto_region 11 with (fail))
      go_cut [96] (fun v96 wc=>∃ (kq : Nat) (x96_45 : Bool),v96 = .bool x96_45∧Aside0 (w10_TurnsChoices.j2 kq a0 t318 a1_0 a1_1 t321 t322 t325 t326 t327 x96_45 = some r)∧Aside0 (kq≤kj33)∧Aside0 (Kd.R (Kd.int .i64) 3 wc w.heap.size (fun k_=>some k_ ≠(v323 : Value).ownBlock) (.slice Ao13 t318.length co13) t318)∧Aside0 (Kd.R (Kd.int .i64) 3 wc w.heap.size (fun k_=>some k_ ≠((.slice Ao13 t318.length co13) : Value).ownBlock) v323 t321)∧Aside0 (wc.heap[gb317]? = some (.cells #[.int .i64 a1_0,.int .i64 a1_1] 45 (0,0)))∧Aside0 (Below w.heap.size w wc))
      case first =>
       have H:=HC46.out
       clear HC46
       replace H:=Option.bind_eq_some_iff.mp H
       obtain ⟨t330,A470,H⟩:=H
       replace H :(if t327 = t330 then(w10_TurnsChoices.j2 kj33 a0 t318 a1_0 a1_1 t321 t322 t325 t326 t327 (t328 != 0)) else(w10_TurnsChoices.j2 kj33 a0 t318 a1_0 a1_1 t321 t322 t325 t326 t327 true)) = some r:=H
       have A47:=Aside0.mk A470
       clear A470
       by_cases c48 : t327 = t330
       rotate_left
       ·rw [if_neg c48] at H
        have c48b0 :(t327 == t330) = false:=beq_eq_false_iff_ne.mpr c48
        have c48b1 :(t327 != t330) = true:=bne_iff_ne.mpr c48
        (first | rw [c48b0] |(simp only [i64_w,i32_w];rw [c48b0]) | skip)
        have H':=Aside0.mk H
        clear H
        go_wp2_with (first |(go_at_call 33;(with_reducible refine(q10_Many.calls kj33 a0 a1_0 t330 _ A47.out).mono ?_);rintro e w50 ⟨rfl,hb⟩;have n0_:=Aside0.mk (Kd.R_below (by(with_reducible repeat(first | apply Kd.R_alloc | apply Kd.R_drewN | apply Kd.R_drew));exact HO_7.out) hb);have n1_:=Aside0.mk (Kd.R_below (by(with_reducible repeat(first | apply Kd.R_alloc | apply Kd.R_drewN | apply Kd.R_drew));exact HO_10.out) hb);have n2_:=Aside0.mk (bkB (g:=gb317) (o:=.cells #[.int .i64 a1_0,.int .i64 a1_1] 45 (0,0)) (by(with_reducible repeat(first | refine bkN ?_ _ | refine bkD ?_ | refine bkA ?_ _));exact BK317.out) hb);have n3_:=Aside0.mk (bwT (by repeat(first |(with_reducible first | exact HB.out | apply bwA | apply bwN | apply bw1 | refine bwS ?_ GE317.out) | exact HB.out)) hb);clear HO_7;clear HO_10;clear BK317;clear HB;have HO_7:=n0_;have HO_10:=n1_;have BK317:=n2_;have HB:=n3_;clear n0_ n1_ n2_ n3_;(try clear hb);(try clear hb2);(try clear hk);(try clear hi)))
        repeat(go_quiet (first |(go_at_call 33;(with_reducible refine(q10_Many.calls kj33 a0 a1_0 t330 _ A47.out).mono ?_);rintro e w50 ⟨rfl,hb⟩;have n0_:=Aside0.mk (Kd.R_below (by(with_reducible repeat(first | apply Kd.R_alloc | apply Kd.R_drewN | apply Kd.R_drew));exact HO_7.out) hb);have n1_:=Aside0.mk (Kd.R_below (by(with_reducible repeat(first | apply Kd.R_alloc | apply Kd.R_drewN | apply Kd.R_drew));exact HO_10.out) hb);have n2_:=Aside0.mk (bkB (g:=gb317) (o:=.cells #[.int .i64 a1_0,.int .i64 a1_1] 45 (0,0)) (by(with_reducible repeat(first | refine bkN ?_ _ | refine bkD ?_ | refine bkA ?_ _));exact BK317.out) hb);have n3_:=Aside0.mk (bwT (by repeat(first |(with_reducible first | exact HB.out | apply bwA | apply bwN | apply bw1 | refine bwS ?_ GE317.out) | exact HB.out)) hb);clear HO_7;clear HO_10;clear BK317;clear HB;have HO_7:=n0_;have HO_10:=n1_;have BK317:=n2_;have HB:=n3_;clear n0_ n1_ n2_ n3_;(try clear hb);(try clear hb2);(try clear hk);(try clear hi)));try go_wp2_with (first |(go_at_call 33;(with_reducible refine(q10_Many.calls kj33 a0 a1_0 t330 _ A47.out).mono ?_);rintro e w50 ⟨rfl,hb⟩;have n0_:=Aside0.mk (Kd.R_below (by(with_reducible repeat(first | apply Kd.R_alloc | apply Kd.R_drewN | apply Kd.R_drew));exact HO_7.out) hb);have n1_:=Aside0.mk (Kd.R_below (by(with_reducible repeat(first | apply Kd.R_alloc | apply Kd.R_drewN | apply Kd.R_drew));exact HO_10.out) hb);have n2_:=Aside0.mk (bkB (g:=gb317) (o:=.cells #[.int .i64 a1_0,.int .i64 a1_1] 45 (0,0)) (by(with_reducible repeat(first | refine bkN ?_ _ | refine bkD ?_ | refine bkA ?_ _));exact BK317.out) hb);have n3_:=Aside0.mk (bwT (by repeat(first |(with_reducible first | exact HB.out | apply bwA | apply bwN | apply bw1 | refine bwS ?_ GE317.out) | exact HB.out)) hb);clear HO_7;clear HO_10;clear BK317;clear HB;have HO_7:=n0_;have HO_10:=n1_;have BK317:=n2_;have HB:=n3_;clear n0_ n1_ n2_ n3_;(try clear hb);(try clear hb2);(try clear hk);(try clear hi))))
        go_meet
        exact⟨_,(true),(by first | rfl |(simp;done) |(simp [*];done)),H',⟨by have:=HJ7.out;have:=HJ33.out;first | omega | exact Nat.le_refl _⟩,⟨by(with_reducible repeat(first | apply Kd.R_alloc | apply Kd.R_drewN | apply Kd.R_drew));exact HO_7.out⟩,⟨by(with_reducible repeat(first | apply Kd.R_alloc | apply Kd.R_drewN | apply Kd.R_drew));exact HO_10.out⟩,⟨by(with_reducible repeat(first | refine bkN ?_ _ | refine bkD ?_ | refine bkA ?_ _));exact BK317.out⟩,⟨by repeat(first |(with_reducible first | exact HB.out | apply bwA | apply bwN | apply bw1 | refine bwS ?_ GE317.out) | exact HB.out)⟩⟩
       rw [if_pos c48] at H
       have c48b0 :(t327 == t330) = true:=beq_iff_eq.mpr c48
       have c48b1 :(t327 != t330) = false:=bne_eq_false_iff_eq.mpr c48
       clear c48
       (first | rw [c48b0] |(simp only [i64_w,i32_w];rw [c48b0]) | skip)
       have H':=Aside0.mk H
       clear H
       go_wp2_with (first |(go_at_call 33;(with_reducible refine(q10_Many.calls kj33 a0 a1_0 t330 _ A47.out).mono ?_);rintro e w49 ⟨rfl,hb⟩;have n0_:=Aside0.mk (Kd.R_below (by(with_reducible repeat(first | apply Kd.R_alloc | apply Kd.R_drewN | apply Kd.R_drew));exact HO_7.out) hb);have n1_:=Aside0.mk (Kd.R_below (by(with_reducible repeat(first | apply Kd.R_alloc | apply Kd.R_drewN | apply Kd.R_drew));exact HO_10.out) hb);have n2_:=Aside0.mk (bkB (g:=gb317) (o:=.cells #[.int .i64 a1_0,.int .i64 a1_1] 45 (0,0)) (by(with_reducible repeat(first | refine bkN ?_ _ | refine bkD ?_ | refine bkA ?_ _));exact BK317.out) hb);have n3_:=Aside0.mk (bwT (by repeat(first |(with_reducible first | exact HB.out | apply bwA | apply bwN | apply bw1 | refine bwS ?_ GE317.out) | exact HB.out)) hb);clear HO_7;clear HO_10;clear BK317;clear HB;have HO_7:=n0_;have HO_10:=n1_;have BK317:=n2_;have HB:=n3_;clear n0_ n1_ n2_ n3_;(try clear hb);(try clear hb2);(try clear hk);(try clear hi)))
       repeat(go_quiet (first |(go_at_call 33;(with_reducible refine(q10_Many.calls kj33 a0 a1_0 t330 _ A47.out).mono ?_);rintro e w49 ⟨rfl,hb⟩;have n0_:=Aside0.mk (Kd.R_below (by(with_reducible repeat(first | apply Kd.R_alloc | apply Kd.R_drewN | apply Kd.R_drew));exact HO_7.out) hb);have n1_:=Aside0.mk (Kd.R_below (by(with_reducible repeat(first | apply Kd.R_alloc | apply Kd.R_drewN | apply Kd.R_drew));exact HO_10.out) hb);have n2_:=Aside0.mk (bkB (g:=gb317) (o:=.cells #[.int .i64 a1_0,.int .i64 a1_1] 45 (0,0)) (by(with_reducible repeat(first | refine bkN ?_ _ | refine bkD ?_ | refine bkA ?_ _));exact BK317.out) hb);have n3_:=Aside0.mk (bwT (by repeat(first |(with_reducible first | exact HB.out | apply bwA | apply bwN | apply bw1 | refine bwS ?_ GE317.out) | exact HB.out)) hb);clear HO_7;clear HO_10;clear BK317;clear HB;have HO_7:=n0_;have HO_10:=n1_;have BK317:=n2_;have HB:=n3_;clear n0_ n1_ n2_ n3_;(try clear hb);(try clear hb2);(try clear hk);(try clear hi)));try go_wp2_with (first |(go_at_call 33;(with_reducible refine(q10_Many.calls kj33 a0 a1_0 t330 _ A47.out).mono ?_);rintro e w49 ⟨rfl,hb⟩;have n0_:=Aside0.mk (Kd.R_below (by(with_reducible repeat(first | apply Kd.R_alloc | apply Kd.R_drewN | apply Kd.R_drew));exact HO_7.out) hb);have n1_:=Aside0.mk (Kd.R_below (by(with_reducible repeat(first | apply Kd.R_alloc | apply Kd.R_drewN | apply Kd.R_drew));exact HO_10.out) hb);have n2_:=Aside0.mk (bkB (g:=gb317) (o:=.cells #[.int .i64 a1_0,.int .i64 a1_1] 45 (0,0)) (by(with_reducible repeat(first | refine bkN ?_ _ | refine bkD ?_ | refine bkA ?_ _));exact BK317.out) hb);have n3_:=Aside0.mk (bwT (by repeat(first |(with_reducible first | exact HB.out | apply bwA | apply bwN | apply bw1 | refine bwS ?_ GE317.out) | exact HB.out)) hb);clear HO_7;clear HO_10;clear BK317;clear HB;have HO_7:=n0_;have HO_10:=n1_;have BK317:=n2_;have HB:=n3_;clear n0_ n1_ n2_ n3_;(try clear hb);(try clear hb2);(try clear hk);(try clear hi))))
       go_meet
       exact⟨_,((t328 != 0)),(by first | rfl |(simp;done) |(simp [*];done)),H',⟨by have:=HJ7.out;have:=HJ33.out;first | omega | exact Nat.le_refl _⟩,⟨by(with_reducible repeat(first | apply Kd.R_alloc | apply Kd.R_drewN | apply Kd.R_drew));exact HO_7.out⟩,⟨by(with_reducible repeat(first | apply Kd.R_alloc | apply Kd.R_drewN | apply Kd.R_drew));exact HO_10.out⟩,⟨by(with_reducible repeat(first | refine bkN ?_ _ | refine bkD ?_ | refine bkA ?_ _));exact BK317.out⟩,⟨by repeat(first |(with_reducible first | exact HB.out | apply bwA | apply bwN | apply bw1 | refine bwS ?_ GE317.out) | exact HB.out)⟩⟩
      case rest =>
       clear HC46
       try clear c1
       try clear c2
       try clear p2
       try clear c3
       try clear c4
       try clear c6
       try clear c16
       try clear c16b0
       try clear c17
       try clear c18
       try clear c18b0
       try clear c18b1
       try clear c18b2
       try clear c19
       try clear c19b0
       try clear c19b1
       try clear c20
       try clear c20b0
       try clear c20b1
       try clear c21
       try clear c21b0
       try clear c21b1
       try clear c22
       try clear c22b0
       try clear c22b1
       try clear c23
       try clear c23b0
       try clear c23b1
       try clear c35
       try clear c35b0
       try clear c36
       try clear c37
       try clear c37b0
       try clear c37b1
       try clear c37b2
       try clear c38
       try clear c38b0
       try clear c38b1
       try clear c39
       try clear c39b0
       try clear c39b1
       try clear c40
       try clear c40b0
       try clear c40b1
       try clear c48
       try clear c48b0
       try clear c48b1
       try clear hcz11_0
       try clear hcz11_1
       try clear hfz11_0
       try clear hfz11_1
       try clear p2
       obtain ⟨kq,x96_45,rfl,HA,HJ45,HO_7,HO_10,BK317,HB⟩:=hcut
       cases kq with
       | zero=>exact absurd HA.out (by simp [w10_TurnsChoices.j2])
       | succ kj45 =>
        have H:=HA.out
        clear HA
        simp only [w10_TurnsChoices.j2] at H
        by_cases c51 : x96_45 = true
        ·subst c51
         have H1 :(some false) = some r:=by rw [if_pos rfl] at H;exact H
         clear H
         have H:=H1
         clear H1
         obtain rfl:=Option.some.inj H
         go_wp2
         repeat(go_quiet (fail);try go_wp2)
         go_ret
         exact⟨by first | rfl |(simp [errW_none,errW_some] <;> rfl) |(simp [*,errW_none,errW_some] <;> rfl),by repeat(first |(with_reducible first | exact HB.out | apply bwA | apply bwN | apply bw1 | refine bwS ?_ GE317.out) | exact HB.out)⟩
        replace c51:=Bool.eq_false_iff.mpr c51
        subst c51
        have H1 :(if a1_1 < 0 then(w10_TurnsChoices.j3 kj45 a0 t318 a1_0 a1_1 t321 t322 t325 t326 true) else(w10_TurnsChoices.j3 kj45 a0 t318 a1_0 a1_1 t321 t322 t325 t326 (decide (a1_1 ≥ t327)))) = some r:=by rw [if_neg (show ¬ (false = true) by decide)] at H;exact H
        clear H
        have H:=H1
        clear H1
        have HC52:=Aside0.mk H
        clear H
        go_upto_region 13 with (fail)
        repeat(go_quiet (fail);go_upto_region 13 with (fail))
        go_cut [106] (fun v106 wc=>∃ (kq : Nat) (x106_51 : Bool),v106 = .bool x106_51∧Aside0 (w10_TurnsChoices.j3 kq a0 t318 a1_0 a1_1 t321 t322 t325 t326 x106_51 = some r)∧Aside0 (kq≤kj45)∧Aside0 (Kd.R (Kd.int .i64) 3 wc w.heap.size (fun k_=>some k_ ≠(v323 : Value).ownBlock) (.slice Ao13 t318.length co13) t318)∧Aside0 (Kd.R (Kd.int .i64) 3 wc w.heap.size (fun k_=>some k_ ≠((.slice Ao13 t318.length co13) : Value).ownBlock) v323 t321)∧Aside0 (wc.heap[gb317]? = some (.cells #[.int .i64 a1_0,.int .i64 a1_1] 45 (0,0)))∧Aside0 (Below w.heap.size w wc))
        case first =>
         have H:=HC52.out
         clear HC52
         by_cases c53 : a1_1 < 0
         ·rw [if_pos c53] at H
          have c53b0 : decide (a1_1 < 0) = true:=decide_eq_true c53
          clear c53
          (first | rw [c53b0] |(simp only [i64_w,i32_w];rw [c53b0]) | skip)
          have H':=Aside0.mk H
          clear H
          go_wp2
          repeat(go_quiet (fail);try go_wp2)
          go_meet
          exact⟨_,(true),(by first | rfl |(simp;done) |(simp [*];done)),H',⟨by have:=HJ7.out;have:=HJ33.out;have:=HJ45.out;first | omega | exact Nat.le_refl _⟩,⟨by(with_reducible repeat(first | apply Kd.R_alloc | apply Kd.R_drewN | apply Kd.R_drew));exact HO_7.out⟩,⟨by(with_reducible repeat(first | apply Kd.R_alloc | apply Kd.R_drewN | apply Kd.R_drew));exact HO_10.out⟩,⟨by(with_reducible repeat(first | refine bkN ?_ _ | refine bkD ?_ | refine bkA ?_ _));exact BK317.out⟩,⟨by repeat(first |(with_reducible first | exact HB.out | apply bwA | apply bwN | apply bw1 | refine bwS ?_ GE317.out) | exact HB.out)⟩⟩
         rw [if_neg c53] at H
         have c53b0 : decide (a1_1 < 0) = false:=decide_eq_false c53
         clear c53
         (first | rw [c53b0] |(simp only [i64_w,i32_w];rw [c53b0]) | skip)
         have H':=Aside0.mk H
         clear H
         go_wp2
         repeat(go_quiet (fail);try go_wp2)
         go_meet
         exact⟨_,(decide (a1_1 ≥ t327)),(by first | rfl |(simp;done) |(simp [*];done)),H',⟨by have:=HJ7.out;have:=HJ33.out;have:=HJ45.out;first | omega | exact Nat.le_refl _⟩,⟨by(with_reducible repeat(first | apply Kd.R_alloc | apply Kd.R_drewN | apply Kd.R_drew));exact HO_7.out⟩,⟨by(with_reducible repeat(first | apply Kd.R_alloc | apply Kd.R_drewN | apply Kd.R_drew));exact HO_10.out⟩,⟨by(with_reducible repeat(first | refine bkN ?_ _ | refine bkD ?_ | refine bkA ?_ _));exact BK317.out⟩,⟨by repeat(first |(with_reducible first | exact HB.out | apply bwA | apply bwN | apply bw1 | refine bwS ?_ GE317.out) | exact HB.out)⟩⟩
        case rest =>
         clear HC52
         try clear c1
         try clear c2
         try clear p2
         try clear c3
         try clear c4
         try clear c5
         try clear c6
         try clear c16
         try clear c16b0
         try clear c17
         try clear c18
         try clear c18b0
         try clear c18b1
         try clear c18b2
         try clear c19
         try clear c19b0
         try clear c19b1
         try clear c20
         try clear c20b0
         try clear c20b1
         try clear c21
         try clear c21b0
         try clear c21b1
         try clear c22
         try clear c22b0
         try clear c22b1
         try clear c23
         try clear c23b0
         try clear c23b1
         try clear c35
         try clear c35b0
         try clear c36
         try clear c37
         try clear c37b0
         try clear c37b1
         try clear c37b2
         try clear c38
         try clear c38b0
         try clear c38b1
         try clear c39
         try clear c39b0
         try clear c39b1
         try clear c40
         try clear c40b0
         try clear c40b1
         try clear c48
         try clear c48b0
         try clear c48b1
         try clear c51
         try clear c53
         try clear c53b0
         try clear hcz11_0
         try clear hcz11_1
         try clear hfz11_0
         try clear hfz11_1
         try clear p2
         obtain ⟨kq,x106_51,rfl,HA,HJ51,HO_7,HO_10,BK317,HB⟩:=hcut
         cases kq with
         | zero=>exact absurd HA.out (by simp [w10_TurnsChoices.j3])
         | succ kj51 =>
          have H:=HA.out
          clear HA
          simp only [w10_TurnsChoices.j3] at H
          by_cases c54 : x106_51 = true
          ·subst c54
           have H1 :(if(t321.length : Int) = 0 then(if t322 = 2 then(w10_TurnsChoices.j4 kj51 a0 t318 t325 t326) else(some false)) else(some false)) = some r:=by rw [if_pos rfl] at H;exact H
           clear H
           have H:=H1
           clear H1
           by_cases c55 :(t321.length : Int) = 0
           rotate_left
           ·rw [if_neg c55] at H
            have c55b0 :((t321.length : Int) == 0) = false:=beq_eq_false_iff_ne.mpr c55
            have c55b1 :((t321.length : Int) != 0) = true:=bne_iff_ne.mpr c55
            have c55b2 : ¬ (t321 = []):=fun h_=>c55 (by rw [h_];rfl)
            obtain rfl:=Option.some.inj H
            obtain ⟨Ao59,co59,eo59⟩:=Kd.R_slice HO_10.out
            subst eo59
            go_wp2
            repeat(go_quiet (fail);try go_wp2)
            go_ret
            exact⟨by first | rfl |(simp [errW_none,errW_some] <;> rfl) |(simp [*,errW_none,errW_some] <;> rfl),by repeat(first |(with_reducible first | exact HB.out | apply bwA | apply bwN | apply bw1 | refine bwS ?_ GE317.out) | exact HB.out)⟩
           rw [if_pos c55] at H
           have c55b0 :((t321.length : Int) == 0) = true:=beq_iff_eq.mpr c55
           have c55b1 :((t321.length : Int) != 0) = false:=bne_eq_false_iff_eq.mpr c55
           clear c55
           by_cases c56 : t322 = 2
           rotate_left
           ·rw [if_neg c56] at H
            have c56b0 :(t322 == 2) = false:=beq_eq_false_iff_ne.mpr c56
            have c56b1 :(t322 != 2) = true:=bne_iff_ne.mpr c56
            obtain rfl:=Option.some.inj H
            obtain ⟨Ao58,co58,eo58⟩:=Kd.R_slice HO_10.out
            subst eo58
            go_wp2
            repeat(go_quiet (fail);try go_wp2)
            go_ret
            exact⟨by first | rfl |(simp [errW_none,errW_some] <;> rfl) |(simp [*,errW_none,errW_some] <;> rfl),by repeat(first |(with_reducible first | exact HB.out | apply bwA | apply bwN | apply bw1 | refine bwS ?_ GE317.out) | exact HB.out)⟩
           rw [if_pos c56] at H
           have c56b0 :(t322 == 2) = true:=beq_iff_eq.mpr c56
           have c56b1 :(t322 != 2) = false:=bne_eq_false_iff_eq.mpr c56
           clear c56
           have H':=Aside0.mk H
           clear H
           obtain ⟨Ao57,co57,eo57⟩:=Kd.R_slice HO_10.out
           subst eo57
           go_wp2
           repeat(go_quiet (fail);try go_wp2)
           go_meet
           exact⟨_,H',⟨by have:=HJ7.out;have:=HJ33.out;have:=HJ45.out;have:=HJ51.out;first | omega | exact Nat.le_refl _⟩,⟨by(with_reducible repeat(first | apply Kd.R_alloc | apply Kd.R_drewN | apply Kd.R_drew));exact Kd.R_mono HO_7.out (fun _ hk=>trivial)⟩,⟨by(with_reducible repeat(first | refine bkN ?_ _ | refine bkD ?_ | refine bkA ?_ _));exact BK317.out⟩,⟨by repeat(first |(with_reducible first | exact HB.out | apply bwA | apply bwN | apply bw1 | refine bwS ?_ GE317.out) | exact HB.out)⟩⟩
          replace c54:=Bool.eq_false_iff.mpr c54
          subst c54
          have H1 :((q10_Choice.f kj51 a0 a1_0 a1_1).bind fun t331=>((w10_ints.f kj51 t321 t331).bind fun t334=>(if t334 = true then(if t322 = 0 then(w10_TurnsChoices.j4 kj51 a0 t318 t325 t326) else(some false)) else(some false)))) = some r:=by rw [if_neg (show ¬ (false = true) by decide)] at H;exact H
          clear H
          have H:=H1
          clear H1
          replace H:=Option.bind_eq_some_iff.mp H
          obtain ⟨t331,A600,H⟩:=H
          replace H :((w10_ints.f kj51 t321 t331).bind fun t334=>(if t334 = true then(if t322 = 0 then(w10_TurnsChoices.j4 kj51 a0 t318 t325 t326) else(some false)) else(some false))) = some r:=H
          have A60:=Aside0.mk A600
          clear A600
          replace H:=Option.bind_eq_some_iff.mp H
          obtain ⟨t334,A610,H⟩:=H
          replace H :(if t334 = true then(if t322 = 0 then(w10_TurnsChoices.j4 kj51 a0 t318 t325 t326) else(some false)) else(some false)) = some r:=H
          have A61:=Aside0.mk A610
          clear A610
          by_cases c62 : t334 = true
          rotate_left
          ·replace c62 := Bool.eq_false_iff.mpr c62
           subst c62
           have H1 :(some false) = some r:=by rw [if_neg (show ¬ (false = true) by decide)] at H;exact H
           clear H
           have H:=H1
           clear H1
           obtain rfl:=Option.some.inj H
           go_wp2_with (first |(go_at_call 34;(with_reducible refine(q10_Choice.calls kj51 a0 a1_0 a1_1 t331 _ A60.out).mono ?_);rintro e w70 ⟨v332,rfl,ho0,hb⟩;have n0_:=Aside0.mk (Kd.R_elder' (by(with_reducible repeat(first | apply Kd.R_alloc | apply Kd.R_drewN | apply Kd.R_drew));exact HO_7.out) (Kd.R_base ho0) hb);have n1_:=Aside0.mk (Kd.R_elder' (by(with_reducible repeat(first | apply Kd.R_alloc | apply Kd.R_drewN | apply Kd.R_drew));exact HO_10.out) (Kd.R_base ho0) hb);have n2_:=Aside0.mk (Kd.R_lower (Kd.R_new' (Kd.R_new' ho0 (Kd.R_lt (by(with_reducible repeat(first | apply Kd.R_alloc | apply Kd.R_drewN | apply Kd.R_drew));exact HO_7.out))) (Kd.R_lt (by(with_reducible repeat(first | apply Kd.R_alloc | apply Kd.R_drewN | apply Kd.R_drew));exact HO_10.out))) (bwZ (by repeat(first |(with_reducible first | exact HB.out | apply bwA | apply bwN | apply bw1 | refine bwS ?_ GE317.out) | exact HB.out))));have n3_:=Aside0.mk (bkB (g:=gb317) (o:=.cells #[.int .i64 a1_0,.int .i64 a1_1] 45 (0,0)) (by(with_reducible repeat(first | refine bkN ?_ _ | refine bkD ?_ | refine bkA ?_ _));exact BK317.out) hb);have n4_:=Aside0.mk (bwT (by repeat(first |(with_reducible first | exact HB.out | apply bwA | apply bwN | apply bw1 | refine bwS ?_ GE317.out) | exact HB.out)) hb);clear HO_7;clear HO_10;clear BK317;clear HB;have HO_7:=n0_;have HO_10:=n1_;have HO333:=n2_;have BK317:=n3_;have HB:=n4_;clear n0_ n1_ n2_ n3_ n4_;(try clear hb);(try clear hb2);(try clear hk);(try clear hi);(try clear ho0);obtain ⟨Ao71,co71,eo71⟩:=Kd.R_slice HO_10.out;subst eo71;obtain ⟨Ao72,co72,eo72⟩:=Kd.R_slice HO333.out;subst eo72) |(go_at_call 22;(with_reducible refine(w10_ints.calls kj51 _ _ t321 _ _ t331 false _ ?side1 ?side2 ?side3 ?side4 A61.out).mono ?_);(case side1=>repeat(first | exact(Kd.R_reads' HO_10.out).2.2 |(with_reducible refine Kd.C_alloc ?_ _) |(with_reducible refine Kd.C_drewN ?_ _) |(with_reducible refine Kd.C_drew ?_)));(case side2=>exact(Kd.R_reads' HO_10.out).2.1);(case side3=>repeat(first | exact(Kd.R_reads' HO333.out).2.2 |(with_reducible refine Kd.C_alloc ?_ _) |(with_reducible refine Kd.C_drewN ?_ _) |(with_reducible refine Kd.C_drew ?_)));(case side4=>exact(Kd.R_reads' HO333.out).2.1);rintro e w' ⟨rfl,⟨nd,rfl⟩⟩;(try first | exact⟨rfl,_,World.drewN_drewN _ _ _⟩ | exact⟨rfl,_,Eq.trans (World.drewN_drewN _ _ _) (congrArg (World.drewN _) (Nat.add_assoc _ _ _))⟩)))
           repeat(go_quiet (first |(go_at_call 34;(with_reducible refine(q10_Choice.calls kj51 a0 a1_0 a1_1 t331 _ A60.out).mono ?_);rintro e w70 ⟨v332,rfl,ho0,hb⟩;have n0_:=Aside0.mk (Kd.R_elder' (by(with_reducible repeat(first | apply Kd.R_alloc | apply Kd.R_drewN | apply Kd.R_drew));exact HO_7.out) (Kd.R_base ho0) hb);have n1_:=Aside0.mk (Kd.R_elder' (by(with_reducible repeat(first | apply Kd.R_alloc | apply Kd.R_drewN | apply Kd.R_drew));exact HO_10.out) (Kd.R_base ho0) hb);have n2_:=Aside0.mk (Kd.R_lower (Kd.R_new' (Kd.R_new' ho0 (Kd.R_lt (by(with_reducible repeat(first | apply Kd.R_alloc | apply Kd.R_drewN | apply Kd.R_drew));exact HO_7.out))) (Kd.R_lt (by(with_reducible repeat(first | apply Kd.R_alloc | apply Kd.R_drewN | apply Kd.R_drew));exact HO_10.out))) (bwZ (by repeat(first |(with_reducible first | exact HB.out | apply bwA | apply bwN | apply bw1 | refine bwS ?_ GE317.out) | exact HB.out))));have n3_:=Aside0.mk (bkB (g:=gb317) (o:=.cells #[.int .i64 a1_0,.int .i64 a1_1] 45 (0,0)) (by(with_reducible repeat(first | refine bkN ?_ _ | refine bkD ?_ | refine bkA ?_ _));exact BK317.out) hb);have n4_:=Aside0.mk (bwT (by repeat(first |(with_reducible first | exact HB.out | apply bwA | apply bwN | apply bw1 | refine bwS ?_ GE317.out) | exact HB.out)) hb);clear HO_7;clear HO_10;clear BK317;clear HB;have HO_7:=n0_;have HO_10:=n1_;have HO333:=n2_;have BK317:=n3_;have HB:=n4_;clear n0_ n1_ n2_ n3_ n4_;(try clear hb);(try clear hb2);(try clear hk);(try clear hi);(try clear ho0);obtain ⟨Ao71,co71,eo71⟩:=Kd.R_slice HO_10.out;subst eo71;obtain ⟨Ao72,co72,eo72⟩:=Kd.R_slice HO333.out;subst eo72) |(go_at_call 22;(with_reducible refine(w10_ints.calls kj51 _ _ t321 _ _ t331 false _ ?side1 ?side2 ?side3 ?side4 A61.out).mono ?_);(case side1=>repeat(first | exact(Kd.R_reads' HO_10.out).2.2 |(with_reducible refine Kd.C_alloc ?_ _) |(with_reducible refine Kd.C_drewN ?_ _) |(with_reducible refine Kd.C_drew ?_)));(case side2=>exact(Kd.R_reads' HO_10.out).2.1);(case side3=>repeat(first | exact(Kd.R_reads' HO333.out).2.2 |(with_reducible refine Kd.C_alloc ?_ _) |(with_reducible refine Kd.C_drewN ?_ _) |(with_reducible refine Kd.C_drew ?_)));(case side4=>exact(Kd.R_reads' HO333.out).2.1);rintro e w' ⟨rfl,⟨nd,rfl⟩⟩;(try first | exact⟨rfl,_,World.drewN_drewN _ _ _⟩ | exact⟨rfl,_,Eq.trans (World.drewN_drewN _ _ _) (congrArg (World.drewN _) (Nat.add_assoc _ _ _))⟩)));try go_wp2_with (first |(go_at_call 34;(with_reducible refine(q10_Choice.calls kj51 a0 a1_0 a1_1 t331 _ A60.out).mono ?_);rintro e w70 ⟨v332,rfl,ho0,hb⟩;have n0_:=Aside0.mk (Kd.R_elder' (by(with_reducible repeat(first | apply Kd.R_alloc | apply Kd.R_drewN | apply Kd.R_drew));exact HO_7.out) (Kd.R_base ho0) hb);have n1_:=Aside0.mk (Kd.R_elder' (by(with_reducible repeat(first | apply Kd.R_alloc | apply Kd.R_drewN | apply Kd.R_drew));exact HO_10.out) (Kd.R_base ho0) hb);have n2_:=Aside0.mk (Kd.R_lower (Kd.R_new' (Kd.R_new' ho0 (Kd.R_lt (by(with_reducible repeat(first | apply Kd.R_alloc | apply Kd.R_drewN | apply Kd.R_drew));exact HO_7.out))) (Kd.R_lt (by(with_reducible repeat(first | apply Kd.R_alloc | apply Kd.R_drewN | apply Kd.R_drew));exact HO_10.out))) (bwZ (by repeat(first |(with_reducible first | exact HB.out | apply bwA | apply bwN | apply bw1 | refine bwS ?_ GE317.out) | exact HB.out))));have n3_:=Aside0.mk (bkB (g:=gb317) (o:=.cells #[.int .i64 a1_0,.int .i64 a1_1] 45 (0,0)) (by(with_reducible repeat(first | refine bkN ?_ _ | refine bkD ?_ | refine bkA ?_ _));exact BK317.out) hb);have n4_:=Aside0.mk (bwT (by repeat(first |(with_reducible first | exact HB.out | apply bwA | apply bwN | apply bw1 | refine bwS ?_ GE317.out) | exact HB.out)) hb);clear HO_7;clear HO_10;clear BK317;clear HB;have HO_7:=n0_;have HO_10:=n1_;have HO333:=n2_;have BK317:=n3_;have HB:=n4_;clear n0_ n1_ n2_ n3_ n4_;(try clear hb);(try clear hb2);(try clear hk);(try clear hi);(try clear ho0);obtain ⟨Ao71,co71,eo71⟩:=Kd.R_slice HO_10.out;subst eo71;obtain ⟨Ao72,co72,eo72⟩:=Kd.R_slice HO333.out;subst eo72) |(go_at_call 22;(with_reducible refine(w10_ints.calls kj51 _ _ t321 _ _ t331 false _ ?side1 ?side2 ?side3 ?side4 A61.out).mono ?_);(case side1=>repeat(first | exact(Kd.R_reads' HO_10.out).2.2 |(with_reducible refine Kd.C_alloc ?_ _) |(with_reducible refine Kd.C_drewN ?_ _) |(with_reducible refine Kd.C_drew ?_)));(case side2=>exact(Kd.R_reads' HO_10.out).2.1);(case side3=>repeat(first | exact(Kd.R_reads' HO333.out).2.2 |(with_reducible refine Kd.C_alloc ?_ _) |(with_reducible refine Kd.C_drewN ?_ _) |(with_reducible refine Kd.C_drew ?_)));(case side4=>exact(Kd.R_reads' HO333.out).2.1);rintro e w' ⟨rfl,⟨nd,rfl⟩⟩;(try first | exact⟨rfl,_,World.drewN_drewN _ _ _⟩ | exact⟨rfl,_,Eq.trans (World.drewN_drewN _ _ _) (congrArg (World.drewN _) (Nat.add_assoc _ _ _))⟩))))
           go_ret
           exact⟨by first | rfl |(simp [errW_none,errW_some] <;> rfl) |(simp [*,errW_none,errW_some] <;> rfl),by repeat(first |(with_reducible first | exact HB.out | apply bwA | apply bwN | apply bw1 | refine bwS ?_ GE317.out) | exact HB.out)⟩
          subst c62
          have H1 :(if t322 = 0 then(w10_TurnsChoices.j4 kj51 a0 t318 t325 t326) else(some false)) = some r:=by rw [if_pos rfl] at H;exact H
          clear H
          have H:=H1
          clear H1
          by_cases c63 : t322 = 0
          rotate_left
          ·rw [if_neg c63] at H
           have c63b0 :(t322 == 0) = false:=beq_eq_false_iff_ne.mpr c63
           have c63b1 :(t322 != 0) = true:=bne_iff_ne.mpr c63
           obtain rfl:=Option.some.inj H
           go_wp2_with (first |(go_at_call 34;(with_reducible refine(q10_Choice.calls kj51 a0 a1_0 a1_1 t331 _ A60.out).mono ?_);rintro e w67 ⟨v332,rfl,ho0,hb⟩;have n0_:=Aside0.mk (Kd.R_elder' (by(with_reducible repeat(first | apply Kd.R_alloc | apply Kd.R_drewN | apply Kd.R_drew));exact HO_7.out) (Kd.R_base ho0) hb);have n1_:=Aside0.mk (Kd.R_elder' (by(with_reducible repeat(first | apply Kd.R_alloc | apply Kd.R_drewN | apply Kd.R_drew));exact HO_10.out) (Kd.R_base ho0) hb);have n2_:=Aside0.mk (Kd.R_lower (Kd.R_new' (Kd.R_new' ho0 (Kd.R_lt (by(with_reducible repeat(first | apply Kd.R_alloc | apply Kd.R_drewN | apply Kd.R_drew));exact HO_7.out))) (Kd.R_lt (by(with_reducible repeat(first | apply Kd.R_alloc | apply Kd.R_drewN | apply Kd.R_drew));exact HO_10.out))) (bwZ (by repeat(first |(with_reducible first | exact HB.out | apply bwA | apply bwN | apply bw1 | refine bwS ?_ GE317.out) | exact HB.out))));have n3_:=Aside0.mk (bkB (g:=gb317) (o:=.cells #[.int .i64 a1_0,.int .i64 a1_1] 45 (0,0)) (by(with_reducible repeat(first | refine bkN ?_ _ | refine bkD ?_ | refine bkA ?_ _));exact BK317.out) hb);have n4_:=Aside0.mk (bwT (by repeat(first |(with_reducible first | exact HB.out | apply bwA | apply bwN | apply bw1 | refine bwS ?_ GE317.out) | exact HB.out)) hb);clear HO_7;clear HO_10;clear BK317;clear HB;have HO_7:=n0_;have HO_10:=n1_;have HO333:=n2_;have BK317:=n3_;have HB:=n4_;clear n0_ n1_ n2_ n3_ n4_;(try clear hb);(try clear hb2);(try clear hk);(try clear hi);(try clear ho0);obtain ⟨Ao68,co68,eo68⟩:=Kd.R_slice HO_10.out;subst eo68;obtain ⟨Ao69,co69,eo69⟩:=Kd.R_slice HO333.out;subst eo69) |(go_at_call 22;(with_reducible refine(w10_ints.calls kj51 _ _ t321 _ _ t331 true _ ?side1 ?side2 ?side3 ?side4 A61.out).mono ?_);(case side1=>repeat(first | exact(Kd.R_reads' HO_10.out).2.2 |(with_reducible refine Kd.C_alloc ?_ _) |(with_reducible refine Kd.C_drewN ?_ _) |(with_reducible refine Kd.C_drew ?_)));(case side2=>exact(Kd.R_reads' HO_10.out).2.1);(case side3=>repeat(first | exact(Kd.R_reads' HO333.out).2.2 |(with_reducible refine Kd.C_alloc ?_ _) |(with_reducible refine Kd.C_drewN ?_ _) |(with_reducible refine Kd.C_drew ?_)));(case side4=>exact(Kd.R_reads' HO333.out).2.1);rintro e w' ⟨rfl,⟨nd,rfl⟩⟩;(try first | exact⟨rfl,_,World.drewN_drewN _ _ _⟩ | exact⟨rfl,_,Eq.trans (World.drewN_drewN _ _ _) (congrArg (World.drewN _) (Nat.add_assoc _ _ _))⟩)))
           repeat(go_quiet (first |(go_at_call 34;(with_reducible refine(q10_Choice.calls kj51 a0 a1_0 a1_1 t331 _ A60.out).mono ?_);rintro e w67 ⟨v332,rfl,ho0,hb⟩;have n0_:=Aside0.mk (Kd.R_elder' (by(with_reducible repeat(first | apply Kd.R_alloc | apply Kd.R_drewN | apply Kd.R_drew));exact HO_7.out) (Kd.R_base ho0) hb);have n1_:=Aside0.mk (Kd.R_elder' (by(with_reducible repeat(first | apply Kd.R_alloc | apply Kd.R_drewN | apply Kd.R_drew));exact HO_10.out) (Kd.R_base ho0) hb);have n2_:=Aside0.mk (Kd.R_lower (Kd.R_new' (Kd.R_new' ho0 (Kd.R_lt (by(with_reducible repeat(first | apply Kd.R_alloc | apply Kd.R_drewN | apply Kd.R_drew));exact HO_7.out))) (Kd.R_lt (by(with_reducible repeat(first | apply Kd.R_alloc | apply Kd.R_drewN | apply Kd.R_drew));exact HO_10.out))) (bwZ (by repeat(first |(with_reducible first | exact HB.out | apply bwA | apply bwN | apply bw1 | refine bwS ?_ GE317.out) | exact HB.out))));have n3_:=Aside0.mk (bkB (g:=gb317) (o:=.cells #[.int .i64 a1_0,.int .i64 a1_1] 45 (0,0)) (by(with_reducible repeat(first | refine bkN ?_ _ | refine bkD ?_ | refine bkA ?_ _));exact BK317.out) hb);have n4_:=Aside0.mk (bwT (by repeat(first |(with_reducible first | exact HB.out | apply bwA | apply bwN | apply bw1 | refine bwS ?_ GE317.out) | exact HB.out)) hb);clear HO_7;clear HO_10;clear BK317;clear HB;have HO_7:=n0_;have HO_10:=n1_;have HO333:=n2_;have BK317:=n3_;have HB:=n4_;clear n0_ n1_ n2_ n3_ n4_;(try clear hb);(try clear hb2);(try clear hk);(try clear hi);(try clear ho0);obtain ⟨Ao68,co68,eo68⟩:=Kd.R_slice HO_10.out;subst eo68;obtain ⟨Ao69,co69,eo69⟩:=Kd.R_slice HO333.out;subst eo69) |(go_at_call 22;(with_reducible refine(w10_ints.calls kj51 _ _ t321 _ _ t331 true _ ?side1 ?side2 ?side3 ?side4 A61.out).mono ?_);(case side1=>repeat(first | exact(Kd.R_reads' HO_10.out).2.2 |(with_reducible refine Kd.C_alloc ?_ _) |(with_reducible refine Kd.C_drewN ?_ _) |(with_reducible refine Kd.C_drew ?_)));(case side2=>exact(Kd.R_reads' HO_10.out).2.1);(case side3=>repeat(first | exact(Kd.R_reads' HO333.out).2.2 |(with_reducible refine Kd.C_alloc ?_ _) |(with_reducible refine Kd.C_drewN ?_ _) |(with_reducible refine Kd.C_drew ?_)));(case side4=>exact(Kd.R_reads' HO333.out).2.1);rintro e w' ⟨rfl,⟨nd,rfl⟩⟩;(try first | exact⟨rfl,_,World.drewN_drewN _ _ _⟩ | exact⟨rfl,_,Eq.trans (World.drewN_drewN _ _ _) (congrArg (World.drewN _) (Nat.add_assoc _ _ _))⟩)));try go_wp2_with (first |(go_at_call 34;(with_reducible refine(q10_Choice.calls kj51 a0 a1_0 a1_1 t331 _ A60.out).mono ?_);rintro e w67 ⟨v332,rfl,ho0,hb⟩;have n0_:=Aside0.mk (Kd.R_elder' (by(with_reducible repeat(first | apply Kd.R_alloc | apply Kd.R_drewN | apply Kd.R_drew));exact HO_7.out) (Kd.R_base ho0) hb);have n1_:=Aside0.mk (Kd.R_elder' (by(with_reducible repeat(first | apply Kd.R_alloc | apply Kd.R_drewN | apply Kd.R_drew));exact HO_10.out) (Kd.R_base ho0) hb);have n2_:=Aside0.mk (Kd.R_lower (Kd.R_new' (Kd.R_new' ho0 (Kd.R_lt (by(with_reducible repeat(first | apply Kd.R_alloc | apply Kd.R_drewN | apply Kd.R_drew));exact HO_7.out))) (Kd.R_lt (by(with_reducible repeat(first | apply Kd.R_alloc | apply Kd.R_drewN | apply Kd.R_drew));exact HO_10.out))) (bwZ (by repeat(first |(with_reducible first | exact HB.out | apply bwA | apply bwN | apply bw1 | refine bwS ?_ GE317.out) | exact HB.out))));have n3_:=Aside0.mk (bkB (g:=gb317) (o:=.cells #[.int .i64 a1_0,.int .i64 a1_1] 45 (0,0)) (by(with_reducible repeat(first | refine bkN ?_ _ | refine bkD ?_ | refine bkA ?_ _));exact BK317.out) hb);have n4_:=Aside0.mk (bwT (by repeat(first |(with_reducible first | exact HB.out | apply bwA | apply bwN | apply bw1 | refine bwS ?_ GE317.out) | exact HB.out)) hb);clear HO_7;clear HO_10;clear BK317;clear HB;have HO_7:=n0_;have HO_10:=n1_;have HO333:=n2_;have BK317:=n3_;have HB:=n4_;clear n0_ n1_ n2_ n3_ n4_;(try clear hb);(try clear hb2);(try clear hk);(try clear hi);(try clear ho0);obtain ⟨Ao68,co68,eo68⟩:=Kd.R_slice HO_10.out;subst eo68;obtain ⟨Ao69,co69,eo69⟩:=Kd.R_slice HO333.out;subst eo69) |(go_at_call 22;(with_reducible refine(w10_ints.calls kj51 _ _ t321 _ _ t331 true _ ?side1 ?side2 ?side3 ?side4 A61.out).mono ?_);(case side1=>repeat(first | exact(Kd.R_reads' HO_10.out).2.2 |(with_reducible refine Kd.C_alloc ?_ _) |(with_reducible refine Kd.C_drewN ?_ _) |(with_reducible refine Kd.C_drew ?_)));(case side2=>exact(Kd.R_reads' HO_10.out).2.1);(case side3=>repeat(first | exact(Kd.R_reads' HO333.out).2.2 |(with_reducible refine Kd.C_alloc ?_ _) |(with_reducible refine Kd.C_drewN ?_ _) |(with_reducible refine Kd.C_drew ?_)));(case side4=>exact(Kd.R_reads' HO333.out).2.1);rintro e w' ⟨rfl,⟨nd,rfl⟩⟩;(try first | exact⟨rfl,_,World.drewN_drewN _ _ _⟩ | exact⟨rfl,_,Eq.trans (World.drewN_drewN _ _ _) (congrArg (World.drewN _) (Nat.add_assoc _ _ _))⟩))))
           go_ret
           exact⟨by first | rfl |(simp [errW_none,errW_some] <;> rfl) |(simp [*,errW_none,errW_some] <;> rfl),by repeat(first |(with_reducible first | exact HB.out | apply bwA | apply bwN | apply bw1 | refine bwS ?_ GE317.out) | exact HB.out)⟩
          rw [if_pos c63] at H
          have c63b0 :(t322 == 0) = true:=beq_iff_eq.mpr c63
          have c63b1 :(t322 != 0) = false:=bne_eq_false_iff_eq.mpr c63
          clear c63
          have H':=Aside0.mk H
          clear H
          go_wp2_with (first |(go_at_call 34;(with_reducible refine(q10_Choice.calls kj51 a0 a1_0 a1_1 t331 _ A60.out).mono ?_);rintro e w64 ⟨v332,rfl,ho0,hb⟩;have n0_:=Aside0.mk (Kd.R_elder' (by(with_reducible repeat(first | apply Kd.R_alloc | apply Kd.R_drewN | apply Kd.R_drew));exact HO_7.out) (Kd.R_base ho0) hb);have n1_:=Aside0.mk (Kd.R_elder' (by(with_reducible repeat(first | apply Kd.R_alloc | apply Kd.R_drewN | apply Kd.R_drew));exact HO_10.out) (Kd.R_base ho0) hb);have n2_:=Aside0.mk (Kd.R_lower (Kd.R_new' (Kd.R_new' ho0 (Kd.R_lt (by(with_reducible repeat(first | apply Kd.R_alloc | apply Kd.R_drewN | apply Kd.R_drew));exact HO_7.out))) (Kd.R_lt (by(with_reducible repeat(first | apply Kd.R_alloc | apply Kd.R_drewN | apply Kd.R_drew));exact HO_10.out))) (bwZ (by repeat(first |(with_reducible first | exact HB.out | apply bwA | apply bwN | apply bw1 | refine bwS ?_ GE317.out) | exact HB.out))));have n3_:=Aside0.mk (bkB (g:=gb317) (o:=.cells #[.int .i64 a1_0,.int .i64 a1_1] 45 (0,0)) (by(with_reducible repeat(first | refine bkN ?_ _ | refine bkD ?_ | refine bkA ?_ _));exact BK317.out) hb);have n4_:=Aside0.mk (bwT (by repeat(first |(with_reducible first | exact HB.out | apply bwA | apply bwN | apply bw1 | refine bwS ?_ GE317.out) | exact HB.out)) hb);clear HO_7;clear HO_10;clear BK317;clear HB;have HO_7:=n0_;have HO_10:=n1_;have HO333:=n2_;have BK317:=n3_;have HB:=n4_;clear n0_ n1_ n2_ n3_ n4_;(try clear hb);(try clear hb2);(try clear hk);(try clear hi);(try clear ho0);obtain ⟨Ao65,co65,eo65⟩:=Kd.R_slice HO_10.out;subst eo65;obtain ⟨Ao66,co66,eo66⟩:=Kd.R_slice HO333.out;subst eo66) |(go_at_call 22;(with_reducible refine(w10_ints.calls kj51 _ _ t321 _ _ t331 true _ ?side1 ?side2 ?side3 ?side4 A61.out).mono ?_);(case side1=>repeat(first | exact(Kd.R_reads' HO_10.out).2.2 |(with_reducible refine Kd.C_alloc ?_ _) |(with_reducible refine Kd.C_drewN ?_ _) |(with_reducible refine Kd.C_drew ?_)));(case side2=>exact(Kd.R_reads' HO_10.out).2.1);(case side3=>repeat(first | exact(Kd.R_reads' HO333.out).2.2 |(with_reducible refine Kd.C_alloc ?_ _) |(with_reducible refine Kd.C_drewN ?_ _) |(with_reducible refine Kd.C_drew ?_)));(case side4=>exact(Kd.R_reads' HO333.out).2.1);rintro e w' ⟨rfl,⟨nd,rfl⟩⟩;(try first | exact⟨rfl,_,World.drewN_drewN _ _ _⟩ | exact⟨rfl,_,Eq.trans (World.drewN_drewN _ _ _) (congrArg (World.drewN _) (Nat.add_assoc _ _ _))⟩)))
          repeat(go_quiet (first |(go_at_call 34;(with_reducible refine(q10_Choice.calls kj51 a0 a1_0 a1_1 t331 _ A60.out).mono ?_);rintro e w64 ⟨v332,rfl,ho0,hb⟩;have n0_:=Aside0.mk (Kd.R_elder' (by(with_reducible repeat(first | apply Kd.R_alloc | apply Kd.R_drewN | apply Kd.R_drew));exact HO_7.out) (Kd.R_base ho0) hb);have n1_:=Aside0.mk (Kd.R_elder' (by(with_reducible repeat(first | apply Kd.R_alloc | apply Kd.R_drewN | apply Kd.R_drew));exact HO_10.out) (Kd.R_base ho0) hb);have n2_:=Aside0.mk (Kd.R_lower (Kd.R_new' (Kd.R_new' ho0 (Kd.R_lt (by(with_reducible repeat(first | apply Kd.R_alloc | apply Kd.R_drewN | apply Kd.R_drew));exact HO_7.out))) (Kd.R_lt (by(with_reducible repeat(first | apply Kd.R_alloc | apply Kd.R_drewN | apply Kd.R_drew));exact HO_10.out))) (bwZ (by repeat(first |(with_reducible first | exact HB.out | apply bwA | apply bwN | apply bw1 | refine bwS ?_ GE317.out) | exact HB.out))));have n3_:=Aside0.mk (bkB (g:=gb317) (o:=.cells #[.int .i64 a1_0,.int .i64 a1_1] 45 (0,0)) (by(with_reducible repeat(first | refine bkN ?_ _ | refine bkD ?_ | refine bkA ?_ _));exact BK317.out) hb);have n4_:=Aside0.mk (bwT (by repeat(first |(with_reducible first | exact HB.out | apply bwA | apply bwN | apply bw1 | refine bwS ?_ GE317.out) | exact HB.out)) hb);clear HO_7;clear HO_10;clear BK317;clear HB;have HO_7:=n0_;have HO_10:=n1_;have HO333:=n2_;have BK317:=n3_;have HB:=n4_;clear n0_ n1_ n2_ n3_ n4_;(try clear hb);(try clear hb2);(try clear hk);(try clear hi);(try clear ho0);obtain ⟨Ao65,co65,eo65⟩:=Kd.R_slice HO_10.out;subst eo65;obtain ⟨Ao66,co66,eo66⟩:=Kd.R_slice HO333.out;subst eo66) |(go_at_call 22;(with_reducible refine(w10_ints.calls kj51 _ _ t321 _ _ t331 true _ ?side1 ?side2 ?side3 ?side4 A61.out).mono ?_);(case side1=>repeat(first | exact(Kd.R_reads' HO_10.out).2.2 |(with_reducible refine Kd.C_alloc ?_ _) |(with_reducible refine Kd.C_drewN ?_ _) |(with_reducible refine Kd.C_drew ?_)));(case side2=>exact(Kd.R_reads' HO_10.out).2.1);(case side3=>repeat(first | exact(Kd.R_reads' HO333.out).2.2 |(with_reducible refine Kd.C_alloc ?_ _) |(with_reducible refine Kd.C_drewN ?_ _) |(with_reducible refine Kd.C_drew ?_)));(case side4=>exact(Kd.R_reads' HO333.out).2.1);rintro e w' ⟨rfl,⟨nd,rfl⟩⟩;(try first | exact⟨rfl,_,World.drewN_drewN _ _ _⟩ | exact⟨rfl,_,Eq.trans (World.drewN_drewN _ _ _) (congrArg (World.drewN _) (Nat.add_assoc _ _ _))⟩)));try go_wp2_with (first |(go_at_call 34;(with_reducible refine(q10_Choice.calls kj51 a0 a1_0 a1_1 t331 _ A60.out).mono ?_);rintro e w64 ⟨v332,rfl,ho0,hb⟩;have n0_:=Aside0.mk (Kd.R_elder' (by(with_reducible repeat(first | apply Kd.R_alloc | apply Kd.R_drewN | apply Kd.R_drew));exact HO_7.out) (Kd.R_base ho0) hb);have n1_:=Aside0.mk (Kd.R_elder' (by(with_reducible repeat(first | apply Kd.R_alloc | apply Kd.R_drewN | apply Kd.R_drew));exact HO_10.out) (Kd.R_base ho0) hb);have n2_:=Aside0.mk (Kd.R_lower (Kd.R_new' (Kd.R_new' ho0 (Kd.R_lt (by(with_reducible repeat(first | apply Kd.R_alloc | apply Kd.R_drewN | apply Kd.R_drew));exact HO_7.out))) (Kd.R_lt (by(with_reducible repeat(first | apply Kd.R_alloc | apply Kd.R_drewN | apply Kd.R_drew));exact HO_10.out))) (bwZ (by repeat(first |(with_reducible first | exact HB.out | apply bwA | apply bwN | apply bw1 | refine bwS ?_ GE317.out) | exact HB.out))));have n3_:=Aside0.mk (bkB (g:=gb317) (o:=.cells #[.int .i64 a1_0,.int .i64 a1_1] 45 (0,0)) (by(with_reducible repeat(first | refine bkN ?_ _ | refine bkD ?_ | refine bkA ?_ _));exact BK317.out) hb);have n4_:=Aside0.mk (bwT (by repeat(first |(with_reducible first | exact HB.out | apply bwA | apply bwN | apply bw1 | refine bwS ?_ GE317.out) | exact HB.out)) hb);clear HO_7;clear HO_10;clear BK317;clear HB;have HO_7:=n0_;have HO_10:=n1_;have HO333:=n2_;have BK317:=n3_;have HB:=n4_;clear n0_ n1_ n2_ n3_ n4_;(try clear hb);(try clear hb2);(try clear hk);(try clear hi);(try clear ho0);obtain ⟨Ao65,co65,eo65⟩:=Kd.R_slice HO_10.out;subst eo65;obtain ⟨Ao66,co66,eo66⟩:=Kd.R_slice HO333.out;subst eo66) |(go_at_call 22;(with_reducible refine(w10_ints.calls kj51 _ _ t321 _ _ t331 true _ ?side1 ?side2 ?side3 ?side4 A61.out).mono ?_);(case side1=>repeat(first | exact(Kd.R_reads' HO_10.out).2.2 |(with_reducible refine Kd.C_alloc ?_ _) |(with_reducible refine Kd.C_drewN ?_ _) |(with_reducible refine Kd.C_drew ?_)));(case side2=>exact(Kd.R_reads' HO_10.out).2.1);(case side3=>repeat(first | exact(Kd.R_reads' HO333.out).2.2 |(with_reducible refine Kd.C_alloc ?_ _) |(with_reducible refine Kd.C_drewN ?_ _) |(with_reducible refine Kd.C_drew ?_)));(case side4=>exact(Kd.R_reads' HO333.out).2.1);rintro e w' ⟨rfl,⟨nd,rfl⟩⟩;(try first | exact⟨rfl,_,World.drewN_drewN _ _ _⟩ | exact⟨rfl,_,Eq.trans (World.drewN_drewN _ _ _) (congrArg (World.drewN _) (Nat.add_assoc _ _ _))⟩))))
          go_meet
          exact⟨_,H',⟨by have:=HJ7.out;have:=HJ33.out;have:=HJ45.out;have:=HJ51.out;first | omega | exact Nat.le_refl _⟩,⟨by(with_reducible repeat(first | apply Kd.R_alloc | apply Kd.R_drewN | apply Kd.R_drew));exact Kd.R_mono HO_7.out (fun _ hk=>trivial)⟩,⟨by(with_reducible repeat(first | refine bkN ?_ _ | refine bkD ?_ | refine bkA ?_ _));exact BK317.out⟩,⟨by repeat(first |(with_reducible first | exact HB.out | apply bwA | apply bwN | apply bw1 | refine bwS ?_ GE317.out) | exact HB.out)⟩⟩
   case rest =>
    clear HC33
    try clear c1
    try clear c2
    try clear p2
    try clear c3
    try clear c4
    try clear c5
    try clear c6
    try clear c16
    try clear c16b0
    try clear c17
    try clear c18
    try clear c18b0
    try clear c18b1
    try clear c18b2
    try clear c19
    try clear c19b0
    try clear c19b1
    try clear c20
    try clear c20b0
    try clear c20b1
    try clear c21
    try clear c21b0
    try clear c21b1
    try clear c22
    try clear c22b0
    try clear c22b1
    try clear c23
    try clear c23b0
    try clear c23b1
    try clear c35
    try clear c35b0
    try clear c36
    try clear c37
    try clear c37b0
    try clear c37b1
    try clear c37b2
    try clear c38
    try clear c38b0
    try clear c38b1
    try clear c39
    try clear c39b0
    try clear c39b1
    try clear c40
    try clear c40b0
    try clear c40b1
    try clear c48
    try clear c48b0
    try clear c48b1
    try clear c51
    try clear c53
    try clear c53b0
    try clear c54
    try clear c55
    try clear c55b0
    try clear c55b1
    try clear c55b2
    try clear c56
    try clear c56b0
    try clear c56b1
    try clear c62
    try clear c63
    try clear c63b0
    try clear c63b1
    try clear hcz11_0
    try clear hcz11_1
    try clear hfz11_0
    try clear hfz11_1
    try clear p2
    obtain ⟨kq,HA,HJ32,HO_7,BK317,HB⟩:=hcut
    cases kq with
    | zero=>exact absurd HA.out (by simp [w10_TurnsChoices.j4])
    | succ kj32 =>
     have H:=HA.out
     clear HA
     simp only [w10_TurnsChoices.j4] at H
     replace H:=Option.bind_eq_some_iff.mp H
     obtain ⟨t335,A730,H⟩:=H
     replace H :(if t335 = true then((q10_ChoiceAt.f kj32 a0 t318).bind fun t336=>(if t325 = t336 then(if t326 = 0 then((w10_awake.f kj32).bind fun t337=>(some t337)) else(some false)) else(some false))) else(if t325 = 0 then(if t326 = 2 then((w10_awake.f kj32).bind fun t338=>(some t338)) else(some false)) else(some false))) = some r:=H
     have A73:=Aside0.mk A730
     clear A730
     by_cases c74 : t335 = true
     rotate_left
     ·replace c74 := Bool.eq_false_iff.mpr c74
      subst c74
      have H1 :(if t325 = 0 then(if t326 = 2 then((w10_awake.f kj32).bind fun t338=>(some t338)) else(some false)) else(some false)) = some r:=by rw [if_neg (show ¬ (false = true) by decide)] at H;exact H
      clear H
      have H:=H1
      clear H1
      by_cases c83 : t325 = 0
      rotate_left
      ·rw [if_neg c83] at H
       have c83b0 :(t325 == 0) = false:=beq_eq_false_iff_ne.mpr c83
       have c83b1 :(t325 != 0) = true:=bne_iff_ne.mpr c83
       obtain rfl:=Option.some.inj H
       go_wp2_with (first |(go_at_call 35;(with_reducible refine(q10_Sets.calls kj32 a0 _ _ t318 false _ ?side1 ?side2 A73.out).mono ?_);(case side1=>repeat(first | exact(Kd.R_reads' HO_7.out).2.2 |(with_reducible refine Kd.C_alloc ?_ _) |(with_reducible refine Kd.C_drewN ?_ _) |(with_reducible refine Kd.C_drew ?_)));(case side2=>exact(Kd.R_reads' HO_7.out).2.1);rintro e w' ⟨rfl,⟨nd,rfl⟩⟩;(try first | exact⟨rfl,_,World.drewN_drewN _ _ _⟩ | exact⟨rfl,_,Eq.trans (World.drewN_drewN _ _ _) (congrArg (World.drewN _) (Nat.add_assoc _ _ _))⟩)))
       repeat(go_quiet (first |(go_at_call 35;(with_reducible refine(q10_Sets.calls kj32 a0 _ _ t318 false _ ?side1 ?side2 A73.out).mono ?_);(case side1=>repeat(first | exact(Kd.R_reads' HO_7.out).2.2 |(with_reducible refine Kd.C_alloc ?_ _) |(with_reducible refine Kd.C_drewN ?_ _) |(with_reducible refine Kd.C_drew ?_)));(case side2=>exact(Kd.R_reads' HO_7.out).2.1);rintro e w' ⟨rfl,⟨nd,rfl⟩⟩;(try first | exact⟨rfl,_,World.drewN_drewN _ _ _⟩ | exact⟨rfl,_,Eq.trans (World.drewN_drewN _ _ _) (congrArg (World.drewN _) (Nat.add_assoc _ _ _))⟩)));try go_wp2_with (first |(go_at_call 35;(with_reducible refine(q10_Sets.calls kj32 a0 _ _ t318 false _ ?side1 ?side2 A73.out).mono ?_);(case side1=>repeat(first | exact(Kd.R_reads' HO_7.out).2.2 |(with_reducible refine Kd.C_alloc ?_ _) |(with_reducible refine Kd.C_drewN ?_ _) |(with_reducible refine Kd.C_drew ?_)));(case side2=>exact(Kd.R_reads' HO_7.out).2.1);rintro e w' ⟨rfl,⟨nd,rfl⟩⟩;(try first | exact⟨rfl,_,World.drewN_drewN _ _ _⟩ | exact⟨rfl,_,Eq.trans (World.drewN_drewN _ _ _) (congrArg (World.drewN _) (Nat.add_assoc _ _ _))⟩))))
       go_ret
       exact⟨by first | rfl |(simp [errW_none,errW_some] <;> rfl) |(simp [*,errW_none,errW_some] <;> rfl),by repeat(first |(with_reducible first | exact HB.out | apply bwA | apply bwN | apply bw1 | refine bwS ?_ GE317.out) | exact HB.out)⟩
      rw [if_pos c83] at H
      have c83b0 :(t325 == 0) = true:=beq_iff_eq.mpr c83
      have c83b1 :(t325 != 0) = false:=bne_eq_false_iff_eq.mpr c83
      clear c83
      by_cases c84 : t326 = 2
      rotate_left
      ·rw [if_neg c84] at H
       have c84b0 :(t326 == 2) = false:=beq_eq_false_iff_ne.mpr c84
       have c84b1 :(t326 != 2) = true:=bne_iff_ne.mpr c84
       obtain rfl:=Option.some.inj H
       go_wp2_with (first |(go_at_call 35;(with_reducible refine(q10_Sets.calls kj32 a0 _ _ t318 false _ ?side1 ?side2 A73.out).mono ?_);(case side1=>repeat(first | exact(Kd.R_reads' HO_7.out).2.2 |(with_reducible refine Kd.C_alloc ?_ _) |(with_reducible refine Kd.C_drewN ?_ _) |(with_reducible refine Kd.C_drew ?_)));(case side2=>exact(Kd.R_reads' HO_7.out).2.1);rintro e w' ⟨rfl,⟨nd,rfl⟩⟩;(try first | exact⟨rfl,_,World.drewN_drewN _ _ _⟩ | exact⟨rfl,_,Eq.trans (World.drewN_drewN _ _ _) (congrArg (World.drewN _) (Nat.add_assoc _ _ _))⟩)))
       repeat(go_quiet (first |(go_at_call 35;(with_reducible refine(q10_Sets.calls kj32 a0 _ _ t318 false _ ?side1 ?side2 A73.out).mono ?_);(case side1=>repeat(first | exact(Kd.R_reads' HO_7.out).2.2 |(with_reducible refine Kd.C_alloc ?_ _) |(with_reducible refine Kd.C_drewN ?_ _) |(with_reducible refine Kd.C_drew ?_)));(case side2=>exact(Kd.R_reads' HO_7.out).2.1);rintro e w' ⟨rfl,⟨nd,rfl⟩⟩;(try first | exact⟨rfl,_,World.drewN_drewN _ _ _⟩ | exact⟨rfl,_,Eq.trans (World.drewN_drewN _ _ _) (congrArg (World.drewN _) (Nat.add_assoc _ _ _))⟩)));try go_wp2_with (first |(go_at_call 35;(with_reducible refine(q10_Sets.calls kj32 a0 _ _ t318 false _ ?side1 ?side2 A73.out).mono ?_);(case side1=>repeat(first | exact(Kd.R_reads' HO_7.out).2.2 |(with_reducible refine Kd.C_alloc ?_ _) |(with_reducible refine Kd.C_drewN ?_ _) |(with_reducible refine Kd.C_drew ?_)));(case side2=>exact(Kd.R_reads' HO_7.out).2.1);rintro e w' ⟨rfl,⟨nd,rfl⟩⟩;(try first | exact⟨rfl,_,World.drewN_drewN _ _ _⟩ | exact⟨rfl,_,Eq.trans (World.drewN_drewN _ _ _) (congrArg (World.drewN _) (Nat.add_assoc _ _ _))⟩))))
       go_ret
       exact⟨by first | rfl |(simp [errW_none,errW_some] <;> rfl) |(simp [*,errW_none,errW_some] <;> rfl),by repeat(first |(with_reducible first | exact HB.out | apply bwA | apply bwN | apply bw1 | refine bwS ?_ GE317.out) | exact HB.out)⟩
      rw [if_pos c84] at H
      have c84b0 :(t326 == 2) = true:=beq_iff_eq.mpr c84
      have c84b1 :(t326 != 2) = false:=bne_eq_false_iff_eq.mpr c84
      clear c84
      replace H:=Option.bind_eq_some_iff.mp H
      obtain ⟨t338,A850,H⟩:=H
      replace H :(some t338) = some r:=H
      have A85:=Aside0.mk A850
      clear A850
      obtain rfl:=Option.some.inj H
      go_wp2_with (first |(go_at_call 35;(with_reducible refine(q10_Sets.calls kj32 a0 _ _ t318 false _ ?side1 ?side2 A73.out).mono ?_);(case side1=>repeat(first | exact(Kd.R_reads' HO_7.out).2.2 |(with_reducible refine Kd.C_alloc ?_ _) |(with_reducible refine Kd.C_drewN ?_ _) |(with_reducible refine Kd.C_drew ?_)));(case side2=>exact(Kd.R_reads' HO_7.out).2.1);rintro e w' ⟨rfl,⟨nd,rfl⟩⟩;(try first | exact⟨rfl,_,World.drewN_drewN _ _ _⟩ | exact⟨rfl,_,Eq.trans (World.drewN_drewN _ _ _) (congrArg (World.drewN _) (Nat.add_assoc _ _ _))⟩)) |(go_at_call 20;(with_reducible refine(w10_awake.calls kj32  t338 _ A85.out).mono ?_);rintro e w86 ⟨rfl,hb⟩;have n0_:=Aside0.mk (Kd.R_below (by(with_reducible repeat(first | apply Kd.R_alloc | apply Kd.R_drewN | apply Kd.R_drew));exact HO_7.out) hb);have n1_:=Aside0.mk (bkB (g:=gb317) (o:=.cells #[.int .i64 a1_0,.int .i64 a1_1] 45 (0,0)) (by(with_reducible repeat(first | refine bkN ?_ _ | refine bkD ?_ | refine bkA ?_ _));exact BK317.out) hb);have n2_:=Aside0.mk (bwT (by repeat(first |(with_reducible first | exact HB.out | apply bwA | apply bwN | apply bw1 | refine bwS ?_ GE317.out) | exact HB.out)) hb);clear HO_7;clear BK317;clear HB;have HO_7:=n0_;have BK317:=n1_;have HB:=n2_;clear n0_ n1_ n2_;(try clear hb);(try clear hb2);(try clear hk);(try clear hi)))
      repeat(go_quiet (first |(go_at_call 35;(with_reducible refine(q10_Sets.calls kj32 a0 _ _ t318 false _ ?side1 ?side2 A73.out).mono ?_);(case side1=>repeat(first | exact(Kd.R_reads' HO_7.out).2.2 |(with_reducible refine Kd.C_alloc ?_ _) |(with_reducible refine Kd.C_drewN ?_ _) |(with_reducible refine Kd.C_drew ?_)));(case side2=>exact(Kd.R_reads' HO_7.out).2.1);rintro e w' ⟨rfl,⟨nd,rfl⟩⟩;(try first | exact⟨rfl,_,World.drewN_drewN _ _ _⟩ | exact⟨rfl,_,Eq.trans (World.drewN_drewN _ _ _) (congrArg (World.drewN _) (Nat.add_assoc _ _ _))⟩)) |(go_at_call 20;(with_reducible refine(w10_awake.calls kj32  t338 _ A85.out).mono ?_);rintro e w86 ⟨rfl,hb⟩;have n0_:=Aside0.mk (Kd.R_below (by(with_reducible repeat(first | apply Kd.R_alloc | apply Kd.R_drewN | apply Kd.R_drew));exact HO_7.out) hb);have n1_:=Aside0.mk (bkB (g:=gb317) (o:=.cells #[.int .i64 a1_0,.int .i64 a1_1] 45 (0,0)) (by(with_reducible repeat(first | refine bkN ?_ _ | refine bkD ?_ | refine bkA ?_ _));exact BK317.out) hb);have n2_:=Aside0.mk (bwT (by repeat(first |(with_reducible first | exact HB.out | apply bwA | apply bwN | apply bw1 | refine bwS ?_ GE317.out) | exact HB.out)) hb);clear HO_7;clear BK317;clear HB;have HO_7:=n0_;have BK317:=n1_;have HB:=n2_;clear n0_ n1_ n2_;(try clear hb);(try clear hb2);(try clear hk);(try clear hi)));try go_wp2_with (first |(go_at_call 35;(with_reducible refine(q10_Sets.calls kj32 a0 _ _ t318 false _ ?side1 ?side2 A73.out).mono ?_);(case side1=>repeat(first | exact(Kd.R_reads' HO_7.out).2.2 |(with_reducible refine Kd.C_alloc ?_ _) |(with_reducible refine Kd.C_drewN ?_ _) |(with_reducible refine Kd.C_drew ?_)));(case side2=>exact(Kd.R_reads' HO_7.out).2.1);rintro e w' ⟨rfl,⟨nd,rfl⟩⟩;(try first | exact⟨rfl,_,World.drewN_drewN _ _ _⟩ | exact⟨rfl,_,Eq.trans (World.drewN_drewN _ _ _) (congrArg (World.drewN _) (Nat.add_assoc _ _ _))⟩)) |(go_at_call 20;(with_reducible refine(w10_awake.calls kj32  t338 _ A85.out).mono ?_);rintro e w86 ⟨rfl,hb⟩;have n0_:=Aside0.mk (Kd.R_below (by(with_reducible repeat(first | apply Kd.R_alloc | apply Kd.R_drewN | apply Kd.R_drew));exact HO_7.out) hb);have n1_:=Aside0.mk (bkB (g:=gb317) (o:=.cells #[.int .i64 a1_0,.int .i64 a1_1] 45 (0,0)) (by(with_reducible repeat(first | refine bkN ?_ _ | refine bkD ?_ | refine bkA ?_ _));exact BK317.out) hb);have n2_:=Aside0.mk (bwT (by repeat(first |(with_reducible first | exact HB.out | apply bwA | apply bwN | apply bw1 | refine bwS ?_ GE317.out) | exact HB.out)) hb);clear HO_7;clear BK317;clear HB;have HO_7:=n0_;have BK317:=n1_;have HB:=n2_;clear n0_ n1_ n2_;(try clear hb);(try clear hb2);(try clear hk);(try clear hi))))
      go_ret
      exact⟨by first | rfl |(simp [errW_none,errW_some] <;> rfl) |(simp [*,errW_none,errW_some] <;> rfl),by repeat(first |(with_reducible first | exact HB.out | apply bwA | apply bwN | apply bw1 | refine bwS ?_ GE317.out) | exact HB.out)⟩
     subst c74
     have H1 :((q10_ChoiceAt.f kj32 a0 t318).bind fun t336=>(if t325 = t336 then(if t326 = 0 then((w10_awake.f kj32).bind fun t337=>(some t337)) else(some false)) else(some false))) = some r:=by rw [if_pos rfl] at H;exact H
     clear H
     have H:=H1
     clear H1
     replace H:=Option.bind_eq_some_iff.mp H
     obtain ⟨t336,A750,H⟩:=H
     replace H :(if t325 = t336 then(if t326 = 0 then((w10_awake.f kj32).bind fun t337=>(some t337)) else(some false)) else(some false)) = some r:=H
     have A75:=Aside0.mk A750
     clear A750
     by_cases c76 : t325 = t336
     rotate_left
     ·rw [if_neg c76] at H
      have c76b0 :(t325 == t336) = false:=beq_eq_false_iff_ne.mpr c76
      have c76b1 :(t325 != t336) = true:=bne_iff_ne.mpr c76
      obtain rfl:=Option.some.inj H
      go_wp2_with (first |(go_at_call 35;(with_reducible refine(q10_Sets.calls kj32 a0 _ _ t318 true _ ?side1 ?side2 A73.out).mono ?_);(case side1=>repeat(first | exact(Kd.R_reads' HO_7.out).2.2 |(with_reducible refine Kd.C_alloc ?_ _) |(with_reducible refine Kd.C_drewN ?_ _) |(with_reducible refine Kd.C_drew ?_)));(case side2=>exact(Kd.R_reads' HO_7.out).2.1);rintro e w' ⟨rfl,⟨nd,rfl⟩⟩;(try first | exact⟨rfl,_,World.drewN_drewN _ _ _⟩ | exact⟨rfl,_,Eq.trans (World.drewN_drewN _ _ _) (congrArg (World.drewN _) (Nat.add_assoc _ _ _))⟩)) |(go_at_call 36;(with_reducible refine(q10_ChoiceAt.calls kj32 a0 _ _ t318 t336 _ ?side1 ?side2 A75.out).mono ?_);(case side1=>repeat(first | exact(Kd.R_reads' HO_7.out).2.2 |(with_reducible refine Kd.C_alloc ?_ _) |(with_reducible refine Kd.C_drewN ?_ _) |(with_reducible refine Kd.C_drew ?_)));(case side2=>exact(Kd.R_reads' HO_7.out).2.1);rintro e w82 ⟨rfl,hb⟩;have n0_:=Aside0.mk (Kd.R_below (by(with_reducible repeat(first | apply Kd.R_alloc | apply Kd.R_drewN | apply Kd.R_drew));exact HO_7.out) hb);have n1_:=Aside0.mk (bkB (g:=gb317) (o:=.cells #[.int .i64 a1_0,.int .i64 a1_1] 45 (0,0)) (by(with_reducible repeat(first | refine bkN ?_ _ | refine bkD ?_ | refine bkA ?_ _));exact BK317.out) hb);have n2_:=Aside0.mk (bwT (by repeat(first |(with_reducible first | exact HB.out | apply bwA | apply bwN | apply bw1 | refine bwS ?_ GE317.out) | exact HB.out)) hb);clear HO_7;clear BK317;clear HB;have HO_7:=n0_;have BK317:=n1_;have HB:=n2_;clear n0_ n1_ n2_;(try clear hb);(try clear hb2);(try clear hk);(try clear hi)))
      repeat(go_quiet (first |(go_at_call 35;(with_reducible refine(q10_Sets.calls kj32 a0 _ _ t318 true _ ?side1 ?side2 A73.out).mono ?_);(case side1=>repeat(first | exact(Kd.R_reads' HO_7.out).2.2 |(with_reducible refine Kd.C_alloc ?_ _) |(with_reducible refine Kd.C_drewN ?_ _) |(with_reducible refine Kd.C_drew ?_)));(case side2=>exact(Kd.R_reads' HO_7.out).2.1);rintro e w' ⟨rfl,⟨nd,rfl⟩⟩;(try first | exact⟨rfl,_,World.drewN_drewN _ _ _⟩ | exact⟨rfl,_,Eq.trans (World.drewN_drewN _ _ _) (congrArg (World.drewN _) (Nat.add_assoc _ _ _))⟩)) |(go_at_call 36;(with_reducible refine(q10_ChoiceAt.calls kj32 a0 _ _ t318 t336 _ ?side1 ?side2 A75.out).mono ?_);(case side1=>repeat(first | exact(Kd.R_reads' HO_7.out).2.2 |(with_reducible refine Kd.C_alloc ?_ _) |(with_reducible refine Kd.C_drewN ?_ _) |(with_reducible refine Kd.C_drew ?_)));(case side2=>exact(Kd.R_reads' HO_7.out).2.1);rintro e w82 ⟨rfl,hb⟩;have n0_:=Aside0.mk (Kd.R_below (by(with_reducible repeat(first | apply Kd.R_alloc | apply Kd.R_drewN | apply Kd.R_drew));exact HO_7.out) hb);have n1_:=Aside0.mk (bkB (g:=gb317) (o:=.cells #[.int .i64 a1_0,.int .i64 a1_1] 45 (0,0)) (by(with_reducible repeat(first | refine bkN ?_ _ | refine bkD ?_ | refine bkA ?_ _));exact BK317.out) hb);have n2_:=Aside0.mk (bwT (by repeat(first |(with_reducible first | exact HB.out | apply bwA | apply bwN | apply bw1 | refine bwS ?_ GE317.out) | exact HB.out)) hb);clear HO_7;clear BK317;clear HB;have HO_7:=n0_;have BK317:=n1_;have HB:=n2_;clear n0_ n1_ n2_;(try clear hb);(try clear hb2);(try clear hk);(try clear hi)));try go_wp2_with (first |(go_at_call 35;(with_reducible refine(q10_Sets.calls kj32 a0 _ _ t318 true _ ?side1 ?side2 A73.out).mono ?_);(case side1=>repeat(first | exact(Kd.R_reads' HO_7.out).2.2 |(with_reducible refine Kd.C_alloc ?_ _) |(with_reducible refine Kd.C_drewN ?_ _) |(with_reducible refine Kd.C_drew ?_)));(case side2=>exact(Kd.R_reads' HO_7.out).2.1);rintro e w' ⟨rfl,⟨nd,rfl⟩⟩;(try first | exact⟨rfl,_,World.drewN_drewN _ _ _⟩ | exact⟨rfl,_,Eq.trans (World.drewN_drewN _ _ _) (congrArg (World.drewN _) (Nat.add_assoc _ _ _))⟩)) |(go_at_call 36;(with_reducible refine(q10_ChoiceAt.calls kj32 a0 _ _ t318 t336 _ ?side1 ?side2 A75.out).mono ?_);(case side1=>repeat(first | exact(Kd.R_reads' HO_7.out).2.2 |(with_reducible refine Kd.C_alloc ?_ _) |(with_reducible refine Kd.C_drewN ?_ _) |(with_reducible refine Kd.C_drew ?_)));(case side2=>exact(Kd.R_reads' HO_7.out).2.1);rintro e w82 ⟨rfl,hb⟩;have n0_:=Aside0.mk (Kd.R_below (by(with_reducible repeat(first | apply Kd.R_alloc | apply Kd.R_drewN | apply Kd.R_drew));exact HO_7.out) hb);have n1_:=Aside0.mk (bkB (g:=gb317) (o:=.cells #[.int .i64 a1_0,.int .i64 a1_1] 45 (0,0)) (by(with_reducible repeat(first | refine bkN ?_ _ | refine bkD ?_ | refine bkA ?_ _));exact BK317.out) hb);have n2_:=Aside0.mk (bwT (by repeat(first |(with_reducible first | exact HB.out | apply bwA | apply bwN | apply bw1 | refine bwS ?_ GE317.out) | exact HB.out)) hb);clear HO_7;clear BK317;clear HB;have HO_7:=n0_;have BK317:=n1_;have HB:=n2_;clear n0_ n1_ n2_;(try clear hb);(try clear hb2);(try clear hk);(try clear hi))))
      go_ret
      exact⟨by first | rfl |(simp [errW_none,errW_some] <;> rfl) |(simp [*,errW_none,errW_some] <;> rfl),by repeat(first |(with_reducible first | exact HB.out | apply bwA | apply bwN | apply bw1 | refine bwS ?_ GE317.out) | exact HB.out)⟩
     rw [if_pos c76] at H
     have c76b0 :(t325 == t336) = true:=beq_iff_eq.mpr c76
     have c76b1 :(t325 != t336) = false:=bne_eq_false_iff_eq.mpr c76
     clear c76
     by_cases c77 : t326 = 0
     rotate_left
     ·rw [if_neg c77] at H
      have c77b0 :(t326 == 0) = false:=beq_eq_false_iff_ne.mpr c77
      have c77b1 :(t326 != 0) = true:=bne_iff_ne.mpr c77
      obtain rfl:=Option.some.inj H
      go_wp2_with (first |(go_at_call 35;(with_reducible refine(q10_Sets.calls kj32 a0 _ _ t318 true _ ?side1 ?side2 A73.out).mono ?_);(case side1=>repeat(first | exact(Kd.R_reads' HO_7.out).2.2 |(with_reducible refine Kd.C_alloc ?_ _) |(with_reducible refine Kd.C_drewN ?_ _) |(with_reducible refine Kd.C_drew ?_)));(case side2=>exact(Kd.R_reads' HO_7.out).2.1);rintro e w' ⟨rfl,⟨nd,rfl⟩⟩;(try first | exact⟨rfl,_,World.drewN_drewN _ _ _⟩ | exact⟨rfl,_,Eq.trans (World.drewN_drewN _ _ _) (congrArg (World.drewN _) (Nat.add_assoc _ _ _))⟩)) |(go_at_call 36;(with_reducible refine(q10_ChoiceAt.calls kj32 a0 _ _ t318 t336 _ ?side1 ?side2 A75.out).mono ?_);(case side1=>repeat(first | exact(Kd.R_reads' HO_7.out).2.2 |(with_reducible refine Kd.C_alloc ?_ _) |(with_reducible refine Kd.C_drewN ?_ _) |(with_reducible refine Kd.C_drew ?_)));(case side2=>exact(Kd.R_reads' HO_7.out).2.1);rintro e w81 ⟨rfl,hb⟩;have n0_:=Aside0.mk (Kd.R_below (by(with_reducible repeat(first | apply Kd.R_alloc | apply Kd.R_drewN | apply Kd.R_drew));exact HO_7.out) hb);have n1_:=Aside0.mk (bkB (g:=gb317) (o:=.cells #[.int .i64 a1_0,.int .i64 a1_1] 45 (0,0)) (by(with_reducible repeat(first | refine bkN ?_ _ | refine bkD ?_ | refine bkA ?_ _));exact BK317.out) hb);have n2_:=Aside0.mk (bwT (by repeat(first |(with_reducible first | exact HB.out | apply bwA | apply bwN | apply bw1 | refine bwS ?_ GE317.out) | exact HB.out)) hb);clear HO_7;clear BK317;clear HB;have HO_7:=n0_;have BK317:=n1_;have HB:=n2_;clear n0_ n1_ n2_;(try clear hb);(try clear hb2);(try clear hk);(try clear hi)))
      repeat(go_quiet (first |(go_at_call 35;(with_reducible refine(q10_Sets.calls kj32 a0 _ _ t318 true _ ?side1 ?side2 A73.out).mono ?_);(case side1=>repeat(first | exact(Kd.R_reads' HO_7.out).2.2 |(with_reducible refine Kd.C_alloc ?_ _) |(with_reducible refine Kd.C_drewN ?_ _) |(with_reducible refine Kd.C_drew ?_)));(case side2=>exact(Kd.R_reads' HO_7.out).2.1);rintro e w' ⟨rfl,⟨nd,rfl⟩⟩;(try first | exact⟨rfl,_,World.drewN_drewN _ _ _⟩ | exact⟨rfl,_,Eq.trans (World.drewN_drewN _ _ _) (congrArg (World.drewN _) (Nat.add_assoc _ _ _))⟩)) |(go_at_call 36;(with_reducible refine(q10_ChoiceAt.calls kj32 a0 _ _ t318 t336 _ ?side1 ?side2 A75.out).mono ?_);(case side1=>repeat(first | exact(Kd.R_reads' HO_7.out).2.2 |(with_reducible refine Kd.C_alloc ?_ _) |(with_reducible refine Kd.C_drewN ?_ _) |(with_reducible refine Kd.C_drew ?_)));(case side2=>exact(Kd.R_reads' HO_7.out).2.1);rintro e w81 ⟨rfl,hb⟩;have n0_:=Aside0.mk (Kd.R_below (by(with_reducible repeat(first | apply Kd.R_alloc | apply Kd.R_drewN | apply Kd.R_drew));exact HO_7.out) hb);have n1_:=Aside0.mk (bkB (g:=gb317) (o:=.cells #[.int .i64 a1_0,.int .i64 a1_1] 45 (0,0)) (by(with_reducible repeat(first | refine bkN ?_ _ | refine bkD ?_ | refine bkA ?_ _));exact BK317.out) hb);have n2_:=Aside0.mk (bwT (by repeat(first |(with_reducible first | exact HB.out | apply bwA | apply bwN | apply bw1 | refine bwS ?_ GE317.out) | exact HB.out)) hb);clear HO_7;clear BK317;clear HB;have HO_7:=n0_;have BK317:=n1_;have HB:=n2_;clear n0_ n1_ n2_;(try clear hb);(try clear hb2);(try clear hk);(try clear hi)));try go_wp2_with (first |(go_at_call 35;(with_reducible refine(q10_Sets.calls kj32 a0 _ _ t318 true _ ?side1 ?side2 A73.out).mono ?_);(case side1=>repeat(first | exact(Kd.R_reads' HO_7.out).2.2 |(with_reducible refine Kd.C_alloc ?_ _) |(with_reducible refine Kd.C_drewN ?_ _) |(with_reducible refine Kd.C_drew ?_)));(case side2=>exact(Kd.R_reads' HO_7.out).2.1);rintro e w' ⟨rfl,⟨nd,rfl⟩⟩;(try first | exact⟨rfl,_,World.drewN_drewN _ _ _⟩ | exact⟨rfl,_,Eq.trans (World.drewN_drewN _ _ _) (congrArg (World.drewN _) (Nat.add_assoc _ _ _))⟩)) |(go_at_call 36;(with_reducible refine(q10_ChoiceAt.calls kj32 a0 _ _ t318 t336 _ ?side1 ?side2 A75.out).mono ?_);(case side1=>repeat(first | exact(Kd.R_reads' HO_7.out).2.2 |(with_reducible refine Kd.C_alloc ?_ _) |(with_reducible refine Kd.C_drewN ?_ _) |(with_reducible refine Kd.C_drew ?_)));(case side2=>exact(Kd.R_reads' HO_7.out).2.1);rintro e w81 ⟨rfl,hb⟩;have n0_:=Aside0.mk (Kd.R_below (by(with_reducible repeat(first | apply Kd.R_alloc | apply Kd.R_drewN | apply Kd.R_drew));exact HO_7.out) hb);have n1_:=Aside0.mk (bkB (g:=gb317) (o:=.cells #[.int .i64 a1_0,.int .i64 a1_1] 45 (0,0)) (by(with_reducible repeat(first | refine bkN ?_ _ | refine bkD ?_ | refine bkA ?_ _));exact BK317.out) hb);have n2_:=Aside0.mk (bwT (by repeat(first |(with_reducible first | exact HB.out | apply bwA | apply bwN | apply bw1 | refine bwS ?_ GE317.out) | exact HB.out)) hb);clear HO_7;clear BK317;clear HB;have HO_7:=n0_;have BK317:=n1_;have HB:=n2_;clear n0_ n1_ n2_;(try clear hb);(try clear hb2);(try clear hk);(try clear hi))))
      go_ret
      exact⟨by first | rfl |(simp [errW_none,errW_some] <;> rfl) |(simp [*,errW_none,errW_some] <;> rfl),by repeat(first |(with_reducible first | exact HB.out | apply bwA | apply bwN | apply bw1 | refine bwS ?_ GE317.out) | exact HB.out)⟩
     rw [if_pos c77] at H
     have c77b0 :(t326 == 0) = true:=beq_iff_eq.mpr c77
     have c77b1 :(t326 != 0) = false:=bne_eq_false_iff_eq.mpr c77
     clear c77
     replace H:=Option.bind_eq_some_iff.mp H
     obtain ⟨t337,A780,H⟩:=H
     replace H :(some t337) = some r:=H
     have A78:=Aside0.mk A780
     clear A780
     obtain rfl:=Option.some.inj H
     go_wp2_with (first |(go_at_call 35;(with_reducible refine(q10_Sets.calls kj32 a0 _ _ t318 true _ ?side1 ?side2 A73.out).mono ?_);(case side1=>repeat(first | exact(Kd.R_reads' HO_7.out).2.2 |(with_reducible refine Kd.C_alloc ?_ _) |(with_reducible refine Kd.C_drewN ?_ _) |(with_reducible refine Kd.C_drew ?_)));(case side2=>exact(Kd.R_reads' HO_7.out).2.1);rintro e w' ⟨rfl,⟨nd,rfl⟩⟩;(try first | exact⟨rfl,_,World.drewN_drewN _ _ _⟩ | exact⟨rfl,_,Eq.trans (World.drewN_drewN _ _ _) (congrArg (World.drewN _) (Nat.add_assoc _ _ _))⟩)) |(go_at_call 36;(with_reducible refine(q10_ChoiceAt.calls kj32 a0 _ _ t318 t336 _ ?side1 ?side2 A75.out).mono ?_);(case side1=>repeat(first | exact(Kd.R_reads' HO_7.out).2.2 |(with_reducible refine Kd.C_alloc ?_ _) |(with_reducible refine Kd.C_drewN ?_ _) |(with_reducible refine Kd.C_drew ?_)));(case side2=>exact(Kd.R_reads' HO_7.out).2.1);rintro e w79 ⟨rfl,hb⟩;have n0_:=Aside0.mk (Kd.R_below (by(with_reducible repeat(first | apply Kd.R_alloc | apply Kd.R_drewN | apply Kd.R_drew));exact HO_7.out) hb);have n1_:=Aside0.mk (bkB (g:=gb317) (o:=.cells #[.int .i64 a1_0,.int .i64 a1_1] 45 (0,0)) (by(with_reducible repeat(first | refine bkN ?_ _ | refine bkD ?_ | refine bkA ?_ _));exact BK317.out) hb);have n2_:=Aside0.mk (bwT (by repeat(first |(with_reducible first | exact HB.out | apply bwA | apply bwN | apply bw1 | refine bwS ?_ GE317.out) | exact HB.out)) hb);clear HO_7;clear BK317;clear HB;have HO_7:=n0_;have BK317:=n1_;have HB:=n2_;clear n0_ n1_ n2_;(try clear hb);(try clear hb2);(try clear hk);(try clear hi)) |(go_at_call 20;(with_reducible refine(w10_awake.calls kj32  t337 _ A78.out).mono ?_);rintro e w80 ⟨rfl,hb⟩;have n0_:=Aside0.mk (Kd.R_below (by(with_reducible repeat(first | apply Kd.R_alloc | apply Kd.R_drewN | apply Kd.R_drew));exact HO_7.out) hb);have n1_:=Aside0.mk (bkB (g:=gb317) (o:=.cells #[.int .i64 a1_0,.int .i64 a1_1] 45 (0,0)) (by(with_reducible repeat(first | refine bkN ?_ _ | refine bkD ?_ | refine bkA ?_ _));exact BK317.out) hb);have n2_:=Aside0.mk (bwT (by repeat(first |(with_reducible first | exact HB.out | apply bwA | apply bwN | apply bw1 | refine bwS ?_ GE317.out) | exact HB.out)) hb);clear HO_7;clear BK317;clear HB;have HO_7:=n0_;have BK317:=n1_;have HB:=n2_;clear n0_ n1_ n2_;(try clear hb);(try clear hb2);(try clear hk);(try clear hi)))
     repeat(go_quiet (first |(go_at_call 35;(with_reducible refine(q10_Sets.calls kj32 a0 _ _ t318 true _ ?side1 ?side2 A73.out).mono ?_);(case side1=>repeat(first | exact(Kd.R_reads' HO_7.out).2.2 |(with_reducible refine Kd.C_alloc ?_ _) |(with_reducible refine Kd.C_drewN ?_ _) |(with_reducible refine Kd.C_drew ?_)));(case side2=>exact(Kd.R_reads' HO_7.out).2.1);rintro e w' ⟨rfl,⟨nd,rfl⟩⟩;(try first | exact⟨rfl,_,World.drewN_drewN _ _ _⟩ | exact⟨rfl,_,Eq.trans (World.drewN_drewN _ _ _) (congrArg (World.drewN _) (Nat.add_assoc _ _ _))⟩)) |(go_at_call 36;(with_reducible refine(q10_ChoiceAt.calls kj32 a0 _ _ t318 t336 _ ?side1 ?side2 A75.out).mono ?_);(case side1=>repeat(first | exact(Kd.R_reads' HO_7.out).2.2 |(with_reducible refine Kd.C_alloc ?_ _) |(with_reducible refine Kd.C_drewN ?_ _) |(with_reducible refine Kd.C_drew ?_)));(case side2=>exact(Kd.R_reads' HO_7.out).2.1);rintro e w79 ⟨rfl,hb⟩;have n0_:=Aside0.mk (Kd.R_below (by(with_reducible repeat(first | apply Kd.R_alloc | apply Kd.R_drewN | apply Kd.R_drew));exact HO_7.out) hb);have n1_:=Aside0.mk (bkB (g:=gb317) (o:=.cells #[.int .i64 a1_0,.int .i64 a1_1] 45 (0,0)) (by(with_reducible repeat(first | refine bkN ?_ _ | refine bkD ?_ | refine bkA ?_ _));exact BK317.out) hb);have n2_:=Aside0.mk (bwT (by repeat(first |(with_reducible first | exact HB.out | apply bwA | apply bwN | apply bw1 | refine bwS ?_ GE317.out) | exact HB.out)) hb);clear HO_7;clear BK317;clear HB;have HO_7:=n0_;have BK317:=n1_;have HB:=n2_;clear n0_ n1_ n2_;(try clear hb);(try clear hb2);(try clear hk);(try clear hi)) |(go_at_call 20;(with_reducible refine(w10_awake.calls kj32  t337 _ A78.out).mono ?_);rintro e w80 ⟨rfl,hb⟩;have n0_:=Aside0.mk (Kd.R_below (by(with_reducible repeat(first | apply Kd.R_alloc | apply Kd.R_drewN | apply Kd.R_drew));exact HO_7.out) hb);have n1_:=Aside0.mk (bkB (g:=gb317) (o:=.cells #[.int .i64 a1_0,.int .i64 a1_1] 45 (0,0)) (by(with_reducible repeat(first | refine bkN ?_ _ | refine bkD ?_ | refine bkA ?_ _));exact BK317.out) hb);have n2_:=Aside0.mk (bwT (by repeat(first |(with_reducible first | exact HB.out | apply bwA | apply bwN | apply bw1 | refine bwS ?_ GE317.out) | exact HB.out)) hb);clear HO_7;clear BK317;clear HB;have HO_7:=n0_;have BK317:=n1_;have HB:=n2_;clear n0_ n1_ n2_;(try clear hb);(try clear hb2);(try clear hk);(try clear hi)));try go_wp2_with (first |(go_at_call 35;(with_reducible refine(q10_Sets.calls kj32 a0 _ _ t318 true _ ?side1 ?side2 A73.out).mono ?_);(case side1=>repeat(first | exact(Kd.R_reads' HO_7.out).2.2 |(with_reducible refine Kd.C_alloc ?_ _) |(with_reducible refine Kd.C_drewN ?_ _) |(with_reducible refine Kd.C_drew ?_)));(case side2=>exact(Kd.R_reads' HO_7.out).2.1);rintro e w' ⟨rfl,⟨nd,rfl⟩⟩;(try first | exact⟨rfl,_,World.drewN_drewN _ _ _⟩ | exact⟨rfl,_,Eq.trans (World.drewN_drewN _ _ _) (congrArg (World.drewN _) (Nat.add_assoc _ _ _))⟩)) |(go_at_call 36;(with_reducible refine(q10_ChoiceAt.calls kj32 a0 _ _ t318 t336 _ ?side1 ?side2 A75.out).mono ?_);(case side1=>repeat(first | exact(Kd.R_reads' HO_7.out).2.2 |(with_reducible refine Kd.C_alloc ?_ _) |(with_reducible refine Kd.C_drewN ?_ _) |(with_reducible refine Kd.C_drew ?_)));(case side2=>exact(Kd.R_reads' HO_7.out).2.1);rintro e w79 ⟨rfl,hb⟩;have n0_:=Aside0.mk (Kd.R_below (by(with_reducible repeat(first | apply Kd.R_alloc | apply Kd.R_drewN | apply Kd.R_drew));exact HO_7.out) hb);have n1_:=Aside0.mk (bkB (g:=gb317) (o:=.cells #[.int .i64 a1_0,.int .i64 a1_1] 45 (0,0)) (by(with_reducible repeat(first | refine bkN ?_ _ | refine bkD ?_ | refine bkA ?_ _));exact BK317.out) hb);have n2_:=Aside0.mk (bwT (by repeat(first |(with_reducible first | exact HB.out | apply bwA | apply bwN | apply bw1 | refine bwS ?_ GE317.out) | exact HB.out)) hb);clear HO_7;clear BK317;clear HB;have HO_7:=n0_;have BK317:=n1_;have HB:=n2_;clear n0_ n1_ n2_;(try clear hb);(try clear hb2);(try clear hk);(try clear hi)) |(go_at_call 20;(with_reducible refine(w10_awake.calls kj32  t337 _ A78.out).mono ?_);rintro e w80 ⟨rfl,hb⟩;have n0_:=Aside0.mk (Kd.R_below (by(with_reducible repeat(first | apply Kd.R_alloc | apply Kd.R_drewN | apply Kd.R_drew));exact HO_7.out) hb);have n1_:=Aside0.mk (bkB (g:=gb317) (o:=.cells #[.int .i64 a1_0,.int .i64 a1_1] 45 (0,0)) (by(with_reducible repeat(first | refine bkN ?_ _ | refine bkD ?_ | refine bkA ?_ _));exact BK317.out) hb);have n2_:=Aside0.mk (bwT (by repeat(first |(with_reducible first | exact HB.out | apply bwA | apply bwN | apply bw1 | refine bwS ?_ GE317.out) | exact HB.out)) hb);clear HO_7;clear BK317;clear HB;have HO_7:=n0_;have BK317:=n1_;have HB:=n2_;clear n0_ n1_ n2_;(try clear hb);(try clear hb2);(try clear hk);(try clear hi))))
     go_ret
     exact⟨by first | rfl |(simp [errW_none,errW_some] <;> rfl) |(simp [*,errW_none,errW_some] <;> rfl),by repeat(first |(with_reducible first | exact HB.out | apply bwA | apply bwN | apply bw1 | refine bwS ?_ GE317.out) | exact HB.out)⟩
end Go.Proofs.Ytbfhlaggllofdaa.S

namespace Go.Proofs.Ytbfhlaggllofdaa.P
open Go.RowKit Go.Proofs.Ytbfhlaggllofdaa.S Go.Proofs.YtbfhlaggllofdaaW.PrintWords Go.Proofs.YtbfhlaggllofdaaW.PrintLast Go.Proofs.YtbfhlaggllofdaaW.PrintMore
set_option linter.unusedVariables false
theorem ints_loop (a b : List Int) (he : a.length = b.length) (hl : a.length≤1000) : ∀ d i : Nat,i + d = a.length→Ev (fun k=>w10_ints.l0 k a b (i : Int)) (decide (a.drop i = b.drop i)):=by
 intro d
 induction d with
 | zero =>
  intro i h
  rw [List.drop_eq_nil_of_le (by omega),List.drop_eq_nil_of_le (by omega),decide_eq_true rfl]
  refine Ev.step (f:=fun _=>some true) (fun k=>?_) (Ev.now _)
  simp only [w10_ints.l0]
  rw [if_neg (by omega)]
 | succ d ih =>
  intro i h
  have w : wrap64 ((i : Int) + 1) =((i + 1 : Nat) : Int):=by rw [w64 (by omega) (by omega)];rfl
  have ea:=drop_cons a i (by omega)
  have eb:=drop_cons b i (by omega)
  by_cases c : rd a (i : Int) = rd b (i : Int)
  rotate_left
  ·have e : decide (a.drop i = b.drop i) = false := decide_eq_false (by rw [ea, eb]; simp [c])
   rw [e]
   refine Ev.step (f:=fun _=>some false) (fun k=>?_) (Ev.now _)
   simp only [w10_ints.l0]
   rw [if_pos (by omega),if_pos (by omega),if_pos (by omega),if_neg c]
  have e : decide (a.drop i = b.drop i) = decide (a.drop (i + 1) = b.drop (i + 1)):=by rw [ea,eb,c];simp
  rw [e]
  refine Ev.step (fun k=>?_) (ih (i + 1) (by omega))
  simp only [w10_ints.l0]
  rw [if_pos (by omega),if_pos (by omega),if_pos (by omega),if_pos c,w]
theorem ints_ev (a b : List Int) (hl : a.length≤1000) : Ev (fun k=>w10_ints.f k a b) (decide (a = b)):=by
 by_cases c : a.length = b.length
 ·refine Ev.congr (fun k => ?_) (ints_loop a b c hl a.length 0 (by omega))
  unfold w10_ints.f
  rw [if_pos (by omega)]
  rfl
 rw [decide_eq_false (fun h=>c (by rw [h]))]
 refine Ev.congr (fun k=>?_) (Ev.now _)
 unfold w10_ints.f
 rw [if_neg (by omega)]
end Go.Proofs.Ytbfhlaggllofdaa.P

namespace Go.Proofs.Ytbfhlaggllofdaa.P
open Go.RowKit Go.Proofs.Ytbfhlaggllofdaa.S Go.Proofs.Ytbfhlaggllofdaa.G Go.Proofs.Ytbfhlaggllofdaa.T Go.Proofs.YtbfhlaggllofdaaW.PrintWords Go.Proofs.YtbfhlaggllofdaaW.PrintLast Go.Proofs.YtbfhlaggllofdaaW.PrintMore
set_option linter.unusedVariables false
theorem awake_ev : Ev (fun k=>w10_awake.f k) true:=by
 have e1 : turns_Set.f 2 2 = some ([1,2],0):=by kernel_rfl
 have e2 : turns_Choice.f 3 2 1 = some ([2,3],0):=by kernel_rfl
 have e3 : turns_Order.f 3 3 = some ([3,2,1],0):=by kernel_rfl
 have e4 : turns_Groupings.f 5 = some (52,0):=by kernel_rfl
 have e5 : turns_Setting.f [2,3] 3 = some ([1,2],0):=by kernel_rfl
 have i1:=ints_ev [1,2] [1,2] (by decide)
 have i2:=ints_ev [2,3] [2,3] (by decide)
 have i3:=ints_ev [3,2,1] [3,2,1] (by decide)
 rw [decide_eq_true rfl] at i1 i2 i3
 have hj : Ev (fun k=>w10_awake.j0 k false) true:=by
  refine Ev.step (f:=fun _=>some true) (fun k=>?_) (Ev.now _)
  simp only [w10_awake.j0]
  rw [if_neg (by decide)]
 refine Ev.congr (f:=fun k=>(w10_ints.f k [1,2] [1,2]).bind fun t=>(if t = true then((w10_ints.f k [2,3] [2,3]).bind fun t=>(if t = true then((w10_ints.f k [3,2,1] [3,2,1]).bind fun t=>(if t = true then((w10_ints.f k [1,2] [1,2]).bind fun t=>w10_awake.j0 k (!t)) else w10_awake.j0 k true)) else w10_awake.j0 k true)) else w10_awake.j0 k true)) (fun k=>?_) ?_
 ·unfold w10_awake.f
  rw [e1,e2,e3,e4,e5]
  rfl
 refine Ev.bind (f:=fun k (t : Bool)=>_) i1 ?_
 refine Ev.congr (fun k=>if_pos rfl) ?_
 refine Ev.bind (f:=fun k (t : Bool)=>_) i2 ?_
 refine Ev.congr (fun k=>if_pos rfl) ?_
 refine Ev.bind (f:=fun k (t : Bool)=>_) i3 ?_
 refine Ev.congr (fun k=>if_pos rfl) ?_
 exact Ev.bind (f:=fun k (t : Bool)=>_) i1 hj
theorem awake_some : Ev (fun k=>(w10_awake.f k).bind fun z=>some z) true:=Ev.congr (fun k=>by cases w10_awake.f k <;> rfl) awake_ev
def tab (N : Nat) (f : Nat→Int) : List Int:=(List.range N).map f
theorem tab_len (N : Nat) (f : Nat→Int) :(tab N f).length = N:=by unfold tab;simp
theorem tab_get {N i : Nat} (f : Nat→Int) (h : i < (tab N f).length) :(tab N f)[i] = f i:=by simp [tab]
theorem tab_rd {N i : Nat} (f : Nat→Int) (h : i < N) : rd (tab N f) (i : Int) = f i:=by
 rw [rd_lt _ _ (by rw [tab_len];exact h),tab_get]
theorem tab_ext {N : Nat} {f g : Nat→Int} (h : ∀ i,i < N→f i = g i) : tab N f = tab N g:=by
 unfold tab
 exact List.map_congr_left (fun i hi=>h i (List.mem_range.1 hi))
theorem tab_set {N t : Nat} {f g : Nat→Int} {v : Int} (h : ∀ i,i < N→g i = if i = t then v else f i) :(tab N f).set t v = tab N g:=by
 apply List.ext_getElem
 ·rw [List.length_set,tab_len,tab_len]
 intro i h1 h2
 have:=h i (by rw [tab_len] at h2;exact h2)
 rw [List.getElem_set,tab_get g,this]
 by_cases c : i = t
 ·subst c;rw [if_pos rfl,if_pos rfl]
 rw [if_neg (fun e=>c e.symm),if_neg c,tab_get]
theorem tab_rep (N : Nat) : List.replicate N (0 : Int) = tab N (fun _=>0):=by
 apply List.ext_getElem
 ·rw [List.length_replicate,tab_len]
 intro i h1 h2
 rw [tab_get,List.getElem_replicate]
theorem pred64 (i : Nat) (h : i≤1000) : wrap64 (((i + 1 : Nat) : Int) - 1) =(i : Int):=by rw [w64 (by omega) (by omega)];omega
instance (n : Int) (l : List Int) : Decidable (IsS n l):=decidable_of_iff ((∀ x ∈ l,1≤x∧x≤n)∧l.Pairwise (· < ·)) ⟨fun h=>⟨h.1,h.2⟩,fun h=>⟨h.1,h.2⟩⟩
theorem isS_step {n : Int} {l : List Int} {i : Nat} (hi : i < l.length) : IsS n (l.take (i + 1))↔IsS n (l.take i) ∧(1≤rd l (i : Int)∧rd l (i : Int)≤n) ∧(0 < i→rd l ((i : Int) - 1) < rd l (i : Int)):=by
 have e : l.take (i + 1) = l.take i ++ [l[i]]:=List.take_succ_eq_append_getElem hi
 have r : rd l (i : Int) = l[i]:=rd_lt l i hi
 have r1 : 0 < i→rd l ((i : Int) - 1) = l[i - 1]:=fun h=>by rw [show(i : Int) - 1 =((i - 1 : Nat) : Int) by omega,rd_lt l _ (by omega)]
 rw [r]
 constructor
 ·intro h
  refine⟨?_,h.mem _ (by rw [e];exact List.mem_append_right _ (List.mem_singleton.2 rfl)),fun h0=>?_⟩
  ·have := h.take i
   rwa [List.take_take,show min i (i + 1) = i by omega] at this
  rw [r1 h0]
  have hp:=List.pairwise_iff_getElem.1 h.sorted (i - 1) i (by rw [List.length_take];omega) (by rw [List.length_take];omega) (by omega)
  simpa using hp
 intro ⟨h1,h2,h3⟩
 refine⟨fun x hx=>?_,?_⟩
 ·rw [e] at hx
  rcases List.mem_append.1 hx with hx | hx
  ·exact h1.mem x hx
  obtain rfl : x = l[i]:=by simpa using hx
  exact h2
 rw [e]
 refine List.pairwise_append.2 ⟨h1.sorted,by simp,fun x hx y hy=>?_⟩
 obtain rfl : y = l[i]:=by simpa using hy
 obtain ⟨j,hj,rfl⟩:=List.getElem_of_mem hx
 rw [List.length_take] at hj
 have h4:=h3 (by omega)
 rw [r1 (by omega)] at h4
 rw [List.getElem_take]
 by_cases c : j = i - 1
 ·subst c;exact h4
 have hp:=List.pairwise_iff_getElem.1 h1.sorted j (i - 1) (by rw [List.length_take];omega) (by rw [List.length_take];omega) (by omega)
 rw [List.getElem_take,List.getElem_take] at hp
 exact Int.lt_trans hp h4
theorem isS_not {n : Int} {l : List Int} (j : Nat) (h : ¬ IsS n (l.take j)) : decide (IsS n l) = false:=decide_eq_false (fun h'=>h (h'.take j))
theorem isS_nil (n : Int) : IsS n []:=⟨fun x hx=>by simp at hx,.nil⟩
theorem isSet_loop {n : Int} {l : List Int} (hl : l.length≤1000) : ∀ e i : Nat,i + e = l.length→IsS n (l.take i)→Ev (fun k=>turns_isSet.l0 k n l l (l.length : Int) (i : Int)) (decide (IsS n l)):=by
 intro e
 induction e with
 | zero =>
  intro i h hs
  rw [List.take_of_length_le (by omega)] at hs
  rw [decide_eq_true hs]
  refine Ev.step (f:=fun _=>some true) (fun k=>?_) (Ev.now _)
  simp only [turns_isSet.l0]
  rw [if_neg (by omega)]
 | succ e ih =>
  intro i h hs
  have w : wrap64 ((i : Int) + 1) =((i + 1 : Nat) : Int):=by rw [w64 (by omega) (by omega)];rfl
  have w2 : wrap64 ((i : Int) - 1) =(i : Int) - 1:=w64 (by omega) (by omega)
  have st:=isS_step (n:=n) (l:=l) (i:=i) (by omega)
  by_cases c : 1≤rd l (i : Int)∧rd l (i : Int)≤n
  rotate_left
  ·rw [isS_not (i + 1) (fun h => c ((st.1 h).2.1))]
   refine Ev.step (f:=fun _=>some false) (fun k=>?_) (Ev.now _)
   simp only [turns_isSet.l0]
   rw [if_pos (by omega),if_pos (by omega),if_pos (by omega),within_no c]
   rfl
  by_cases c0 : 0 < i
  rotate_left
  ·refine Ev.step (fun k => ?_) (ih (i + 1) (by omega) (st.2 ⟨hs, c, fun h => absurd h c0⟩))
   simp only [turns_isSet.l0]
   rw [if_pos (by omega),if_pos (by omega),if_pos (by omega),within_yes c]
   simp only [Option.bind_some,if_true]
   rw [if_neg (by omega),w]
  by_cases c1 : rd l ((i : Int) - 1) < rd l (i : Int)
  ·refine Ev.step (fun k => ?_) (ih (i + 1) (by omega) (st.2 ⟨hs, c, fun _ => c1⟩))
   simp only [turns_isSet.l0]
   rw [if_pos (by omega),if_pos (by omega),if_pos (by omega),within_yes c]
   simp only [Option.bind_some,if_true]
   rw [if_pos (by omega),w2,if_pos (by omega),if_pos (by omega),if_neg (by omega),w]
  rw [isS_not (i + 1) (fun h=>c1 ((st.1 h).2.2 c0))]
  refine Ev.step (f:=fun _=>some false) (fun k=>?_) (Ev.now _)
  simp only [turns_isSet.l0]
  rw [if_pos (by omega),if_pos (by omega),if_pos (by omega),within_yes c]
  simp only [Option.bind_some,if_true]
  rw [if_pos (by omega),w2,if_pos (by omega),if_pos (by omega),if_pos (by omega)]
theorem isSet_ev (n : Int) (l : List Int) (hl : l.length≤1000) : Ev (fun k=>turns_isSet.f k n l) (decide (IsS n l)):=isSet_loop hl l.length 0 (by omega) (isS_nil n)
theorem sets_loop {n : Int} {l : List Int} (hl : l.length≤1000) : ∀ e i : Nat,i + e = l.length→IsS n (l.take i)→Ev (fun k=>q10_Sets.l0 k n l (i : Int)) (decide (IsS n l)):=by
 intro e
 induction e with
 | zero =>
  intro i h hs
  rw [List.take_of_length_le (by omega)] at hs
  rw [decide_eq_true hs]
  refine Ev.step (f:=fun _=>some true) (fun k=>?_) (Ev.now _)
  simp only [q10_Sets.l0]
  rw [if_neg (by omega)]
 | succ e ih =>
  intro i h hs
  have w : wrap64 ((i : Int) + 1) =((i + 1 : Nat) : Int):=by rw [w64 (by omega) (by omega)];rfl
  have w2 : wrap64 ((i : Int) - 1) =(i : Int) - 1:=w64 (by omega) (by omega)
  have st:=isS_step (n:=n) (l:=l) (i:=i) (by omega)
  by_cases c : 1≤rd l (i : Int)∧rd l (i : Int)≤n
  rotate_left
  ·rw [isS_not (i + 1) (fun h => c ((st.1 h).2.1))]
   refine Ev.step (f:=fun _=>some false) (fun k=>?_) (Ev.now _)
   simp only [q10_Sets.l0]
   rw [if_pos (by omega),if_pos (by omega)]
   by_cases c1 : rd l (i : Int) < 1
   ·rw [if_pos c1]
   rw [if_neg c1,if_pos (by omega)]
  by_cases c0 : 0 < i
  rotate_left
  ·refine Ev.step (fun k => ?_) (ih (i + 1) (by omega) (st.2 ⟨hs, c, fun h => absurd h c0⟩))
   simp only [q10_Sets.l0]
   rw [if_pos (by omega),if_pos (by omega),if_neg (by omega),if_neg (by omega),if_neg (by omega),w]
  by_cases c1 : rd l ((i : Int) - 1) < rd l (i : Int)
  ·refine Ev.step (fun k => ?_) (ih (i + 1) (by omega) (st.2 ⟨hs, c, fun _ => c1⟩))
   simp only [q10_Sets.l0]
   rw [if_pos (by omega),if_pos (by omega),if_neg (by omega),if_neg (by omega),if_pos (by omega),w2,if_pos (by omega),if_pos (by omega),if_neg (by omega),w]
  rw [isS_not (i + 1) (fun h=>c1 ((st.1 h).2.2 c0))]
  refine Ev.step (f:=fun _=>some false) (fun k=>?_) (Ev.now _)
  simp only [q10_Sets.l0]
  rw [if_pos (by omega),if_pos (by omega),if_neg (by omega),if_neg (by omega),if_pos (by omega),w2,if_pos (by omega),if_pos (by omega),if_pos (by omega)]
theorem sets_ev (n : Int) (l : List Int) (hl : l.length≤1000) : Ev (fun k=>q10_Sets.f k n l) (decide (IsS n l)):=sets_loop hl l.length 0 (by omega) (isS_nil n)
theorem isS_mono {n m : Int} {l : List Int} (h : IsS n l) (hm : ∀ x ∈ l,x≤m) : IsS m l:=⟨fun x hx=>⟨(h.mem x hx).1,hm x hx⟩,h.sorted⟩
theorem isS_last {n : Nat} {l : List Int} (h : IsS ((n + 1 : Nat) : Int) l) :((n : Int) + 1 ∈ l↔0 < l.length∧rd l ((l.length : Int) - 1) =(n : Int) + 1):=by
 constructor
 ·intro hm
  have hl:=List.length_pos_of_mem hm
  refine⟨hl,?_⟩
  rw [show(l.length : Int) - 1 =((l.length - 1 : Nat) : Int) by omega,rd_lt l _ (by omega)]
  obtain ⟨j,hj,e⟩:=List.getElem_of_mem hm
  have hlast:=(h.mem _ (List.getElem_mem (show l.length - 1 < l.length by omega))).2
  by_cases c : j = l.length - 1
  ·subst c;exact e
  have:=List.pairwise_iff_getElem.1 h.sorted j (l.length - 1) hj (by omega) (by omega)
  omega
 intro ⟨hl,e⟩
 rw [← e,show(l.length : Int) - 1 =((l.length - 1 : Nat) : Int) by omega,rd_lt l _ (by omega)]
 exact List.getElem_mem _
theorem door_isS (n k : Nat) (a : Int) : IsS (n : Int) (door n k a):=⟨fun x hx=>door_mem n k a x hx,door_sorted n k a⟩
theorem isS_len {n : Nat} {l : List Int} (h : IsS (n : Int) l) : l.length≤n:=nodup_len n l 0 (h.sorted.imp (fun h=>by omega)) (fun x hx=>by have:=h.mem x hx;omega)
theorem choiceAt_ev (n : Int) (l : List Int) (hl : l.length≤1000) : Ev (fun k=>turns_ChoiceAt.f k n l) (if(0≤n∧n≤40)∧IsS n l then(doorAt l 0 0,0) else(0,2)):=by
 by_cases c : 0≤n∧n≤40
 rotate_left
 ·rw [if_neg (fun h => c h.1)]
  refine Ev.congr (fun k=>?_) (Ev.now _)
  unfold turns_ChoiceAt.f
  rw [if_pos hl,if_neg c]
 refine Ev.congr (f:=fun k=>(turns_isSet.f k n l).bind fun b=>some (if b = true then(doorAt l 0 0,0) else(0,2))) (fun k=>?_) ?_
 ·unfold turns_ChoiceAt.f
  rw [if_pos hl,if_pos c]
 refine Ev.bind (f:=fun k (b : Bool)=>_) (isSet_ev n l hl) ?_
 by_cases c2 : IsS n l
 ·rw [show (if (0 ≤ n ∧ n ≤ 40) ∧ IsS n l then (doorAt l 0 0, (0 : Int)) else (0, 2)) = (doorAt l 0 0, 0) from if_pos ⟨c, c2⟩, decide_eq_true c2]
  exact Ev.now _
 rw [show(if(0≤n∧n≤40)∧IsS n l then(doorAt l 0 0,(0 : Int)) else(0,2)) =(0,2) from if_neg (fun h=>c2 h.2),decide_eq_false c2]
 exact Ev.now _
theorem many_step {m i : Nat} (hm : m + 1≤41) : wrap64 (ch m (i + 1) + ch m i) = ch (m + 1) (i + 1):=by
 have h1:=ch_le64 (n:=m) (k:=i) (by omega)
 have h2:=ch_le64 (n:=m) (k:=i + 1) (by omega)
 rw [w64 (by omega) (by omega),ch_succ]
 omega
def rowM (n m i : Nat) : List Int:=tab (n + 1) (fun u=>if u≤i then ch m u else ch (m + 1) u)
theorem rowM_end (n m : Nat) : rowM n m 0 = tab (n + 1) (ch (m + 1)):=tab_ext (fun u hu=>by
 by_cases c : u≤0
 ·rw [if_pos c,show u = 0 by omega,ch_zero,ch_zero]
 ·rw [if_neg c])
theorem rowM_start (n m : Nat) : rowM n m (m + 1) = tab (n + 1) (ch m):=tab_ext (fun u hu=>by
 by_cases c : u≤m + 1
 ·rw [if_pos c]
 ·rw [if_neg c,ch_big (m + 1) u (by omega),ch_big m u (by omega)])
theorem many_l1 {n kk m : Nat} (hn : n≤40) (hm : m + 1≤n) {r : Int} (hr : Ev (fun k=>q10_Many.l0 k (n : Int) (kk : Int) (tab (n + 1) (ch (m + 1))) (((m + 1 : Nat) : Int) + 1)) r) : ∀ i : Nat,i≤m + 1→Ev (fun k=>q10_Many.l1 k (n : Int) (kk : Int) (rowM n m i) ((m + 1 : Nat) : Int) (i : Int)) r:=by
 intro i
 induction i with
 | zero =>
  intro hi
  rw [rowM_end]
  refine Ev.step (fun k=>?_) hr
  simp only [q10_Many.l1]
  rw [if_neg (by omega),w64 (by omega) (by omega)]
 | succ i ih =>
  intro hi
  have hl :(rowM n m (i + 1)).length = n + 1:=tab_len _ _
  have e1 : rd (rowM n m (i + 1)) ((i + 1 : Nat) : Int) = ch m (i + 1):=by unfold rowM;rw [tab_rd _ (by omega),if_pos (by omega)]
  have e2 : rd (rowM n m (i + 1)) (i : Int) = ch m i:=by unfold rowM;rw [tab_rd _ (by omega),if_pos (by omega)]
  have es :(rowM n m (i + 1)).set (i + 1) (ch (m + 1) (i + 1)) = rowM n m i:=tab_set (fun u hu=>by
   by_cases c : u = i + 1
   ·rw [if_pos c,if_neg (by omega),c]
   ·rw [if_neg c]
    by_cases c2 : u≤i
    ·rw [if_pos c2,if_pos (by omega)]
    ·rw [if_neg c2,if_neg (by omega)])
  refine Ev.step (fun k=>?_) (ih (by omega))
  simp only [q10_Many.l1]
  rw [if_pos (by omega),if_pos (by omega),hl,if_pos (by omega),pred64 i (by omega),if_pos (by omega),if_pos (by omega),e1,e2,many_step (by omega),show(((i + 1 : Nat) : Int)).toNat = i + 1 by omega,es]
theorem many_l0 {n kk : Nat} (hn : n≤40) (hk : kk≤n) : ∀ e m : Nat,m + e = n→Ev (fun k=>q10_Many.l0 k (n : Int) (kk : Int) (tab (n + 1) (ch m)) ((m : Int) + 1)) (ch n kk):=by
 intro e
 induction e with
 | zero =>
  intro m h
  obtain rfl : m = n:=by omega
  refine Ev.step (f:=fun _=>some (ch m kk)) (fun k=>?_) (Ev.now _)
  simp only [q10_Many.l0]
  rw [if_neg (by omega),if_pos (by omega),tab_len,if_pos (by omega),tab_rd _ (by omega)]
 | succ e ih =>
  intro m h
  have h1:=many_l1 (kk:=kk) hn (show m + 1≤n by omega) (ih (m + 1) (by omega)) (m + 1) (Nat.le_refl _)
  rw [rowM_start] at h1
  refine Ev.step (fun k=>?_) h1
  simp only [q10_Many.l0]
  rw [if_pos (by omega)]
  rfl
theorem many_ev {n kk : Nat} (hn : n≤40) (hk : kk≤n) : Ev (fun k=>q10_Many.f k (n : Int) (kk : Int)) (ch n kk):=by
 refine Ev.congr (fun k=>?_) (many_l0 hn hk n 0 (by omega))
 unfold q10_Many.f
 rw [w64 (x:=(n : Int) + 1) (by omega) (by omega),if_pos (by omega),show((n : Int) + 1).toNat = n + 1 by omega,if_pos (by omega),tab_rep]
 simp only [Option.bind_some]
 rw [tab_len,if_pos (by omega),show(0 : Int).toNat = 0 from rfl,tab_set (g:=ch 0) (fun u hu=>by
  cases u with
  | zero=>rw [if_pos rfl];rfl
  | succ u=>rw [if_neg (by omega)];rfl)]
 rfl
theorem refChoice_ev : ∀ (n k : Nat) (a : Int), n ≤ 40 → k ≤ n → 0 ≤ a → a < ch n k → Ev (fun f => q10_Choice.f f (n : Int) (k : Int) a) (door n k a)
 | 0,k,a,_,hk,_,_=>by
  obtain rfl : k = 0:=by omega
  refine Ev.step (f:=fun _=>some []) (fun k=>?_) (Ev.now _)
  simp only [q10_Choice.f]
  rw [if_pos (by simp)]
 | n + 1,0,a,_,_,_,_=>by
  refine Ev.step (f:=fun _=>some []) (fun k=>?_) (Ev.now _)
  simp only [q10_Choice.f]
  rw [if_neg (by omega),if_neg (by omega),if_pos (by simp)]
 | n + 1,k + 1,a,hn,hk,h0,h1=>by
  have b1:=ch_le64 (n:=n + 1) (k:=k + 1) (by omega)
  have hs:=ch_succ n k
  have lens : ∀ j b,(door n j b).length < 17592186044416:=fun j b=>by have:=isS_len (door_isS n j b);omega
  by_cases c0 : k = n
  ·subst c0
   have b2:=ch_self (k + 1)
   have ea : a = 0:=by omega
   subst ea
   have e0 : ch k (k + 1) = 0:=ch_big k (k + 1) (by omega)
   have ed : door (k + 1) (k + 1) 0 = door k k 0 ++ [(k : Int) + 1]:=by
    show(if(0 : Int) < ch k (k + 1) then _ else _) = _
    rw [if_neg (by omega),b2]
    rfl
   rw [ed]
   refine Ev.step (f:=fun f=>(q10_Choice.f f (k : Int) (k : Int) 0).bind fun t291=>(if t291.length < 17592186044416 then(some (t291 ++ [(k : Int) + 1])) else(none))) (fun f=>?_) (Ev.bind (f:=fun f (t : List Int)=>_) (refChoice_ev k k 0 (by omega) (by omega) (by omega) (by rw [ch_self];decide)) (Ev.congr (fun f=>if_pos (lens _ _)) (Ev.now _)))
   simp only [q10_Choice.f]
   rw [if_neg (by omega),if_pos trivial,pred64 k (by omega)]
   rfl
  have hM:=many_ev (n:=n) (kk:=k + 1) (by omega) (by omega)
  have hM2:=many_ev (n:=n + 1) (kk:=k + 1) (by omega) (by omega)
  by_cases c : a < ch n (k + 1)
  ·have ed : door (n + 1) (k + 1) a = door n (k + 1) a:=by
    show(if a < ch n (k + 1) then _ else _) = _
    rw [if_pos c]
   rw [ed]
   refine Ev.step (f:=fun f=>(q10_Many.f f (n : Int) ((k + 1 : Nat) : Int)).bind fun t297=>(if a < t297 then((q10_Choice.f f (n : Int) ((k + 1 : Nat) : Int) a).bind fun t298=>(some t298)) else((q10_Many.f f ((n + 1 : Nat) : Int) ((k + 1 : Nat) : Int)).bind fun t301=>((q10_Choice.f f (n : Int) (k : Int) (wrap64 ((wrap64 (t301 - 1)) - a))).bind fun t302=>(if t302.length < 17592186044416 then(some (t302 ++ [((n + 1 : Nat) : Int)])) else(none)))))) (fun f=>?_) ?_
   ·simp only [q10_Choice.f]
    rw [if_neg (by omega),if_neg (by omega),if_neg (by omega),pred64 n (by omega),pred64 k (by omega)]
   refine Ev.bind (f:=fun f (t : Int)=>_) hM ?_
   refine Ev.congr (fun f=>if_pos c) ?_
   exact Ev.bind (f:=fun f (t : List Int)=>some t) (refChoice_ev n (k + 1) a (by omega) (by omega) h0 c) (Ev.now _)
  have ed : door (n + 1) (k + 1) a = door n k (ch (n + 1) (k + 1) - 1 - a) ++ [(n : Int) + 1]:=by
   show(if a < ch n (k + 1) then _ else _) = _
   rw [if_neg c]
  rw [ed]
  have hC:=refChoice_ev n k (ch (n + 1) (k + 1) - 1 - a) (by omega) (by omega) (by omega) (by omega)
  have hL:=lens k (ch (n + 1) (k + 1) - 1 - a)
  refine Ev.step (f:=fun f=>(q10_Many.f f (n : Int) ((k + 1 : Nat) : Int)).bind fun t297=>(if a < t297 then((q10_Choice.f f (n : Int) ((k + 1 : Nat) : Int) a).bind fun t298=>(some t298)) else((q10_Many.f f ((n + 1 : Nat) : Int) ((k + 1 : Nat) : Int)).bind fun t301=>((q10_Choice.f f (n : Int) (k : Int) (wrap64 ((wrap64 (t301 - 1)) - a))).bind fun t302=>(if t302.length < 17592186044416 then(some (t302 ++ [((n + 1 : Nat) : Int)])) else(none)))))) (fun f=>?_) ?_
  ·simp only [q10_Choice.f]
   rw [if_neg (by omega),if_neg (by omega),if_neg (by omega),pred64 n (by omega),pred64 k (by omega)]
  refine Ev.bind (f:=fun f (t : Int)=>_) hM ?_
  refine Ev.congr (fun f=>if_neg c) ?_
  refine Ev.bind (f:=fun f (t : Int)=>_) hM2 ?_
  rw [w64 (x:=ch (n + 1) (k + 1) - 1) (by omega) (by omega),w64 (x:=ch (n + 1) (k + 1) - 1 - a) (by omega) (by omega)]
  refine Ev.bind (f:=fun f (t : List Int)=>_) hC ?_
  exact Ev.congr (fun f=>if_pos hL) (Ev.now _)
theorem doorAt_full {n : Nat} {l : List Int} (h : IsS (n : Int) l) (hl : l.length = n) : doorAt l 0 0 = 0:=by
 obtain ⟨h0,h1⟩:=doorAt_range l h.sorted (fun x hx=>(h.mem x hx).1)
 have:=h1 n (fun x hx=>(h.mem x hx).2)
 rw [hl,ch_self] at this
 omega
theorem refChoiceAt_ev : ∀ (n : Nat) (l : List Int), n ≤ 40 → IsS (n : Int) l → Ev (fun k => q10_ChoiceAt.f k (n : Int) l) (doorAt l 0 0)
 | 0,l,_,hs=>by
  have hl:=isS_len hs
  rw [doorAt_full hs (by omega)]
  refine Ev.step (f:=fun k=>q10_ChoiceAt.j0 k 0 l (l.length : Int) true) (fun k=>?_) (Ev.step (f:=fun _=>some 0) (fun k=>?_) (Ev.now _))
  ·simp only [q10_ChoiceAt.f]
   rw [if_pos (by omega)]
   rfl
  ·simp only [q10_ChoiceAt.j0]
   rw [if_pos trivial]
 | n + 1,l,hn,hs=>by
  have hl:=isS_len hs
  by_cases c0 : l.length = 0
  ·have : l = [] := List.length_eq_zero_iff.1 c0
   subst this
   refine Ev.step (f:=fun k=>q10_ChoiceAt.j0 k ((n + 1 : Nat) : Int) [] 0 true) (fun k=>?_) (Ev.step (f:=fun _=>some 0) (fun k=>?_) (Ev.now _))
   ·simp only [q10_ChoiceAt.f]
    rw [if_pos (by rfl)]
    rfl
   ·simp only [q10_ChoiceAt.j0]
    rw [if_pos trivial]
  ·by_cases c1 : l.length = n + 1
   ·rw [doorAt_full hs c1]
    refine Ev.step (f:=fun k=>q10_ChoiceAt.j0 k ((n + 1 : Nat) : Int) l (l.length : Int) true) (fun k=>?_) (Ev.step (f:=fun _=>some 0) (fun k=>?_) (Ev.now _))
    ·simp only [q10_ChoiceAt.f]
     rw [if_neg (by omega),c1]
     congr 1
     simp
    ·simp only [q10_ChoiceAt.j0]
     rw [if_pos trivial]
   ·have hf : ∀ {r : Int},Ev (fun k=>q10_ChoiceAt.j0 k ((n + 1 : Nat) : Int) l (l.length : Int) false) r→Ev (fun k=>q10_ChoiceAt.f k ((n + 1 : Nat) : Int) l) r:=fun h=>by
     refine Ev.step (fun k=>?_) h
     simp only [q10_ChoiceAt.f]
     rw [if_neg (by omega)]
     congr 1
     simp
     omega
    refine hf ?_
    have hlast:=isS_last hs
    have el :(l.length : Int) - 1 =((l.length - 1 : Nat) : Int):=by omega
    by_cases c : rd l ((l.length : Int) - 1) =(n : Int) + 1
    ·have e1 : l.take (l.length - 1) ++ [(n : Int) + 1] = l:=by
      have:=List.take_append_drop (l.length - 1) l
      rw [drop_cons l (l.length - 1) (by omega),← el,c,List.drop_eq_nil_of_le (by omega)] at this
      exact this
     have ht : IsS (n : Int) (l.take (l.length - 1)):=isS_mono (hs.take _) (fun x hx=>by
      have h1:=hs.sorted
      rw [← e1] at h1
      have:=(List.pairwise_append.1 h1).2.2 x hx ((n : Int) + 1) (by simp)
      omega)
     have hlt :(l.take (l.length - 1)).length + 1 = l.length:=by rw [List.length_take];omega
     have ev : doorAt l 0 0 = ch (n + 1) l.length - 1 - doorAt (l.take (l.length - 1)) 0 0:=by
      conv=>lhs;rw [← e1]
      rw [doorAt_snoc,show((n : Int) + 1).toNat = n + 1 by omega,Nat.zero_add,hlt]
     obtain ⟨g0,g1⟩:=doorAt_range _ ht.sorted (fun x hx=>(ht.mem x hx).1)
     have g2:=g1 n (fun x hx=>(ht.mem x hx).2)
     have b1:=ch_le64 (n:=n) (k:=(l.take (l.length - 1)).length) (by omega)
     have b2:=ch_le64 (n:=n + 1) (k:=l.length) (by omega)
     have ih:=refChoiceAt_ev n (l.take (l.length - 1)) (by omega) ht
     rw [ev]
     generalize doorAt (l.take (l.length - 1)) 0 0 = D at *
     have hM:=many_ev (n:=n + 1) (kk:=l.length) (by omega) (by omega)
     refine Ev.step (f:=fun k=>(q10_Many.f k ((n + 1 : Nat) : Int) (l.length : Int)).bind fun t313=>((q10_ChoiceAt.f k (n : Int) (l.take (l.length - 1))).bind fun t315=>(some (wrap64 ((wrap64 (t313 - 1)) - t315))))) (fun k=>?_) (Ev.bind (f:=fun k (t : Int)=>_) hM (Ev.bind (f:=fun k (t : Int)=>_) ih (Ev.congr (fun k=>?_) (Ev.now _))))
     ·simp only [q10_ChoiceAt.j0]
      rw [if_neg (by decide),w64 (x:=(l.length : Int) - 1) (by omega) (by omega),if_pos (by omega),if_pos (by omega),if_pos (by omega),pred64 n (by omega),show((l.length : Int) - 1).toNat = l.length - 1 by omega]
      simp only [if_pos (show(l.length : Int) - 1 ≤(l.length : Int) by omega)]
     ·rw [w64 (x:=ch (n + 1) l.length - 1) (by omega) (by omega),w64 (by omega) (by omega)]
    have hm :(n : Int) + 1 ∉ l:=fun hm=>c (hlast.1 hm).2
    have ih:=refChoiceAt_ev n l (by omega) (isS_mono hs (fun x hx=>by
     have h1:=(hs.mem x hx).2
     have h2 : x ≠(n : Int) + 1:=fun e=>hm (e ▸ hx)
     omega))
    refine Ev.step (f:=fun k=>(q10_ChoiceAt.f k (n : Int) l).bind fun t=>some t) (fun k=>?_) (Ev.bind (f:=fun k (t : Int)=>some t) ih (Ev.now _))
    simp only [q10_ChoiceAt.j0]
    rw [if_neg (by decide),w64 (x:=(l.length : Int) - 1) (by omega) (by omega),if_pos (by omega),if_pos (by omega),if_neg (by omega),pred64 n (by omega)]
theorem choices_j4 (n : Nat) (hn : n≤40) (s : List Int) (hs : s.length≤42) : ∀ p q : Int,(if IsS (n : Int) s then(doorAt s 0 0,(0 : Int)) else(0,2)) =(p,q)→Ev (fun k=>w10_TurnsChoices.j4 k (n : Int) s p q) true:=by
 intro p q e
 have h1:=sets_ev (n : Int) s (by omega)
 by_cases c : IsS (n : Int) s
 rotate_left
 ·rw [if_neg c] at e
  injection e with e1 e2
  subst e1;subst e2
  rw [decide_eq_false c] at h1
  refine Ev.step (fun k=>rfl) ?_
  refine Ev.bind (f:=fun k (t : Bool)=>_) h1 ?_
  refine Ev.congr (fun k=>if_neg (by decide)) ?_
  refine Ev.congr (fun k=>if_pos rfl) ?_
  refine Ev.congr (fun k=>if_pos rfl) ?_
  exact awake_some
 rw [if_pos c] at e
 injection e with e1 e2
 subst e1;subst e2
 rw [decide_eq_true c] at h1
 refine Ev.step (fun k=>rfl) ?_
 refine Ev.bind (f:=fun k (t : Bool)=>_) h1 ?_
 refine Ev.congr (fun k=>if_pos rfl) ?_
 refine Ev.bind (f:=fun k (t : Int)=>_) (refChoiceAt_ev n s hn c) ?_
 refine Ev.congr (fun k=>if_pos rfl) ?_
 refine Ev.congr (fun k=>if_pos rfl) ?_
 exact awake_some
theorem choices_j2 {n : Nat} (hn : n ≤ 40) {kk : Nat} (hk : kk ≤ n) (a p q : Int) (s : List Int) (h2 : Ev (fun k => w10_TurnsChoices.j4 k (n : Int) s p q) true) :
  ∀ o w,(if 0≤a∧a≤ch n kk - 1 then(door n kk a,(0 : Int)) else([],2)) =(o,w)→Ev (fun k=>w10_TurnsChoices.j2 k (n : Int) s (kk : Int) a o w p q (ch n kk) false) true:=by
 intro o w ho
 by_cases ca : 0≤a∧a≤ch n kk - 1
 rotate_left
 ·rw [if_neg ca] at ho
  injection ho with e1 e2
  subst e1;subst e2
  refine Ev.step (f:=fun k=>w10_TurnsChoices.j3 k (n : Int) s (kk : Int) a [] 2 p q true) (fun k=>?_) ?_
  ·simp only [w10_TurnsChoices.j2]
   by_cases c1 : a < 0
   ·rw [if_neg (by decide),if_pos c1]
   rw [if_neg (by decide),if_neg c1,decide_eq_true (by omega)]
  refine Ev.step (f:=fun k=>w10_TurnsChoices.j4 k (n : Int) s p q) (fun k=>?_) h2
  simp only [w10_TurnsChoices.j3]
  rw [if_pos trivial,if_pos (by rfl),if_pos trivial]
 rw [if_pos ca] at ho
 injection ho with e1 e2
 subst e1;subst e2
 refine Ev.step (f:=fun k=>w10_TurnsChoices.j3 k (n : Int) s (kk : Int) a (door n kk a) 0 p q false) (fun k=>?_) ?_
 ·simp only [w10_TurnsChoices.j2]
  rw [if_neg (by decide),if_neg (by omega),decide_eq_false (by omega)]
 refine Ev.step (f:=fun k=>(q10_Choice.f k (n : Int) (kk : Int) a).bind fun t331=>((w10_ints.f k (door n kk a) t331).bind fun t334=>(if t334 = true then(if(0 : Int) = 0 then(w10_TurnsChoices.j4 k (n : Int) s p q) else(some false)) else(some false)))) (fun k=>?_) ?_
 ·simp only [w10_TurnsChoices.j3]
  rw [if_neg (by decide)]
 refine Ev.bind (f:=fun k (t : List Int)=>_) (refChoice_ev n kk a hn hk ca.1 (by omega)) ?_
 have hi:=ints_ev (door n kk a) (door n kk a) (by have:=isS_len (door_isS n kk a);omega)
 rw [decide_eq_true rfl] at hi
 refine Ev.bind (f:=fun k (t : Bool)=>_) hi ?_
 refine Ev.congr (fun k=>if_pos rfl) ?_
 exact Ev.congr (fun k=>if_pos rfl) h2
theorem turnsChoices_law (n kk a : Int) (l2 : List Int) : ∃ k,w10_TurnsChoices.f k n kk a l2 = some true:=by
 refine Ev.rounds ?_
 have hl :(l2.take 42).length≤42:=by rw [List.length_take];omega
 obtain ⟨s,es⟩ : ∃ d,l2.take 42 = d:=⟨_,rfl⟩
 rw [es] at hl
 have hat:=choiceAt_ev n s (by omega)
 unfold w10_TurnsChoices.f w10_list.f turns_Choice.f turns_Many.f
 rw [es]
 simp only [Option.bind_some]
 by_cases c : 0≤n∧n≤40
 rotate_left
 ·rw [if_neg (fun h => c h.1)] at hat
  rw [if_neg (fun h=>c ⟨h.1,h.2.1⟩),if_neg (fun h=>c ⟨h.1,h.2.1⟩)]
  have hj : Ev (fun k=>w10_TurnsChoices.j0 k n s kk a [] 2 0 2 0 2 true) true:=by
   refine Ev.step (f:=fun k=>(w10_awake.f k).bind fun z=>some z) (fun k=>?_) awake_some
   simp only [w10_TurnsChoices.j0]
   rw [if_pos trivial,if_pos (by rfl),if_pos trivial,if_pos trivial,if_pos trivial,if_pos trivial,if_pos trivial]
  refine Ev.bind (f:=fun k (t : Int×Int)=>_) hat ?_
  by_cases c1 : n < 0
  ·exact Ev.congr (fun k=>if_pos c1) hj
  refine Ev.congr (fun k=>if_neg c1) ?_
  rw [decide_eq_true (show n > 40 by omega)]
  exact hj
 obtain ⟨m,rfl⟩ : ∃ m : Nat,n = m:=⟨n.toNat,by omega⟩
 have hm :((m : Int)).toNat = m:=by omega
 rw [hm]
 obtain ⟨p,q,e⟩ : ∃ p q,(if IsS (m : Int) s then(doorAt s 0 0,(0 : Int)) else(0,2)) =(p,q):=⟨_,_,rfl⟩
 have h4:=choices_j4 m (by omega) s hl p q e
 simp only [c,true_and] at hat
 rw [e] at hat
 have c0 : ¬ (m : Int) < 0:=by omega
 have c40 : decide ((m : Int) > 40) = false:=decide_eq_false (by omega)
 have hm40 : m≤40:=by omega
 refine Ev.bind (f:=fun k (t : Int×Int)=>_) hat ?_
 refine Ev.congr (fun k=>if_neg c0) ?_
 rw [c40]
 by_cases ck : 0≤kk∧kk ≤(m : Int)
 rotate_left
 ·rw [if_neg (fun h => ck ⟨h.2.2.1, h.2.2.2.1⟩), if_neg (fun h => ck ⟨h.2.2.1, h.2.2.2⟩)]
  refine Ev.step (f:=fun k=>w10_TurnsChoices.j1 k (m : Int) s kk a [] 2 p q 0 2 true) (fun k=>?_) ?_
  ·simp only [w10_TurnsChoices.j0]
   by_cases c1 : kk < 0
   ·rw [if_neg (by decide),if_pos c1]
   rw [if_neg (by decide),if_neg c1,decide_eq_true (by omega)]
  refine Ev.step (f:=fun k=>w10_TurnsChoices.j4 k (m : Int) s p q) (fun k=>?_) h4
  simp only [w10_TurnsChoices.j1]
  rw [if_pos trivial,if_pos (by rfl),if_pos trivial,if_pos trivial,if_pos trivial]
 obtain ⟨j,rfl⟩ : ∃ j : Nat,kk = j:=⟨kk.toNat,by omega⟩
 rw [show((j : Int)).toNat = j by omega,if_pos (show 0 ≤(m : Int) ∧(m : Int)≤40∧0 ≤(j : Int) ∧(j : Int) ≤(m : Int) from⟨c.1,c.2,ck.1,ck.2⟩)]
 obtain ⟨o,w,ho⟩ : ∃ o w,(if 0≤a∧a≤ch m j - 1 then(door m j a,(0 : Int)) else([],2)) =(o,w):=⟨_,_,rfl⟩
 have hi2 :(if 0 ≤(m : Int) ∧(m : Int)≤40∧0 ≤(j : Int) ∧(j : Int) ≤(m : Int)∧0≤a∧a≤ch m j - 1 then(door m j a,(0 : Int)) else([],2)) =(o,w):=by
  rw [← ho]
  by_cases ca : 0≤a∧a≤ch m j - 1
  ·rw [if_pos ⟨c.1,c.2,ck.1,ck.2,ca.1,ca.2⟩,if_pos ca]
  ·rw [if_neg (fun h=>ca ⟨h.2.2.2.2.1,h.2.2.2.2.2⟩),if_neg ca]
 rw [hi2]
 have hkm : j≤m:=by omega
 have h2:=choices_j2 hm40 hkm a p q s h4 o w ho
 refine Ev.step (f:=fun k=>w10_TurnsChoices.j1 k (m : Int) s (j : Int) a o w p q (ch m j) 0 false) (fun k=>?_) ?_
 ·simp only [w10_TurnsChoices.j0]
  rw [if_neg (by decide),if_neg (by omega),decide_eq_false (by omega)]
 refine Ev.step (f:=fun k=>(q10_Many.f k (m : Int) (j : Int)).bind fun t330=>(if ch m j = t330 then(w10_TurnsChoices.j2 k (m : Int) s (j : Int) a o w p q (ch m j) false) else(w10_TurnsChoices.j2 k (m : Int) s (j : Int) a o w p q (ch m j) true))) (fun k=>?_) ?_
 ·simp only [w10_TurnsChoices.j1]
  rw [if_neg (by decide)]
  rfl
 refine Ev.bind (f:=fun k (t : Int)=>_) (many_ev hm40 hkm) ?_
 exact Ev.congr (fun k=>if_pos rfl) h2
end Go.Proofs.Ytbfhlaggllofdaa.P

namespace Go.Proofs.Ytbfhlaggllofdaa.Open
open Go.ChangeShapes Go.WideShapes Go.ChangeAt Go.RowKit
open Go.Proofs.Ytbfhlaggllofdaa.S Go.Proofs.Ytbfhlaggllofdaa.Lib Go.Proofs.YtbfhlaggllofdaaW.PrintWords Go.Proofs.YtbfhlaggllofdaaW.PrintLast Go.Proofs.YtbfhlaggllofdaaW.PrintMore
set_option linter.unusedVariables false
set_option maxRecDepth 100000

theorem cells1 : Try.prog.cellsOf 3 = 1:=by kernel_rfl
section
variable {H : Type} {enc : TypeId × Value → H} {W : World} {base : Nat} {spare : Nat → Bool} {held : Bool}
theorem okWide_array {P : Program} {w : World} {r : Reach} {b0 n : Nat} {t e : TypeId} {v : Value} (ht : P.underlying t = some (.array n e)) (h : Value.okWide P w r b0 t v) : ∃ cs,v = .agg cs∧cs.size = P.cellsOf t:=by
 simp only [Value.okWide,ht] at h
 obtain ⟨cs,h1,h2,_⟩:=h
 exact⟨cs,h1,h2⟩
theorem open_two {r : Reach} {b0 : Nat} {v : Value} {d : DataW H} {ps : List MemPlace} (hv : Value.okWide Try.prog W r b0 45 v) (h : DataW.Trod enc Try.prog W base spare held 45 v d ps) :
  ∃ a b : Int,v = .agg #[.int .i64 a,.int .i64 b] ∧(Lit.int .i64 a).wf = true ∧(Lit.int .i64 b).wf = true:=by
 obtain ⟨cs,rfl,hsz⟩:=okWide_array Try.underlying45 hv
 obtain ⟨fuel,hf⟩:=h
 have hc : Try.prog.cellsOf 45 = 2:=by kernel_rfl
 rw [hc] at hsz
 obtain ⟨xs,m,_,_,_,hxl,hel⟩:=DataW.trod_array Try.underlying45 hf
 obtain ⟨c0,c1,rfl⟩ : ∃ c0 c1,cs = #[c0,c1]:=by
  obtain ⟨l⟩:=cs
  match l,hsz with
  | [a,b],_=>exact⟨a,b,rfl⟩
 have e0:=hel 0 (by omega)
 have e1:=hel 1 (by omega)
 simp only [cells1] at e0 e1
 rw [List.getElem?_eq_getElem (by omega)] at e0 e1
 obtain ⟨n0,h0,_,w0⟩:=DataW.trod_int Try.underlying3 e0
 obtain ⟨n1,h1,_,w1⟩:=DataW.trod_int Try.underlying3 e1
 refine⟨n0,n1,?_,w0,w1⟩
 simp [Value.cells] at h0 h1
 rw [h0,h1]
end
end Go.Proofs.Ytbfhlaggllofdaa.Open
