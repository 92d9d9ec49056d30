-- Written by wip/bundle2.py: texts of this claim, one behind the other.
import Derived.Test.YtbfhlaggllofdaaBTurnsOrderSteps1
set_option linter.unusedVariables false
set_option linter.unusedSimpArgs false

namespace Go.Proofs.Ytbfhlaggllofdaa.S
open Go.Proofs.Ytbfhlaggllofdaa.Lib
open Go.Maps (Keyed)
open Go.RowKit Go.Proofs.YtbfhlaggllofdaaW.PrintWords Go.Proofs.YtbfhlaggllofdaaW.PrintLast Go.Proofs.YtbfhlaggllofdaaW.PrintMore
attribute [local go_sem] max2_int min2_int max_two min_two max_three min_three max_four min_four
set_option linter.unusedVariables false
set_option linter.unusedSimpArgs false

attribute [local go_sem high] eqA45
mutual
def w10_TurnsOrderSteps.j0 : Nat → Int → Int → Int → List Int → Bool → Int → Int → Option (Bool)
 | 0,_,_,_,_,_,_,_=>none
 | k + 1,x0,x1,x5,x6,x64,x612000,x612001=>if x64 = true then(some false) else(if x1 =(wrap64 (x5 - 1)) then(if(x612000 ==(-1) && (x612001 ==(-1))) = true then((w10_awake.f k).bind fun t615=>(some t615)) else(some false)) else(if x612000 < 0 then(w10_TurnsOrderSteps.j1 k x0 x1 x6 true x612000 x612001) else(if x612000 ≥ (wrap64 (x0 - 1)) then(w10_TurnsOrderSteps.j1 k x0 x1 x6 true x612000 x612001) else(w10_TurnsOrderSteps.j1 k x0 x1 x6 (x612001 !=(wrap64 (x612000 + 1))) x612000 x612001))))
def w10_TurnsOrderSteps.j1 : Nat → Int → Int → List Int → Bool → Int → Int → Option (Bool)
 | 0,_,_,_,_,_,_=>none
 | k + 1,x0,x1,x6,x92,x612000,x612001=>if x92 = true then(some false) else((turns_Order.f x0 (wrap64 (x1 + 1))).bind fun bt616=>(if 0≤x612000 then(if x612000 < (x6.length : Int) then(if 0≤x612001 then(if x612001 < (x6.length : Int) then(if bt616.2 = 0 then((w10_ints.f k ((x6.set (x612000 : Int).toNat (rd x6 x612001)).set (x612001 : Int).toNat (rd x6 x612000)) bt616.1).bind fun t624=>(if t624 = true then((w10_awake.f k).bind fun t625=>(some t625)) else(some false))) else(some false)) else(none)) else(none)) else(none)) else(none)))
end
def w10_TurnsOrderSteps.f (k : Nat) (a0 : Int) (a1 : Int) : Option (Bool):=(w10_mod.f a0 19).bind fun t601=>((q10_Factorial.f k t601).bind fun t602=>((w10_mod.f a1 t602).bind fun t603=>((turns_Order.f t601 t603).bind fun bt604=>((turns_Turn.f k bt604.1).bind fun bt608=>((turns_OrderAt.f k bt604.1).bind fun bt612=>(if bt604.2 = 0 then(if bt608.2.2 = 0 then(if bt612.2 = 0 then(if bt612.1 = t603 then(if(bt604.1.length : Int) = t601 then((q10_Orders.f k bt604.1).bind fun t614=>(w10_TurnsOrderSteps.j0 k t601 t603 t602 bt604.1 (!t614) bt608.1 bt608.2.1)) else(w10_TurnsOrderSteps.j0 k t601 t603 t602 bt604.1 true bt608.1 bt608.2.1)) else(w10_TurnsOrderSteps.j0 k t601 t603 t602 bt604.1 true bt608.1 bt608.2.1)) else(w10_TurnsOrderSteps.j0 k t601 t603 t602 bt604.1 true bt608.1 bt608.2.1)) else(w10_TurnsOrderSteps.j0 k t601 t603 t602 bt604.1 true bt608.1 bt608.2.1)) else(w10_TurnsOrderSteps.j0 k t601 t603 t602 bt604.1 true bt608.1 bt608.2.1)))))))
set_option maxHeartbeats 8000000 in
set_option maxRecDepth 100000 in
theorem w10_TurnsOrderSteps.calls (k : Nat) (a0 : Int) (a1 : Int) (r : Bool) (w : World) (h : w10_TurnsOrderSteps.f k a0 a1 = some r) :
  Calls Try.prog 14 #[.int .i64 a0,.int .i64 a1] w fun e w'=>e = .returned (.bool r)∧Below w.heap.size w w':=by
 have hu45:=Try.underlying45
 have HB:=Aside0.mk (Below.refl w.heap.size w)
 have H :((w10_mod.f a0 19).bind fun t601=>((q10_Factorial.f k t601).bind fun t602=>((w10_mod.f a1 t602).bind fun t603=>((turns_Order.f t601 t603).bind fun bt604=>((turns_Turn.f k bt604.1).bind fun bt608=>((turns_OrderAt.f k bt604.1).bind fun bt612=>(if bt604.2 = 0 then(if bt608.2.2 = 0 then(if bt612.2 = 0 then(if bt612.1 = t603 then(if(bt604.1.length : Int) = t601 then((q10_Orders.f k bt604.1).bind fun t614=>(w10_TurnsOrderSteps.j0 k t601 t603 t602 bt604.1 (!t614) bt608.1 bt608.2.1)) else(w10_TurnsOrderSteps.j0 k t601 t603 t602 bt604.1 true bt608.1 bt608.2.1)) else(w10_TurnsOrderSteps.j0 k t601 t603 t602 bt604.1 true bt608.1 bt608.2.1)) else(w10_TurnsOrderSteps.j0 k t601 t603 t602 bt604.1 true bt608.1 bt608.2.1)) else(w10_TurnsOrderSteps.j0 k t601 t603 t602 bt604.1 true bt608.1 bt608.2.1)) else(w10_TurnsOrderSteps.j0 k t601 t603 t602 bt604.1 true bt608.1 bt608.2.1)))))))) = some r:=h
 clear h
 replace H:=Option.bind_eq_some_iff.mp H
 obtain ⟨t601,A30,H⟩:=H
 replace H :((q10_Factorial.f k t601).bind fun t602=>((w10_mod.f a1 t602).bind fun t603=>((turns_Order.f t601 t603).bind fun bt604=>((turns_Turn.f k bt604.1).bind fun bt608=>((turns_OrderAt.f k bt604.1).bind fun bt612=>(if bt604.2 = 0 then(if bt608.2.2 = 0 then(if bt612.2 = 0 then(if bt612.1 = t603 then(if(bt604.1.length : Int) = t601 then((q10_Orders.f k bt604.1).bind fun t614=>(w10_TurnsOrderSteps.j0 k t601 t603 t602 bt604.1 (!t614) bt608.1 bt608.2.1)) else(w10_TurnsOrderSteps.j0 k t601 t603 t602 bt604.1 true bt608.1 bt608.2.1)) else(w10_TurnsOrderSteps.j0 k t601 t603 t602 bt604.1 true bt608.1 bt608.2.1)) else(w10_TurnsOrderSteps.j0 k t601 t603 t602 bt604.1 true bt608.1 bt608.2.1)) else(w10_TurnsOrderSteps.j0 k t601 t603 t602 bt604.1 true bt608.1 bt608.2.1)) else(w10_TurnsOrderSteps.j0 k t601 t603 t602 bt604.1 true bt608.1 bt608.2.1))))))) = some r:=H
 have A3:=Aside0.mk A30
 clear A30
 replace H:=Option.bind_eq_some_iff.mp H
 obtain ⟨t602,A40,H⟩:=H
 replace H :((w10_mod.f a1 t602).bind fun t603=>((turns_Order.f t601 t603).bind fun bt604=>((turns_Turn.f k bt604.1).bind fun bt608=>((turns_OrderAt.f k bt604.1).bind fun bt612=>(if bt604.2 = 0 then(if bt608.2.2 = 0 then(if bt612.2 = 0 then(if bt612.1 = t603 then(if(bt604.1.length : Int) = t601 then((q10_Orders.f k bt604.1).bind fun t614=>(w10_TurnsOrderSteps.j0 k t601 t603 t602 bt604.1 (!t614) bt608.1 bt608.2.1)) else(w10_TurnsOrderSteps.j0 k t601 t603 t602 bt604.1 true bt608.1 bt608.2.1)) else(w10_TurnsOrderSteps.j0 k t601 t603 t602 bt604.1 true bt608.1 bt608.2.1)) else(w10_TurnsOrderSteps.j0 k t601 t603 t602 bt604.1 true bt608.1 bt608.2.1)) else(w10_TurnsOrderSteps.j0 k t601 t603 t602 bt604.1 true bt608.1 bt608.2.1)) else(w10_TurnsOrderSteps.j0 k t601 t603 t602 bt604.1 true bt608.1 bt608.2.1)))))) = some r:=H
 have A4:=Aside0.mk A40
 clear A40
 replace H:=Option.bind_eq_some_iff.mp H
 obtain ⟨t603,A50,H⟩:=H
 replace H :((turns_Order.f t601 t603).bind fun bt604=>((turns_Turn.f k bt604.1).bind fun bt608=>((turns_OrderAt.f k bt604.1).bind fun bt612=>(if bt604.2 = 0 then(if bt608.2.2 = 0 then(if bt612.2 = 0 then(if bt612.1 = t603 then(if(bt604.1.length : Int) = t601 then((q10_Orders.f k bt604.1).bind fun t614=>(w10_TurnsOrderSteps.j0 k t601 t603 t602 bt604.1 (!t614) bt608.1 bt608.2.1)) else(w10_TurnsOrderSteps.j0 k t601 t603 t602 bt604.1 true bt608.1 bt608.2.1)) else(w10_TurnsOrderSteps.j0 k t601 t603 t602 bt604.1 true bt608.1 bt608.2.1)) else(w10_TurnsOrderSteps.j0 k t601 t603 t602 bt604.1 true bt608.1 bt608.2.1)) else(w10_TurnsOrderSteps.j0 k t601 t603 t602 bt604.1 true bt608.1 bt608.2.1)) else(w10_TurnsOrderSteps.j0 k t601 t603 t602 bt604.1 true bt608.1 bt608.2.1))))) = some r:=H
 have A5:=Aside0.mk A50
 clear A50
 replace H:=Option.bind_eq_some_iff.mp H
 obtain ⟨⟨t604,t605⟩,A60,H⟩:=H
 replace H :((turns_Turn.f k t604).bind fun bt608=>((turns_OrderAt.f k t604).bind fun bt612=>(if t605 = 0 then(if bt608.2.2 = 0 then(if bt612.2 = 0 then(if bt612.1 = t603 then(if(t604.length : Int) = t601 then((q10_Orders.f k t604).bind fun t614=>(w10_TurnsOrderSteps.j0 k t601 t603 t602 t604 (!t614) bt608.1 bt608.2.1)) else(w10_TurnsOrderSteps.j0 k t601 t603 t602 t604 true bt608.1 bt608.2.1)) else(w10_TurnsOrderSteps.j0 k t601 t603 t602 t604 true bt608.1 bt608.2.1)) else(w10_TurnsOrderSteps.j0 k t601 t603 t602 t604 true bt608.1 bt608.2.1)) else(w10_TurnsOrderSteps.j0 k t601 t603 t602 t604 true bt608.1 bt608.2.1)) else(w10_TurnsOrderSteps.j0 k t601 t603 t602 t604 true bt608.1 bt608.2.1)))) = some r:=H
 have A6:=Aside0.mk A60
 clear A60
 replace H:=Option.bind_eq_some_iff.mp H
 obtain ⟨⟨t608,t609,t610⟩,A70,H⟩:=H
 replace H :((turns_OrderAt.f k t604).bind fun bt612=>(if t605 = 0 then(if t610 = 0 then(if bt612.2 = 0 then(if bt612.1 = t603 then(if(t604.length : Int) = t601 then((q10_Orders.f k t604).bind fun t614=>(w10_TurnsOrderSteps.j0 k t601 t603 t602 t604 (!t614) t608 t609)) else(w10_TurnsOrderSteps.j0 k t601 t603 t602 t604 true t608 t609)) else(w10_TurnsOrderSteps.j0 k t601 t603 t602 t604 true t608 t609)) else(w10_TurnsOrderSteps.j0 k t601 t603 t602 t604 true t608 t609)) else(w10_TurnsOrderSteps.j0 k t601 t603 t602 t604 true t608 t609)) else(w10_TurnsOrderSteps.j0 k t601 t603 t602 t604 true t608 t609))) = some r:=H
 have A7:=Aside0.mk A70
 clear A70
 replace H:=Option.bind_eq_some_iff.mp H
 obtain ⟨⟨t612,t613⟩,A80,H⟩:=H
 replace H :(if t605 = 0 then(if t610 = 0 then(if t613 = 0 then(if t612 = t603 then(if(t604.length : Int) = t601 then((q10_Orders.f k t604).bind fun t614=>(w10_TurnsOrderSteps.j0 k t601 t603 t602 t604 (!t614) t608 t609)) else(w10_TurnsOrderSteps.j0 k t601 t603 t602 t604 true t608 t609)) else(w10_TurnsOrderSteps.j0 k t601 t603 t602 t604 true t608 t609)) else(w10_TurnsOrderSteps.j0 k t601 t603 t602 t604 true t608 t609)) else(w10_TurnsOrderSteps.j0 k t601 t603 t602 t604 true t608 t609)) else(w10_TurnsOrderSteps.j0 k t601 t603 t602 t604 true t608 t609)) = some r:=H
 have A8:=Aside0.mk A80
 clear A80
 have HC9:=Aside0.mk H
 clear H
 go_enter Try.func14,Try.ntmps14
 go_upto_region 7 with (first |(go_at_call 26;(with_reducible refine(w10_mod.calls a0 19 t601 _ A3.out).mono ?_);rintro e w' ⟨rfl,⟨nd,rfl⟩⟩;(try first | exact⟨rfl,_,World.drewN_drewN _ _ _⟩ | exact⟨rfl,_,Eq.trans (World.drewN_drewN _ _ _) (congrArg (World.drewN _) (Nat.add_assoc _ _ _))⟩)) |(go_at_call 29;(with_reducible refine(q10_Factorial.calls k t601 t602 _ A4.out).mono ?_);rintro e w' ⟨rfl,⟨nd,rfl⟩⟩;(try first | exact⟨rfl,_,World.drewN_drewN _ _ _⟩ | exact⟨rfl,_,Eq.trans (World.drewN_drewN _ _ _) (congrArg (World.drewN _) (Nat.add_assoc _ _ _))⟩)) |(go_at_call 26;(with_reducible refine(w10_mod.calls a1 t602 t603 _ A5.out).mono ?_);rintro e w' ⟨rfl,⟨nd,rfl⟩⟩;(try first | exact⟨rfl,_,World.drewN_drewN _ _ _⟩ | exact⟨rfl,_,Eq.trans (World.drewN_drewN _ _ _) (congrArg (World.drewN _) (Nat.add_assoc _ _ _))⟩)) |(go_at_call 48;(with_reducible refine(turns_Order.calls t601 t603 t604 t605 _ A6.out).mono ?_);rintro e w10 ⟨v606,rfl,ho0,hb⟩;have n0_:=Aside0.mk (Kd.R_lower ho0 (bwZ (by repeat(first |(with_reducible first | exact HB.out | apply bwA | apply bwN | apply bw1) | exact HB.out))));have n1_:=Aside0.mk (bwT (by repeat(first |(with_reducible first | exact HB.out | apply bwA | apply bwN | apply bw1) | exact HB.out)) hb);clear HB;have HO607:=n0_;have HB:=n1_;clear n0_ n1_;(try clear hb);(try clear hb2);(try clear hk);(try clear hi);(try clear ho0);obtain ⟨Ao11,co11,eo11⟩:=Kd.R_slice HO607.out;subst eo11) |(go_at_call 50;(with_reducible refine(turns_Turn.calls k _ _ t604 t608 t609 t610 _ ?side1 ?side2 A7.out).mono ?_);(case side1=>repeat(first | exact(Kd.R_reads' HO607.out).2.2 |(with_reducible refine Kd.C_alloc ?_ _) |(with_reducible refine Kd.C_drewN ?_ _) |(with_reducible refine Kd.C_drew ?_)));(case side2=>exact(Kd.R_reads' HO607.out).2.1);rintro e w12 ⟨rfl,hb⟩;have n0_:=Aside0.mk (Kd.R_below (by(with_reducible repeat(first | apply Kd.R_alloc | apply Kd.R_drewN | apply Kd.R_drew));exact HO607.out) hb);have n1_:=Aside0.mk (bwT (by repeat(first |(with_reducible first | exact HB.out | apply bwA | apply bwN | apply bw1) | exact HB.out)) hb);clear HO607;clear HB;have HO607:=n0_;have HB:=n1_;clear n0_ n1_;(try clear hb);(try clear hb2);(try clear hk);(try clear hi)) |((with_reducible refine gate_dst (N:=8) rfl ?_);(try(refine gate_guard (by rfl) ?_;dsimp only));refine box_event ?hg (N:=8) ?hd (cs:=#[.int .i64 0,.int .i64 0]) (t:=45) ?hr ?_;(case hd=>rfl);(case hg=>rfl);(case hr=>first |(go_simp;done) |(go_simp;rfl));intro gb611 hg w13 hbox hb;have n0_:=Aside0.mk (Kd.R_below (by(with_reducible repeat(first | apply Kd.R_alloc | apply Kd.R_drewN | apply Kd.R_drew));exact HO607.out) hb);have n1_:=Aside0.mk (bwT (by repeat(first |(with_reducible first | exact HB.out | apply bwA | apply bwN | apply bw1) | exact HB.out)) hb);have n2_:=Aside0.mk (hbox);have n3_:=Aside0.mk ((by rw [hg];exact(bwZ (by repeat(first |(with_reducible first | exact HB.out | apply bwA | apply bwN | apply bw1) | exact HB.out))) : w.heap.size≤gb611));have n4_:=Aside0.mk ((by rw [hg];exact(bwZ (by repeat(first |(with_reducible first | exact HB.out | apply bwA | apply bwN | apply bw1) | exact HB.out))) : w.heap.size≤gb611));clear HO607;clear HB;have HO607:=n0_;have HB:=n1_;have BK611:=n2_;have GW611:=n3_;have GE611:=n4_;clear n0_ n1_ n2_ n3_ n4_;clear hb hbox hg;have hcz14_0 : w13.cell? ⟨gb611,0,none⟩ = some (.int .i64 0):=(bkC BK611.out 0).trans rfl;have hcz14_1 : w13.cell? ⟨gb611,1,none⟩ = some (.int .i64 0):=(bkC BK611.out 1).trans rfl;have hfz14_0:=bkF BK611.out 0;have hfz14_1:=bkF BK611.out 1) |(go_at_call 49;(with_reducible refine(turns_OrderAt.calls k _ _ t604 t612 t613 _ ?side1 ?side2 A8.out).mono ?_);(case side1=>refine(Kd.R_reads' (e:=3) (base:=w.heap.size) (ok:=fun k_=>True) (n:=t604.length) (c:=co11) ?_).2.2;exact(by(with_reducible repeat(first | apply Kd.R_alloc | apply Kd.R_drewN | apply Kd.R_drew));exact(Kd.R_mono (Kd.R_far (p:=⟨gb611,1,none⟩) (Kd.R_far (p:=⟨gb611,0,none⟩) (Kd.R_types HO607.out BK611.out (by decide)) (fun _ hk=>hk.2) (.int .i64 t608)) (fun _ hk=>hk.2) (.int .i64 t609)) (fun _ h_=>by first | exact h_.1 | exact⟨trivial,h_.1⟩))));(case side2=>exact(Kd.R_reads' HO607.out).2.1);rintro e w' ⟨rfl,⟨nd,rfl⟩⟩;(try first | exact⟨rfl,_,World.drewN_drewN _ _ _⟩ | exact⟨rfl,_,Eq.trans (World.drewN_drewN _ _ _) (congrArg (World.drewN _) (Nat.add_assoc _ _ _))⟩)))
 repeat(go_quiet (first |(go_at_call 26;(with_reducible refine(w10_mod.calls a0 19 t601 _ A3.out).mono ?_);rintro e w' ⟨rfl,⟨nd,rfl⟩⟩;(try first | exact⟨rfl,_,World.drewN_drewN _ _ _⟩ | exact⟨rfl,_,Eq.trans (World.drewN_drewN _ _ _) (congrArg (World.drewN _) (Nat.add_assoc _ _ _))⟩)) |(go_at_call 29;(with_reducible refine(q10_Factorial.calls k t601 t602 _ A4.out).mono ?_);rintro e w' ⟨rfl,⟨nd,rfl⟩⟩;(try first | exact⟨rfl,_,World.drewN_drewN _ _ _⟩ | exact⟨rfl,_,Eq.trans (World.drewN_drewN _ _ _) (congrArg (World.drewN _) (Nat.add_assoc _ _ _))⟩)) |(go_at_call 26;(with_reducible refine(w10_mod.calls a1 t602 t603 _ A5.out).mono ?_);rintro e w' ⟨rfl,⟨nd,rfl⟩⟩;(try first | exact⟨rfl,_,World.drewN_drewN _ _ _⟩ | exact⟨rfl,_,Eq.trans (World.drewN_drewN _ _ _) (congrArg (World.drewN _) (Nat.add_assoc _ _ _))⟩)) |(go_at_call 48;(with_reducible refine(turns_Order.calls t601 t603 t604 t605 _ A6.out).mono ?_);rintro e w10 ⟨v606,rfl,ho0,hb⟩;have n0_:=Aside0.mk (Kd.R_lower ho0 (bwZ (by repeat(first |(with_reducible first | exact HB.out | apply bwA | apply bwN | apply bw1) | exact HB.out))));have n1_:=Aside0.mk (bwT (by repeat(first |(with_reducible first | exact HB.out | apply bwA | apply bwN | apply bw1) | exact HB.out)) hb);clear HB;have HO607:=n0_;have HB:=n1_;clear n0_ n1_;(try clear hb);(try clear hb2);(try clear hk);(try clear hi);(try clear ho0);obtain ⟨Ao11,co11,eo11⟩:=Kd.R_slice HO607.out;subst eo11) |(go_at_call 50;(with_reducible refine(turns_Turn.calls k _ _ t604 t608 t609 t610 _ ?side1 ?side2 A7.out).mono ?_);(case side1=>repeat(first | exact(Kd.R_reads' HO607.out).2.2 |(with_reducible refine Kd.C_alloc ?_ _) |(with_reducible refine Kd.C_drewN ?_ _) |(with_reducible refine Kd.C_drew ?_)));(case side2=>exact(Kd.R_reads' HO607.out).2.1);rintro e w12 ⟨rfl,hb⟩;have n0_:=Aside0.mk (Kd.R_below (by(with_reducible repeat(first | apply Kd.R_alloc | apply Kd.R_drewN | apply Kd.R_drew));exact HO607.out) hb);have n1_:=Aside0.mk (bwT (by repeat(first |(with_reducible first | exact HB.out | apply bwA | apply bwN | apply bw1) | exact HB.out)) hb);clear HO607;clear HB;have HO607:=n0_;have HB:=n1_;clear n0_ n1_;(try clear hb);(try clear hb2);(try clear hk);(try clear hi)) |((with_reducible refine gate_dst (N:=8) rfl ?_);(try(refine gate_guard (by rfl) ?_;dsimp only));refine box_event ?hg (N:=8) ?hd (cs:=#[.int .i64 0,.int .i64 0]) (t:=45) ?hr ?_;(case hd=>rfl);(case hg=>rfl);(case hr=>first |(go_simp;done) |(go_simp;rfl));intro gb611 hg w13 hbox hb;have n0_:=Aside0.mk (Kd.R_below (by(with_reducible repeat(first | apply Kd.R_alloc | apply Kd.R_drewN | apply Kd.R_drew));exact HO607.out) hb);have n1_:=Aside0.mk (bwT (by repeat(first |(with_reducible first | exact HB.out | apply bwA | apply bwN | apply bw1) | exact HB.out)) hb);have n2_:=Aside0.mk (hbox);have n3_:=Aside0.mk ((by rw [hg];exact(bwZ (by repeat(first |(with_reducible first | exact HB.out | apply bwA | apply bwN | apply bw1) | exact HB.out))) : w.heap.size≤gb611));have n4_:=Aside0.mk ((by rw [hg];exact(bwZ (by repeat(first |(with_reducible first | exact HB.out | apply bwA | apply bwN | apply bw1) | exact HB.out))) : w.heap.size≤gb611));clear HO607;clear HB;have HO607:=n0_;have HB:=n1_;have BK611:=n2_;have GW611:=n3_;have GE611:=n4_;clear n0_ n1_ n2_ n3_ n4_;clear hb hbox hg;have hcz14_0 : w13.cell? ⟨gb611,0,none⟩ = some (.int .i64 0):=(bkC BK611.out 0).trans rfl;have hcz14_1 : w13.cell? ⟨gb611,1,none⟩ = some (.int .i64 0):=(bkC BK611.out 1).trans rfl;have hfz14_0:=bkF BK611.out 0;have hfz14_1:=bkF BK611.out 1) |(go_at_call 49;(with_reducible refine(turns_OrderAt.calls k _ _ t604 t612 t613 _ ?side1 ?side2 A8.out).mono ?_);(case side1=>refine(Kd.R_reads' (e:=3) (base:=w.heap.size) (ok:=fun k_=>True) (n:=t604.length) (c:=co11) ?_).2.2;exact(by(with_reducible repeat(first | apply Kd.R_alloc | apply Kd.R_drewN | apply Kd.R_drew));exact(Kd.R_mono (Kd.R_far (p:=⟨gb611,1,none⟩) (Kd.R_far (p:=⟨gb611,0,none⟩) (Kd.R_types HO607.out BK611.out (by decide)) (fun _ hk=>hk.2) (.int .i64 t608)) (fun _ hk=>hk.2) (.int .i64 t609)) (fun _ h_=>by first | exact h_.1 | exact⟨trivial,h_.1⟩))));(case side2=>exact(Kd.R_reads' HO607.out).2.1);rintro e w' ⟨rfl,⟨nd,rfl⟩⟩;(try first | exact⟨rfl,_,World.drewN_drewN _ _ _⟩ | exact⟨rfl,_,Eq.trans (World.drewN_drewN _ _ _) (congrArg (World.drewN _) (Nat.add_assoc _ _ _))⟩)));go_upto_region 7 with (first |(go_at_call 26;(with_reducible refine(w10_mod.calls a0 19 t601 _ A3.out).mono ?_);rintro e w' ⟨rfl,⟨nd,rfl⟩⟩;(try first | exact⟨rfl,_,World.drewN_drewN _ _ _⟩ | exact⟨rfl,_,Eq.trans (World.drewN_drewN _ _ _) (congrArg (World.drewN _) (Nat.add_assoc _ _ _))⟩)) |(go_at_call 29;(with_reducible refine(q10_Factorial.calls k t601 t602 _ A4.out).mono ?_);rintro e w' ⟨rfl,⟨nd,rfl⟩⟩;(try first | exact⟨rfl,_,World.drewN_drewN _ _ _⟩ | exact⟨rfl,_,Eq.trans (World.drewN_drewN _ _ _) (congrArg (World.drewN _) (Nat.add_assoc _ _ _))⟩)) |(go_at_call 26;(with_reducible refine(w10_mod.calls a1 t602 t603 _ A5.out).mono ?_);rintro e w' ⟨rfl,⟨nd,rfl⟩⟩;(try first | exact⟨rfl,_,World.drewN_drewN _ _ _⟩ | exact⟨rfl,_,Eq.trans (World.drewN_drewN _ _ _) (congrArg (World.drewN _) (Nat.add_assoc _ _ _))⟩)) |(go_at_call 48;(with_reducible refine(turns_Order.calls t601 t603 t604 t605 _ A6.out).mono ?_);rintro e w10 ⟨v606,rfl,ho0,hb⟩;have n0_:=Aside0.mk (Kd.R_lower ho0 (bwZ (by repeat(first |(with_reducible first | exact HB.out | apply bwA | apply bwN | apply bw1) | exact HB.out))));have n1_:=Aside0.mk (bwT (by repeat(first |(with_reducible first | exact HB.out | apply bwA | apply bwN | apply bw1) | exact HB.out)) hb);clear HB;have HO607:=n0_;have HB:=n1_;clear n0_ n1_;(try clear hb);(try clear hb2);(try clear hk);(try clear hi);(try clear ho0);obtain ⟨Ao11,co11,eo11⟩:=Kd.R_slice HO607.out;subst eo11) |(go_at_call 50;(with_reducible refine(turns_Turn.calls k _ _ t604 t608 t609 t610 _ ?side1 ?side2 A7.out).mono ?_);(case side1=>repeat(first | exact(Kd.R_reads' HO607.out).2.2 |(with_reducible refine Kd.C_alloc ?_ _) |(with_reducible refine Kd.C_drewN ?_ _) |(with_reducible refine Kd.C_drew ?_)));(case side2=>exact(Kd.R_reads' HO607.out).2.1);rintro e w12 ⟨rfl,hb⟩;have n0_:=Aside0.mk (Kd.R_below (by(with_reducible repeat(first | apply Kd.R_alloc | apply Kd.R_drewN | apply Kd.R_drew));exact HO607.out) hb);have n1_:=Aside0.mk (bwT (by repeat(first |(with_reducible first | exact HB.out | apply bwA | apply bwN | apply bw1) | exact HB.out)) hb);clear HO607;clear HB;have HO607:=n0_;have HB:=n1_;clear n0_ n1_;(try clear hb);(try clear hb2);(try clear hk);(try clear hi)) |((with_reducible refine gate_dst (N:=8) rfl ?_);(try(refine gate_guard (by rfl) ?_;dsimp only));refine box_event ?hg (N:=8) ?hd (cs:=#[.int .i64 0,.int .i64 0]) (t:=45) ?hr ?_;(case hd=>rfl);(case hg=>rfl);(case hr=>first |(go_simp;done) |(go_simp;rfl));intro gb611 hg w13 hbox hb;have n0_:=Aside0.mk (Kd.R_below (by(with_reducible repeat(first | apply Kd.R_alloc | apply Kd.R_drewN | apply Kd.R_drew));exact HO607.out) hb);have n1_:=Aside0.mk (bwT (by repeat(first |(with_reducible first | exact HB.out | apply bwA | apply bwN | apply bw1) | exact HB.out)) hb);have n2_:=Aside0.mk (hbox);have n3_:=Aside0.mk ((by rw [hg];exact(bwZ (by repeat(first |(with_reducible first | exact HB.out | apply bwA | apply bwN | apply bw1) | exact HB.out))) : w.heap.size≤gb611));have n4_:=Aside0.mk ((by rw [hg];exact(bwZ (by repeat(first |(with_reducible first | exact HB.out | apply bwA | apply bwN | apply bw1) | exact HB.out))) : w.heap.size≤gb611));clear HO607;clear HB;have HO607:=n0_;have HB:=n1_;have BK611:=n2_;have GW611:=n3_;have GE611:=n4_;clear n0_ n1_ n2_ n3_ n4_;clear hb hbox hg;have hcz14_0 : w13.cell? ⟨gb611,0,none⟩ = some (.int .i64 0):=(bkC BK611.out 0).trans rfl;have hcz14_1 : w13.cell? ⟨gb611,1,none⟩ = some (.int .i64 0):=(bkC BK611.out 1).trans rfl;have hfz14_0:=bkF BK611.out 0;have hfz14_1:=bkF BK611.out 1) |(go_at_call 49;(with_reducible refine(turns_OrderAt.calls k _ _ t604 t612 t613 _ ?side1 ?side2 A8.out).mono ?_);(case side1=>refine(Kd.R_reads' (e:=3) (base:=w.heap.size) (ok:=fun k_=>True) (n:=t604.length) (c:=co11) ?_).2.2;exact(by(with_reducible repeat(first | apply Kd.R_alloc | apply Kd.R_drewN | apply Kd.R_drew));exact(Kd.R_mono (Kd.R_far (p:=⟨gb611,1,none⟩) (Kd.R_far (p:=⟨gb611,0,none⟩) (Kd.R_types HO607.out BK611.out (by decide)) (fun _ hk=>hk.2) (.int .i64 t608)) (fun _ hk=>hk.2) (.int .i64 t609)) (fun _ h_=>by first | exact h_.1 | exact⟨trivial,h_.1⟩))));(case side2=>exact(Kd.R_reads' HO607.out).2.1);rintro e w' ⟨rfl,⟨nd,rfl⟩⟩;(try first | exact⟨rfl,_,World.drewN_drewN _ _ _⟩ | exact⟨rfl,_,Eq.trans (World.drewN_drewN _ _ _) (congrArg (World.drewN _) (Nat.add_assoc _ _ _))⟩))))
 (try simp only [Act.put,List.setIfInBounds_toArray,List.set_cons_zero,List.set_cons_succ])
 go_cut [64] (fun v64 wc=>∃ (kq : Nat) (x64_8 : Bool),v64 = .bool x64_8∧Aside0 (w10_TurnsOrderSteps.j0 kq t601 t603 t602 t604 x64_8 t608 t609 = some r)∧Aside0 (kq≤k)∧Aside0 (Kd.R (Kd.int .i64) 3 wc w.heap.size (fun _=>True) (.slice Ao11 t604.length co11) t604)∧Aside0 (wc.heap[gb611]? = some (.cells #[.int .i64 t608,.int .i64 t609] 45 (0,0)))∧Aside0 (Below w.heap.size w wc))
 case first =>
  have H:=HC9.out
  clear HC9
  by_cases c15 : t605 = 0
  rotate_left
  ·rw [if_neg c15] at H
   have c15b0 :(t605 == 0) = false:=beq_eq_false_iff_ne.mpr c15
   have c15b1 :(t605 != 0) = true:=bne_iff_ne.mpr c15
   (first | rw [c15b0] |(simp only [i64_w,i32_w];rw [c15b0]) | skip)
   have H':=Aside0.mk H
   clear H
   go_wp2
   repeat(go_quiet (fail);try go_wp2)
   go_meet
   exact⟨_,(true),(by first | rfl |(simp;done) |(simp [*];done)),H',⟨by first | omega | exact Nat.le_refl _⟩,⟨by(with_reducible repeat(first | apply Kd.R_alloc | apply Kd.R_drewN | apply Kd.R_drew));exact Kd.R_mono (Kd.R_far (p:=⟨gb611,1,none⟩) (Kd.R_far (p:=⟨gb611,0,none⟩) (Kd.R_types HO607.out BK611.out (by decide)) (fun _ hk=>hk.2) (.int .i64 t608)) (fun _ hk=>hk.2) (.int .i64 t609)) (fun _ hk=>trivial)⟩,⟨by(with_reducible repeat(first | refine bkN ?_ _ | refine bkD ?_ | refine bkA ?_ _));refine blk_put (cs:=#[.int .i64 t608,.int .i64 0]) ?_ 1 _ rfl;(with_reducible repeat(first | refine bkN ?_ _ | refine bkD ?_ | refine bkA ?_ _));refine blk_put (cs:=#[.int .i64 0,.int .i64 0]) ?_ 0 _ rfl;(with_reducible repeat(first | refine bkN ?_ _ | refine bkD ?_ | refine bkA ?_ _));exact BK611.out⟩,⟨by repeat(first |(with_reducible first | exact HB.out | apply bwA | apply bwN | apply bw1 | refine bwS ?_ GE611.out) | exact HB.out)⟩⟩
  rw [if_pos c15] at H
  have c15b0 :(t605 == 0) = true:=beq_iff_eq.mpr c15
  have c15b1 :(t605 != 0) = false:=bne_eq_false_iff_eq.mpr c15
  clear c15
  (first | rw [c15b0] |(simp only [i64_w,i32_w];rw [c15b0]) | skip)
  by_cases c16 : t610 = 0
  rotate_left
  ·rw [if_neg c16] at H
   have c16b0 :(t610 == 0) = false:=beq_eq_false_iff_ne.mpr c16
   have c16b1 :(t610 != 0) = true:=bne_iff_ne.mpr c16
   have H':=Aside0.mk H
   clear H
   go_wp2
   repeat(go_quiet (fail);try go_wp2)
   go_meet
   exact⟨_,(true),(by first | rfl |(simp;done) |(simp [*];done)),H',⟨by first | omega | exact Nat.le_refl _⟩,⟨by(with_reducible repeat(first | apply Kd.R_alloc | apply Kd.R_drewN | apply Kd.R_drew));exact Kd.R_mono (Kd.R_far (p:=⟨gb611,1,none⟩) (Kd.R_far (p:=⟨gb611,0,none⟩) (Kd.R_types HO607.out BK611.out (by decide)) (fun _ hk=>hk.2) (.int .i64 t608)) (fun _ hk=>hk.2) (.int .i64 t609)) (fun _ hk=>trivial)⟩,⟨by(with_reducible repeat(first | refine bkN ?_ _ | refine bkD ?_ | refine bkA ?_ _));refine blk_put (cs:=#[.int .i64 t608,.int .i64 0]) ?_ 1 _ rfl;(with_reducible repeat(first | refine bkN ?_ _ | refine bkD ?_ | refine bkA ?_ _));refine blk_put (cs:=#[.int .i64 0,.int .i64 0]) ?_ 0 _ rfl;(with_reducible repeat(first | refine bkN ?_ _ | refine bkD ?_ | refine bkA ?_ _));exact BK611.out⟩,⟨by repeat(first |(with_reducible first | exact HB.out | apply bwA | apply bwN | apply bw1 | refine bwS ?_ GE611.out) | exact HB.out)⟩⟩
  rw [if_pos c16] at H
  have c16b0 :(t610 == 0) = true:=beq_iff_eq.mpr c16
  have c16b1 :(t610 != 0) = false:=bne_eq_false_iff_eq.mpr c16
  clear c16
  by_cases c17 : t613 = 0
  rotate_left
  ·rw [if_neg c17] at H
   have c17b0 :(t613 == 0) = false:=beq_eq_false_iff_ne.mpr c17
   have c17b1 :(t613 != 0) = true:=bne_iff_ne.mpr c17
   have H':=Aside0.mk H
   clear H
   go_wp2
   repeat(go_quiet (fail);try go_wp2)
   go_meet
   exact⟨_,(true),(by first | rfl |(simp;done) |(simp [*];done)),H',⟨by first | omega | exact Nat.le_refl _⟩,⟨by(with_reducible repeat(first | apply Kd.R_alloc | apply Kd.R_drewN | apply Kd.R_drew));exact Kd.R_mono (Kd.R_far (p:=⟨gb611,1,none⟩) (Kd.R_far (p:=⟨gb611,0,none⟩) (Kd.R_types HO607.out BK611.out (by decide)) (fun _ hk=>hk.2) (.int .i64 t608)) (fun _ hk=>hk.2) (.int .i64 t609)) (fun _ hk=>trivial)⟩,⟨by(with_reducible repeat(first | refine bkN ?_ _ | refine bkD ?_ | refine bkA ?_ _));refine blk_put (cs:=#[.int .i64 t608,.int .i64 0]) ?_ 1 _ rfl;(with_reducible repeat(first | refine bkN ?_ _ | refine bkD ?_ | refine bkA ?_ _));refine blk_put (cs:=#[.int .i64 0,.int .i64 0]) ?_ 0 _ rfl;(with_reducible repeat(first | refine bkN ?_ _ | refine bkD ?_ | refine bkA ?_ _));exact BK611.out⟩,⟨by repeat(first |(with_reducible first | exact HB.out | apply bwA | apply bwN | apply bw1 | refine bwS ?_ GE611.out) | exact HB.out)⟩⟩
  rw [if_pos c17] at H
  have c17b0 :(t613 == 0) = true:=beq_iff_eq.mpr c17
  have c17b1 :(t613 != 0) = false:=bne_eq_false_iff_eq.mpr c17
  clear c17
  by_cases c18 : t612 = t603
  rotate_left
  ·rw [if_neg c18] at H
   have c18b0 :(t612 == t603) = false:=beq_eq_false_iff_ne.mpr c18
   have c18b1 :(t612 != t603) = true:=bne_iff_ne.mpr c18
   have H':=Aside0.mk H
   clear H
   go_wp2
   repeat(go_quiet (fail);try go_wp2)
   go_meet
   exact⟨_,(true),(by first | rfl |(simp;done) |(simp [*];done)),H',⟨by first | omega | exact Nat.le_refl _⟩,⟨by(with_reducible repeat(first | apply Kd.R_alloc | apply Kd.R_drewN | apply Kd.R_drew));exact Kd.R_mono (Kd.R_far (p:=⟨gb611,1,none⟩) (Kd.R_far (p:=⟨gb611,0,none⟩) (Kd.R_types HO607.out BK611.out (by decide)) (fun _ hk=>hk.2) (.int .i64 t608)) (fun _ hk=>hk.2) (.int .i64 t609)) (fun _ hk=>trivial)⟩,⟨by(with_reducible repeat(first | refine bkN ?_ _ | refine bkD ?_ | refine bkA ?_ _));refine blk_put (cs:=#[.int .i64 t608,.int .i64 0]) ?_ 1 _ rfl;(with_reducible repeat(first | refine bkN ?_ _ | refine bkD ?_ | refine bkA ?_ _));refine blk_put (cs:=#[.int .i64 0,.int .i64 0]) ?_ 0 _ rfl;(with_reducible repeat(first | refine bkN ?_ _ | refine bkD ?_ | refine bkA ?_ _));exact BK611.out⟩,⟨by repeat(first |(with_reducible first | exact HB.out | apply bwA | apply bwN | apply bw1 | refine bwS ?_ GE611.out) | exact HB.out)⟩⟩
  rw [if_pos c18] at H
  have c18b0 :(t612 == t603) = true:=beq_iff_eq.mpr c18
  have c18b1 :(t612 != t603) = false:=bne_eq_false_iff_eq.mpr c18
  clear c18
  by_cases c19 :(t604.length : Int) = t601
  rotate_left
  ·rw [if_neg c19] at H
   have c19b0 :((t604.length : Int) == t601) = false:=beq_eq_false_iff_ne.mpr c19
   have c19b1 :((t604.length : Int) != t601) = true:=bne_iff_ne.mpr c19
   have H':=Aside0.mk H
   clear H
   go_wp2
   repeat(go_quiet (fail);try go_wp2)
   go_meet
   exact⟨_,(true),(by first | rfl |(simp;done) |(simp [*];done)),H',⟨by first | omega | exact Nat.le_refl _⟩,⟨by(with_reducible repeat(first | apply Kd.R_alloc | apply Kd.R_drewN | apply Kd.R_drew));exact Kd.R_mono (Kd.R_far (p:=⟨gb611,1,none⟩) (Kd.R_far (p:=⟨gb611,0,none⟩) (Kd.R_types HO607.out BK611.out (by decide)) (fun _ hk=>hk.2) (.int .i64 t608)) (fun _ hk=>hk.2) (.int .i64 t609)) (fun _ hk=>trivial)⟩,⟨by(with_reducible repeat(first | refine bkN ?_ _ | refine bkD ?_ | refine bkA ?_ _));refine blk_put (cs:=#[.int .i64 t608,.int .i64 0]) ?_ 1 _ rfl;(with_reducible repeat(first | refine bkN ?_ _ | refine bkD ?_ | refine bkA ?_ _));refine blk_put (cs:=#[.int .i64 0,.int .i64 0]) ?_ 0 _ rfl;(with_reducible repeat(first | refine bkN ?_ _ | refine bkD ?_ | refine bkA ?_ _));exact BK611.out⟩,⟨by repeat(first |(with_reducible first | exact HB.out | apply bwA | apply bwN | apply bw1 | refine bwS ?_ GE611.out) | exact HB.out)⟩⟩
  rw [if_pos c19] at H
  have c19b0 :((t604.length : Int) == t601) = true:=beq_iff_eq.mpr c19
  have c19b1 :((t604.length : Int) != t601) = false:=bne_eq_false_iff_eq.mpr c19
  clear c19
  replace H:=Option.bind_eq_some_iff.mp H
  obtain ⟨t614,A200,H⟩:=H
  replace H :(w10_TurnsOrderSteps.j0 k t601 t603 t602 t604 (!t614) t608 t609) = some r:=H
  have A20:=Aside0.mk A200
  clear A200
  have H':=Aside0.mk H
  clear H
  go_wp2_with (first |(go_at_call 52;(with_reducible refine(q10_Orders.calls k _ _ t604 t614 _ ?side1 ?side2 A20.out).mono ?_);(case side1=>refine(Kd.R_reads' (e:=3) (base:=w.heap.size) (ok:=fun k_=>True) (n:=t604.length) (c:=co11) ?_).2.2;exact(by(with_reducible repeat(first | apply Kd.R_alloc | apply Kd.R_drewN | apply Kd.R_drew));exact(Kd.R_mono (Kd.R_far (p:=⟨gb611,1,none⟩) (Kd.R_far (p:=⟨gb611,0,none⟩) (Kd.R_types HO607.out BK611.out (by decide)) (fun _ hk=>hk.2) (.int .i64 t608)) (fun _ hk=>hk.2) (.int .i64 t609)) (fun _ h_=>by first | exact h_.1 | exact⟨trivial,h_.1⟩))));(case side2=>exact(Kd.R_reads' HO607.out).2.1);rintro e w' ⟨rfl,⟨nd,rfl⟩⟩;(try first | exact⟨rfl,_,World.drewN_drewN _ _ _⟩ | exact⟨rfl,_,Eq.trans (World.drewN_drewN _ _ _) (congrArg (World.drewN _) (Nat.add_assoc _ _ _))⟩)))
  repeat(go_quiet (first |(go_at_call 52;(with_reducible refine(q10_Orders.calls k _ _ t604 t614 _ ?side1 ?side2 A20.out).mono ?_);(case side1=>refine(Kd.R_reads' (e:=3) (base:=w.heap.size) (ok:=fun k_=>True) (n:=t604.length) (c:=co11) ?_).2.2;exact(by(with_reducible repeat(first | apply Kd.R_alloc | apply Kd.R_drewN | apply Kd.R_drew));exact(Kd.R_mono (Kd.R_far (p:=⟨gb611,1,none⟩) (Kd.R_far (p:=⟨gb611,0,none⟩) (Kd.R_types HO607.out BK611.out (by decide)) (fun _ hk=>hk.2) (.int .i64 t608)) (fun _ hk=>hk.2) (.int .i64 t609)) (fun _ h_=>by first | exact h_.1 | exact⟨trivial,h_.1⟩))));(case side2=>exact(Kd.R_reads' HO607.out).2.1);rintro e w' ⟨rfl,⟨nd,rfl⟩⟩;(try first | exact⟨rfl,_,World.drewN_drewN _ _ _⟩ | exact⟨rfl,_,Eq.trans (World.drewN_drewN _ _ _) (congrArg (World.drewN _) (Nat.add_assoc _ _ _))⟩)));try go_wp2_with (first |(go_at_call 52;(with_reducible refine(q10_Orders.calls k _ _ t604 t614 _ ?side1 ?side2 A20.out).mono ?_);(case side1=>refine(Kd.R_reads' (e:=3) (base:=w.heap.size) (ok:=fun k_=>True) (n:=t604.length) (c:=co11) ?_).2.2;exact(by(with_reducible repeat(first | apply Kd.R_alloc | apply Kd.R_drewN | apply Kd.R_drew));exact(Kd.R_mono (Kd.R_far (p:=⟨gb611,1,none⟩) (Kd.R_far (p:=⟨gb611,0,none⟩) (Kd.R_types HO607.out BK611.out (by decide)) (fun _ hk=>hk.2) (.int .i64 t608)) (fun _ hk=>hk.2) (.int .i64 t609)) (fun _ h_=>by first | exact h_.1 | exact⟨trivial,h_.1⟩))));(case side2=>exact(Kd.R_reads' HO607.out).2.1);rintro e w' ⟨rfl,⟨nd,rfl⟩⟩;(try first | exact⟨rfl,_,World.drewN_drewN _ _ _⟩ | exact⟨rfl,_,Eq.trans (World.drewN_drewN _ _ _) (congrArg (World.drewN _) (Nat.add_assoc _ _ _))⟩))))
  go_meet
  exact⟨_,(!t614),(by first | rfl |(simp;done) |(simp [*];done)),H',⟨by first | omega | exact Nat.le_refl _⟩,⟨by(with_reducible repeat(first | apply Kd.R_alloc | apply Kd.R_drewN | apply Kd.R_drew));exact Kd.R_mono (Kd.R_far (p:=⟨gb611,1,none⟩) (Kd.R_far (p:=⟨gb611,0,none⟩) (Kd.R_types HO607.out BK611.out (by decide)) (fun _ hk=>hk.2) (.int .i64 t608)) (fun _ hk=>hk.2) (.int .i64 t609)) (fun _ hk=>trivial)⟩,⟨by(with_reducible repeat(first | refine bkN ?_ _ | refine bkD ?_ | refine bkA ?_ _));refine blk_put (cs:=#[.int .i64 t608,.int .i64 0]) ?_ 1 _ rfl;(with_reducible repeat(first | refine bkN ?_ _ | refine bkD ?_ | refine bkA ?_ _));refine blk_put (cs:=#[.int .i64 0,.int .i64 0]) ?_ 0 _ rfl;(with_reducible repeat(first | refine bkN ?_ _ | refine bkD ?_ | refine bkA ?_ _));exact BK611.out⟩,⟨by repeat(first |(with_reducible first | exact HB.out | apply bwA | apply bwN | apply bw1 | refine bwS ?_ GE611.out) | exact HB.out)⟩⟩
 case rest =>
  clear HC9
  try clear c1
  try clear p2
  try clear c14
  try clear c15
  try clear c15b0
  try clear c15b1
  try clear c16
  try clear c16b0
  try clear c16b1
  try clear c17
  try clear c17b0
  try clear c17b1
  try clear c18
  try clear c18b0
  try clear c18b1
  try clear c19
  try clear c19b0
  try clear c19b1
  try clear hcz14_0
  try clear hcz14_1
  try clear hfz14_0
  try clear hfz14_1
  obtain ⟨kq,x64_8,rfl,HA,HJ8,HO_6,BK611,HB⟩:=hcut
  cases kq with
  | zero=>exact absurd HA.out (by simp [w10_TurnsOrderSteps.j0])
  | succ kj8 =>
   have H:=HA.out
   clear HA
   simp only [w10_TurnsOrderSteps.j0] at H
   by_cases c21 : x64_8 = true
   ·subst c21
    have H1 :(some false) = some r:=by rw [if_pos rfl] at H;exact H
    clear H
    have H:=H1
    clear H1
    obtain rfl:=Option.some.inj H
    go_wp2
    repeat(go_quiet (fail);try go_wp2)
    go_ret
    exact⟨by first | rfl |(simp [errW_none,errW_some] <;> rfl) |(simp [*,errW_none,errW_some] <;> rfl),by repeat(first |(with_reducible first | exact HB.out | apply bwA | apply bwN | apply bw1 | refine bwS ?_ GE611.out) | exact HB.out)⟩
   replace c21:=Bool.eq_false_iff.mpr c21
   subst c21
   have H1 :(if t603 =(wrap64 (t602 - 1)) then(if(t608 ==(-1) && (t609 ==(-1))) = true then((w10_awake.f kj8).bind fun t615=>(some t615)) else(some false)) else(if t608 < 0 then(w10_TurnsOrderSteps.j1 kj8 t601 t603 t604 true t608 t609) else(if t608 ≥ (wrap64 (t601 - 1)) then(w10_TurnsOrderSteps.j1 kj8 t601 t603 t604 true t608 t609) else(w10_TurnsOrderSteps.j1 kj8 t601 t603 t604 (t609 !=(wrap64 (t608 + 1))) t608 t609)))) = some r:=by rw [if_neg (show ¬ (false = true) by decide)] at H;exact H
   clear H
   have H:=H1
   clear H1
   by_cases c22 : t603 =(wrap64 (t602 - 1))
   ·rw [if_pos c22] at H
    have c22b0 :(t603 ==(wrap64 (t602 - 1))) = true:=beq_iff_eq.mpr c22
    have c22b1 :(t603 !=(wrap64 (t602 - 1))) = false:=bne_eq_false_iff_eq.mpr c22
    clear c22
    by_cases c23 :(t608 ==(-1) && (t609 ==(-1))) = true
    rotate_left
    ·rw [if_neg c23] at H
     have c23b0 :(t608 ==(-1) && (t609 ==(-1))) = false:=by simpa using c23
     (try(have c23b1 : decide (t608 =(-1) && (t609 ==(-1))) = false:=by simpa using c23))
     (try(have c23b2 :(t608 ==(-1) && (t609 ==(-1))) = false:=by simpa using c23))
     (try(have c23b3 : ¬ (t608 =(-1) && (t609 ==(-1))):=by simpa using c23))
     clear c23
     obtain rfl:=Option.some.inj H
     have hcz27_0 : wc.cell? ⟨gb611,0,none⟩ = some (.int .i64 t608):=(bkC BK611.out 0).trans rfl
     have hcz27_1 : wc.cell? ⟨gb611,1,none⟩ = some (.int .i64 t609):=(bkC BK611.out 1).trans rfl
     have hfz27_0:=bkF BK611.out 0
     have hfz27_1:=bkF BK611.out 1
     go_wp2
     repeat(go_quiet (fail);try go_wp2)
     go_ret
     exact⟨by first | rfl |(simp [errW_none,errW_some] <;> rfl) |(simp [*,errW_none,errW_some] <;> rfl),by repeat(first |(with_reducible first | exact HB.out | apply bwA | apply bwN | apply bw1 | refine bwS ?_ GE611.out) | exact HB.out)⟩
    rw [if_pos c23] at H
    have c23b0 :(t608 ==(-1) && (t609 ==(-1))) = true:=c23
    (try(have c23b1 : decide (t608 =(-1) && (t609 ==(-1))) = true:=by simpa using c23))
    (try(have c23b2 :(t608 ==(-1) && (t609 ==(-1))) = true:=by simpa using c23))
    clear c23
    replace H:=Option.bind_eq_some_iff.mp H
    obtain ⟨t615,A240,H⟩:=H
    replace H :(some t615) = some r:=H
    have A24:=Aside0.mk A240
    clear A240
    obtain rfl:=Option.some.inj H
    have hcz25_0 : wc.cell? ⟨gb611,0,none⟩ = some (.int .i64 t608):=(bkC BK611.out 0).trans rfl
    have hcz25_1 : wc.cell? ⟨gb611,1,none⟩ = some (.int .i64 t609):=(bkC BK611.out 1).trans rfl
    have hfz25_0:=bkF BK611.out 0
    have hfz25_1:=bkF BK611.out 1
    go_wp2_with (first |(go_at_call 20;(with_reducible refine(w10_awake.calls kj8  t615 _ A24.out).mono ?_);rintro e w26 ⟨rfl,hb⟩;have n0_:=Aside0.mk (Kd.R_below (by(with_reducible repeat(first | apply Kd.R_alloc | apply Kd.R_drewN | apply Kd.R_drew));exact HO_6.out) hb);have n1_:=Aside0.mk (bkB (g:=gb611) (o:=.cells #[.int .i64 t608,.int .i64 t609] 45 (0,0)) (by(with_reducible repeat(first | refine bkN ?_ _ | refine bkD ?_ | refine bkA ?_ _));exact BK611.out) hb);have n2_:=Aside0.mk (bwT (by repeat(first |(with_reducible first | exact HB.out | apply bwA | apply bwN | apply bw1 | refine bwS ?_ GE611.out) | exact HB.out)) hb);clear HO_6;clear BK611;clear HB;have HO_6:=n0_;have BK611:=n1_;have HB:=n2_;clear n0_ n1_ n2_;(try clear hb);(try clear hb2);(try clear hk);(try clear hi)))
    repeat(go_quiet (first |(go_at_call 20;(with_reducible refine(w10_awake.calls kj8  t615 _ A24.out).mono ?_);rintro e w26 ⟨rfl,hb⟩;have n0_:=Aside0.mk (Kd.R_below (by(with_reducible repeat(first | apply Kd.R_alloc | apply Kd.R_drewN | apply Kd.R_drew));exact HO_6.out) hb);have n1_:=Aside0.mk (bkB (g:=gb611) (o:=.cells #[.int .i64 t608,.int .i64 t609] 45 (0,0)) (by(with_reducible repeat(first | refine bkN ?_ _ | refine bkD ?_ | refine bkA ?_ _));exact BK611.out) hb);have n2_:=Aside0.mk (bwT (by repeat(first |(with_reducible first | exact HB.out | apply bwA | apply bwN | apply bw1 | refine bwS ?_ GE611.out) | exact HB.out)) hb);clear HO_6;clear BK611;clear HB;have HO_6:=n0_;have BK611:=n1_;have HB:=n2_;clear n0_ n1_ n2_;(try clear hb);(try clear hb2);(try clear hk);(try clear hi)));try go_wp2_with (first |(go_at_call 20;(with_reducible refine(w10_awake.calls kj8  t615 _ A24.out).mono ?_);rintro e w26 ⟨rfl,hb⟩;have n0_:=Aside0.mk (Kd.R_below (by(with_reducible repeat(first | apply Kd.R_alloc | apply Kd.R_drewN | apply Kd.R_drew));exact HO_6.out) hb);have n1_:=Aside0.mk (bkB (g:=gb611) (o:=.cells #[.int .i64 t608,.int .i64 t609] 45 (0,0)) (by(with_reducible repeat(first | refine bkN ?_ _ | refine bkD ?_ | refine bkA ?_ _));exact BK611.out) hb);have n2_:=Aside0.mk (bwT (by repeat(first |(with_reducible first | exact HB.out | apply bwA | apply bwN | apply bw1 | refine bwS ?_ GE611.out) | exact HB.out)) hb);clear HO_6;clear BK611;clear HB;have HO_6:=n0_;have BK611:=n1_;have HB:=n2_;clear n0_ n1_ n2_;(try clear hb);(try clear hb2);(try clear hk);(try clear hi))))
    go_ret
    exact⟨by first | rfl |(simp [errW_none,errW_some] <;> rfl) |(simp [*,errW_none,errW_some] <;> rfl),by repeat(first |(with_reducible first | exact HB.out | apply bwA | apply bwN | apply bw1 | refine bwS ?_ GE611.out) | exact HB.out)⟩
   rw [if_neg c22] at H
   have c22b0 :(t603 ==(wrap64 (t602 - 1))) = false:=beq_eq_false_iff_ne.mpr c22
   have c22b1 :(t603 !=(wrap64 (t602 - 1))) = true:=bne_iff_ne.mpr c22
   have HC28:=Aside0.mk H
   clear H
   go_upto_region 11 with (fail)
   repeat(go_quiet (fail);go_upto_region 11 with (fail))
   go_cut [92] (fun v92 wc=>∃ (kq : Nat) (x92_27 : Bool),v92 = .bool x92_27∧Aside0 (w10_TurnsOrderSteps.j1 kq t601 t603 t604 x92_27 t608 t609 = some r)∧Aside0 (kq≤kj8)∧Aside0 (Kd.R (Kd.int .i64) 3 wc w.heap.size (fun _=>True) (.slice Ao11 t604.length co11) t604)∧Aside0 (wc.heap[gb611]? = some (.cells #[.int .i64 t608,.int .i64 t609] 45 (0,0)))∧Aside0 (Below w.heap.size w wc))
   case first =>
    have H:=HC28.out
    clear HC28
    by_cases c29 : t608 < 0
    ·rw [if_pos c29] at H
     have c29b0 : decide (t608 < 0) = true:=decide_eq_true c29
     clear c29
     (first | rw [c29b0] |(simp only [i64_w,i32_w];rw [c29b0]) | skip)
     have H':=Aside0.mk H
     clear H
     have hcz30_0 : wc.cell? ⟨gb611,0,none⟩ = some (.int .i64 t608):=(bkC BK611.out 0).trans rfl
     have hcz30_1 : wc.cell? ⟨gb611,1,none⟩ = some (.int .i64 t609):=(bkC BK611.out 1).trans rfl
     have hfz30_0:=bkF BK611.out 0
     have hfz30_1:=bkF BK611.out 1
     go_wp2
     repeat(go_quiet (fail);try go_wp2)
     go_meet
     exact⟨_,(true),(by first | rfl |(simp;done) |(simp [*];done)),H',⟨by have:=HJ8.out;first | omega | exact Nat.le_refl _⟩,⟨by(with_reducible repeat(first | apply Kd.R_alloc | apply Kd.R_drewN | apply Kd.R_drew));exact HO_6.out⟩,⟨by(with_reducible repeat(first | refine bkN ?_ _ | refine bkD ?_ | refine bkA ?_ _));exact BK611.out⟩,⟨by repeat(first |(with_reducible first | exact HB.out | apply bwA | apply bwN | apply bw1 | refine bwS ?_ GE611.out) | exact HB.out)⟩⟩
    rw [if_neg c29] at H
    have c29b0 : decide (t608 < 0) = false:=decide_eq_false c29
    clear c29
    (first | rw [c29b0] |(simp only [i64_w,i32_w];rw [c29b0]) | skip)
    by_cases c31 : t608 ≥ (wrap64 (t601 - 1))
    ·rw [if_pos c31] at H
     have c31b0 : decide ((wrap64 (t601 - 1))≤t608) = true:=decide_eq_true c31
     clear c31
     have H':=Aside0.mk H
     clear H
     have hcz32_0 : wc.cell? ⟨gb611,0,none⟩ = some (.int .i64 t608):=(bkC BK611.out 0).trans rfl
     have hcz32_1 : wc.cell? ⟨gb611,1,none⟩ = some (.int .i64 t609):=(bkC BK611.out 1).trans rfl
     have hfz32_0:=bkF BK611.out 0
     have hfz32_1:=bkF BK611.out 1
     go_wp2
     repeat(go_quiet (fail);try go_wp2)
     go_meet
     exact⟨_,(true),(by first | rfl |(simp;done) |(simp [*];done)),H',⟨by have:=HJ8.out;first | omega | exact Nat.le_refl _⟩,⟨by(with_reducible repeat(first | apply Kd.R_alloc | apply Kd.R_drewN | apply Kd.R_drew));exact HO_6.out⟩,⟨by(with_reducible repeat(first | refine bkN ?_ _ | refine bkD ?_ | refine bkA ?_ _));exact BK611.out⟩,⟨by repeat(first |(with_reducible first | exact HB.out | apply bwA | apply bwN | apply bw1 | refine bwS ?_ GE611.out) | exact HB.out)⟩⟩
    rw [if_neg c31] at H
    have c31b0 : decide ((wrap64 (t601 - 1))≤t608) = false:=decide_eq_false c31
    clear c31
    have H':=Aside0.mk H
    clear H
    have hcz33_0 : wc.cell? ⟨gb611,0,none⟩ = some (.int .i64 t608):=(bkC BK611.out 0).trans rfl
    have hcz33_1 : wc.cell? ⟨gb611,1,none⟩ = some (.int .i64 t609):=(bkC BK611.out 1).trans rfl
    have hfz33_0:=bkF BK611.out 0
    have hfz33_1:=bkF BK611.out 1
    go_wp2
    repeat(go_quiet (fail);try go_wp2)
    go_meet
    exact⟨_,((t609 !=(wrap64 (t608 + 1)))),(by first | rfl |(simp;done) |(simp [*];done)),H',⟨by have:=HJ8.out;first | omega | exact Nat.le_refl _⟩,⟨by(with_reducible repeat(first | apply Kd.R_alloc | apply Kd.R_drewN | apply Kd.R_drew));exact HO_6.out⟩,⟨by(with_reducible repeat(first | refine bkN ?_ _ | refine bkD ?_ | refine bkA ?_ _));exact BK611.out⟩,⟨by repeat(first |(with_reducible first | exact HB.out | apply bwA | apply bwN | apply bw1 | refine bwS ?_ GE611.out) | exact HB.out)⟩⟩
   case rest =>
    clear HC28
    try clear c1
    try clear c2
    try clear p2
    try clear c3
    try clear p6
    try clear c14
    try clear c15
    try clear c15b0
    try clear c15b1
    try clear c16
    try clear c16b0
    try clear c16b1
    try clear c17
    try clear c17b0
    try clear c17b1
    try clear c18
    try clear c18b0
    try clear c18b1
    try clear c19
    try clear c19b0
    try clear c19b1
    try clear c21
    try clear c22
    try clear c22b0
    try clear c22b1
    try clear c23
    try clear c23b0
    try clear c23b1
    try clear c23b2
    try clear c29
    try clear c29b0
    try clear c31
    try clear c31b0
    try clear hcz14_0
    try clear hcz14_1
    try clear hcz25_0
    try clear hcz25_1
    try clear hcz27_0
    try clear hcz27_1
    try clear hcz30_0
    try clear hcz30_1
    try clear hcz32_0
    try clear hcz32_1
    try clear hcz33_0
    try clear hcz33_1
    try clear hfz14_0
    try clear hfz14_1
    try clear hfz25_0
    try clear hfz25_1
    try clear hfz27_0
    try clear hfz27_1
    try clear hfz30_0
    try clear hfz30_1
    try clear hfz32_0
    try clear hfz32_1
    try clear hfz33_0
    try clear hfz33_1
    try clear p2
    obtain ⟨kq,x92_27,rfl,HA,HJ27,HO_6,BK611,HB⟩:=hcut
    cases kq with
    | zero=>exact absurd HA.out (by simp [w10_TurnsOrderSteps.j1])
    | succ kj27 =>
     have H:=HA.out
     clear HA
     simp only [w10_TurnsOrderSteps.j1] at H
     by_cases c34 : x92_27 = true
     ·subst c34
      have H1 :(some false) = some r:=by rw [if_pos rfl] at H;exact H
      clear H
      have H:=H1
      clear H1
      obtain rfl:=Option.some.inj H
      go_wp2
      repeat(go_quiet (fail);try go_wp2)
      go_ret
      exact⟨by first | rfl |(simp [errW_none,errW_some] <;> rfl) |(simp [*,errW_none,errW_some] <;> rfl),by repeat(first |(with_reducible first | exact HB.out | apply bwA | apply bwN | apply bw1 | refine bwS ?_ GE611.out) | exact HB.out)⟩
     replace c34:=Bool.eq_false_iff.mpr c34
     subst c34
     have H1 :((turns_Order.f t601 (wrap64 (t603 + 1))).bind fun bt616=>(if 0≤t608 then(if t608 < (t604.length : Int) then(if 0≤t609 then(if t609 < (t604.length : Int) then(if bt616.2 = 0 then((w10_ints.f kj27 ((t604.set (t608 : Int).toNat (rd t604 t609)).set (t609 : Int).toNat (rd t604 t608)) bt616.1).bind fun t624=>(if t624 = true then((w10_awake.f kj27).bind fun t625=>(some t625)) else(some false))) else(some false)) else(none)) else(none)) else(none)) else(none))) = some r:=by rw [if_neg (show ¬ (false = true) by decide)] at H;exact H
     clear H
     have H:=H1
     clear H1
     replace H:=Option.bind_eq_some_iff.mp H
     obtain ⟨⟨t616,t617⟩,A350,H⟩:=H
     replace H :(if 0≤t608 then(if t608 < (t604.length : Int) then(if 0≤t609 then(if t609 < (t604.length : Int) then(if t617 = 0 then((w10_ints.f kj27 ((t604.set (t608 : Int).toNat (rd t604 t609)).set (t609 : Int).toNat (rd t604 t608)) t616).bind fun t624=>(if t624 = true then((w10_awake.f kj27).bind fun t625=>(some t625)) else(some false))) else(some false)) else(none)) else(none)) else(none)) else(none)) = some r:=H
     have A35:=Aside0.mk A350
     clear A350
     by_cases c36 : 0≤t608
     rotate_left
     ·rw [if_neg c36] at H
      exact absurd H (by simp)
     rw [if_pos c36] at H
     have c36b0 : decide (0≤t608) = true:=decide_eq_true c36
     clear c36
     by_cases c37 : t608 < (t604.length : Int)
     rotate_left
     ·rw [if_neg c37] at H
      exact absurd H (by simp)
     rw [if_pos c37] at H
     have c37b0 : decide (t608 < (t604.length : Int)) = true:=decide_eq_true c37
     clear c37
     by_cases c38 : 0≤t609
     rotate_left
     ·rw [if_neg c38] at H
      exact absurd H (by simp)
     rw [if_pos c38] at H
     have c38b0 : decide (0≤t609) = true:=decide_eq_true c38
     clear c38
     by_cases c39 : t609 < (t604.length : Int)
     rotate_left
     ·rw [if_neg c39] at H
      exact absurd H (by simp)
     rw [if_pos c39] at H
     have c39b0 : decide (t609 < (t604.length : Int)) = true:=decide_eq_true c39
     clear c39
     obtain ⟨y622,hy622⟩ : ∃ y_ : List Int,y_ =(t604.set (t608 : Int).toNat (rd t604 t609)):=⟨_,rfl⟩
     replace H :(if t617 = 0 then((w10_ints.f kj27 (y622.set (t609 : Int).toNat (rd t604 t608)) t616).bind fun t624=>(if t624 = true then((w10_awake.f kj27).bind fun t625=>(some t625)) else(some false))) else(some false)) = some r:=by first |(rw [hy622];with_reducible exact H) |(have H2_:=(Option.bind_some _ _).symm.trans H;rw [hy622];with_reducible exact H2_) |(have H2_:=(Option.bind_some _ _).symm.trans H;with_reducible exact H2_) | with_reducible exact H |(rw [hy622];exact H) | exact H
     have Ny622:=Aside0.mk hy622
     clear hy622
     obtain ⟨y623,hy623⟩ : ∃ y_ : List Int,y_ =(y622.set (t609 : Int).toNat (rd t604 t608)):=⟨_,rfl⟩
     replace H :(if t617 = 0 then((w10_ints.f kj27 y623 t616).bind fun t624=>(if t624 = true then((w10_awake.f kj27).bind fun t625=>(some t625)) else(some false))) else(some false)) = some r:=by first |(rw [hy623];with_reducible exact H) |(have H2_:=(Option.bind_some _ _).symm.trans H;rw [hy623];with_reducible exact H2_) |(have H2_:=(Option.bind_some _ _).symm.trans H;with_reducible exact H2_) | with_reducible exact H |(rw [hy623];exact H) | exact H
     have Ny623:=Aside0.mk hy623
     clear hy623
     by_cases c42 : t617 = 0
     rotate_left
     ·rw [if_neg c42] at H
      have c42b0 :(t617 == 0) = false:=beq_eq_false_iff_ne.mpr c42
      have c42b1 :(t617 != 0) = true:=bne_iff_ne.mpr c42
      obtain rfl:=Option.some.inj H
      go_wp2_with (first |(go_at_call 48;(with_reducible refine(turns_Order.calls t601 (wrap64 (t603 + 1)) t616 t617 _ A35.out).mono ?_);rintro e w63 ⟨v618,rfl,ho0,hb⟩;have n0_:=Aside0.mk (Kd.R_elder' (by(with_reducible repeat(first | apply Kd.R_alloc | apply Kd.R_drewN | apply Kd.R_drew));exact HO_6.out) (Kd.R_base ho0) hb);have n1_:=Aside0.mk (Kd.R_lower (Kd.R_new' ho0 (Kd.R_lt (by(with_reducible repeat(first | apply Kd.R_alloc | apply Kd.R_drewN | apply Kd.R_drew));exact HO_6.out))) (bwZ (by repeat(first |(with_reducible first | exact HB.out | apply bwA | apply bwN | apply bw1 | refine bwS ?_ GE611.out) | exact HB.out))));have n2_:=Aside0.mk (bkB (g:=gb611) (o:=.cells #[.int .i64 t608,.int .i64 t609] 45 (0,0)) (by(with_reducible repeat(first | refine bkN ?_ _ | refine bkD ?_ | refine bkA ?_ _));exact BK611.out) hb);have n3_:=Aside0.mk (bwT (by repeat(first |(with_reducible first | exact HB.out | apply bwA | apply bwN | apply bw1 | refine bwS ?_ GE611.out) | exact HB.out)) hb);clear HO_6;clear BK611;clear HB;have HO_6:=n0_;have HO619:=n1_;have BK611:=n2_;have HB:=n3_;clear n0_ n1_ n2_ n3_;(try clear hb);(try clear hb2);(try clear hk);(try clear hi);(try clear ho0);have hcz64_0 : w63.cell? ⟨gb611,0,none⟩ = some (.int .i64 t608):=(bkC BK611.out 0).trans rfl;have hcz64_1 : w63.cell? ⟨gb611,1,none⟩ = some (.int .i64 t609):=(bkC BK611.out 1).trans rfl;have hfz64_0:=bkF BK611.out 0;have hfz64_1:=bkF BK611.out 1;have p620 : 0 ≤(t608 : Int):=of_decide_eq_true (by first |(with_reducible assumption) | assumption);have q620 : t608 < (t604.length : Int):=of_decide_eq_true (by first |(with_reducible assumption) | assumption);obtain ⟨ad620,e620,hx620_0⟩:=Kd.at_int (Kd.R_reads' HO_6.out).2.2 t608 p620 q620;cases e620;replace p620:=eq_true p620;replace q620:=eq_true q620;have p621 : 0 ≤(t609 : Int):=of_decide_eq_true (by first |(with_reducible assumption) | assumption);have q621 : t609 < (t604.length : Int):=of_decide_eq_true (by first |(with_reducible assumption) | assumption);obtain ⟨ad621,e621,hx621_0⟩:=Kd.at_int (Kd.R_reads' HO_6.out).2.2 t609 p621 q621;obtain rfl : ad620 = ad621:=(by injection e621);replace p621:=eq_true p621;replace q621:=eq_true q621;have p40 : 0 ≤(t608 : Int):=of_decide_eq_true (by first |(with_reducible assumption) | assumption);have q40 :(t608 : Int) < ((t604.length : Int) : Int):=of_decide_eq_true (by first |(with_reducible assumption) | assumption);obtain ⟨go40,co40,eo40,gb40,gl40,cl40,HG40⟩:=Kd.R_form HO_6.out (by omega);(first | cases eo40 |(injection eo40 with ea_ en_ ec_;(first | subst ea_ |(injection ea_ with ea_;subst ea_));subst ec_;clear en_));have GB40:=Aside0.mk gb40;have GG40:=Aside0.mk HG40;clear gb40 gl40 HG40;(first | simp only [add_plain] at hx620_0 | skip);(first | simp only [add_plain] at hx621_0 | skip);obtain ⟨hx40_0,hf40_0⟩:=Kd.R_celln 0 HO_6.out (t608 : Int) p40 q40;replace p40:=eq_true p40;replace q40:=eq_true q40;have n_:=Aside0.mk (Kd.R_mono (ok':=(fun k_=>some k_ ≠(v618 : Value).ownBlock)) HO_6.out (fun k_ hk=>hk.2));clear HO_6;have HO_6:=n_;clear n_;obtain ⟨hy65_,hz65_⟩:=Kd.R_celln 0 HO_6.out (t608 : Int) (of_decide_eq_true (by first |(with_reducible assumption) | assumption)) (of_decide_eq_true (by first |(with_reducible assumption) | assumption));have HP65:=Kd.R_putg HO_6.out (t608 : Int) (rd t604 t609)) |((with_reducible refine gate_store (t:=3) (p:=114) rfl ?_);(try(rw [drewN_self w63];generalize hq_ : World.drewN w63 _ = w63;have n0_:=Aside0.mk (Kd.R_at hq_ HO_6.out);have n1_:=Aside0.mk (Kd.R_at hq_ HO619.out);have n2_:=Aside0.mk (blk_at hq_ BK611.out);have n3_:=Aside0.mk (below_at hq_ HB.out);clear hq_ HO_6 HO619 BK611 HB;have HO_6:=n0_;have HO619:=n1_;have BK611:=n2_;have HB:=n3_;clear n0_ n1_ n2_ n3_;(try(have n_:=Aside0.mk (Kd.R_mono (ok':=(fun k_=>some k_ ≠(v618 : Value).ownBlock)) HO_6.out (fun k_ hk=>hk.2));clear HO_6;have HO_6:=n_;clear n_));(try(obtain ⟨hy65_,hz65_⟩:=Kd.R_celln 0 HO_6.out (t608 : Int) (of_decide_eq_true (by first |(with_reducible assumption) | assumption)) (of_decide_eq_true (by first |(with_reducible assumption) | assumption))));(try(have HP65:=Kd.R_putg HO_6.out (t608 : Int) (rd t604 t609)))));refine store_event (t:=3) (p:=114) (v:=?vo_w66) (w1:=(w63.setCell ⟨go40,(t608 : Int).toNat,none⟩ (.int .i64 (rd t604 t609)))) ?hg ?ho ?hn ?hr ?_;(case ho=>rfl);(case hg=>rfl);(case hn=>rfl);(case hr=>first |(go_simp;done) |(go_simp;rfl));intro w66 hw;have hg : w63.grownBy w66 (some go40):=(by rw [hw];exact HP65.2);have hp_ : Kd.R (Kd.int .i64) 3 w66 w.heap.size (fun k_=>some k_ ≠(v618 : Value).ownBlock) (.slice (some ⟨go40,0,none⟩) t604.length co11) y622:=(by rw [hw,Ny622.out];exact HP65.1);clear HP65;have n0_:=Aside0.mk (hp_);have n1_:=Aside0.mk (blk_grown (g:=gb611) (o:=.cells #[.int .i64 t608,.int .i64 t609] 45 (0,0)) (by(with_reducible repeat(first | refine bkN ?_ _ | refine bkD ?_ | refine bkA ?_ _));exact BK611.out) hg (Kd.R_ne HO_6.out BK611.out (by decide)));have n2_:=Aside0.mk (Kd.R_after (v:=(.slice (some ⟨go40,0,none⟩) t604.length co11)) (v1:=(.slice (some ⟨go40,0,none⟩) t604.length co11)) (ok:=(fun _=>True)) (by(with_reducible repeat(first | apply Kd.R_alloc | apply Kd.R_drewN | apply Kd.R_drew));exact HO619.out) hg (.inl rfl));have n3_:=Aside0.mk ((by rw [hw];exact bwS (HB.out) GB40.out : Below w.heap.size w w66));clear HO_6;clear BK611;clear HO619;clear HB;have HO_6:=n0_;have BK611:=n1_;have HO619:=n2_;have HB:=n3_;clear n0_ n1_ n2_ n3_;clear hg hw hp_;have hcz67_0 : w66.cell? ⟨gb611,0,none⟩ = some (.int .i64 t608):=(bkC BK611.out 0).trans rfl;have hcz67_1 : w66.cell? ⟨gb611,1,none⟩ = some (.int .i64 t609):=(bkC BK611.out 1).trans rfl;have hfz67_0:=bkF BK611.out 0;have hfz67_1:=bkF BK611.out 1;have p41 : 0 ≤(t609 : Int):=of_decide_eq_true (by first |(with_reducible assumption) | assumption);have q41 :(t609 : Int) < ((t604.length : Int) : Int):=of_decide_eq_true (by first |(with_reducible assumption) | assumption);obtain ⟨hx41_0,hf41_0⟩:=Kd.R_celln 0 HO_6.out (t609 : Int) p41 q41;replace p41:=eq_true p41;replace q41:=eq_true q41;obtain ⟨hy68_,hz68_⟩:=Kd.R_celln 0 HO_6.out (t609 : Int) (of_decide_eq_true (by first |(with_reducible assumption) | assumption)) (of_decide_eq_true (by first |(with_reducible assumption) | assumption));have HP68:=Kd.R_putg HO_6.out (t609 : Int) (rd t604 t608)) |((with_reducible refine gate_store (t:=3) (p:=119) rfl ?_);(try(rw [drewN_self w66];generalize hq_ : World.drewN w66 _ = w66;have n0_:=Aside0.mk (Kd.R_at hq_ HO_6.out);have n1_:=Aside0.mk (Kd.R_at hq_ HO619.out);have n2_:=Aside0.mk (blk_at hq_ BK611.out);have n3_:=Aside0.mk (below_at hq_ HB.out);clear hq_ HO_6 HO619 BK611 HB;have HO_6:=n0_;have HO619:=n1_;have BK611:=n2_;have HB:=n3_;clear n0_ n1_ n2_ n3_;(try(obtain ⟨hy68_,hz68_⟩:=Kd.R_celln 0 HO_6.out (t609 : Int) (of_decide_eq_true (by first |(with_reducible assumption) | assumption)) (of_decide_eq_true (by first |(with_reducible assumption) | assumption))));(try(have HP68:=Kd.R_putg HO_6.out (t609 : Int) (rd t604 t608)))));refine store_event (t:=3) (p:=119) (v:=?vo_w69) (w1:=(w66.setCell ⟨go40,(t609 : Int).toNat,none⟩ (.int .i64 (rd t604 t608)))) ?hg ?ho ?hn ?hr ?_;(case ho=>rfl);(case hg=>rfl);(case hn=>rfl);(case hr=>first |(go_simp;done) |(go_simp;rfl));intro w69 hw;have hg : w66.grownBy w69 (some go40):=(by rw [hw];exact HP68.2);have hp_ : Kd.R (Kd.int .i64) 3 w69 w.heap.size (fun k_=>some k_ ≠(v618 : Value).ownBlock) (.slice (some ⟨go40,0,none⟩) t604.length co11) y623:=(by rw [hw,Ny623.out];exact HP68.1);clear HP68;have n0_:=Aside0.mk (hp_);have n1_:=Aside0.mk (blk_grown (g:=gb611) (o:=.cells #[.int .i64 t608,.int .i64 t609] 45 (0,0)) (by(with_reducible repeat(first | refine bkN ?_ _ | refine bkD ?_ | refine bkA ?_ _));exact BK611.out) hg (Kd.R_ne HO_6.out BK611.out (by decide)));have n2_:=Aside0.mk (Kd.R_after (v:=(.slice (some ⟨go40,0,none⟩) t604.length co11)) (v1:=(.slice (some ⟨go40,0,none⟩) t604.length co11)) (ok:=(fun _=>True)) (by(with_reducible repeat(first | apply Kd.R_alloc | apply Kd.R_drewN | apply Kd.R_drew));exact HO619.out) hg (.inl rfl));have n3_:=Aside0.mk ((by rw [hw];exact bwS (HB.out) GB40.out : Below w.heap.size w w69));clear HO_6;clear BK611;clear HO619;clear HB;have HO_6:=n0_;have BK611:=n1_;have HO619:=n2_;have HB:=n3_;clear n0_ n1_ n2_ n3_;clear hg hw hp_))
      repeat(go_quiet (first |(go_at_call 48;(with_reducible refine(turns_Order.calls t601 (wrap64 (t603 + 1)) t616 t617 _ A35.out).mono ?_);rintro e w63 ⟨v618,rfl,ho0,hb⟩;have n0_:=Aside0.mk (Kd.R_elder' (by(with_reducible repeat(first | apply Kd.R_alloc | apply Kd.R_drewN | apply Kd.R_drew));exact HO_6.out) (Kd.R_base ho0) hb);have n1_:=Aside0.mk (Kd.R_lower (Kd.R_new' ho0 (Kd.R_lt (by(with_reducible repeat(first | apply Kd.R_alloc | apply Kd.R_drewN | apply Kd.R_drew));exact HO_6.out))) (bwZ (by repeat(first |(with_reducible first | exact HB.out | apply bwA | apply bwN | apply bw1 | refine bwS ?_ GE611.out) | exact HB.out))));have n2_:=Aside0.mk (bkB (g:=gb611) (o:=.cells #[.int .i64 t608,.int .i64 t609] 45 (0,0)) (by(with_reducible repeat(first | refine bkN ?_ _ | refine bkD ?_ | refine bkA ?_ _));exact BK611.out) hb);have n3_:=Aside0.mk (bwT (by repeat(first |(with_reducible first | exact HB.out | apply bwA | apply bwN | apply bw1 | refine bwS ?_ GE611.out) | exact HB.out)) hb);clear HO_6;clear BK611;clear HB;have HO_6:=n0_;have HO619:=n1_;have BK611:=n2_;have HB:=n3_;clear n0_ n1_ n2_ n3_;(try clear hb);(try clear hb2);(try clear hk);(try clear hi);(try clear ho0);have hcz64_0 : w63.cell? ⟨gb611,0,none⟩ = some (.int .i64 t608):=(bkC BK611.out 0).trans rfl;have hcz64_1 : w63.cell? ⟨gb611,1,none⟩ = some (.int .i64 t609):=(bkC BK611.out 1).trans rfl;have hfz64_0:=bkF BK611.out 0;have hfz64_1:=bkF BK611.out 1;have p620 : 0 ≤(t608 : Int):=of_decide_eq_true (by first |(with_reducible assumption) | assumption);have q620 : t608 < (t604.length : Int):=of_decide_eq_true (by first |(with_reducible assumption) | assumption);obtain ⟨ad620,e620,hx620_0⟩:=Kd.at_int (Kd.R_reads' HO_6.out).2.2 t608 p620 q620;cases e620;replace p620:=eq_true p620;replace q620:=eq_true q620;have p621 : 0 ≤(t609 : Int):=of_decide_eq_true (by first |(with_reducible assumption) | assumption);have q621 : t609 < (t604.length : Int):=of_decide_eq_true (by first |(with_reducible assumption) | assumption);obtain ⟨ad621,e621,hx621_0⟩:=Kd.at_int (Kd.R_reads' HO_6.out).2.2 t609 p621 q621;obtain rfl : ad620 = ad621:=(by injection e621);replace p621:=eq_true p621;replace q621:=eq_true q621;have p40 : 0 ≤(t608 : Int):=of_decide_eq_true (by first |(with_reducible assumption) | assumption);have q40 :(t608 : Int) < ((t604.length : Int) : Int):=of_decide_eq_true (by first |(with_reducible assumption) | assumption);obtain ⟨go40,co40,eo40,gb40,gl40,cl40,HG40⟩:=Kd.R_form HO_6.out (by omega);(first | cases eo40 |(injection eo40 with ea_ en_ ec_;(first | subst ea_ |(injection ea_ with ea_;subst ea_));subst ec_;clear en_));have GB40:=Aside0.mk gb40;have GG40:=Aside0.mk HG40;clear gb40 gl40 HG40;(first | simp only [add_plain] at hx620_0 | skip);(first | simp only [add_plain] at hx621_0 | skip);obtain ⟨hx40_0,hf40_0⟩:=Kd.R_celln 0 HO_6.out (t608 : Int) p40 q40;replace p40:=eq_true p40;replace q40:=eq_true q40;have n_:=Aside0.mk (Kd.R_mono (ok':=(fun k_=>some k_ ≠(v618 : Value).ownBlock)) HO_6.out (fun k_ hk=>hk.2));clear HO_6;have HO_6:=n_;clear n_;obtain ⟨hy65_,hz65_⟩:=Kd.R_celln 0 HO_6.out (t608 : Int) (of_decide_eq_true (by first |(with_reducible assumption) | assumption)) (of_decide_eq_true (by first |(with_reducible assumption) | assumption));have HP65:=Kd.R_putg HO_6.out (t608 : Int) (rd t604 t609)) |((with_reducible refine gate_store (t:=3) (p:=114) rfl ?_);(try(rw [drewN_self w63];generalize hq_ : World.drewN w63 _ = w63;have n0_:=Aside0.mk (Kd.R_at hq_ HO_6.out);have n1_:=Aside0.mk (Kd.R_at hq_ HO619.out);have n2_:=Aside0.mk (blk_at hq_ BK611.out);have n3_:=Aside0.mk (below_at hq_ HB.out);clear hq_ HO_6 HO619 BK611 HB;have HO_6:=n0_;have HO619:=n1_;have BK611:=n2_;have HB:=n3_;clear n0_ n1_ n2_ n3_;(try(have n_:=Aside0.mk (Kd.R_mono (ok':=(fun k_=>some k_ ≠(v618 : Value).ownBlock)) HO_6.out (fun k_ hk=>hk.2));clear HO_6;have HO_6:=n_;clear n_));(try(obtain ⟨hy65_,hz65_⟩:=Kd.R_celln 0 HO_6.out (t608 : Int) (of_decide_eq_true (by first |(with_reducible assumption) | assumption)) (of_decide_eq_true (by first |(with_reducible assumption) | assumption))));(try(have HP65:=Kd.R_putg HO_6.out (t608 : Int) (rd t604 t609)))));refine store_event (t:=3) (p:=114) (v:=?vo_w66) (w1:=(w63.setCell ⟨go40,(t608 : Int).toNat,none⟩ (.int .i64 (rd t604 t609)))) ?hg ?ho ?hn ?hr ?_;(case ho=>rfl);(case hg=>rfl);(case hn=>rfl);(case hr=>first |(go_simp;done) |(go_simp;rfl));intro w66 hw;have hg : w63.grownBy w66 (some go40):=(by rw [hw];exact HP65.2);have hp_ : Kd.R (Kd.int .i64) 3 w66 w.heap.size (fun k_=>some k_ ≠(v618 : Value).ownBlock) (.slice (some ⟨go40,0,none⟩) t604.length co11) y622:=(by rw [hw,Ny622.out];exact HP65.1);clear HP65;have n0_:=Aside0.mk (hp_);have n1_:=Aside0.mk (blk_grown (g:=gb611) (o:=.cells #[.int .i64 t608,.int .i64 t609] 45 (0,0)) (by(with_reducible repeat(first | refine bkN ?_ _ | refine bkD ?_ | refine bkA ?_ _));exact BK611.out) hg (Kd.R_ne HO_6.out BK611.out (by decide)));have n2_:=Aside0.mk (Kd.R_after (v:=(.slice (some ⟨go40,0,none⟩) t604.length co11)) (v1:=(.slice (some ⟨go40,0,none⟩) t604.length co11)) (ok:=(fun _=>True)) (by(with_reducible repeat(first | apply Kd.R_alloc | apply Kd.R_drewN | apply Kd.R_drew));exact HO619.out) hg (.inl rfl));have n3_:=Aside0.mk ((by rw [hw];exact bwS (HB.out) GB40.out : Below w.heap.size w w66));clear HO_6;clear BK611;clear HO619;clear HB;have HO_6:=n0_;have BK611:=n1_;have HO619:=n2_;have HB:=n3_;clear n0_ n1_ n2_ n3_;clear hg hw hp_;have hcz67_0 : w66.cell? ⟨gb611,0,none⟩ = some (.int .i64 t608):=(bkC BK611.out 0).trans rfl;have hcz67_1 : w66.cell? ⟨gb611,1,none⟩ = some (.int .i64 t609):=(bkC BK611.out 1).trans rfl;have hfz67_0:=bkF BK611.out 0;have hfz67_1:=bkF BK611.out 1;have p41 : 0 ≤(t609 : Int):=of_decide_eq_true (by first |(with_reducible assumption) | assumption);have q41 :(t609 : Int) < ((t604.length : Int) : Int):=of_decide_eq_true (by first |(with_reducible assumption) | assumption);obtain ⟨hx41_0,hf41_0⟩:=Kd.R_celln 0 HO_6.out (t609 : Int) p41 q41;replace p41:=eq_true p41;replace q41:=eq_true q41;obtain ⟨hy68_,hz68_⟩:=Kd.R_celln 0 HO_6.out (t609 : Int) (of_decide_eq_true (by first |(with_reducible assumption) | assumption)) (of_decide_eq_true (by first |(with_reducible assumption) | assumption));have HP68:=Kd.R_putg HO_6.out (t609 : Int) (rd t604 t608)) |((with_reducible refine gate_store (t:=3) (p:=119) rfl ?_);(try(rw [drewN_self w66];generalize hq_ : World.drewN w66 _ = w66;have n0_:=Aside0.mk (Kd.R_at hq_ HO_6.out);have n1_:=Aside0.mk (Kd.R_at hq_ HO619.out);have n2_:=Aside0.mk (blk_at hq_ BK611.out);have n3_:=Aside0.mk (below_at hq_ HB.out);clear hq_ HO_6 HO619 BK611 HB;have HO_6:=n0_;have HO619:=n1_;have BK611:=n2_;have HB:=n3_;clear n0_ n1_ n2_ n3_;(try(obtain ⟨hy68_,hz68_⟩:=Kd.R_celln 0 HO_6.out (t609 : Int) (of_decide_eq_true (by first |(with_reducible assumption) | assumption)) (of_decide_eq_true (by first |(with_reducible assumption) | assumption))));(try(have HP68:=Kd.R_putg HO_6.out (t609 : Int) (rd t604 t608)))));refine store_event (t:=3) (p:=119) (v:=?vo_w69) (w1:=(w66.setCell ⟨go40,(t609 : Int).toNat,none⟩ (.int .i64 (rd t604 t608)))) ?hg ?ho ?hn ?hr ?_;(case ho=>rfl);(case hg=>rfl);(case hn=>rfl);(case hr=>first |(go_simp;done) |(go_simp;rfl));intro w69 hw;have hg : w66.grownBy w69 (some go40):=(by rw [hw];exact HP68.2);have hp_ : Kd.R (Kd.int .i64) 3 w69 w.heap.size (fun k_=>some k_ ≠(v618 : Value).ownBlock) (.slice (some ⟨go40,0,none⟩) t604.length co11) y623:=(by rw [hw,Ny623.out];exact HP68.1);clear HP68;have n0_:=Aside0.mk (hp_);have n1_:=Aside0.mk (blk_grown (g:=gb611) (o:=.cells #[.int .i64 t608,.int .i64 t609] 45 (0,0)) (by(with_reducible repeat(first | refine bkN ?_ _ | refine bkD ?_ | refine bkA ?_ _));exact BK611.out) hg (Kd.R_ne HO_6.out BK611.out (by decide)));have n2_:=Aside0.mk (Kd.R_after (v:=(.slice (some ⟨go40,0,none⟩) t604.length co11)) (v1:=(.slice (some ⟨go40,0,none⟩) t604.length co11)) (ok:=(fun _=>True)) (by(with_reducible repeat(first | apply Kd.R_alloc | apply Kd.R_drewN | apply Kd.R_drew));exact HO619.out) hg (.inl rfl));have n3_:=Aside0.mk ((by rw [hw];exact bwS (HB.out) GB40.out : Below w.heap.size w w69));clear HO_6;clear BK611;clear HO619;clear HB;have HO_6:=n0_;have BK611:=n1_;have HO619:=n2_;have HB:=n3_;clear n0_ n1_ n2_ n3_;clear hg hw hp_));try go_wp2_with (first |(go_at_call 48;(with_reducible refine(turns_Order.calls t601 (wrap64 (t603 + 1)) t616 t617 _ A35.out).mono ?_);rintro e w63 ⟨v618,rfl,ho0,hb⟩;have n0_:=Aside0.mk (Kd.R_elder' (by(with_reducible repeat(first | apply Kd.R_alloc | apply Kd.R_drewN | apply Kd.R_drew));exact HO_6.out) (Kd.R_base ho0) hb);have n1_:=Aside0.mk (Kd.R_lower (Kd.R_new' ho0 (Kd.R_lt (by(with_reducible repeat(first | apply Kd.R_alloc | apply Kd.R_drewN | apply Kd.R_drew));exact HO_6.out))) (bwZ (by repeat(first |(with_reducible first | exact HB.out | apply bwA | apply bwN | apply bw1 | refine bwS ?_ GE611.out) | exact HB.out))));have n2_:=Aside0.mk (bkB (g:=gb611) (o:=.cells #[.int .i64 t608,.int .i64 t609] 45 (0,0)) (by(with_reducible repeat(first | refine bkN ?_ _ | refine bkD ?_ | refine bkA ?_ _));exact BK611.out) hb);have n3_:=Aside0.mk (bwT (by repeat(first |(with_reducible first | exact HB.out | apply bwA | apply bwN | apply bw1 | refine bwS ?_ GE611.out) | exact HB.out)) hb);clear HO_6;clear BK611;clear HB;have HO_6:=n0_;have HO619:=n1_;have BK611:=n2_;have HB:=n3_;clear n0_ n1_ n2_ n3_;(try clear hb);(try clear hb2);(try clear hk);(try clear hi);(try clear ho0);have hcz64_0 : w63.cell? ⟨gb611,0,none⟩ = some (.int .i64 t608):=(bkC BK611.out 0).trans rfl;have hcz64_1 : w63.cell? ⟨gb611,1,none⟩ = some (.int .i64 t609):=(bkC BK611.out 1).trans rfl;have hfz64_0:=bkF BK611.out 0;have hfz64_1:=bkF BK611.out 1;have p620 : 0 ≤(t608 : Int):=of_decide_eq_true (by first |(with_reducible assumption) | assumption);have q620 : t608 < (t604.length : Int):=of_decide_eq_true (by first |(with_reducible assumption) | assumption);obtain ⟨ad620,e620,hx620_0⟩:=Kd.at_int (Kd.R_reads' HO_6.out).2.2 t608 p620 q620;cases e620;replace p620:=eq_true p620;replace q620:=eq_true q620;have p621 : 0 ≤(t609 : Int):=of_decide_eq_true (by first |(with_reducible assumption) | assumption);have q621 : t609 < (t604.length : Int):=of_decide_eq_true (by first |(with_reducible assumption) | assumption);obtain ⟨ad621,e621,hx621_0⟩:=Kd.at_int (Kd.R_reads' HO_6.out).2.2 t609 p621 q621;obtain rfl : ad620 = ad621:=(by injection e621);replace p621:=eq_true p621;replace q621:=eq_true q621;have p40 : 0 ≤(t608 : Int):=of_decide_eq_true (by first |(with_reducible assumption) | assumption);have q40 :(t608 : Int) < ((t604.length : Int) : Int):=of_decide_eq_true (by first |(with_reducible assumption) | assumption);obtain ⟨go40,co40,eo40,gb40,gl40,cl40,HG40⟩:=Kd.R_form HO_6.out (by omega);(first | cases eo40 |(injection eo40 with ea_ en_ ec_;(first | subst ea_ |(injection ea_ with ea_;subst ea_));subst ec_;clear en_));have GB40:=Aside0.mk gb40;have GG40:=Aside0.mk HG40;clear gb40 gl40 HG40;(first | simp only [add_plain] at hx620_0 | skip);(first | simp only [add_plain] at hx621_0 | skip);obtain ⟨hx40_0,hf40_0⟩:=Kd.R_celln 0 HO_6.out (t608 : Int) p40 q40;replace p40:=eq_true p40;replace q40:=eq_true q40;have n_:=Aside0.mk (Kd.R_mono (ok':=(fun k_=>some k_ ≠(v618 : Value).ownBlock)) HO_6.out (fun k_ hk=>hk.2));clear HO_6;have HO_6:=n_;clear n_;obtain ⟨hy65_,hz65_⟩:=Kd.R_celln 0 HO_6.out (t608 : Int) (of_decide_eq_true (by first |(with_reducible assumption) | assumption)) (of_decide_eq_true (by first |(with_reducible assumption) | assumption));have HP65:=Kd.R_putg HO_6.out (t608 : Int) (rd t604 t609)) |((with_reducible refine gate_store (t:=3) (p:=114) rfl ?_);(try(rw [drewN_self w63];generalize hq_ : World.drewN w63 _ = w63;have n0_:=Aside0.mk (Kd.R_at hq_ HO_6.out);have n1_:=Aside0.mk (Kd.R_at hq_ HO619.out);have n2_:=Aside0.mk (blk_at hq_ BK611.out);have n3_:=Aside0.mk (below_at hq_ HB.out);clear hq_ HO_6 HO619 BK611 HB;have HO_6:=n0_;have HO619:=n1_;have BK611:=n2_;have HB:=n3_;clear n0_ n1_ n2_ n3_;(try(have n_:=Aside0.mk (Kd.R_mono (ok':=(fun k_=>some k_ ≠(v618 : Value).ownBlock)) HO_6.out (fun k_ hk=>hk.2));clear HO_6;have HO_6:=n_;clear n_));(try(obtain ⟨hy65_,hz65_⟩:=Kd.R_celln 0 HO_6.out (t608 : Int) (of_decide_eq_true (by first |(with_reducible assumption) | assumption)) (of_decide_eq_true (by first |(with_reducible assumption) | assumption))));(try(have HP65:=Kd.R_putg HO_6.out (t608 : Int) (rd t604 t609)))));refine store_event (t:=3) (p:=114) (v:=?vo_w66) (w1:=(w63.setCell ⟨go40,(t608 : Int).toNat,none⟩ (.int .i64 (rd t604 t609)))) ?hg ?ho ?hn ?hr ?_;(case ho=>rfl);(case hg=>rfl);(case hn=>rfl);(case hr=>first |(go_simp;done) |(go_simp;rfl));intro w66 hw;have hg : w63.grownBy w66 (some go40):=(by rw [hw];exact HP65.2);have hp_ : Kd.R (Kd.int .i64) 3 w66 w.heap.size (fun k_=>some k_ ≠(v618 : Value).ownBlock) (.slice (some ⟨go40,0,none⟩) t604.length co11) y622:=(by rw [hw,Ny622.out];exact HP65.1);clear HP65;have n0_:=Aside0.mk (hp_);have n1_:=Aside0.mk (blk_grown (g:=gb611) (o:=.cells #[.int .i64 t608,.int .i64 t609] 45 (0,0)) (by(with_reducible repeat(first | refine bkN ?_ _ | refine bkD ?_ | refine bkA ?_ _));exact BK611.out) hg (Kd.R_ne HO_6.out BK611.out (by decide)));have n2_:=Aside0.mk (Kd.R_after (v:=(.slice (some ⟨go40,0,none⟩) t604.length co11)) (v1:=(.slice (some ⟨go40,0,none⟩) t604.length co11)) (ok:=(fun _=>True)) (by(with_reducible repeat(first | apply Kd.R_alloc | apply Kd.R_drewN | apply Kd.R_drew));exact HO619.out) hg (.inl rfl));have n3_:=Aside0.mk ((by rw [hw];exact bwS (HB.out) GB40.out : Below w.heap.size w w66));clear HO_6;clear BK611;clear HO619;clear HB;have HO_6:=n0_;have BK611:=n1_;have HO619:=n2_;have HB:=n3_;clear n0_ n1_ n2_ n3_;clear hg hw hp_;have hcz67_0 : w66.cell? ⟨gb611,0,none⟩ = some (.int .i64 t608):=(bkC BK611.out 0).trans rfl;have hcz67_1 : w66.cell? ⟨gb611,1,none⟩ = some (.int .i64 t609):=(bkC BK611.out 1).trans rfl;have hfz67_0:=bkF BK611.out 0;have hfz67_1:=bkF BK611.out 1;have p41 : 0 ≤(t609 : Int):=of_decide_eq_true (by first |(with_reducible assumption) | assumption);have q41 :(t609 : Int) < ((t604.length : Int) : Int):=of_decide_eq_true (by first |(with_reducible assumption) | assumption);obtain ⟨hx41_0,hf41_0⟩:=Kd.R_celln 0 HO_6.out (t609 : Int) p41 q41;replace p41:=eq_true p41;replace q41:=eq_true q41;obtain ⟨hy68_,hz68_⟩:=Kd.R_celln 0 HO_6.out (t609 : Int) (of_decide_eq_true (by first |(with_reducible assumption) | assumption)) (of_decide_eq_true (by first |(with_reducible assumption) | assumption));have HP68:=Kd.R_putg HO_6.out (t609 : Int) (rd t604 t608)) |((with_reducible refine gate_store (t:=3) (p:=119) rfl ?_);(try(rw [drewN_self w66];generalize hq_ : World.drewN w66 _ = w66;have n0_:=Aside0.mk (Kd.R_at hq_ HO_6.out);have n1_:=Aside0.mk (Kd.R_at hq_ HO619.out);have n2_:=Aside0.mk (blk_at hq_ BK611.out);have n3_:=Aside0.mk (below_at hq_ HB.out);clear hq_ HO_6 HO619 BK611 HB;have HO_6:=n0_;have HO619:=n1_;have BK611:=n2_;have HB:=n3_;clear n0_ n1_ n2_ n3_;(try(obtain ⟨hy68_,hz68_⟩:=Kd.R_celln 0 HO_6.out (t609 : Int) (of_decide_eq_true (by first |(with_reducible assumption) | assumption)) (of_decide_eq_true (by first |(with_reducible assumption) | assumption))));(try(have HP68:=Kd.R_putg HO_6.out (t609 : Int) (rd t604 t608)))));refine store_event (t:=3) (p:=119) (v:=?vo_w69) (w1:=(w66.setCell ⟨go40,(t609 : Int).toNat,none⟩ (.int .i64 (rd t604 t608)))) ?hg ?ho ?hn ?hr ?_;(case ho=>rfl);(case hg=>rfl);(case hn=>rfl);(case hr=>first |(go_simp;done) |(go_simp;rfl));intro w69 hw;have hg : w66.grownBy w69 (some go40):=(by rw [hw];exact HP68.2);have hp_ : Kd.R (Kd.int .i64) 3 w69 w.heap.size (fun k_=>some k_ ≠(v618 : Value).ownBlock) (.slice (some ⟨go40,0,none⟩) t604.length co11) y623:=(by rw [hw,Ny623.out];exact HP68.1);clear HP68;have n0_:=Aside0.mk (hp_);have n1_:=Aside0.mk (blk_grown (g:=gb611) (o:=.cells #[.int .i64 t608,.int .i64 t609] 45 (0,0)) (by(with_reducible repeat(first | refine bkN ?_ _ | refine bkD ?_ | refine bkA ?_ _));exact BK611.out) hg (Kd.R_ne HO_6.out BK611.out (by decide)));have n2_:=Aside0.mk (Kd.R_after (v:=(.slice (some ⟨go40,0,none⟩) t604.length co11)) (v1:=(.slice (some ⟨go40,0,none⟩) t604.length co11)) (ok:=(fun _=>True)) (by(with_reducible repeat(first | apply Kd.R_alloc | apply Kd.R_drewN | apply Kd.R_drew));exact HO619.out) hg (.inl rfl));have n3_:=Aside0.mk ((by rw [hw];exact bwS (HB.out) GB40.out : Below w.heap.size w w69));clear HO_6;clear BK611;clear HO619;clear HB;have HO_6:=n0_;have BK611:=n1_;have HO619:=n2_;have HB:=n3_;clear n0_ n1_ n2_ n3_;clear hg hw hp_)))
      go_ret
      exact⟨by first | rfl |(simp [errW_none,errW_some] <;> rfl) |(simp [*,errW_none,errW_some] <;> rfl),by repeat(first |(with_reducible first | exact HB.out | apply bwA | apply bwN | apply bw1 | refine bwS ?_ GE611.out) | exact HB.out)⟩
     rw [if_pos c42] at H
     have c42b0 :(t617 == 0) = true:=beq_iff_eq.mpr c42
     have c42b1 :(t617 != 0) = false:=bne_eq_false_iff_eq.mpr c42
     clear c42
     replace H:=Option.bind_eq_some_iff.mp H
     obtain ⟨t624,A430,H⟩:=H
     replace H :(if t624 = true then((w10_awake.f kj27).bind fun t625=>(some t625)) else(some false)) = some r:=H
     have A43:=Aside0.mk A430
     clear A430
     by_cases c44 : t624 = true
     rotate_left
     ·replace c44 := Bool.eq_false_iff.mpr c44
      subst c44
      have H1 :(some false) = some r:=by rw [if_neg (show ¬ (false = true) by decide)] at H;exact H
      clear H
      have H:=H1
      clear H1
      obtain rfl:=Option.some.inj H
      go_wp2_with (first |(go_at_call 48;(with_reducible refine(turns_Order.calls t601 (wrap64 (t603 + 1)) t616 t617 _ A35.out).mono ?_);rintro e w55 ⟨v618,rfl,ho0,hb⟩;have n0_:=Aside0.mk (Kd.R_elder' (by(with_reducible repeat(first | apply Kd.R_alloc | apply Kd.R_drewN | apply Kd.R_drew));exact HO_6.out) (Kd.R_base ho0) hb);have n1_:=Aside0.mk (Kd.R_lower (Kd.R_new' ho0 (Kd.R_lt (by(with_reducible repeat(first | apply Kd.R_alloc | apply Kd.R_drewN | apply Kd.R_drew));exact HO_6.out))) (bwZ (by repeat(first |(with_reducible first | exact HB.out | apply bwA | apply bwN | apply bw1 | refine bwS ?_ GE611.out) | exact HB.out))));have n2_:=Aside0.mk (bkB (g:=gb611) (o:=.cells #[.int .i64 t608,.int .i64 t609] 45 (0,0)) (by(with_reducible repeat(first | refine bkN ?_ _ | refine bkD ?_ | refine bkA ?_ _));exact BK611.out) hb);have n3_:=Aside0.mk (bwT (by repeat(first |(with_reducible first | exact HB.out | apply bwA | apply bwN | apply bw1 | refine bwS ?_ GE611.out) | exact HB.out)) hb);clear HO_6;clear BK611;clear HB;have HO_6:=n0_;have HO619:=n1_;have BK611:=n2_;have HB:=n3_;clear n0_ n1_ n2_ n3_;(try clear hb);(try clear hb2);(try clear hk);(try clear hi);(try clear ho0);have hcz56_0 : w55.cell? ⟨gb611,0,none⟩ = some (.int .i64 t608):=(bkC BK611.out 0).trans rfl;have hcz56_1 : w55.cell? ⟨gb611,1,none⟩ = some (.int .i64 t609):=(bkC BK611.out 1).trans rfl;have hfz56_0:=bkF BK611.out 0;have hfz56_1:=bkF BK611.out 1;have p620 : 0 ≤(t608 : Int):=of_decide_eq_true (by first |(with_reducible assumption) | assumption);have q620 : t608 < (t604.length : Int):=of_decide_eq_true (by first |(with_reducible assumption) | assumption);obtain ⟨ad620,e620,hx620_0⟩:=Kd.at_int (Kd.R_reads' HO_6.out).2.2 t608 p620 q620;cases e620;replace p620:=eq_true p620;replace q620:=eq_true q620;have p621 : 0 ≤(t609 : Int):=of_decide_eq_true (by first |(with_reducible assumption) | assumption);have q621 : t609 < (t604.length : Int):=of_decide_eq_true (by first |(with_reducible assumption) | assumption);obtain ⟨ad621,e621,hx621_0⟩:=Kd.at_int (Kd.R_reads' HO_6.out).2.2 t609 p621 q621;obtain rfl : ad620 = ad621:=(by injection e621);replace p621:=eq_true p621;replace q621:=eq_true q621;have p40 : 0 ≤(t608 : Int):=of_decide_eq_true (by first |(with_reducible assumption) | assumption);have q40 :(t608 : Int) < ((t604.length : Int) : Int):=of_decide_eq_true (by first |(with_reducible assumption) | assumption);obtain ⟨go40,co40,eo40,gb40,gl40,cl40,HG40⟩:=Kd.R_form HO_6.out (by omega);(first | cases eo40 |(injection eo40 with ea_ en_ ec_;(first | subst ea_ |(injection ea_ with ea_;subst ea_));subst ec_;clear en_));have GB40:=Aside0.mk gb40;have GG40:=Aside0.mk HG40;clear gb40 gl40 HG40;(first | simp only [add_plain] at hx620_0 | skip);(first | simp only [add_plain] at hx621_0 | skip);obtain ⟨hx40_0,hf40_0⟩:=Kd.R_celln 0 HO_6.out (t608 : Int) p40 q40;replace p40:=eq_true p40;replace q40:=eq_true q40;have n_:=Aside0.mk (Kd.R_mono (ok':=(fun k_=>some k_ ≠(v618 : Value).ownBlock)) HO_6.out (fun k_ hk=>hk.2));clear HO_6;have HO_6:=n_;clear n_;obtain ⟨hy57_,hz57_⟩:=Kd.R_celln 0 HO_6.out (t608 : Int) (of_decide_eq_true (by first |(with_reducible assumption) | assumption)) (of_decide_eq_true (by first |(with_reducible assumption) | assumption));have HP57:=Kd.R_putg HO_6.out (t608 : Int) (rd t604 t609)) |((with_reducible refine gate_store (t:=3) (p:=114) rfl ?_);(try(rw [drewN_self w55];generalize hq_ : World.drewN w55 _ = w55;have n0_:=Aside0.mk (Kd.R_at hq_ HO_6.out);have n1_:=Aside0.mk (Kd.R_at hq_ HO619.out);have n2_:=Aside0.mk (blk_at hq_ BK611.out);have n3_:=Aside0.mk (below_at hq_ HB.out);clear hq_ HO_6 HO619 BK611 HB;have HO_6:=n0_;have HO619:=n1_;have BK611:=n2_;have HB:=n3_;clear n0_ n1_ n2_ n3_;(try(have n_:=Aside0.mk (Kd.R_mono (ok':=(fun k_=>some k_ ≠(v618 : Value).ownBlock)) HO_6.out (fun k_ hk=>hk.2));clear HO_6;have HO_6:=n_;clear n_));(try(obtain ⟨hy57_,hz57_⟩:=Kd.R_celln 0 HO_6.out (t608 : Int) (of_decide_eq_true (by first |(with_reducible assumption) | assumption)) (of_decide_eq_true (by first |(with_reducible assumption) | assumption))));(try(have HP57:=Kd.R_putg HO_6.out (t608 : Int) (rd t604 t609)))));refine store_event (t:=3) (p:=114) (v:=?vo_w58) (w1:=(w55.setCell ⟨go40,(t608 : Int).toNat,none⟩ (.int .i64 (rd t604 t609)))) ?hg ?ho ?hn ?hr ?_;(case ho=>rfl);(case hg=>rfl);(case hn=>rfl);(case hr=>first |(go_simp;done) |(go_simp;rfl));intro w58 hw;have hg : w55.grownBy w58 (some go40):=(by rw [hw];exact HP57.2);have hp_ : Kd.R (Kd.int .i64) 3 w58 w.heap.size (fun k_=>some k_ ≠(v618 : Value).ownBlock) (.slice (some ⟨go40,0,none⟩) t604.length co11) y622:=(by rw [hw,Ny622.out];exact HP57.1);clear HP57;have n0_:=Aside0.mk (hp_);have n1_:=Aside0.mk (blk_grown (g:=gb611) (o:=.cells #[.int .i64 t608,.int .i64 t609] 45 (0,0)) (by(with_reducible repeat(first | refine bkN ?_ _ | refine bkD ?_ | refine bkA ?_ _));exact BK611.out) hg (Kd.R_ne HO_6.out BK611.out (by decide)));have n2_:=Aside0.mk (Kd.R_after (v:=(.slice (some ⟨go40,0,none⟩) t604.length co11)) (v1:=(.slice (some ⟨go40,0,none⟩) t604.length co11)) (ok:=(fun _=>True)) (by(with_reducible repeat(first | apply Kd.R_alloc | apply Kd.R_drewN | apply Kd.R_drew));exact HO619.out) hg (.inl rfl));have n3_:=Aside0.mk ((by rw [hw];exact bwS (HB.out) GB40.out : Below w.heap.size w w58));clear HO_6;clear BK611;clear HO619;clear HB;have HO_6:=n0_;have BK611:=n1_;have HO619:=n2_;have HB:=n3_;clear n0_ n1_ n2_ n3_;clear hg hw hp_;have hcz59_0 : w58.cell? ⟨gb611,0,none⟩ = some (.int .i64 t608):=(bkC BK611.out 0).trans rfl;have hcz59_1 : w58.cell? ⟨gb611,1,none⟩ = some (.int .i64 t609):=(bkC BK611.out 1).trans rfl;have hfz59_0:=bkF BK611.out 0;have hfz59_1:=bkF BK611.out 1;have p41 : 0 ≤(t609 : Int):=of_decide_eq_true (by first |(with_reducible assumption) | assumption);have q41 :(t609 : Int) < ((t604.length : Int) : Int):=of_decide_eq_true (by first |(with_reducible assumption) | assumption);obtain ⟨hx41_0,hf41_0⟩:=Kd.R_celln 0 HO_6.out (t609 : Int) p41 q41;replace p41:=eq_true p41;replace q41:=eq_true q41;obtain ⟨hy60_,hz60_⟩:=Kd.R_celln 0 HO_6.out (t609 : Int) (of_decide_eq_true (by first |(with_reducible assumption) | assumption)) (of_decide_eq_true (by first |(with_reducible assumption) | assumption));have HP60:=Kd.R_putg HO_6.out (t609 : Int) (rd t604 t608)) |((with_reducible refine gate_store (t:=3) (p:=119) rfl ?_);(try(rw [drewN_self w58];generalize hq_ : World.drewN w58 _ = w58;have n0_:=Aside0.mk (Kd.R_at hq_ HO_6.out);have n1_:=Aside0.mk (Kd.R_at hq_ HO619.out);have n2_:=Aside0.mk (blk_at hq_ BK611.out);have n3_:=Aside0.mk (below_at hq_ HB.out);clear hq_ HO_6 HO619 BK611 HB;have HO_6:=n0_;have HO619:=n1_;have BK611:=n2_;have HB:=n3_;clear n0_ n1_ n2_ n3_;(try(obtain ⟨hy60_,hz60_⟩:=Kd.R_celln 0 HO_6.out (t609 : Int) (of_decide_eq_true (by first |(with_reducible assumption) | assumption)) (of_decide_eq_true (by first |(with_reducible assumption) | assumption))));(try(have HP60:=Kd.R_putg HO_6.out (t609 : Int) (rd t604 t608)))));refine store_event (t:=3) (p:=119) (v:=?vo_w61) (w1:=(w58.setCell ⟨go40,(t609 : Int).toNat,none⟩ (.int .i64 (rd t604 t608)))) ?hg ?ho ?hn ?hr ?_;(case ho=>rfl);(case hg=>rfl);(case hn=>rfl);(case hr=>first |(go_simp;done) |(go_simp;rfl));intro w61 hw;have hg : w58.grownBy w61 (some go40):=(by rw [hw];exact HP60.2);have hp_ : Kd.R (Kd.int .i64) 3 w61 w.heap.size (fun k_=>some k_ ≠(v618 : Value).ownBlock) (.slice (some ⟨go40,0,none⟩) t604.length co11) y623:=(by rw [hw,Ny623.out];exact HP60.1);clear HP60;have n0_:=Aside0.mk (hp_);have n1_:=Aside0.mk (blk_grown (g:=gb611) (o:=.cells #[.int .i64 t608,.int .i64 t609] 45 (0,0)) (by(with_reducible repeat(first | refine bkN ?_ _ | refine bkD ?_ | refine bkA ?_ _));exact BK611.out) hg (Kd.R_ne HO_6.out BK611.out (by decide)));have n2_:=Aside0.mk (Kd.R_after (v:=(.slice (some ⟨go40,0,none⟩) t604.length co11)) (v1:=(.slice (some ⟨go40,0,none⟩) t604.length co11)) (ok:=(fun _=>True)) (by(with_reducible repeat(first | apply Kd.R_alloc | apply Kd.R_drewN | apply Kd.R_drew));exact HO619.out) hg (.inl rfl));have n3_:=Aside0.mk ((by rw [hw];exact bwS (HB.out) GB40.out : Below w.heap.size w w61));clear HO_6;clear BK611;clear HO619;clear HB;have HO_6:=n0_;have BK611:=n1_;have HO619:=n2_;have HB:=n3_;clear n0_ n1_ n2_ n3_;clear hg hw hp_;obtain ⟨Ao62,co62,eo62⟩:=Kd.R_slice HO619.out;subst eo62) |(go_at_call 22;refine calls_of_args (args':=#[.slice (some ⟨go40,0,none⟩) y623.length co11,.slice Ao62 t616.length co62]) (by first |(rw [show y623.length = t604.length from(Kd.R_reads' HO_6.out).1.symm] <;> rfl) | rfl) ?_;(with_reducible refine(w10_ints.calls kj27 _ _ y623 _ _ t616 false _ ?side1 ?side2 ?side3 ?side4 A43.out).mono ?_);(case side1=>repeat(first | exact(Kd.R_reads' HO_6.out).2.2 |(with_reducible refine Kd.C_alloc ?_ _) |(with_reducible refine Kd.C_drewN ?_ _) |(with_reducible refine Kd.C_drew ?_)));(case side2=>rw [show y623.length = t604.length from(Kd.R_reads' HO_6.out).1.symm];exact(Kd.R_reads' HO_6.out).2.1);(case side3=>repeat(first | exact(Kd.R_reads' HO619.out).2.2 |(with_reducible refine Kd.C_alloc ?_ _) |(with_reducible refine Kd.C_drewN ?_ _) |(with_reducible refine Kd.C_drew ?_)));(case side4=>exact(Kd.R_reads' HO619.out).2.1);rintro e w' ⟨rfl,⟨nd,rfl⟩⟩;(try first | exact⟨rfl,_,World.drewN_drewN _ _ _⟩ | exact⟨rfl,_,Eq.trans (World.drewN_drewN _ _ _) (congrArg (World.drewN _) (Nat.add_assoc _ _ _))⟩)))
      repeat(go_quiet (first |(go_at_call 48;(with_reducible refine(turns_Order.calls t601 (wrap64 (t603 + 1)) t616 t617 _ A35.out).mono ?_);rintro e w55 ⟨v618,rfl,ho0,hb⟩;have n0_:=Aside0.mk (Kd.R_elder' (by(with_reducible repeat(first | apply Kd.R_alloc | apply Kd.R_drewN | apply Kd.R_drew));exact HO_6.out) (Kd.R_base ho0) hb);have n1_:=Aside0.mk (Kd.R_lower (Kd.R_new' ho0 (Kd.R_lt (by(with_reducible repeat(first | apply Kd.R_alloc | apply Kd.R_drewN | apply Kd.R_drew));exact HO_6.out))) (bwZ (by repeat(first |(with_reducible first | exact HB.out | apply bwA | apply bwN | apply bw1 | refine bwS ?_ GE611.out) | exact HB.out))));have n2_:=Aside0.mk (bkB (g:=gb611) (o:=.cells #[.int .i64 t608,.int .i64 t609] 45 (0,0)) (by(with_reducible repeat(first | refine bkN ?_ _ | refine bkD ?_ | refine bkA ?_ _));exact BK611.out) hb);have n3_:=Aside0.mk (bwT (by repeat(first |(with_reducible first | exact HB.out | apply bwA | apply bwN | apply bw1 | refine bwS ?_ GE611.out) | exact HB.out)) hb);clear HO_6;clear BK611;clear HB;have HO_6:=n0_;have HO619:=n1_;have BK611:=n2_;have HB:=n3_;clear n0_ n1_ n2_ n3_;(try clear hb);(try clear hb2);(try clear hk);(try clear hi);(try clear ho0);have hcz56_0 : w55.cell? ⟨gb611,0,none⟩ = some (.int .i64 t608):=(bkC BK611.out 0).trans rfl;have hcz56_1 : w55.cell? ⟨gb611,1,none⟩ = some (.int .i64 t609):=(bkC BK611.out 1).trans rfl;have hfz56_0:=bkF BK611.out 0;have hfz56_1:=bkF BK611.out 1;have p620 : 0 ≤(t608 : Int):=of_decide_eq_true (by first |(with_reducible assumption) | assumption);have q620 : t608 < (t604.length : Int):=of_decide_eq_true (by first |(with_reducible assumption) | assumption);obtain ⟨ad620,e620,hx620_0⟩:=Kd.at_int (Kd.R_reads' HO_6.out).2.2 t608 p620 q620;cases e620;replace p620:=eq_true p620;replace q620:=eq_true q620;have p621 : 0 ≤(t609 : Int):=of_decide_eq_true (by first |(with_reducible assumption) | assumption);have q621 : t609 < (t604.length : Int):=of_decide_eq_true (by first |(with_reducible assumption) | assumption);obtain ⟨ad621,e621,hx621_0⟩:=Kd.at_int (Kd.R_reads' HO_6.out).2.2 t609 p621 q621;obtain rfl : ad620 = ad621:=(by injection e621);replace p621:=eq_true p621;replace q621:=eq_true q621;have p40 : 0 ≤(t608 : Int):=of_decide_eq_true (by first |(with_reducible assumption) | assumption);have q40 :(t608 : Int) < ((t604.length : Int) : Int):=of_decide_eq_true (by first |(with_reducible assumption) | assumption);obtain ⟨go40,co40,eo40,gb40,gl40,cl40,HG40⟩:=Kd.R_form HO_6.out (by omega);(first | cases eo40 |(injection eo40 with ea_ en_ ec_;(first | subst ea_ |(injection ea_ with ea_;subst ea_));subst ec_;clear en_));have GB40:=Aside0.mk gb40;have GG40:=Aside0.mk HG40;clear gb40 gl40 HG40;(first | simp only [add_plain] at hx620_0 | skip);(first | simp only [add_plain] at hx621_0 | skip);obtain ⟨hx40_0,hf40_0⟩:=Kd.R_celln 0 HO_6.out (t608 : Int) p40 q40;replace p40:=eq_true p40;replace q40:=eq_true q40;have n_:=Aside0.mk (Kd.R_mono (ok':=(fun k_=>some k_ ≠(v618 : Value).ownBlock)) HO_6.out (fun k_ hk=>hk.2));clear HO_6;have HO_6:=n_;clear n_;obtain ⟨hy57_,hz57_⟩:=Kd.R_celln 0 HO_6.out (t608 : Int) (of_decide_eq_true (by first |(with_reducible assumption) | assumption)) (of_decide_eq_true (by first |(with_reducible assumption) | assumption));have HP57:=Kd.R_putg HO_6.out (t608 : Int) (rd t604 t609)) |((with_reducible refine gate_store (t:=3) (p:=114) rfl ?_);(try(rw [drewN_self w55];generalize hq_ : World.drewN w55 _ = w55;have n0_:=Aside0.mk (Kd.R_at hq_ HO_6.out);have n1_:=Aside0.mk (Kd.R_at hq_ HO619.out);have n2_:=Aside0.mk (blk_at hq_ BK611.out);have n3_:=Aside0.mk (below_at hq_ HB.out);clear hq_ HO_6 HO619 BK611 HB;have HO_6:=n0_;have HO619:=n1_;have BK611:=n2_;have HB:=n3_;clear n0_ n1_ n2_ n3_;(try(have n_:=Aside0.mk (Kd.R_mono (ok':=(fun k_=>some k_ ≠(v618 : Value).ownBlock)) HO_6.out (fun k_ hk=>hk.2));clear HO_6;have HO_6:=n_;clear n_));(try(obtain ⟨hy57_,hz57_⟩:=Kd.R_celln 0 HO_6.out (t608 : Int) (of_decide_eq_true (by first |(with_reducible assumption) | assumption)) (of_decide_eq_true (by first |(with_reducible assumption) | assumption))));(try(have HP57:=Kd.R_putg HO_6.out (t608 : Int) (rd t604 t609)))));refine store_event (t:=3) (p:=114) (v:=?vo_w58) (w1:=(w55.setCell ⟨go40,(t608 : Int).toNat,none⟩ (.int .i64 (rd t604 t609)))) ?hg ?ho ?hn ?hr ?_;(case ho=>rfl);(case hg=>rfl);(case hn=>rfl);(case hr=>first |(go_simp;done) |(go_simp;rfl));intro w58 hw;have hg : w55.grownBy w58 (some go40):=(by rw [hw];exact HP57.2);have hp_ : Kd.R (Kd.int .i64) 3 w58 w.heap.size (fun k_=>some k_ ≠(v618 : Value).ownBlock) (.slice (some ⟨go40,0,none⟩) t604.length co11) y622:=(by rw [hw,Ny622.out];exact HP57.1);clear HP57;have n0_:=Aside0.mk (hp_);have n1_:=Aside0.mk (blk_grown (g:=gb611) (o:=.cells #[.int .i64 t608,.int .i64 t609] 45 (0,0)) (by(with_reducible repeat(first | refine bkN ?_ _ | refine bkD ?_ | refine bkA ?_ _));exact BK611.out) hg (Kd.R_ne HO_6.out BK611.out (by decide)));have n2_:=Aside0.mk (Kd.R_after (v:=(.slice (some ⟨go40,0,none⟩) t604.length co11)) (v1:=(.slice (some ⟨go40,0,none⟩) t604.length co11)) (ok:=(fun _=>True)) (by(with_reducible repeat(first | apply Kd.R_alloc | apply Kd.R_drewN | apply Kd.R_drew));exact HO619.out) hg (.inl rfl));have n3_:=Aside0.mk ((by rw [hw];exact bwS (HB.out) GB40.out : Below w.heap.size w w58));clear HO_6;clear BK611;clear HO619;clear HB;have HO_6:=n0_;have BK611:=n1_;have HO619:=n2_;have HB:=n3_;clear n0_ n1_ n2_ n3_;clear hg hw hp_;have hcz59_0 : w58.cell? ⟨gb611,0,none⟩ = some (.int .i64 t608):=(bkC BK611.out 0).trans rfl;have hcz59_1 : w58.cell? ⟨gb611,1,none⟩ = some (.int .i64 t609):=(bkC BK611.out 1).trans rfl;have hfz59_0:=bkF BK611.out 0;have hfz59_1:=bkF BK611.out 1;have p41 : 0 ≤(t609 : Int):=of_decide_eq_true (by first |(with_reducible assumption) | assumption);have q41 :(t609 : Int) < ((t604.length : Int) : Int):=of_decide_eq_true (by first |(with_reducible assumption) | assumption);obtain ⟨hx41_0,hf41_0⟩:=Kd.R_celln 0 HO_6.out (t609 : Int) p41 q41;replace p41:=eq_true p41;replace q41:=eq_true q41;obtain ⟨hy60_,hz60_⟩:=Kd.R_celln 0 HO_6.out (t609 : Int) (of_decide_eq_true (by first |(with_reducible assumption) | assumption)) (of_decide_eq_true (by first |(with_reducible assumption) | assumption));have HP60:=Kd.R_putg HO_6.out (t609 : Int) (rd t604 t608)) |((with_reducible refine gate_store (t:=3) (p:=119) rfl ?_);(try(rw [drewN_self w58];generalize hq_ : World.drewN w58 _ = w58;have n0_:=Aside0.mk (Kd.R_at hq_ HO_6.out);have n1_:=Aside0.mk (Kd.R_at hq_ HO619.out);have n2_:=Aside0.mk (blk_at hq_ BK611.out);have n3_:=Aside0.mk (below_at hq_ HB.out);clear hq_ HO_6 HO619 BK611 HB;have HO_6:=n0_;have HO619:=n1_;have BK611:=n2_;have HB:=n3_;clear n0_ n1_ n2_ n3_;(try(obtain ⟨hy60_,hz60_⟩:=Kd.R_celln 0 HO_6.out (t609 : Int) (of_decide_eq_true (by first |(with_reducible assumption) | assumption)) (of_decide_eq_true (by first |(with_reducible assumption) | assumption))));(try(have HP60:=Kd.R_putg HO_6.out (t609 : Int) (rd t604 t608)))));refine store_event (t:=3) (p:=119) (v:=?vo_w61) (w1:=(w58.setCell ⟨go40,(t609 : Int).toNat,none⟩ (.int .i64 (rd t604 t608)))) ?hg ?ho ?hn ?hr ?_;(case ho=>rfl);(case hg=>rfl);(case hn=>rfl);(case hr=>first |(go_simp;done) |(go_simp;rfl));intro w61 hw;have hg : w58.grownBy w61 (some go40):=(by rw [hw];exact HP60.2);have hp_ : Kd.R (Kd.int .i64) 3 w61 w.heap.size (fun k_=>some k_ ≠(v618 : Value).ownBlock) (.slice (some ⟨go40,0,none⟩) t604.length co11) y623:=(by rw [hw,Ny623.out];exact HP60.1);clear HP60;have n0_:=Aside0.mk (hp_);have n1_:=Aside0.mk (blk_grown (g:=gb611) (o:=.cells #[.int .i64 t608,.int .i64 t609] 45 (0,0)) (by(with_reducible repeat(first | refine bkN ?_ _ | refine bkD ?_ | refine bkA ?_ _));exact BK611.out) hg (Kd.R_ne HO_6.out BK611.out (by decide)));have n2_:=Aside0.mk (Kd.R_after (v:=(.slice (some ⟨go40,0,none⟩) t604.length co11)) (v1:=(.slice (some ⟨go40,0,none⟩) t604.length co11)) (ok:=(fun _=>True)) (by(with_reducible repeat(first | apply Kd.R_alloc | apply Kd.R_drewN | apply Kd.R_drew));exact HO619.out) hg (.inl rfl));have n3_:=Aside0.mk ((by rw [hw];exact bwS (HB.out) GB40.out : Below w.heap.size w w61));clear HO_6;clear BK611;clear HO619;clear HB;have HO_6:=n0_;have BK611:=n1_;have HO619:=n2_;have HB:=n3_;clear n0_ n1_ n2_ n3_;clear hg hw hp_;obtain ⟨Ao62,co62,eo62⟩:=Kd.R_slice HO619.out;subst eo62) |(go_at_call 22;refine calls_of_args (args':=#[.slice (some ⟨go40,0,none⟩) y623.length co11,.slice Ao62 t616.length co62]) (by first |(rw [show y623.length = t604.length from(Kd.R_reads' HO_6.out).1.symm] <;> rfl) | rfl) ?_;(with_reducible refine(w10_ints.calls kj27 _ _ y623 _ _ t616 false _ ?side1 ?side2 ?side3 ?side4 A43.out).mono ?_);(case side1=>repeat(first | exact(Kd.R_reads' HO_6.out).2.2 |(with_reducible refine Kd.C_alloc ?_ _) |(with_reducible refine Kd.C_drewN ?_ _) |(with_reducible refine Kd.C_drew ?_)));(case side2=>rw [show y623.length = t604.length from(Kd.R_reads' HO_6.out).1.symm];exact(Kd.R_reads' HO_6.out).2.1);(case side3=>repeat(first | exact(Kd.R_reads' HO619.out).2.2 |(with_reducible refine Kd.C_alloc ?_ _) |(with_reducible refine Kd.C_drewN ?_ _) |(with_reducible refine Kd.C_drew ?_)));(case side4=>exact(Kd.R_reads' HO619.out).2.1);rintro e w' ⟨rfl,⟨nd,rfl⟩⟩;(try first | exact⟨rfl,_,World.drewN_drewN _ _ _⟩ | exact⟨rfl,_,Eq.trans (World.drewN_drewN _ _ _) (congrArg (World.drewN _) (Nat.add_assoc _ _ _))⟩)));try go_wp2_with (first |(go_at_call 48;(with_reducible refine(turns_Order.calls t601 (wrap64 (t603 + 1)) t616 t617 _ A35.out).mono ?_);rintro e w55 ⟨v618,rfl,ho0,hb⟩;have n0_:=Aside0.mk (Kd.R_elder' (by(with_reducible repeat(first | apply Kd.R_alloc | apply Kd.R_drewN | apply Kd.R_drew));exact HO_6.out) (Kd.R_base ho0) hb);have n1_:=Aside0.mk (Kd.R_lower (Kd.R_new' ho0 (Kd.R_lt (by(with_reducible repeat(first | apply Kd.R_alloc | apply Kd.R_drewN | apply Kd.R_drew));exact HO_6.out))) (bwZ (by repeat(first |(with_reducible first | exact HB.out | apply bwA | apply bwN | apply bw1 | refine bwS ?_ GE611.out) | exact HB.out))));have n2_:=Aside0.mk (bkB (g:=gb611) (o:=.cells #[.int .i64 t608,.int .i64 t609] 45 (0,0)) (by(with_reducible repeat(first | refine bkN ?_ _ | refine bkD ?_ | refine bkA ?_ _));exact BK611.out) hb);have n3_:=Aside0.mk (bwT (by repeat(first |(with_reducible first | exact HB.out | apply bwA | apply bwN | apply bw1 | refine bwS ?_ GE611.out) | exact HB.out)) hb);clear HO_6;clear BK611;clear HB;have HO_6:=n0_;have HO619:=n1_;have BK611:=n2_;have HB:=n3_;clear n0_ n1_ n2_ n3_;(try clear hb);(try clear hb2);(try clear hk);(try clear hi);(try clear ho0);have hcz56_0 : w55.cell? ⟨gb611,0,none⟩ = some (.int .i64 t608):=(bkC BK611.out 0).trans rfl;have hcz56_1 : w55.cell? ⟨gb611,1,none⟩ = some (.int .i64 t609):=(bkC BK611.out 1).trans rfl;have hfz56_0:=bkF BK611.out 0;have hfz56_1:=bkF BK611.out 1;have p620 : 0 ≤(t608 : Int):=of_decide_eq_true (by first |(with_reducible assumption) | assumption);have q620 : t608 < (t604.length : Int):=of_decide_eq_true (by first |(with_reducible assumption) | assumption);obtain ⟨ad620,e620,hx620_0⟩:=Kd.at_int (Kd.R_reads' HO_6.out).2.2 t608 p620 q620;cases e620;replace p620:=eq_true p620;replace q620:=eq_true q620;have p621 : 0 ≤(t609 : Int):=of_decide_eq_true (by first |(with_reducible assumption) | assumption);have q621 : t609 < (t604.length : Int):=of_decide_eq_true (by first |(with_reducible assumption) | assumption);obtain ⟨ad621,e621,hx621_0⟩:=Kd.at_int (Kd.R_reads' HO_6.out).2.2 t609 p621 q621;obtain rfl : ad620 = ad621:=(by injection e621);replace p621:=eq_true p621;replace q621:=eq_true q621;have p40 : 0 ≤(t608 : Int):=of_decide_eq_true (by first |(with_reducible assumption) | assumption);have q40 :(t608 : Int) < ((t604.length : Int) : Int):=of_decide_eq_true (by first |(with_reducible assumption) | assumption);obtain ⟨go40,co40,eo40,gb40,gl40,cl40,HG40⟩:=Kd.R_form HO_6.out (by omega);(first | cases eo40 |(injection eo40 with ea_ en_ ec_;(first | subst ea_ |(injection ea_ with ea_;subst ea_));subst ec_;clear en_));have GB40:=Aside0.mk gb40;have GG40:=Aside0.mk HG40;clear gb40 gl40 HG40;(first | simp only [add_plain] at hx620_0 | skip);(first | simp only [add_plain] at hx621_0 | skip);obtain ⟨hx40_0,hf40_0⟩:=Kd.R_celln 0 HO_6.out (t608 : Int) p40 q40;replace p40:=eq_true p40;replace q40:=eq_true q40;have n_:=Aside0.mk (Kd.R_mono (ok':=(fun k_=>some k_ ≠(v618 : Value).ownBlock)) HO_6.out (fun k_ hk=>hk.2));clear HO_6;have HO_6:=n_;clear n_;obtain ⟨hy57_,hz57_⟩:=Kd.R_celln 0 HO_6.out (t608 : Int) (of_decide_eq_true (by first |(with_reducible assumption) | assumption)) (of_decide_eq_true (by first |(with_reducible assumption) | assumption));have HP57:=Kd.R_putg HO_6.out (t608 : Int) (rd t604 t609)) |((with_reducible refine gate_store (t:=3) (p:=114) rfl ?_);(try(rw [drewN_self w55];generalize hq_ : World.drewN w55 _ = w55;have n0_:=Aside0.mk (Kd.R_at hq_ HO_6.out);have n1_:=Aside0.mk (Kd.R_at hq_ HO619.out);have n2_:=Aside0.mk (blk_at hq_ BK611.out);have n3_:=Aside0.mk (below_at hq_ HB.out);clear hq_ HO_6 HO619 BK611 HB;have HO_6:=n0_;have HO619:=n1_;have BK611:=n2_;have HB:=n3_;clear n0_ n1_ n2_ n3_;(try(have n_:=Aside0.mk (Kd.R_mono (ok':=(fun k_=>some k_ ≠(v618 : Value).ownBlock)) HO_6.out (fun k_ hk=>hk.2));clear HO_6;have HO_6:=n_;clear n_));(try(obtain ⟨hy57_,hz57_⟩:=Kd.R_celln 0 HO_6.out (t608 : Int) (of_decide_eq_true (by first |(with_reducible assumption) | assumption)) (of_decide_eq_true (by first |(with_reducible assumption) | assumption))));(try(have HP57:=Kd.R_putg HO_6.out (t608 : Int) (rd t604 t609)))));refine store_event (t:=3) (p:=114) (v:=?vo_w58) (w1:=(w55.setCell ⟨go40,(t608 : Int).toNat,none⟩ (.int .i64 (rd t604 t609)))) ?hg ?ho ?hn ?hr ?_;(case ho=>rfl);(case hg=>rfl);(case hn=>rfl);(case hr=>first |(go_simp;done) |(go_simp;rfl));intro w58 hw;have hg : w55.grownBy w58 (some go40):=(by rw [hw];exact HP57.2);have hp_ : Kd.R (Kd.int .i64) 3 w58 w.heap.size (fun k_=>some k_ ≠(v618 : Value).ownBlock) (.slice (some ⟨go40,0,none⟩) t604.length co11) y622:=(by rw [hw,Ny622.out];exact HP57.1);clear HP57;have n0_:=Aside0.mk (hp_);have n1_:=Aside0.mk (blk_grown (g:=gb611) (o:=.cells #[.int .i64 t608,.int .i64 t609] 45 (0,0)) (by(with_reducible repeat(first | refine bkN ?_ _ | refine bkD ?_ | refine bkA ?_ _));exact BK611.out) hg (Kd.R_ne HO_6.out BK611.out (by decide)));have n2_:=Aside0.mk (Kd.R_after (v:=(.slice (some ⟨go40,0,none⟩) t604.length co11)) (v1:=(.slice (some ⟨go40,0,none⟩) t604.length co11)) (ok:=(fun _=>True)) (by(with_reducible repeat(first | apply Kd.R_alloc | apply Kd.R_drewN | apply Kd.R_drew));exact HO619.out) hg (.inl rfl));have n3_:=Aside0.mk ((by rw [hw];exact bwS (HB.out) GB40.out : Below w.heap.size w w58));clear HO_6;clear BK611;clear HO619;clear HB;have HO_6:=n0_;have BK611:=n1_;have HO619:=n2_;have HB:=n3_;clear n0_ n1_ n2_ n3_;clear hg hw hp_;have hcz59_0 : w58.cell? ⟨gb611,0,none⟩ = some (.int .i64 t608):=(bkC BK611.out 0).trans rfl;have hcz59_1 : w58.cell? ⟨gb611,1,none⟩ = some (.int .i64 t609):=(bkC BK611.out 1).trans rfl;have hfz59_0:=bkF BK611.out 0;have hfz59_1:=bkF BK611.out 1;have p41 : 0 ≤(t609 : Int):=of_decide_eq_true (by first |(with_reducible assumption) | assumption);have q41 :(t609 : Int) < ((t604.length : Int) : Int):=of_decide_eq_true (by first |(with_reducible assumption) | assumption);obtain ⟨hx41_0,hf41_0⟩:=Kd.R_celln 0 HO_6.out (t609 : Int) p41 q41;replace p41:=eq_true p41;replace q41:=eq_true q41;obtain ⟨hy60_,hz60_⟩:=Kd.R_celln 0 HO_6.out (t609 : Int) (of_decide_eq_true (by first |(with_reducible assumption) | assumption)) (of_decide_eq_true (by first |(with_reducible assumption) | assumption));have HP60:=Kd.R_putg HO_6.out (t609 : Int) (rd t604 t608)) |((with_reducible refine gate_store (t:=3) (p:=119) rfl ?_);(try(rw [drewN_self w58];generalize hq_ : World.drewN w58 _ = w58;have n0_:=Aside0.mk (Kd.R_at hq_ HO_6.out);have n1_:=Aside0.mk (Kd.R_at hq_ HO619.out);have n2_:=Aside0.mk (blk_at hq_ BK611.out);have n3_:=Aside0.mk (below_at hq_ HB.out);clear hq_ HO_6 HO619 BK611 HB;have HO_6:=n0_;have HO619:=n1_;have BK611:=n2_;have HB:=n3_;clear n0_ n1_ n2_ n3_;(try(obtain ⟨hy60_,hz60_⟩:=Kd.R_celln 0 HO_6.out (t609 : Int) (of_decide_eq_true (by first |(with_reducible assumption) | assumption)) (of_decide_eq_true (by first |(with_reducible assumption) | assumption))));(try(have HP60:=Kd.R_putg HO_6.out (t609 : Int) (rd t604 t608)))));refine store_event (t:=3) (p:=119) (v:=?vo_w61) (w1:=(w58.setCell ⟨go40,(t609 : Int).toNat,none⟩ (.int .i64 (rd t604 t608)))) ?hg ?ho ?hn ?hr ?_;(case ho=>rfl);(case hg=>rfl);(case hn=>rfl);(case hr=>first |(go_simp;done) |(go_simp;rfl));intro w61 hw;have hg : w58.grownBy w61 (some go40):=(by rw [hw];exact HP60.2);have hp_ : Kd.R (Kd.int .i64) 3 w61 w.heap.size (fun k_=>some k_ ≠(v618 : Value).ownBlock) (.slice (some ⟨go40,0,none⟩) t604.length co11) y623:=(by rw [hw,Ny623.out];exact HP60.1);clear HP60;have n0_:=Aside0.mk (hp_);have n1_:=Aside0.mk (blk_grown (g:=gb611) (o:=.cells #[.int .i64 t608,.int .i64 t609] 45 (0,0)) (by(with_reducible repeat(first | refine bkN ?_ _ | refine bkD ?_ | refine bkA ?_ _));exact BK611.out) hg (Kd.R_ne HO_6.out BK611.out (by decide)));have n2_:=Aside0.mk (Kd.R_after (v:=(.slice (some ⟨go40,0,none⟩) t604.length co11)) (v1:=(.slice (some ⟨go40,0,none⟩) t604.length co11)) (ok:=(fun _=>True)) (by(with_reducible repeat(first | apply Kd.R_alloc | apply Kd.R_drewN | apply Kd.R_drew));exact HO619.out) hg (.inl rfl));have n3_:=Aside0.mk ((by rw [hw];exact bwS (HB.out) GB40.out : Below w.heap.size w w61));clear HO_6;clear BK611;clear HO619;clear HB;have HO_6:=n0_;have BK611:=n1_;have HO619:=n2_;have HB:=n3_;clear n0_ n1_ n2_ n3_;clear hg hw hp_;obtain ⟨Ao62,co62,eo62⟩:=Kd.R_slice HO619.out;subst eo62) |(go_at_call 22;refine calls_of_args (args':=#[.slice (some ⟨go40,0,none⟩) y623.length co11,.slice Ao62 t616.length co62]) (by first |(rw [show y623.length = t604.length from(Kd.R_reads' HO_6.out).1.symm] <;> rfl) | rfl) ?_;(with_reducible refine(w10_ints.calls kj27 _ _ y623 _ _ t616 false _ ?side1 ?side2 ?side3 ?side4 A43.out).mono ?_);(case side1=>repeat(first | exact(Kd.R_reads' HO_6.out).2.2 |(with_reducible refine Kd.C_alloc ?_ _) |(with_reducible refine Kd.C_drewN ?_ _) |(with_reducible refine Kd.C_drew ?_)));(case side2=>rw [show y623.length = t604.length from(Kd.R_reads' HO_6.out).1.symm];exact(Kd.R_reads' HO_6.out).2.1);(case side3=>repeat(first | exact(Kd.R_reads' HO619.out).2.2 |(with_reducible refine Kd.C_alloc ?_ _) |(with_reducible refine Kd.C_drewN ?_ _) |(with_reducible refine Kd.C_drew ?_)));(case side4=>exact(Kd.R_reads' HO619.out).2.1);rintro e w' ⟨rfl,⟨nd,rfl⟩⟩;(try first | exact⟨rfl,_,World.drewN_drewN _ _ _⟩ | exact⟨rfl,_,Eq.trans (World.drewN_drewN _ _ _) (congrArg (World.drewN _) (Nat.add_assoc _ _ _))⟩))))
      go_ret
      exact⟨by first | rfl |(simp [errW_none,errW_some] <;> rfl) |(simp [*,errW_none,errW_some] <;> rfl),by repeat(first |(with_reducible first | exact HB.out | apply bwA | apply bwN | apply bw1 | refine bwS ?_ GE611.out) | exact HB.out)⟩
     subst c44
     have H1 :((w10_awake.f kj27).bind fun t625=>(some t625)) = some r:=by rw [if_pos rfl] at H;exact H
     clear H
     have H:=H1
     clear H1
     replace H:=Option.bind_eq_some_iff.mp H
     obtain ⟨t625,A450,H⟩:=H
     replace H :(some t625) = some r:=H
     have A45:=Aside0.mk A450
     clear A450
     obtain rfl:=Option.some.inj H
     go_wp2_with (first |(go_at_call 48;(with_reducible refine(turns_Order.calls t601 (wrap64 (t603 + 1)) t616 t617 _ A35.out).mono ?_);rintro e w46 ⟨v618,rfl,ho0,hb⟩;have n0_:=Aside0.mk (Kd.R_elder' (by(with_reducible repeat(first | apply Kd.R_alloc | apply Kd.R_drewN | apply Kd.R_drew));exact HO_6.out) (Kd.R_base ho0) hb);have n1_:=Aside0.mk (Kd.R_lower (Kd.R_new' ho0 (Kd.R_lt (by(with_reducible repeat(first | apply Kd.R_alloc | apply Kd.R_drewN | apply Kd.R_drew));exact HO_6.out))) (bwZ (by repeat(first |(with_reducible first | exact HB.out | apply bwA | apply bwN | apply bw1 | refine bwS ?_ GE611.out) | exact HB.out))));have n2_:=Aside0.mk (bkB (g:=gb611) (o:=.cells #[.int .i64 t608,.int .i64 t609] 45 (0,0)) (by(with_reducible repeat(first | refine bkN ?_ _ | refine bkD ?_ | refine bkA ?_ _));exact BK611.out) hb);have n3_:=Aside0.mk (bwT (by repeat(first |(with_reducible first | exact HB.out | apply bwA | apply bwN | apply bw1 | refine bwS ?_ GE611.out) | exact HB.out)) hb);clear HO_6;clear BK611;clear HB;have HO_6:=n0_;have HO619:=n1_;have BK611:=n2_;have HB:=n3_;clear n0_ n1_ n2_ n3_;(try clear hb);(try clear hb2);(try clear hk);(try clear hi);(try clear ho0);have hcz47_0 : w46.cell? ⟨gb611,0,none⟩ = some (.int .i64 t608):=(bkC BK611.out 0).trans rfl;have hcz47_1 : w46.cell? ⟨gb611,1,none⟩ = some (.int .i64 t609):=(bkC BK611.out 1).trans rfl;have hfz47_0:=bkF BK611.out 0;have hfz47_1:=bkF BK611.out 1;have p620 : 0 ≤(t608 : Int):=of_decide_eq_true (by first |(with_reducible assumption) | assumption);have q620 : t608 < (t604.length : Int):=of_decide_eq_true (by first |(with_reducible assumption) | assumption);obtain ⟨ad620,e620,hx620_0⟩:=Kd.at_int (Kd.R_reads' HO_6.out).2.2 t608 p620 q620;cases e620;replace p620:=eq_true p620;replace q620:=eq_true q620;have p621 : 0 ≤(t609 : Int):=of_decide_eq_true (by first |(with_reducible assumption) | assumption);have q621 : t609 < (t604.length : Int):=of_decide_eq_true (by first |(with_reducible assumption) | assumption);obtain ⟨ad621,e621,hx621_0⟩:=Kd.at_int (Kd.R_reads' HO_6.out).2.2 t609 p621 q621;obtain rfl : ad620 = ad621:=(by injection e621);replace p621:=eq_true p621;replace q621:=eq_true q621;have p40 : 0 ≤(t608 : Int):=of_decide_eq_true (by first |(with_reducible assumption) | assumption);have q40 :(t608 : Int) < ((t604.length : Int) : Int):=of_decide_eq_true (by first |(with_reducible assumption) | assumption);obtain ⟨go40,co40,eo40,gb40,gl40,cl40,HG40⟩:=Kd.R_form HO_6.out (by omega);(first | cases eo40 |(injection eo40 with ea_ en_ ec_;(first | subst ea_ |(injection ea_ with ea_;subst ea_));subst ec_;clear en_));have GB40:=Aside0.mk gb40;have GG40:=Aside0.mk HG40;clear gb40 gl40 HG40;(first | simp only [add_plain] at hx620_0 | skip);(first | simp only [add_plain] at hx621_0 | skip);obtain ⟨hx40_0,hf40_0⟩:=Kd.R_celln 0 HO_6.out (t608 : Int) p40 q40;replace p40:=eq_true p40;replace q40:=eq_true q40;have n_:=Aside0.mk (Kd.R_mono (ok':=(fun k_=>some k_ ≠(v618 : Value).ownBlock)) HO_6.out (fun k_ hk=>hk.2));clear HO_6;have HO_6:=n_;clear n_;obtain ⟨hy48_,hz48_⟩:=Kd.R_celln 0 HO_6.out (t608 : Int) (of_decide_eq_true (by first |(with_reducible assumption) | assumption)) (of_decide_eq_true (by first |(with_reducible assumption) | assumption));have HP48:=Kd.R_putg HO_6.out (t608 : Int) (rd t604 t609)) |((with_reducible refine gate_store (t:=3) (p:=114) rfl ?_);(try(rw [drewN_self w46];generalize hq_ : World.drewN w46 _ = w46;have n0_:=Aside0.mk (Kd.R_at hq_ HO_6.out);have n1_:=Aside0.mk (Kd.R_at hq_ HO619.out);have n2_:=Aside0.mk (blk_at hq_ BK611.out);have n3_:=Aside0.mk (below_at hq_ HB.out);clear hq_ HO_6 HO619 BK611 HB;have HO_6:=n0_;have HO619:=n1_;have BK611:=n2_;have HB:=n3_;clear n0_ n1_ n2_ n3_;(try(have n_:=Aside0.mk (Kd.R_mono (ok':=(fun k_=>some k_ ≠(v618 : Value).ownBlock)) HO_6.out (fun k_ hk=>hk.2));clear HO_6;have HO_6:=n_;clear n_));(try(obtain ⟨hy48_,hz48_⟩:=Kd.R_celln 0 HO_6.out (t608 : Int) (of_decide_eq_true (by first |(with_reducible assumption) | assumption)) (of_decide_eq_true (by first |(with_reducible assumption) | assumption))));(try(have HP48:=Kd.R_putg HO_6.out (t608 : Int) (rd t604 t609)))));refine store_event (t:=3) (p:=114) (v:=?vo_w49) (w1:=(w46.setCell ⟨go40,(t608 : Int).toNat,none⟩ (.int .i64 (rd t604 t609)))) ?hg ?ho ?hn ?hr ?_;(case ho=>rfl);(case hg=>rfl);(case hn=>rfl);(case hr=>first |(go_simp;done) |(go_simp;rfl));intro w49 hw;have hg : w46.grownBy w49 (some go40):=(by rw [hw];exact HP48.2);have hp_ : Kd.R (Kd.int .i64) 3 w49 w.heap.size (fun k_=>some k_ ≠(v618 : Value).ownBlock) (.slice (some ⟨go40,0,none⟩) t604.length co11) y622:=(by rw [hw,Ny622.out];exact HP48.1);clear HP48;have n0_:=Aside0.mk (hp_);have n1_:=Aside0.mk (blk_grown (g:=gb611) (o:=.cells #[.int .i64 t608,.int .i64 t609] 45 (0,0)) (by(with_reducible repeat(first | refine bkN ?_ _ | refine bkD ?_ | refine bkA ?_ _));exact BK611.out) hg (Kd.R_ne HO_6.out BK611.out (by decide)));have n2_:=Aside0.mk (Kd.R_after (v:=(.slice (some ⟨go40,0,none⟩) t604.length co11)) (v1:=(.slice (some ⟨go40,0,none⟩) t604.length co11)) (ok:=(fun _=>True)) (by(with_reducible repeat(first | apply Kd.R_alloc | apply Kd.R_drewN | apply Kd.R_drew));exact HO619.out) hg (.inl rfl));have n3_:=Aside0.mk ((by rw [hw];exact bwS (HB.out) GB40.out : Below w.heap.size w w49));clear HO_6;clear BK611;clear HO619;clear HB;have HO_6:=n0_;have BK611:=n1_;have HO619:=n2_;have HB:=n3_;clear n0_ n1_ n2_ n3_;clear hg hw hp_;have hcz50_0 : w49.cell? ⟨gb611,0,none⟩ = some (.int .i64 t608):=(bkC BK611.out 0).trans rfl;have hcz50_1 : w49.cell? ⟨gb611,1,none⟩ = some (.int .i64 t609):=(bkC BK611.out 1).trans rfl;have hfz50_0:=bkF BK611.out 0;have hfz50_1:=bkF BK611.out 1;have p41 : 0 ≤(t609 : Int):=of_decide_eq_true (by first |(with_reducible assumption) | assumption);have q41 :(t609 : Int) < ((t604.length : Int) : Int):=of_decide_eq_true (by first |(with_reducible assumption) | assumption);obtain ⟨hx41_0,hf41_0⟩:=Kd.R_celln 0 HO_6.out (t609 : Int) p41 q41;replace p41:=eq_true p41;replace q41:=eq_true q41;obtain ⟨hy51_,hz51_⟩:=Kd.R_celln 0 HO_6.out (t609 : Int) (of_decide_eq_true (by first |(with_reducible assumption) | assumption)) (of_decide_eq_true (by first |(with_reducible assumption) | assumption));have HP51:=Kd.R_putg HO_6.out (t609 : Int) (rd t604 t608)) |((with_reducible refine gate_store (t:=3) (p:=119) rfl ?_);(try(rw [drewN_self w49];generalize hq_ : World.drewN w49 _ = w49;have n0_:=Aside0.mk (Kd.R_at hq_ HO_6.out);have n1_:=Aside0.mk (Kd.R_at hq_ HO619.out);have n2_:=Aside0.mk (blk_at hq_ BK611.out);have n3_:=Aside0.mk (below_at hq_ HB.out);clear hq_ HO_6 HO619 BK611 HB;have HO_6:=n0_;have HO619:=n1_;have BK611:=n2_;have HB:=n3_;clear n0_ n1_ n2_ n3_;(try(obtain ⟨hy51_,hz51_⟩:=Kd.R_celln 0 HO_6.out (t609 : Int) (of_decide_eq_true (by first |(with_reducible assumption) | assumption)) (of_decide_eq_true (by first |(with_reducible assumption) | assumption))));(try(have HP51:=Kd.R_putg HO_6.out (t609 : Int) (rd t604 t608)))));refine store_event (t:=3) (p:=119) (v:=?vo_w52) (w1:=(w49.setCell ⟨go40,(t609 : Int).toNat,none⟩ (.int .i64 (rd t604 t608)))) ?hg ?ho ?hn ?hr ?_;(case ho=>rfl);(case hg=>rfl);(case hn=>rfl);(case hr=>first |(go_simp;done) |(go_simp;rfl));intro w52 hw;have hg : w49.grownBy w52 (some go40):=(by rw [hw];exact HP51.2);have hp_ : Kd.R (Kd.int .i64) 3 w52 w.heap.size (fun k_=>some k_ ≠(v618 : Value).ownBlock) (.slice (some ⟨go40,0,none⟩) t604.length co11) y623:=(by rw [hw,Ny623.out];exact HP51.1);clear HP51;have n0_:=Aside0.mk (hp_);have n1_:=Aside0.mk (blk_grown (g:=gb611) (o:=.cells #[.int .i64 t608,.int .i64 t609] 45 (0,0)) (by(with_reducible repeat(first | refine bkN ?_ _ | refine bkD ?_ | refine bkA ?_ _));exact BK611.out) hg (Kd.R_ne HO_6.out BK611.out (by decide)));have n2_:=Aside0.mk (Kd.R_after (v:=(.slice (some ⟨go40,0,none⟩) t604.length co11)) (v1:=(.slice (some ⟨go40,0,none⟩) t604.length co11)) (ok:=(fun _=>True)) (by(with_reducible repeat(first | apply Kd.R_alloc | apply Kd.R_drewN | apply Kd.R_drew));exact HO619.out) hg (.inl rfl));have n3_:=Aside0.mk ((by rw [hw];exact bwS (HB.out) GB40.out : Below w.heap.size w w52));clear HO_6;clear BK611;clear HO619;clear HB;have HO_6:=n0_;have BK611:=n1_;have HO619:=n2_;have HB:=n3_;clear n0_ n1_ n2_ n3_;clear hg hw hp_;obtain ⟨Ao53,co53,eo53⟩:=Kd.R_slice HO619.out;subst eo53) |(go_at_call 22;refine calls_of_args (args':=#[.slice (some ⟨go40,0,none⟩) y623.length co11,.slice Ao53 t616.length co53]) (by first |(rw [show y623.length = t604.length from(Kd.R_reads' HO_6.out).1.symm] <;> rfl) | rfl) ?_;(with_reducible refine(w10_ints.calls kj27 _ _ y623 _ _ t616 true _ ?side1 ?side2 ?side3 ?side4 A43.out).mono ?_);(case side1=>repeat(first | exact(Kd.R_reads' HO_6.out).2.2 |(with_reducible refine Kd.C_alloc ?_ _) |(with_reducible refine Kd.C_drewN ?_ _) |(with_reducible refine Kd.C_drew ?_)));(case side2=>rw [show y623.length = t604.length from(Kd.R_reads' HO_6.out).1.symm];exact(Kd.R_reads' HO_6.out).2.1);(case side3=>repeat(first | exact(Kd.R_reads' HO619.out).2.2 |(with_reducible refine Kd.C_alloc ?_ _) |(with_reducible refine Kd.C_drewN ?_ _) |(with_reducible refine Kd.C_drew ?_)));(case side4=>exact(Kd.R_reads' HO619.out).2.1);rintro e w' ⟨rfl,⟨nd,rfl⟩⟩;(try first | exact⟨rfl,_,World.drewN_drewN _ _ _⟩ | exact⟨rfl,_,Eq.trans (World.drewN_drewN _ _ _) (congrArg (World.drewN _) (Nat.add_assoc _ _ _))⟩)) |(go_at_call 20;(with_reducible refine(w10_awake.calls kj27  t625 _ A45.out).mono ?_);rintro e w54 ⟨rfl,hb⟩;have n0_:=Aside0.mk (Kd.R_below (by(with_reducible repeat(first | apply Kd.R_alloc | apply Kd.R_drewN | apply Kd.R_drew));exact HO_6.out) hb);have n1_:=Aside0.mk (Kd.R_below (by(with_reducible repeat(first | apply Kd.R_alloc | apply Kd.R_drewN | apply Kd.R_drew));exact HO619.out) hb);have n2_:=Aside0.mk (bkB (g:=gb611) (o:=.cells #[.int .i64 t608,.int .i64 t609] 45 (0,0)) (by(with_reducible repeat(first | refine bkN ?_ _ | refine bkD ?_ | refine bkA ?_ _));exact BK611.out) hb);have n3_:=Aside0.mk (bwT (by repeat(first |(with_reducible first | exact HB.out | apply bwA | apply bwN | apply bw1 | refine bwS ?_ GE611.out) | exact HB.out)) hb);clear HO_6;clear HO619;clear BK611;clear HB;have HO_6:=n0_;have HO619:=n1_;have BK611:=n2_;have HB:=n3_;clear n0_ n1_ n2_ n3_;(try clear hb);(try clear hb2);(try clear hk);(try clear hi)))
     repeat(go_quiet (first |(go_at_call 48;(with_reducible refine(turns_Order.calls t601 (wrap64 (t603 + 1)) t616 t617 _ A35.out).mono ?_);rintro e w46 ⟨v618,rfl,ho0,hb⟩;have n0_:=Aside0.mk (Kd.R_elder' (by(with_reducible repeat(first | apply Kd.R_alloc | apply Kd.R_drewN | apply Kd.R_drew));exact HO_6.out) (Kd.R_base ho0) hb);have n1_:=Aside0.mk (Kd.R_lower (Kd.R_new' ho0 (Kd.R_lt (by(with_reducible repeat(first | apply Kd.R_alloc | apply Kd.R_drewN | apply Kd.R_drew));exact HO_6.out))) (bwZ (by repeat(first |(with_reducible first | exact HB.out | apply bwA | apply bwN | apply bw1 | refine bwS ?_ GE611.out) | exact HB.out))));have n2_:=Aside0.mk (bkB (g:=gb611) (o:=.cells #[.int .i64 t608,.int .i64 t609] 45 (0,0)) (by(with_reducible repeat(first | refine bkN ?_ _ | refine bkD ?_ | refine bkA ?_ _));exact BK611.out) hb);have n3_:=Aside0.mk (bwT (by repeat(first |(with_reducible first | exact HB.out | apply bwA | apply bwN | apply bw1 | refine bwS ?_ GE611.out) | exact HB.out)) hb);clear HO_6;clear BK611;clear HB;have HO_6:=n0_;have HO619:=n1_;have BK611:=n2_;have HB:=n3_;clear n0_ n1_ n2_ n3_;(try clear hb);(try clear hb2);(try clear hk);(try clear hi);(try clear ho0);have hcz47_0 : w46.cell? ⟨gb611,0,none⟩ = some (.int .i64 t608):=(bkC BK611.out 0).trans rfl;have hcz47_1 : w46.cell? ⟨gb611,1,none⟩ = some (.int .i64 t609):=(bkC BK611.out 1).trans rfl;have hfz47_0:=bkF BK611.out 0;have hfz47_1:=bkF BK611.out 1;have p620 : 0 ≤(t608 : Int):=of_decide_eq_true (by first |(with_reducible assumption) | assumption);have q620 : t608 < (t604.length : Int):=of_decide_eq_true (by first |(with_reducible assumption) | assumption);obtain ⟨ad620,e620,hx620_0⟩:=Kd.at_int (Kd.R_reads' HO_6.out).2.2 t608 p620 q620;cases e620;replace p620:=eq_true p620;replace q620:=eq_true q620;have p621 : 0 ≤(t609 : Int):=of_decide_eq_true (by first |(with_reducible assumption) | assumption);have q621 : t609 < (t604.length : Int):=of_decide_eq_true (by first |(with_reducible assumption) | assumption);obtain ⟨ad621,e621,hx621_0⟩:=Kd.at_int (Kd.R_reads' HO_6.out).2.2 t609 p621 q621;obtain rfl : ad620 = ad621:=(by injection e621);replace p621:=eq_true p621;replace q621:=eq_true q621;have p40 : 0 ≤(t608 : Int):=of_decide_eq_true (by first |(with_reducible assumption) | assumption);have q40 :(t608 : Int) < ((t604.length : Int) : Int):=of_decide_eq_true (by first |(with_reducible assumption) | assumption);obtain ⟨go40,co40,eo40,gb40,gl40,cl40,HG40⟩:=Kd.R_form HO_6.out (by omega);(first | cases eo40 |(injection eo40 with ea_ en_ ec_;(first | subst ea_ |(injection ea_ with ea_;subst ea_));subst ec_;clear en_));have GB40:=Aside0.mk gb40;have GG40:=Aside0.mk HG40;clear gb40 gl40 HG40;(first | simp only [add_plain] at hx620_0 | skip);(first | simp only [add_plain] at hx621_0 | skip);obtain ⟨hx40_0,hf40_0⟩:=Kd.R_celln 0 HO_6.out (t608 : Int) p40 q40;replace p40:=eq_true p40;replace q40:=eq_true q40;have n_:=Aside0.mk (Kd.R_mono (ok':=(fun k_=>some k_ ≠(v618 : Value).ownBlock)) HO_6.out (fun k_ hk=>hk.2));clear HO_6;have HO_6:=n_;clear n_;obtain ⟨hy48_,hz48_⟩:=Kd.R_celln 0 HO_6.out (t608 : Int) (of_decide_eq_true (by first |(with_reducible assumption) | assumption)) (of_decide_eq_true (by first |(with_reducible assumption) | assumption));have HP48:=Kd.R_putg HO_6.out (t608 : Int) (rd t604 t609)) |((with_reducible refine gate_store (t:=3) (p:=114) rfl ?_);(try(rw [drewN_self w46];generalize hq_ : World.drewN w46 _ = w46;have n0_:=Aside0.mk (Kd.R_at hq_ HO_6.out);have n1_:=Aside0.mk (Kd.R_at hq_ HO619.out);have n2_:=Aside0.mk (blk_at hq_ BK611.out);have n3_:=Aside0.mk (below_at hq_ HB.out);clear hq_ HO_6 HO619 BK611 HB;have HO_6:=n0_;have HO619:=n1_;have BK611:=n2_;have HB:=n3_;clear n0_ n1_ n2_ n3_;(try(have n_:=Aside0.mk (Kd.R_mono (ok':=(fun k_=>some k_ ≠(v618 : Value).ownBlock)) HO_6.out (fun k_ hk=>hk.2));clear HO_6;have HO_6:=n_;clear n_));(try(obtain ⟨hy48_,hz48_⟩:=Kd.R_celln 0 HO_6.out (t608 : Int) (of_decide_eq_true (by first |(with_reducible assumption) | assumption)) (of_decide_eq_true (by first |(with_reducible assumption) | assumption))));(try(have HP48:=Kd.R_putg HO_6.out (t608 : Int) (rd t604 t609)))));refine store_event (t:=3) (p:=114) (v:=?vo_w49) (w1:=(w46.setCell ⟨go40,(t608 : Int).toNat,none⟩ (.int .i64 (rd t604 t609)))) ?hg ?ho ?hn ?hr ?_;(case ho=>rfl);(case hg=>rfl);(case hn=>rfl);(case hr=>first |(go_simp;done) |(go_simp;rfl));intro w49 hw;have hg : w46.grownBy w49 (some go40):=(by rw [hw];exact HP48.2);have hp_ : Kd.R (Kd.int .i64) 3 w49 w.heap.size (fun k_=>some k_ ≠(v618 : Value).ownBlock) (.slice (some ⟨go40,0,none⟩) t604.length co11) y622:=(by rw [hw,Ny622.out];exact HP48.1);clear HP48;have n0_:=Aside0.mk (hp_);have n1_:=Aside0.mk (blk_grown (g:=gb611) (o:=.cells #[.int .i64 t608,.int .i64 t609] 45 (0,0)) (by(with_reducible repeat(first | refine bkN ?_ _ | refine bkD ?_ | refine bkA ?_ _));exact BK611.out) hg (Kd.R_ne HO_6.out BK611.out (by decide)));have n2_:=Aside0.mk (Kd.R_after (v:=(.slice (some ⟨go40,0,none⟩) t604.length co11)) (v1:=(.slice (some ⟨go40,0,none⟩) t604.length co11)) (ok:=(fun _=>True)) (by(with_reducible repeat(first | apply Kd.R_alloc | apply Kd.R_drewN | apply Kd.R_drew));exact HO619.out) hg (.inl rfl));have n3_:=Aside0.mk ((by rw [hw];exact bwS (HB.out) GB40.out : Below w.heap.size w w49));clear HO_6;clear BK611;clear HO619;clear HB;have HO_6:=n0_;have BK611:=n1_;have HO619:=n2_;have HB:=n3_;clear n0_ n1_ n2_ n3_;clear hg hw hp_;have hcz50_0 : w49.cell? ⟨gb611,0,none⟩ = some (.int .i64 t608):=(bkC BK611.out 0).trans rfl;have hcz50_1 : w49.cell? ⟨gb611,1,none⟩ = some (.int .i64 t609):=(bkC BK611.out 1).trans rfl;have hfz50_0:=bkF BK611.out 0;have hfz50_1:=bkF BK611.out 1;have p41 : 0 ≤(t609 : Int):=of_decide_eq_true (by first |(with_reducible assumption) | assumption);have q41 :(t609 : Int) < ((t604.length : Int) : Int):=of_decide_eq_true (by first |(with_reducible assumption) | assumption);obtain ⟨hx41_0,hf41_0⟩:=Kd.R_celln 0 HO_6.out (t609 : Int) p41 q41;replace p41:=eq_true p41;replace q41:=eq_true q41;obtain ⟨hy51_,hz51_⟩:=Kd.R_celln 0 HO_6.out (t609 : Int) (of_decide_eq_true (by first |(with_reducible assumption) | assumption)) (of_decide_eq_true (by first |(with_reducible assumption) | assumption));have HP51:=Kd.R_putg HO_6.out (t609 : Int) (rd t604 t608)) |((with_reducible refine gate_store (t:=3) (p:=119) rfl ?_);(try(rw [drewN_self w49];generalize hq_ : World.drewN w49 _ = w49;have n0_:=Aside0.mk (Kd.R_at hq_ HO_6.out);have n1_:=Aside0.mk (Kd.R_at hq_ HO619.out);have n2_:=Aside0.mk (blk_at hq_ BK611.out);have n3_:=Aside0.mk (below_at hq_ HB.out);clear hq_ HO_6 HO619 BK611 HB;have HO_6:=n0_;have HO619:=n1_;have BK611:=n2_;have HB:=n3_;clear n0_ n1_ n2_ n3_;(try(obtain ⟨hy51_,hz51_⟩:=Kd.R_celln 0 HO_6.out (t609 : Int) (of_decide_eq_true (by first |(with_reducible assumption) | assumption)) (of_decide_eq_true (by first |(with_reducible assumption) | assumption))));(try(have HP51:=Kd.R_putg HO_6.out (t609 : Int) (rd t604 t608)))));refine store_event (t:=3) (p:=119) (v:=?vo_w52) (w1:=(w49.setCell ⟨go40,(t609 : Int).toNat,none⟩ (.int .i64 (rd t604 t608)))) ?hg ?ho ?hn ?hr ?_;(case ho=>rfl);(case hg=>rfl);(case hn=>rfl);(case hr=>first |(go_simp;done) |(go_simp;rfl));intro w52 hw;have hg : w49.grownBy w52 (some go40):=(by rw [hw];exact HP51.2);have hp_ : Kd.R (Kd.int .i64) 3 w52 w.heap.size (fun k_=>some k_ ≠(v618 : Value).ownBlock) (.slice (some ⟨go40,0,none⟩) t604.length co11) y623:=(by rw [hw,Ny623.out];exact HP51.1);clear HP51;have n0_:=Aside0.mk (hp_);have n1_:=Aside0.mk (blk_grown (g:=gb611) (o:=.cells #[.int .i64 t608,.int .i64 t609] 45 (0,0)) (by(with_reducible repeat(first | refine bkN ?_ _ | refine bkD ?_ | refine bkA ?_ _));exact BK611.out) hg (Kd.R_ne HO_6.out BK611.out (by decide)));have n2_:=Aside0.mk (Kd.R_after (v:=(.slice (some ⟨go40,0,none⟩) t604.length co11)) (v1:=(.slice (some ⟨go40,0,none⟩) t604.length co11)) (ok:=(fun _=>True)) (by(with_reducible repeat(first | apply Kd.R_alloc | apply Kd.R_drewN | apply Kd.R_drew));exact HO619.out) hg (.inl rfl));have n3_:=Aside0.mk ((by rw [hw];exact bwS (HB.out) GB40.out : Below w.heap.size w w52));clear HO_6;clear BK611;clear HO619;clear HB;have HO_6:=n0_;have BK611:=n1_;have HO619:=n2_;have HB:=n3_;clear n0_ n1_ n2_ n3_;clear hg hw hp_;obtain ⟨Ao53,co53,eo53⟩:=Kd.R_slice HO619.out;subst eo53) |(go_at_call 22;refine calls_of_args (args':=#[.slice (some ⟨go40,0,none⟩) y623.length co11,.slice Ao53 t616.length co53]) (by first |(rw [show y623.length = t604.length from(Kd.R_reads' HO_6.out).1.symm] <;> rfl) | rfl) ?_;(with_reducible refine(w10_ints.calls kj27 _ _ y623 _ _ t616 true _ ?side1 ?side2 ?side3 ?side4 A43.out).mono ?_);(case side1=>repeat(first | exact(Kd.R_reads' HO_6.out).2.2 |(with_reducible refine Kd.C_alloc ?_ _) |(with_reducible refine Kd.C_drewN ?_ _) |(with_reducible refine Kd.C_drew ?_)));(case side2=>rw [show y623.length = t604.length from(Kd.R_reads' HO_6.out).1.symm];exact(Kd.R_reads' HO_6.out).2.1);(case side3=>repeat(first | exact(Kd.R_reads' HO619.out).2.2 |(with_reducible refine Kd.C_alloc ?_ _) |(with_reducible refine Kd.C_drewN ?_ _) |(with_reducible refine Kd.C_drew ?_)));(case side4=>exact(Kd.R_reads' HO619.out).2.1);rintro e w' ⟨rfl,⟨nd,rfl⟩⟩;(try first | exact⟨rfl,_,World.drewN_drewN _ _ _⟩ | exact⟨rfl,_,Eq.trans (World.drewN_drewN _ _ _) (congrArg (World.drewN _) (Nat.add_assoc _ _ _))⟩)) |(go_at_call 20;(with_reducible refine(w10_awake.calls kj27  t625 _ A45.out).mono ?_);rintro e w54 ⟨rfl,hb⟩;have n0_:=Aside0.mk (Kd.R_below (by(with_reducible repeat(first | apply Kd.R_alloc | apply Kd.R_drewN | apply Kd.R_drew));exact HO_6.out) hb);have n1_:=Aside0.mk (Kd.R_below (by(with_reducible repeat(first | apply Kd.R_alloc | apply Kd.R_drewN | apply Kd.R_drew));exact HO619.out) hb);have n2_:=Aside0.mk (bkB (g:=gb611) (o:=.cells #[.int .i64 t608,.int .i64 t609] 45 (0,0)) (by(with_reducible repeat(first | refine bkN ?_ _ | refine bkD ?_ | refine bkA ?_ _));exact BK611.out) hb);have n3_:=Aside0.mk (bwT (by repeat(first |(with_reducible first | exact HB.out | apply bwA | apply bwN | apply bw1 | refine bwS ?_ GE611.out) | exact HB.out)) hb);clear HO_6;clear HO619;clear BK611;clear HB;have HO_6:=n0_;have HO619:=n1_;have BK611:=n2_;have HB:=n3_;clear n0_ n1_ n2_ n3_;(try clear hb);(try clear hb2);(try clear hk);(try clear hi)));try go_wp2_with (first |(go_at_call 48;(with_reducible refine(turns_Order.calls t601 (wrap64 (t603 + 1)) t616 t617 _ A35.out).mono ?_);rintro e w46 ⟨v618,rfl,ho0,hb⟩;have n0_:=Aside0.mk (Kd.R_elder' (by(with_reducible repeat(first | apply Kd.R_alloc | apply Kd.R_drewN | apply Kd.R_drew));exact HO_6.out) (Kd.R_base ho0) hb);have n1_:=Aside0.mk (Kd.R_lower (Kd.R_new' ho0 (Kd.R_lt (by(with_reducible repeat(first | apply Kd.R_alloc | apply Kd.R_drewN | apply Kd.R_drew));exact HO_6.out))) (bwZ (by repeat(first |(with_reducible first | exact HB.out | apply bwA | apply bwN | apply bw1 | refine bwS ?_ GE611.out) | exact HB.out))));have n2_:=Aside0.mk (bkB (g:=gb611) (o:=.cells #[.int .i64 t608,.int .i64 t609] 45 (0,0)) (by(with_reducible repeat(first | refine bkN ?_ _ | refine bkD ?_ | refine bkA ?_ _));exact BK611.out) hb);have n3_:=Aside0.mk (bwT (by repeat(first |(with_reducible first | exact HB.out | apply bwA | apply bwN | apply bw1 | refine bwS ?_ GE611.out) | exact HB.out)) hb);clear HO_6;clear BK611;clear HB;have HO_6:=n0_;have HO619:=n1_;have BK611:=n2_;have HB:=n3_;clear n0_ n1_ n2_ n3_;(try clear hb);(try clear hb2);(try clear hk);(try clear hi);(try clear ho0);have hcz47_0 : w46.cell? ⟨gb611,0,none⟩ = some (.int .i64 t608):=(bkC BK611.out 0).trans rfl;have hcz47_1 : w46.cell? ⟨gb611,1,none⟩ = some (.int .i64 t609):=(bkC BK611.out 1).trans rfl;have hfz47_0:=bkF BK611.out 0;have hfz47_1:=bkF BK611.out 1;have p620 : 0 ≤(t608 : Int):=of_decide_eq_true (by first |(with_reducible assumption) | assumption);have q620 : t608 < (t604.length : Int):=of_decide_eq_true (by first |(with_reducible assumption) | assumption);obtain ⟨ad620,e620,hx620_0⟩:=Kd.at_int (Kd.R_reads' HO_6.out).2.2 t608 p620 q620;cases e620;replace p620:=eq_true p620;replace q620:=eq_true q620;have p621 : 0 ≤(t609 : Int):=of_decide_eq_true (by first |(with_reducible assumption) | assumption);have q621 : t609 < (t604.length : Int):=of_decide_eq_true (by first |(with_reducible assumption) | assumption);obtain ⟨ad621,e621,hx621_0⟩:=Kd.at_int (Kd.R_reads' HO_6.out).2.2 t609 p621 q621;obtain rfl : ad620 = ad621:=(by injection e621);replace p621:=eq_true p621;replace q621:=eq_true q621;have p40 : 0 ≤(t608 : Int):=of_decide_eq_true (by first |(with_reducible assumption) | assumption);have q40 :(t608 : Int) < ((t604.length : Int) : Int):=of_decide_eq_true (by first |(with_reducible assumption) | assumption);obtain ⟨go40,co40,eo40,gb40,gl40,cl40,HG40⟩:=Kd.R_form HO_6.out (by omega);(first | cases eo40 |(injection eo40 with ea_ en_ ec_;(first | subst ea_ |(injection ea_ with ea_;subst ea_));subst ec_;clear en_));have GB40:=Aside0.mk gb40;have GG40:=Aside0.mk HG40;clear gb40 gl40 HG40;(first | simp only [add_plain] at hx620_0 | skip);(first | simp only [add_plain] at hx621_0 | skip);obtain ⟨hx40_0,hf40_0⟩:=Kd.R_celln 0 HO_6.out (t608 : Int) p40 q40;replace p40:=eq_true p40;replace q40:=eq_true q40;have n_:=Aside0.mk (Kd.R_mono (ok':=(fun k_=>some k_ ≠(v618 : Value).ownBlock)) HO_6.out (fun k_ hk=>hk.2));clear HO_6;have HO_6:=n_;clear n_;obtain ⟨hy48_,hz48_⟩:=Kd.R_celln 0 HO_6.out (t608 : Int) (of_decide_eq_true (by first |(with_reducible assumption) | assumption)) (of_decide_eq_true (by first |(with_reducible assumption) | assumption));have HP48:=Kd.R_putg HO_6.out (t608 : Int) (rd t604 t609)) |((with_reducible refine gate_store (t:=3) (p:=114) rfl ?_);(try(rw [drewN_self w46];generalize hq_ : World.drewN w46 _ = w46;have n0_:=Aside0.mk (Kd.R_at hq_ HO_6.out);have n1_:=Aside0.mk (Kd.R_at hq_ HO619.out);have n2_:=Aside0.mk (blk_at hq_ BK611.out);have n3_:=Aside0.mk (below_at hq_ HB.out);clear hq_ HO_6 HO619 BK611 HB;have HO_6:=n0_;have HO619:=n1_;have BK611:=n2_;have HB:=n3_;clear n0_ n1_ n2_ n3_;(try(have n_:=Aside0.mk (Kd.R_mono (ok':=(fun k_=>some k_ ≠(v618 : Value).ownBlock)) HO_6.out (fun k_ hk=>hk.2));clear HO_6;have HO_6:=n_;clear n_));(try(obtain ⟨hy48_,hz48_⟩:=Kd.R_celln 0 HO_6.out (t608 : Int) (of_decide_eq_true (by first |(with_reducible assumption) | assumption)) (of_decide_eq_true (by first |(with_reducible assumption) | assumption))));(try(have HP48:=Kd.R_putg HO_6.out (t608 : Int) (rd t604 t609)))));refine store_event (t:=3) (p:=114) (v:=?vo_w49) (w1:=(w46.setCell ⟨go40,(t608 : Int).toNat,none⟩ (.int .i64 (rd t604 t609)))) ?hg ?ho ?hn ?hr ?_;(case ho=>rfl);(case hg=>rfl);(case hn=>rfl);(case hr=>first |(go_simp;done) |(go_simp;rfl));intro w49 hw;have hg : w46.grownBy w49 (some go40):=(by rw [hw];exact HP48.2);have hp_ : Kd.R (Kd.int .i64) 3 w49 w.heap.size (fun k_=>some k_ ≠(v618 : Value).ownBlock) (.slice (some ⟨go40,0,none⟩) t604.length co11) y622:=(by rw [hw,Ny622.out];exact HP48.1);clear HP48;have n0_:=Aside0.mk (hp_);have n1_:=Aside0.mk (blk_grown (g:=gb611) (o:=.cells #[.int .i64 t608,.int .i64 t609] 45 (0,0)) (by(with_reducible repeat(first | refine bkN ?_ _ | refine bkD ?_ | refine bkA ?_ _));exact BK611.out) hg (Kd.R_ne HO_6.out BK611.out (by decide)));have n2_:=Aside0.mk (Kd.R_after (v:=(.slice (some ⟨go40,0,none⟩) t604.length co11)) (v1:=(.slice (some ⟨go40,0,none⟩) t604.length co11)) (ok:=(fun _=>True)) (by(with_reducible repeat(first | apply Kd.R_alloc | apply Kd.R_drewN | apply Kd.R_drew));exact HO619.out) hg (.inl rfl));have n3_:=Aside0.mk ((by rw [hw];exact bwS (HB.out) GB40.out : Below w.heap.size w w49));clear HO_6;clear BK611;clear HO619;clear HB;have HO_6:=n0_;have BK611:=n1_;have HO619:=n2_;have HB:=n3_;clear n0_ n1_ n2_ n3_;clear hg hw hp_;have hcz50_0 : w49.cell? ⟨gb611,0,none⟩ = some (.int .i64 t608):=(bkC BK611.out 0).trans rfl;have hcz50_1 : w49.cell? ⟨gb611,1,none⟩ = some (.int .i64 t609):=(bkC BK611.out 1).trans rfl;have hfz50_0:=bkF BK611.out 0;have hfz50_1:=bkF BK611.out 1;have p41 : 0 ≤(t609 : Int):=of_decide_eq_true (by first |(with_reducible assumption) | assumption);have q41 :(t609 : Int) < ((t604.length : Int) : Int):=of_decide_eq_true (by first |(with_reducible assumption) | assumption);obtain ⟨hx41_0,hf41_0⟩:=Kd.R_celln 0 HO_6.out (t609 : Int) p41 q41;replace p41:=eq_true p41;replace q41:=eq_true q41;obtain ⟨hy51_,hz51_⟩:=Kd.R_celln 0 HO_6.out (t609 : Int) (of_decide_eq_true (by first |(with_reducible assumption) | assumption)) (of_decide_eq_true (by first |(with_reducible assumption) | assumption));have HP51:=Kd.R_putg HO_6.out (t609 : Int) (rd t604 t608)) |((with_reducible refine gate_store (t:=3) (p:=119) rfl ?_);(try(rw [drewN_self w49];generalize hq_ : World.drewN w49 _ = w49;have n0_:=Aside0.mk (Kd.R_at hq_ HO_6.out);have n1_:=Aside0.mk (Kd.R_at hq_ HO619.out);have n2_:=Aside0.mk (blk_at hq_ BK611.out);have n3_:=Aside0.mk (below_at hq_ HB.out);clear hq_ HO_6 HO619 BK611 HB;have HO_6:=n0_;have HO619:=n1_;have BK611:=n2_;have HB:=n3_;clear n0_ n1_ n2_ n3_;(try(obtain ⟨hy51_,hz51_⟩:=Kd.R_celln 0 HO_6.out (t609 : Int) (of_decide_eq_true (by first |(with_reducible assumption) | assumption)) (of_decide_eq_true (by first |(with_reducible assumption) | assumption))));(try(have HP51:=Kd.R_putg HO_6.out (t609 : Int) (rd t604 t608)))));refine store_event (t:=3) (p:=119) (v:=?vo_w52) (w1:=(w49.setCell ⟨go40,(t609 : Int).toNat,none⟩ (.int .i64 (rd t604 t608)))) ?hg ?ho ?hn ?hr ?_;(case ho=>rfl);(case hg=>rfl);(case hn=>rfl);(case hr=>first |(go_simp;done) |(go_simp;rfl));intro w52 hw;have hg : w49.grownBy w52 (some go40):=(by rw [hw];exact HP51.2);have hp_ : Kd.R (Kd.int .i64) 3 w52 w.heap.size (fun k_=>some k_ ≠(v618 : Value).ownBlock) (.slice (some ⟨go40,0,none⟩) t604.length co11) y623:=(by rw [hw,Ny623.out];exact HP51.1);clear HP51;have n0_:=Aside0.mk (hp_);have n1_:=Aside0.mk (blk_grown (g:=gb611) (o:=.cells #[.int .i64 t608,.int .i64 t609] 45 (0,0)) (by(with_reducible repeat(first | refine bkN ?_ _ | refine bkD ?_ | refine bkA ?_ _));exact BK611.out) hg (Kd.R_ne HO_6.out BK611.out (by decide)));have n2_:=Aside0.mk (Kd.R_after (v:=(.slice (some ⟨go40,0,none⟩) t604.length co11)) (v1:=(.slice (some ⟨go40,0,none⟩) t604.length co11)) (ok:=(fun _=>True)) (by(with_reducible repeat(first | apply Kd.R_alloc | apply Kd.R_drewN | apply Kd.R_drew));exact HO619.out) hg (.inl rfl));have n3_:=Aside0.mk ((by rw [hw];exact bwS (HB.out) GB40.out : Below w.heap.size w w52));clear HO_6;clear BK611;clear HO619;clear HB;have HO_6:=n0_;have BK611:=n1_;have HO619:=n2_;have HB:=n3_;clear n0_ n1_ n2_ n3_;clear hg hw hp_;obtain ⟨Ao53,co53,eo53⟩:=Kd.R_slice HO619.out;subst eo53) |(go_at_call 22;refine calls_of_args (args':=#[.slice (some ⟨go40,0,none⟩) y623.length co11,.slice Ao53 t616.length co53]) (by first |(rw [show y623.length = t604.length from(Kd.R_reads' HO_6.out).1.symm] <;> rfl) | rfl) ?_;(with_reducible refine(w10_ints.calls kj27 _ _ y623 _ _ t616 true _ ?side1 ?side2 ?side3 ?side4 A43.out).mono ?_);(case side1=>repeat(first | exact(Kd.R_reads' HO_6.out).2.2 |(with_reducible refine Kd.C_alloc ?_ _) |(with_reducible refine Kd.C_drewN ?_ _) |(with_reducible refine Kd.C_drew ?_)));(case side2=>rw [show y623.length = t604.length from(Kd.R_reads' HO_6.out).1.symm];exact(Kd.R_reads' HO_6.out).2.1);(case side3=>repeat(first | exact(Kd.R_reads' HO619.out).2.2 |(with_reducible refine Kd.C_alloc ?_ _) |(with_reducible refine Kd.C_drewN ?_ _) |(with_reducible refine Kd.C_drew ?_)));(case side4=>exact(Kd.R_reads' HO619.out).2.1);rintro e w' ⟨rfl,⟨nd,rfl⟩⟩;(try first | exact⟨rfl,_,World.drewN_drewN _ _ _⟩ | exact⟨rfl,_,Eq.trans (World.drewN_drewN _ _ _) (congrArg (World.drewN _) (Nat.add_assoc _ _ _))⟩)) |(go_at_call 20;(with_reducible refine(w10_awake.calls kj27  t625 _ A45.out).mono ?_);rintro e w54 ⟨rfl,hb⟩;have n0_:=Aside0.mk (Kd.R_below (by(with_reducible repeat(first | apply Kd.R_alloc | apply Kd.R_drewN | apply Kd.R_drew));exact HO_6.out) hb);have n1_:=Aside0.mk (Kd.R_below (by(with_reducible repeat(first | apply Kd.R_alloc | apply Kd.R_drewN | apply Kd.R_drew));exact HO619.out) hb);have n2_:=Aside0.mk (bkB (g:=gb611) (o:=.cells #[.int .i64 t608,.int .i64 t609] 45 (0,0)) (by(with_reducible repeat(first | refine bkN ?_ _ | refine bkD ?_ | refine bkA ?_ _));exact BK611.out) hb);have n3_:=Aside0.mk (bwT (by repeat(first |(with_reducible first | exact HB.out | apply bwA | apply bwN | apply bw1 | refine bwS ?_ GE611.out) | exact HB.out)) hb);clear HO_6;clear HO619;clear BK611;clear HB;have HO_6:=n0_;have HO619:=n1_;have BK611:=n2_;have HB:=n3_;clear n0_ n1_ n2_ n3_;(try clear hb);(try clear hb2);(try clear hk);(try clear hi))))
     go_ret
     exact⟨by first | rfl |(simp [errW_none,errW_some] <;> rfl) |(simp [*,errW_none,errW_some] <;> rfl),by repeat(first |(with_reducible first | exact HB.out | apply bwA | apply bwN | apply bw1 | refine bwS ?_ GE611.out) | exact HB.out)⟩
/-- THE ONE PURE STATEMENT of w10_TurnsOrderSteps: yours. -/
def w10_TurnsOrderSteps.Pure : Prop:=∀ (a0 : Int) (a1 : Int),(Lit.int .i64 a0).wf = true →(Lit.int .i64 a1).wf = true→∃ k,w10_TurnsOrderSteps.f k a0 a1 = some true
theorem w10_TurnsOrderSteps.walk (P : w10_TurnsOrderSteps.Pure) (a0 : Int) (a1 : Int) (w : World) (w0 : (Lit.int .i64 a0).wf = true) (w1 : (Lit.int .i64 a1).wf = true) :
  Calls Try.prog 14 #[.int .i64 a0,.int .i64 a1] w fun e w'=>e = .returned (.bool true)∧Below w.heap.size w w':=by
 obtain ⟨k,h⟩:=P a0 a1 w0 w1
 refine(w10_TurnsOrderSteps.calls k a0 a1 true w h).mono ?_
 rintro e w' ⟨rfl,hd⟩
 exact⟨rfl,hd⟩
end Go.Proofs.Ytbfhlaggllofdaa.S

namespace Go.Proofs.Ytbfhlaggllofdaa.P
open Go.RowKit Go.Proofs.Ytbfhlaggllofdaa.S Go.Proofs.YtbfhlaggllofdaaW.PrintWords Go.Proofs.YtbfhlaggllofdaaW.PrintLast Go.Proofs.YtbfhlaggllofdaaW.PrintMore
set_option linter.unusedVariables false
theorem ints_loop (a b : List Int) (he : a.length = b.length) (hl : a.length≤1000) : ∀ d i : Nat,i + d = a.length→Ev (fun k=>w10_ints.l0 k a b (i : Int)) (decide (a.drop i = b.drop i)):=by
 intro d
 induction d with
 | zero =>
  intro i h
  rw [List.drop_eq_nil_of_le (by omega),List.drop_eq_nil_of_le (by omega),decide_eq_true rfl]
  refine Ev.step (f:=fun _=>some true) (fun k=>?_) (Ev.now _)
  simp only [w10_ints.l0]
  rw [if_neg (by omega)]
 | succ d ih =>
  intro i h
  have w : wrap64 ((i : Int) + 1) =((i + 1 : Nat) : Int):=by rw [w64 (by omega) (by omega)];rfl
  have ea:=drop_cons a i (by omega)
  have eb:=drop_cons b i (by omega)
  by_cases c : rd a (i : Int) = rd b (i : Int)
  rotate_left
  ·have e : decide (a.drop i = b.drop i) = false := decide_eq_false (by rw [ea, eb]; simp [c])
   rw [e]
   refine Ev.step (f:=fun _=>some false) (fun k=>?_) (Ev.now _)
   simp only [w10_ints.l0]
   rw [if_pos (by omega),if_pos (by omega),if_pos (by omega),if_neg c]
  have e : decide (a.drop i = b.drop i) = decide (a.drop (i + 1) = b.drop (i + 1)):=by rw [ea,eb,c];simp
  rw [e]
  refine Ev.step (fun k=>?_) (ih (i + 1) (by omega))
  simp only [w10_ints.l0]
  rw [if_pos (by omega),if_pos (by omega),if_pos (by omega),if_pos c,w]
theorem ints_ev (a b : List Int) (hl : a.length≤1000) : Ev (fun k=>w10_ints.f k a b) (decide (a = b)):=by
 by_cases c : a.length = b.length
 ·refine Ev.congr (fun k => ?_) (ints_loop a b c hl a.length 0 (by omega))
  unfold w10_ints.f
  rw [if_pos (by omega)]
  rfl
 rw [decide_eq_false (fun h=>c (by rw [h]))]
 refine Ev.congr (fun k=>?_) (Ev.now _)
 unfold w10_ints.f
 rw [if_neg (by omega)]
end Go.Proofs.Ytbfhlaggllofdaa.P

namespace Go.Proofs.Ytbfhlaggllofdaa.P
open Go.RowKit Go.Proofs.Ytbfhlaggllofdaa.S Go.Proofs.Ytbfhlaggllofdaa.G Go.Proofs.Ytbfhlaggllofdaa.T Go.Proofs.YtbfhlaggllofdaaW.PrintWords Go.Proofs.YtbfhlaggllofdaaW.PrintLast Go.Proofs.YtbfhlaggllofdaaW.PrintMore
set_option linter.unusedVariables false
theorem awake_ev : Ev (fun k=>w10_awake.f k) true:=by
 have e1 : turns_Set.f 2 2 = some ([1,2],0):=by kernel_rfl
 have e2 : turns_Choice.f 3 2 1 = some ([2,3],0):=by kernel_rfl
 have e3 : turns_Order.f 3 3 = some ([3,2,1],0):=by kernel_rfl
 have e4 : turns_Groupings.f 5 = some (52,0):=by kernel_rfl
 have e5 : turns_Setting.f [2,3] 3 = some ([1,2],0):=by kernel_rfl
 have i1:=ints_ev [1,2] [1,2] (by decide)
 have i2:=ints_ev [2,3] [2,3] (by decide)
 have i3:=ints_ev [3,2,1] [3,2,1] (by decide)
 rw [decide_eq_true rfl] at i1 i2 i3
 have hj : Ev (fun k=>w10_awake.j0 k false) true:=by
  refine Ev.step (f:=fun _=>some true) (fun k=>?_) (Ev.now _)
  simp only [w10_awake.j0]
  rw [if_neg (by decide)]
 refine Ev.congr (f:=fun k=>(w10_ints.f k [1,2] [1,2]).bind fun t=>(if t = true then((w10_ints.f k [2,3] [2,3]).bind fun t=>(if t = true then((w10_ints.f k [3,2,1] [3,2,1]).bind fun t=>(if t = true then((w10_ints.f k [1,2] [1,2]).bind fun t=>w10_awake.j0 k (!t)) else w10_awake.j0 k true)) else w10_awake.j0 k true)) else w10_awake.j0 k true)) (fun k=>?_) ?_
 ·unfold w10_awake.f
  rw [e1,e2,e3,e4,e5]
  rfl
 refine Ev.bind (f:=fun k (t : Bool)=>_) i1 ?_
 refine Ev.congr (fun k=>if_pos rfl) ?_
 refine Ev.bind (f:=fun k (t : Bool)=>_) i2 ?_
 refine Ev.congr (fun k=>if_pos rfl) ?_
 refine Ev.bind (f:=fun k (t : Bool)=>_) i3 ?_
 refine Ev.congr (fun k=>if_pos rfl) ?_
 exact Ev.bind (f:=fun k (t : Bool)=>_) i1 hj
theorem awake_some : Ev (fun k=>(w10_awake.f k).bind fun z=>some z) true:=Ev.congr (fun k=>by cases w10_awake.f k <;> rfl) awake_ev
end Go.Proofs.Ytbfhlaggllofdaa.P

namespace Go.Proofs.Ytbfhlaggllofdaa.P
open Go.RowKit Go.Proofs.Ytbfhlaggllofdaa.S Go.Proofs.YtbfhlaggllofdaaW.PrintWords Go.Proofs.YtbfhlaggllofdaaW.PrintLast Go.Proofs.YtbfhlaggllofdaaW.PrintMore
set_option linter.unusedVariables false
theorem u64_nonneg (a : Int) : 0≤IntKind.u64.wrap a:=by
 simp [IntKind.wrap,IntKind.signed,IntKind.bits]
 omega
theorem u64_id {a : Int} (h0 : 0≤a) (h1 : a≤9000000000000000000) : IntKind.u64.wrap a = a:=by
 simp [IntKind.wrap,IntKind.signed,IntKind.bits]
 omega
theorem mod_ok (a : Int) {b : Int} (b1 : 1≤b) (b2 : b≤9000000000000000000) : ∃ m,w10_mod.f a b = some m∧0≤m∧m < b:=by
 unfold w10_mod.f
 rw [u64_id (by omega) (by omega),if_neg (by omega),Int.tmod_eq_emod_of_nonneg (u64_nonneg a)]
 have h0:=Int.emod_nonneg (IntKind.u64.wrap a) (show b≠0 by omega)
 have h1:=Int.emod_lt_of_pos (IntKind.u64.wrap a) (show 0 < b by omega)
 rw [w64 (by omega) (by omega)]
 exact⟨_,rfl,h0,h1⟩
end Go.Proofs.Ytbfhlaggllofdaa.P

namespace Go.Proofs.Ytbfhlaggllofdaa.P
open Go.RowKit Go.Proofs.Ytbfhlaggllofdaa.S Go.Proofs.Ytbfhlaggllofdaa.G Go.Proofs.Ytbfhlaggllofdaa.T Go.Proofs.YtbfhlaggllofdaaW.PrintWords Go.Proofs.YtbfhlaggllofdaaW.PrintLast Go.Proofs.YtbfhlaggllofdaaW.PrintMore
set_option linter.unusedVariables false
instance (n : Int) (l : List Int) : Decidable (IsS n l):=decidable_of_iff ((∀ x ∈ l,1≤x∧x≤n)∧l.Pairwise (· < ·)) ⟨fun h=>⟨h.1,h.2⟩,fun h=>⟨h.1,h.2⟩⟩
theorem index_loop (l : List Int) (hl : l.length≤1000) (x : Int) : ∀ e i : Nat,i + e = l.length→x ∉ l.take i→Ev (fun k=>slices_Index_int_int.l0 k l x (l.length : Int) (i : Int)) (if x ∈ l then(l.idxOf x : Int) else -1):=by
 intro e
 induction e with
 | zero =>
  intro i h hs
  rw [List.take_of_length_le (by omega)] at hs
  rw [if_neg hs]
  refine Ev.step (f:=fun _=>some (-1)) (fun k=>?_) (Ev.now _)
  simp only [slices_Index_int_int.l0]
  rw [if_neg (by omega)]
 | succ e ih =>
  intro i h hs
  have w : wrap64 ((i : Int) + 1) =((i + 1 : Nat) : Int):=by rw [w64 (by omega) (by omega)];rfl
  have r : rd l (i : Int) = l[i]:=rd_lt l i (by omega)
  by_cases c : x = rd l (i : Int)
  rotate_left
  ·refine Ev.step (fun k=>?_) (ih (i + 1) (by omega) (fun h'=>by
    rw [List.take_succ_eq_append_getElem (show i < l.length by omega)] at h'
    rcases List.mem_append.1 h' with h' | h'
    ·exact hs h'
    ·exact c (by rw [r];simpa using h')))
   simp only [slices_Index_int_int.l0]
   rw [if_pos (by omega),if_pos (by omega),if_pos (by omega),if_neg c,w]
  have hm : x ∈ l:=by rw [c,r];exact List.getElem_mem _
  have hi : l.idxOf x = i:=by
   conv=>lhs;rw [← List.take_append_drop i l]
   rw [List.idxOf_append,if_neg hs,drop_cons l i (by omega),← c,List.idxOf_cons_self,List.length_take]
   omega
  rw [if_pos hm,hi]
  refine Ev.step (f:=fun _=>some (i : Int)) (fun k=>?_) (Ev.now _)
  simp only [slices_Index_int_int.l0]
  rw [if_pos (by omega),if_pos (by omega),if_pos (by omega),if_pos c]
theorem index_ev (l : List Int) (hl : l.length≤1000) (x : Int) : Ev (fun k=>slices_Index_int_int.f k l x) (if x ∈ l then(l.idxOf x : Int) else -1):=index_loop l hl x l.length 0 (by omega) (by simp)
theorem contains_ev (l : List Int) (hl : l.length≤1000) (x : Int) : Ev (fun k=>slices_Contains_int_int.f k l x) (decide (x ∈ l)):=by
 refine Ev.bind (f:=fun k (t : Int)=>some (decide (t ≥ 0))) (index_ev l hl x) ?_
 by_cases c : x ∈ l
 ·rw [if_pos c, decide_eq_true c, decide_eq_true (by omega)]
  exact Ev.now _
 rw [if_neg c,decide_eq_false c,decide_eq_false (by omega)]
 exact Ev.now _
theorem succ64 (i : Nat) (h : i≤1000) : wrap64 ((i : Int) + 1) =((i + 1 : Nat) : Int):=by rw [w64 (by omega) (by omega)];rfl
theorem fact_step (j : Nat) : fact (j + 1) = fact j * ((j : Int) + 1):=Int.mul_comm _ _
theorem factorial_l0 {n : Nat} (hn : n≤18) : ∀ e j : Nat,1≤j→j + e = max n 1→Ev (fun k=>q10_Factorial.l0 k (n : Int) (fact j) ((j : Int) + 1)) (fact n):=by
 intro e
 induction e with
 | zero =>
  intro j h1 h
  have ej : fact j = fact n:=by
   by_cases c : n = 0
   ·subst c
    obtain rfl : j = 1:=by omega
    rfl
   ·rw [show j = n by omega]
  rw [← ej]
  refine Ev.step (f:=fun _=>some (fact j)) (fun k=>?_) (Ev.now _)
  simp only [q10_Factorial.l0]
  rw [if_neg (by omega)]
 | succ e ih =>
  intro j h1 h
  have b:=fact_le (n:=j + 1) (by omega)
  have hs:=fact_step j
  have hih:=ih (j + 1) (by omega) (by omega)
  refine Ev.step (fun k=>?_) hih
  simp only [q10_Factorial.l0]
  rw [if_pos (by omega),← hs,w64 (x:=fact (j + 1)) (by omega) (by omega),w64 (x:=(j : Int) + 1 + 1) (by omega) (by omega)]
  rfl
theorem factorial_ev {n : Nat} (hn : n≤18) : Ev (fun k=>q10_Factorial.f k (n : Int)) (fact n):=factorial_l0 hn (max n 1 - 1) 1 (by omega) (by omega)
structure PreO (N : Int) (l : List Int) : Prop where
 mem : ∀ x ∈ l,1≤x∧x≤N
 nodup : l.Nodup
instance (N : Int) (l : List Int) : Decidable (PreO N l):=decidable_of_iff ((∀ x ∈ l,1≤x∧x≤N)∧l.Nodup) ⟨fun h=>⟨h.1,h.2⟩,fun h=>⟨h.1,h.2⟩⟩
theorem PreO.take {N : Int} {l : List Int} (h : PreO N l) (i : Nat) : PreO N (l.take i):=⟨fun x hx=>h.mem x (List.mem_of_mem_take hx),h.nodup.sublist (List.take_sublist i l)⟩
theorem preO_step {N : Int} {l : List Int} {i : Nat} (hi : i < l.length) : PreO N (l.take (i + 1))↔PreO N (l.take i) ∧(1≤rd l (i : Int)∧rd l (i : Int)≤N)∧rd l (i : Int) ∉ l.take i:=by
 have e : l.take (i + 1) = l.take i ++ [rd l (i : Int)]:=by rw [rd_lt l i hi];exact List.take_succ_eq_append_getElem hi
 rw [e]
 constructor
 ·intro h
  obtain ⟨h1,h2,h3⟩:=List.nodup_append.1 h.nodup
  exact⟨⟨fun x hx=>h.mem x (List.mem_append_left _ hx),h1⟩,h.mem _ (List.mem_append_right _ (List.mem_singleton.2 rfl)),fun hm=>h3 _ hm _ (List.mem_singleton.2 rfl) rfl⟩
 intro ⟨h1,h2,h3⟩
 refine⟨fun x hx=>?_,List.nodup_append.2 ⟨h1.nodup,by simp,fun x hx y hy=>?_⟩⟩
 ·rcases List.mem_append.1 hx with hx | hx
  ·exact h1.mem x hx
  rw [List.mem_singleton.1 hx];exact h2
 rw [List.mem_singleton.1 hy]
 exact fun e=>h3 (e ▸ hx)
theorem preO_not {N : Int} {l : List Int} (j : Nat) (h : ¬ PreO N (l.take j)) : decide (PreO N l) = false:=decide_eq_false (fun h'=>h (h'.take j))
theorem preO_nil (N : Int) : PreO N []:=⟨fun x hx=>by simp at hx,.nil⟩
theorem isOrder_loop {l : List Int} (hl : l.length≤18) : ∀ e i : Nat,i + e = l.length→PreO (l.length : Int) (l.take i)→Ev (fun k=>turns_isOrder.l0 k l l (l.length : Int) (i : Int)) (decide (PreO (l.length : Int) l)):=by
 intro e
 induction e with
 | zero =>
  intro i h hs
  rw [List.take_of_length_le (by omega)] at hs
  rw [decide_eq_true hs]
  refine Ev.step (f:=fun _=>some true) (fun k=>?_) (Ev.now _)
  simp only [turns_isOrder.l0]
  rw [if_neg (by omega)]
 | succ e ih =>
  intro i h hs
  have st:=preO_step (N:=(l.length : Int)) (l:=l) (i:=i) (by omega)
  by_cases c : 1≤rd l (i : Int)∧rd l (i : Int) ≤(l.length : Int)
  rotate_left
  ·rw [preO_not (i + 1) (fun h => c ((st.1 h).2.1))]
   refine Ev.step (f:=fun _=>some false) (fun k=>?_) (Ev.now _)
   simp only [turns_isOrder.l0]
   rw [if_pos (by omega),if_pos (by omega),if_pos (by omega),within_no c]
   rfl
  have hc:=contains_ev (l.take i) (by rw [List.length_take];omega) (rd l (i : Int))
  have hf : ∀ {r : Bool},Ev (fun k=>(slices_Contains_int_int.f k (l.take i) (rd l (i : Int))).bind fun t512=>(if t512 = true then(some false) else(turns_isOrder.l0 k l l (l.length : Int) ((i + 1 : Nat) : Int)))) r→Ev (fun k=>turns_isOrder.l0 k l l (l.length : Int) (i : Int)) r:=fun h=>by
   refine Ev.step (fun k=>?_) h
   simp only [turns_isOrder.l0]
   rw [if_pos (by omega),if_pos (by omega),if_pos (by omega),within_yes c]
   simp only [Option.bind_some,if_true]
   rw [if_pos (by omega),show((i : Int)).toNat = i by omega,succ64 i (by omega)]
  refine hf (Ev.bind (f:=fun k (t : Bool)=>_) hc ?_)
  by_cases c1 : rd l (i : Int) ∈ l.take i
  rotate_left
  ·rw [decide_eq_false c1]
   exact Ev.congr (fun k=>if_neg (by decide)) (ih (i + 1) (by omega) (st.2 ⟨hs,c,c1⟩))
  rw [decide_eq_true c1,preO_not (i + 1) (fun h=>(st.1 h).2.2 c1)]
  exact Ev.congr (fun k=>if_pos rfl) (Ev.now _)
def OrdP (l : List Int) : Prop:=l.length≤18∧PreO (l.length : Int) l
instance (l : List Int) : Decidable (OrdP l):=by unfold OrdP;infer_instance
theorem isOrder_ev (l : List Int) : Ev (fun k=>turns_isOrder.f k l) (decide (OrdP l)):=by
 by_cases c : l.length≤18
 rotate_left
 ·rw [decide_eq_false (fun h => c h.1)]
  refine Ev.congr (fun k=>?_) (Ev.now _)
  unfold turns_isOrder.f
  rw [if_pos (by omega)]
 have h:=isOrder_loop c l.length 0 (by omega) (preO_nil _)
 rw [show decide (OrdP l) = decide (PreO (l.length : Int) l) from decide_eq_decide.2 ⟨fun h=>h.2,fun h=>⟨c,h⟩⟩]
 refine Ev.congr (fun k=>?_) h
 unfold turns_isOrder.f
 rw [if_neg (by omega)]
 rfl
theorem mem_take_rd {l : List Int} {i : Nat} (hi : i≤l.length) {x : Int} : x ∈ l.take i↔∃ j,j < i∧rd l (j : Int) = x:=by
 constructor
 ·intro h
  obtain ⟨j,hj,e⟩:=List.getElem_of_mem h
  rw [List.length_take] at hj
  rw [List.getElem_take] at e
  exact⟨j,by omega,by rw [rd_lt l j (by omega)];exact e⟩
 intro ⟨j,hj,e⟩
 rw [rd_lt l j (by omega)] at e
 rw [← e]
 exact List.mem_take_iff_getElem.2 ⟨j,by omega,rfl⟩
theorem orders_l1 {l : List Int} (hl : l.length≤42) {i : Nat} (hi : i < l.length) {r : Bool} (hr : rd l (i : Int) ∉ l.take i→Ev (fun k=>q10_Orders.l0 k l ((i + 1 : Nat) : Int)) r) (hf : rd l (i : Int) ∈ l.take i→r = false) : ∀ e j : Nat,j + e = i →(∀ q,q < j→rd l (q : Int)≠rd l (i : Int))→Ev (fun k=>q10_Orders.l1 k l (i : Int) (j : Int)) r:=by
 intro e
 induction e with
 | zero =>
  intro j h hs
  obtain rfl : j = i:=by omega
  refine Ev.step (fun k=>?_) (hr (fun hm=>by
   obtain ⟨q,h1,h2⟩:=(mem_take_rd (by omega)).1 hm
   exact hs q h1 h2))
  simp only [q10_Orders.l1]
  rw [if_neg (by omega),succ64 j (by omega)]
 | succ e ih =>
  intro j h hs
  by_cases c : rd l (j : Int) = rd l (i : Int)
  ·rw [hf ((mem_take_rd (by omega)).2 ⟨j, by omega, c⟩)]
   refine Ev.step (f:=fun _=>some false) (fun k=>?_) (Ev.now _)
   simp only [q10_Orders.l1]
   rw [if_pos (by omega),if_pos (by omega),if_pos (by omega),if_pos (by omega),if_pos (by omega),if_pos c]
  refine Ev.step (fun k=>?_) (ih (j + 1) (by omega) (fun q hq=>by
   by_cases e : q = j
   ·subst e;exact c
   ·exact hs q (by omega)))
  simp only [q10_Orders.l1]
  rw [if_pos (by omega),if_pos (by omega),if_pos (by omega),if_pos (by omega),if_pos (by omega),if_neg c,succ64 j (by omega)]
theorem orders_loop {l : List Int} (hl : l.length≤42) : ∀ e i : Nat,i + e = l.length→PreO (l.length : Int) (l.take i)→Ev (fun k=>q10_Orders.l0 k l (i : Int)) (decide (OrdP l)):=by
 intro e
 induction e with
 | zero =>
  intro i h hs
  rw [List.take_of_length_le (by omega)] at hs
  refine Ev.step (f:=fun _=>some (decide (OrdP l))) (fun k=>?_) (Ev.now _)
  simp only [q10_Orders.l0]
  rw [if_neg (by omega)]
  congr 1
  exact decide_eq_decide.2 ⟨fun h=>⟨by omega,hs⟩,fun h=>by have:=h.1;omega⟩
 | succ e ih =>
  intro i h hs
  have st:=preO_step (N:=(l.length : Int)) (l:=l) (i:=i) (by omega)
  have no : ¬ PreO (l.length : Int) (l.take (i + 1))→decide (OrdP l) = false:=fun h=>decide_eq_false (fun h'=>h (h'.2.take (i + 1)))
  by_cases c : 1≤rd l (i : Int)∧rd l (i : Int) ≤(l.length : Int)
  rotate_left
  ·rw [no (fun h => c ((st.1 h).2.1))]
   refine Ev.step (f:=fun k=>q10_Orders.j1 k l (i : Int) true) (fun k=>?_) (Ev.step (f:=fun _=>some false) (fun k=>?_) (Ev.now _))
   ·simp only [q10_Orders.l0]
    rw [if_pos (by omega),if_pos (by omega)]
    by_cases c1 : rd l (i : Int) < 1
    ·rw [if_pos c1]
    rw [if_neg c1,decide_eq_true (by omega)]
   simp only [q10_Orders.j1]
   rw [if_pos trivial]
  have h1:=orders_l1 hl (i:=i) (by omega) (r:=decide (OrdP l)) (fun hm=>ih (i + 1) (by omega) (st.2 ⟨hs,c,hm⟩)) (fun hm=>no (fun h=>(st.1 h).2.2 hm)) i 0 (by omega) (fun q hq=>by omega)
  refine Ev.step (f:=fun k=>q10_Orders.j1 k l (i : Int) false) (fun k=>?_) (Ev.step (fun k=>?_) h1)
  ·simp only [q10_Orders.l0]
   rw [if_pos (by omega),if_pos (by omega),if_neg (by omega),decide_eq_false (by omega)]
  simp only [q10_Orders.j1]
  rw [if_neg (by decide)]
  rfl
theorem orders_ev {l : List Int} (hl : l.length≤42) : Ev (fun k=>q10_Orders.f k l) (decide (OrdP l)):=orders_loop hl l.length 0 (by omega) (preO_nil _)
theorem ordP_has {l : List Int} (h : OrdP l) {m : Nat} (hm : m < l.length) :(m : Int) + 1 ∈ l:=full_range l.length l 0 h.2.nodup (fun a ha=>by have:=h.2.mem a ha;omega) rfl _ (by omega) (by omega)
theorem ordP_range {l : List Int} (h : OrdP l) {m : Nat} (hm : m≤l.length) : 0≤sjtAt m l∧sjtAt m l < fact m:=sjtAt_range m l (fun j hj=>ordP_has h (by omega)) h.2.nodup (fun x hx=>(h.2.mem x hx).1)
theorem split_at {l : List Int} {x : Int} (hx : x ∈ l) : l = l.take (l.idxOf x) ++ x :: l.drop (l.idxOf x + 1)∧x ∉ l.take (l.idxOf x)∧l.idxOf x < l.length:=by
 have hi:=List.idxOf_lt_length_of_mem hx
 have e:=drop_cons l (l.idxOf x) hi
 have ex : rd l (l.idxOf x : Int) = x:=by rw [rd_lt l _ hi];exact List.getElem_idxOf hi
 rw [ex] at e
 refine⟨?_,?_,hi⟩
 ·rw [← e,List.take_append_drop]
 intro hm
 obtain ⟨j,hj,e2⟩:=(mem_take_rd (by omega)).1 hm
 have h1 : l.idxOf x≤j:=by
  rw [rd_lt l j (by omega)] at e2
  rcases Nat.lt_or_ge j (l.idxOf x) with h | h
  ·exact absurd e2 (List.not_of_lt_findIdx (p:=(· == x)) h |> fun h=>by simpa using h)
  ·exact h
 omega
theorem idx_upto {l : List Int} {m : Nat} (hx :(m : Int) + 1 ∈ l) :(upto ((m : Int) + 1) l).idxOf ((m : Int) + 1) =(upto (m : Int) (l.take (l.idxOf ((m : Int) + 1)))).length:=by
 obtain ⟨e,hn,_⟩:=split_at hx
 have e1 : upto ((m : Int) + 1) (l.take (l.idxOf ((m : Int) + 1))) = upto (m : Int) (l.take (l.idxOf ((m : Int) + 1))):=by
  unfold upto
  refine List.filter_congr (fun x hx=>?_)
  have : x ≠(m : Int) + 1:=fun e=>hn (e ▸ hx)
  exact decide_eq_decide.2 ⟨fun h=>by omega,fun h=>by omega⟩
 rw [← e1]
 generalize l.take (l.idxOf ((m : Int) + 1)) = a at *
 generalize l.drop (l.idxOf ((m : Int) + 1) + 1) = b at *
 rw [e]
 have hna :(m : Int) + 1 ∉ upto ((m : Int) + 1) a:=fun h=>hn (List.mem_filter.1 h).1
 unfold upto at hna ⊢
 rw [List.filter_append,List.filter_cons,if_pos (by simp),List.idxOf_append,if_neg hna,List.idxOf_cons_self]
 omega
theorem upto_snoc {m : Int} {l : List Int} {j : Nat} (hj : j < l.length) :(upto m (l.take (j + 1))).length =(upto m (l.take j)).length + (if rd l (j : Int)≤m then 1 else 0):=by
 have e : l.take (j + 1) = l.take j ++ [rd l (j : Int)]:=by rw [rd_lt l j hj];exact List.take_succ_eq_append_getElem hj
 unfold upto
 rw [e,List.filter_append,List.length_append]
 by_cases c : rd l (j : Int)≤m
 ·rw [if_pos c,List.filter_cons,if_pos (by simpa using c)];rfl
 rw [if_neg c,List.filter_cons,if_neg (by simpa using c)];rfl
theorem sjtAt_step {l : List Int} (h : OrdP l) {m : Nat} (hm : m < l.length) :(sjtAt (m + 1) l = if sjtAt m l % 2 = 0 then sjtAt m l * ((m : Int) + 1) + ((m : Int) - ((upto (m : Int) (l.take (l.idxOf ((m : Int) + 1)))).length : Int)) else sjtAt m l * ((m : Int) + 1) + ((upto (m : Int) (l.take (l.idxOf ((m : Int) + 1)))).length : Int))∧0≤sjtAt m l * ((m : Int) + 1)∧sjtAt m l * ((m : Int) + 1)≤6402373705728000∧0≤sjtAt m l:=by
 obtain ⟨r0,r1⟩:=ordP_range h (m:=m) (by omega)
 have b:=fact_le (n:=m + 1) (by have:=h.1;omega)
 have e7:=fact_step m
 have h6 : sjtAt m l * ((m : Int) + 1)≤fact m * ((m : Int) + 1):=Int.mul_le_mul_of_nonneg_right (by omega) (by omega)
 refine⟨?_,Int.mul_nonneg r0 (by omega),by omega,r0⟩
 show _ + place m _ _ = _
 rw [idx_upto (ordP_has h hm)]
 unfold place
 split <;> rfl
theorem orderAt_l1 {l : List Int} (h : OrdP l) {m : Nat} (hm : m < l.length) {r : Int} (hr : Ev (fun k=>turns_orderAt.l0 k l (sjtAt (m + 1) l) (l.length : Int) ((m + 1 : Nat) : Int)) r) {b : List Int} (hb : b = l.take (l.idxOf ((m : Int) + 1))) : ∀ e j : Nat,j + e = b.length→Ev (fun k=>turns_orderAt.l1 k l (sjtAt m l) (m : Int) ((upto (m : Int) (b.take j)).length : Int) (l.length : Int) (m : Int) b (b.length : Int) (j : Int)) r:=by
 have h18:=h.1
 have hbl : b.length≤l.length:=by rw [hb,List.length_take];omega
 have hub : ∀ j,(upto (m : Int) (b.take j)).length≤b.length:=fun j=>by
  unfold upto
  exact Nat.le_trans (List.length_filter_le _ _) (by rw [List.length_take];omega)
 obtain ⟨hv,v0,v1,v2⟩:=sjtAt_step h hm
 rw [← hb] at hv
 intro e
 induction e with
 | zero =>
  intro j hj
  have hu:=hub j
  obtain ⟨c,hc⟩ : ∃ c,(upto (m : Int) (b.take j)).length = c:=⟨_,rfl⟩
  rw [List.take_of_length_le (show b.length≤j by omega)] at hc hu ⊢
  rw [hc] at hv hu
  rw [hc]
  have hm2 : Int.tmod (sjtAt m l) 2 = sjtAt m l % 2:=Int.tmod_eq_emod_of_nonneg v2
  generalize sjtAt m l = R at *
  refine Ev.step (fun k=>?_) hr
  simp only [turns_orderAt.l1]
  rw [if_neg (by omega),hm2,w64 (x:=(m : Int) + 1) (by omega) (by omega),w64 (x:=R * ((m : Int) + 1)) (by omega) (by omega)]
  by_cases c2 : R % 2 = 0
  rotate_left
  ·rw [if_neg c2] at hv ⊢
   rw [w64 (x:=R * ((m : Int) + 1) + (c : Int)) (by omega) (by omega),← hv]
   rfl
  rw [if_pos c2] at hv ⊢
  rw [w64 (x:=(m : Int) - (c : Int)) (by omega) (by omega),w64 (x:=R * ((m : Int) + 1) + ((m : Int) - (c : Int))) (by omega) (by omega),← hv]
  rfl
 | succ e ih =>
  intro j hj
  have hs:=upto_snoc (m:=(m : Int)) (l:=b) (j:=j) (by omega)
  have hu:=hub j
  have hih:=ih (j + 1) (by omega)
  rw [hs] at hih
  generalize (upto (m : Int) (b.take j)).length = c at *
  refine Ev.step (fun k=>?_) hih
  simp only [turns_orderAt.l1]
  rw [if_pos (by omega),if_pos (by omega),if_pos (by omega),succ64 j (by omega)]
  by_cases c2 : rd b (j : Int) ≤(m : Int)
  rotate_left
  ·rw [if_neg c2, if_neg c2]
   rfl
  rw [if_pos c2,if_pos c2,succ64 c (by omega)]
theorem orderAt_l0 {l : List Int} (h : OrdP l) : ∀ e m : Nat,m + e = l.length→Ev (fun k=>turns_orderAt.l0 k l (sjtAt m l) (l.length : Int) (m : Int)) (sjtAt l.length l):=by
 intro e
 have h18:=h.1
 induction e with
 | zero =>
  intro m hm
  obtain rfl : m = l.length:=by omega
  refine Ev.step (f:=fun _=>some (sjtAt l.length l)) (fun k=>?_) (Ev.now _)
  simp only [turns_orderAt.l0]
  rw [if_neg (by omega)]
 | succ e ih =>
  intro m hm
  have hx:=ordP_has h (m:=m) (by omega)
  obtain ⟨_,_,hi⟩:=split_at hx
  have hI:=index_ev l (by omega) ((m : Int) + 1)
  rw [if_pos hx] at hI
  have h1:=orderAt_l1 h (m:=m) (by omega) (ih (m + 1) (by omega)) rfl (l.take (l.idxOf ((m : Int) + 1))).length 0 (by omega)
  refine Ev.step (f:=fun k=>(slices_Index_int_int.f k l ((m : Int) + 1)).bind fun t513=>(if 0≤t513 then(if t513 ≤(l.length : Int) then(turns_orderAt.l1 k l (sjtAt m l) (m : Int) 0 (l.length : Int) (m : Int) (l.take (t513 : Int).toNat) ((l.take (t513 : Int).toNat).length : Int) 0) else(none)) else(none))) (fun k=>?_) ?_
  ·simp only [turns_orderAt.l0]
   rw [if_pos (by omega),w64 (x:=(m : Int) + 1) (by omega) (by omega)]
  refine Ev.bind (f:=fun k (t : Int)=>_) hI ?_
  refine Ev.congr (fun k=>?_) h1
  rw [if_pos (by omega),if_pos (by omega),show((l.idxOf ((m : Int) + 1) : Int)).toNat = l.idxOf ((m : Int) + 1) by omega]
  rfl
theorem orderAt_ev {l : List Int} (h : OrdP l) : Ev (fun k=>turns_orderAt.f k l) (sjtAt l.length l):=orderAt_l0 h l.length 0 (by omega)
def turnVal (l : List Int) : Int×Int:=if sjtAt l.length l + 1 = fact l.length then(-1,-1) else turnGo (sjt l.length (sjtAt l.length l + 1)) l l.length 0
theorem Turn_ev (l : List Int) : Ev (fun k=>turns_Turn.f k l) (if OrdP l then((turnVal l).1,(turnVal l).2,0) else(0,0,2)):=by
 refine Ev.bind (f:=fun k (b : Bool)=>_) (isOrder_ev l) ?_
 by_cases c : OrdP l
 rotate_left
 ·rw [decide_eq_false c, if_neg c]
  exact Ev.congr (fun k=>if_neg (by decide)) (Ev.now _)
 obtain ⟨r0,r1⟩:=ordP_range c (m:=l.length) (Nat.le_refl _)
 rw [decide_eq_true c,if_pos c]
 refine Ev.congr (fun k=>(if_pos rfl).trans (if_pos c.1)) ?_
 refine Ev.bind (f:=fun k (t : Int)=>_) (orderAt_ev c) ?_
 refine Ev.congr (fun k=>if_pos ⟨r0,r1⟩) ?_
 unfold turnVal
 by_cases c1 : sjtAt l.length l + 1 = fact l.length
 ·refine Ev.congr (fun k => if_pos c1) ?_
  rw [if_pos c1]
  exact Ev.now _
 refine Ev.congr (fun k=>if_neg c1) ?_
 rw [if_neg c1]
 exact Ev.now _
theorem OrderAt_ev (l : List Int) : Ev (fun k=>turns_OrderAt.f k l) (if OrdP l then(sjtAt l.length l,0) else(0,2)):=by
 refine Ev.bind (f:=fun k (b : Bool)=>_) (isOrder_ev l) ?_
 by_cases c : OrdP l
 rotate_left
 ·rw [decide_eq_false c, if_neg c]
  exact Ev.congr (fun k=>if_neg (by decide)) (Ev.now _)
 rw [decide_eq_true c,if_pos c]
 refine Ev.congr (fun k=>if_pos rfl) ?_
 exact Ev.bind (f:=fun k (t : Int)=>some (t,(0 : Int))) (orderAt_ev c) (Ev.now _)
theorem sjt_ord {n : Nat} (hn : n≤18) (a : Int) : OrdP (sjt n a):=⟨by rw [sjt_len];exact hn,fun x hx=>by have:=(sjt_mem n a x).1 hx;rw [sjt_len];exact this,sjt_nodup n a⟩
theorem order_some {n : Nat} {a : Int} (hn : n≤18) (h0 : 0≤a) (h1 : a < fact n) : turns_Order.f (n : Int) a = some (sjt n a,0):=by
 unfold turns_Order.f
 rw [show((n : Int)).toNat = n by omega,if_pos ⟨by omega,by omega,by omega,by omega⟩]
theorem rd_front (s t : List Int) (j : Nat) (h : j < s.length) : rd (s ++ t) (j : Int) = rd s (j : Int):=by
 rw [rd_lt _ j (by rw [List.length_append];omega),rd_lt _ j h,List.getElem_append_left h]
theorem rd_mid (s t : List Int) (x : Int) (j : Nat) (h : j = s.length) : rd (s ++ x :: t) (j : Int) = x:=by
 subst h
 rw [rd_lt _ _ (by rw [List.length_append];simp),List.getElem_append_right (Nat.le_refl _)]
 simp
theorem turnGo_swap {x y : List Int} {i : Nat} (h : Swap x y i) : ∀ d j : Nat,j≤i→i < j + d→turnGo y x d j =((i : Int),(i : Int) + 1):=by
 obtain ⟨s,a,b,t,h1,h2,h3,h4⟩:=h
 intro d
 induction d with
 | zero=>intro j hj hd;omega
 | succ d ih =>
  intro j hj hd
  show(if rd y (j : Int) = rd x (j : Int) then turnGo y x d (j + 1) else((j : Int),(j : Int) + 1)) = _
  by_cases c : j = i
  rotate_left
  ·have e1 : rd y (j : Int) = rd x (j : Int) := by rw [h4, h3, rd_front s _ j (by omega), rd_front s _ j (by omega)]
   rw [if_pos e1]
   exact ih (j + 1) (by omega) (by omega)
  subst c
  have e1 : rd y (j : Int) = b:=by rw [h4];exact rd_mid s _ b j h1.symm
  have e2 : rd x (j : Int) = a:=by rw [h3];exact rd_mid s _ a j h1.symm
  rw [e1,e2,if_neg (fun e=>h2 e.symm)]
theorem swap_set {x y : List Int} {i : Nat} (h : Swap x y i) :(i + 1 < x.length) ∧(x.set i (rd x ((i : Int) + 1))).set (i + 1) (rd x (i : Int)) = y:=by
 obtain ⟨s,a,b,t,h1,h2,h3,h4⟩:=h
 have hl : x.length = s.length + (t.length + 2):=by rw [h3];simp
 refine⟨by omega,?_⟩
 have e0 : rd x (i : Int) = a:=by rw [h3];exact rd_mid s _ a i h1.symm
 have e1 : rd x ((i : Int) + 1) = b:=by
  rw [show(i : Int) + 1 =((i + 1 : Nat) : Int) by omega,h3,show s ++ a :: b :: t =(s ++ [a]) ++ b :: t by simp]
  exact rd_mid _ _ b (i + 1) (by simp;omega)
 rw [e0,e1,h3,h4,← h1]
 rw [List.set_append_right _ _ (Nat.le_refl _),Nat.sub_self,List.set_cons_zero,List.set_append_right _ _ (by omega),show s.length + 1 - s.length = 1 by omega]
 rfl
theorem turnsOrderSteps_law (x y : Int) : ∃ k,w10_TurnsOrderSteps.f k x y = some true:=by
 refine Ev.rounds ?_
 obtain ⟨q,hq,q0,q1⟩:=mod_ok x (b:=19) (by omega) (by omega)
 obtain ⟨n,rfl⟩ : ∃ n : Nat,q = n:=⟨q.toNat,by omega⟩
 have hn : n≤18:=by omega
 have b:=fact_le (n:=n) hn
 obtain ⟨m,hm,m0,m1⟩:=mod_ok y (b:=fact n) (by omega) (by omega)
 have S1:=order_some hn m0 m1
 have hO:=sjt_ord hn m
 have hlen:=sjt_len n m
 have hat:=sjtAt_sjt n m m0 m1
 have hT:=Turn_ev (sjt n m)
 have hA:=OrderAt_ev (sjt n m)
 rw [if_pos hO] at hT hA
 rw [hlen,hat] at hA
 have htv : turnVal (sjt n m) = if m + 1 = fact n then(-1,-1) else turnGo (sjt n (m + 1)) (sjt n m) n 0:=by
  unfold turnVal
  rw [hlen,hat]
 have hR:=orders_ev (l:=sjt n m) (by omega)
 rw [decide_eq_true hO] at hR
 obtain ⟨v,hv⟩ : ∃ v,turnVal (sjt n m) = v:=⟨_,rfl⟩
 rw [hv] at hT htv
 have hj : Ev (fun k=>w10_TurnsOrderSteps.j0 k (n : Int) m (fact n) (sjt n m) (!true) v.1 v.2) true:=by
  have wF : wrap64 (fact n - 1) = fact n - 1:=w64 (by omega) (by omega)
  by_cases c : m + 1 = fact n
  ·rw [if_pos c] at htv
   subst htv
   refine Ev.step (f:=fun k=>(w10_awake.f k).bind fun z=>some z) (fun k=>?_) awake_some
   simp only [w10_TurnsOrderSteps.j0]
   rw [if_neg (by decide),wF,if_pos (by omega)]
   rfl
  ·rw [if_neg c] at htv
   obtain ⟨i,hsw⟩:=sjt_next n m m0 (by omega)
   obtain ⟨hi,hset⟩:=swap_set hsw
   rw [hlen] at hi
   rw [turnGo_swap hsw n 0 (by omega) (by omega)] at htv
   subst htv
   have S2:=order_some hn (a:=m + 1) (by omega) (by omega)
   have hI:=ints_ev (sjt n (m + 1)) (sjt n (m + 1)) (by rw [sjt_len];omega)
   rw [decide_eq_true rfl] at hI
   refine Ev.step (f:=fun k=>w10_TurnsOrderSteps.j1 k (n : Int) m (sjt n m) false (i : Int) ((i : Int) + 1)) (fun k=>?_) ?_
   ·simp only [w10_TurnsOrderSteps.j0]
    rw [if_neg (by decide),wF,if_neg (by omega),if_neg (by omega),w64 (x:=(n : Int) - 1) (by omega) (by omega),if_neg (by omega),w64 (x:=(i : Int) + 1) (by omega) (by omega)]
    congr 1
    simp
   ·refine Ev.step (f := fun k => (w10_ints.f k (sjt n (m + 1)) (sjt n (m + 1))).bind fun t624 => (if t624 = true then ((w10_awake.f k).bind fun t625 => (some t625)) else (some false))) (fun k => ?_) ?_
    ·simp only [w10_TurnsOrderSteps.j1]
     rw [if_neg (by decide),w64 (x:=m + 1) (by omega) (by omega),S2]
     simp only [Option.bind_some]
     rw [if_pos (by omega),hlen,if_pos (by omega),if_pos (by omega),if_pos (by omega),if_pos trivial,show((i : Int)).toNat = i by omega,show((i : Int) + 1).toNat = i + 1 by omega,hset]
    ·refine Ev.bind (f := fun k (t : Bool) => _) hI ?_
     exact Ev.congr (fun k=>if_pos rfl) awake_some
 refine Ev.congr (f:=fun k=>(q10_Factorial.f k (n : Int)).bind fun t602=>((w10_mod.f y t602).bind fun t603=>((turns_Order.f (n : Int) t603).bind fun bt604=>((turns_Turn.f k bt604.1).bind fun bt608=>((turns_OrderAt.f k bt604.1).bind fun bt612=>(if bt604.2 = 0 then(if bt608.2.2 = 0 then(if bt612.2 = 0 then(if bt612.1 = t603 then(if(bt604.1.length : Int) =(n : Int) then((q10_Orders.f k bt604.1).bind fun t614=>(w10_TurnsOrderSteps.j0 k (n : Int) t603 t602 bt604.1 (!t614) bt608.1 bt608.2.1)) else(w10_TurnsOrderSteps.j0 k (n : Int) t603 t602 bt604.1 true bt608.1 bt608.2.1)) else(w10_TurnsOrderSteps.j0 k (n : Int) t603 t602 bt604.1 true bt608.1 bt608.2.1)) else(w10_TurnsOrderSteps.j0 k (n : Int) t603 t602 bt604.1 true bt608.1 bt608.2.1)) else(w10_TurnsOrderSteps.j0 k (n : Int) t603 t602 bt604.1 true bt608.1 bt608.2.1)) else(w10_TurnsOrderSteps.j0 k (n : Int) t603 t602 bt604.1 true bt608.1 bt608.2.1))))))) (fun k=>?_) ?_
 ·unfold w10_TurnsOrderSteps.f
  rw [hq]
  simp only [Option.bind_some]
 refine Ev.bind (f:=fun k (t : Int)=>_) (factorial_ev hn) ?_
 rw [hm]
 simp only [Option.bind_some]
 rw [S1]
 simp only [Option.bind_some]
 refine Ev.bind (f:=fun k (t : Int×Int×Int)=>_) hT ?_
 refine Ev.bind (f:=fun k (t : Int×Int)=>_) hA ?_
 simp only [if_true]
 rw [hlen]
 simp only [if_true]
 exact Ev.bind (f:=fun k (t : Bool)=>_) hR hj
end Go.Proofs.Ytbfhlaggllofdaa.P

namespace Go.Proofs.Ytbfhlaggllofdaa.Pure
open Go.RowKit Go.Proofs.Ytbfhlaggllofdaa.S Go.Proofs.YtbfhlaggllofdaaW.PrintWords Go.Proofs.YtbfhlaggllofdaaW.PrintLast
theorem TurnsOrderSteps : w10_TurnsOrderSteps.Pure:=fun a0 a1 _ _=>P.turnsOrderSteps_law a0 a1
end Go.Proofs.Ytbfhlaggllofdaa.Pure
