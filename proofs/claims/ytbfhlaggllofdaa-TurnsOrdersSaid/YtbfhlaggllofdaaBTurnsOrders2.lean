-- Written by wip/bundle2.py: texts of this claim, one behind the other.
import Derived.Test.YtbfhlaggllofdaaBTurnsOrders1
set_option linter.unusedVariables false
set_option linter.unusedSimpArgs false

namespace Go.Proofs.Ytbfhlaggllofdaa.S
open Go.Proofs.Ytbfhlaggllofdaa.Lib
open Go.Maps (Keyed)
open Go.RowKit Go.Proofs.YtbfhlaggllofdaaW.PrintWords Go.Proofs.YtbfhlaggllofdaaW.PrintLast Go.Proofs.YtbfhlaggllofdaaW.PrintMore
attribute [local go_sem] max2_int min2_int max_two min_two max_three min_three max_four min_four
set_option linter.unusedVariables false
set_option linter.unusedSimpArgs false

def q10_Order.f : Nat → Int → Int → Option (List Int)
 | 0,_,_=>none
 | k + 1,a0,a1=>if a0 = 0 then(some ([] : List Int)) else((q10_Order.f k (wrap64 (a0 - 1)) (wrap64 (Int.tdiv a1 a0))).bind fun t518=>(if(Int.tmod (wrap64 (Int.tdiv a1 a0)) 2) = 0 then(if 0 ≤(wrap64 ((wrap64 (a0 - 1)) - (Int.tmod a1 a0))) then(if(wrap64 ((wrap64 (a0 - 1)) - (Int.tmod a1 a0))) ≤(t518.length : Int) then((some (t518.take ((wrap64 ((wrap64 (a0 - 1)) - (Int.tmod a1 a0))) : Int).toNat : List Int)).bind fun y521=>(if([] : List Int).length + y521.length < 17592186044416 then((some (([] : List Int) ++ y521 : List Int)).bind fun y525=>(if y525.length < 17592186044416 then((some (y525 ++ [a0] : List Int)).bind fun y528=>((some (t518.drop ((wrap64 ((wrap64 (a0 - 1)) - (Int.tmod a1 a0))) : Int).toNat : List Int)).bind fun y531=>(if y528.length + y531.length < 17592186044416 then(some (y528 ++ y531)) else(none)))) else(none))) else(none))) else(none)) else(none)) else(if 0 ≤(Int.tmod a1 a0) then(if(Int.tmod a1 a0) ≤(t518.length : Int) then((some (t518.take ((Int.tmod a1 a0) : Int).toNat : List Int)).bind fun y538=>(if([] : List Int).length + y538.length < 17592186044416 then((some (([] : List Int) ++ y538 : List Int)).bind fun y542=>(if y542.length < 17592186044416 then((some (y542 ++ [a0] : List Int)).bind fun y545=>((some (t518.drop ((Int.tmod a1 a0) : Int).toNat : List Int)).bind fun y548=>(if y545.length + y548.length < 17592186044416 then(some (y545 ++ y548)) else(none)))) else(none))) else(none))) else(none)) else(none))))
set_option maxHeartbeats 8000000 in
set_option maxRecDepth 100000 in
theorem q10_Order.calls (k : Nat) : ∀ (a0 : Int) (a1 : Int) (r : List Int) (w : World) (h : q10_Order.f k a0 a1 = some r),
  Calls Try.prog 51 #[.int .i64 a0,.int .i64 a1] w fun e w'=>∃ v0_ : Value,e = .returned (v0_)∧Kd.R (Kd.int .i64) 3 w' w.heap.size (fun _=>True) v0_ r∧Below w.heap.size w w':=by
 induction k using Nat.strongRecOn with
 | _ k ih =>
 intro a0 a1 r w h
 cases k with
 | zero=>exact absurd h (by simp [q10_Order.f])
 | succ k =>
 simp only [q10_Order.f] at h
 have HB:=Aside0.mk (Below.refl w.heap.size w)
 have H :(if a0 = 0 then(some ([] : List Int)) else((q10_Order.f k (wrap64 (a0 - 1)) (wrap64 (Int.tdiv a1 a0))).bind fun t518=>(if(Int.tmod (wrap64 (Int.tdiv a1 a0)) 2) = 0 then(if 0 ≤(wrap64 ((wrap64 (a0 - 1)) - (Int.tmod a1 a0))) then(if(wrap64 ((wrap64 (a0 - 1)) - (Int.tmod a1 a0))) ≤(t518.length : Int) then((some (t518.take ((wrap64 ((wrap64 (a0 - 1)) - (Int.tmod a1 a0))) : Int).toNat : List Int)).bind fun y521=>(if([] : List Int).length + y521.length < 17592186044416 then((some (([] : List Int) ++ y521 : List Int)).bind fun y525=>(if y525.length < 17592186044416 then((some (y525 ++ [a0] : List Int)).bind fun y528=>((some (t518.drop ((wrap64 ((wrap64 (a0 - 1)) - (Int.tmod a1 a0))) : Int).toNat : List Int)).bind fun y531=>(if y528.length + y531.length < 17592186044416 then(some (y528 ++ y531)) else(none)))) else(none))) else(none))) else(none)) else(none)) else(if 0 ≤(Int.tmod a1 a0) then(if(Int.tmod a1 a0) ≤(t518.length : Int) then((some (t518.take ((Int.tmod a1 a0) : Int).toNat : List Int)).bind fun y538=>(if([] : List Int).length + y538.length < 17592186044416 then((some (([] : List Int) ++ y538 : List Int)).bind fun y542=>(if y542.length < 17592186044416 then((some (y542 ++ [a0] : List Int)).bind fun y545=>((some (t518.drop ((Int.tmod a1 a0) : Int).toNat : List Int)).bind fun y548=>(if y545.length + y548.length < 17592186044416 then(some (y545 ++ y548)) else(none)))) else(none))) else(none))) else(none)) else(none))))) = some r:=h
 clear h
 by_cases c3 : a0 = 0
 ·rw [if_pos c3] at H
  have c3b0 :(a0 == 0) = true:=beq_iff_eq.mpr c3
  have c3b1 :(a0 != 0) = false:=bne_eq_false_iff_eq.mpr c3
  clear c3
  obtain rfl:=Option.some.inj H
  go_enter Try.func51,Try.ntmps51
  go_wp2
  repeat(go_quiet (fail);try go_wp2)
  go_ret
  exact⟨_,by first | rfl |(simp [errW_none,errW_some] <;> rfl) |(simp [*,errW_none,errW_some] <;> rfl),by first | exact Kd.R_nil _ _ _ _ _ | exact Kd.N_nil _ _ _ _ _ | exact Kd.V_nil _ _ _ _ _ | exact Kd.Q_nil _ _ _ _ _ | exact Kd.S_nil _ _ _ _ _,by repeat(first |(with_reducible first | exact HB.out | apply bwA | apply bwN | apply bw1) | exact HB.out)⟩
 rw [if_neg c3] at H
 have c3b0 :(a0 == 0) = false:=beq_eq_false_iff_ne.mpr c3
 have c3b1 :(a0 != 0) = true:=bne_iff_ne.mpr c3
 replace H:=Option.bind_eq_some_iff.mp H
 obtain ⟨t518,A40,H⟩:=H
 replace H :(if(Int.tmod (wrap64 (Int.tdiv a1 a0)) 2) = 0 then(if 0 ≤(wrap64 ((wrap64 (a0 - 1)) - (Int.tmod a1 a0))) then(if(wrap64 ((wrap64 (a0 - 1)) - (Int.tmod a1 a0))) ≤(t518.length : Int) then((some (t518.take ((wrap64 ((wrap64 (a0 - 1)) - (Int.tmod a1 a0))) : Int).toNat : List Int)).bind fun y521=>(if([] : List Int).length + y521.length < 17592186044416 then((some (([] : List Int) ++ y521 : List Int)).bind fun y525=>(if y525.length < 17592186044416 then((some (y525 ++ [a0] : List Int)).bind fun y528=>((some (t518.drop ((wrap64 ((wrap64 (a0 - 1)) - (Int.tmod a1 a0))) : Int).toNat : List Int)).bind fun y531=>(if y528.length + y531.length < 17592186044416 then(some (y528 ++ y531)) else(none)))) else(none))) else(none))) else(none)) else(none)) else(if 0 ≤(Int.tmod a1 a0) then(if(Int.tmod a1 a0) ≤(t518.length : Int) then((some (t518.take ((Int.tmod a1 a0) : Int).toNat : List Int)).bind fun y538=>(if([] : List Int).length + y538.length < 17592186044416 then((some (([] : List Int) ++ y538 : List Int)).bind fun y542=>(if y542.length < 17592186044416 then((some (y542 ++ [a0] : List Int)).bind fun y545=>((some (t518.drop ((Int.tmod a1 a0) : Int).toNat : List Int)).bind fun y548=>(if y545.length + y548.length < 17592186044416 then(some (y545 ++ y548)) else(none)))) else(none))) else(none))) else(none)) else(none))) = some r:=H
 have A4:=Aside0.mk A40
 clear A40
 by_cases c5 :(Int.tmod (wrap64 (Int.tdiv a1 a0)) 2) = 0
 rotate_left
 ·rw [if_neg c5] at H
  have c5b0 :((Int.tmod (wrap64 (Int.tdiv a1 a0)) 2) == 0) = false:=beq_eq_false_iff_ne.mpr c5
  have c5b1 :((Int.tmod (wrap64 (Int.tdiv a1 a0)) 2) != 0) = true:=bne_iff_ne.mpr c5
  obtain ⟨ji21,hji21⟩ : ∃ j_ : Int,(Int.tmod a1 a0) = j_:=⟨_,rfl⟩
  replace H :(if 0 ≤(ji21) then(if(ji21) ≤(t518.length : Int) then((some (t518.take ((ji21) : Int).toNat : List Int)).bind fun y538=>(if([] : List Int).length + y538.length < 17592186044416 then((some (([] : List Int) ++ y538 : List Int)).bind fun y542=>(if y542.length < 17592186044416 then((some (y542 ++ [a0] : List Int)).bind fun y545=>((some (t518.drop ((ji21) : Int).toNat : List Int)).bind fun y548=>(if y545.length + y548.length < 17592186044416 then(some (y545 ++ y548)) else(none)))) else(none))) else(none))) else(none)) else(none)) = some r:=by first |(rw [hji21] at H;exact H) |(simp only [hji21] at H ⊢;exact H)
  (try rw [hji21] at A4)
  by_cases c22 : 0 ≤(ji21)
  rotate_left
  ·rw [if_neg c22] at H
   exact absurd H (by simp)
  rw [if_pos c22] at H
  have c22b0:=eq_true c22
  have c22b1 : decide (0 ≤(ji21)) = true:=decide_eq_true c22
  clear c22
  by_cases c23 :(ji21) ≤(t518.length : Int)
  rotate_left
  ·rw [if_neg c23] at H
   exact absurd H (by simp)
  rw [if_pos c23] at H
  have c23b0:=eq_true c23
  have c23b1 : decide ((ji21) ≤(t518.length : Int)) = true:=decide_eq_true c23
  clear c23
  obtain ⟨y538,hy538⟩ : ∃ y_ : List Int,y_ =(t518.take ((ji21) : Int).toNat):=⟨_,rfl⟩
  replace H :(if([] : List Int).length + y538.length < 17592186044416 then((some (([] : List Int) ++ y538 : List Int)).bind fun y542=>(if y542.length < 17592186044416 then((some (y542 ++ [a0] : List Int)).bind fun y545=>((some (t518.drop ((ji21) : Int).toNat : List Int)).bind fun y548=>(if y545.length + y548.length < 17592186044416 then(some (y545 ++ y548)) else(none)))) else(none))) else(none)) = some r:=by first |(rw [hy538];with_reducible exact H) |(have H2_:=(Option.bind_some _ _).symm.trans H;rw [hy538];with_reducible exact H2_) |(have H2_:=(Option.bind_some _ _).symm.trans H;with_reducible exact H2_) | with_reducible exact H |(rw [hy538];exact H) | exact H
  have Ny538:=Aside0.mk hy538
  clear hy538
  by_cases c24 :([] : List Int).length + y538.length < 17592186044416
  rotate_left
  ·rw [if_neg c24] at H
   exact absurd H (by simp)
  rw [if_pos c24] at H
  have LMc24:=Aside0.mk c24
  clear c24
  obtain ⟨y542,hy542⟩ : ∃ y_ : List Int,y_ =(([] : List Int) ++ y538):=⟨_,rfl⟩
  replace H :(if y542.length < 17592186044416 then((some (y542 ++ [a0] : List Int)).bind fun y545=>((some (t518.drop ((ji21) : Int).toNat : List Int)).bind fun y548=>(if y545.length + y548.length < 17592186044416 then(some (y545 ++ y548)) else(none)))) else(none)) = some r:=by first |(rw [hy542];with_reducible exact H) |(have H2_:=(Option.bind_some _ _).symm.trans H;rw [hy542];with_reducible exact H2_) |(have H2_:=(Option.bind_some _ _).symm.trans H;with_reducible exact H2_) | with_reducible exact H |(rw [hy542];exact H) | exact H
  have Ny542:=Aside0.mk hy542
  clear hy542
  by_cases c25 : y542.length < 17592186044416
  rotate_left
  ·rw [if_neg c25] at H
   exact absurd H (by simp)
  rw [if_pos c25] at H
  have LMc25:=Aside0.mk c25
  clear c25
  obtain ⟨y545,hy545⟩ : ∃ y_ : List Int,y_ =(y542 ++ [a0]):=⟨_,rfl⟩
  replace H :((some (t518.drop ((ji21) : Int).toNat : List Int)).bind fun y548=>(if y545.length + y548.length < 17592186044416 then(some (y545 ++ y548)) else(none))) = some r:=by first |(rw [hy545];with_reducible exact H) |(have H2_:=(Option.bind_some _ _).symm.trans H;rw [hy545];with_reducible exact H2_) |(have H2_:=(Option.bind_some _ _).symm.trans H;with_reducible exact H2_) | with_reducible exact H |(rw [hy545];exact H) | exact H
  have Ny545:=Aside0.mk hy545
  clear hy545
  have c26b0:=eq_true (of_decide_eq_true (by first |(with_reducible assumption) | assumption) : 0 ≤(ji21))
  have c27b0:=eq_true (of_decide_eq_true (by first |(with_reducible assumption) | assumption) :(ji21) ≤(t518.length : Int))
  obtain ⟨y548,hy548⟩ : ∃ y_ : List Int,y_ =(t518.drop ((ji21) : Int).toNat):=⟨_,rfl⟩
  replace H :(if y545.length + y548.length < 17592186044416 then(some (y545 ++ y548)) else(none)) = some r:=by first |(rw [hy548];with_reducible exact H) |(have H2_:=(Option.bind_some _ _).symm.trans H;rw [hy548];with_reducible exact H2_) |(have H2_:=(Option.bind_some _ _).symm.trans H;with_reducible exact H2_) | with_reducible exact H |(rw [hy548];exact H) | exact H
  have Ny548:=Aside0.mk hy548
  clear hy548
  by_cases c28 : y545.length + y548.length < 17592186044416
  rotate_left
  ·rw [if_neg c28] at H
   exact absurd H (by simp)
  rw [if_pos c28] at H
  have LMc28:=Aside0.mk c28
  clear c28
  obtain ⟨y552,hy552⟩ : ∃ y_ : List Int,y_ =(y545 ++ y548):=⟨_,rfl⟩
  replace H :(some y552) = some r:=by first |(rw [hy552];with_reducible exact H) |(have H2_:=(Option.bind_some _ _).symm.trans H;rw [hy552];with_reducible exact H2_) |(have H2_:=(Option.bind_some _ _).symm.trans H;with_reducible exact H2_) | with_reducible exact H |(rw [hy552];exact H) | exact H
  have Ny552:=Aside0.mk hy552
  clear hy552
  obtain rfl:=Option.some.inj H
  go_enter Try.func51,Try.ntmps51
  go_wp2_with (first |(go_at_call 51;(with_reducible refine(ih k (by omega) (wrap64 (a0 - 1)) (wrap64 (Int.tdiv a1 a0)) t518 _ A4.out).mono ?_);rintro e w29 ⟨v519,rfl,ho0,hb⟩;have n0_:=Aside0.mk (Kd.R_lower ho0 (bwZ (by repeat(first |(with_reducible first | exact HB.out | apply bwA | apply bwN | apply bw1) | exact HB.out))));have n1_:=Aside0.mk (bwT (by repeat(first |(with_reducible first | exact HB.out | apply bwA | apply bwN | apply bw1) | exact HB.out)) hb);clear HB;have HO520:=n0_;have HB:=n1_;clear n0_ n1_;(try clear hb);(try clear hb2);(try clear hk);(try clear hi);(try clear ho0);obtain ⟨Ao31,co31,eo31⟩:=Kd.R_slice HO520.out;subst eo31;have q30 :((ji21) : Int) ≤((t518.length : Int) : Int):=of_decide_eq_true (by first |(with_reducible assumption) | assumption);obtain ⟨i030,hi030,_,hsz30,_⟩:=info_parts info3;have hroom30 : t518.length≤co31:=(Kd.R_reads' HO520.out).2.1;have hC30 : Kd.C (Kd.int .i64) _ Ao31 t518.length t518:=(Kd.R_reads' HO520.out).2.2;have hcut30:=cut_to (P:=Try.prog) 22 3 .i64 Try.underlying22 hi030 Ao31 t518.length co31 (ji21) (of_decide_eq_true (by first |(with_reducible assumption) | assumption)) q30 hroom30;have hr30:=Kd.C_take (m:=((ji21) : Int).toNat) hC30 (by omega);have hy30 : y538.length =((ji21) : Int).toNat:=(by rw [Ny538.out,List.length_take];omega);rw [← Ny538.out] at hr30;rw [← hy30] at hcut30;have HR541:=Aside0.mk hr30;have HC541:=Aside0.mk (show y538.length≤co31 from by omega);clear hr30 hC30 hroom30 hi030 hsz30;have KY30:=Aside0.mk hy30;clear hy30;have KL30:=Aside0.mk (show((ji21) : Int).toNat≤t518.length from by omega);replace q30:=eq_true q30) |((with_reducible refine gate_builtin (b:=.append) (xs:=#[.tmp 28,.tmp 31]) rfl ?_);at_builtin;refine Kd.R_append_rows (Kd.int .i64) (w0:=w) w.heap.size rfl (.tmp 28) (.tmp 31) 22 3 (.int .i64 0) 8 rfl Try.underlying22 info3 rfl (by decide) (by omega) (.slice none 0 0) ([] : List Int) y538 _ _ _ (fun k_=>some k_ ≠(.slice Ao31 t518.length co31 : Value).ownBlock) (fun _=>False) rfl rfl ?aO ?aR (fun _ _ h=>h) (fun _ h=>h.elim) ?aF ?aB ?aS ?aL ?_;(case aR=>repeat(first | exact(by repeat(first |(with_reducible exact HR541.out) |(with_reducible refine Kd.C_alloc ?_ _) |(with_reducible refine Kd.C_drewN ?_ _) |(with_reducible refine Kd.C_drew ?_) | exact HR541.out)) |(with_reducible refine Kd.C_alloc ?_ _) |(with_reducible refine Kd.C_drewN ?_ _) |(with_reducible refine Kd.C_drew ?_)));(case aB=>exact(by repeat(first |(with_reducible first | exact HB.out | apply bwA | apply bwN | apply bw1) | exact HB.out)));(case aF=>exact(fun k_ hk=>Kd.fresh' (Kd.R_lt (by(with_reducible repeat(first | apply Kd.R_alloc | apply Kd.R_drewN | apply Kd.R_drew));exact HO520.out)) k_ hk));(case aO=>exact((Kd.R_nil _ _ _ _ (fun k_=>some k_ ≠(.slice Ao31 t518.length co31 : Value).ownBlock))));(case aS=>exact(bwZ (by repeat(first |(with_reducible first | exact HB.out | apply bwA | apply bwN | apply bw1) | exact HB.out))));(case aL=>have:=LMc24.out;omega);intro v543 w32 ho hb hg hat;rw [← Ny542.out] at ho;have n0_:=Aside0.mk (Kd.R_after (Kd.R_apart_nil (by(with_reducible repeat(first | apply Kd.R_alloc | apply Kd.R_drewN | apply Kd.R_drew));exact HO520.out)) hg hat);have n1_:=Aside0.mk (hb);have n2_:=Aside0.mk ((show Kd.C (Kd.int .i64) w32 Ao31 y538.length y538 from by rw [Ny538.out];exact Kd.C_take (m:=((ji21) : Int).toNat) ((Kd.R_reads' (Kd.R_after (Kd.R_apart_nil (by(with_reducible repeat(first | apply Kd.R_alloc | apply Kd.R_drewN | apply Kd.R_drew));exact HO520.out)) hg hat)).2.2) KL30.out));have n3_:=Aside0.mk (ho);clear HO520;clear HB;clear HR541;have HO520:=n0_;have HB:=n1_;have HR541:=n2_;have HO544:=n3_;clear n0_ n1_ n2_ n3_;clear ho hb hg hat) |((with_reducible refine gate_builtin (b:=.append) (xs:=#[.tmp 33,.tmp 35]) rfl ?_);at_builtin;refine Kd.R_append (Kd.int .i64) (w0:=w) w.heap.size rfl (.tmp 33) (.tmp 35) 22 3 (.int .i64 0) 8 rfl Try.underlying22 info3 rfl (by decide) (by omega) v543 y542 a0 [.int .i64 a0] (fun k_=>some k_ ≠(.slice Ao31 t518.length co31 : Value).ownBlock) (fun _=>False) rfl rfl ?aP (fun _ hk=>hk.elim) ?aF ?aO ?aB ?aS ?aL ?_;(case aP=>exact rfl);(case aB=>exact(by repeat(first |(with_reducible first | exact HB.out | apply bwA | apply bwN | apply bw1) | exact HB.out)));(case aF=>exact(fun k_ hk=>Kd.fresh' (Kd.R_lt (by(with_reducible repeat(first | apply Kd.R_alloc | apply Kd.R_drewN | apply Kd.R_drew));exact HO520.out)) k_ hk));(case aO=>exact(by(with_reducible repeat(first | apply Kd.R_alloc | apply Kd.R_drewN | apply Kd.R_drew));exact HO544.out));(case aS=>exact(bwZ (by repeat(first |(with_reducible first | exact HB.out | apply bwA | apply bwN | apply bw1) | exact HB.out))));(case aL=>have:=LMc25.out;omega);intro v546 w33 ho hb hg hat;rw [← Ny545.out] at ho;have n0_:=Aside0.mk (Kd.R_after (ok:=(fun _=>True)) (by(with_reducible repeat(first | apply Kd.R_alloc | apply Kd.R_drewN | apply Kd.R_drew));exact HO520.out) hg hat);have n1_:=Aside0.mk (hb);have n2_:=Aside0.mk ((show Kd.C (Kd.int .i64) w33 Ao31 y538.length y538 from by rw [Ny538.out];exact Kd.C_take (m:=((ji21) : Int).toNat) ((Kd.R_reads' (Kd.R_after (ok:=(fun _=>True)) (by(with_reducible repeat(first | apply Kd.R_alloc | apply Kd.R_drewN | apply Kd.R_drew));exact HO520.out) hg hat)).2.2) KL30.out));have n3_:=Aside0.mk (ho);clear HO520;clear HB;clear HR541;clear HO544;have HO520:=n0_;have HB:=n1_;have HR541:=n2_;have HO547:=n3_;clear n0_ n1_ n2_ n3_;clear ho hb hg hat;have q34 :((ji21) : Int) ≤((t518.length : Int) : Int):=of_decide_eq_true (by first |(with_reducible assumption) | assumption);obtain ⟨i034,hi034,_,hsz34,_⟩:=info_parts info3;have hroom34 : t518.length≤co31:=(Kd.R_reads' HO520.out).2.1;have hC34 : Kd.C (Kd.int .i64) _ Ao31 t518.length t518:=(Kd.R_reads' HO520.out).2.2;have q034 :(0 : Int) ≤((ji21) : Int):=of_decide_eq_true (by first |(with_reducible assumption) | assumption);have hcut34:=cut_from (P:=Try.prog) 22 3 .i64 Try.underlying22 hi034 1 hsz34 Ao31 t518.length co31 (ji21) q034 q34;have hr34:=Kd.C_drop (m:=((ji21) : Int).toNat) (c:=co31) hC34 (by omega) hroom34;obtain ⟨A34,hA34⟩ : ∃ A1,A1 =(if co31 =((ji21) : Int).toNat then Ao31 else(Ao31 : Option Addr).map (·.add (((ji21) : Int).toNat * 1))):=⟨_,rfl⟩;obtain ⟨c34,hc34⟩ : ∃ c1,c1 = co31 - ((ji21) : Int).toNat:=⟨_,rfl⟩;have hy34 : y548.length = t518.length - ((ji21) : Int).toNat:=(by rw [Ny548.out,List.length_drop] <;> omega);rw [show(t518).drop ((ji21) : Int).toNat = y548 from Ny548.out.symm] at hr34;replace hr34 : Kd.C (Kd.int .i64) _ A34 y548.length y548:=(by rw [hA34];exact hr34);rw [← hy34,← hA34,← hc34] at hcut34;have HR551:=Aside0.mk hr34;have HC551:=Aside0.mk (show y548.length≤c34 from by rw [hy34,hc34];exact Nat.sub_le_sub_right hroom34 _);clear hr34 hC34 hroom34 hi034 hsz34 hc34;have KY34:=Aside0.mk hy34;have KA34:=Aside0.mk hA34;clear hy34 hA34;have KL34:=Aside0.mk (show((ji21) : Int).toNat≤t518.length from by omega);replace q34:=eq_true q34) |((with_reducible refine gate_builtin (b:=.append) (xs:=#[.tmp 37,.tmp 40]) rfl ?_);at_builtin;refine Kd.R_append_rows (Kd.int .i64) (w0:=w) w.heap.size rfl (.tmp 37) (.tmp 40) 22 3 (.int .i64 0) 8 rfl Try.underlying22 info3 rfl (by decide) (by omega) v546 y545 y548 _ _ _ (fun k_=>some k_ ≠(.slice Ao31 t518.length co31 : Value).ownBlock) (fun _=>False) rfl rfl ?aO ?aR (fun _ _ h=>h) (fun _ h=>h.elim) ?aF ?aB ?aS ?aL ?_;(case aR=>repeat(first | exact(by repeat(first |(with_reducible exact HR551.out) |(with_reducible refine Kd.C_alloc ?_ _) |(with_reducible refine Kd.C_drewN ?_ _) |(with_reducible refine Kd.C_drew ?_) | exact HR551.out)) |(with_reducible refine Kd.C_alloc ?_ _) |(with_reducible refine Kd.C_drewN ?_ _) |(with_reducible refine Kd.C_drew ?_)));(case aB=>exact(by repeat(first |(with_reducible first | exact HB.out | apply bwA | apply bwN | apply bw1) | exact HB.out)));(case aF=>exact(fun k_ hk=>Kd.fresh' (Kd.R_lt (by(with_reducible repeat(first | apply Kd.R_alloc | apply Kd.R_drewN | apply Kd.R_drew));exact HO520.out)) k_ hk));(case aO=>exact(by(with_reducible repeat(first | apply Kd.R_alloc | apply Kd.R_drewN | apply Kd.R_drew));exact HO547.out));(case aS=>exact(bwZ (by repeat(first |(with_reducible first | exact HB.out | apply bwA | apply bwN | apply bw1) | exact HB.out))));(case aL=>have:=LMc28.out;omega);intro v553 w35 ho hb hg hat;rw [← Ny552.out] at ho;have n0_:=Aside0.mk (Kd.R_after (ok:=(fun _=>True)) (by(with_reducible repeat(first | apply Kd.R_alloc | apply Kd.R_drewN | apply Kd.R_drew));exact HO520.out) hg hat);have n1_:=Aside0.mk (hb);have n2_:=Aside0.mk ((show Kd.C (Kd.int .i64) w35 Ao31 y538.length y538 from by rw [Ny538.out];exact Kd.C_take (m:=((ji21) : Int).toNat) ((Kd.R_reads' (Kd.R_after (ok:=(fun _=>True)) (by(with_reducible repeat(first | apply Kd.R_alloc | apply Kd.R_drewN | apply Kd.R_drew));exact HO520.out) hg hat)).2.2) KL30.out));have n3_:=Aside0.mk ((show Kd.C (Kd.int .i64) w35 A34 y548.length y548 from by rw [Ny548.out,KA34.out];exact Kd.C_drop (m:=((ji21) : Int).toNat) (c:=co31) ((Kd.R_reads' (Kd.R_after (ok:=(fun _=>True)) (by(with_reducible repeat(first | apply Kd.R_alloc | apply Kd.R_drewN | apply Kd.R_drew));exact HO520.out) hg hat)).2.2) KL34.out ((Kd.R_reads' (Kd.R_after (ok:=(fun _=>True)) (by(with_reducible repeat(first | apply Kd.R_alloc | apply Kd.R_drewN | apply Kd.R_drew));exact HO520.out) hg hat)).2.1)));have n4_:=Aside0.mk (ho);clear HO520;clear HB;clear HR541;clear HR551;clear HO547;have HO520:=n0_;have HB:=n1_;have HR541:=n2_;have HR551:=n3_;have HO554:=n4_;clear n0_ n1_ n2_ n3_ n4_;clear ho hb hg hat))
  repeat(go_quiet (first |(go_at_call 51;(with_reducible refine(ih k (by omega) (wrap64 (a0 - 1)) (wrap64 (Int.tdiv a1 a0)) t518 _ A4.out).mono ?_);rintro e w29 ⟨v519,rfl,ho0,hb⟩;have n0_:=Aside0.mk (Kd.R_lower ho0 (bwZ (by repeat(first |(with_reducible first | exact HB.out | apply bwA | apply bwN | apply bw1) | exact HB.out))));have n1_:=Aside0.mk (bwT (by repeat(first |(with_reducible first | exact HB.out | apply bwA | apply bwN | apply bw1) | exact HB.out)) hb);clear HB;have HO520:=n0_;have HB:=n1_;clear n0_ n1_;(try clear hb);(try clear hb2);(try clear hk);(try clear hi);(try clear ho0);obtain ⟨Ao31,co31,eo31⟩:=Kd.R_slice HO520.out;subst eo31;have q30 :((ji21) : Int) ≤((t518.length : Int) : Int):=of_decide_eq_true (by first |(with_reducible assumption) | assumption);obtain ⟨i030,hi030,_,hsz30,_⟩:=info_parts info3;have hroom30 : t518.length≤co31:=(Kd.R_reads' HO520.out).2.1;have hC30 : Kd.C (Kd.int .i64) _ Ao31 t518.length t518:=(Kd.R_reads' HO520.out).2.2;have hcut30:=cut_to (P:=Try.prog) 22 3 .i64 Try.underlying22 hi030 Ao31 t518.length co31 (ji21) (of_decide_eq_true (by first |(with_reducible assumption) | assumption)) q30 hroom30;have hr30:=Kd.C_take (m:=((ji21) : Int).toNat) hC30 (by omega);have hy30 : y538.length =((ji21) : Int).toNat:=(by rw [Ny538.out,List.length_take];omega);rw [← Ny538.out] at hr30;rw [← hy30] at hcut30;have HR541:=Aside0.mk hr30;have HC541:=Aside0.mk (show y538.length≤co31 from by omega);clear hr30 hC30 hroom30 hi030 hsz30;have KY30:=Aside0.mk hy30;clear hy30;have KL30:=Aside0.mk (show((ji21) : Int).toNat≤t518.length from by omega);replace q30:=eq_true q30) |((with_reducible refine gate_builtin (b:=.append) (xs:=#[.tmp 28,.tmp 31]) rfl ?_);at_builtin;refine Kd.R_append_rows (Kd.int .i64) (w0:=w) w.heap.size rfl (.tmp 28) (.tmp 31) 22 3 (.int .i64 0) 8 rfl Try.underlying22 info3 rfl (by decide) (by omega) (.slice none 0 0) ([] : List Int) y538 _ _ _ (fun k_=>some k_ ≠(.slice Ao31 t518.length co31 : Value).ownBlock) (fun _=>False) rfl rfl ?aO ?aR (fun _ _ h=>h) (fun _ h=>h.elim) ?aF ?aB ?aS ?aL ?_;(case aR=>repeat(first | exact(by repeat(first |(with_reducible exact HR541.out) |(with_reducible refine Kd.C_alloc ?_ _) |(with_reducible refine Kd.C_drewN ?_ _) |(with_reducible refine Kd.C_drew ?_) | exact HR541.out)) |(with_reducible refine Kd.C_alloc ?_ _) |(with_reducible refine Kd.C_drewN ?_ _) |(with_reducible refine Kd.C_drew ?_)));(case aB=>exact(by repeat(first |(with_reducible first | exact HB.out | apply bwA | apply bwN | apply bw1) | exact HB.out)));(case aF=>exact(fun k_ hk=>Kd.fresh' (Kd.R_lt (by(with_reducible repeat(first | apply Kd.R_alloc | apply Kd.R_drewN | apply Kd.R_drew));exact HO520.out)) k_ hk));(case aO=>exact((Kd.R_nil _ _ _ _ (fun k_=>some k_ ≠(.slice Ao31 t518.length co31 : Value).ownBlock))));(case aS=>exact(bwZ (by repeat(first |(with_reducible first | exact HB.out | apply bwA | apply bwN | apply bw1) | exact HB.out))));(case aL=>have:=LMc24.out;omega);intro v543 w32 ho hb hg hat;rw [← Ny542.out] at ho;have n0_:=Aside0.mk (Kd.R_after (Kd.R_apart_nil (by(with_reducible repeat(first | apply Kd.R_alloc | apply Kd.R_drewN | apply Kd.R_drew));exact HO520.out)) hg hat);have n1_:=Aside0.mk (hb);have n2_:=Aside0.mk ((show Kd.C (Kd.int .i64) w32 Ao31 y538.length y538 from by rw [Ny538.out];exact Kd.C_take (m:=((ji21) : Int).toNat) ((Kd.R_reads' (Kd.R_after (Kd.R_apart_nil (by(with_reducible repeat(first | apply Kd.R_alloc | apply Kd.R_drewN | apply Kd.R_drew));exact HO520.out)) hg hat)).2.2) KL30.out));have n3_:=Aside0.mk (ho);clear HO520;clear HB;clear HR541;have HO520:=n0_;have HB:=n1_;have HR541:=n2_;have HO544:=n3_;clear n0_ n1_ n2_ n3_;clear ho hb hg hat) |((with_reducible refine gate_builtin (b:=.append) (xs:=#[.tmp 33,.tmp 35]) rfl ?_);at_builtin;refine Kd.R_append (Kd.int .i64) (w0:=w) w.heap.size rfl (.tmp 33) (.tmp 35) 22 3 (.int .i64 0) 8 rfl Try.underlying22 info3 rfl (by decide) (by omega) v543 y542 a0 [.int .i64 a0] (fun k_=>some k_ ≠(.slice Ao31 t518.length co31 : Value).ownBlock) (fun _=>False) rfl rfl ?aP (fun _ hk=>hk.elim) ?aF ?aO ?aB ?aS ?aL ?_;(case aP=>exact rfl);(case aB=>exact(by repeat(first |(with_reducible first | exact HB.out | apply bwA | apply bwN | apply bw1) | exact HB.out)));(case aF=>exact(fun k_ hk=>Kd.fresh' (Kd.R_lt (by(with_reducible repeat(first | apply Kd.R_alloc | apply Kd.R_drewN | apply Kd.R_drew));exact HO520.out)) k_ hk));(case aO=>exact(by(with_reducible repeat(first | apply Kd.R_alloc | apply Kd.R_drewN | apply Kd.R_drew));exact HO544.out));(case aS=>exact(bwZ (by repeat(first |(with_reducible first | exact HB.out | apply bwA | apply bwN | apply bw1) | exact HB.out))));(case aL=>have:=LMc25.out;omega);intro v546 w33 ho hb hg hat;rw [← Ny545.out] at ho;have n0_:=Aside0.mk (Kd.R_after (ok:=(fun _=>True)) (by(with_reducible repeat(first | apply Kd.R_alloc | apply Kd.R_drewN | apply Kd.R_drew));exact HO520.out) hg hat);have n1_:=Aside0.mk (hb);have n2_:=Aside0.mk ((show Kd.C (Kd.int .i64) w33 Ao31 y538.length y538 from by rw [Ny538.out];exact Kd.C_take (m:=((ji21) : Int).toNat) ((Kd.R_reads' (Kd.R_after (ok:=(fun _=>True)) (by(with_reducible repeat(first | apply Kd.R_alloc | apply Kd.R_drewN | apply Kd.R_drew));exact HO520.out) hg hat)).2.2) KL30.out));have n3_:=Aside0.mk (ho);clear HO520;clear HB;clear HR541;clear HO544;have HO520:=n0_;have HB:=n1_;have HR541:=n2_;have HO547:=n3_;clear n0_ n1_ n2_ n3_;clear ho hb hg hat;have q34 :((ji21) : Int) ≤((t518.length : Int) : Int):=of_decide_eq_true (by first |(with_reducible assumption) | assumption);obtain ⟨i034,hi034,_,hsz34,_⟩:=info_parts info3;have hroom34 : t518.length≤co31:=(Kd.R_reads' HO520.out).2.1;have hC34 : Kd.C (Kd.int .i64) _ Ao31 t518.length t518:=(Kd.R_reads' HO520.out).2.2;have q034 :(0 : Int) ≤((ji21) : Int):=of_decide_eq_true (by first |(with_reducible assumption) | assumption);have hcut34:=cut_from (P:=Try.prog) 22 3 .i64 Try.underlying22 hi034 1 hsz34 Ao31 t518.length co31 (ji21) q034 q34;have hr34:=Kd.C_drop (m:=((ji21) : Int).toNat) (c:=co31) hC34 (by omega) hroom34;obtain ⟨A34,hA34⟩ : ∃ A1,A1 =(if co31 =((ji21) : Int).toNat then Ao31 else(Ao31 : Option Addr).map (·.add (((ji21) : Int).toNat * 1))):=⟨_,rfl⟩;obtain ⟨c34,hc34⟩ : ∃ c1,c1 = co31 - ((ji21) : Int).toNat:=⟨_,rfl⟩;have hy34 : y548.length = t518.length - ((ji21) : Int).toNat:=(by rw [Ny548.out,List.length_drop] <;> omega);rw [show(t518).drop ((ji21) : Int).toNat = y548 from Ny548.out.symm] at hr34;replace hr34 : Kd.C (Kd.int .i64) _ A34 y548.length y548:=(by rw [hA34];exact hr34);rw [← hy34,← hA34,← hc34] at hcut34;have HR551:=Aside0.mk hr34;have HC551:=Aside0.mk (show y548.length≤c34 from by rw [hy34,hc34];exact Nat.sub_le_sub_right hroom34 _);clear hr34 hC34 hroom34 hi034 hsz34 hc34;have KY34:=Aside0.mk hy34;have KA34:=Aside0.mk hA34;clear hy34 hA34;have KL34:=Aside0.mk (show((ji21) : Int).toNat≤t518.length from by omega);replace q34:=eq_true q34) |((with_reducible refine gate_builtin (b:=.append) (xs:=#[.tmp 37,.tmp 40]) rfl ?_);at_builtin;refine Kd.R_append_rows (Kd.int .i64) (w0:=w) w.heap.size rfl (.tmp 37) (.tmp 40) 22 3 (.int .i64 0) 8 rfl Try.underlying22 info3 rfl (by decide) (by omega) v546 y545 y548 _ _ _ (fun k_=>some k_ ≠(.slice Ao31 t518.length co31 : Value).ownBlock) (fun _=>False) rfl rfl ?aO ?aR (fun _ _ h=>h) (fun _ h=>h.elim) ?aF ?aB ?aS ?aL ?_;(case aR=>repeat(first | exact(by repeat(first |(with_reducible exact HR551.out) |(with_reducible refine Kd.C_alloc ?_ _) |(with_reducible refine Kd.C_drewN ?_ _) |(with_reducible refine Kd.C_drew ?_) | exact HR551.out)) |(with_reducible refine Kd.C_alloc ?_ _) |(with_reducible refine Kd.C_drewN ?_ _) |(with_reducible refine Kd.C_drew ?_)));(case aB=>exact(by repeat(first |(with_reducible first | exact HB.out | apply bwA | apply bwN | apply bw1) | exact HB.out)));(case aF=>exact(fun k_ hk=>Kd.fresh' (Kd.R_lt (by(with_reducible repeat(first | apply Kd.R_alloc | apply Kd.R_drewN | apply Kd.R_drew));exact HO520.out)) k_ hk));(case aO=>exact(by(with_reducible repeat(first | apply Kd.R_alloc | apply Kd.R_drewN | apply Kd.R_drew));exact HO547.out));(case aS=>exact(bwZ (by repeat(first |(with_reducible first | exact HB.out | apply bwA | apply bwN | apply bw1) | exact HB.out))));(case aL=>have:=LMc28.out;omega);intro v553 w35 ho hb hg hat;rw [← Ny552.out] at ho;have n0_:=Aside0.mk (Kd.R_after (ok:=(fun _=>True)) (by(with_reducible repeat(first | apply Kd.R_alloc | apply Kd.R_drewN | apply Kd.R_drew));exact HO520.out) hg hat);have n1_:=Aside0.mk (hb);have n2_:=Aside0.mk ((show Kd.C (Kd.int .i64) w35 Ao31 y538.length y538 from by rw [Ny538.out];exact Kd.C_take (m:=((ji21) : Int).toNat) ((Kd.R_reads' (Kd.R_after (ok:=(fun _=>True)) (by(with_reducible repeat(first | apply Kd.R_alloc | apply Kd.R_drewN | apply Kd.R_drew));exact HO520.out) hg hat)).2.2) KL30.out));have n3_:=Aside0.mk ((show Kd.C (Kd.int .i64) w35 A34 y548.length y548 from by rw [Ny548.out,KA34.out];exact Kd.C_drop (m:=((ji21) : Int).toNat) (c:=co31) ((Kd.R_reads' (Kd.R_after (ok:=(fun _=>True)) (by(with_reducible repeat(first | apply Kd.R_alloc | apply Kd.R_drewN | apply Kd.R_drew));exact HO520.out) hg hat)).2.2) KL34.out ((Kd.R_reads' (Kd.R_after (ok:=(fun _=>True)) (by(with_reducible repeat(first | apply Kd.R_alloc | apply Kd.R_drewN | apply Kd.R_drew));exact HO520.out) hg hat)).2.1)));have n4_:=Aside0.mk (ho);clear HO520;clear HB;clear HR541;clear HR551;clear HO547;have HO520:=n0_;have HB:=n1_;have HR541:=n2_;have HR551:=n3_;have HO554:=n4_;clear n0_ n1_ n2_ n3_ n4_;clear ho hb hg hat));try go_wp2_with (first |(go_at_call 51;(with_reducible refine(ih k (by omega) (wrap64 (a0 - 1)) (wrap64 (Int.tdiv a1 a0)) t518 _ A4.out).mono ?_);rintro e w29 ⟨v519,rfl,ho0,hb⟩;have n0_:=Aside0.mk (Kd.R_lower ho0 (bwZ (by repeat(first |(with_reducible first | exact HB.out | apply bwA | apply bwN | apply bw1) | exact HB.out))));have n1_:=Aside0.mk (bwT (by repeat(first |(with_reducible first | exact HB.out | apply bwA | apply bwN | apply bw1) | exact HB.out)) hb);clear HB;have HO520:=n0_;have HB:=n1_;clear n0_ n1_;(try clear hb);(try clear hb2);(try clear hk);(try clear hi);(try clear ho0);obtain ⟨Ao31,co31,eo31⟩:=Kd.R_slice HO520.out;subst eo31;have q30 :((ji21) : Int) ≤((t518.length : Int) : Int):=of_decide_eq_true (by first |(with_reducible assumption) | assumption);obtain ⟨i030,hi030,_,hsz30,_⟩:=info_parts info3;have hroom30 : t518.length≤co31:=(Kd.R_reads' HO520.out).2.1;have hC30 : Kd.C (Kd.int .i64) _ Ao31 t518.length t518:=(Kd.R_reads' HO520.out).2.2;have hcut30:=cut_to (P:=Try.prog) 22 3 .i64 Try.underlying22 hi030 Ao31 t518.length co31 (ji21) (of_decide_eq_true (by first |(with_reducible assumption) | assumption)) q30 hroom30;have hr30:=Kd.C_take (m:=((ji21) : Int).toNat) hC30 (by omega);have hy30 : y538.length =((ji21) : Int).toNat:=(by rw [Ny538.out,List.length_take];omega);rw [← Ny538.out] at hr30;rw [← hy30] at hcut30;have HR541:=Aside0.mk hr30;have HC541:=Aside0.mk (show y538.length≤co31 from by omega);clear hr30 hC30 hroom30 hi030 hsz30;have KY30:=Aside0.mk hy30;clear hy30;have KL30:=Aside0.mk (show((ji21) : Int).toNat≤t518.length from by omega);replace q30:=eq_true q30) |((with_reducible refine gate_builtin (b:=.append) (xs:=#[.tmp 28,.tmp 31]) rfl ?_);at_builtin;refine Kd.R_append_rows (Kd.int .i64) (w0:=w) w.heap.size rfl (.tmp 28) (.tmp 31) 22 3 (.int .i64 0) 8 rfl Try.underlying22 info3 rfl (by decide) (by omega) (.slice none 0 0) ([] : List Int) y538 _ _ _ (fun k_=>some k_ ≠(.slice Ao31 t518.length co31 : Value).ownBlock) (fun _=>False) rfl rfl ?aO ?aR (fun _ _ h=>h) (fun _ h=>h.elim) ?aF ?aB ?aS ?aL ?_;(case aR=>repeat(first | exact(by repeat(first |(with_reducible exact HR541.out) |(with_reducible refine Kd.C_alloc ?_ _) |(with_reducible refine Kd.C_drewN ?_ _) |(with_reducible refine Kd.C_drew ?_) | exact HR541.out)) |(with_reducible refine Kd.C_alloc ?_ _) |(with_reducible refine Kd.C_drewN ?_ _) |(with_reducible refine Kd.C_drew ?_)));(case aB=>exact(by repeat(first |(with_reducible first | exact HB.out | apply bwA | apply bwN | apply bw1) | exact HB.out)));(case aF=>exact(fun k_ hk=>Kd.fresh' (Kd.R_lt (by(with_reducible repeat(first | apply Kd.R_alloc | apply Kd.R_drewN | apply Kd.R_drew));exact HO520.out)) k_ hk));(case aO=>exact((Kd.R_nil _ _ _ _ (fun k_=>some k_ ≠(.slice Ao31 t518.length co31 : Value).ownBlock))));(case aS=>exact(bwZ (by repeat(first |(with_reducible first | exact HB.out | apply bwA | apply bwN | apply bw1) | exact HB.out))));(case aL=>have:=LMc24.out;omega);intro v543 w32 ho hb hg hat;rw [← Ny542.out] at ho;have n0_:=Aside0.mk (Kd.R_after (Kd.R_apart_nil (by(with_reducible repeat(first | apply Kd.R_alloc | apply Kd.R_drewN | apply Kd.R_drew));exact HO520.out)) hg hat);have n1_:=Aside0.mk (hb);have n2_:=Aside0.mk ((show Kd.C (Kd.int .i64) w32 Ao31 y538.length y538 from by rw [Ny538.out];exact Kd.C_take (m:=((ji21) : Int).toNat) ((Kd.R_reads' (Kd.R_after (Kd.R_apart_nil (by(with_reducible repeat(first | apply Kd.R_alloc | apply Kd.R_drewN | apply Kd.R_drew));exact HO520.out)) hg hat)).2.2) KL30.out));have n3_:=Aside0.mk (ho);clear HO520;clear HB;clear HR541;have HO520:=n0_;have HB:=n1_;have HR541:=n2_;have HO544:=n3_;clear n0_ n1_ n2_ n3_;clear ho hb hg hat) |((with_reducible refine gate_builtin (b:=.append) (xs:=#[.tmp 33,.tmp 35]) rfl ?_);at_builtin;refine Kd.R_append (Kd.int .i64) (w0:=w) w.heap.size rfl (.tmp 33) (.tmp 35) 22 3 (.int .i64 0) 8 rfl Try.underlying22 info3 rfl (by decide) (by omega) v543 y542 a0 [.int .i64 a0] (fun k_=>some k_ ≠(.slice Ao31 t518.length co31 : Value).ownBlock) (fun _=>False) rfl rfl ?aP (fun _ hk=>hk.elim) ?aF ?aO ?aB ?aS ?aL ?_;(case aP=>exact rfl);(case aB=>exact(by repeat(first |(with_reducible first | exact HB.out | apply bwA | apply bwN | apply bw1) | exact HB.out)));(case aF=>exact(fun k_ hk=>Kd.fresh' (Kd.R_lt (by(with_reducible repeat(first | apply Kd.R_alloc | apply Kd.R_drewN | apply Kd.R_drew));exact HO520.out)) k_ hk));(case aO=>exact(by(with_reducible repeat(first | apply Kd.R_alloc | apply Kd.R_drewN | apply Kd.R_drew));exact HO544.out));(case aS=>exact(bwZ (by repeat(first |(with_reducible first | exact HB.out | apply bwA | apply bwN | apply bw1) | exact HB.out))));(case aL=>have:=LMc25.out;omega);intro v546 w33 ho hb hg hat;rw [← Ny545.out] at ho;have n0_:=Aside0.mk (Kd.R_after (ok:=(fun _=>True)) (by(with_reducible repeat(first | apply Kd.R_alloc | apply Kd.R_drewN | apply Kd.R_drew));exact HO520.out) hg hat);have n1_:=Aside0.mk (hb);have n2_:=Aside0.mk ((show Kd.C (Kd.int .i64) w33 Ao31 y538.length y538 from by rw [Ny538.out];exact Kd.C_take (m:=((ji21) : Int).toNat) ((Kd.R_reads' (Kd.R_after (ok:=(fun _=>True)) (by(with_reducible repeat(first | apply Kd.R_alloc | apply Kd.R_drewN | apply Kd.R_drew));exact HO520.out) hg hat)).2.2) KL30.out));have n3_:=Aside0.mk (ho);clear HO520;clear HB;clear HR541;clear HO544;have HO520:=n0_;have HB:=n1_;have HR541:=n2_;have HO547:=n3_;clear n0_ n1_ n2_ n3_;clear ho hb hg hat;have q34 :((ji21) : Int) ≤((t518.length : Int) : Int):=of_decide_eq_true (by first |(with_reducible assumption) | assumption);obtain ⟨i034,hi034,_,hsz34,_⟩:=info_parts info3;have hroom34 : t518.length≤co31:=(Kd.R_reads' HO520.out).2.1;have hC34 : Kd.C (Kd.int .i64) _ Ao31 t518.length t518:=(Kd.R_reads' HO520.out).2.2;have q034 :(0 : Int) ≤((ji21) : Int):=of_decide_eq_true (by first |(with_reducible assumption) | assumption);have hcut34:=cut_from (P:=Try.prog) 22 3 .i64 Try.underlying22 hi034 1 hsz34 Ao31 t518.length co31 (ji21) q034 q34;have hr34:=Kd.C_drop (m:=((ji21) : Int).toNat) (c:=co31) hC34 (by omega) hroom34;obtain ⟨A34,hA34⟩ : ∃ A1,A1 =(if co31 =((ji21) : Int).toNat then Ao31 else(Ao31 : Option Addr).map (·.add (((ji21) : Int).toNat * 1))):=⟨_,rfl⟩;obtain ⟨c34,hc34⟩ : ∃ c1,c1 = co31 - ((ji21) : Int).toNat:=⟨_,rfl⟩;have hy34 : y548.length = t518.length - ((ji21) : Int).toNat:=(by rw [Ny548.out,List.length_drop] <;> omega);rw [show(t518).drop ((ji21) : Int).toNat = y548 from Ny548.out.symm] at hr34;replace hr34 : Kd.C (Kd.int .i64) _ A34 y548.length y548:=(by rw [hA34];exact hr34);rw [← hy34,← hA34,← hc34] at hcut34;have HR551:=Aside0.mk hr34;have HC551:=Aside0.mk (show y548.length≤c34 from by rw [hy34,hc34];exact Nat.sub_le_sub_right hroom34 _);clear hr34 hC34 hroom34 hi034 hsz34 hc34;have KY34:=Aside0.mk hy34;have KA34:=Aside0.mk hA34;clear hy34 hA34;have KL34:=Aside0.mk (show((ji21) : Int).toNat≤t518.length from by omega);replace q34:=eq_true q34) |((with_reducible refine gate_builtin (b:=.append) (xs:=#[.tmp 37,.tmp 40]) rfl ?_);at_builtin;refine Kd.R_append_rows (Kd.int .i64) (w0:=w) w.heap.size rfl (.tmp 37) (.tmp 40) 22 3 (.int .i64 0) 8 rfl Try.underlying22 info3 rfl (by decide) (by omega) v546 y545 y548 _ _ _ (fun k_=>some k_ ≠(.slice Ao31 t518.length co31 : Value).ownBlock) (fun _=>False) rfl rfl ?aO ?aR (fun _ _ h=>h) (fun _ h=>h.elim) ?aF ?aB ?aS ?aL ?_;(case aR=>repeat(first | exact(by repeat(first |(with_reducible exact HR551.out) |(with_reducible refine Kd.C_alloc ?_ _) |(with_reducible refine Kd.C_drewN ?_ _) |(with_reducible refine Kd.C_drew ?_) | exact HR551.out)) |(with_reducible refine Kd.C_alloc ?_ _) |(with_reducible refine Kd.C_drewN ?_ _) |(with_reducible refine Kd.C_drew ?_)));(case aB=>exact(by repeat(first |(with_reducible first | exact HB.out | apply bwA | apply bwN | apply bw1) | exact HB.out)));(case aF=>exact(fun k_ hk=>Kd.fresh' (Kd.R_lt (by(with_reducible repeat(first | apply Kd.R_alloc | apply Kd.R_drewN | apply Kd.R_drew));exact HO520.out)) k_ hk));(case aO=>exact(by(with_reducible repeat(first | apply Kd.R_alloc | apply Kd.R_drewN | apply Kd.R_drew));exact HO547.out));(case aS=>exact(bwZ (by repeat(first |(with_reducible first | exact HB.out | apply bwA | apply bwN | apply bw1) | exact HB.out))));(case aL=>have:=LMc28.out;omega);intro v553 w35 ho hb hg hat;rw [← Ny552.out] at ho;have n0_:=Aside0.mk (Kd.R_after (ok:=(fun _=>True)) (by(with_reducible repeat(first | apply Kd.R_alloc | apply Kd.R_drewN | apply Kd.R_drew));exact HO520.out) hg hat);have n1_:=Aside0.mk (hb);have n2_:=Aside0.mk ((show Kd.C (Kd.int .i64) w35 Ao31 y538.length y538 from by rw [Ny538.out];exact Kd.C_take (m:=((ji21) : Int).toNat) ((Kd.R_reads' (Kd.R_after (ok:=(fun _=>True)) (by(with_reducible repeat(first | apply Kd.R_alloc | apply Kd.R_drewN | apply Kd.R_drew));exact HO520.out) hg hat)).2.2) KL30.out));have n3_:=Aside0.mk ((show Kd.C (Kd.int .i64) w35 A34 y548.length y548 from by rw [Ny548.out,KA34.out];exact Kd.C_drop (m:=((ji21) : Int).toNat) (c:=co31) ((Kd.R_reads' (Kd.R_after (ok:=(fun _=>True)) (by(with_reducible repeat(first | apply Kd.R_alloc | apply Kd.R_drewN | apply Kd.R_drew));exact HO520.out) hg hat)).2.2) KL34.out ((Kd.R_reads' (Kd.R_after (ok:=(fun _=>True)) (by(with_reducible repeat(first | apply Kd.R_alloc | apply Kd.R_drewN | apply Kd.R_drew));exact HO520.out) hg hat)).2.1)));have n4_:=Aside0.mk (ho);clear HO520;clear HB;clear HR541;clear HR551;clear HO547;have HO520:=n0_;have HB:=n1_;have HR541:=n2_;have HR551:=n3_;have HO554:=n4_;clear n0_ n1_ n2_ n3_ n4_;clear ho hb hg hat)))
  go_ret
  exact⟨_,by first | rfl |(simp [errW_none,errW_some] <;> rfl) |(simp only [← hji21];first | rfl |(simp [errW_none,errW_some] <;> rfl)) |(simp [*,errW_none,errW_some] <;> rfl),by(with_reducible repeat(first | apply Kd.R_alloc | apply Kd.R_drewN | apply Kd.R_drew));exact Kd.R_mono HO554.out (fun _ hk=>trivial),by repeat(first |(with_reducible first | exact HB.out | apply bwA | apply bwN | apply bw1) | exact HB.out)⟩
 rw [if_pos c5] at H
 have c5b0 :((Int.tmod (wrap64 (Int.tdiv a1 a0)) 2) == 0) = true:=beq_iff_eq.mpr c5
 have c5b1 :((Int.tmod (wrap64 (Int.tdiv a1 a0)) 2) != 0) = false:=bne_eq_false_iff_eq.mpr c5
 clear c5
 obtain ⟨ji6,hji6⟩ : ∃ j_ : Int,(wrap64 ((wrap64 (a0 - 1)) - (Int.tmod a1 a0))) = j_:=⟨_,rfl⟩
 replace H :(if 0 ≤(ji6) then(if(ji6) ≤(t518.length : Int) then((some (t518.take ((ji6) : Int).toNat : List Int)).bind fun y521=>(if([] : List Int).length + y521.length < 17592186044416 then((some (([] : List Int) ++ y521 : List Int)).bind fun y525=>(if y525.length < 17592186044416 then((some (y525 ++ [a0] : List Int)).bind fun y528=>((some (t518.drop ((ji6) : Int).toNat : List Int)).bind fun y531=>(if y528.length + y531.length < 17592186044416 then(some (y528 ++ y531)) else(none)))) else(none))) else(none))) else(none)) else(none)) = some r:=by first |(rw [hji6] at H;exact H) |(simp only [hji6] at H ⊢;exact H)
 (try rw [hji6] at A4)
 have hji6w :(IntKind.i64.wrap ((wrap64 (a0 - 1)) - (Int.tmod a1 a0))) = ji6:=(i64_w _).trans hji6
 by_cases c7 : 0 ≤(ji6)
 rotate_left
 ·rw [if_neg c7] at H
  exact absurd H (by simp)
 rw [if_pos c7] at H
 have c7b0:=eq_true c7
 have c7b1 : decide (0 ≤(ji6)) = true:=decide_eq_true c7
 clear c7
 by_cases c8 :(ji6) ≤(t518.length : Int)
 rotate_left
 ·rw [if_neg c8] at H
  exact absurd H (by simp)
 rw [if_pos c8] at H
 have c8b0:=eq_true c8
 have c8b1 : decide ((ji6) ≤(t518.length : Int)) = true:=decide_eq_true c8
 clear c8
 obtain ⟨y521,hy521⟩ : ∃ y_ : List Int,y_ =(t518.take ((ji6) : Int).toNat):=⟨_,rfl⟩
 replace H :(if([] : List Int).length + y521.length < 17592186044416 then((some (([] : List Int) ++ y521 : List Int)).bind fun y525=>(if y525.length < 17592186044416 then((some (y525 ++ [a0] : List Int)).bind fun y528=>((some (t518.drop ((ji6) : Int).toNat : List Int)).bind fun y531=>(if y528.length + y531.length < 17592186044416 then(some (y528 ++ y531)) else(none)))) else(none))) else(none)) = some r:=by first |(rw [hy521];with_reducible exact H) |(have H2_:=(Option.bind_some _ _).symm.trans H;rw [hy521];with_reducible exact H2_) |(have H2_:=(Option.bind_some _ _).symm.trans H;with_reducible exact H2_) | with_reducible exact H |(rw [hy521];exact H) | exact H
 have Ny521:=Aside0.mk hy521
 clear hy521
 by_cases c9 :([] : List Int).length + y521.length < 17592186044416
 rotate_left
 ·rw [if_neg c9] at H
  exact absurd H (by simp)
 rw [if_pos c9] at H
 have LMc9:=Aside0.mk c9
 clear c9
 obtain ⟨y525,hy525⟩ : ∃ y_ : List Int,y_ =(([] : List Int) ++ y521):=⟨_,rfl⟩
 replace H :(if y525.length < 17592186044416 then((some (y525 ++ [a0] : List Int)).bind fun y528=>((some (t518.drop ((ji6) : Int).toNat : List Int)).bind fun y531=>(if y528.length + y531.length < 17592186044416 then(some (y528 ++ y531)) else(none)))) else(none)) = some r:=by first |(rw [hy525];with_reducible exact H) |(have H2_:=(Option.bind_some _ _).symm.trans H;rw [hy525];with_reducible exact H2_) |(have H2_:=(Option.bind_some _ _).symm.trans H;with_reducible exact H2_) | with_reducible exact H |(rw [hy525];exact H) | exact H
 have Ny525:=Aside0.mk hy525
 clear hy525
 by_cases c10 : y525.length < 17592186044416
 rotate_left
 ·rw [if_neg c10] at H
  exact absurd H (by simp)
 rw [if_pos c10] at H
 have LMc10:=Aside0.mk c10
 clear c10
 obtain ⟨y528,hy528⟩ : ∃ y_ : List Int,y_ =(y525 ++ [a0]):=⟨_,rfl⟩
 replace H :((some (t518.drop ((ji6) : Int).toNat : List Int)).bind fun y531=>(if y528.length + y531.length < 17592186044416 then(some (y528 ++ y531)) else(none))) = some r:=by first |(rw [hy528];with_reducible exact H) |(have H2_:=(Option.bind_some _ _).symm.trans H;rw [hy528];with_reducible exact H2_) |(have H2_:=(Option.bind_some _ _).symm.trans H;with_reducible exact H2_) | with_reducible exact H |(rw [hy528];exact H) | exact H
 have Ny528:=Aside0.mk hy528
 clear hy528
 have c11b0:=eq_true (of_decide_eq_true (by first |(with_reducible assumption) | assumption) : 0 ≤(ji6))
 have c12b0:=eq_true (of_decide_eq_true (by first |(with_reducible assumption) | assumption) :(ji6) ≤(t518.length : Int))
 obtain ⟨y531,hy531⟩ : ∃ y_ : List Int,y_ =(t518.drop ((ji6) : Int).toNat):=⟨_,rfl⟩
 replace H :(if y528.length + y531.length < 17592186044416 then(some (y528 ++ y531)) else(none)) = some r:=by first |(rw [hy531];with_reducible exact H) |(have H2_:=(Option.bind_some _ _).symm.trans H;rw [hy531];with_reducible exact H2_) |(have H2_:=(Option.bind_some _ _).symm.trans H;with_reducible exact H2_) | with_reducible exact H |(rw [hy531];exact H) | exact H
 have Ny531:=Aside0.mk hy531
 clear hy531
 by_cases c13 : y528.length + y531.length < 17592186044416
 rotate_left
 ·rw [if_neg c13] at H
  exact absurd H (by simp)
 rw [if_pos c13] at H
 have LMc13:=Aside0.mk c13
 clear c13
 obtain ⟨y535,hy535⟩ : ∃ y_ : List Int,y_ =(y528 ++ y531):=⟨_,rfl⟩
 replace H :(some y535) = some r:=by first |(rw [hy535];with_reducible exact H) |(have H2_:=(Option.bind_some _ _).symm.trans H;rw [hy535];with_reducible exact H2_) |(have H2_:=(Option.bind_some _ _).symm.trans H;with_reducible exact H2_) | with_reducible exact H |(rw [hy535];exact H) | exact H
 have Ny535:=Aside0.mk hy535
 clear hy535
 obtain rfl:=Option.some.inj H
 go_enter Try.func51,Try.ntmps51
 go_wp2_with (first |(go_at_call 51;(with_reducible refine(ih k (by omega) (wrap64 (a0 - 1)) (wrap64 (Int.tdiv a1 a0)) t518 _ A4.out).mono ?_);rintro e w14 ⟨v519,rfl,ho0,hb⟩;have n0_:=Aside0.mk (Kd.R_lower ho0 (bwZ (by repeat(first |(with_reducible first | exact HB.out | apply bwA | apply bwN | apply bw1) | exact HB.out))));have n1_:=Aside0.mk (bwT (by repeat(first |(with_reducible first | exact HB.out | apply bwA | apply bwN | apply bw1) | exact HB.out)) hb);clear HB;have HO520:=n0_;have HB:=n1_;clear n0_ n1_;(try clear hb);(try clear hb2);(try clear hk);(try clear hi);(try clear ho0);obtain ⟨Ao16,co16,eo16⟩:=Kd.R_slice HO520.out;subst eo16;have q15 :((ji6) : Int) ≤((t518.length : Int) : Int):=of_decide_eq_true (by first |(with_reducible assumption) | assumption);obtain ⟨i015,hi015,_,hsz15,_⟩:=info_parts info3;have hroom15 : t518.length≤co16:=(Kd.R_reads' HO520.out).2.1;have hC15 : Kd.C (Kd.int .i64) _ Ao16 t518.length t518:=(Kd.R_reads' HO520.out).2.2;have hcut15:=cut_to (P:=Try.prog) 22 3 .i64 Try.underlying22 hi015 Ao16 t518.length co16 (ji6) (of_decide_eq_true (by first |(with_reducible assumption) | assumption)) q15 hroom15;have hr15:=Kd.C_take (m:=((ji6) : Int).toNat) hC15 (by omega);have hy15 : y521.length =((ji6) : Int).toNat:=(by rw [Ny521.out,List.length_take];omega);rw [← Ny521.out] at hr15;rw [← hy15] at hcut15;have HR524:=Aside0.mk hr15;have HC524:=Aside0.mk (show y521.length≤co16 from by omega);clear hr15 hC15 hroom15 hi015 hsz15;have KY15:=Aside0.mk hy15;clear hy15;have KL15:=Aside0.mk (show((ji6) : Int).toNat≤t518.length from by omega);replace q15:=eq_true q15) |((with_reducible refine gate_builtin (b:=.append) (xs:=#[.tmp 28,.tmp 31]) rfl ?_);at_builtin;refine Kd.R_append_rows (Kd.int .i64) (w0:=w) w.heap.size rfl (.tmp 28) (.tmp 31) 22 3 (.int .i64 0) 8 rfl Try.underlying22 info3 rfl (by decide) (by omega) (.slice none 0 0) ([] : List Int) y521 _ _ _ (fun k_=>some k_ ≠(.slice Ao16 t518.length co16 : Value).ownBlock) (fun _=>False) rfl rfl ?aO ?aR (fun _ _ h=>h) (fun _ h=>h.elim) ?aF ?aB ?aS ?aL ?_;(case aR=>repeat(first | exact(by repeat(first |(with_reducible exact HR524.out) |(with_reducible refine Kd.C_alloc ?_ _) |(with_reducible refine Kd.C_drewN ?_ _) |(with_reducible refine Kd.C_drew ?_) | exact HR524.out)) |(with_reducible refine Kd.C_alloc ?_ _) |(with_reducible refine Kd.C_drewN ?_ _) |(with_reducible refine Kd.C_drew ?_)));(case aB=>exact(by repeat(first |(with_reducible first | exact HB.out | apply bwA | apply bwN | apply bw1) | exact HB.out)));(case aF=>exact(fun k_ hk=>Kd.fresh' (Kd.R_lt (by(with_reducible repeat(first | apply Kd.R_alloc | apply Kd.R_drewN | apply Kd.R_drew));exact HO520.out)) k_ hk));(case aO=>exact((Kd.R_nil _ _ _ _ (fun k_=>some k_ ≠(.slice Ao16 t518.length co16 : Value).ownBlock))));(case aS=>exact(bwZ (by repeat(first |(with_reducible first | exact HB.out | apply bwA | apply bwN | apply bw1) | exact HB.out))));(case aL=>have:=LMc9.out;omega);intro v526 w17 ho hb hg hat;rw [← Ny525.out] at ho;have n0_:=Aside0.mk (Kd.R_after (Kd.R_apart_nil (by(with_reducible repeat(first | apply Kd.R_alloc | apply Kd.R_drewN | apply Kd.R_drew));exact HO520.out)) hg hat);have n1_:=Aside0.mk (hb);have n2_:=Aside0.mk ((show Kd.C (Kd.int .i64) w17 Ao16 y521.length y521 from by rw [Ny521.out];exact Kd.C_take (m:=((ji6) : Int).toNat) ((Kd.R_reads' (Kd.R_after (Kd.R_apart_nil (by(with_reducible repeat(first | apply Kd.R_alloc | apply Kd.R_drewN | apply Kd.R_drew));exact HO520.out)) hg hat)).2.2) KL15.out));have n3_:=Aside0.mk (ho);clear HO520;clear HB;clear HR524;have HO520:=n0_;have HB:=n1_;have HR524:=n2_;have HO527:=n3_;clear n0_ n1_ n2_ n3_;clear ho hb hg hat) |((with_reducible refine gate_builtin (b:=.append) (xs:=#[.tmp 33,.tmp 35]) rfl ?_);at_builtin;refine Kd.R_append (Kd.int .i64) (w0:=w) w.heap.size rfl (.tmp 33) (.tmp 35) 22 3 (.int .i64 0) 8 rfl Try.underlying22 info3 rfl (by decide) (by omega) v526 y525 a0 [.int .i64 a0] (fun k_=>some k_ ≠(.slice Ao16 t518.length co16 : Value).ownBlock) (fun _=>False) rfl rfl ?aP (fun _ hk=>hk.elim) ?aF ?aO ?aB ?aS ?aL ?_;(case aP=>exact rfl);(case aB=>exact(by repeat(first |(with_reducible first | exact HB.out | apply bwA | apply bwN | apply bw1) | exact HB.out)));(case aF=>exact(fun k_ hk=>Kd.fresh' (Kd.R_lt (by(with_reducible repeat(first | apply Kd.R_alloc | apply Kd.R_drewN | apply Kd.R_drew));exact HO520.out)) k_ hk));(case aO=>exact(by(with_reducible repeat(first | apply Kd.R_alloc | apply Kd.R_drewN | apply Kd.R_drew));exact HO527.out));(case aS=>exact(bwZ (by repeat(first |(with_reducible first | exact HB.out | apply bwA | apply bwN | apply bw1) | exact HB.out))));(case aL=>have:=LMc10.out;omega);intro v529 w18 ho hb hg hat;rw [← Ny528.out] at ho;have n0_:=Aside0.mk (Kd.R_after (ok:=(fun _=>True)) (by(with_reducible repeat(first | apply Kd.R_alloc | apply Kd.R_drewN | apply Kd.R_drew));exact HO520.out) hg hat);have n1_:=Aside0.mk (hb);have n2_:=Aside0.mk ((show Kd.C (Kd.int .i64) w18 Ao16 y521.length y521 from by rw [Ny521.out];exact Kd.C_take (m:=((ji6) : Int).toNat) ((Kd.R_reads' (Kd.R_after (ok:=(fun _=>True)) (by(with_reducible repeat(first | apply Kd.R_alloc | apply Kd.R_drewN | apply Kd.R_drew));exact HO520.out) hg hat)).2.2) KL15.out));have n3_:=Aside0.mk (ho);clear HO520;clear HB;clear HR524;clear HO527;have HO520:=n0_;have HB:=n1_;have HR524:=n2_;have HO530:=n3_;clear n0_ n1_ n2_ n3_;clear ho hb hg hat;have q19 :((ji6) : Int) ≤((t518.length : Int) : Int):=of_decide_eq_true (by first |(with_reducible assumption) | assumption);obtain ⟨i019,hi019,_,hsz19,_⟩:=info_parts info3;have hroom19 : t518.length≤co16:=(Kd.R_reads' HO520.out).2.1;have hC19 : Kd.C (Kd.int .i64) _ Ao16 t518.length t518:=(Kd.R_reads' HO520.out).2.2;have q019 :(0 : Int) ≤((ji6) : Int):=of_decide_eq_true (by first |(with_reducible assumption) | assumption);have hcut19:=cut_from (P:=Try.prog) 22 3 .i64 Try.underlying22 hi019 1 hsz19 Ao16 t518.length co16 (ji6) q019 q19;have hr19:=Kd.C_drop (m:=((ji6) : Int).toNat) (c:=co16) hC19 (by omega) hroom19;obtain ⟨A19,hA19⟩ : ∃ A1,A1 =(if co16 =((ji6) : Int).toNat then Ao16 else(Ao16 : Option Addr).map (·.add (((ji6) : Int).toNat * 1))):=⟨_,rfl⟩;obtain ⟨c19,hc19⟩ : ∃ c1,c1 = co16 - ((ji6) : Int).toNat:=⟨_,rfl⟩;have hy19 : y531.length = t518.length - ((ji6) : Int).toNat:=(by rw [Ny531.out,List.length_drop] <;> omega);rw [show(t518).drop ((ji6) : Int).toNat = y531 from Ny531.out.symm] at hr19;replace hr19 : Kd.C (Kd.int .i64) _ A19 y531.length y531:=(by rw [hA19];exact hr19);rw [← hy19,← hA19,← hc19] at hcut19;have HR534:=Aside0.mk hr19;have HC534:=Aside0.mk (show y531.length≤c19 from by rw [hy19,hc19];exact Nat.sub_le_sub_right hroom19 _);clear hr19 hC19 hroom19 hi019 hsz19 hc19;have KY19:=Aside0.mk hy19;have KA19:=Aside0.mk hA19;clear hy19 hA19;have KL19:=Aside0.mk (show((ji6) : Int).toNat≤t518.length from by omega);replace q19:=eq_true q19) |((with_reducible refine gate_builtin (b:=.append) (xs:=#[.tmp 37,.tmp 40]) rfl ?_);at_builtin;refine Kd.R_append_rows (Kd.int .i64) (w0:=w) w.heap.size rfl (.tmp 37) (.tmp 40) 22 3 (.int .i64 0) 8 rfl Try.underlying22 info3 rfl (by decide) (by omega) v529 y528 y531 _ _ _ (fun k_=>some k_ ≠(.slice Ao16 t518.length co16 : Value).ownBlock) (fun _=>False) rfl rfl ?aO ?aR (fun _ _ h=>h) (fun _ h=>h.elim) ?aF ?aB ?aS ?aL ?_;(case aR=>repeat(first | exact(by repeat(first |(with_reducible exact HR534.out) |(with_reducible refine Kd.C_alloc ?_ _) |(with_reducible refine Kd.C_drewN ?_ _) |(with_reducible refine Kd.C_drew ?_) | exact HR534.out)) |(with_reducible refine Kd.C_alloc ?_ _) |(with_reducible refine Kd.C_drewN ?_ _) |(with_reducible refine Kd.C_drew ?_)));(case aB=>exact(by repeat(first |(with_reducible first | exact HB.out | apply bwA | apply bwN | apply bw1) | exact HB.out)));(case aF=>exact(fun k_ hk=>Kd.fresh' (Kd.R_lt (by(with_reducible repeat(first | apply Kd.R_alloc | apply Kd.R_drewN | apply Kd.R_drew));exact HO520.out)) k_ hk));(case aO=>exact(by(with_reducible repeat(first | apply Kd.R_alloc | apply Kd.R_drewN | apply Kd.R_drew));exact HO530.out));(case aS=>exact(bwZ (by repeat(first |(with_reducible first | exact HB.out | apply bwA | apply bwN | apply bw1) | exact HB.out))));(case aL=>have:=LMc13.out;omega);intro v536 w20 ho hb hg hat;rw [← Ny535.out] at ho;have n0_:=Aside0.mk (Kd.R_after (ok:=(fun _=>True)) (by(with_reducible repeat(first | apply Kd.R_alloc | apply Kd.R_drewN | apply Kd.R_drew));exact HO520.out) hg hat);have n1_:=Aside0.mk (hb);have n2_:=Aside0.mk ((show Kd.C (Kd.int .i64) w20 Ao16 y521.length y521 from by rw [Ny521.out];exact Kd.C_take (m:=((ji6) : Int).toNat) ((Kd.R_reads' (Kd.R_after (ok:=(fun _=>True)) (by(with_reducible repeat(first | apply Kd.R_alloc | apply Kd.R_drewN | apply Kd.R_drew));exact HO520.out) hg hat)).2.2) KL15.out));have n3_:=Aside0.mk ((show Kd.C (Kd.int .i64) w20 A19 y531.length y531 from by rw [Ny531.out,KA19.out];exact Kd.C_drop (m:=((ji6) : Int).toNat) (c:=co16) ((Kd.R_reads' (Kd.R_after (ok:=(fun _=>True)) (by(with_reducible repeat(first | apply Kd.R_alloc | apply Kd.R_drewN | apply Kd.R_drew));exact HO520.out) hg hat)).2.2) KL19.out ((Kd.R_reads' (Kd.R_after (ok:=(fun _=>True)) (by(with_reducible repeat(first | apply Kd.R_alloc | apply Kd.R_drewN | apply Kd.R_drew));exact HO520.out) hg hat)).2.1)));have n4_:=Aside0.mk (ho);clear HO520;clear HB;clear HR524;clear HR534;clear HO530;have HO520:=n0_;have HB:=n1_;have HR524:=n2_;have HR534:=n3_;have HO537:=n4_;clear n0_ n1_ n2_ n3_ n4_;clear ho hb hg hat))
 repeat(go_quiet (first |(go_at_call 51;(with_reducible refine(ih k (by omega) (wrap64 (a0 - 1)) (wrap64 (Int.tdiv a1 a0)) t518 _ A4.out).mono ?_);rintro e w14 ⟨v519,rfl,ho0,hb⟩;have n0_:=Aside0.mk (Kd.R_lower ho0 (bwZ (by repeat(first |(with_reducible first | exact HB.out | apply bwA | apply bwN | apply bw1) | exact HB.out))));have n1_:=Aside0.mk (bwT (by repeat(first |(with_reducible first | exact HB.out | apply bwA | apply bwN | apply bw1) | exact HB.out)) hb);clear HB;have HO520:=n0_;have HB:=n1_;clear n0_ n1_;(try clear hb);(try clear hb2);(try clear hk);(try clear hi);(try clear ho0);obtain ⟨Ao16,co16,eo16⟩:=Kd.R_slice HO520.out;subst eo16;have q15 :((ji6) : Int) ≤((t518.length : Int) : Int):=of_decide_eq_true (by first |(with_reducible assumption) | assumption);obtain ⟨i015,hi015,_,hsz15,_⟩:=info_parts info3;have hroom15 : t518.length≤co16:=(Kd.R_reads' HO520.out).2.1;have hC15 : Kd.C (Kd.int .i64) _ Ao16 t518.length t518:=(Kd.R_reads' HO520.out).2.2;have hcut15:=cut_to (P:=Try.prog) 22 3 .i64 Try.underlying22 hi015 Ao16 t518.length co16 (ji6) (of_decide_eq_true (by first |(with_reducible assumption) | assumption)) q15 hroom15;have hr15:=Kd.C_take (m:=((ji6) : Int).toNat) hC15 (by omega);have hy15 : y521.length =((ji6) : Int).toNat:=(by rw [Ny521.out,List.length_take];omega);rw [← Ny521.out] at hr15;rw [← hy15] at hcut15;have HR524:=Aside0.mk hr15;have HC524:=Aside0.mk (show y521.length≤co16 from by omega);clear hr15 hC15 hroom15 hi015 hsz15;have KY15:=Aside0.mk hy15;clear hy15;have KL15:=Aside0.mk (show((ji6) : Int).toNat≤t518.length from by omega);replace q15:=eq_true q15) |((with_reducible refine gate_builtin (b:=.append) (xs:=#[.tmp 28,.tmp 31]) rfl ?_);at_builtin;refine Kd.R_append_rows (Kd.int .i64) (w0:=w) w.heap.size rfl (.tmp 28) (.tmp 31) 22 3 (.int .i64 0) 8 rfl Try.underlying22 info3 rfl (by decide) (by omega) (.slice none 0 0) ([] : List Int) y521 _ _ _ (fun k_=>some k_ ≠(.slice Ao16 t518.length co16 : Value).ownBlock) (fun _=>False) rfl rfl ?aO ?aR (fun _ _ h=>h) (fun _ h=>h.elim) ?aF ?aB ?aS ?aL ?_;(case aR=>repeat(first | exact(by repeat(first |(with_reducible exact HR524.out) |(with_reducible refine Kd.C_alloc ?_ _) |(with_reducible refine Kd.C_drewN ?_ _) |(with_reducible refine Kd.C_drew ?_) | exact HR524.out)) |(with_reducible refine Kd.C_alloc ?_ _) |(with_reducible refine Kd.C_drewN ?_ _) |(with_reducible refine Kd.C_drew ?_)));(case aB=>exact(by repeat(first |(with_reducible first | exact HB.out | apply bwA | apply bwN | apply bw1) | exact HB.out)));(case aF=>exact(fun k_ hk=>Kd.fresh' (Kd.R_lt (by(with_reducible repeat(first | apply Kd.R_alloc | apply Kd.R_drewN | apply Kd.R_drew));exact HO520.out)) k_ hk));(case aO=>exact((Kd.R_nil _ _ _ _ (fun k_=>some k_ ≠(.slice Ao16 t518.length co16 : Value).ownBlock))));(case aS=>exact(bwZ (by repeat(first |(with_reducible first | exact HB.out | apply bwA | apply bwN | apply bw1) | exact HB.out))));(case aL=>have:=LMc9.out;omega);intro v526 w17 ho hb hg hat;rw [← Ny525.out] at ho;have n0_:=Aside0.mk (Kd.R_after (Kd.R_apart_nil (by(with_reducible repeat(first | apply Kd.R_alloc | apply Kd.R_drewN | apply Kd.R_drew));exact HO520.out)) hg hat);have n1_:=Aside0.mk (hb);have n2_:=Aside0.mk ((show Kd.C (Kd.int .i64) w17 Ao16 y521.length y521 from by rw [Ny521.out];exact Kd.C_take (m:=((ji6) : Int).toNat) ((Kd.R_reads' (Kd.R_after (Kd.R_apart_nil (by(with_reducible repeat(first | apply Kd.R_alloc | apply Kd.R_drewN | apply Kd.R_drew));exact HO520.out)) hg hat)).2.2) KL15.out));have n3_:=Aside0.mk (ho);clear HO520;clear HB;clear HR524;have HO520:=n0_;have HB:=n1_;have HR524:=n2_;have HO527:=n3_;clear n0_ n1_ n2_ n3_;clear ho hb hg hat) |((with_reducible refine gate_builtin (b:=.append) (xs:=#[.tmp 33,.tmp 35]) rfl ?_);at_builtin;refine Kd.R_append (Kd.int .i64) (w0:=w) w.heap.size rfl (.tmp 33) (.tmp 35) 22 3 (.int .i64 0) 8 rfl Try.underlying22 info3 rfl (by decide) (by omega) v526 y525 a0 [.int .i64 a0] (fun k_=>some k_ ≠(.slice Ao16 t518.length co16 : Value).ownBlock) (fun _=>False) rfl rfl ?aP (fun _ hk=>hk.elim) ?aF ?aO ?aB ?aS ?aL ?_;(case aP=>exact rfl);(case aB=>exact(by repeat(first |(with_reducible first | exact HB.out | apply bwA | apply bwN | apply bw1) | exact HB.out)));(case aF=>exact(fun k_ hk=>Kd.fresh' (Kd.R_lt (by(with_reducible repeat(first | apply Kd.R_alloc | apply Kd.R_drewN | apply Kd.R_drew));exact HO520.out)) k_ hk));(case aO=>exact(by(with_reducible repeat(first | apply Kd.R_alloc | apply Kd.R_drewN | apply Kd.R_drew));exact HO527.out));(case aS=>exact(bwZ (by repeat(first |(with_reducible first | exact HB.out | apply bwA | apply bwN | apply bw1) | exact HB.out))));(case aL=>have:=LMc10.out;omega);intro v529 w18 ho hb hg hat;rw [← Ny528.out] at ho;have n0_:=Aside0.mk (Kd.R_after (ok:=(fun _=>True)) (by(with_reducible repeat(first | apply Kd.R_alloc | apply Kd.R_drewN | apply Kd.R_drew));exact HO520.out) hg hat);have n1_:=Aside0.mk (hb);have n2_:=Aside0.mk ((show Kd.C (Kd.int .i64) w18 Ao16 y521.length y521 from by rw [Ny521.out];exact Kd.C_take (m:=((ji6) : Int).toNat) ((Kd.R_reads' (Kd.R_after (ok:=(fun _=>True)) (by(with_reducible repeat(first | apply Kd.R_alloc | apply Kd.R_drewN | apply Kd.R_drew));exact HO520.out) hg hat)).2.2) KL15.out));have n3_:=Aside0.mk (ho);clear HO520;clear HB;clear HR524;clear HO527;have HO520:=n0_;have HB:=n1_;have HR524:=n2_;have HO530:=n3_;clear n0_ n1_ n2_ n3_;clear ho hb hg hat;have q19 :((ji6) : Int) ≤((t518.length : Int) : Int):=of_decide_eq_true (by first |(with_reducible assumption) | assumption);obtain ⟨i019,hi019,_,hsz19,_⟩:=info_parts info3;have hroom19 : t518.length≤co16:=(Kd.R_reads' HO520.out).2.1;have hC19 : Kd.C (Kd.int .i64) _ Ao16 t518.length t518:=(Kd.R_reads' HO520.out).2.2;have q019 :(0 : Int) ≤((ji6) : Int):=of_decide_eq_true (by first |(with_reducible assumption) | assumption);have hcut19:=cut_from (P:=Try.prog) 22 3 .i64 Try.underlying22 hi019 1 hsz19 Ao16 t518.length co16 (ji6) q019 q19;have hr19:=Kd.C_drop (m:=((ji6) : Int).toNat) (c:=co16) hC19 (by omega) hroom19;obtain ⟨A19,hA19⟩ : ∃ A1,A1 =(if co16 =((ji6) : Int).toNat then Ao16 else(Ao16 : Option Addr).map (·.add (((ji6) : Int).toNat * 1))):=⟨_,rfl⟩;obtain ⟨c19,hc19⟩ : ∃ c1,c1 = co16 - ((ji6) : Int).toNat:=⟨_,rfl⟩;have hy19 : y531.length = t518.length - ((ji6) : Int).toNat:=(by rw [Ny531.out,List.length_drop] <;> omega);rw [show(t518).drop ((ji6) : Int).toNat = y531 from Ny531.out.symm] at hr19;replace hr19 : Kd.C (Kd.int .i64) _ A19 y531.length y531:=(by rw [hA19];exact hr19);rw [← hy19,← hA19,← hc19] at hcut19;have HR534:=Aside0.mk hr19;have HC534:=Aside0.mk (show y531.length≤c19 from by rw [hy19,hc19];exact Nat.sub_le_sub_right hroom19 _);clear hr19 hC19 hroom19 hi019 hsz19 hc19;have KY19:=Aside0.mk hy19;have KA19:=Aside0.mk hA19;clear hy19 hA19;have KL19:=Aside0.mk (show((ji6) : Int).toNat≤t518.length from by omega);replace q19:=eq_true q19) |((with_reducible refine gate_builtin (b:=.append) (xs:=#[.tmp 37,.tmp 40]) rfl ?_);at_builtin;refine Kd.R_append_rows (Kd.int .i64) (w0:=w) w.heap.size rfl (.tmp 37) (.tmp 40) 22 3 (.int .i64 0) 8 rfl Try.underlying22 info3 rfl (by decide) (by omega) v529 y528 y531 _ _ _ (fun k_=>some k_ ≠(.slice Ao16 t518.length co16 : Value).ownBlock) (fun _=>False) rfl rfl ?aO ?aR (fun _ _ h=>h) (fun _ h=>h.elim) ?aF ?aB ?aS ?aL ?_;(case aR=>repeat(first | exact(by repeat(first |(with_reducible exact HR534.out) |(with_reducible refine Kd.C_alloc ?_ _) |(with_reducible refine Kd.C_drewN ?_ _) |(with_reducible refine Kd.C_drew ?_) | exact HR534.out)) |(with_reducible refine Kd.C_alloc ?_ _) |(with_reducible refine Kd.C_drewN ?_ _) |(with_reducible refine Kd.C_drew ?_)));(case aB=>exact(by repeat(first |(with_reducible first | exact HB.out | apply bwA | apply bwN | apply bw1) | exact HB.out)));(case aF=>exact(fun k_ hk=>Kd.fresh' (Kd.R_lt (by(with_reducible repeat(first | apply Kd.R_alloc | apply Kd.R_drewN | apply Kd.R_drew));exact HO520.out)) k_ hk));(case aO=>exact(by(with_reducible repeat(first | apply Kd.R_alloc | apply Kd.R_drewN | apply Kd.R_drew));exact HO530.out));(case aS=>exact(bwZ (by repeat(first |(with_reducible first | exact HB.out | apply bwA | apply bwN | apply bw1) | exact HB.out))));(case aL=>have:=LMc13.out;omega);intro v536 w20 ho hb hg hat;rw [← Ny535.out] at ho;have n0_:=Aside0.mk (Kd.R_after (ok:=(fun _=>True)) (by(with_reducible repeat(first | apply Kd.R_alloc | apply Kd.R_drewN | apply Kd.R_drew));exact HO520.out) hg hat);have n1_:=Aside0.mk (hb);have n2_:=Aside0.mk ((show Kd.C (Kd.int .i64) w20 Ao16 y521.length y521 from by rw [Ny521.out];exact Kd.C_take (m:=((ji6) : Int).toNat) ((Kd.R_reads' (Kd.R_after (ok:=(fun _=>True)) (by(with_reducible repeat(first | apply Kd.R_alloc | apply Kd.R_drewN | apply Kd.R_drew));exact HO520.out) hg hat)).2.2) KL15.out));have n3_:=Aside0.mk ((show Kd.C (Kd.int .i64) w20 A19 y531.length y531 from by rw [Ny531.out,KA19.out];exact Kd.C_drop (m:=((ji6) : Int).toNat) (c:=co16) ((Kd.R_reads' (Kd.R_after (ok:=(fun _=>True)) (by(with_reducible repeat(first | apply Kd.R_alloc | apply Kd.R_drewN | apply Kd.R_drew));exact HO520.out) hg hat)).2.2) KL19.out ((Kd.R_reads' (Kd.R_after (ok:=(fun _=>True)) (by(with_reducible repeat(first | apply Kd.R_alloc | apply Kd.R_drewN | apply Kd.R_drew));exact HO520.out) hg hat)).2.1)));have n4_:=Aside0.mk (ho);clear HO520;clear HB;clear HR524;clear HR534;clear HO530;have HO520:=n0_;have HB:=n1_;have HR524:=n2_;have HR534:=n3_;have HO537:=n4_;clear n0_ n1_ n2_ n3_ n4_;clear ho hb hg hat));try go_wp2_with (first |(go_at_call 51;(with_reducible refine(ih k (by omega) (wrap64 (a0 - 1)) (wrap64 (Int.tdiv a1 a0)) t518 _ A4.out).mono ?_);rintro e w14 ⟨v519,rfl,ho0,hb⟩;have n0_:=Aside0.mk (Kd.R_lower ho0 (bwZ (by repeat(first |(with_reducible first | exact HB.out | apply bwA | apply bwN | apply bw1) | exact HB.out))));have n1_:=Aside0.mk (bwT (by repeat(first |(with_reducible first | exact HB.out | apply bwA | apply bwN | apply bw1) | exact HB.out)) hb);clear HB;have HO520:=n0_;have HB:=n1_;clear n0_ n1_;(try clear hb);(try clear hb2);(try clear hk);(try clear hi);(try clear ho0);obtain ⟨Ao16,co16,eo16⟩:=Kd.R_slice HO520.out;subst eo16;have q15 :((ji6) : Int) ≤((t518.length : Int) : Int):=of_decide_eq_true (by first |(with_reducible assumption) | assumption);obtain ⟨i015,hi015,_,hsz15,_⟩:=info_parts info3;have hroom15 : t518.length≤co16:=(Kd.R_reads' HO520.out).2.1;have hC15 : Kd.C (Kd.int .i64) _ Ao16 t518.length t518:=(Kd.R_reads' HO520.out).2.2;have hcut15:=cut_to (P:=Try.prog) 22 3 .i64 Try.underlying22 hi015 Ao16 t518.length co16 (ji6) (of_decide_eq_true (by first |(with_reducible assumption) | assumption)) q15 hroom15;have hr15:=Kd.C_take (m:=((ji6) : Int).toNat) hC15 (by omega);have hy15 : y521.length =((ji6) : Int).toNat:=(by rw [Ny521.out,List.length_take];omega);rw [← Ny521.out] at hr15;rw [← hy15] at hcut15;have HR524:=Aside0.mk hr15;have HC524:=Aside0.mk (show y521.length≤co16 from by omega);clear hr15 hC15 hroom15 hi015 hsz15;have KY15:=Aside0.mk hy15;clear hy15;have KL15:=Aside0.mk (show((ji6) : Int).toNat≤t518.length from by omega);replace q15:=eq_true q15) |((with_reducible refine gate_builtin (b:=.append) (xs:=#[.tmp 28,.tmp 31]) rfl ?_);at_builtin;refine Kd.R_append_rows (Kd.int .i64) (w0:=w) w.heap.size rfl (.tmp 28) (.tmp 31) 22 3 (.int .i64 0) 8 rfl Try.underlying22 info3 rfl (by decide) (by omega) (.slice none 0 0) ([] : List Int) y521 _ _ _ (fun k_=>some k_ ≠(.slice Ao16 t518.length co16 : Value).ownBlock) (fun _=>False) rfl rfl ?aO ?aR (fun _ _ h=>h) (fun _ h=>h.elim) ?aF ?aB ?aS ?aL ?_;(case aR=>repeat(first | exact(by repeat(first |(with_reducible exact HR524.out) |(with_reducible refine Kd.C_alloc ?_ _) |(with_reducible refine Kd.C_drewN ?_ _) |(with_reducible refine Kd.C_drew ?_) | exact HR524.out)) |(with_reducible refine Kd.C_alloc ?_ _) |(with_reducible refine Kd.C_drewN ?_ _) |(with_reducible refine Kd.C_drew ?_)));(case aB=>exact(by repeat(first |(with_reducible first | exact HB.out | apply bwA | apply bwN | apply bw1) | exact HB.out)));(case aF=>exact(fun k_ hk=>Kd.fresh' (Kd.R_lt (by(with_reducible repeat(first | apply Kd.R_alloc | apply Kd.R_drewN | apply Kd.R_drew));exact HO520.out)) k_ hk));(case aO=>exact((Kd.R_nil _ _ _ _ (fun k_=>some k_ ≠(.slice Ao16 t518.length co16 : Value).ownBlock))));(case aS=>exact(bwZ (by repeat(first |(with_reducible first | exact HB.out | apply bwA | apply bwN | apply bw1) | exact HB.out))));(case aL=>have:=LMc9.out;omega);intro v526 w17 ho hb hg hat;rw [← Ny525.out] at ho;have n0_:=Aside0.mk (Kd.R_after (Kd.R_apart_nil (by(with_reducible repeat(first | apply Kd.R_alloc | apply Kd.R_drewN | apply Kd.R_drew));exact HO520.out)) hg hat);have n1_:=Aside0.mk (hb);have n2_:=Aside0.mk ((show Kd.C (Kd.int .i64) w17 Ao16 y521.length y521 from by rw [Ny521.out];exact Kd.C_take (m:=((ji6) : Int).toNat) ((Kd.R_reads' (Kd.R_after (Kd.R_apart_nil (by(with_reducible repeat(first | apply Kd.R_alloc | apply Kd.R_drewN | apply Kd.R_drew));exact HO520.out)) hg hat)).2.2) KL15.out));have n3_:=Aside0.mk (ho);clear HO520;clear HB;clear HR524;have HO520:=n0_;have HB:=n1_;have HR524:=n2_;have HO527:=n3_;clear n0_ n1_ n2_ n3_;clear ho hb hg hat) |((with_reducible refine gate_builtin (b:=.append) (xs:=#[.tmp 33,.tmp 35]) rfl ?_);at_builtin;refine Kd.R_append (Kd.int .i64) (w0:=w) w.heap.size rfl (.tmp 33) (.tmp 35) 22 3 (.int .i64 0) 8 rfl Try.underlying22 info3 rfl (by decide) (by omega) v526 y525 a0 [.int .i64 a0] (fun k_=>some k_ ≠(.slice Ao16 t518.length co16 : Value).ownBlock) (fun _=>False) rfl rfl ?aP (fun _ hk=>hk.elim) ?aF ?aO ?aB ?aS ?aL ?_;(case aP=>exact rfl);(case aB=>exact(by repeat(first |(with_reducible first | exact HB.out | apply bwA | apply bwN | apply bw1) | exact HB.out)));(case aF=>exact(fun k_ hk=>Kd.fresh' (Kd.R_lt (by(with_reducible repeat(first | apply Kd.R_alloc | apply Kd.R_drewN | apply Kd.R_drew));exact HO520.out)) k_ hk));(case aO=>exact(by(with_reducible repeat(first | apply Kd.R_alloc | apply Kd.R_drewN | apply Kd.R_drew));exact HO527.out));(case aS=>exact(bwZ (by repeat(first |(with_reducible first | exact HB.out | apply bwA | apply bwN | apply bw1) | exact HB.out))));(case aL=>have:=LMc10.out;omega);intro v529 w18 ho hb hg hat;rw [← Ny528.out] at ho;have n0_:=Aside0.mk (Kd.R_after (ok:=(fun _=>True)) (by(with_reducible repeat(first | apply Kd.R_alloc | apply Kd.R_drewN | apply Kd.R_drew));exact HO520.out) hg hat);have n1_:=Aside0.mk (hb);have n2_:=Aside0.mk ((show Kd.C (Kd.int .i64) w18 Ao16 y521.length y521 from by rw [Ny521.out];exact Kd.C_take (m:=((ji6) : Int).toNat) ((Kd.R_reads' (Kd.R_after (ok:=(fun _=>True)) (by(with_reducible repeat(first | apply Kd.R_alloc | apply Kd.R_drewN | apply Kd.R_drew));exact HO520.out) hg hat)).2.2) KL15.out));have n3_:=Aside0.mk (ho);clear HO520;clear HB;clear HR524;clear HO527;have HO520:=n0_;have HB:=n1_;have HR524:=n2_;have HO530:=n3_;clear n0_ n1_ n2_ n3_;clear ho hb hg hat;have q19 :((ji6) : Int) ≤((t518.length : Int) : Int):=of_decide_eq_true (by first |(with_reducible assumption) | assumption);obtain ⟨i019,hi019,_,hsz19,_⟩:=info_parts info3;have hroom19 : t518.length≤co16:=(Kd.R_reads' HO520.out).2.1;have hC19 : Kd.C (Kd.int .i64) _ Ao16 t518.length t518:=(Kd.R_reads' HO520.out).2.2;have q019 :(0 : Int) ≤((ji6) : Int):=of_decide_eq_true (by first |(with_reducible assumption) | assumption);have hcut19:=cut_from (P:=Try.prog) 22 3 .i64 Try.underlying22 hi019 1 hsz19 Ao16 t518.length co16 (ji6) q019 q19;have hr19:=Kd.C_drop (m:=((ji6) : Int).toNat) (c:=co16) hC19 (by omega) hroom19;obtain ⟨A19,hA19⟩ : ∃ A1,A1 =(if co16 =((ji6) : Int).toNat then Ao16 else(Ao16 : Option Addr).map (·.add (((ji6) : Int).toNat * 1))):=⟨_,rfl⟩;obtain ⟨c19,hc19⟩ : ∃ c1,c1 = co16 - ((ji6) : Int).toNat:=⟨_,rfl⟩;have hy19 : y531.length = t518.length - ((ji6) : Int).toNat:=(by rw [Ny531.out,List.length_drop] <;> omega);rw [show(t518).drop ((ji6) : Int).toNat = y531 from Ny531.out.symm] at hr19;replace hr19 : Kd.C (Kd.int .i64) _ A19 y531.length y531:=(by rw [hA19];exact hr19);rw [← hy19,← hA19,← hc19] at hcut19;have HR534:=Aside0.mk hr19;have HC534:=Aside0.mk (show y531.length≤c19 from by rw [hy19,hc19];exact Nat.sub_le_sub_right hroom19 _);clear hr19 hC19 hroom19 hi019 hsz19 hc19;have KY19:=Aside0.mk hy19;have KA19:=Aside0.mk hA19;clear hy19 hA19;have KL19:=Aside0.mk (show((ji6) : Int).toNat≤t518.length from by omega);replace q19:=eq_true q19) |((with_reducible refine gate_builtin (b:=.append) (xs:=#[.tmp 37,.tmp 40]) rfl ?_);at_builtin;refine Kd.R_append_rows (Kd.int .i64) (w0:=w) w.heap.size rfl (.tmp 37) (.tmp 40) 22 3 (.int .i64 0) 8 rfl Try.underlying22 info3 rfl (by decide) (by omega) v529 y528 y531 _ _ _ (fun k_=>some k_ ≠(.slice Ao16 t518.length co16 : Value).ownBlock) (fun _=>False) rfl rfl ?aO ?aR (fun _ _ h=>h) (fun _ h=>h.elim) ?aF ?aB ?aS ?aL ?_;(case aR=>repeat(first | exact(by repeat(first |(with_reducible exact HR534.out) |(with_reducible refine Kd.C_alloc ?_ _) |(with_reducible refine Kd.C_drewN ?_ _) |(with_reducible refine Kd.C_drew ?_) | exact HR534.out)) |(with_reducible refine Kd.C_alloc ?_ _) |(with_reducible refine Kd.C_drewN ?_ _) |(with_reducible refine Kd.C_drew ?_)));(case aB=>exact(by repeat(first |(with_reducible first | exact HB.out | apply bwA | apply bwN | apply bw1) | exact HB.out)));(case aF=>exact(fun k_ hk=>Kd.fresh' (Kd.R_lt (by(with_reducible repeat(first | apply Kd.R_alloc | apply Kd.R_drewN | apply Kd.R_drew));exact HO520.out)) k_ hk));(case aO=>exact(by(with_reducible repeat(first | apply Kd.R_alloc | apply Kd.R_drewN | apply Kd.R_drew));exact HO530.out));(case aS=>exact(bwZ (by repeat(first |(with_reducible first | exact HB.out | apply bwA | apply bwN | apply bw1) | exact HB.out))));(case aL=>have:=LMc13.out;omega);intro v536 w20 ho hb hg hat;rw [← Ny535.out] at ho;have n0_:=Aside0.mk (Kd.R_after (ok:=(fun _=>True)) (by(with_reducible repeat(first | apply Kd.R_alloc | apply Kd.R_drewN | apply Kd.R_drew));exact HO520.out) hg hat);have n1_:=Aside0.mk (hb);have n2_:=Aside0.mk ((show Kd.C (Kd.int .i64) w20 Ao16 y521.length y521 from by rw [Ny521.out];exact Kd.C_take (m:=((ji6) : Int).toNat) ((Kd.R_reads' (Kd.R_after (ok:=(fun _=>True)) (by(with_reducible repeat(first | apply Kd.R_alloc | apply Kd.R_drewN | apply Kd.R_drew));exact HO520.out) hg hat)).2.2) KL15.out));have n3_:=Aside0.mk ((show Kd.C (Kd.int .i64) w20 A19 y531.length y531 from by rw [Ny531.out,KA19.out];exact Kd.C_drop (m:=((ji6) : Int).toNat) (c:=co16) ((Kd.R_reads' (Kd.R_after (ok:=(fun _=>True)) (by(with_reducible repeat(first | apply Kd.R_alloc | apply Kd.R_drewN | apply Kd.R_drew));exact HO520.out) hg hat)).2.2) KL19.out ((Kd.R_reads' (Kd.R_after (ok:=(fun _=>True)) (by(with_reducible repeat(first | apply Kd.R_alloc | apply Kd.R_drewN | apply Kd.R_drew));exact HO520.out) hg hat)).2.1)));have n4_:=Aside0.mk (ho);clear HO520;clear HB;clear HR524;clear HR534;clear HO530;have HO520:=n0_;have HB:=n1_;have HR524:=n2_;have HR534:=n3_;have HO537:=n4_;clear n0_ n1_ n2_ n3_ n4_;clear ho hb hg hat)))
 go_ret
 exact⟨_,by first | rfl |(simp [errW_none,errW_some] <;> rfl) |(simp only [← hji6];first | rfl |(simp [errW_none,errW_some] <;> rfl)) |(simp [*,errW_none,errW_some] <;> rfl),by(with_reducible repeat(first | apply Kd.R_alloc | apply Kd.R_drewN | apply Kd.R_drew));exact Kd.R_mono HO537.out (fun _ hk=>trivial),by repeat(first |(with_reducible first | exact HB.out | apply bwA | apply bwN | apply bw1) | exact HB.out)⟩

mutual
def q10_Orders.l0 : Nat → List Int → Int → Option (Bool)
 | 0,_,_=>none
 | k + 1,x0,x3=>if x3 < (x0.length : Int) then(if 0≤x3 then(if(rd x0 x3) < 1 then(q10_Orders.j1 k x0 x3 true) else(q10_Orders.j1 k x0 x3 (decide ((rd x0 x3) > (x0.length : Int))))) else(none)) else(some (decide ((x0.length : Int)≤18)))
def q10_Orders.j1 : Nat → List Int → Int → Bool → Option (Bool)
 | 0,_,_,_=>none
 | k + 1,x0,x3,x24=>if x24 = true then(some false) else(q10_Orders.l1 k x0 x3 0)
def q10_Orders.l1 : Nat → List Int → Int → Int → Option (Bool)
 | 0,_,_,_=>none
 | k + 1,x0,x3,x4=>if x4 < x3 then(if 0≤x4 then(if x4 < (x0.length : Int) then(if 0≤x3 then(if x3 < (x0.length : Int) then(if(rd x0 x4) =(rd x0 x3) then(some false) else(q10_Orders.l1 k x0 x3 (wrap64 (x4 + 1)))) else(none)) else(none)) else(none)) else(none)) else(q10_Orders.l0 k x0 (wrap64 (x3 + 1)))
end
def q10_Orders.f (k : Nat) (l0 : List Int) : Option (Bool):=q10_Orders.l0 k l0 0
set_option maxHeartbeats 8000000 in
set_option maxRecDepth 100000 in
theorem q10_Orders.calls (k : Nat) (A0 : Option Addr) (c0 : Nat) (l0 : List Int) (r : Bool) (w : World) (hr0 : Kd.C (Kd.int .i64) w A0 l0.length l0) (hc0 : l0.length ≤ c0) (h : q10_Orders.f k l0 = some r) :
  Calls Try.prog 52 #[.slice A0 l0.length c0] w fun e w'=>e = .returned (.bool r)∧Drawn0 w w':=by
 have HR0:=Aside0.mk hr0
 have HC0:=Aside0.mk hc0
 clear hr0 hc0
 have H :(q10_Orders.l0 k l0 0) = some r:=h
 clear h
 have H':=Aside0.mk H
 clear H
 go_enter Try.func52,Try.ntmps52
 go_wp2
 repeat(go_quiet (fail);try go_wp2)
 go_loopg [3] k (fun kq v3 w'=>∃ (x3_1 : Int),v3 = .int .i64 x3_1∧Aside0 (q10_Orders.l0 kq l0 x3_1 = some r)∧Aside0 (kq≤k)∧Drawn0 w w')
 case atStart=>exact⟨(0),(by first | rfl |(simp;done) |(simp [*];done)),H',⟨Nat.le_refl _⟩,by repeat(first | exact Drawn0.refl _ | apply Drawn0.step)⟩
 clear H'
 obtain ⟨x3_1,rfl,HA,HK1,⟨m1,rfl⟩⟩:=hrel
 cases gk with
 | zero=>exact absurd HA.out (by simp [q10_Orders.l0])
 | succ k1 =>
  have H:=HA.out
  clear HA
  simp only [q10_Orders.l0] at H
  by_cases c2 : x3_1 < (l0.length : Int)
  rotate_left
  ·rw [if_neg c2] at H
   have c2b0 : decide (x3_1 < (l0.length : Int)) = false:=decide_eq_false c2
   clear c2
   obtain rfl:=Option.some.inj H
   go_wp2
   repeat(go_quiet (fail);try go_wp2)
   go_ret
   exact⟨by first | rfl |(simp;done) |(simp [*];done),by repeat(first | exact Drawn0.refl _ | apply Drawn0.step)⟩
  rw [if_pos c2] at H
  have c2b0 : decide (x3_1 < (l0.length : Int)) = true:=decide_eq_true c2
  clear c2
  have HC3:=Aside0.mk H
  clear H
  go_upto_region 4 with (fail)
  repeat(go_quiet (fail);go_upto_region 4 with (fail))
  go_cut [24] (fun v24 wc=>∃ (kq : Nat) (x24_2 : Bool),v24 = .bool x24_2∧Aside0 (q10_Orders.j1 kq l0 x3_1 x24_2 = some r)∧Aside0 (kq≤k1)∧Drawn0 w wc)
  case first =>
   have H:=HC3.out
   clear HC3
   by_cases c4 : 0≤x3_1
   rotate_left
   ·rw [if_neg c4] at H
    exact absurd H (by simp)
   rw [if_pos c4] at H
   have c4b0 : decide (0≤x3_1) = true:=decide_eq_true c4
   clear c4
   (first | rw [c4b0] |(simp only [i64_w,i32_w];rw [c4b0]) | skip)
   by_cases c5 :(rd l0 x3_1) < 1
   ·rw [if_pos c5] at H
    have c5b0 : decide ((rd l0 x3_1) < 1) = true:=decide_eq_true c5
    clear c5
    have H':=Aside0.mk H
    clear H
    have p555 : 0 ≤(x3_1 : Int):=of_decide_eq_true (by first |(with_reducible assumption) | assumption)
    have q555 : x3_1 < (l0.length : Int):=of_decide_eq_true (by first |(with_reducible assumption) | assumption)
    obtain ⟨ad555,e555,hx555_0⟩:=Kd.at_int HR0.out x3_1 p555 q555
    cases e555
    replace p555:=eq_true p555
    replace q555:=eq_true q555
    go_wp2
    repeat(go_quiet (fail);try go_wp2)
    go_meet
    exact⟨_,(true),(by first | rfl |(simp;done) |(simp [*];done)),H',⟨by have:=HK1.out;first | omega | exact Nat.le_refl _⟩,by repeat(first | exact Drawn0.refl _ | apply Drawn0.step)⟩
   rw [if_neg c5] at H
   have c5b0 : decide ((rd l0 x3_1) < 1) = false:=decide_eq_false c5
   clear c5
   have H':=Aside0.mk H
   clear H
   have p555 : 0 ≤(x3_1 : Int):=of_decide_eq_true (by first |(with_reducible assumption) | assumption)
   have q555 : x3_1 < (l0.length : Int):=of_decide_eq_true (by first |(with_reducible assumption) | assumption)
   obtain ⟨ad555,e555,hx555_0⟩:=Kd.at_int HR0.out x3_1 p555 q555
   cases e555
   replace p555:=eq_true p555
   replace q555:=eq_true q555
   have p556 : 0 ≤(x3_1 : Int):=of_decide_eq_true (by first |(with_reducible assumption) | assumption)
   have q556 : x3_1 < (l0.length : Int):=of_decide_eq_true (by first |(with_reducible assumption) | assumption)
   obtain ⟨ad556,e556,hx556_0⟩:=Kd.at_int HR0.out x3_1 p556 q556
   obtain rfl : ad555 = ad556:=(by injection e556)
   replace p556:=eq_true p556
   replace q556:=eq_true q556
   go_wp2
   repeat(go_quiet (fail);try go_wp2)
   go_meet
   exact⟨_,(decide ((rd l0 x3_1) > (l0.length : Int))),(by first | rfl |(simp;done) |(simp [*];done)),H',⟨by have:=HK1.out;first | omega | exact Nat.le_refl _⟩,by repeat(first | exact Drawn0.refl _ | apply Drawn0.step)⟩
  case rest =>
   clear HC3
   try clear c2
   try clear c2b0
   try clear p2
   try clear c4
   try clear c4b0
   try clear c5
   try clear c5b0
   try clear p5
   try clear q5
   try clear hx5
   try clear hx555_0
   try clear hx556_0
   try clear p555
   try clear p556
   try clear q555
   try clear q556
   obtain ⟨kq,x24_2,rfl,HA,HJ2,⟨mc2,rfl⟩⟩:=hcut
   cases kq with
   | zero=>exact absurd HA.out (by simp [q10_Orders.j1])
   | succ kj2 =>
    have H:=HA.out
    clear HA
    simp only [q10_Orders.j1] at H
    by_cases c6 : x24_2 = true
    ·subst c6
     have H1 :(some false) = some r:=by rw [if_pos rfl] at H;exact H
     clear H
     have H:=H1
     clear H1
     obtain rfl:=Option.some.inj H
     go_wp2
     repeat(go_quiet (fail);try go_wp2)
     go_ret
     exact⟨by first | rfl |(simp;done) |(simp [*];done),by repeat(first | exact Drawn0.refl _ | apply Drawn0.step)⟩
    replace c6:=Bool.eq_false_iff.mpr c6
    subst c6
    have H1 :(q10_Orders.l1 kj2 l0 x3_1 0) = some r:=by rw [if_neg (show ¬ (false = true) by decide)] at H;exact H
    clear H
    have H:=H1
    clear H1
    have H':=Aside0.mk H
    clear H
    go_wp2
    repeat(go_quiet (fail);try go_wp2)
    go_loopg [4] kj2 (fun kq v4 w'=>∃ (x4_3 : Int),v4 = .int .i64 x4_3∧Aside0 (q10_Orders.l1 kq l0 x3_1 x4_3 = some r)∧Aside0 (kq≤kj2)∧Drawn0 w w')
    case atStart=>exact⟨(0),(by first | rfl |(simp;done) |(simp [*];done)),H',⟨Nat.le_refl _⟩,by repeat(first | exact Drawn0.refl _ | apply Drawn0.step)⟩
    clear H'
    try clear c2
    try clear c2b0
    try clear p2
    try clear c4
    try clear c4b0
    try clear c5
    try clear c5b0
    try clear p5
    try clear q5
    try clear hx5
    try clear c6
    try clear hx555_0
    try clear hx556_0
    try clear p2
    try clear p5
    try clear p555
    try clear p556
    try clear q5
    try clear q555
    try clear q556
    obtain ⟨x4_3,rfl,HA,HK3,⟨m3,rfl⟩⟩:=hrel
    cases gk with
    | zero=>exact absurd HA.out (by simp [q10_Orders.l1])
    | succ k3 =>
     have H:=HA.out
     clear HA
     simp only [q10_Orders.l1] at H
     by_cases c7 : x4_3 < x3_1
     rotate_left
     ·rw [if_neg c7] at H
      have c7b0 : decide (x4_3 < x3_1) = false:=decide_eq_false c7
      clear c7
      have H':=Aside0.mk H
      clear H
      go_wp2
      repeat(go_quiet (fail);try go_wp2)
      go_roundg k3
      case measure=>have:=HK1.out;have:=HJ2.out;have:=HK3.out;omega
      exact⟨(wrap64 (x3_1 + 1)),(by first | rfl |(simp;done) |(simp [*];done)),H',⟨by have:=HK1.out;have:=HJ2.out;have:=HK3.out;omega⟩,by repeat(first | exact Drawn0.refl _ | apply Drawn0.step)⟩
     rw [if_pos c7] at H
     have c7b0 : decide (x4_3 < x3_1) = true:=decide_eq_true c7
     clear c7
     by_cases c8 : 0≤x4_3
     rotate_left
     ·rw [if_neg c8] at H
      exact absurd H (by simp)
     rw [if_pos c8] at H
     have c8b0 : decide (0≤x4_3) = true:=decide_eq_true c8
     clear c8
     by_cases c9 : x4_3 < (l0.length : Int)
     rotate_left
     ·rw [if_neg c9] at H
      exact absurd H (by simp)
     rw [if_pos c9] at H
     have c9b0 : decide (x4_3 < (l0.length : Int)) = true:=decide_eq_true c9
     clear c9
     by_cases c10 : 0≤x3_1
     rotate_left
     ·rw [if_neg c10] at H
      exact absurd H (by simp)
     rw [if_pos c10] at H
     have c10b0 : decide (0≤x3_1) = true:=decide_eq_true c10
     clear c10
     by_cases c11 : x3_1 < (l0.length : Int)
     rotate_left
     ·rw [if_neg c11] at H
      exact absurd H (by simp)
     rw [if_pos c11] at H
     have c11b0 : decide (x3_1 < (l0.length : Int)) = true:=decide_eq_true c11
     clear c11
     by_cases c12 :(rd l0 x4_3) =(rd l0 x3_1)
     ·rw [if_pos c12] at H
      have c12b0 :((rd l0 x4_3) ==(rd l0 x3_1)) = true:=beq_iff_eq.mpr c12
      have c12b1 :((rd l0 x4_3) !=(rd l0 x3_1)) = false:=bne_eq_false_iff_eq.mpr c12
      clear c12
      obtain rfl:=Option.some.inj H
      have p557 : 0 ≤(x4_3 : Int):=of_decide_eq_true (by first |(with_reducible assumption) | assumption)
      have q557 : x4_3 < (l0.length : Int):=of_decide_eq_true (by first |(with_reducible assumption) | assumption)
      obtain ⟨ad557,e557,hx557_0⟩:=Kd.at_int HR0.out x4_3 p557 q557
      cases e557
      replace p557:=eq_true p557
      replace q557:=eq_true q557
      have p558 : 0 ≤(x3_1 : Int):=of_decide_eq_true (by first |(with_reducible assumption) | assumption)
      have q558 : x3_1 < (l0.length : Int):=of_decide_eq_true (by first |(with_reducible assumption) | assumption)
      obtain ⟨ad558,e558,hx558_0⟩:=Kd.at_int HR0.out x3_1 p558 q558
      obtain rfl : ad557 = ad558:=(by injection e558)
      replace p558:=eq_true p558
      replace q558:=eq_true q558
      go_wp2
      repeat(go_quiet (fail);try go_wp2)
      go_ret
      exact⟨by first | rfl |(simp;done) |(simp [*];done),by repeat(first | exact Drawn0.refl _ | apply Drawn0.step)⟩
     rw [if_neg c12] at H
     have c12b0 :((rd l0 x4_3) ==(rd l0 x3_1)) = false:=beq_eq_false_iff_ne.mpr c12
     have c12b1 :((rd l0 x4_3) !=(rd l0 x3_1)) = true:=bne_iff_ne.mpr c12
     have H':=Aside0.mk H
     clear H
     have p557 : 0 ≤(x4_3 : Int):=of_decide_eq_true (by first |(with_reducible assumption) | assumption)
     have q557 : x4_3 < (l0.length : Int):=of_decide_eq_true (by first |(with_reducible assumption) | assumption)
     obtain ⟨ad557,e557,hx557_0⟩:=Kd.at_int HR0.out x4_3 p557 q557
     cases e557
     replace p557:=eq_true p557
     replace q557:=eq_true q557
     have p558 : 0 ≤(x3_1 : Int):=of_decide_eq_true (by first |(with_reducible assumption) | assumption)
     have q558 : x3_1 < (l0.length : Int):=of_decide_eq_true (by first |(with_reducible assumption) | assumption)
     obtain ⟨ad558,e558,hx558_0⟩:=Kd.at_int HR0.out x3_1 p558 q558
     obtain rfl : ad557 = ad558:=(by injection e558)
     replace p558:=eq_true p558
     replace q558:=eq_true q558
     go_wp2
     repeat(go_quiet (fail);try go_wp2)
     go_roundg k3
     case measure=>have:=HK1.out;have:=HJ2.out;have:=HK3.out;omega
     exact⟨(wrap64 (x4_3 + 1)),(by first | rfl |(simp;done) |(simp [*];done)),H',⟨by have:=HK1.out;have:=HJ2.out;have:=HK3.out;omega⟩,by repeat(first | exact Drawn0.refl _ | apply Drawn0.step)⟩

mutual
def q10_OrderAt.l0 : Nat → List Int → Int → Int → Option (Int)
 | 0,_,_,_=>none
 | k + 1,x0,x3,x4=>if 0≤x4 then(if x4 < (x0.length : Int) then(if(rd x0 x4) = x3 then(if x4 ≤(x0.length : Int) then(if([] : List Int).length + (x0.take (x4 : Int).toNat).length < 17592186044416 then((some (([] : List Int) ++ (x0.take (x4 : Int).toNat) : List Int)).bind fun y561=>(if 0 ≤(wrap64 (x4 + 1)) then(if(wrap64 (x4 + 1)) ≤(x0.length : Int) then(if y561.length + (x0.drop ((wrap64 (x4 + 1)) : Int).toNat).length < 17592186044416 then((q10_OrderAt.f k (y561 ++ (x0.drop ((wrap64 (x4 + 1)) : Int).toNat))).bind fun t568=>(if(Int.tmod t568 2) = 0 then(some (wrap64 ((wrap64 (x3 * t568)) + (wrap64 ((wrap64 (x3 - 1)) - x4))))) else(some (wrap64 ((wrap64 (x3 * t568)) + x4))))) else(none)) else(none)) else(none))) else(none)) else(none)) else(q10_OrderAt.l0 k x0 x3 (wrap64 (x4 + 1)))) else(none)) else(none)
def q10_OrderAt.f : Nat → List Int → Option (Int)
 | 0,_=>none
 | k + 1,l0=>if(l0.length : Int) = 0 then(some 0) else(q10_OrderAt.l0 k l0 (l0.length : Int) 0)
end
set_option maxHeartbeats 8000000 in
set_option maxRecDepth 100000 in
theorem q10_OrderAt.calls (k : Nat) : ∀ (A0 : Option Addr) (c0 : Nat) (l0 : List Int) (r : Int) (w : World) (hr0 : Kd.C (Kd.int .i64) w A0 l0.length l0) (hc0 : l0.length≤c0) (h : q10_OrderAt.f k l0 = some r),
  Calls Try.prog 53 #[.slice A0 l0.length c0] w fun e w'=>e = .returned (.int .i64 r)∧Below w.heap.size w w':=by
 induction k using Nat.strongRecOn with
 | _ k ih =>
 intro A0 c0 l0 r w hr0 hc0 h
 cases k with
 | zero=>exact absurd h (by simp [q10_OrderAt.f])
 | succ k =>
 simp only [q10_OrderAt.f] at h
 have HR0:=Aside0.mk hr0
 have HC0:=Aside0.mk hc0
 clear hr0 hc0
 have HB:=Aside0.mk (Below.refl w.heap.size w)
 have H :(if(l0.length : Int) = 0 then(some 0) else(q10_OrderAt.l0 k l0 (l0.length : Int) 0)) = some r:=h
 clear h
 by_cases c2 :(l0.length : Int) = 0
 ·rw [if_pos c2] at H
  have c2b0 :((l0.length : Int) == 0) = true:=beq_iff_eq.mpr c2
  have c2b1 :((l0.length : Int) != 0) = false:=bne_eq_false_iff_eq.mpr c2
  clear c2
  obtain rfl:=Option.some.inj H
  go_enter Try.func53,Try.ntmps53
  go_wp2
  go_ret
  exact⟨by first | rfl |(simp [errW_none,errW_some] <;> rfl) |(simp [*,errW_none,errW_some] <;> rfl),by repeat(first |(with_reducible first | exact HB.out | apply bwA | apply bwN | apply bw1) | exact HB.out)⟩
 rw [if_neg c2] at H
 have c2b0 :((l0.length : Int) == 0) = false:=beq_eq_false_iff_ne.mpr c2
 have c2b1 :((l0.length : Int) != 0) = true:=bne_iff_ne.mpr c2
 have c2b2 : ¬ (l0 = []):=fun h_=>c2 (by rw [h_];rfl)
 have H':=Aside0.mk H
 clear H
 go_enter Try.func53,Try.ntmps53
 go_wp2
 go_loopg [4] k (fun kq v4 w'=>∃ (x4_1 : Int),v4 = .int .i64 x4_1∧Aside0 (q10_OrderAt.l0 kq l0 (l0.length : Int) x4_1 = some r)∧Aside0 (kq≤k)∧Aside0 (Below w.heap.size w w'))
 case atStart=>exact⟨(0),(by first | rfl |(simp;done) |(simp [*];done)),H',⟨Nat.le_refl _⟩,⟨by repeat(first |(with_reducible first | exact HB.out | apply bwA | apply bwN | apply bw1) | exact HB.out)⟩⟩
 clear H'
 try clear c2
 try clear c2b0
 try clear c2b1
 try clear c2b2
 try clear p2
 obtain ⟨x4_1,rfl,HA,HK1,HB⟩:=hrel
 cases gk with
 | zero=>exact absurd HA.out (by simp [q10_OrderAt.l0])
 | succ k1 =>
  have H:=HA.out
  clear HA
  simp only [q10_OrderAt.l0] at H
  by_cases c3 : 0≤x4_1
  rotate_left
  ·rw [if_neg c3] at H
   exact absurd H (by simp)
  rw [if_pos c3] at H
  have c3b0 : decide (0≤x4_1) = true:=decide_eq_true c3
  clear c3
  by_cases c4 : x4_1 < (l0.length : Int)
  rotate_left
  ·rw [if_neg c4] at H
   exact absurd H (by simp)
  rw [if_pos c4] at H
  have c4b0 : decide (x4_1 < (l0.length : Int)) = true:=decide_eq_true c4
  clear c4
  by_cases c5 :(rd l0 x4_1) =(l0.length : Int)
  rotate_left
  ·rw [if_neg c5] at H
   have c5b0 :((rd l0 x4_1) ==(l0.length : Int)) = false:=beq_eq_false_iff_ne.mpr c5
   have c5b1 :((rd l0 x4_1) !=(l0.length : Int)) = true:=bne_iff_ne.mpr c5
   have H':=Aside0.mk H
   clear H
   have p559 : 0 ≤(x4_1 : Int):=of_decide_eq_true (by first |(with_reducible assumption) | assumption)
   have q559 : x4_1 < (l0.length : Int):=of_decide_eq_true (by first |(with_reducible assumption) | assumption)
   obtain ⟨ad559,e559,hx559_0⟩:=Kd.at_int HR0.out x4_1 p559 q559
   cases e559
   replace hx559_0:=(HB.out.cell (World.block_lt_of_cell? w _ hx559_0)).trans hx559_0
   replace p559:=eq_true p559
   replace q559:=eq_true q559
   go_wp2
   go_roundg k1
   case measure=>have:=HK1.out;omega
   exact⟨(wrap64 (x4_1 + 1)),(by first | rfl |(simp;done) |(simp [*];done)),H',⟨by have:=HK1.out;omega⟩,⟨by repeat(first |(with_reducible first | exact HB.out | apply bwA | apply bwN | apply bw1) | exact HB.out)⟩⟩
  rw [if_pos c5] at H
  have c5b0 :((rd l0 x4_1) ==(l0.length : Int)) = true:=beq_iff_eq.mpr c5
  have c5b1 :((rd l0 x4_1) !=(l0.length : Int)) = false:=bne_eq_false_iff_eq.mpr c5
  clear c5
  have c6b0:=eq_true (of_decide_eq_true (by first |(with_reducible assumption) | assumption) : 0≤x4_1)
  by_cases c7 : x4_1 ≤(l0.length : Int)
  rotate_left
  ·rw [if_neg c7] at H
   exact absurd H (by simp)
  rw [if_pos c7] at H
  have c7b0:=eq_true c7
  have c7b1 : decide (x4_1 ≤(l0.length : Int)) = true:=decide_eq_true c7
  clear c7
  by_cases c8 :([] : List Int).length + (l0.take (x4_1 : Int).toNat).length < 17592186044416
  rotate_left
  ·rw [if_neg c8] at H
   exact absurd H (by simp)
  rw [if_pos c8] at H
  have LMc8:=Aside0.mk c8
  clear c8
  obtain ⟨y561,hy561⟩ : ∃ y_ : List Int,y_ =(([] : List Int) ++ (l0.take (x4_1 : Int).toNat)):=⟨_,rfl⟩
  replace H :(if 0 ≤(wrap64 (x4_1 + 1)) then(if(wrap64 (x4_1 + 1)) ≤(l0.length : Int) then(if y561.length + (l0.drop ((wrap64 (x4_1 + 1)) : Int).toNat).length < 17592186044416 then((q10_OrderAt.f k1 (y561 ++ (l0.drop ((wrap64 (x4_1 + 1)) : Int).toNat))).bind fun t568=>(if(Int.tmod t568 2) = 0 then(some (wrap64 ((wrap64 ((l0.length : Int) * t568)) + (wrap64 ((wrap64 ((l0.length : Int) - 1)) - x4_1))))) else(some (wrap64 ((wrap64 ((l0.length : Int) * t568)) + x4_1))))) else(none)) else(none)) else(none)) = some r:=by first |(rw [hy561];with_reducible exact H) |(have H2_:=(Option.bind_some _ _).symm.trans H;rw [hy561];with_reducible exact H2_) |(have H2_:=(Option.bind_some _ _).symm.trans H;with_reducible exact H2_) | with_reducible exact H |(rw [hy561];exact H) | exact H
  have Ny561:=Aside0.mk hy561
  clear hy561
  obtain ⟨ji9,hji9⟩ : ∃ j_ : Int,(wrap64 (x4_1 + 1)) = j_:=⟨_,rfl⟩
  replace H :(if 0 ≤(ji9) then(if(ji9) ≤(l0.length : Int) then(if y561.length + (l0.drop ((ji9) : Int).toNat).length < 17592186044416 then((q10_OrderAt.f k1 (y561 ++ (l0.drop ((ji9) : Int).toNat))).bind fun t568=>(if(Int.tmod t568 2) = 0 then(some (wrap64 ((wrap64 ((l0.length : Int) * t568)) + (wrap64 ((wrap64 ((l0.length : Int) - 1)) - x4_1))))) else(some (wrap64 ((wrap64 ((l0.length : Int) * t568)) + x4_1))))) else(none)) else(none)) else(none)) = some r:=by first |(rw [hji9] at H;exact H) |(simp only [hji9] at H ⊢;exact H)
  have hji9w :(IntKind.i64.wrap (x4_1 + 1)) = ji9:=(i64_w _).trans hji9
  by_cases c10 : 0 ≤(ji9)
  rotate_left
  ·rw [if_neg c10] at H
   exact absurd H (by simp)
  rw [if_pos c10] at H
  have c10b0:=eq_true c10
  have c10b1 : decide (0 ≤(ji9)) = true:=decide_eq_true c10
  clear c10
  by_cases c11 :(ji9) ≤(l0.length : Int)
  rotate_left
  ·rw [if_neg c11] at H
   exact absurd H (by simp)
  rw [if_pos c11] at H
  have c11b0:=eq_true c11
  have c11b1 : decide ((ji9) ≤(l0.length : Int)) = true:=decide_eq_true c11
  clear c11
  by_cases c12 : y561.length + (l0.drop ((ji9) : Int).toNat).length < 17592186044416
  rotate_left
  ·rw [if_neg c12] at H
   exact absurd H (by simp)
  rw [if_pos c12] at H
  have LMc12:=Aside0.mk c12
  clear c12
  obtain ⟨y565,hy565⟩ : ∃ y_ : List Int,y_ =(y561 ++ (l0.drop ((ji9) : Int).toNat)):=⟨_,rfl⟩
  replace H :((q10_OrderAt.f k1 y565).bind fun t568=>(if(Int.tmod t568 2) = 0 then(some (wrap64 ((wrap64 ((l0.length : Int) * t568)) + (wrap64 ((wrap64 ((l0.length : Int) - 1)) - x4_1))))) else(some (wrap64 ((wrap64 ((l0.length : Int) * t568)) + x4_1))))) = some r:=by first |(rw [hy565];with_reducible exact H) |(have H2_:=(Option.bind_some _ _).symm.trans H;rw [hy565];with_reducible exact H2_) |(have H2_:=(Option.bind_some _ _).symm.trans H;with_reducible exact H2_) | with_reducible exact H |(rw [hy565];exact H) | exact H
  have Ny565:=Aside0.mk hy565
  clear hy565
  replace H:=Option.bind_eq_some_iff.mp H
  obtain ⟨t568,A130,H⟩:=H
  replace H :(if(Int.tmod t568 2) = 0 then(some (wrap64 ((wrap64 ((l0.length : Int) * t568)) + (wrap64 ((wrap64 ((l0.length : Int) - 1)) - x4_1))))) else(some (wrap64 ((wrap64 ((l0.length : Int) * t568)) + x4_1)))) = some r:=H
  have A13:=Aside0.mk A130
  clear A130
  by_cases c14 :(Int.tmod t568 2) = 0
  rotate_left
  ·rw [if_neg c14] at H
   have c14b0 :((Int.tmod t568 2) == 0) = false:=beq_eq_false_iff_ne.mpr c14
   have c14b1 :((Int.tmod t568 2) != 0) = true:=bne_iff_ne.mpr c14
   obtain rfl:=Option.some.inj H
   have p559 : 0 ≤(x4_1 : Int):=of_decide_eq_true (by first |(with_reducible assumption) | assumption)
   have q559 : x4_1 < (l0.length : Int):=of_decide_eq_true (by first |(with_reducible assumption) | assumption)
   obtain ⟨ad559,e559,hx559_0⟩:=Kd.at_int HR0.out x4_1 p559 q559
   cases e559
   replace hx559_0:=(HB.out.cell (World.block_lt_of_cell? w _ hx559_0)).trans hx559_0
   replace p559:=eq_true p559
   replace q559:=eq_true q559
   obtain ⟨i021,hi021,_,hsz21,_⟩:=info_parts info3
   obtain ⟨hcut21,hA21,hC21⟩:=print_take_of (P:=Try.prog) (Value.int .i64) 0 22 3 .i64 Try.underlying22 hi021 hsz21 (some ad559) c0 l0 x4_1 (of_decide_eq_true (by first |(with_reducible assumption) | assumption)) (of_decide_eq_true (by first |(with_reducible assumption) | assumption)) HC0.out
   have HR560:=Aside0.mk (Kd.C_of_reads (h1:=fun _=>rfl) (hA21 _ (Kd.reads_of_C HR0.out)))
   have HC560:=Aside0.mk hC21
   clear hA21 hC21 hi021 hsz21
   obtain ⟨tk21,htk21⟩ : ∃ tk_ : List Int,(l0.take (x4_1 : Int).toNat) = tk_:=⟨_,rfl⟩
   have Hlt_tk21:=Aside0.mk (show tk21.length = min (x4_1 : Int).toNat l0.length from by rw [← htk21,List.length_take])
   simp only [htk21] at *
   have Htk21:=Aside0.mk htk21
   clear htk21
   go_wp2_with (first |((with_reducible refine gate_builtin (b:=.append) (xs:=#[.tmp 19,.tmp 22]) rfl ?_);at_builtin;refine Kd.R_append_rows (Kd.int .i64) (w0:=w) w.heap.size rfl (.tmp 19) (.tmp 22) 22 3 (.int .i64 0) 8 rfl Try.underlying22 info3 rfl (by decide) (by omega) (.slice none 0 0) ([] : List Int) tk21 _ _ _ (fun _=>True) (fun _=>False) rfl rfl ?aO ?aR (fun _ _ h=>h) (fun _ h=>h.elim) ?aF ?aB ?aS ?aL ?_;(case aR=>first |(rw [← show tk21.length = x4_1.toNat from(by rw [Hlt_tk21.out];have h_ :(x4_1 : Int) ≤(l0.length : Int):=of_decide_eq_true (by first |(with_reducible assumption) | assumption);omega)];repeat(first | exact(Kd.C_below HR560.out HB.out) |(with_reducible refine Kd.C_alloc ?_ _) |(with_reducible refine Kd.C_drewN ?_ _) |(with_reducible refine Kd.C_drew ?_))) |(repeat(first | exact(Kd.C_below HR560.out HB.out) |(with_reducible refine Kd.C_alloc ?_ _) |(with_reducible refine Kd.C_drewN ?_ _) |(with_reducible refine Kd.C_drew ?_))));(case aB=>exact(by repeat(first |(with_reducible first | exact HB.out | apply bwA | apply bwN | apply bw1) | exact HB.out)));(case aF=>exact(fun _ _=>trivial));(case aO=>exact((Kd.R_nil _ _ _ _ (fun _=>True))));(case aS=>exact(bwZ (by repeat(first |(with_reducible first | exact HB.out | apply bwA | apply bwN | apply bw1) | exact HB.out))));(case aL=>have:=LMc8.out;have hlx_:=(show tk21.length = x4_1.toNat from(by rw [Hlt_tk21.out];have h_ :(x4_1 : Int) ≤(l0.length : Int):=of_decide_eq_true (by first |(with_reducible assumption) | assumption);omega));omega);intro v562 w22 ho hb hg hat;rw [← Ny561.out] at ho;have n0_:=Aside0.mk (hb);have n1_:=Aside0.mk (ho);clear HB;have HB:=n0_;have HO563:=n1_;clear n0_ n1_;clear ho hb hg hat;obtain ⟨i023,hi023,_,hsz23,_⟩:=info_parts info3;obtain ⟨A23,hcut23,hA23,hC23⟩:=print_drop_of (P:=Try.prog) (Value.int .i64) 0 22 3 .i64 Try.underlying22 hi023 hsz23 (some ad559) c0 l0 (ji9) (of_decide_eq_true (by first |(with_reducible assumption) | assumption)) (of_decide_eq_true (by first |(with_reducible assumption) | assumption)) HC0.out;have HR564:=Aside0.mk (Kd.C_of_reads (h1:=fun _=>rfl) (hA23 _ (Kd.reads_of_C HR0.out)));have HC564:=Aside0.mk hC23;clear hA23 hC23 hi023 hsz23) |((with_reducible refine gate_builtin (b:=.append) (xs:=#[.tmp 24,.tmp 28]) rfl ?_);at_builtin;refine Kd.R_append_rows (Kd.int .i64) (w0:=w) w.heap.size rfl (.tmp 24) (.tmp 28) 22 3 (.int .i64 0) 8 rfl Try.underlying22 info3 rfl (by decide) (by omega) v562 y561 (l0.drop ((ji9) : Int).toNat) _ _ _ (fun _=>True) (fun _=>False) rfl rfl ?aO ?aR (fun _ _ h=>h) (fun _ h=>h.elim) ?aF ?aB ?aS ?aL ?_;(case aR=>first |(rw [← show(l0.drop ((ji9) : Int).toNat).length =(l0.length - (ji9).toNat) from List.length_drop];repeat(first | exact(Kd.C_below HR564.out HB.out) |(with_reducible refine Kd.C_alloc ?_ _) |(with_reducible refine Kd.C_drewN ?_ _) |(with_reducible refine Kd.C_drew ?_))) |(repeat(first | exact(Kd.C_below HR564.out HB.out) |(with_reducible refine Kd.C_alloc ?_ _) |(with_reducible refine Kd.C_drewN ?_ _) |(with_reducible refine Kd.C_drew ?_))));(case aB=>exact(by repeat(first |(with_reducible first | exact HB.out | apply bwA | apply bwN | apply bw1) | exact HB.out)));(case aF=>exact(fun _ _=>trivial));(case aO=>exact(by(with_reducible repeat(first | apply Kd.R_alloc | apply Kd.R_drewN | apply Kd.R_drew));exact HO563.out));(case aS=>exact(bwZ (by repeat(first |(with_reducible first | exact HB.out | apply bwA | apply bwN | apply bw1) | exact HB.out))));(case aL=>have:=LMc12.out;have hlx_:=(show(l0.drop ((ji9) : Int).toNat).length =(l0.length - (ji9).toNat) from List.length_drop);omega);intro v566 w24 ho hb hg hat;rw [← Ny565.out] at ho;have n0_:=Aside0.mk (hb);have n1_:=Aside0.mk (ho);clear HB;clear HO563;have HB:=n0_;have HO567:=n1_;clear n0_ n1_;clear ho hb hg hat;obtain ⟨Ao25,co25,eo25⟩:=Kd.R_slice HO567.out;subst eo25) |((with_reducible refine gate_callee (f:=53) rfl ?_);refine goesL_ (some 31) rfl rfl Try.func53 (by kernel_rfl) rfl #[.slice Ao25 y565.length co25] rfl (by(try simp only [List.map_toArray,List.map_cons,List.map_nil]);first | done | rfl |(simp only [List.length_drop,List.length_take];rfl)) ?_;(with_reducible refine(ih k1 (by have:=HK1.out;omega) _ _ y565 t568 _ ?side1 ?side2 A13.out).mono ?_);(case side1=>repeat(first | exact(Kd.R_reads' HO567.out).2.2 |(with_reducible refine Kd.C_alloc ?_ _) |(with_reducible refine Kd.C_drewN ?_ _) |(with_reducible refine Kd.C_drew ?_)));(case side2=>exact(Kd.R_reads' HO567.out).2.1);rintro e w26 ⟨rfl,hb⟩;refine⟨_,rfl,?_⟩;have n0_:=Aside0.mk (Kd.R_below (by(with_reducible repeat(first | apply Kd.R_alloc | apply Kd.R_drewN | apply Kd.R_drew));exact HO567.out) hb);have n1_:=Aside0.mk (bwT (by repeat(first |(with_reducible first | exact HB.out | apply bwA | apply bwN | apply bw1) | exact HB.out)) hb);clear HO567;clear HB;have HO567:=n0_;have HB:=n1_;clear n0_ n1_;(try clear hb);(try clear hb2);(try clear hk);(try clear hi)))
   go_ret
   exact⟨by first | rfl |(simp [errW_none,errW_some] <;> rfl) |(simp only [← hji9];first | rfl |(simp [errW_none,errW_some] <;> rfl)) |(simp [*,errW_none,errW_some] <;> rfl),by repeat(first |(with_reducible first | exact HB.out | apply bwA | apply bwN | apply bw1) | exact HB.out)⟩
  rw [if_pos c14] at H
  have c14b0 :((Int.tmod t568 2) == 0) = true:=beq_iff_eq.mpr c14
  have c14b1 :((Int.tmod t568 2) != 0) = false:=bne_eq_false_iff_eq.mpr c14
  clear c14
  obtain rfl:=Option.some.inj H
  have p559 : 0 ≤(x4_1 : Int):=of_decide_eq_true (by first |(with_reducible assumption) | assumption)
  have q559 : x4_1 < (l0.length : Int):=of_decide_eq_true (by first |(with_reducible assumption) | assumption)
  obtain ⟨ad559,e559,hx559_0⟩:=Kd.at_int HR0.out x4_1 p559 q559
  cases e559
  replace hx559_0:=(HB.out.cell (World.block_lt_of_cell? w _ hx559_0)).trans hx559_0
  replace p559:=eq_true p559
  replace q559:=eq_true q559
  obtain ⟨i015,hi015,_,hsz15,_⟩:=info_parts info3
  obtain ⟨hcut15,hA15,hC15⟩:=print_take_of (P:=Try.prog) (Value.int .i64) 0 22 3 .i64 Try.underlying22 hi015 hsz15 (some ad559) c0 l0 x4_1 (of_decide_eq_true (by first |(with_reducible assumption) | assumption)) (of_decide_eq_true (by first |(with_reducible assumption) | assumption)) HC0.out
  have HR560:=Aside0.mk (Kd.C_of_reads (h1:=fun _=>rfl) (hA15 _ (Kd.reads_of_C HR0.out)))
  have HC560:=Aside0.mk hC15
  clear hA15 hC15 hi015 hsz15
  obtain ⟨tk15,htk15⟩ : ∃ tk_ : List Int,(l0.take (x4_1 : Int).toNat) = tk_:=⟨_,rfl⟩
  have Hlt_tk15:=Aside0.mk (show tk15.length = min (x4_1 : Int).toNat l0.length from by rw [← htk15,List.length_take])
  simp only [htk15] at *
  have Htk15:=Aside0.mk htk15
  clear htk15
  go_wp2_with (first |((with_reducible refine gate_builtin (b:=.append) (xs:=#[.tmp 19,.tmp 22]) rfl ?_);at_builtin;refine Kd.R_append_rows (Kd.int .i64) (w0:=w) w.heap.size rfl (.tmp 19) (.tmp 22) 22 3 (.int .i64 0) 8 rfl Try.underlying22 info3 rfl (by decide) (by omega) (.slice none 0 0) ([] : List Int) tk15 _ _ _ (fun _=>True) (fun _=>False) rfl rfl ?aO ?aR (fun _ _ h=>h) (fun _ h=>h.elim) ?aF ?aB ?aS ?aL ?_;(case aR=>first |(rw [← show tk15.length = x4_1.toNat from(by rw [Hlt_tk15.out];have h_ :(x4_1 : Int) ≤(l0.length : Int):=of_decide_eq_true (by first |(with_reducible assumption) | assumption);omega)];repeat(first | exact(Kd.C_below HR560.out HB.out) |(with_reducible refine Kd.C_alloc ?_ _) |(with_reducible refine Kd.C_drewN ?_ _) |(with_reducible refine Kd.C_drew ?_))) |(repeat(first | exact(Kd.C_below HR560.out HB.out) |(with_reducible refine Kd.C_alloc ?_ _) |(with_reducible refine Kd.C_drewN ?_ _) |(with_reducible refine Kd.C_drew ?_))));(case aB=>exact(by repeat(first |(with_reducible first | exact HB.out | apply bwA | apply bwN | apply bw1) | exact HB.out)));(case aF=>exact(fun _ _=>trivial));(case aO=>exact((Kd.R_nil _ _ _ _ (fun _=>True))));(case aS=>exact(bwZ (by repeat(first |(with_reducible first | exact HB.out | apply bwA | apply bwN | apply bw1) | exact HB.out))));(case aL=>have:=LMc8.out;have hlx_:=(show tk15.length = x4_1.toNat from(by rw [Hlt_tk15.out];have h_ :(x4_1 : Int) ≤(l0.length : Int):=of_decide_eq_true (by first |(with_reducible assumption) | assumption);omega));omega);intro v562 w16 ho hb hg hat;rw [← Ny561.out] at ho;have n0_:=Aside0.mk (hb);have n1_:=Aside0.mk (ho);clear HB;have HB:=n0_;have HO563:=n1_;clear n0_ n1_;clear ho hb hg hat;obtain ⟨i017,hi017,_,hsz17,_⟩:=info_parts info3;obtain ⟨A17,hcut17,hA17,hC17⟩:=print_drop_of (P:=Try.prog) (Value.int .i64) 0 22 3 .i64 Try.underlying22 hi017 hsz17 (some ad559) c0 l0 (ji9) (of_decide_eq_true (by first |(with_reducible assumption) | assumption)) (of_decide_eq_true (by first |(with_reducible assumption) | assumption)) HC0.out;have HR564:=Aside0.mk (Kd.C_of_reads (h1:=fun _=>rfl) (hA17 _ (Kd.reads_of_C HR0.out)));have HC564:=Aside0.mk hC17;clear hA17 hC17 hi017 hsz17) |((with_reducible refine gate_builtin (b:=.append) (xs:=#[.tmp 24,.tmp 28]) rfl ?_);at_builtin;refine Kd.R_append_rows (Kd.int .i64) (w0:=w) w.heap.size rfl (.tmp 24) (.tmp 28) 22 3 (.int .i64 0) 8 rfl Try.underlying22 info3 rfl (by decide) (by omega) v562 y561 (l0.drop ((ji9) : Int).toNat) _ _ _ (fun _=>True) (fun _=>False) rfl rfl ?aO ?aR (fun _ _ h=>h) (fun _ h=>h.elim) ?aF ?aB ?aS ?aL ?_;(case aR=>first |(rw [← show(l0.drop ((ji9) : Int).toNat).length =(l0.length - (ji9).toNat) from List.length_drop];repeat(first | exact(Kd.C_below HR564.out HB.out) |(with_reducible refine Kd.C_alloc ?_ _) |(with_reducible refine Kd.C_drewN ?_ _) |(with_reducible refine Kd.C_drew ?_))) |(repeat(first | exact(Kd.C_below HR564.out HB.out) |(with_reducible refine Kd.C_alloc ?_ _) |(with_reducible refine Kd.C_drewN ?_ _) |(with_reducible refine Kd.C_drew ?_))));(case aB=>exact(by repeat(first |(with_reducible first | exact HB.out | apply bwA | apply bwN | apply bw1) | exact HB.out)));(case aF=>exact(fun _ _=>trivial));(case aO=>exact(by(with_reducible repeat(first | apply Kd.R_alloc | apply Kd.R_drewN | apply Kd.R_drew));exact HO563.out));(case aS=>exact(bwZ (by repeat(first |(with_reducible first | exact HB.out | apply bwA | apply bwN | apply bw1) | exact HB.out))));(case aL=>have:=LMc12.out;have hlx_:=(show(l0.drop ((ji9) : Int).toNat).length =(l0.length - (ji9).toNat) from List.length_drop);omega);intro v566 w18 ho hb hg hat;rw [← Ny565.out] at ho;have n0_:=Aside0.mk (hb);have n1_:=Aside0.mk (ho);clear HB;clear HO563;have HB:=n0_;have HO567:=n1_;clear n0_ n1_;clear ho hb hg hat;obtain ⟨Ao19,co19,eo19⟩:=Kd.R_slice HO567.out;subst eo19) |((with_reducible refine gate_callee (f:=53) rfl ?_);refine goesL_ (some 31) rfl rfl Try.func53 (by kernel_rfl) rfl #[.slice Ao19 y565.length co19] rfl (by(try simp only [List.map_toArray,List.map_cons,List.map_nil]);first | done | rfl |(simp only [List.length_drop,List.length_take];rfl)) ?_;(with_reducible refine(ih k1 (by have:=HK1.out;omega) _ _ y565 t568 _ ?side1 ?side2 A13.out).mono ?_);(case side1=>repeat(first | exact(Kd.R_reads' HO567.out).2.2 |(with_reducible refine Kd.C_alloc ?_ _) |(with_reducible refine Kd.C_drewN ?_ _) |(with_reducible refine Kd.C_drew ?_)));(case side2=>exact(Kd.R_reads' HO567.out).2.1);rintro e w20 ⟨rfl,hb⟩;refine⟨_,rfl,?_⟩;have n0_:=Aside0.mk (Kd.R_below (by(with_reducible repeat(first | apply Kd.R_alloc | apply Kd.R_drewN | apply Kd.R_drew));exact HO567.out) hb);have n1_:=Aside0.mk (bwT (by repeat(first |(with_reducible first | exact HB.out | apply bwA | apply bwN | apply bw1) | exact HB.out)) hb);clear HO567;clear HB;have HO567:=n0_;have HB:=n1_;clear n0_ n1_;(try clear hb);(try clear hb2);(try clear hk);(try clear hi)))
  go_ret
  exact⟨by first | rfl |(simp [errW_none,errW_some] <;> rfl) |(simp only [← hji9];first | rfl |(simp [errW_none,errW_some] <;> rfl)) |(simp [*,errW_none,errW_some] <;> rfl),by repeat(first |(with_reducible first | exact HB.out | apply bwA | apply bwN | apply bw1) | exact HB.out)⟩

def q10_Turn.l0 : Nat → List Int → Int → List Int → Int → Option (Int × Int)
 | 0,_,_,_,_=>none
 | k + 1,x0,x3,x5,x6=>if x6 < x3 then(if 0≤x6 then(if x6 < (x5.length : Int) then(if x6 < (x0.length : Int) then(if(rd x5 x6) =(rd x0 x6) then(q10_Turn.l0 k x0 x3 x5 (wrap64 (x6 + 1))) else(some (x6,wrap64 (x6 + 1)))) else(none)) else(none)) else(none)) else(some ((-1),(-1)))
def q10_Turn.f (k : Nat) (l0 : List Int) : Option (Int×Int):=(q10_OrderAt.f k l0).bind fun t570=>((q10_Factorial.f k (l0.length : Int)).bind fun t571=>(if(wrap64 (t570 + 1)) ≥ t571 then(some ((-1),(-1))) else((q10_Order.f k (l0.length : Int) (wrap64 (t570 + 1))).bind fun t572=>(q10_Turn.l0 k l0 (l0.length : Int) t572 0))))
set_option maxHeartbeats 8000000 in
set_option maxRecDepth 100000 in
theorem q10_Turn.calls (k : Nat) (A0 : Option Addr) (c0 : Nat) (l0 : List Int) (r1 : Int) (r2 : Int) (w : World) (hr0 : Kd.C (Kd.int .i64) w A0 l0.length l0) (hc0 : l0.length ≤ c0) (h : q10_Turn.f k l0 = some (r1, r2)) :
  Calls Try.prog 54 #[.slice A0 l0.length c0] w fun e w'=>e = .returned (.agg #[.int .i64 r1,.int .i64 r2])∧Below w.heap.size w w':=by
 have hu45:=Try.underlying45
 have HR0:=Aside0.mk hr0
 have HC0:=Aside0.mk hc0
 clear hr0 hc0
 have HB:=Aside0.mk (Below.refl w.heap.size w)
 have H :((q10_OrderAt.f k l0).bind fun t570=>((q10_Factorial.f k (l0.length : Int)).bind fun t571=>(if(wrap64 (t570 + 1)) ≥ t571 then(some ((-1),(-1))) else((q10_Order.f k (l0.length : Int) (wrap64 (t570 + 1))).bind fun t572=>(q10_Turn.l0 k l0 (l0.length : Int) t572 0))))) = some (r1,r2):=h
 clear h
 replace H:=Option.bind_eq_some_iff.mp H
 obtain ⟨t570,A20,H⟩:=H
 replace H :((q10_Factorial.f k (l0.length : Int)).bind fun t571=>(if(wrap64 (t570 + 1)) ≥ t571 then(some ((-1),(-1))) else((q10_Order.f k (l0.length : Int) (wrap64 (t570 + 1))).bind fun t572=>(q10_Turn.l0 k l0 (l0.length : Int) t572 0)))) = some (r1,r2):=H
 have A2:=Aside0.mk A20
 clear A20
 replace H:=Option.bind_eq_some_iff.mp H
 obtain ⟨t571,A30,H⟩:=H
 replace H :(if(wrap64 (t570 + 1)) ≥ t571 then(some ((-1),(-1))) else((q10_Order.f k (l0.length : Int) (wrap64 (t570 + 1))).bind fun t572=>(q10_Turn.l0 k l0 (l0.length : Int) t572 0))) = some (r1,r2):=H
 have A3:=Aside0.mk A30
 clear A30
 by_cases c4 :(wrap64 (t570 + 1)) ≥ t571
 ·rw [if_pos c4] at H
  have c4b0 : decide (t571 ≤(wrap64 (t570 + 1))) = true:=decide_eq_true c4
  clear c4
  simp only [Option.some.injEq,Prod.mk.injEq] at H
  obtain ⟨rfl,rfl⟩:=H
  go_enter Try.func54,Try.ntmps54
  go_wp2_with (first |((with_reducible refine gate_dst (N:=2) rfl ?_);refine box_event ?hg (N:=2) ?hd (cs:=#[.int .i64 0,.int .i64 0]) (t:=45) ?hr ?_;(case hd=>rfl);(case hg=>rfl);(case hr=>first |(go_simp;done) |(go_simp;rfl));intro gb569 hg w5 hbox hb;have n0_:=Aside0.mk (bwT (by repeat(first |(with_reducible first | exact HB.out | apply bwA | apply bwN | apply bw1) | exact HB.out)) hb);have n1_:=Aside0.mk (hbox);have n2_:=Aside0.mk ((by rw [hg];exact(bwZ (by repeat(first |(with_reducible first | exact HB.out | apply bwA | apply bwN | apply bw1) | exact HB.out))) : w.heap.size≤gb569));have n3_:=Aside0.mk ((by rw [hg];exact(bwZ (by repeat(first |(with_reducible first | exact HB.out | apply bwA | apply bwN | apply bw1) | exact HB.out))) : w.heap.size≤gb569));clear HB;have HB:=n0_;have BK569:=n1_;have GW569:=n2_;have GE569:=n3_;clear n0_ n1_ n2_ n3_;clear hb hbox hg) |(go_at_call 53;(with_reducible refine(q10_OrderAt.calls k _ _ l0 t570 _ ?side1 ?side2 A2.out).mono ?_);(case side1=>repeat(first | exact(Kd.C_below HR0.out HB.out) |(with_reducible refine Kd.C_alloc ?_ _) |(with_reducible refine Kd.C_drewN ?_ _) |(with_reducible refine Kd.C_drew ?_)));(case side2=>exact HC0.out);rintro e w6 ⟨rfl,hb⟩;have n0_:=Aside0.mk (bkB (g:=gb569) (o:=.cells #[.int .i64 0,.int .i64 0] 45 (0,0)) (by(with_reducible repeat(first | refine bkN ?_ _ | refine bkD ?_ | refine bkA ?_ _));exact BK569.out) hb);have n1_:=Aside0.mk (bwT (by repeat(first |(with_reducible first | exact HB.out | apply bwA | apply bwN | apply bw1 | refine bwS ?_ GE569.out) | exact HB.out)) hb);clear BK569;clear HB;have BK569:=n0_;have HB:=n1_;clear n0_ n1_;(try clear hb);(try clear hb2);(try clear hk);(try clear hi)) |(go_at_call 29;(with_reducible refine(q10_Factorial.calls k (l0.length : Int) t571 _ A3.out).mono ?_);rintro e w' ⟨rfl,⟨nd,rfl⟩⟩;(try first | exact⟨rfl,_,World.drewN_drewN _ _ _⟩ | exact⟨rfl,_,Eq.trans (World.drewN_drewN _ _ _) (congrArg (World.drewN _) (Nat.add_assoc _ _ _))⟩);have hcz7_0 : w6.cell? ⟨gb569,0,none⟩ = some (.int .i64 0):=(bkC BK569.out 0).trans rfl;have hcz7_1 : w6.cell? ⟨gb569,1,none⟩ = some (.int .i64 0):=(bkC BK569.out 1).trans rfl;have hfz7_0:=bkF BK569.out 0;have hfz7_1:=bkF BK569.out 1))
  repeat(go_quiet (first |((with_reducible refine gate_dst (N:=2) rfl ?_);refine box_event ?hg (N:=2) ?hd (cs:=#[.int .i64 0,.int .i64 0]) (t:=45) ?hr ?_;(case hd=>rfl);(case hg=>rfl);(case hr=>first |(go_simp;done) |(go_simp;rfl));intro gb569 hg w5 hbox hb;have n0_:=Aside0.mk (bwT (by repeat(first |(with_reducible first | exact HB.out | apply bwA | apply bwN | apply bw1) | exact HB.out)) hb);have n1_:=Aside0.mk (hbox);have n2_:=Aside0.mk ((by rw [hg];exact(bwZ (by repeat(first |(with_reducible first | exact HB.out | apply bwA | apply bwN | apply bw1) | exact HB.out))) : w.heap.size≤gb569));have n3_:=Aside0.mk ((by rw [hg];exact(bwZ (by repeat(first |(with_reducible first | exact HB.out | apply bwA | apply bwN | apply bw1) | exact HB.out))) : w.heap.size≤gb569));clear HB;have HB:=n0_;have BK569:=n1_;have GW569:=n2_;have GE569:=n3_;clear n0_ n1_ n2_ n3_;clear hb hbox hg) |(go_at_call 53;(with_reducible refine(q10_OrderAt.calls k _ _ l0 t570 _ ?side1 ?side2 A2.out).mono ?_);(case side1=>repeat(first | exact(Kd.C_below HR0.out HB.out) |(with_reducible refine Kd.C_alloc ?_ _) |(with_reducible refine Kd.C_drewN ?_ _) |(with_reducible refine Kd.C_drew ?_)));(case side2=>exact HC0.out);rintro e w6 ⟨rfl,hb⟩;have n0_:=Aside0.mk (bkB (g:=gb569) (o:=.cells #[.int .i64 0,.int .i64 0] 45 (0,0)) (by(with_reducible repeat(first | refine bkN ?_ _ | refine bkD ?_ | refine bkA ?_ _));exact BK569.out) hb);have n1_:=Aside0.mk (bwT (by repeat(first |(with_reducible first | exact HB.out | apply bwA | apply bwN | apply bw1 | refine bwS ?_ GE569.out) | exact HB.out)) hb);clear BK569;clear HB;have BK569:=n0_;have HB:=n1_;clear n0_ n1_;(try clear hb);(try clear hb2);(try clear hk);(try clear hi)) |(go_at_call 29;(with_reducible refine(q10_Factorial.calls k (l0.length : Int) t571 _ A3.out).mono ?_);rintro e w' ⟨rfl,⟨nd,rfl⟩⟩;(try first | exact⟨rfl,_,World.drewN_drewN _ _ _⟩ | exact⟨rfl,_,Eq.trans (World.drewN_drewN _ _ _) (congrArg (World.drewN _) (Nat.add_assoc _ _ _))⟩);have hcz7_0 : w6.cell? ⟨gb569,0,none⟩ = some (.int .i64 0):=(bkC BK569.out 0).trans rfl;have hcz7_1 : w6.cell? ⟨gb569,1,none⟩ = some (.int .i64 0):=(bkC BK569.out 1).trans rfl;have hfz7_0:=bkF BK569.out 0;have hfz7_1:=bkF BK569.out 1));try go_wp2_with (first |((with_reducible refine gate_dst (N:=2) rfl ?_);refine box_event ?hg (N:=2) ?hd (cs:=#[.int .i64 0,.int .i64 0]) (t:=45) ?hr ?_;(case hd=>rfl);(case hg=>rfl);(case hr=>first |(go_simp;done) |(go_simp;rfl));intro gb569 hg w5 hbox hb;have n0_:=Aside0.mk (bwT (by repeat(first |(with_reducible first | exact HB.out | apply bwA | apply bwN | apply bw1) | exact HB.out)) hb);have n1_:=Aside0.mk (hbox);have n2_:=Aside0.mk ((by rw [hg];exact(bwZ (by repeat(first |(with_reducible first | exact HB.out | apply bwA | apply bwN | apply bw1) | exact HB.out))) : w.heap.size≤gb569));have n3_:=Aside0.mk ((by rw [hg];exact(bwZ (by repeat(first |(with_reducible first | exact HB.out | apply bwA | apply bwN | apply bw1) | exact HB.out))) : w.heap.size≤gb569));clear HB;have HB:=n0_;have BK569:=n1_;have GW569:=n2_;have GE569:=n3_;clear n0_ n1_ n2_ n3_;clear hb hbox hg) |(go_at_call 53;(with_reducible refine(q10_OrderAt.calls k _ _ l0 t570 _ ?side1 ?side2 A2.out).mono ?_);(case side1=>repeat(first | exact(Kd.C_below HR0.out HB.out) |(with_reducible refine Kd.C_alloc ?_ _) |(with_reducible refine Kd.C_drewN ?_ _) |(with_reducible refine Kd.C_drew ?_)));(case side2=>exact HC0.out);rintro e w6 ⟨rfl,hb⟩;have n0_:=Aside0.mk (bkB (g:=gb569) (o:=.cells #[.int .i64 0,.int .i64 0] 45 (0,0)) (by(with_reducible repeat(first | refine bkN ?_ _ | refine bkD ?_ | refine bkA ?_ _));exact BK569.out) hb);have n1_:=Aside0.mk (bwT (by repeat(first |(with_reducible first | exact HB.out | apply bwA | apply bwN | apply bw1 | refine bwS ?_ GE569.out) | exact HB.out)) hb);clear BK569;clear HB;have BK569:=n0_;have HB:=n1_;clear n0_ n1_;(try clear hb);(try clear hb2);(try clear hk);(try clear hi)) |(go_at_call 29;(with_reducible refine(q10_Factorial.calls k (l0.length : Int) t571 _ A3.out).mono ?_);rintro e w' ⟨rfl,⟨nd,rfl⟩⟩;(try first | exact⟨rfl,_,World.drewN_drewN _ _ _⟩ | exact⟨rfl,_,Eq.trans (World.drewN_drewN _ _ _) (congrArg (World.drewN _) (Nat.add_assoc _ _ _))⟩);have hcz7_0 : w6.cell? ⟨gb569,0,none⟩ = some (.int .i64 0):=(bkC BK569.out 0).trans rfl;have hcz7_1 : w6.cell? ⟨gb569,1,none⟩ = some (.int .i64 0):=(bkC BK569.out 1).trans rfl;have hfz7_0:=bkF BK569.out 0;have hfz7_1:=bkF BK569.out 1)))
  refine bodyPost_ret (results_cell_row rfl _ _ gb569 45 #[.int .i64 (-1),.int .i64 (-1)] (0,0) _ rfl (by(with_reducible repeat(first | refine bkN ?_ _ | refine bkD ?_ | refine bkA ?_ _));refine blk_put (cs:=#[.int .i64 (-1),.int .i64 0]) ?_ 1 _ rfl;(with_reducible repeat(first | refine bkN ?_ _ | refine bkD ?_ | refine bkA ?_ _));refine blk_put (cs:=#[.int .i64 0,.int .i64 0]) ?_ 0 _ rfl;(with_reducible repeat(first | refine bkN ?_ _ | refine bkD ?_ | refine bkA ?_ _));exact BK569.out) Try.underlying45 rfl (by kernel_rfl)) rfl ?_
  exact⟨by first | rfl |(simp [errW_none,errW_some] <;> rfl) |(simp [*,errW_none,errW_some] <;> rfl),by repeat(first |(with_reducible first | exact HB.out | apply bwA | apply bwN | apply bw1 | refine bwS ?_ GE569.out) | exact HB.out)⟩
 rw [if_neg c4] at H
 have c4b0 : decide (t571 ≤(wrap64 (t570 + 1))) = false:=decide_eq_false c4
 clear c4
 replace H:=Option.bind_eq_some_iff.mp H
 obtain ⟨t572,A80,H⟩:=H
 replace H :(q10_Turn.l0 k l0 (l0.length : Int) t572 0) = some (r1,r2):=H
 have A8:=Aside0.mk A80
 clear A80
 have H':=Aside0.mk H
 clear H
 go_enter Try.func54,Try.ntmps54
 go_wp2_with (first |((with_reducible refine gate_dst (N:=2) rfl ?_);refine box_event ?hg (N:=2) ?hd (cs:=#[.int .i64 0,.int .i64 0]) (t:=45) ?hr ?_;(case hd=>rfl);(case hg=>rfl);(case hr=>first |(go_simp;done) |(go_simp;rfl));intro gb569 hg w9 hbox hb;have n0_:=Aside0.mk (bwT (by repeat(first |(with_reducible first | exact HB.out | apply bwA | apply bwN | apply bw1) | exact HB.out)) hb);have n1_:=Aside0.mk (hbox);have n2_:=Aside0.mk ((by rw [hg];exact(bwZ (by repeat(first |(with_reducible first | exact HB.out | apply bwA | apply bwN | apply bw1) | exact HB.out))) : w.heap.size≤gb569));have n3_:=Aside0.mk ((by rw [hg];exact(bwZ (by repeat(first |(with_reducible first | exact HB.out | apply bwA | apply bwN | apply bw1) | exact HB.out))) : w.heap.size≤gb569));clear HB;have HB:=n0_;have BK569:=n1_;have GW569:=n2_;have GE569:=n3_;clear n0_ n1_ n2_ n3_;clear hb hbox hg) |(go_at_call 53;(with_reducible refine(q10_OrderAt.calls k _ _ l0 t570 _ ?side1 ?side2 A2.out).mono ?_);(case side1=>repeat(first | exact(Kd.C_below HR0.out HB.out) |(with_reducible refine Kd.C_alloc ?_ _) |(with_reducible refine Kd.C_drewN ?_ _) |(with_reducible refine Kd.C_drew ?_)));(case side2=>exact HC0.out);rintro e w10 ⟨rfl,hb⟩;have n0_:=Aside0.mk (bkB (g:=gb569) (o:=.cells #[.int .i64 0,.int .i64 0] 45 (0,0)) (by(with_reducible repeat(first | refine bkN ?_ _ | refine bkD ?_ | refine bkA ?_ _));exact BK569.out) hb);have n1_:=Aside0.mk (bwT (by repeat(first |(with_reducible first | exact HB.out | apply bwA | apply bwN | apply bw1 | refine bwS ?_ GE569.out) | exact HB.out)) hb);clear BK569;clear HB;have BK569:=n0_;have HB:=n1_;clear n0_ n1_;(try clear hb);(try clear hb2);(try clear hk);(try clear hi)) |(go_at_call 29;(with_reducible refine(q10_Factorial.calls k (l0.length : Int) t571 _ A3.out).mono ?_);rintro e w' ⟨rfl,⟨nd,rfl⟩⟩;(try first | exact⟨rfl,_,World.drewN_drewN _ _ _⟩ | exact⟨rfl,_,Eq.trans (World.drewN_drewN _ _ _) (congrArg (World.drewN _) (Nat.add_assoc _ _ _))⟩)) |(go_at_call 51;(with_reducible refine(q10_Order.calls k (l0.length : Int) (wrap64 (t570 + 1)) t572 _ A8.out).mono ?_);rintro e w11 ⟨v573,rfl,ho0,hb⟩;have n0_:=Aside0.mk (Kd.R_lower ho0 (bwZ (by repeat(first |(with_reducible first | exact HB.out | apply bwA | apply bwN | apply bw1 | refine bwS ?_ GE569.out) | exact HB.out))));have n1_:=Aside0.mk (bkB (g:=gb569) (o:=.cells #[.int .i64 0,.int .i64 0] 45 (0,0)) (by(with_reducible repeat(first | refine bkN ?_ _ | refine bkD ?_ | refine bkA ?_ _));exact BK569.out) hb);have n2_:=Aside0.mk (bwT (by repeat(first |(with_reducible first | exact HB.out | apply bwA | apply bwN | apply bw1 | refine bwS ?_ GE569.out) | exact HB.out)) hb);clear BK569;clear HB;have HO574:=n0_;have BK569:=n1_;have HB:=n2_;clear n0_ n1_ n2_;(try clear hb);(try clear hb2);(try clear hk);(try clear hi);(try clear ho0)))
 repeat(go_quiet (first |((with_reducible refine gate_dst (N:=2) rfl ?_);refine box_event ?hg (N:=2) ?hd (cs:=#[.int .i64 0,.int .i64 0]) (t:=45) ?hr ?_;(case hd=>rfl);(case hg=>rfl);(case hr=>first |(go_simp;done) |(go_simp;rfl));intro gb569 hg w9 hbox hb;have n0_:=Aside0.mk (bwT (by repeat(first |(with_reducible first | exact HB.out | apply bwA | apply bwN | apply bw1) | exact HB.out)) hb);have n1_:=Aside0.mk (hbox);have n2_:=Aside0.mk ((by rw [hg];exact(bwZ (by repeat(first |(with_reducible first | exact HB.out | apply bwA | apply bwN | apply bw1) | exact HB.out))) : w.heap.size≤gb569));have n3_:=Aside0.mk ((by rw [hg];exact(bwZ (by repeat(first |(with_reducible first | exact HB.out | apply bwA | apply bwN | apply bw1) | exact HB.out))) : w.heap.size≤gb569));clear HB;have HB:=n0_;have BK569:=n1_;have GW569:=n2_;have GE569:=n3_;clear n0_ n1_ n2_ n3_;clear hb hbox hg) |(go_at_call 53;(with_reducible refine(q10_OrderAt.calls k _ _ l0 t570 _ ?side1 ?side2 A2.out).mono ?_);(case side1=>repeat(first | exact(Kd.C_below HR0.out HB.out) |(with_reducible refine Kd.C_alloc ?_ _) |(with_reducible refine Kd.C_drewN ?_ _) |(with_reducible refine Kd.C_drew ?_)));(case side2=>exact HC0.out);rintro e w10 ⟨rfl,hb⟩;have n0_:=Aside0.mk (bkB (g:=gb569) (o:=.cells #[.int .i64 0,.int .i64 0] 45 (0,0)) (by(with_reducible repeat(first | refine bkN ?_ _ | refine bkD ?_ | refine bkA ?_ _));exact BK569.out) hb);have n1_:=Aside0.mk (bwT (by repeat(first |(with_reducible first | exact HB.out | apply bwA | apply bwN | apply bw1 | refine bwS ?_ GE569.out) | exact HB.out)) hb);clear BK569;clear HB;have BK569:=n0_;have HB:=n1_;clear n0_ n1_;(try clear hb);(try clear hb2);(try clear hk);(try clear hi)) |(go_at_call 29;(with_reducible refine(q10_Factorial.calls k (l0.length : Int) t571 _ A3.out).mono ?_);rintro e w' ⟨rfl,⟨nd,rfl⟩⟩;(try first | exact⟨rfl,_,World.drewN_drewN _ _ _⟩ | exact⟨rfl,_,Eq.trans (World.drewN_drewN _ _ _) (congrArg (World.drewN _) (Nat.add_assoc _ _ _))⟩)) |(go_at_call 51;(with_reducible refine(q10_Order.calls k (l0.length : Int) (wrap64 (t570 + 1)) t572 _ A8.out).mono ?_);rintro e w11 ⟨v573,rfl,ho0,hb⟩;have n0_:=Aside0.mk (Kd.R_lower ho0 (bwZ (by repeat(first |(with_reducible first | exact HB.out | apply bwA | apply bwN | apply bw1 | refine bwS ?_ GE569.out) | exact HB.out))));have n1_:=Aside0.mk (bkB (g:=gb569) (o:=.cells #[.int .i64 0,.int .i64 0] 45 (0,0)) (by(with_reducible repeat(first | refine bkN ?_ _ | refine bkD ?_ | refine bkA ?_ _));exact BK569.out) hb);have n2_:=Aside0.mk (bwT (by repeat(first |(with_reducible first | exact HB.out | apply bwA | apply bwN | apply bw1 | refine bwS ?_ GE569.out) | exact HB.out)) hb);clear BK569;clear HB;have HO574:=n0_;have BK569:=n1_;have HB:=n2_;clear n0_ n1_ n2_;(try clear hb);(try clear hb2);(try clear hk);(try clear hi);(try clear ho0)));try go_wp2_with (first |((with_reducible refine gate_dst (N:=2) rfl ?_);refine box_event ?hg (N:=2) ?hd (cs:=#[.int .i64 0,.int .i64 0]) (t:=45) ?hr ?_;(case hd=>rfl);(case hg=>rfl);(case hr=>first |(go_simp;done) |(go_simp;rfl));intro gb569 hg w9 hbox hb;have n0_:=Aside0.mk (bwT (by repeat(first |(with_reducible first | exact HB.out | apply bwA | apply bwN | apply bw1) | exact HB.out)) hb);have n1_:=Aside0.mk (hbox);have n2_:=Aside0.mk ((by rw [hg];exact(bwZ (by repeat(first |(with_reducible first | exact HB.out | apply bwA | apply bwN | apply bw1) | exact HB.out))) : w.heap.size≤gb569));have n3_:=Aside0.mk ((by rw [hg];exact(bwZ (by repeat(first |(with_reducible first | exact HB.out | apply bwA | apply bwN | apply bw1) | exact HB.out))) : w.heap.size≤gb569));clear HB;have HB:=n0_;have BK569:=n1_;have GW569:=n2_;have GE569:=n3_;clear n0_ n1_ n2_ n3_;clear hb hbox hg) |(go_at_call 53;(with_reducible refine(q10_OrderAt.calls k _ _ l0 t570 _ ?side1 ?side2 A2.out).mono ?_);(case side1=>repeat(first | exact(Kd.C_below HR0.out HB.out) |(with_reducible refine Kd.C_alloc ?_ _) |(with_reducible refine Kd.C_drewN ?_ _) |(with_reducible refine Kd.C_drew ?_)));(case side2=>exact HC0.out);rintro e w10 ⟨rfl,hb⟩;have n0_:=Aside0.mk (bkB (g:=gb569) (o:=.cells #[.int .i64 0,.int .i64 0] 45 (0,0)) (by(with_reducible repeat(first | refine bkN ?_ _ | refine bkD ?_ | refine bkA ?_ _));exact BK569.out) hb);have n1_:=Aside0.mk (bwT (by repeat(first |(with_reducible first | exact HB.out | apply bwA | apply bwN | apply bw1 | refine bwS ?_ GE569.out) | exact HB.out)) hb);clear BK569;clear HB;have BK569:=n0_;have HB:=n1_;clear n0_ n1_;(try clear hb);(try clear hb2);(try clear hk);(try clear hi)) |(go_at_call 29;(with_reducible refine(q10_Factorial.calls k (l0.length : Int) t571 _ A3.out).mono ?_);rintro e w' ⟨rfl,⟨nd,rfl⟩⟩;(try first | exact⟨rfl,_,World.drewN_drewN _ _ _⟩ | exact⟨rfl,_,Eq.trans (World.drewN_drewN _ _ _) (congrArg (World.drewN _) (Nat.add_assoc _ _ _))⟩)) |(go_at_call 51;(with_reducible refine(q10_Order.calls k (l0.length : Int) (wrap64 (t570 + 1)) t572 _ A8.out).mono ?_);rintro e w11 ⟨v573,rfl,ho0,hb⟩;have n0_:=Aside0.mk (Kd.R_lower ho0 (bwZ (by repeat(first |(with_reducible first | exact HB.out | apply bwA | apply bwN | apply bw1 | refine bwS ?_ GE569.out) | exact HB.out))));have n1_:=Aside0.mk (bkB (g:=gb569) (o:=.cells #[.int .i64 0,.int .i64 0] 45 (0,0)) (by(with_reducible repeat(first | refine bkN ?_ _ | refine bkD ?_ | refine bkA ?_ _));exact BK569.out) hb);have n2_:=Aside0.mk (bwT (by repeat(first |(with_reducible first | exact HB.out | apply bwA | apply bwN | apply bw1 | refine bwS ?_ GE569.out) | exact HB.out)) hb);clear BK569;clear HB;have HO574:=n0_;have BK569:=n1_;have HB:=n2_;clear n0_ n1_ n2_;(try clear hb);(try clear hb2);(try clear hk);(try clear hi);(try clear ho0))))
 go_loopg [6] k (fun kq v6 w'=>∃ (x6_1 : Int) (x570000_1 : Int) (x570001_1 : Int),v6 = .int .i64 x6_1∧Aside0 (q10_Turn.l0 kq l0 (l0.length : Int) t572 x6_1 = some (r1,r2))∧Aside0 (kq≤k)∧Aside0 (Kd.R (Kd.int .i64) 3 w' w.heap.size (fun _=>True) v573 t572)∧Aside0 (w'.heap[gb569]? = some (.cells #[.int .i64 x570000_1,.int .i64 x570001_1] 45 (0,0)))∧Aside0 (Below w.heap.size w w'))
 case atStart=>exact⟨(0),(0),(0),(by first | rfl |(simp;done) |(simp [*];done)),H',⟨Nat.le_refl _⟩,⟨by(with_reducible repeat(first | apply Kd.R_alloc | apply Kd.R_drewN | apply Kd.R_drew));exact HO574.out⟩,⟨by(with_reducible repeat(first | refine bkN ?_ _ | refine bkD ?_ | refine bkA ?_ _));exact BK569.out⟩,⟨by repeat(first |(with_reducible first | exact HB.out | apply bwA | apply bwN | apply bw1 | refine bwS ?_ GE569.out) | exact HB.out)⟩⟩
 clear H'
 try clear p2
 try clear c4
 try clear c4b0
 try clear c5
 try clear p6
 try clear hcz7_0
 try clear hcz7_1
 try clear hfz7_0
 try clear hfz7_1
 obtain ⟨x6_1,x570000_1,x570001_1,rfl,HA,HK1,HO_5,BK569,HB⟩:=hrel
 cases gk with
 | zero=>exact absurd HA.out (by simp [q10_Turn.l0])
 | succ k1 =>
  have H:=HA.out
  clear HA
  simp only [q10_Turn.l0] at H
  by_cases c12 : x6_1 < (l0.length : Int)
  rotate_left
  ·rw [if_neg c12] at H
   have c12b0 : decide (x6_1 < (l0.length : Int)) = false:=decide_eq_false c12
   clear c12
   simp only [Option.some.injEq,Prod.mk.injEq] at H
   obtain ⟨rfl,rfl⟩:=H
   have hcz20_0 : wr.cell? ⟨gb569,0,none⟩ = some (.int .i64 x570000_1):=(bkC BK569.out 0).trans rfl
   have hcz20_1 : wr.cell? ⟨gb569,1,none⟩ = some (.int .i64 x570001_1):=(bkC BK569.out 1).trans rfl
   have hfz20_0:=bkF BK569.out 0
   have hfz20_1:=bkF BK569.out 1
   go_wp2
   repeat(go_quiet (fail);try go_wp2)
   refine bodyPost_ret (results_cell_row rfl _ _ gb569 45 #[.int .i64 (-1),.int .i64 (-1)] (0,0) _ rfl (by(with_reducible repeat(first | refine bkN ?_ _ | refine bkD ?_ | refine bkA ?_ _));refine blk_put (cs:=#[.int .i64 (-1),.int .i64 x570001_1]) ?_ 1 _ rfl;(with_reducible repeat(first | refine bkN ?_ _ | refine bkD ?_ | refine bkA ?_ _));refine blk_put (cs:=#[.int .i64 x570000_1,.int .i64 x570001_1]) ?_ 0 _ rfl;(with_reducible repeat(first | refine bkN ?_ _ | refine bkD ?_ | refine bkA ?_ _));exact BK569.out) Try.underlying45 rfl (by kernel_rfl)) rfl ?_
   exact⟨by first | rfl |(simp [errW_none,errW_some] <;> rfl) |(simp [*,errW_none,errW_some] <;> rfl),by repeat(first |(with_reducible first | exact HB.out | apply bwA | apply bwN | apply bw1 | refine bwS ?_ GE569.out) | exact HB.out)⟩
  rw [if_pos c12] at H
  have c12b0 : decide (x6_1 < (l0.length : Int)) = true:=decide_eq_true c12
  clear c12
  by_cases c13 : 0≤x6_1
  rotate_left
  ·rw [if_neg c13] at H
   exact absurd H (by simp)
  rw [if_pos c13] at H
  have c13b0 : decide (0≤x6_1) = true:=decide_eq_true c13
  clear c13
  by_cases c14 : x6_1 < (t572.length : Int)
  rotate_left
  ·rw [if_neg c14] at H
   exact absurd H (by simp)
  rw [if_pos c14] at H
  have c14b0 : decide (x6_1 < (t572.length : Int)) = true:=decide_eq_true c14
  clear c14
  by_cases c15 : x6_1 < (l0.length : Int)
  rotate_left
  ·rw [if_neg c15] at H
   exact absurd H (by simp)
  rw [if_pos c15] at H
  have c15b0 : decide (x6_1 < (l0.length : Int)) = true:=decide_eq_true c15
  clear c15
  by_cases c16 :(rd t572 x6_1) =(rd l0 x6_1)
  ·rw [if_pos c16] at H
   have c16b0 :((rd t572 x6_1) ==(rd l0 x6_1)) = true:=beq_iff_eq.mpr c16
   have c16b1 :((rd t572 x6_1) !=(rd l0 x6_1)) = false:=bne_eq_false_iff_eq.mpr c16
   clear c16
   have H':=Aside0.mk H
   clear H
   obtain ⟨Ao17,co17,eo17⟩:=Kd.R_slice HO_5.out
   subst eo17
   have p575 : 0 ≤(x6_1 : Int):=of_decide_eq_true (by first |(with_reducible assumption) | assumption)
   have q575 : x6_1 < (t572.length : Int):=of_decide_eq_true (by first |(with_reducible assumption) | assumption)
   obtain ⟨ad575,e575,hx575_0⟩:=Kd.at_int (Kd.R_reads' HO_5.out).2.2 x6_1 p575 q575
   cases e575
   replace p575:=eq_true p575
   replace q575:=eq_true q575
   have p576 : 0 ≤(x6_1 : Int):=of_decide_eq_true (by first |(with_reducible assumption) | assumption)
   have q576 : x6_1 < (l0.length : Int):=of_decide_eq_true (by first |(with_reducible assumption) | assumption)
   obtain ⟨ad576,e576,hx576_0⟩:=Kd.at_int HR0.out x6_1 p576 q576
   cases e576
   replace hx576_0:=(HB.out.cell (World.block_lt_of_cell? w _ hx576_0)).trans hx576_0
   replace p576:=eq_true p576
   replace q576:=eq_true q576
   go_wp2
   repeat(go_quiet (fail);try go_wp2)
   go_roundg k1
   case measure=>have:=HK1.out;omega
   exact⟨(wrap64 (x6_1 + 1)),(x570000_1),(x570001_1),(by first | rfl |(simp;done) |(simp [*];done)),H',⟨by have:=HK1.out;omega⟩,⟨by(with_reducible repeat(first | apply Kd.R_alloc | apply Kd.R_drewN | apply Kd.R_drew));exact HO_5.out⟩,⟨by(with_reducible repeat(first | refine bkN ?_ _ | refine bkD ?_ | refine bkA ?_ _));exact BK569.out⟩,⟨by repeat(first |(with_reducible first | exact HB.out | apply bwA | apply bwN | apply bw1 | refine bwS ?_ GE569.out) | exact HB.out)⟩⟩
  rw [if_neg c16] at H
  have c16b0 :((rd t572 x6_1) ==(rd l0 x6_1)) = false:=beq_eq_false_iff_ne.mpr c16
  have c16b1 :((rd t572 x6_1) !=(rd l0 x6_1)) = true:=bne_iff_ne.mpr c16
  simp only [Option.some.injEq,Prod.mk.injEq] at H
  obtain ⟨rfl,rfl⟩:=H
  obtain ⟨Ao18,co18,eo18⟩:=Kd.R_slice HO_5.out
  subst eo18
  have p575 : 0 ≤(x6_1 : Int):=of_decide_eq_true (by first |(with_reducible assumption) | assumption)
  have q575 : x6_1 < (t572.length : Int):=of_decide_eq_true (by first |(with_reducible assumption) | assumption)
  obtain ⟨ad575,e575,hx575_0⟩:=Kd.at_int (Kd.R_reads' HO_5.out).2.2 x6_1 p575 q575
  cases e575
  replace p575:=eq_true p575
  replace q575:=eq_true q575
  have p576 : 0 ≤(x6_1 : Int):=of_decide_eq_true (by first |(with_reducible assumption) | assumption)
  have q576 : x6_1 < (l0.length : Int):=of_decide_eq_true (by first |(with_reducible assumption) | assumption)
  obtain ⟨ad576,e576,hx576_0⟩:=Kd.at_int HR0.out x6_1 p576 q576
  cases e576
  replace hx576_0:=(HB.out.cell (World.block_lt_of_cell? w _ hx576_0)).trans hx576_0
  replace p576:=eq_true p576
  replace q576:=eq_true q576
  have hcz19_0 : wr.cell? ⟨gb569,0,none⟩ = some (.int .i64 x570000_1):=(bkC BK569.out 0).trans rfl
  have hcz19_1 : wr.cell? ⟨gb569,1,none⟩ = some (.int .i64 x570001_1):=(bkC BK569.out 1).trans rfl
  have hfz19_0:=bkF BK569.out 0
  have hfz19_1:=bkF BK569.out 1
  go_wp2
  repeat(go_quiet (fail);try go_wp2)
  refine bodyPost_ret (results_cell_row rfl _ _ gb569 45 #[.int .i64 x6_1,.int .i64 (wrap64 (x6_1 + 1))] (0,0) _ rfl (by(with_reducible repeat(first | refine bkN ?_ _ | refine bkD ?_ | refine bkA ?_ _));refine blk_put (cs:=#[.int .i64 x6_1,.int .i64 x570001_1]) ?_ 1 _ rfl;(with_reducible repeat(first | refine bkN ?_ _ | refine bkD ?_ | refine bkA ?_ _));refine blk_put (cs:=#[.int .i64 x570000_1,.int .i64 x570001_1]) ?_ 0 _ rfl;(with_reducible repeat(first | refine bkN ?_ _ | refine bkD ?_ | refine bkA ?_ _));exact BK569.out) Try.underlying45 rfl (by kernel_rfl)) rfl ?_
  exact⟨by first | rfl |(simp [errW_none,errW_some] <;> rfl) |(simp [*,errW_none,errW_some] <;> rfl),by repeat(first |(with_reducible first | exact HB.out | apply bwA | apply bwN | apply bw1 | refine bwS ?_ GE569.out) | exact HB.out)⟩

attribute [local go_sem high] eqA45
mutual
def w10_TurnsOrders.j0 : Nat → Int → Int → List Int → List Int → Int → Int → Int → Int → Bool → Int → Int → Option (Bool)
 | 0,_,_,_,_,_,_,_,_,_,_,_=>none
 | k + 1,x0,x1,x7,x8,x9,x10,x11,x13,x47,x590000,x590001=>if x47 = true then(if(x8.length : Int) = 0 then(if x9 = 2 then(w10_TurnsOrders.j1 k x7 x10 x11 x13 x590000 x590001) else(some false)) else(some false)) else((q10_Order.f k x0 x1).bind fun t591=>((w10_ints.f k x8 t591).bind fun t594=>(if t594 = true then(if x9 = 0 then(w10_TurnsOrders.j1 k x7 x10 x11 x13 x590000 x590001) else(some false)) else(some false))))
def w10_TurnsOrders.j1 : Nat → List Int → Int → Int → Int → Int → Int → Option (Bool)
 | 0,_,_,_,_,_,_=>none
 | k + 1,x7,x10,x11,x13,x590000,x590001=>(q10_Orders.f k x7).bind fun t595=>(if t595 = true then((q10_OrderAt.f k x7).bind fun t596=>(if x10 = t596 then(if x11 = 0 then((q10_Turn.f k x7).bind fun bt597=>(if(x590000 == bt597.1 && (x590001 == bt597.2)) = true then(if x13 = 0 then((w10_awake.f k).bind fun t599=>(some t599)) else(some false)) else(some false))) else(some false)) else(some false))) else(if x10 = 0 then(if x11 = 2 then(if(x590000 == 0 && (x590001 == 0)) = true then(if x13 = 2 then((w10_awake.f k).bind fun t600=>(some t600)) else(some false)) else(some false)) else(some false)) else(some false)))
end
def w10_TurnsOrders.f (k : Nat) (a0 : Int) (a1 : Int) (l2 : List Int) : Option (Bool):=(w10_list.f l2).bind fun t577=>((turns_Order.f a0 a1).bind fun bt580=>((turns_OrderAt.f k t577).bind fun bt584=>((turns_Turn.f k t577).bind fun bt586=>(if a0 < 0 then(w10_TurnsOrders.j0 k a0 a1 t577 bt580.1 bt580.2 bt584.1 bt584.2 bt586.2.2 true bt586.1 bt586.2.1) else(if a0 > 18 then(w10_TurnsOrders.j0 k a0 a1 t577 bt580.1 bt580.2 bt584.1 bt584.2 bt586.2.2 true bt586.1 bt586.2.1) else(if a1 < 0 then(w10_TurnsOrders.j0 k a0 a1 t577 bt580.1 bt580.2 bt584.1 bt584.2 bt586.2.2 true bt586.1 bt586.2.1) else((q10_Factorial.f k a0).bind fun t590=>(w10_TurnsOrders.j0 k a0 a1 t577 bt580.1 bt580.2 bt584.1 bt584.2 bt586.2.2 (decide (a1 ≥ t590)) bt586.1 bt586.2.1))))))))
def w10_TurnsOrders.T12 : Bool×List (List Nat×List Nat):=(true,[([],[]),([],[]),([1],[1]),([0,2],[0,2]),([3,2],[3]),([4],[4]),([5,4],[4,5]),([4,6],[4,6]),([7,4],[7]),([8],[8]),([8],[8]),([10,8,8],[8,10]),([9,11,8],[8,9,11]),([8,12],[8,12]),([13,11],[13]),([14],[14]),([15,14],[14,15]),([14,16],[14,16]),([17,14],[17]),([18,18],[18]),([18,19],[18,19]),([20,19,0,1,2,3,4,5,6,7,8,9,10,11,12,13,14,15,16,17,18,19,20],[20])])
def w10_TurnsOrders.B12 : List Nat:=[0,0,2,7,15,31,63,127,255,511,511,1535,4095,8191,16383,32767,65535,131071,262143,524287,1048575,2097151]
theorem w10_TurnsOrders.tab12 : rtab .any (opsOf Try.f13 12) = w10_TurnsOrders.T12:=by kernel_rfl
theorem w10_TurnsOrders.bits12 : waitsOk w10_TurnsOrders.T12.2 w10_TurnsOrders.B12 = true:=by kernel_rfl
set_option maxHeartbeats 8000000 in
set_option maxRecDepth 100000 in
theorem w10_TurnsOrders.calls (k : Nat) (a0 : Int) (a1 : Int) (A2 : Option Addr) (c2 : Nat) (l2 : List Int) (r : Bool) (w : World) (hr2 : Kd.C (Kd.int .i64) w A2 l2.length l2) (hc2 : l2.length ≤ c2) (h : w10_TurnsOrders.f k a0 a1 l2 = some r) :
  Calls Try.prog 13 #[.int .i64 a0,.int .i64 a1,.slice A2 l2.length c2] w fun e w'=>e = .returned (.bool r)∧Below w.heap.size w w':=by
 have hu45:=Try.underlying45
 have HR2:=Aside0.mk hr2
 have HC2:=Aside0.mk hc2
 clear hr2 hc2
 have HB:=Aside0.mk (Below.refl w.heap.size w)
 have H :((w10_list.f l2).bind fun t577=>((turns_Order.f a0 a1).bind fun bt580=>((turns_OrderAt.f k t577).bind fun bt584=>((turns_Turn.f k t577).bind fun bt586=>(if a0 < 0 then(w10_TurnsOrders.j0 k a0 a1 t577 bt580.1 bt580.2 bt584.1 bt584.2 bt586.2.2 true bt586.1 bt586.2.1) else(if a0 > 18 then(w10_TurnsOrders.j0 k a0 a1 t577 bt580.1 bt580.2 bt584.1 bt584.2 bt586.2.2 true bt586.1 bt586.2.1) else(if a1 < 0 then(w10_TurnsOrders.j0 k a0 a1 t577 bt580.1 bt580.2 bt584.1 bt584.2 bt586.2.2 true bt586.1 bt586.2.1) else((q10_Factorial.f k a0).bind fun t590=>(w10_TurnsOrders.j0 k a0 a1 t577 bt580.1 bt580.2 bt584.1 bt584.2 bt586.2.2 (decide (a1 ≥ t590)) bt586.1 bt586.2.1))))))))) = some r:=h
 clear h
 replace H:=Option.bind_eq_some_iff.mp H
 obtain ⟨t577,A40,H⟩:=H
 replace H :((turns_Order.f a0 a1).bind fun bt580=>((turns_OrderAt.f k t577).bind fun bt584=>((turns_Turn.f k t577).bind fun bt586=>(if a0 < 0 then(w10_TurnsOrders.j0 k a0 a1 t577 bt580.1 bt580.2 bt584.1 bt584.2 bt586.2.2 true bt586.1 bt586.2.1) else(if a0 > 18 then(w10_TurnsOrders.j0 k a0 a1 t577 bt580.1 bt580.2 bt584.1 bt584.2 bt586.2.2 true bt586.1 bt586.2.1) else(if a1 < 0 then(w10_TurnsOrders.j0 k a0 a1 t577 bt580.1 bt580.2 bt584.1 bt584.2 bt586.2.2 true bt586.1 bt586.2.1) else((q10_Factorial.f k a0).bind fun t590=>(w10_TurnsOrders.j0 k a0 a1 t577 bt580.1 bt580.2 bt584.1 bt584.2 bt586.2.2 (decide (a1 ≥ t590)) bt586.1 bt586.2.1)))))))) = some r:=H
 have A4:=Aside0.mk A40
 clear A40
 replace H:=Option.bind_eq_some_iff.mp H
 obtain ⟨⟨t580,t581⟩,A50,H⟩:=H
 replace H :((turns_OrderAt.f k t577).bind fun bt584=>((turns_Turn.f k t577).bind fun bt586=>(if a0 < 0 then(w10_TurnsOrders.j0 k a0 a1 t577 t580 t581 bt584.1 bt584.2 bt586.2.2 true bt586.1 bt586.2.1) else(if a0 > 18 then(w10_TurnsOrders.j0 k a0 a1 t577 t580 t581 bt584.1 bt584.2 bt586.2.2 true bt586.1 bt586.2.1) else(if a1 < 0 then(w10_TurnsOrders.j0 k a0 a1 t577 t580 t581 bt584.1 bt584.2 bt586.2.2 true bt586.1 bt586.2.1) else((q10_Factorial.f k a0).bind fun t590=>(w10_TurnsOrders.j0 k a0 a1 t577 t580 t581 bt584.1 bt584.2 bt586.2.2 (decide (a1 ≥ t590)) bt586.1 bt586.2.1))))))) = some r:=H
 have A5:=Aside0.mk A50
 clear A50
 replace H:=Option.bind_eq_some_iff.mp H
 obtain ⟨⟨t584,t585⟩,A60,H⟩:=H
 replace H :((turns_Turn.f k t577).bind fun bt586=>(if a0 < 0 then(w10_TurnsOrders.j0 k a0 a1 t577 t580 t581 t584 t585 bt586.2.2 true bt586.1 bt586.2.1) else(if a0 > 18 then(w10_TurnsOrders.j0 k a0 a1 t577 t580 t581 t584 t585 bt586.2.2 true bt586.1 bt586.2.1) else(if a1 < 0 then(w10_TurnsOrders.j0 k a0 a1 t577 t580 t581 t584 t585 bt586.2.2 true bt586.1 bt586.2.1) else((q10_Factorial.f k a0).bind fun t590=>(w10_TurnsOrders.j0 k a0 a1 t577 t580 t581 t584 t585 bt586.2.2 (decide (a1 ≥ t590)) bt586.1 bt586.2.1)))))) = some r:=H
 have A6:=Aside0.mk A60
 clear A60
 replace H:=Option.bind_eq_some_iff.mp H
 obtain ⟨⟨t586,t587,t588⟩,A70,H⟩:=H
 replace H :(if a0 < 0 then(w10_TurnsOrders.j0 k a0 a1 t577 t580 t581 t584 t585 t588 true t586 t587) else(if a0 > 18 then(w10_TurnsOrders.j0 k a0 a1 t577 t580 t581 t584 t585 t588 true t586 t587) else(if a1 < 0 then(w10_TurnsOrders.j0 k a0 a1 t577 t580 t581 t584 t585 t588 true t586 t587) else((q10_Factorial.f k a0).bind fun t590=>(w10_TurnsOrders.j0 k a0 a1 t577 t580 t581 t584 t585 t588 (decide (a1 ≥ t590)) t586 t587))))) = some r:=H
 have A7:=Aside0.mk A70
 clear A70
 have HC8:=Aside0.mk H
 clear H
 go_enter Try.func13,Try.ntmps13
 go_upto_region 5 with (first |((with_reducible refine gate_callee (f:=16) rfl ?_);refine goesL_ (some 15) rfl rfl Try.func16 (by kernel_rfl) rfl #[.slice A2 l2.length c2] rfl (by(try simp only [List.map_toArray,List.map_cons,List.map_nil]);first | done | rfl |(simp only [List.length_drop,List.length_take];rfl)) ?_;(with_reducible refine(w10_list.calls _ _ l2 t577 _ ?side1 ?side2 A4.out).mono ?_);(case side1=>repeat(first | exact HR2.out |(with_reducible refine Kd.C_alloc ?_ _) |(with_reducible refine Kd.C_drewN ?_ _) |(with_reducible refine Kd.C_drew ?_)));(case side2=>exact HC2.out);rintro e w9 ⟨v578,rfl,ho0,hb⟩;refine⟨_,rfl,?_⟩;have n0_:=Aside0.mk (Kd.R_lower ho0 (bwZ (by repeat(first |(with_reducible first | exact HB.out | apply bwA | apply bwN | apply bw1) | exact HB.out))));have n1_:=Aside0.mk (bwT (by repeat(first |(with_reducible first | exact HB.out | apply bwA | apply bwN | apply bw1) | exact HB.out)) hb);clear HB;have HO579:=n0_;have HB:=n1_;clear n0_ n1_;(try clear hb);(try clear hb2);(try clear hk);(try clear hi);(try clear ho0)) |((with_reducible refine gate_callee (f:=48) rfl ?_);refine goesL_ (some 19) rfl rfl Try.func48 (by kernel_rfl) rfl #[.int .i64 a0,.int .i64 a1] rfl (by(try simp only [List.map_toArray,List.map_cons,List.map_nil]);first | done | rfl |(simp only [List.length_drop,List.length_take];rfl)) ?_;(with_reducible refine(turns_Order.calls a0 a1 t580 t581 _ A5.out).mono ?_);rintro e w10 ⟨v582,rfl,ho0,hb⟩;refine⟨_,rfl,?_⟩;have n0_:=Aside0.mk (Kd.R_elder' (by(with_reducible repeat(first | apply Kd.R_alloc | apply Kd.R_drewN | apply Kd.R_drew));exact HO579.out) (Kd.R_base ho0) hb);have n1_:=Aside0.mk (Kd.R_lower (Kd.R_new' ho0 (Kd.R_lt (by(with_reducible repeat(first | apply Kd.R_alloc | apply Kd.R_drewN | apply Kd.R_drew));exact HO579.out))) (bwZ (by repeat(first |(with_reducible first | exact HB.out | apply bwA | apply bwN | apply bw1) | exact HB.out))));have n2_:=Aside0.mk (bwT (by repeat(first |(with_reducible first | exact HB.out | apply bwA | apply bwN | apply bw1) | exact HB.out)) hb);clear HO579;clear HB;have HO579:=n0_;have HO583:=n1_;have HB:=n2_;clear n0_ n1_ n2_;(try clear hb);(try clear hb2);(try clear hk);(try clear hi);(try clear ho0);obtain ⟨Ao11,co11,eo11⟩:=Kd.R_slice HO579.out;subst eo11) |((with_reducible refine gate_callee (f:=49) rfl ?_);refine goesL_ (some 24) rfl rfl Try.func49 (by kernel_rfl) rfl #[.slice Ao11 t577.length co11] rfl (by(try simp only [List.map_toArray,List.map_cons,List.map_nil]);first | done | rfl |(simp only [List.length_drop,List.length_take];rfl)) ?_;(with_reducible refine(turns_OrderAt.calls k _ _ t577 t584 t585 _ ?side1 ?side2 A6.out).mono ?_);(case side1=>repeat(first | exact(Kd.R_reads' HO579.out).2.2 |(with_reducible refine Kd.C_alloc ?_ _) |(with_reducible refine Kd.C_drewN ?_ _) |(with_reducible refine Kd.C_drew ?_)));(case side2=>exact(Kd.R_reads' HO579.out).2.1);rintro e w' ⟨rfl,⟨nd,rfl⟩⟩;refine⟨_,rfl,?_⟩;(try(rw [drewN_self w10];generalize hq_ : World.drewN w10 _ = w10;have n0_ : Aside0 (Kd.R (Kd.int .i64) 3 w10 w.heap.size (fun k_=>some k_ ≠(v582 : Value).ownBlock) (.slice Ao11 t577.length co11) t577):=⟨by rw [← hq_];exact(by(with_reducible repeat(first | apply Kd.R_alloc | apply Kd.R_drewN | apply Kd.R_drew));exact Kd.R_mono HO579.out (fun _ hk=>hk.2))⟩;have n1_ : Aside0 (Kd.R (Kd.int .i64) 3 w10 w.heap.size (fun k_=>some k_ ≠(.slice Ao11 t577.length co11 : Value).ownBlock) v582 t580):=⟨by rw [← hq_];exact(by(with_reducible repeat(first | apply Kd.R_alloc | apply Kd.R_drewN | apply Kd.R_drew));exact Kd.R_mono HO583.out (fun _ hk=>hk.2))⟩;have n2_ : Aside0 (Below w.heap.size w w10):=⟨by rw [← hq_];exact(by repeat(first |(with_reducible first | exact HB.out | apply bwA | apply bwN | apply bw1) | exact HB.out))⟩;clear HO579 HO583 HB hq_;have HO579:=n0_;have HO583:=n1_;have HB:=n2_;clear n0_ n1_ n2_))) |((with_reducible refine gate_callee (f:=50) rfl ?_);refine goesL_ (some 29) rfl rfl Try.func50 (by kernel_rfl) rfl #[.slice Ao11 t577.length co11] rfl (by(try simp only [List.map_toArray,List.map_cons,List.map_nil]);first | done | rfl |(simp only [List.length_drop,List.length_take];rfl)) ?_;(with_reducible refine(turns_Turn.calls k _ _ t577 t586 t587 t588 _ ?side1 ?side2 A7.out).mono ?_);(case side1=>repeat(first | exact(Kd.R_reads' HO579.out).2.2 |(with_reducible refine Kd.C_alloc ?_ _) |(with_reducible refine Kd.C_drewN ?_ _) |(with_reducible refine Kd.C_drew ?_)));(case side2=>exact(Kd.R_reads' HO579.out).2.1);rintro e w12 ⟨rfl,hb⟩;refine⟨_,rfl,?_⟩;have n0_:=Aside0.mk (Kd.R_below (by(with_reducible repeat(first | apply Kd.R_alloc | apply Kd.R_drewN | apply Kd.R_drew));exact HO579.out) hb);have n1_:=Aside0.mk (Kd.R_below (by(with_reducible repeat(first | apply Kd.R_alloc | apply Kd.R_drewN | apply Kd.R_drew));exact HO583.out) hb);have n2_:=Aside0.mk (bwT (by repeat(first |(with_reducible first | exact HB.out | apply bwA | apply bwN | apply bw1) | exact HB.out)) hb);clear HO579;clear HO583;clear HB;have HO579:=n0_;have HO583:=n1_;have HB:=n2_;clear n0_ n1_ n2_;(try clear hb);(try clear hb2);(try clear hk);(try clear hi)) |((with_reducible refine gate_dst (N:=12) rfl ?_);refine box_event ?hg (N:=12) ?hd (cs:=#[.int .i64 0,.int .i64 0]) (t:=45) ?hr ?_;(case hd=>rfl);(case hg=>rfl);(case hr=>first |(go_simp;done) |(go_simp;rfl));intro gb589 hg w13 hbox hb;have n0_:=Aside0.mk (Kd.R_below (by(with_reducible repeat(first | apply Kd.R_alloc | apply Kd.R_drewN | apply Kd.R_drew));exact HO579.out) hb);have n1_:=Aside0.mk (Kd.R_below (by(with_reducible repeat(first | apply Kd.R_alloc | apply Kd.R_drewN | apply Kd.R_drew));exact HO583.out) hb);have n2_:=Aside0.mk (bwT (by repeat(first |(with_reducible first | exact HB.out | apply bwA | apply bwN | apply bw1) | exact HB.out)) hb);have n3_:=Aside0.mk (hbox);have n4_:=Aside0.mk ((by rw [hg];exact(bwZ (by repeat(first |(with_reducible first | exact HB.out | apply bwA | apply bwN | apply bw1) | exact HB.out))) : w.heap.size≤gb589));have n5_:=Aside0.mk ((by rw [hg];exact(bwZ (by repeat(first |(with_reducible first | exact HB.out | apply bwA | apply bwN | apply bw1) | exact HB.out))) : w.heap.size≤gb589));clear HO579;clear HO583;clear HB;have HO579:=n0_;have HO583:=n1_;have HB:=n2_;have BK589:=n3_;have GW589:=n4_;have GE589:=n5_;clear n0_ n1_ n2_ n3_ n4_ n5_;clear hb hbox hg;have hcz14_0 : w13.cell? ⟨gb589,0,none⟩ = some (.int .i64 0):=(bkC BK589.out 0).trans rfl;have hcz14_1 : w13.cell? ⟨gb589,1,none⟩ = some (.int .i64 0):=(bkC BK589.out 1).trans rfl;have hfz14_0:=bkF BK589.out 0;have hfz14_1:=bkF BK589.out 1))
 (try simp only [Act.put,List.setIfInBounds_toArray,List.set_cons_zero,List.set_cons_succ])
 go_cut [47] (fun v47 wc=>∃ (kq : Nat) (x47_7 : Bool),v47 = .bool x47_7∧Aside0 (w10_TurnsOrders.j0 kq a0 a1 t577 t580 t581 t584 t585 t588 x47_7 t586 t587 = some r)∧Aside0 (kq≤k)∧Aside0 (Kd.R (Kd.int .i64) 3 wc w.heap.size (fun k_=>some k_ ≠(v582 : Value).ownBlock) (.slice Ao11 t577.length co11) t577)∧Aside0 (Kd.R (Kd.int .i64) 3 wc w.heap.size (fun k_=>some k_ ≠((.slice Ao11 t577.length co11) : Value).ownBlock) v582 t580)∧Aside0 (wc.heap[gb589]? = some (.cells #[.int .i64 t586,.int .i64 t587] 45 (0,0)))∧Aside0 (Below w.heap.size w wc))
 case first =>
  have H:=HC8.out
  clear HC8
  by_cases c15 : a0 < 0
  ·rw [if_pos c15] at H
   have c15b0 : decide (a0 < 0) = true:=decide_eq_true c15
   clear c15
   (first | rw [c15b0] |(simp only [i64_w,i32_w];rw [c15b0]) | skip)
   have H':=Aside0.mk H
   clear H
   go_wp2
   go_meet
   exact⟨_,(true),(by first | rfl |(simp;done) |(simp [*];done)),H',⟨by first | omega | exact Nat.le_refl _⟩,⟨by(with_reducible repeat(first | apply Kd.R_alloc | apply Kd.R_drewN | apply Kd.R_drew));exact Kd.R_mono (Kd.R_far (p:=⟨gb589,1,none⟩) (Kd.R_far (p:=⟨gb589,0,none⟩) (Kd.R_types HO579.out BK589.out (by decide)) (fun _ hk=>hk.2) (.int .i64 t586)) (fun _ hk=>hk.2) (.int .i64 t587)) (fun _ hk=>by first | exact hk.1.2 | exact hk.1)⟩,⟨by(with_reducible repeat(first | apply Kd.R_alloc | apply Kd.R_drewN | apply Kd.R_drew));exact Kd.R_mono (Kd.R_far (p:=⟨gb589,1,none⟩) (Kd.R_far (p:=⟨gb589,0,none⟩) (Kd.R_types HO583.out BK589.out (by decide)) (fun _ hk=>hk.2) (.int .i64 t586)) (fun _ hk=>hk.2) (.int .i64 t587)) (fun _ hk=>by first | exact hk.1.2 | exact hk.1)⟩,⟨by(with_reducible repeat(first | refine bkN ?_ _ | refine bkD ?_ | refine bkA ?_ _));refine blk_put (cs:=#[.int .i64 t586,.int .i64 0]) ?_ 1 _ rfl;(with_reducible repeat(first | refine bkN ?_ _ | refine bkD ?_ | refine bkA ?_ _));refine blk_put (cs:=#[.int .i64 0,.int .i64 0]) ?_ 0 _ rfl;(with_reducible repeat(first | refine bkN ?_ _ | refine bkD ?_ | refine bkA ?_ _));exact BK589.out⟩,⟨by repeat(first |(with_reducible first | exact HB.out | apply bwA | apply bwN | apply bw1 | refine bwS ?_ GE589.out) | exact HB.out)⟩⟩
  rw [if_neg c15] at H
  have c15b0 : decide (a0 < 0) = false:=decide_eq_false c15
  clear c15
  (first | rw [c15b0] |(simp only [i64_w,i32_w];rw [c15b0]) | skip)
  by_cases c16 : a0 > 18
  ·rw [if_pos c16] at H
   have c16b0 : decide (18 < a0) = true:=decide_eq_true c16
   clear c16
   have H':=Aside0.mk H
   clear H
   go_wp2
   go_meet
   exact⟨_,(true),(by first | rfl |(simp;done) |(simp [*];done)),H',⟨by first | omega | exact Nat.le_refl _⟩,⟨by(with_reducible repeat(first | apply Kd.R_alloc | apply Kd.R_drewN | apply Kd.R_drew));exact Kd.R_mono (Kd.R_far (p:=⟨gb589,1,none⟩) (Kd.R_far (p:=⟨gb589,0,none⟩) (Kd.R_types HO579.out BK589.out (by decide)) (fun _ hk=>hk.2) (.int .i64 t586)) (fun _ hk=>hk.2) (.int .i64 t587)) (fun _ hk=>by first | exact hk.1.2 | exact hk.1)⟩,⟨by(with_reducible repeat(first | apply Kd.R_alloc | apply Kd.R_drewN | apply Kd.R_drew));exact Kd.R_mono (Kd.R_far (p:=⟨gb589,1,none⟩) (Kd.R_far (p:=⟨gb589,0,none⟩) (Kd.R_types HO583.out BK589.out (by decide)) (fun _ hk=>hk.2) (.int .i64 t586)) (fun _ hk=>hk.2) (.int .i64 t587)) (fun _ hk=>by first | exact hk.1.2 | exact hk.1)⟩,⟨by(with_reducible repeat(first | refine bkN ?_ _ | refine bkD ?_ | refine bkA ?_ _));refine blk_put (cs:=#[.int .i64 t586,.int .i64 0]) ?_ 1 _ rfl;(with_reducible repeat(first | refine bkN ?_ _ | refine bkD ?_ | refine bkA ?_ _));refine blk_put (cs:=#[.int .i64 0,.int .i64 0]) ?_ 0 _ rfl;(with_reducible repeat(first | refine bkN ?_ _ | refine bkD ?_ | refine bkA ?_ _));exact BK589.out⟩,⟨by repeat(first |(with_reducible first | exact HB.out | apply bwA | apply bwN | apply bw1 | refine bwS ?_ GE589.out) | exact HB.out)⟩⟩
  rw [if_neg c16] at H
  have c16b0 : decide (18 < a0) = false:=decide_eq_false c16
  clear c16
  by_cases c17 : a1 < 0
  ·rw [if_pos c17] at H
   have c17b0 : decide (a1 < 0) = true:=decide_eq_true c17
   clear c17
   have H':=Aside0.mk H
   clear H
   go_wp2
   go_meet
   exact⟨_,(true),(by first | rfl |(simp;done) |(simp [*];done)),H',⟨by first | omega | exact Nat.le_refl _⟩,⟨by(with_reducible repeat(first | apply Kd.R_alloc | apply Kd.R_drewN | apply Kd.R_drew));exact Kd.R_mono (Kd.R_far (p:=⟨gb589,1,none⟩) (Kd.R_far (p:=⟨gb589,0,none⟩) (Kd.R_types HO579.out BK589.out (by decide)) (fun _ hk=>hk.2) (.int .i64 t586)) (fun _ hk=>hk.2) (.int .i64 t587)) (fun _ hk=>by first | exact hk.1.2 | exact hk.1)⟩,⟨by(with_reducible repeat(first | apply Kd.R_alloc | apply Kd.R_drewN | apply Kd.R_drew));exact Kd.R_mono (Kd.R_far (p:=⟨gb589,1,none⟩) (Kd.R_far (p:=⟨gb589,0,none⟩) (Kd.R_types HO583.out BK589.out (by decide)) (fun _ hk=>hk.2) (.int .i64 t586)) (fun _ hk=>hk.2) (.int .i64 t587)) (fun _ hk=>by first | exact hk.1.2 | exact hk.1)⟩,⟨by(with_reducible repeat(first | refine bkN ?_ _ | refine bkD ?_ | refine bkA ?_ _));refine blk_put (cs:=#[.int .i64 t586,.int .i64 0]) ?_ 1 _ rfl;(with_reducible repeat(first | refine bkN ?_ _ | refine bkD ?_ | refine bkA ?_ _));refine blk_put (cs:=#[.int .i64 0,.int .i64 0]) ?_ 0 _ rfl;(with_reducible repeat(first | refine bkN ?_ _ | refine bkD ?_ | refine bkA ?_ _));exact BK589.out⟩,⟨by repeat(first |(with_reducible first | exact HB.out | apply bwA | apply bwN | apply bw1 | refine bwS ?_ GE589.out) | exact HB.out)⟩⟩
  rw [if_neg c17] at H
  have c17b0 : decide (a1 < 0) = false:=decide_eq_false c17
  clear c17
  replace H:=Option.bind_eq_some_iff.mp H
  obtain ⟨t590,A180,H⟩:=H
  replace H :(w10_TurnsOrders.j0 k a0 a1 t577 t580 t581 t584 t585 t588 (decide (a1 ≥ t590)) t586 t587) = some r:=H
  have A18:=Aside0.mk A180
  clear A180
  have H':=Aside0.mk H
  clear H
  go_wp2_with (first |(go_at_call 29;(with_reducible refine(q10_Factorial.calls k a0 t590 _ A18.out).mono ?_);rintro e w' ⟨rfl,⟨nd,rfl⟩⟩))
  go_meet
  exact⟨_,(decide (a1 ≥ t590)),(by first | rfl |(simp;done) |(simp [*];done)),H',⟨by first | omega | exact Nat.le_refl _⟩,⟨by(with_reducible repeat(first | apply Kd.R_alloc | apply Kd.R_drewN | apply Kd.R_drew));exact Kd.R_mono (Kd.R_far (p:=⟨gb589,1,none⟩) (Kd.R_far (p:=⟨gb589,0,none⟩) (Kd.R_types HO579.out BK589.out (by decide)) (fun _ hk=>hk.2) (.int .i64 t586)) (fun _ hk=>hk.2) (.int .i64 t587)) (fun _ hk=>by first | exact hk.1.2 | exact hk.1)⟩,⟨by(with_reducible repeat(first | apply Kd.R_alloc | apply Kd.R_drewN | apply Kd.R_drew));exact Kd.R_mono (Kd.R_far (p:=⟨gb589,1,none⟩) (Kd.R_far (p:=⟨gb589,0,none⟩) (Kd.R_types HO583.out BK589.out (by decide)) (fun _ hk=>hk.2) (.int .i64 t586)) (fun _ hk=>hk.2) (.int .i64 t587)) (fun _ hk=>by first | exact hk.1.2 | exact hk.1)⟩,⟨by(with_reducible repeat(first | refine bkN ?_ _ | refine bkD ?_ | refine bkA ?_ _));refine blk_put (cs:=#[.int .i64 t586,.int .i64 0]) ?_ 1 _ rfl;(with_reducible repeat(first | refine bkN ?_ _ | refine bkD ?_ | refine bkA ?_ _));refine blk_put (cs:=#[.int .i64 0,.int .i64 0]) ?_ 0 _ rfl;(with_reducible repeat(first | refine bkN ?_ _ | refine bkD ?_ | refine bkA ?_ _));exact BK589.out⟩,⟨by repeat(first |(with_reducible first | exact HB.out | apply bwA | apply bwN | apply bw1 | refine bwS ?_ GE589.out) | exact HB.out)⟩⟩
 case rest =>
  clear HC8
  try clear c1
  try clear c2
  try clear p2
  try clear c4
  try clear c5
  try clear c13
  try clear c15
  try clear c15b0
  try clear c16
  try clear c16b0
  try clear c17
  try clear c17b0
  try clear hcz14_0
  try clear hcz14_1
  try clear hfz14_0
  try clear hfz14_1
  obtain ⟨kq,x47_7,rfl,HA,HJ7,HO_7,HO_8,BK589,HB⟩:=hcut
  cases kq with
  | zero=>exact absurd HA.out (by simp [w10_TurnsOrders.j0])
  | succ kj7 =>
   have H:=HA.out
   clear HA
   simp only [w10_TurnsOrders.j0] at H
   have HC19:=Aside0.mk H
   clear H
   go_upto_if 47 with (fail)
   go_cut [] (fun wc=>∃ (kq : Nat),Aside0 (w10_TurnsOrders.j1 kq t577 t584 t585 t588 t586 t587 = some r)∧Aside0 (kq≤kj7)∧Aside0 (Kd.R (Kd.int .i64) 3 wc w.heap.size (fun _=>True) (.slice Ao11 t577.length co11) t577)∧Aside0 (wc.heap[gb589]? = some (.cells #[.int .i64 t586,.int .i64 t587] 45 (0,0)))∧Aside0 (Below w.heap.size w wc))
   case first =>
    have H:=HC19.out
    clear HC19
    by_cases c20 : x47_7 = true
    ·subst c20
     have H1 :(if(t580.length : Int) = 0 then(if t581 = 2 then(w10_TurnsOrders.j1 kj7 t577 t584 t585 t588 t586 t587) else(some false)) else(some false)) = some r:=by rw [if_pos rfl] at H;exact H
     clear H
     have H:=H1
     clear H1
     by_cases c21 :(t580.length : Int) = 0
     rotate_left
     ·rw [if_neg c21] at H
      have c21b0 :((t580.length : Int) == 0) = false:=beq_eq_false_iff_ne.mpr c21
      have c21b1 :((t580.length : Int) != 0) = true:=bne_iff_ne.mpr c21
      have c21b2 : ¬ (t580 = []):=fun h_=>c21 (by rw [h_];rfl)
      (first | rw [c21b0] |(simp only [i64_w,i32_w];rw [c21b0]) | skip)
      obtain rfl:=Option.some.inj H
      obtain ⟨Ao25,co25,eo25⟩:=Kd.R_slice HO_8.out
      subst eo25
      go_wp2
      go_ret
      exact⟨by first | rfl |(simp [errW_none,errW_some] <;> rfl) |(simp [*,errW_none,errW_some] <;> rfl),by repeat(first |(with_reducible first | exact HB.out | apply bwA | apply bwN | apply bw1 | refine bwS ?_ GE589.out) | exact HB.out)⟩
     rw [if_pos c21] at H
     have c21b0 :((t580.length : Int) == 0) = true:=beq_iff_eq.mpr c21
     have c21b1 :((t580.length : Int) != 0) = false:=bne_eq_false_iff_eq.mpr c21
     clear c21
     (first | rw [c21b0] |(simp only [i64_w,i32_w];rw [c21b0]) | skip)
     by_cases c22 : t581 = 2
     rotate_left
     ·rw [if_neg c22] at H
      have c22b0 :(t581 == 2) = false:=beq_eq_false_iff_ne.mpr c22
      have c22b1 :(t581 != 2) = true:=bne_iff_ne.mpr c22
      obtain rfl:=Option.some.inj H
      obtain ⟨Ao24,co24,eo24⟩:=Kd.R_slice HO_8.out
      subst eo24
      go_wp2
      go_ret
      exact⟨by first | rfl |(simp [errW_none,errW_some] <;> rfl) |(simp [*,errW_none,errW_some] <;> rfl),by repeat(first |(with_reducible first | exact HB.out | apply bwA | apply bwN | apply bw1 | refine bwS ?_ GE589.out) | exact HB.out)⟩
     rw [if_pos c22] at H
     have c22b0 :(t581 == 2) = true:=beq_iff_eq.mpr c22
     have c22b1 :(t581 != 2) = false:=bne_eq_false_iff_eq.mpr c22
     clear c22
     have H':=Aside0.mk H
     clear H
     obtain ⟨Ao23,co23,eo23⟩:=Kd.R_slice HO_8.out
     subst eo23
     go_wp2
     go_meet
     exact⟨_,H',⟨by have:=HJ7.out;first | omega | exact Nat.le_refl _⟩,⟨by(with_reducible repeat(first | apply Kd.R_alloc | apply Kd.R_drewN | apply Kd.R_drew));exact Kd.R_mono HO_7.out (fun _ hk=>trivial)⟩,⟨by(with_reducible repeat(first | refine bkN ?_ _ | refine bkD ?_ | refine bkA ?_ _));exact BK589.out⟩,⟨by repeat(first |(with_reducible first | exact HB.out | apply bwA | apply bwN | apply bw1 | refine bwS ?_ GE589.out) | exact HB.out)⟩⟩
    replace c20:=Bool.eq_false_iff.mpr c20
    subst c20
    have H1 :((q10_Order.f kj7 a0 a1).bind fun t591=>((w10_ints.f kj7 t580 t591).bind fun t594=>(if t594 = true then(if t581 = 0 then(w10_TurnsOrders.j1 kj7 t577 t584 t585 t588 t586 t587) else(some false)) else(some false)))) = some r:=by rw [if_neg (show ¬ (false = true) by decide)] at H;exact H
    clear H
    have H:=H1
    clear H1
    replace H:=Option.bind_eq_some_iff.mp H
    obtain ⟨t591,A260,H⟩:=H
    replace H :((w10_ints.f kj7 t580 t591).bind fun t594=>(if t594 = true then(if t581 = 0 then(w10_TurnsOrders.j1 kj7 t577 t584 t585 t588 t586 t587) else(some false)) else(some false))) = some r:=H
    have A26:=Aside0.mk A260
    clear A260
    replace H:=Option.bind_eq_some_iff.mp H
    obtain ⟨t594,A270,H⟩:=H
    replace H :(if t594 = true then(if t581 = 0 then(w10_TurnsOrders.j1 kj7 t577 t584 t585 t588 t586 t587) else(some false)) else(some false)) = some r:=H
    have A27:=Aside0.mk A270
    clear A270
    by_cases c28 : t594 = true
    rotate_left
    ·replace c28 := Bool.eq_false_iff.mpr c28
     subst c28
     have H1 :(some false) = some r:=by rw [if_neg (show ¬ (false = true) by decide)] at H;exact H
     clear H
     have H:=H1
     clear H1
     obtain rfl:=Option.some.inj H
     go_wp2_with (first |((with_reducible refine gate_callee (f:=51) rfl ?_);refine goesL_ (some 58) rfl rfl Try.func51 (by kernel_rfl) rfl #[.int .i64 a0,.int .i64 a1] rfl (by(try simp only [List.map_toArray,List.map_cons,List.map_nil]);first | done | rfl |(simp only [List.length_drop,List.length_take];rfl)) ?_;(with_reducible refine(q10_Order.calls kj7 a0 a1 t591 _ A26.out).mono ?_);rintro e w36 ⟨v592,rfl,ho0,hb⟩;refine⟨_,rfl,?_⟩;have n0_:=Aside0.mk (Kd.R_elder' (by(with_reducible repeat(first | apply Kd.R_alloc | apply Kd.R_drewN | apply Kd.R_drew));exact HO_7.out) (Kd.R_base ho0) hb);have n1_:=Aside0.mk (Kd.R_elder' (by(with_reducible repeat(first | apply Kd.R_alloc | apply Kd.R_drewN | apply Kd.R_drew));exact HO_8.out) (Kd.R_base ho0) hb);have n2_:=Aside0.mk (Kd.R_lower (Kd.R_new' (Kd.R_new' ho0 (Kd.R_lt (by(with_reducible repeat(first | apply Kd.R_alloc | apply Kd.R_drewN | apply Kd.R_drew));exact HO_7.out))) (Kd.R_lt (by(with_reducible repeat(first | apply Kd.R_alloc | apply Kd.R_drewN | apply Kd.R_drew));exact HO_8.out))) (bwZ (by repeat(first |(with_reducible first | exact HB.out | apply bwA | apply bwN | apply bw1 | refine bwS ?_ GE589.out) | exact HB.out))));have n3_:=Aside0.mk (bkB (g:=gb589) (o:=.cells #[.int .i64 t586,.int .i64 t587] 45 (0,0)) (by(with_reducible repeat(first | refine bkN ?_ _ | refine bkD ?_ | refine bkA ?_ _));exact BK589.out) hb);have n4_:=Aside0.mk (bwT (by repeat(first |(with_reducible first | exact HB.out | apply bwA | apply bwN | apply bw1 | refine bwS ?_ GE589.out) | exact HB.out)) hb);clear HO_7;clear HO_8;clear BK589;clear HB;have HO_7:=n0_;have HO_8:=n1_;have HO593:=n2_;have BK589:=n3_;have HB:=n4_;clear n0_ n1_ n2_ n3_ n4_;(try clear hb);(try clear hb2);(try clear hk);(try clear hi);(try clear ho0);obtain ⟨Ao37,co37,eo37⟩:=Kd.R_slice HO_8.out;subst eo37;obtain ⟨Ao38,co38,eo38⟩:=Kd.R_slice HO593.out;subst eo38) |((with_reducible refine gate_callee (f:=22) rfl ?_);refine goesL_ (some 59) rfl rfl Try.func22 (by kernel_rfl) rfl #[.slice Ao37 t580.length co37,.slice Ao38 t591.length co38] rfl (by(try simp only [List.map_toArray,List.map_cons,List.map_nil]);first | done | rfl |(simp only [List.length_drop,List.length_take];rfl)) ?_;(with_reducible refine(w10_ints.calls kj7 _ _ t580 _ _ t591 false _ ?side1 ?side2 ?side3 ?side4 A27.out).mono ?_);(case side1=>repeat(first | exact(Kd.R_reads' HO_8.out).2.2 |(with_reducible refine Kd.C_alloc ?_ _) |(with_reducible refine Kd.C_drewN ?_ _) |(with_reducible refine Kd.C_drew ?_)));(case side2=>exact(Kd.R_reads' HO_8.out).2.1);(case side3=>repeat(first | exact(Kd.R_reads' HO593.out).2.2 |(with_reducible refine Kd.C_alloc ?_ _) |(with_reducible refine Kd.C_drewN ?_ _) |(with_reducible refine Kd.C_drew ?_)));(case side4=>exact(Kd.R_reads' HO593.out).2.1);rintro e w' ⟨rfl,⟨nd,rfl⟩⟩;refine⟨_,rfl,?_⟩))
     go_ret
     exact⟨by first | rfl |(simp [errW_none,errW_some] <;> rfl) |(simp [*,errW_none,errW_some] <;> rfl),by repeat(first |(with_reducible first | exact HB.out | apply bwA | apply bwN | apply bw1 | refine bwS ?_ GE589.out) | exact HB.out)⟩
    subst c28
    have H1 :(if t581 = 0 then(w10_TurnsOrders.j1 kj7 t577 t584 t585 t588 t586 t587) else(some false)) = some r:=by rw [if_pos rfl] at H;exact H
    clear H
    have H:=H1
    clear H1
    by_cases c29 : t581 = 0
    rotate_left
    ·rw [if_neg c29] at H
     have c29b0 :(t581 == 0) = false:=beq_eq_false_iff_ne.mpr c29
     have c29b1 :(t581 != 0) = true:=bne_iff_ne.mpr c29
     obtain rfl:=Option.some.inj H
     go_wp2_with (first |((with_reducible refine gate_callee (f:=51) rfl ?_);refine goesL_ (some 58) rfl rfl Try.func51 (by kernel_rfl) rfl #[.int .i64 a0,.int .i64 a1] rfl (by(try simp only [List.map_toArray,List.map_cons,List.map_nil]);first | done | rfl |(simp only [List.length_drop,List.length_take];rfl)) ?_;(with_reducible refine(q10_Order.calls kj7 a0 a1 t591 _ A26.out).mono ?_);rintro e w33 ⟨v592,rfl,ho0,hb⟩;refine⟨_,rfl,?_⟩;have n0_:=Aside0.mk (Kd.R_elder' (by(with_reducible repeat(first | apply Kd.R_alloc | apply Kd.R_drewN | apply Kd.R_drew));exact HO_7.out) (Kd.R_base ho0) hb);have n1_:=Aside0.mk (Kd.R_elder' (by(with_reducible repeat(first | apply Kd.R_alloc | apply Kd.R_drewN | apply Kd.R_drew));exact HO_8.out) (Kd.R_base ho0) hb);have n2_:=Aside0.mk (Kd.R_lower (Kd.R_new' (Kd.R_new' ho0 (Kd.R_lt (by(with_reducible repeat(first | apply Kd.R_alloc | apply Kd.R_drewN | apply Kd.R_drew));exact HO_7.out))) (Kd.R_lt (by(with_reducible repeat(first | apply Kd.R_alloc | apply Kd.R_drewN | apply Kd.R_drew));exact HO_8.out))) (bwZ (by repeat(first |(with_reducible first | exact HB.out | apply bwA | apply bwN | apply bw1 | refine bwS ?_ GE589.out) | exact HB.out))));have n3_:=Aside0.mk (bkB (g:=gb589) (o:=.cells #[.int .i64 t586,.int .i64 t587] 45 (0,0)) (by(with_reducible repeat(first | refine bkN ?_ _ | refine bkD ?_ | refine bkA ?_ _));exact BK589.out) hb);have n4_:=Aside0.mk (bwT (by repeat(first |(with_reducible first | exact HB.out | apply bwA | apply bwN | apply bw1 | refine bwS ?_ GE589.out) | exact HB.out)) hb);clear HO_7;clear HO_8;clear BK589;clear HB;have HO_7:=n0_;have HO_8:=n1_;have HO593:=n2_;have BK589:=n3_;have HB:=n4_;clear n0_ n1_ n2_ n3_ n4_;(try clear hb);(try clear hb2);(try clear hk);(try clear hi);(try clear ho0);obtain ⟨Ao34,co34,eo34⟩:=Kd.R_slice HO_8.out;subst eo34;obtain ⟨Ao35,co35,eo35⟩:=Kd.R_slice HO593.out;subst eo35) |((with_reducible refine gate_callee (f:=22) rfl ?_);refine goesL_ (some 59) rfl rfl Try.func22 (by kernel_rfl) rfl #[.slice Ao34 t580.length co34,.slice Ao35 t591.length co35] rfl (by(try simp only [List.map_toArray,List.map_cons,List.map_nil]);first | done | rfl |(simp only [List.length_drop,List.length_take];rfl)) ?_;(with_reducible refine(w10_ints.calls kj7 _ _ t580 _ _ t591 true _ ?side1 ?side2 ?side3 ?side4 A27.out).mono ?_);(case side1=>repeat(first | exact(Kd.R_reads' HO_8.out).2.2 |(with_reducible refine Kd.C_alloc ?_ _) |(with_reducible refine Kd.C_drewN ?_ _) |(with_reducible refine Kd.C_drew ?_)));(case side2=>exact(Kd.R_reads' HO_8.out).2.1);(case side3=>repeat(first | exact(Kd.R_reads' HO593.out).2.2 |(with_reducible refine Kd.C_alloc ?_ _) |(with_reducible refine Kd.C_drewN ?_ _) |(with_reducible refine Kd.C_drew ?_)));(case side4=>exact(Kd.R_reads' HO593.out).2.1);rintro e w' ⟨rfl,⟨nd,rfl⟩⟩;refine⟨_,rfl,?_⟩))
     go_ret
     exact⟨by first | rfl |(simp [errW_none,errW_some] <;> rfl) |(simp [*,errW_none,errW_some] <;> rfl),by repeat(first |(with_reducible first | exact HB.out | apply bwA | apply bwN | apply bw1 | refine bwS ?_ GE589.out) | exact HB.out)⟩
    rw [if_pos c29] at H
    have c29b0 :(t581 == 0) = true:=beq_iff_eq.mpr c29
    have c29b1 :(t581 != 0) = false:=bne_eq_false_iff_eq.mpr c29
    clear c29
    have H':=Aside0.mk H
    clear H
    go_wp2_with (first |((with_reducible refine gate_callee (f:=51) rfl ?_);refine goesL_ (some 58) rfl rfl Try.func51 (by kernel_rfl) rfl #[.int .i64 a0,.int .i64 a1] rfl (by(try simp only [List.map_toArray,List.map_cons,List.map_nil]);first | done | rfl |(simp only [List.length_drop,List.length_take];rfl)) ?_;(with_reducible refine(q10_Order.calls kj7 a0 a1 t591 _ A26.out).mono ?_);rintro e w30 ⟨v592,rfl,ho0,hb⟩;refine⟨_,rfl,?_⟩;have n0_:=Aside0.mk (Kd.R_elder' (by(with_reducible repeat(first | apply Kd.R_alloc | apply Kd.R_drewN | apply Kd.R_drew));exact HO_7.out) (Kd.R_base ho0) hb);have n1_:=Aside0.mk (Kd.R_elder' (by(with_reducible repeat(first | apply Kd.R_alloc | apply Kd.R_drewN | apply Kd.R_drew));exact HO_8.out) (Kd.R_base ho0) hb);have n2_:=Aside0.mk (Kd.R_lower (Kd.R_new' (Kd.R_new' ho0 (Kd.R_lt (by(with_reducible repeat(first | apply Kd.R_alloc | apply Kd.R_drewN | apply Kd.R_drew));exact HO_7.out))) (Kd.R_lt (by(with_reducible repeat(first | apply Kd.R_alloc | apply Kd.R_drewN | apply Kd.R_drew));exact HO_8.out))) (bwZ (by repeat(first |(with_reducible first | exact HB.out | apply bwA | apply bwN | apply bw1 | refine bwS ?_ GE589.out) | exact HB.out))));have n3_:=Aside0.mk (bkB (g:=gb589) (o:=.cells #[.int .i64 t586,.int .i64 t587] 45 (0,0)) (by(with_reducible repeat(first | refine bkN ?_ _ | refine bkD ?_ | refine bkA ?_ _));exact BK589.out) hb);have n4_:=Aside0.mk (bwT (by repeat(first |(with_reducible first | exact HB.out | apply bwA | apply bwN | apply bw1 | refine bwS ?_ GE589.out) | exact HB.out)) hb);clear HO_7;clear HO_8;clear BK589;clear HB;have HO_7:=n0_;have HO_8:=n1_;have HO593:=n2_;have BK589:=n3_;have HB:=n4_;clear n0_ n1_ n2_ n3_ n4_;(try clear hb);(try clear hb2);(try clear hk);(try clear hi);(try clear ho0);obtain ⟨Ao31,co31,eo31⟩:=Kd.R_slice HO_8.out;subst eo31;obtain ⟨Ao32,co32,eo32⟩:=Kd.R_slice HO593.out;subst eo32) |((with_reducible refine gate_callee (f:=22) rfl ?_);refine goesL_ (some 59) rfl rfl Try.func22 (by kernel_rfl) rfl #[.slice Ao31 t580.length co31,.slice Ao32 t591.length co32] rfl (by(try simp only [List.map_toArray,List.map_cons,List.map_nil]);first | done | rfl |(simp only [List.length_drop,List.length_take];rfl)) ?_;(with_reducible refine(w10_ints.calls kj7 _ _ t580 _ _ t591 true _ ?side1 ?side2 ?side3 ?side4 A27.out).mono ?_);(case side1=>repeat(first | exact(Kd.R_reads' HO_8.out).2.2 |(with_reducible refine Kd.C_alloc ?_ _) |(with_reducible refine Kd.C_drewN ?_ _) |(with_reducible refine Kd.C_drew ?_)));(case side2=>exact(Kd.R_reads' HO_8.out).2.1);(case side3=>repeat(first | exact(Kd.R_reads' HO593.out).2.2 |(with_reducible refine Kd.C_alloc ?_ _) |(with_reducible refine Kd.C_drewN ?_ _) |(with_reducible refine Kd.C_drew ?_)));(case side4=>exact(Kd.R_reads' HO593.out).2.1);rintro e w' ⟨rfl,⟨nd,rfl⟩⟩;refine⟨_,rfl,?_⟩))
    go_meet
    exact⟨_,H',⟨by have:=HJ7.out;first | omega | exact Nat.le_refl _⟩,⟨by(with_reducible repeat(first | apply Kd.R_alloc | apply Kd.R_drewN | apply Kd.R_drew));exact Kd.R_mono HO_7.out (fun _ hk=>trivial)⟩,⟨by(with_reducible repeat(first | refine bkN ?_ _ | refine bkD ?_ | refine bkA ?_ _));exact BK589.out⟩,⟨by repeat(first |(with_reducible first | exact HB.out | apply bwA | apply bwN | apply bw1 | refine bwS ?_ GE589.out) | exact HB.out)⟩⟩
   case rest =>
    clear HC19
    try clear c1
    try clear c2
    try clear p2
    try clear c4
    try clear c5
    try clear c13
    try clear c15
    try clear c15b0
    try clear c16
    try clear c16b0
    try clear c17
    try clear c17b0
    try clear c20
    try clear c21
    try clear c21b0
    try clear c21b1
    try clear c21b2
    try clear c22
    try clear c22b0
    try clear c22b1
    try clear c28
    try clear c29
    try clear c29b0
    try clear c29b1
    try clear hcz14_0
    try clear hcz14_1
    try clear hfz14_0
    try clear hfz14_1
    try clear p2
    obtain ⟨kq,HA,HJ18,HO_7,BK589,HB⟩:=hcut
    cases kq with
    | zero=>exact absurd HA.out (by simp [w10_TurnsOrders.j1])
    | succ kj18 =>
     have H:=HA.out
     clear HA
     simp only [w10_TurnsOrders.j1] at H
     replace H:=Option.bind_eq_some_iff.mp H
     obtain ⟨t595,A390,H⟩:=H
     replace H :(if t595 = true then((q10_OrderAt.f kj18 t577).bind fun t596=>(if t584 = t596 then(if t585 = 0 then((q10_Turn.f kj18 t577).bind fun bt597=>(if(t586 == bt597.1 && (t587 == bt597.2)) = true then(if t588 = 0 then((w10_awake.f kj18).bind fun t599=>(some t599)) else(some false)) else(some false))) else(some false)) else(some false))) else(if t584 = 0 then(if t585 = 2 then(if(t586 == 0 && (t587 == 0)) = true then(if t588 = 2 then((w10_awake.f kj18).bind fun t600=>(some t600)) else(some false)) else(some false)) else(some false)) else(some false))) = some r:=H
     have A39:=Aside0.mk A390
     clear A390
     by_cases c40 : t595 = true
     rotate_left
     ·replace c40 := Bool.eq_false_iff.mpr c40
      subst c40
      have H1 :(if t584 = 0 then(if t585 = 2 then(if(t586 == 0 && (t587 == 0)) = true then(if t588 = 2 then((w10_awake.f kj18).bind fun t600=>(some t600)) else(some false)) else(some false)) else(some false)) else(some false)) = some r:=by rw [if_neg (show ¬ (false = true) by decide)] at H;exact H
      clear H
      have H:=H1
      clear H1
      by_cases c62 : t584 = 0
      rotate_left
      ·rw [if_neg c62] at H
       have c62b0 :(t584 == 0) = false:=beq_eq_false_iff_ne.mpr c62
       have c62b1 :(t584 != 0) = true:=bne_iff_ne.mpr c62
       obtain rfl:=Option.some.inj H
       go_wp2_with (first |((with_reducible refine gate_callee (f:=52) rfl ?_);refine goesL_ (some 66) rfl rfl Try.func52 (by kernel_rfl) rfl #[.slice Ao11 t577.length co11] rfl (by(try simp only [List.map_toArray,List.map_cons,List.map_nil]);first | done | rfl |(simp only [List.length_drop,List.length_take];rfl)) ?_;(with_reducible refine(q10_Orders.calls kj18 _ _ t577 false _ ?side1 ?side2 A39.out).mono ?_);(case side1=>repeat(first | exact(Kd.R_reads' HO_7.out).2.2 |(with_reducible refine Kd.C_alloc ?_ _) |(with_reducible refine Kd.C_drewN ?_ _) |(with_reducible refine Kd.C_drew ?_)));(case side2=>exact(Kd.R_reads' HO_7.out).2.1);rintro e w' ⟨rfl,⟨nd,rfl⟩⟩;refine⟨_,rfl,?_⟩))
       go_ret
       exact⟨by first | rfl |(simp [errW_none,errW_some] <;> rfl) |(simp [*,errW_none,errW_some] <;> rfl),by repeat(first |(with_reducible first | exact HB.out | apply bwA | apply bwN | apply bw1 | refine bwS ?_ GE589.out) | exact HB.out)⟩
      rw [if_pos c62] at H
      have c62b0 :(t584 == 0) = true:=beq_iff_eq.mpr c62
      have c62b1 :(t584 != 0) = false:=bne_eq_false_iff_eq.mpr c62
      clear c62
      by_cases c63 : t585 = 2
      rotate_left
      ·rw [if_neg c63] at H
       have c63b0 :(t585 == 2) = false:=beq_eq_false_iff_ne.mpr c63
       have c63b1 :(t585 != 2) = true:=bne_iff_ne.mpr c63
       obtain rfl:=Option.some.inj H
       go_wp2_with (first |((with_reducible refine gate_callee (f:=52) rfl ?_);refine goesL_ (some 66) rfl rfl Try.func52 (by kernel_rfl) rfl #[.slice Ao11 t577.length co11] rfl (by(try simp only [List.map_toArray,List.map_cons,List.map_nil]);first | done | rfl |(simp only [List.length_drop,List.length_take];rfl)) ?_;(with_reducible refine(q10_Orders.calls kj18 _ _ t577 false _ ?side1 ?side2 A39.out).mono ?_);(case side1=>repeat(first | exact(Kd.R_reads' HO_7.out).2.2 |(with_reducible refine Kd.C_alloc ?_ _) |(with_reducible refine Kd.C_drewN ?_ _) |(with_reducible refine Kd.C_drew ?_)));(case side2=>exact(Kd.R_reads' HO_7.out).2.1);rintro e w' ⟨rfl,⟨nd,rfl⟩⟩;refine⟨_,rfl,?_⟩))
       go_ret
       exact⟨by first | rfl |(simp [errW_none,errW_some] <;> rfl) |(simp [*,errW_none,errW_some] <;> rfl),by repeat(first |(with_reducible first | exact HB.out | apply bwA | apply bwN | apply bw1 | refine bwS ?_ GE589.out) | exact HB.out)⟩
      rw [if_pos c63] at H
      have c63b0 :(t585 == 2) = true:=beq_iff_eq.mpr c63
      have c63b1 :(t585 != 2) = false:=bne_eq_false_iff_eq.mpr c63
      clear c63
      by_cases c64 :(t586 == 0 && (t587 == 0)) = true
      rotate_left
      ·rw [if_neg c64] at H
       have c64b0 :(t586 == 0 && (t587 == 0)) = false:=by simpa using c64
       (try(have c64b1 : decide (t586 = 0 && (t587 == 0)) = false:=by simpa using c64))
       (try(have c64b2 :(t586 == 0 && (t587 == 0)) = false:=by simpa using c64))
       (try(have c64b3 : ¬ (t586 = 0 && (t587 == 0)):=by simpa using c64))
       clear c64
       obtain rfl:=Option.some.inj H
       go_wp2_with (first |((with_reducible refine gate_callee (f:=52) rfl ?_);refine goesL_ (some 66) rfl rfl Try.func52 (by kernel_rfl) rfl #[.slice Ao11 t577.length co11] rfl (by(try simp only [List.map_toArray,List.map_cons,List.map_nil]);first | done | rfl |(simp only [List.length_drop,List.length_take];rfl)) ?_;(with_reducible refine(q10_Orders.calls kj18 _ _ t577 false _ ?side1 ?side2 A39.out).mono ?_);(case side1=>repeat(first | exact(Kd.R_reads' HO_7.out).2.2 |(with_reducible refine Kd.C_alloc ?_ _) |(with_reducible refine Kd.C_drewN ?_ _) |(with_reducible refine Kd.C_drew ?_)));(case side2=>exact(Kd.R_reads' HO_7.out).2.1);rintro e w' ⟨rfl,⟨nd,rfl⟩⟩;refine⟨_,rfl,?_⟩;have hcz70_0 : wc.cell? ⟨gb589,0,none⟩ = some (.int .i64 t586):=(bkC BK589.out 0).trans rfl;have hcz70_1 : wc.cell? ⟨gb589,1,none⟩ = some (.int .i64 t587):=(bkC BK589.out 1).trans rfl;have hfz70_0:=bkF BK589.out 0;have hfz70_1:=bkF BK589.out 1))
       go_ret
       exact⟨by first | rfl |(simp [errW_none,errW_some] <;> rfl) |(simp [*,errW_none,errW_some] <;> rfl),by repeat(first |(with_reducible first | exact HB.out | apply bwA | apply bwN | apply bw1 | refine bwS ?_ GE589.out) | exact HB.out)⟩
      rw [if_pos c64] at H
      have c64b0 :(t586 == 0 && (t587 == 0)) = true:=c64
      (try(have c64b1 : decide (t586 = 0 && (t587 == 0)) = true:=by simpa using c64))
      (try(have c64b2 :(t586 == 0 && (t587 == 0)) = true:=by simpa using c64))
      clear c64
      by_cases c65 : t588 = 2
      rotate_left
      ·rw [if_neg c65] at H
       have c65b0 :(t588 == 2) = false:=beq_eq_false_iff_ne.mpr c65
       have c65b1 :(t588 != 2) = true:=bne_iff_ne.mpr c65
       obtain rfl:=Option.some.inj H
       go_wp2_with (first |((with_reducible refine gate_callee (f:=52) rfl ?_);refine goesL_ (some 66) rfl rfl Try.func52 (by kernel_rfl) rfl #[.slice Ao11 t577.length co11] rfl (by(try simp only [List.map_toArray,List.map_cons,List.map_nil]);first | done | rfl |(simp only [List.length_drop,List.length_take];rfl)) ?_;(with_reducible refine(q10_Orders.calls kj18 _ _ t577 false _ ?side1 ?side2 A39.out).mono ?_);(case side1=>repeat(first | exact(Kd.R_reads' HO_7.out).2.2 |(with_reducible refine Kd.C_alloc ?_ _) |(with_reducible refine Kd.C_drewN ?_ _) |(with_reducible refine Kd.C_drew ?_)));(case side2=>exact(Kd.R_reads' HO_7.out).2.1);rintro e w' ⟨rfl,⟨nd,rfl⟩⟩;refine⟨_,rfl,?_⟩;have hcz69_0 : wc.cell? ⟨gb589,0,none⟩ = some (.int .i64 t586):=(bkC BK589.out 0).trans rfl;have hcz69_1 : wc.cell? ⟨gb589,1,none⟩ = some (.int .i64 t587):=(bkC BK589.out 1).trans rfl;have hfz69_0:=bkF BK589.out 0;have hfz69_1:=bkF BK589.out 1))
       go_ret
       exact⟨by first | rfl |(simp [errW_none,errW_some] <;> rfl) |(simp [*,errW_none,errW_some] <;> rfl),by repeat(first |(with_reducible first | exact HB.out | apply bwA | apply bwN | apply bw1 | refine bwS ?_ GE589.out) | exact HB.out)⟩
      rw [if_pos c65] at H
      have c65b0 :(t588 == 2) = true:=beq_iff_eq.mpr c65
      have c65b1 :(t588 != 2) = false:=bne_eq_false_iff_eq.mpr c65
      clear c65
      replace H:=Option.bind_eq_some_iff.mp H
      obtain ⟨t600,A660,H⟩:=H
      replace H :(some t600) = some r:=H
      have A66:=Aside0.mk A660
      clear A660
      obtain rfl:=Option.some.inj H
      go_wp2_with (first |((with_reducible refine gate_callee (f:=52) rfl ?_);refine goesL_ (some 66) rfl rfl Try.func52 (by kernel_rfl) rfl #[.slice Ao11 t577.length co11] rfl (by(try simp only [List.map_toArray,List.map_cons,List.map_nil]);first | done | rfl |(simp only [List.length_drop,List.length_take];rfl)) ?_;(with_reducible refine(q10_Orders.calls kj18 _ _ t577 false _ ?side1 ?side2 A39.out).mono ?_);(case side1=>repeat(first | exact(Kd.R_reads' HO_7.out).2.2 |(with_reducible refine Kd.C_alloc ?_ _) |(with_reducible refine Kd.C_drewN ?_ _) |(with_reducible refine Kd.C_drew ?_)));(case side2=>exact(Kd.R_reads' HO_7.out).2.1);rintro e w' ⟨rfl,⟨nd,rfl⟩⟩;refine⟨_,rfl,?_⟩;have hcz67_0 : wc.cell? ⟨gb589,0,none⟩ = some (.int .i64 t586):=(bkC BK589.out 0).trans rfl;have hcz67_1 : wc.cell? ⟨gb589,1,none⟩ = some (.int .i64 t587):=(bkC BK589.out 1).trans rfl;have hfz67_0:=bkF BK589.out 0;have hfz67_1:=bkF BK589.out 1) |(go_at_call 20;(with_reducible refine(w10_awake.calls kj18  t600 _ A66.out).mono ?_);rintro e w68 ⟨rfl,hb⟩;have n0_:=Aside0.mk (Kd.R_below (by(with_reducible repeat(first | apply Kd.R_alloc | apply Kd.R_drewN | apply Kd.R_drew));exact HO_7.out) hb);have n1_:=Aside0.mk (bkB (g:=gb589) (o:=.cells #[.int .i64 t586,.int .i64 t587] 45 (0,0)) (by(with_reducible repeat(first | refine bkN ?_ _ | refine bkD ?_ | refine bkA ?_ _));exact BK589.out) hb);have n2_:=Aside0.mk (bwT (by repeat(first |(with_reducible first | exact HB.out | apply bwA | apply bwN | apply bw1 | refine bwS ?_ GE589.out) | exact HB.out)) hb);clear HO_7;clear BK589;clear HB;have HO_7:=n0_;have BK589:=n1_;have HB:=n2_;clear n0_ n1_ n2_;(try clear hb);(try clear hb2);(try clear hk);(try clear hi)))
      go_ret
      exact⟨by first | rfl |(simp [errW_none,errW_some] <;> rfl) |(simp [*,errW_none,errW_some] <;> rfl),by repeat(first |(with_reducible first | exact HB.out | apply bwA | apply bwN | apply bw1 | refine bwS ?_ GE589.out) | exact HB.out)⟩
     subst c40
     have H1 :((q10_OrderAt.f kj18 t577).bind fun t596=>(if t584 = t596 then(if t585 = 0 then((q10_Turn.f kj18 t577).bind fun bt597=>(if(t586 == bt597.1 && (t587 == bt597.2)) = true then(if t588 = 0 then((w10_awake.f kj18).bind fun t599=>(some t599)) else(some false)) else(some false))) else(some false)) else(some false))) = some r:=by rw [if_pos rfl] at H;exact H
     clear H
     have H:=H1
     clear H1
     replace H:=Option.bind_eq_some_iff.mp H
     obtain ⟨t596,A410,H⟩:=H
     replace H :(if t584 = t596 then(if t585 = 0 then((q10_Turn.f kj18 t577).bind fun bt597=>(if(t586 == bt597.1 && (t587 == bt597.2)) = true then(if t588 = 0 then((w10_awake.f kj18).bind fun t599=>(some t599)) else(some false)) else(some false))) else(some false)) else(some false)) = some r:=H
     have A41:=Aside0.mk A410
     clear A410
     by_cases c42 : t584 = t596
     rotate_left
     ·rw [if_neg c42] at H
      have c42b0 :(t584 == t596) = false:=beq_eq_false_iff_ne.mpr c42
      have c42b1 :(t584 != t596) = true:=bne_iff_ne.mpr c42
      obtain rfl:=Option.some.inj H
      try go_wp2_with (first |((with_reducible refine gate_callee (f:=52) rfl ?_);refine goesL_ (some 66) rfl rfl Try.func52 (by kernel_rfl) rfl #[.slice Ao11 t577.length co11] rfl (by(try simp only [List.map_toArray,List.map_cons,List.map_nil]);first | done | rfl |(simp only [List.length_drop,List.length_take];rfl)) ?_;(with_reducible refine(q10_Orders.calls kj18 _ _ t577 true _ ?side1 ?side2 A39.out).mono ?_);(case side1=>repeat(first | exact(Kd.R_reads' HO_7.out).2.2 |(with_reducible refine Kd.C_alloc ?_ _) |(with_reducible refine Kd.C_drewN ?_ _) |(with_reducible refine Kd.C_drew ?_)));(case side2=>exact(Kd.R_reads' HO_7.out).2.1);rintro e w' ⟨rfl,⟨nd,rfl⟩⟩;refine⟨_,rfl,?_⟩))
      (try(rw [drewN_self wc];generalize hq_ : World.drewN wc _ = wc;have n0_ : Aside0 (Kd.R (Kd.int .i64) 3 wc w.heap.size (fun _=>True) (.slice Ao11 t577.length co11) t577):=⟨by rw [← hq_];exact(by(with_reducible repeat(first | apply Kd.R_alloc | apply Kd.R_drewN | apply Kd.R_drew));exact HO_7.out)⟩;have n1_ : Aside0 (wc.heap[gb589]? = some (.cells #[.int .i64 t586,.int .i64 t587] 45 (0,0))):=⟨by rw [← hq_];exact(by(with_reducible repeat(first | refine bkN ?_ _ | refine bkD ?_ | refine bkA ?_ _));exact BK589.out)⟩;have n2_ : Aside0 (Below w.heap.size w wc):=⟨by rw [← hq_];exact(by repeat(first |(with_reducible first | exact HB.out | apply bwA | apply bwN | apply bw1 | refine bwS ?_ GE589.out) | exact HB.out))⟩;clear HO_7 BK589 HB hq_;have HO_7:=n0_;have BK589:=n1_;have HB:=n2_;clear n0_ n1_ n2_))
      have n0_:=Aside0.mk (Kd.R_drew HO_7.out)
      have n1_:=Aside0.mk (bkD BK589.out)
      have n2_:=Aside0.mk (bw1 HB.out)
      clear HO_7
      clear BK589
      clear HB
      have HO_7:=n0_
      have BK589:=n1_
      have HB:=n2_
      clear n0_ n1_ n2_
      refine start_ (n:=22) (S:=fun w'=>True) (ds:=[]) #[false,false,false,false,false,false,false,false,false,false,false,false,false,false,false,false,false,false,false,false,false,false] (by kernel_rfl) rfl rfl trivial (fun hHeld=>?_);refine with_tabW w10_TurnsOrders.tab12 w10_TurnsOrders.bits12 (fun HT_ HW_=>?_)
      generalize wc.drew = w60 at HO_7 BK589 HB hHeld ⊢
      refine pure_ (i:=0) (N:=some 86) (v:=?_) (a':=?_) #[true,false,false,false,false,false,false,false,false,false,false,false,false,false,false,false,false,false,false,false,false,false] rfl rfl (any_of HT_.out (by kernel_rfl)) (fun _ _ _ h=>h) (Or.inl ⟨by rfl,?_⟩) ?_ ?_
      rotate_left
      ·intro w'
       go_simp
       with_reducible rfl
      rotate_left
      ·simp only [Act.put, List.setIfInBounds_toArray, List.set_cons_zero, List.set_cons_succ, i64_w, i32_w]
       rfl
      refine pure_ (i:=1) (N:=some 87) (v:=?_) (a':=?_) #[true,true,false,false,false,false,false,false,false,false,false,false,false,false,false,false,false,false,false,false,false,false] rfl rfl (any_of HT_.out (by kernel_rfl)) (fun _ _ _ h=>h) (Or.inl ⟨by rfl,?_⟩) ?_ ?_
      rotate_left
      ·intro w'
       go_simp
       with_reducible rfl
      rotate_left
      ·simp only [Act.put, List.setIfInBounds_toArray, List.set_cons_zero, List.set_cons_succ, i64_w, i32_w]
       rfl
      refine one_ (i:=2) (N:=some 88) #[true,true,true,false,false,false,false,false,false,false,false,false,false,false,false,false,false,false,false,false,false,false] rfl rfl (one_of HT_.out (by kernel_rfl)) (by decide) (fun K hK=>?_)
      refine goes_ Try.func53 (by kernel_rfl) rfl #[.slice Ao11 t577.length co11] (by rfl) rfl rfl (by(try simp only [List.map_toArray,List.map_cons,List.map_nil]);first | done | rfl |(simp only [List.length_drop,List.length_take];rfl)) ?_
      with_reducible refine(q10_OrderAt.calls kj18 _ _ t577 t596 _ ?side1 ?side2 A41.out).mono ?_
      (case side1=>repeat(first | exact(Kd.R_reads' HO_7.out).2.2 |(with_reducible refine Kd.C_alloc ?_ _) |(with_reducible refine Kd.C_drewN ?_ _) |(with_reducible refine Kd.C_drew ?_)))
      (case side2=>exact(Kd.R_reads' HO_7.out).2.1)
      rintro e w61 ⟨rfl,hb⟩
      refine⟨_,rfl,?_⟩
      have n0_:=Aside0.mk (Kd.R_below (by(with_reducible repeat(first | apply Kd.R_alloc | apply Kd.R_drewN | apply Kd.R_drew));exact HO_7.out) hb)
      have n1_:=Aside0.mk (bkB (g:=gb589) (o:=.cells #[.int .i64 t586,.int .i64 t587] 45 (0,0)) (by(with_reducible repeat(first | refine bkN ?_ _ | refine bkD ?_ | refine bkA ?_ _));exact BK589.out) hb)
      have n2_:=Aside0.mk (bwT (by repeat(first |(with_reducible first | exact HB.out | apply bwA | apply bwN | apply bw1 | refine bwS ?_ GE589.out) | exact HB.out)) hb)
      clear HO_7
      clear BK589
      clear HB
      have HO_7:=n0_
      have BK589:=n1_
      have HB:=n2_
      clear n0_ n1_ n2_
      (try clear hb)
      (try clear hb2)
      (try clear hk)
      (try clear hi)
      refine hK.out _ _ trivial (fun hHeld=>?_)
      clear hK K
      refine norm_ (a':=?_) ?_ ?_
      rotate_left
      ·show Act.put _ (some 88) _ = _
       simp only [Act.put,List.setIfInBounds_toArray,List.set_cons_zero,List.set_cons_succ,i64_w,i32_w]
       rfl
      refine pure_ (i:=3) (N:=some 89) (v:=?_) (a':=?_) #[true,true,true,true,false,false,false,false,false,false,false,false,false,false,false,false,false,false,false,false,false,false] rfl rfl (any_of HT_.out (by kernel_rfl)) (fun _ _ _ h=>h) (Or.inl ⟨by rfl,?_⟩) ?_ ?_
      rotate_left
      ·intro w'
       go_simp
       with_reducible rfl
      rotate_left
      ·simp only [Act.put, List.setIfInBounds_toArray, List.set_cons_zero, List.set_cons_succ, i64_w, i32_w]
       rfl
      refine pure_ (i:=4) (N:=some 90) (v:=?_) (a':=?_) #[true,true,true,true,true,false,false,false,false,false,false,false,false,false,false,false,false,false,false,false,false,false] rfl rfl (any_of HT_.out (by kernel_rfl)) (fun _ _ _ h=>h) (Or.inl ⟨by rfl,?_⟩) ?_ ?_
      rotate_left
      ·intro w'
       go_simp
       with_reducible rfl
      rotate_left
      ·simp only [Act.put, List.setIfInBounds_toArray, List.set_cons_zero, List.set_cons_succ, i64_w, i32_w]
       rfl
      refine pure_ (i:=5) (N:=some 91) (v:=undef) (a':=?_) #[true,true,true,true,true,true,false,false,false,false,false,false,false,false,false,false,false,false,false,false,false,false] rfl rfl (any_of HT_.out (by kernel_rfl)) (fun _ _ _ h=>h) (Or.inr ⟨by rfl,rfl⟩) ?_ ?_
      rotate_left
      ·simp only [Act.put, List.setIfInBounds_toArray, List.set_cons_zero, List.set_cons_succ, i64_w, i32_w]
       rfl
      refine pure_ (i:=6) (N:=some 92) (v:=undef) (a':=?_) #[true,true,true,true,true,true,true,false,false,false,false,false,false,false,false,false,false,false,false,false,false,false] rfl rfl (any_of HT_.out (by kernel_rfl)) (fun _ _ _ h=>h) (Or.inr ⟨by rfl,rfl⟩) ?_ ?_
      rotate_left
      ·simp only [Act.put, List.setIfInBounds_toArray, List.set_cons_zero, List.set_cons_succ, i64_w, i32_w]
       rfl
      refine pure_ (i:=7) (N:=some 93) (v:=?_) (a':=?_) #[true,true,true,true,true,true,true,true,false,false,false,false,false,false,false,false,false,false,false,false,false,false] rfl rfl (any_of HT_.out (by kernel_rfl)) (fun _ _ _ h=>h) (Or.inl ⟨by rfl,?_⟩) ?_ ?_
      rotate_left
      ·intro w'
       go_simp
       with_reducible rfl
      rotate_left
      ·simp only [Act.put, List.setIfInBounds_toArray, List.set_cons_zero, List.set_cons_succ, i64_w, i32_w]
       rfl
      refine pure_ (i:=8) (N:=some 94) (v:=?_) (a':=?_) #[true,true,true,true,true,true,true,true,true,false,false,false,false,false,false,false,false,false,false,false,false,false] rfl rfl (any_of HT_.out (by kernel_rfl)) (fun _ _ _ h=>h) (Or.inl ⟨by rfl,?_⟩) ?_ ?_
      rotate_left
      ·intro w'
       go_simp
       with_reducible rfl
      rotate_left
      ·simp only [Act.put, List.setIfInBounds_toArray, List.set_cons_zero, List.set_cons_succ, i64_w, i32_w]
       rfl
      refine pure_ (i:=9) (N:=some 95) (v:=undef) (a':=?_) #[true,true,true,true,true,true,true,true,true,true,false,false,false,false,false,false,false,false,false,false,false,false] rfl rfl (any_of HT_.out (by kernel_rfl)) (fun _ _ _ h=>h) (Or.inr ⟨by rfl,rfl⟩) ?_ ?_
      rotate_left
      ·simp only [Act.put, List.setIfInBounds_toArray, List.set_cons_zero, List.set_cons_succ, i64_w, i32_w]
       rfl
      refine pure_ (i:=10) (N:=some 96) (v:=undef) (a':=?_) #[true,true,true,true,true,true,true,true,true,true,true,false,false,false,false,false,false,false,false,false,false,false] rfl rfl (any_of HT_.out (by kernel_rfl)) (fun _ _ _ h=>h) (Or.inr ⟨by rfl,rfl⟩) ?_ ?_
      rotate_left
      ·simp only [Act.put, List.setIfInBounds_toArray, List.set_cons_zero, List.set_cons_succ, i64_w, i32_w]
       rfl
      refine pure_ (i:=11) (N:=some 97) (v:=undef) (a':=?_) #[true,true,true,true,true,true,true,true,true,true,true,true,false,false,false,false,false,false,false,false,false,false] rfl rfl (any_of HT_.out (by kernel_rfl)) (fun _ _ _ h=>h) (Or.inr ⟨by rfl,rfl⟩) ?_ ?_
      rotate_left
      ·simp only [Act.put, List.setIfInBounds_toArray, List.set_cons_zero, List.set_cons_succ, i64_w, i32_w]
       rfl
      refine pure_ (i:=12) (N:=some 98) (v:=undef) (a':=?_) #[true,true,true,true,true,true,true,true,true,true,true,true,true,false,false,false,false,false,false,false,false,false] rfl rfl (any_of HT_.out (by kernel_rfl)) (fun _ _ _ h=>h) (Or.inr ⟨by rfl,rfl⟩) ?_ ?_
      rotate_left
      ·simp only [Act.put, List.setIfInBounds_toArray, List.set_cons_zero, List.set_cons_succ, i64_w, i32_w]
       rfl
      refine pure_ (i:=13) (N:=some 99) (v:=?_) (a':=?_) #[true,true,true,true,true,true,true,true,true,true,true,true,true,true,false,false,false,false,false,false,false,false] rfl rfl (any_of HT_.out (by kernel_rfl)) (fun _ _ _ h=>h) (Or.inl ⟨by rfl,?_⟩) ?_ ?_
      rotate_left
      ·intro w'
       go_simp
       with_reducible rfl
      rotate_left
      ·simp only [Act.put, List.setIfInBounds_toArray, List.set_cons_zero, List.set_cons_succ, i64_w, i32_w]
       rfl
      refine pure_ (i:=14) (N:=some 100) (v:=?_) (a':=?_) #[true,true,true,true,true,true,true,true,true,true,true,true,true,true,true,false,false,false,false,false,false,false] rfl rfl (any_of HT_.out (by kernel_rfl)) (fun _ _ _ h=>h) (Or.inl ⟨by rfl,?_⟩) ?_ ?_
      rotate_left
      ·intro w'
       go_simp
       with_reducible rfl
      rotate_left
      ·simp only [Act.put, List.setIfInBounds_toArray, List.set_cons_zero, List.set_cons_succ, i64_w, i32_w]
       rfl
      refine pure_ (i:=15) (N:=some 101) (v:=undef) (a':=?_) #[true,true,true,true,true,true,true,true,true,true,true,true,true,true,true,true,false,false,false,false,false,false] rfl rfl (any_of HT_.out (by kernel_rfl)) (fun _ _ _ h=>h) (Or.inr ⟨by rfl,rfl⟩) ?_ ?_
      rotate_left
      ·simp only [Act.put, List.setIfInBounds_toArray, List.set_cons_zero, List.set_cons_succ, i64_w, i32_w]
       rfl
      refine pure_ (i:=16) (N:=some 102) (v:=undef) (a':=?_) #[true,true,true,true,true,true,true,true,true,true,true,true,true,true,true,true,true,false,false,false,false,false] rfl rfl (any_of HT_.out (by kernel_rfl)) (fun _ _ _ h=>h) (Or.inr ⟨by rfl,rfl⟩) ?_ ?_
      rotate_left
      ·simp only [Act.put, List.setIfInBounds_toArray, List.set_cons_zero, List.set_cons_succ, i64_w, i32_w]
       rfl
      refine pure_ (i:=17) (N:=some 103) (v:=?_) (a':=?_) #[true,true,true,true,true,true,true,true,true,true,true,true,true,true,true,true,true,true,false,false,false,false] rfl rfl (any_of HT_.out (by kernel_rfl)) (fun _ _ _ h=>h) (Or.inl ⟨by rfl,?_⟩) ?_ ?_
      rotate_left
      ·intro w'
       go_simp
       with_reducible rfl
      rotate_left
      ·simp only [Act.put, List.setIfInBounds_toArray, List.set_cons_zero, List.set_cons_succ, i64_w, i32_w]
       rfl
      refine pure_ (i:=18) (N:=some 104) (v:=?_) (a':=?_) #[true,true,true,true,true,true,true,true,true,true,true,true,true,true,true,true,true,true,true,false,false,false] rfl rfl (any_of HT_.out (by kernel_rfl)) (fun _ _ _ h=>h) (Or.inl ⟨by rfl,?_⟩) ?_ ?_
      rotate_left
      ·intro w'
       go_simp
       with_reducible rfl
      rotate_left
      ·simp only [Act.put, List.setIfInBounds_toArray, List.set_cons_zero, List.set_cons_succ, i64_w, i32_w]
       rfl
      refine pure_ (i:=19) (N:=some 105) (v:=undef) (a':=?_) #[true,true,true,true,true,true,true,true,true,true,true,true,true,true,true,true,true,true,true,true,false,false] rfl rfl (any_of HT_.out (by kernel_rfl)) (fun _ _ _ h=>h) (Or.inr ⟨by rfl,rfl⟩) ?_ ?_
      rotate_left
      ·simp only [Act.put, List.setIfInBounds_toArray, List.set_cons_zero, List.set_cons_succ, i64_w, i32_w]
       rfl
      refine pure_ (i:=20) (N:=some 106) (v:=?_) (a':=?_) #[true,true,true,true,true,true,true,true,true,true,true,true,true,true,true,true,true,true,true,true,true,false] rfl rfl (any_of HT_.out (by kernel_rfl)) (fun _ _ _ h=>h) (Or.inl ⟨by rfl,?_⟩) ?_ ?_
      rotate_left
      ·intro w'
       go_simp
       with_reducible rfl
      rotate_left
      ·simp only [Act.put, List.setIfInBounds_toArray, List.set_cons_zero, List.set_cons_succ, i64_w, i32_w]
       rfl
      refine pure_ (i:=21) (N:=some 6) (v:=?_) (a':=?_) #[true,true,true,true,true,true,true,true,true,true,true,true,true,true,true,true,true,true,true,true,true,true] rfl rfl (any_of HT_.out (by kernel_rfl)) (fun _ _ _ h=>h) (Or.inl ⟨by rfl,?_⟩) ?_ ?_
      rotate_left
      ·intro w'
       go_simp
       with_reducible rfl
      rotate_left
      ·simp only [Act.put, List.setIfInBounds_toArray, List.set_cons_zero, List.set_cons_succ, i64_w, i32_w]
       rfl
      refine done_ (done_of HT_.out (by kernel_rfl)) ?_
      try go_wp2
      go_ret
      exact⟨by first | rfl |(simp [errW_none,errW_some] <;> rfl) |(simp [*,errW_none,errW_some] <;> rfl),by repeat(first |(with_reducible first | exact HB.out | apply bwA | apply bwN | apply bw1 | refine bwS ?_ GE589.out) | exact HB.out)⟩
     rw [if_pos c42] at H
     have c42b0 :(t584 == t596) = true:=beq_iff_eq.mpr c42
     have c42b1 :(t584 != t596) = false:=bne_eq_false_iff_eq.mpr c42
     clear c42
     by_cases c43 : t585 = 0
     rotate_left
     ·rw [if_neg c43] at H
      have c43b0 :(t585 == 0) = false:=beq_eq_false_iff_ne.mpr c43
      have c43b1 :(t585 != 0) = true:=bne_iff_ne.mpr c43
      obtain rfl:=Option.some.inj H
      try go_wp2_with (first |((with_reducible refine gate_callee (f:=52) rfl ?_);refine goesL_ (some 66) rfl rfl Try.func52 (by kernel_rfl) rfl #[.slice Ao11 t577.length co11] rfl (by(try simp only [List.map_toArray,List.map_cons,List.map_nil]);first | done | rfl |(simp only [List.length_drop,List.length_take];rfl)) ?_;(with_reducible refine(q10_Orders.calls kj18 _ _ t577 true _ ?side1 ?side2 A39.out).mono ?_);(case side1=>repeat(first | exact(Kd.R_reads' HO_7.out).2.2 |(with_reducible refine Kd.C_alloc ?_ _) |(with_reducible refine Kd.C_drewN ?_ _) |(with_reducible refine Kd.C_drew ?_)));(case side2=>exact(Kd.R_reads' HO_7.out).2.1);rintro e w' ⟨rfl,⟨nd,rfl⟩⟩;refine⟨_,rfl,?_⟩))
      (try(rw [drewN_self wc];generalize hq_ : World.drewN wc _ = wc;have n0_ : Aside0 (Kd.R (Kd.int .i64) 3 wc w.heap.size (fun _=>True) (.slice Ao11 t577.length co11) t577):=⟨by rw [← hq_];exact(by(with_reducible repeat(first | apply Kd.R_alloc | apply Kd.R_drewN | apply Kd.R_drew));exact HO_7.out)⟩;have n1_ : Aside0 (wc.heap[gb589]? = some (.cells #[.int .i64 t586,.int .i64 t587] 45 (0,0))):=⟨by rw [← hq_];exact(by(with_reducible repeat(first | refine bkN ?_ _ | refine bkD ?_ | refine bkA ?_ _));exact BK589.out)⟩;have n2_ : Aside0 (Below w.heap.size w wc):=⟨by rw [← hq_];exact(by repeat(first |(with_reducible first | exact HB.out | apply bwA | apply bwN | apply bw1 | refine bwS ?_ GE589.out) | exact HB.out))⟩;clear HO_7 BK589 HB hq_;have HO_7:=n0_;have BK589:=n1_;have HB:=n2_;clear n0_ n1_ n2_))
      have n0_:=Aside0.mk (Kd.R_drew HO_7.out)
      have n1_:=Aside0.mk (bkD BK589.out)
      have n2_:=Aside0.mk (bw1 HB.out)
      clear HO_7
      clear BK589
      clear HB
      have HO_7:=n0_
      have BK589:=n1_
      have HB:=n2_
      clear n0_ n1_ n2_
      refine start_ (n:=22) (S:=fun w'=>True) (ds:=[]) #[false,false,false,false,false,false,false,false,false,false,false,false,false,false,false,false,false,false,false,false,false,false] (by kernel_rfl) rfl rfl trivial (fun hHeld=>?_);refine with_tabW w10_TurnsOrders.tab12 w10_TurnsOrders.bits12 (fun HT_ HW_=>?_)
      generalize wc.drew = w58 at HO_7 BK589 HB hHeld ⊢
      refine pure_ (i:=0) (N:=some 86) (v:=?_) (a':=?_) #[true,false,false,false,false,false,false,false,false,false,false,false,false,false,false,false,false,false,false,false,false,false] rfl rfl (any_of HT_.out (by kernel_rfl)) (fun _ _ _ h=>h) (Or.inl ⟨by rfl,?_⟩) ?_ ?_
      rotate_left
      ·intro w'
       go_simp
       with_reducible rfl
      rotate_left
      ·simp only [Act.put, List.setIfInBounds_toArray, List.set_cons_zero, List.set_cons_succ, i64_w, i32_w]
       rfl
      refine pure_ (i:=1) (N:=some 87) (v:=?_) (a':=?_) #[true,true,false,false,false,false,false,false,false,false,false,false,false,false,false,false,false,false,false,false,false,false] rfl rfl (any_of HT_.out (by kernel_rfl)) (fun _ _ _ h=>h) (Or.inl ⟨by rfl,?_⟩) ?_ ?_
      rotate_left
      ·intro w'
       go_simp
       with_reducible rfl
      rotate_left
      ·simp only [Act.put, List.setIfInBounds_toArray, List.set_cons_zero, List.set_cons_succ, i64_w, i32_w]
       rfl
      refine one_ (i:=2) (N:=some 88) #[true,true,true,false,false,false,false,false,false,false,false,false,false,false,false,false,false,false,false,false,false,false] rfl rfl (one_of HT_.out (by kernel_rfl)) (by decide) (fun K hK=>?_)
      refine goes_ Try.func53 (by kernel_rfl) rfl #[.slice Ao11 t577.length co11] (by rfl) rfl rfl (by(try simp only [List.map_toArray,List.map_cons,List.map_nil]);first | done | rfl |(simp only [List.length_drop,List.length_take];rfl)) ?_
      with_reducible refine(q10_OrderAt.calls kj18 _ _ t577 t596 _ ?side1 ?side2 A41.out).mono ?_
      (case side1=>repeat(first | exact(Kd.R_reads' HO_7.out).2.2 |(with_reducible refine Kd.C_alloc ?_ _) |(with_reducible refine Kd.C_drewN ?_ _) |(with_reducible refine Kd.C_drew ?_)))
      (case side2=>exact(Kd.R_reads' HO_7.out).2.1)
      rintro e w59 ⟨rfl,hb⟩
      refine⟨_,rfl,?_⟩
      have n0_:=Aside0.mk (Kd.R_below (by(with_reducible repeat(first | apply Kd.R_alloc | apply Kd.R_drewN | apply Kd.R_drew));exact HO_7.out) hb)
      have n1_:=Aside0.mk (bkB (g:=gb589) (o:=.cells #[.int .i64 t586,.int .i64 t587] 45 (0,0)) (by(with_reducible repeat(first | refine bkN ?_ _ | refine bkD ?_ | refine bkA ?_ _));exact BK589.out) hb)
      have n2_:=Aside0.mk (bwT (by repeat(first |(with_reducible first | exact HB.out | apply bwA | apply bwN | apply bw1 | refine bwS ?_ GE589.out) | exact HB.out)) hb)
      clear HO_7
      clear BK589
      clear HB
      have HO_7:=n0_
      have BK589:=n1_
      have HB:=n2_
      clear n0_ n1_ n2_
      (try clear hb)
      (try clear hb2)
      (try clear hk)
      (try clear hi)
      refine hK.out _ _ trivial (fun hHeld=>?_)
      clear hK K
      refine norm_ (a':=?_) ?_ ?_
      rotate_left
      ·show Act.put _ (some 88) _ = _
       simp only [Act.put,List.setIfInBounds_toArray,List.set_cons_zero,List.set_cons_succ,i64_w,i32_w]
       rfl
      refine pure_ (i:=3) (N:=some 89) (v:=?_) (a':=?_) #[true,true,true,true,false,false,false,false,false,false,false,false,false,false,false,false,false,false,false,false,false,false] rfl rfl (any_of HT_.out (by kernel_rfl)) (fun _ _ _ h=>h) (Or.inl ⟨by rfl,?_⟩) ?_ ?_
      rotate_left
      ·intro w'
       go_simp
       with_reducible rfl
      rotate_left
      ·simp only [Act.put, List.setIfInBounds_toArray, List.set_cons_zero, List.set_cons_succ, i64_w, i32_w]
       rfl
      refine pure_ (i:=4) (N:=some 90) (v:=?_) (a':=?_) #[true,true,true,true,true,false,false,false,false,false,false,false,false,false,false,false,false,false,false,false,false,false] rfl rfl (any_of HT_.out (by kernel_rfl)) (fun _ _ _ h=>h) (Or.inl ⟨by rfl,?_⟩) ?_ ?_
      rotate_left
      ·intro w'
       go_simp
       with_reducible rfl
      rotate_left
      ·simp only [Act.put, List.setIfInBounds_toArray, List.set_cons_zero, List.set_cons_succ, i64_w, i32_w]
       rfl
      refine pure_ (i:=5) (N:=some 91) (v:=?_) (a':=?_) #[true,true,true,true,true,true,false,false,false,false,false,false,false,false,false,false,false,false,false,false,false,false] rfl rfl (any_of HT_.out (by kernel_rfl)) (fun _ _ _ h=>h) (Or.inl ⟨by rfl,?_⟩) ?_ ?_
      rotate_left
      ·intro w'
       go_simp
       with_reducible rfl
      rotate_left
      ·simp only [Act.put, List.setIfInBounds_toArray, List.set_cons_zero, List.set_cons_succ, i64_w, i32_w]
       rfl
      refine pure_ (i:=6) (N:=some 92) (v:=?_) (a':=?_) #[true,true,true,true,true,true,true,false,false,false,false,false,false,false,false,false,false,false,false,false,false,false] rfl rfl (any_of HT_.out (by kernel_rfl)) (fun _ _ _ h=>h) (Or.inl ⟨by rfl,?_⟩) ?_ ?_
      rotate_left
      ·intro w'
       go_simp
       with_reducible rfl
      rotate_left
      ·simp only [Act.put, List.setIfInBounds_toArray, List.set_cons_zero, List.set_cons_succ, i64_w, i32_w]
       rfl
      refine pure_ (i:=7) (N:=some 93) (v:=?_) (a':=?_) #[true,true,true,true,true,true,true,true,false,false,false,false,false,false,false,false,false,false,false,false,false,false] rfl rfl (any_of HT_.out (by kernel_rfl)) (fun _ _ _ h=>h) (Or.inl ⟨by rfl,?_⟩) ?_ ?_
      rotate_left
      ·intro w'
       go_simp
       with_reducible rfl
      rotate_left
      ·simp only [Act.put, List.setIfInBounds_toArray, List.set_cons_zero, List.set_cons_succ, i64_w, i32_w]
       rfl
      refine pure_ (i:=8) (N:=some 94) (v:=?_) (a':=?_) #[true,true,true,true,true,true,true,true,true,false,false,false,false,false,false,false,false,false,false,false,false,false] rfl rfl (any_of HT_.out (by kernel_rfl)) (fun _ _ _ h=>h) (Or.inl ⟨by rfl,?_⟩) ?_ ?_
      rotate_left
      ·intro w'
       go_simp
       with_reducible rfl
      rotate_left
      ·simp only [Act.put, List.setIfInBounds_toArray, List.set_cons_zero, List.set_cons_succ, i64_w, i32_w]
       rfl
      refine pure_ (i:=9) (N:=some 95) (v:=undef) (a':=?_) #[true,true,true,true,true,true,true,true,true,true,false,false,false,false,false,false,false,false,false,false,false,false] rfl rfl (any_of HT_.out (by kernel_rfl)) (fun _ _ _ h=>h) (Or.inr ⟨by rfl,rfl⟩) ?_ ?_
      rotate_left
      ·simp only [Act.put, List.setIfInBounds_toArray, List.set_cons_zero, List.set_cons_succ, i64_w, i32_w]
       rfl
      refine pure_ (i:=10) (N:=some 96) (v:=undef) (a':=?_) #[true,true,true,true,true,true,true,true,true,true,true,false,false,false,false,false,false,false,false,false,false,false] rfl rfl (any_of HT_.out (by kernel_rfl)) (fun _ _ _ h=>h) (Or.inr ⟨by rfl,rfl⟩) ?_ ?_
      rotate_left
      ·simp only [Act.put, List.setIfInBounds_toArray, List.set_cons_zero, List.set_cons_succ, i64_w, i32_w]
       rfl
      refine pure_ (i:=11) (N:=some 97) (v:=undef) (a':=?_) #[true,true,true,true,true,true,true,true,true,true,true,true,false,false,false,false,false,false,false,false,false,false] rfl rfl (any_of HT_.out (by kernel_rfl)) (fun _ _ _ h=>h) (Or.inr ⟨by rfl,rfl⟩) ?_ ?_
      rotate_left
      ·simp only [Act.put, List.setIfInBounds_toArray, List.set_cons_zero, List.set_cons_succ, i64_w, i32_w]
       rfl
      refine pure_ (i:=12) (N:=some 98) (v:=undef) (a':=?_) #[true,true,true,true,true,true,true,true,true,true,true,true,true,false,false,false,false,false,false,false,false,false] rfl rfl (any_of HT_.out (by kernel_rfl)) (fun _ _ _ h=>h) (Or.inr ⟨by rfl,rfl⟩) ?_ ?_
      rotate_left
      ·simp only [Act.put, List.setIfInBounds_toArray, List.set_cons_zero, List.set_cons_succ, i64_w, i32_w]
       rfl
      refine pure_ (i:=13) (N:=some 99) (v:=?_) (a':=?_) #[true,true,true,true,true,true,true,true,true,true,true,true,true,true,false,false,false,false,false,false,false,false] rfl rfl (any_of HT_.out (by kernel_rfl)) (fun _ _ _ h=>h) (Or.inl ⟨by rfl,?_⟩) ?_ ?_
      rotate_left
      ·intro w'
       go_simp
       with_reducible rfl
      rotate_left
      ·simp only [Act.put, List.setIfInBounds_toArray, List.set_cons_zero, List.set_cons_succ, i64_w, i32_w]
       rfl
      refine pure_ (i:=14) (N:=some 100) (v:=?_) (a':=?_) #[true,true,true,true,true,true,true,true,true,true,true,true,true,true,true,false,false,false,false,false,false,false] rfl rfl (any_of HT_.out (by kernel_rfl)) (fun _ _ _ h=>h) (Or.inl ⟨by rfl,?_⟩) ?_ ?_
      rotate_left
      ·intro w'
       go_simp
       with_reducible rfl
      rotate_left
      ·simp only [Act.put, List.setIfInBounds_toArray, List.set_cons_zero, List.set_cons_succ, i64_w, i32_w]
       rfl
      refine pure_ (i:=15) (N:=some 101) (v:=undef) (a':=?_) #[true,true,true,true,true,true,true,true,true,true,true,true,true,true,true,true,false,false,false,false,false,false] rfl rfl (any_of HT_.out (by kernel_rfl)) (fun _ _ _ h=>h) (Or.inr ⟨by rfl,rfl⟩) ?_ ?_
      rotate_left
      ·simp only [Act.put, List.setIfInBounds_toArray, List.set_cons_zero, List.set_cons_succ, i64_w, i32_w]
       rfl
      refine pure_ (i:=16) (N:=some 102) (v:=undef) (a':=?_) #[true,true,true,true,true,true,true,true,true,true,true,true,true,true,true,true,true,false,false,false,false,false] rfl rfl (any_of HT_.out (by kernel_rfl)) (fun _ _ _ h=>h) (Or.inr ⟨by rfl,rfl⟩) ?_ ?_
      rotate_left
      ·simp only [Act.put, List.setIfInBounds_toArray, List.set_cons_zero, List.set_cons_succ, i64_w, i32_w]
       rfl
      refine pure_ (i:=17) (N:=some 103) (v:=?_) (a':=?_) #[true,true,true,true,true,true,true,true,true,true,true,true,true,true,true,true,true,true,false,false,false,false] rfl rfl (any_of HT_.out (by kernel_rfl)) (fun _ _ _ h=>h) (Or.inl ⟨by rfl,?_⟩) ?_ ?_
      rotate_left
      ·intro w'
       go_simp
       with_reducible rfl
      rotate_left
      ·simp only [Act.put, List.setIfInBounds_toArray, List.set_cons_zero, List.set_cons_succ, i64_w, i32_w]
       rfl
      refine pure_ (i:=18) (N:=some 104) (v:=?_) (a':=?_) #[true,true,true,true,true,true,true,true,true,true,true,true,true,true,true,true,true,true,true,false,false,false] rfl rfl (any_of HT_.out (by kernel_rfl)) (fun _ _ _ h=>h) (Or.inl ⟨by rfl,?_⟩) ?_ ?_
      rotate_left
      ·intro w'
       go_simp
       with_reducible rfl
      rotate_left
      ·simp only [Act.put, List.setIfInBounds_toArray, List.set_cons_zero, List.set_cons_succ, i64_w, i32_w]
       rfl
      refine pure_ (i:=19) (N:=some 105) (v:=undef) (a':=?_) #[true,true,true,true,true,true,true,true,true,true,true,true,true,true,true,true,true,true,true,true,false,false] rfl rfl (any_of HT_.out (by kernel_rfl)) (fun _ _ _ h=>h) (Or.inr ⟨by rfl,rfl⟩) ?_ ?_
      rotate_left
      ·simp only [Act.put, List.setIfInBounds_toArray, List.set_cons_zero, List.set_cons_succ, i64_w, i32_w]
       rfl
      refine pure_ (i:=20) (N:=some 106) (v:=?_) (a':=?_) #[true,true,true,true,true,true,true,true,true,true,true,true,true,true,true,true,true,true,true,true,true,false] rfl rfl (any_of HT_.out (by kernel_rfl)) (fun _ _ _ h=>h) (Or.inl ⟨by rfl,?_⟩) ?_ ?_
      rotate_left
      ·intro w'
       go_simp
       with_reducible rfl
      rotate_left
      ·simp only [Act.put, List.setIfInBounds_toArray, List.set_cons_zero, List.set_cons_succ, i64_w, i32_w]
       rfl
      refine pure_ (i:=21) (N:=some 6) (v:=?_) (a':=?_) #[true,true,true,true,true,true,true,true,true,true,true,true,true,true,true,true,true,true,true,true,true,true] rfl rfl (any_of HT_.out (by kernel_rfl)) (fun _ _ _ h=>h) (Or.inl ⟨by rfl,?_⟩) ?_ ?_
      rotate_left
      ·intro w'
       go_simp
       with_reducible rfl
      rotate_left
      ·simp only [Act.put, List.setIfInBounds_toArray, List.set_cons_zero, List.set_cons_succ, i64_w, i32_w]
       rfl
      refine done_ (done_of HT_.out (by kernel_rfl)) ?_
      try go_wp2
      go_ret
      exact⟨by first | rfl |(simp [errW_none,errW_some] <;> rfl) |(simp [*,errW_none,errW_some] <;> rfl),by repeat(first |(with_reducible first | exact HB.out | apply bwA | apply bwN | apply bw1 | refine bwS ?_ GE589.out) | exact HB.out)⟩
     rw [if_pos c43] at H
     have c43b0 :(t585 == 0) = true:=beq_iff_eq.mpr c43
     have c43b1 :(t585 != 0) = false:=bne_eq_false_iff_eq.mpr c43
     clear c43
     replace H:=Option.bind_eq_some_iff.mp H
     obtain ⟨⟨t597,t598⟩,A440,H⟩:=H
     replace H :(if(t586 == t597 && (t587 == t598)) = true then(if t588 = 0 then((w10_awake.f kj18).bind fun t599=>(some t599)) else(some false)) else(some false)) = some r:=H
     have A44:=Aside0.mk A440
     clear A440
     by_cases c45 :(t586 == t597 && (t587 == t598)) = true
     rotate_left
     ·rw [if_neg c45] at H
      have c45b0 :(t586 == t597 && (t587 == t598)) = false:=by simpa using c45
      (try(have c45b1 : decide (t586 = t597 && (t587 == t598)) = false:=by simpa using c45))
      (try(have c45b2 :(t586 == t597 && (t587 == t598)) = false:=by simpa using c45))
      (try(have c45b3 : ¬ (t586 = t597 && (t587 == t598)):=by simpa using c45))
      clear c45
      obtain rfl:=Option.some.inj H
      try go_wp2_with (first |((with_reducible refine gate_callee (f:=52) rfl ?_);refine goesL_ (some 66) rfl rfl Try.func52 (by kernel_rfl) rfl #[.slice Ao11 t577.length co11] rfl (by(try simp only [List.map_toArray,List.map_cons,List.map_nil]);first | done | rfl |(simp only [List.length_drop,List.length_take];rfl)) ?_;(with_reducible refine(q10_Orders.calls kj18 _ _ t577 true _ ?side1 ?side2 A39.out).mono ?_);(case side1=>repeat(first | exact(Kd.R_reads' HO_7.out).2.2 |(with_reducible refine Kd.C_alloc ?_ _) |(with_reducible refine Kd.C_drewN ?_ _) |(with_reducible refine Kd.C_drew ?_)));(case side2=>exact(Kd.R_reads' HO_7.out).2.1);rintro e w' ⟨rfl,⟨nd,rfl⟩⟩;refine⟨_,rfl,?_⟩))
      (try(rw [drewN_self wc];generalize hq_ : World.drewN wc _ = wc;have n0_ : Aside0 (Kd.R (Kd.int .i64) 3 wc w.heap.size (fun _=>True) (.slice Ao11 t577.length co11) t577):=⟨by rw [← hq_];exact(by(with_reducible repeat(first | apply Kd.R_alloc | apply Kd.R_drewN | apply Kd.R_drew));exact HO_7.out)⟩;have n1_ : Aside0 (wc.heap[gb589]? = some (.cells #[.int .i64 t586,.int .i64 t587] 45 (0,0))):=⟨by rw [← hq_];exact(by(with_reducible repeat(first | refine bkN ?_ _ | refine bkD ?_ | refine bkA ?_ _));exact BK589.out)⟩;have n2_ : Aside0 (Below w.heap.size w wc):=⟨by rw [← hq_];exact(by repeat(first |(with_reducible first | exact HB.out | apply bwA | apply bwN | apply bw1 | refine bwS ?_ GE589.out) | exact HB.out))⟩;clear HO_7 BK589 HB hq_;have HO_7:=n0_;have BK589:=n1_;have HB:=n2_;clear n0_ n1_ n2_))
      have n0_:=Aside0.mk (Kd.R_drew HO_7.out)
      have n1_:=Aside0.mk (bkD BK589.out)
      have n2_:=Aside0.mk (bw1 HB.out)
      clear HO_7
      clear BK589
      clear HB
      have HO_7:=n0_
      have BK589:=n1_
      have HB:=n2_
      clear n0_ n1_ n2_
      refine start_ (n:=22) (S:=fun w'=>w'.cell? ⟨gb589,0,none⟩ = some (.int .i64 t586)∧w'.cell? ⟨gb589,1,none⟩ = some (.int .i64 t587)) (ds:=[]) #[false,false,false,false,false,false,false,false,false,false,false,false,false,false,false,false,false,false,false,false,false,false] (by kernel_rfl) rfl rfl ⟨(bkC BK589.out 0).trans rfl,(bkC BK589.out 1).trans rfl⟩ (fun hHeld=>?_);refine with_tabW w10_TurnsOrders.tab12 w10_TurnsOrders.bits12 (fun HT_ HW_=>?_)
      generalize wc.drew = w55 at HO_7 BK589 HB hHeld ⊢
      refine pure_ (i:=0) (N:=some 86) (v:=?_) (a':=?_) #[true,false,false,false,false,false,false,false,false,false,false,false,false,false,false,false,false,false,false,false,false,false] rfl rfl (any_of HT_.out (by kernel_rfl)) (fun _ _ _ h=>h) (Or.inl ⟨by rfl,?_⟩) ?_ ?_
      rotate_left
      ·intro w'
       go_simp
       with_reducible rfl
      rotate_left
      ·simp only [Act.put, List.setIfInBounds_toArray, List.set_cons_zero, List.set_cons_succ, i64_w, i32_w]
       rfl
      refine pure_ (i:=1) (N:=some 87) (v:=?_) (a':=?_) #[true,true,false,false,false,false,false,false,false,false,false,false,false,false,false,false,false,false,false,false,false,false] rfl rfl (any_of HT_.out (by kernel_rfl)) (fun _ _ _ h=>h) (Or.inl ⟨by rfl,?_⟩) ?_ ?_
      rotate_left
      ·intro w'
       go_simp
       with_reducible rfl
      rotate_left
      ·simp only [Act.put, List.setIfInBounds_toArray, List.set_cons_zero, List.set_cons_succ, i64_w, i32_w]
       rfl
      refine one_ (i:=2) (N:=some 88) #[true,true,true,false,false,false,false,false,false,false,false,false,false,false,false,false,false,false,false,false,false,false] rfl rfl (one_of HT_.out (by kernel_rfl)) (by decide) (fun K hK=>?_)
      refine goes_ Try.func53 (by kernel_rfl) rfl #[.slice Ao11 t577.length co11] (by rfl) rfl rfl (by(try simp only [List.map_toArray,List.map_cons,List.map_nil]);first | done | rfl |(simp only [List.length_drop,List.length_take];rfl)) ?_
      with_reducible refine(q10_OrderAt.calls kj18 _ _ t577 t596 _ ?side1 ?side2 A41.out).mono ?_
      (case side1=>repeat(first | exact(Kd.R_reads' HO_7.out).2.2 |(with_reducible refine Kd.C_alloc ?_ _) |(with_reducible refine Kd.C_drewN ?_ _) |(with_reducible refine Kd.C_drew ?_)))
      (case side2=>exact(Kd.R_reads' HO_7.out).2.1)
      rintro e w56 ⟨rfl,hb⟩
      refine⟨_,rfl,?_⟩
      have n0_:=Aside0.mk (Kd.R_below (by(with_reducible repeat(first | apply Kd.R_alloc | apply Kd.R_drewN | apply Kd.R_drew));exact HO_7.out) hb)
      have n1_:=Aside0.mk (bkB (g:=gb589) (o:=.cells #[.int .i64 t586,.int .i64 t587] 45 (0,0)) (by(with_reducible repeat(first | refine bkN ?_ _ | refine bkD ?_ | refine bkA ?_ _));exact BK589.out) hb)
      have n2_:=Aside0.mk (bwT (by repeat(first |(with_reducible first | exact HB.out | apply bwA | apply bwN | apply bw1 | refine bwS ?_ GE589.out) | exact HB.out)) hb)
      clear HO_7
      clear BK589
      clear HB
      have HO_7:=n0_
      have BK589:=n1_
      have HB:=n2_
      clear n0_ n1_ n2_
      (try clear hb)
      (try clear hb2)
      (try clear hk)
      (try clear hi)
      refine hK.out _ _ ⟨(bkC BK589.out 0).trans rfl,(bkC BK589.out 1).trans rfl⟩ (fun hHeld=>?_)
      clear hK K
      refine norm_ (a':=?_) ?_ ?_
      rotate_left
      ·show Act.put _ (some 88) _ = _
       simp only [Act.put,List.setIfInBounds_toArray,List.set_cons_zero,List.set_cons_succ,i64_w,i32_w]
       rfl
      refine pure_ (i:=3) (N:=some 89) (v:=?_) (a':=?_) #[true,true,true,true,false,false,false,false,false,false,false,false,false,false,false,false,false,false,false,false,false,false] rfl rfl (any_of HT_.out (by kernel_rfl)) (fun _ _ _ h=>h) (Or.inl ⟨by rfl,?_⟩) ?_ ?_
      rotate_left
      ·intro w'
       go_simp
       with_reducible rfl
      rotate_left
      ·simp only [Act.put, List.setIfInBounds_toArray, List.set_cons_zero, List.set_cons_succ, i64_w, i32_w]
       rfl
      refine pure_ (i:=4) (N:=some 90) (v:=?_) (a':=?_) #[true,true,true,true,true,false,false,false,false,false,false,false,false,false,false,false,false,false,false,false,false,false] rfl rfl (any_of HT_.out (by kernel_rfl)) (fun _ _ _ h=>h) (Or.inl ⟨by rfl,?_⟩) ?_ ?_
      rotate_left
      ·intro w'
       go_simp
       with_reducible rfl
      rotate_left
      ·simp only [Act.put, List.setIfInBounds_toArray, List.set_cons_zero, List.set_cons_succ, i64_w, i32_w]
       rfl
      refine pure_ (i:=5) (N:=some 91) (v:=?_) (a':=?_) #[true,true,true,true,true,true,false,false,false,false,false,false,false,false,false,false,false,false,false,false,false,false] rfl rfl (any_of HT_.out (by kernel_rfl)) (fun _ _ _ h=>h) (Or.inl ⟨by rfl,?_⟩) ?_ ?_
      rotate_left
      ·intro w'
       go_simp
       with_reducible rfl
      rotate_left
      ·simp only [Act.put, List.setIfInBounds_toArray, List.set_cons_zero, List.set_cons_succ, i64_w, i32_w]
       rfl
      refine pure_ (i:=6) (N:=some 92) (v:=?_) (a':=?_) #[true,true,true,true,true,true,true,false,false,false,false,false,false,false,false,false,false,false,false,false,false,false] rfl rfl (any_of HT_.out (by kernel_rfl)) (fun _ _ _ h=>h) (Or.inl ⟨by rfl,?_⟩) ?_ ?_
      rotate_left
      ·intro w'
       go_simp
       with_reducible rfl
      rotate_left
      ·simp only [Act.put, List.setIfInBounds_toArray, List.set_cons_zero, List.set_cons_succ, i64_w, i32_w]
       rfl
      refine pure_ (i:=7) (N:=some 93) (v:=?_) (a':=?_) #[true,true,true,true,true,true,true,true,false,false,false,false,false,false,false,false,false,false,false,false,false,false] rfl rfl (any_of HT_.out (by kernel_rfl)) (fun _ _ _ h=>h) (Or.inl ⟨by rfl,?_⟩) ?_ ?_
      rotate_left
      ·intro w'
       go_simp
       with_reducible rfl
      rotate_left
      ·simp only [Act.put, List.setIfInBounds_toArray, List.set_cons_zero, List.set_cons_succ, i64_w, i32_w]
       rfl
      refine pure_ (i:=8) (N:=some 94) (v:=?_) (a':=?_) #[true,true,true,true,true,true,true,true,true,false,false,false,false,false,false,false,false,false,false,false,false,false] rfl rfl (any_of HT_.out (by kernel_rfl)) (fun _ _ _ h=>h) (Or.inl ⟨by rfl,?_⟩) ?_ ?_
      rotate_left
      ·intro w'
       go_simp
       with_reducible rfl
      rotate_left
      ·simp only [Act.put, List.setIfInBounds_toArray, List.set_cons_zero, List.set_cons_succ, i64_w, i32_w]
       rfl
      refine pure_ (i:=10) (N:=some 96) (v:=?_) (a':=?_) #[true,true,true,true,true,true,true,true,true,false,true,false,false,false,false,false,false,false,false,false,false,false] rfl rfl (any_of HT_.out (by kernel_rfl)) (fun _ _ _ h=>h) (Or.inl ⟨by rfl,?_⟩) ?_ ?_
      rotate_left
      ·intro w'
       go_simp
       with_reducible rfl
      rotate_left
      ·simp only [Act.put, List.setIfInBounds_toArray, List.set_cons_zero, List.set_cons_succ, i64_w, i32_w]
       rfl
      refine take_ (i:=9) (N:=some 95) (v:=?_) (a':=?_) #[true,true,true,true,true,true,true,true,true,true,true,false,false,false,false,false,false,false,false,false,false,false] rfl rfl (take_ofW HT_.out HW_.out (by kernel_rfl)) (fun _ _ _ h=>h) (Or.inl ⟨by rfl,?_⟩) hHeld ?_ ?_
      rotate_left
      ·rintro w' ⟨s0, s1⟩
       go_simp
       with_reducible rfl
      rotate_left
      ·simp only [Act.put, List.setIfInBounds_toArray, List.set_cons_zero, List.set_cons_succ, i64_w, i32_w]
       rfl
      refine one_ (i:=11) (N:=some 97) #[true,true,true,true,true,true,true,true,true,true,true,true,false,false,false,false,false,false,false,false,false,false] rfl rfl (one_of HT_.out (by kernel_rfl)) (by decide) (fun K hK=>?_)
      refine goes_ Try.func54 (by kernel_rfl) rfl #[.slice Ao11 t577.length co11] (by rfl) rfl rfl (by(try simp only [List.map_toArray,List.map_cons,List.map_nil]);first | done | rfl |(simp only [List.length_drop,List.length_take];rfl)) ?_
      with_reducible refine(q10_Turn.calls kj18 _ _ t577 t597 t598 _ ?side1 ?side2 A44.out).mono ?_
      (case side1=>repeat(first | exact(Kd.R_reads' HO_7.out).2.2 |(with_reducible refine Kd.C_alloc ?_ _) |(with_reducible refine Kd.C_drewN ?_ _) |(with_reducible refine Kd.C_drew ?_)))
      (case side2=>exact(Kd.R_reads' HO_7.out).2.1)
      rintro e w57 ⟨rfl,hb⟩
      refine⟨_,rfl,?_⟩
      have n0_:=Aside0.mk (Kd.R_below (by(with_reducible repeat(first | apply Kd.R_alloc | apply Kd.R_drewN | apply Kd.R_drew));exact HO_7.out) hb)
      have n1_:=Aside0.mk (bkB (g:=gb589) (o:=.cells #[.int .i64 t586,.int .i64 t587] 45 (0,0)) (by(with_reducible repeat(first | refine bkN ?_ _ | refine bkD ?_ | refine bkA ?_ _));exact BK589.out) hb)
      have n2_:=Aside0.mk (bwT (by repeat(first |(with_reducible first | exact HB.out | apply bwA | apply bwN | apply bw1 | refine bwS ?_ GE589.out) | exact HB.out)) hb)
      clear HO_7
      clear BK589
      clear HB
      have HO_7:=n0_
      have BK589:=n1_
      have HB:=n2_
      clear n0_ n1_ n2_
      (try clear hb)
      (try clear hb2)
      (try clear hk)
      (try clear hi)
      refine hK.out _ _ ⟨(bkC BK589.out 0).trans rfl,(bkC BK589.out 1).trans rfl⟩ (fun hHeld=>?_)
      clear hK K
      refine norm_ (a':=?_) ?_ ?_
      rotate_left
      ·show Act.put _ (some 97) _ = _
       simp only [Act.put,List.setIfInBounds_toArray,List.set_cons_zero,List.set_cons_succ,i64_w,i32_w]
       rfl
      refine pure_ (i:=12) (N:=some 98) (v:=?_) (a':=?_) #[true,true,true,true,true,true,true,true,true,true,true,true,true,false,false,false,false,false,false,false,false,false] rfl rfl (any_of HT_.out (by kernel_rfl)) (fun _ _ _ h=>h) (Or.inl ⟨by rfl,?_⟩) ?_ ?_
      rotate_left
      ·intro w'
       go_simp
       with_reducible rfl
      rotate_left
      ·simp only [Act.put, List.setIfInBounds_toArray, List.set_cons_zero, List.set_cons_succ, i64_w, i32_w]
       rfl
      refine pure_ (i:=13) (N:=some 99) (v:=?_) (a':=?_) #[true,true,true,true,true,true,true,true,true,true,true,true,true,true,false,false,false,false,false,false,false,false] rfl rfl (any_of HT_.out (by kernel_rfl)) (fun _ _ _ h=>h) (Or.inl ⟨by rfl,?_⟩) ?_ ?_
      rotate_left
      ·intro w'
       go_simp
       with_reducible rfl
      rotate_left
      ·simp only [Act.put, List.setIfInBounds_toArray, List.set_cons_zero, List.set_cons_succ, i64_w, i32_w]
       rfl
      refine pure_ (i:=14) (N:=some 100) (v:=?_) (a':=?_) #[true,true,true,true,true,true,true,true,true,true,true,true,true,true,true,false,false,false,false,false,false,false] rfl rfl (any_of HT_.out (by kernel_rfl)) (fun _ _ _ h=>h) (Or.inl ⟨by rfl,?_⟩) ?_ ?_
      rotate_left
      ·intro w'
       go_simp
       with_reducible rfl
      rotate_left
      ·simp only [Act.put, List.setIfInBounds_toArray, List.set_cons_zero, List.set_cons_succ, i64_w, i32_w]
       rfl
      refine pure_ (i:=15) (N:=some 101) (v:=undef) (a':=?_) #[true,true,true,true,true,true,true,true,true,true,true,true,true,true,true,true,false,false,false,false,false,false] rfl rfl (any_of HT_.out (by kernel_rfl)) (fun _ _ _ h=>h) (Or.inr ⟨by rfl,rfl⟩) ?_ ?_
      rotate_left
      ·simp only [Act.put, List.setIfInBounds_toArray, List.set_cons_zero, List.set_cons_succ, i64_w, i32_w]
       rfl
      refine pure_ (i:=16) (N:=some 102) (v:=undef) (a':=?_) #[true,true,true,true,true,true,true,true,true,true,true,true,true,true,true,true,true,false,false,false,false,false] rfl rfl (any_of HT_.out (by kernel_rfl)) (fun _ _ _ h=>h) (Or.inr ⟨by rfl,rfl⟩) ?_ ?_
      rotate_left
      ·simp only [Act.put, List.setIfInBounds_toArray, List.set_cons_zero, List.set_cons_succ, i64_w, i32_w]
       rfl
      refine pure_ (i:=17) (N:=some 103) (v:=?_) (a':=?_) #[true,true,true,true,true,true,true,true,true,true,true,true,true,true,true,true,true,true,false,false,false,false] rfl rfl (any_of HT_.out (by kernel_rfl)) (fun _ _ _ h=>h) (Or.inl ⟨by rfl,?_⟩) ?_ ?_
      rotate_left
      ·intro w'
       go_simp
       with_reducible rfl
      rotate_left
      ·simp only [Act.put, List.setIfInBounds_toArray, List.set_cons_zero, List.set_cons_succ, i64_w, i32_w]
       rfl
      refine pure_ (i:=18) (N:=some 104) (v:=?_) (a':=?_) #[true,true,true,true,true,true,true,true,true,true,true,true,true,true,true,true,true,true,true,false,false,false] rfl rfl (any_of HT_.out (by kernel_rfl)) (fun _ _ _ h=>h) (Or.inl ⟨by rfl,?_⟩) ?_ ?_
      rotate_left
      ·intro w'
       go_simp
       with_reducible rfl
      rotate_left
      ·simp only [Act.put, List.setIfInBounds_toArray, List.set_cons_zero, List.set_cons_succ, i64_w, i32_w]
       rfl
      refine pure_ (i:=19) (N:=some 105) (v:=undef) (a':=?_) #[true,true,true,true,true,true,true,true,true,true,true,true,true,true,true,true,true,true,true,true,false,false] rfl rfl (any_of HT_.out (by kernel_rfl)) (fun _ _ _ h=>h) (Or.inr ⟨by rfl,rfl⟩) ?_ ?_
      rotate_left
      ·simp only [Act.put, List.setIfInBounds_toArray, List.set_cons_zero, List.set_cons_succ, i64_w, i32_w]
       rfl
      refine pure_ (i:=20) (N:=some 106) (v:=?_) (a':=?_) #[true,true,true,true,true,true,true,true,true,true,true,true,true,true,true,true,true,true,true,true,true,false] rfl rfl (any_of HT_.out (by kernel_rfl)) (fun _ _ _ h=>h) (Or.inl ⟨by rfl,?_⟩) ?_ ?_
      rotate_left
      ·intro w'
       go_simp
       with_reducible rfl
      rotate_left
      ·simp only [Act.put, List.setIfInBounds_toArray, List.set_cons_zero, List.set_cons_succ, i64_w, i32_w]
       rfl
      refine pure_ (i:=21) (N:=some 6) (v:=?_) (a':=?_) #[true,true,true,true,true,true,true,true,true,true,true,true,true,true,true,true,true,true,true,true,true,true] rfl rfl (any_of HT_.out (by kernel_rfl)) (fun _ _ _ h=>h) (Or.inl ⟨by rfl,?_⟩) ?_ ?_
      rotate_left
      ·intro w'
       go_simp
       with_reducible rfl
      rotate_left
      ·simp only [Act.put, List.setIfInBounds_toArray, List.set_cons_zero, List.set_cons_succ, i64_w, i32_w]
       rfl
      refine done_ (done_of HT_.out (by kernel_rfl)) ?_
      try go_wp2
      go_ret
      exact⟨by first | rfl |(simp [errW_none,errW_some] <;> rfl) |(simp [*,errW_none,errW_some] <;> rfl),by repeat(first |(with_reducible first | exact HB.out | apply bwA | apply bwN | apply bw1 | refine bwS ?_ GE589.out) | exact HB.out)⟩
     rw [if_pos c45] at H
     have c45b0 :(t586 == t597 && (t587 == t598)) = true:=c45
     (try(have c45b1 : decide (t586 = t597 && (t587 == t598)) = true:=by simpa using c45))
     (try(have c45b2 :(t586 == t597 && (t587 == t598)) = true:=by simpa using c45))
     clear c45
     by_cases c46 : t588 = 0
     rotate_left
     ·rw [if_neg c46] at H
      have c46b0 :(t588 == 0) = false:=beq_eq_false_iff_ne.mpr c46
      have c46b1 :(t588 != 0) = true:=bne_iff_ne.mpr c46
      obtain rfl:=Option.some.inj H
      try go_wp2_with (first |((with_reducible refine gate_callee (f:=52) rfl ?_);refine goesL_ (some 66) rfl rfl Try.func52 (by kernel_rfl) rfl #[.slice Ao11 t577.length co11] rfl (by(try simp only [List.map_toArray,List.map_cons,List.map_nil]);first | done | rfl |(simp only [List.length_drop,List.length_take];rfl)) ?_;(with_reducible refine(q10_Orders.calls kj18 _ _ t577 true _ ?side1 ?side2 A39.out).mono ?_);(case side1=>repeat(first | exact(Kd.R_reads' HO_7.out).2.2 |(with_reducible refine Kd.C_alloc ?_ _) |(with_reducible refine Kd.C_drewN ?_ _) |(with_reducible refine Kd.C_drew ?_)));(case side2=>exact(Kd.R_reads' HO_7.out).2.1);rintro e w' ⟨rfl,⟨nd,rfl⟩⟩;refine⟨_,rfl,?_⟩))
      (try(rw [drewN_self wc];generalize hq_ : World.drewN wc _ = wc;have n0_ : Aside0 (Kd.R (Kd.int .i64) 3 wc w.heap.size (fun _=>True) (.slice Ao11 t577.length co11) t577):=⟨by rw [← hq_];exact(by(with_reducible repeat(first | apply Kd.R_alloc | apply Kd.R_drewN | apply Kd.R_drew));exact HO_7.out)⟩;have n1_ : Aside0 (wc.heap[gb589]? = some (.cells #[.int .i64 t586,.int .i64 t587] 45 (0,0))):=⟨by rw [← hq_];exact(by(with_reducible repeat(first | refine bkN ?_ _ | refine bkD ?_ | refine bkA ?_ _));exact BK589.out)⟩;have n2_ : Aside0 (Below w.heap.size w wc):=⟨by rw [← hq_];exact(by repeat(first |(with_reducible first | exact HB.out | apply bwA | apply bwN | apply bw1 | refine bwS ?_ GE589.out) | exact HB.out))⟩;clear HO_7 BK589 HB hq_;have HO_7:=n0_;have BK589:=n1_;have HB:=n2_;clear n0_ n1_ n2_))
      have n0_:=Aside0.mk (Kd.R_drew HO_7.out)
      have n1_:=Aside0.mk (bkD BK589.out)
      have n2_:=Aside0.mk (bw1 HB.out)
      clear HO_7
      clear BK589
      clear HB
      have HO_7:=n0_
      have BK589:=n1_
      have HB:=n2_
      clear n0_ n1_ n2_
      refine start_ (n:=22) (S:=fun w'=>w'.cell? ⟨gb589,0,none⟩ = some (.int .i64 t586)∧w'.cell? ⟨gb589,1,none⟩ = some (.int .i64 t587)) (ds:=[]) #[false,false,false,false,false,false,false,false,false,false,false,false,false,false,false,false,false,false,false,false,false,false] (by kernel_rfl) rfl rfl ⟨(bkC BK589.out 0).trans rfl,(bkC BK589.out 1).trans rfl⟩ (fun hHeld=>?_);refine with_tabW w10_TurnsOrders.tab12 w10_TurnsOrders.bits12 (fun HT_ HW_=>?_)
      generalize wc.drew = w52 at HO_7 BK589 HB hHeld ⊢
      refine pure_ (i:=0) (N:=some 86) (v:=?_) (a':=?_) #[true,false,false,false,false,false,false,false,false,false,false,false,false,false,false,false,false,false,false,false,false,false] rfl rfl (any_of HT_.out (by kernel_rfl)) (fun _ _ _ h=>h) (Or.inl ⟨by rfl,?_⟩) ?_ ?_
      rotate_left
      ·intro w'
       go_simp
       with_reducible rfl
      rotate_left
      ·simp only [Act.put, List.setIfInBounds_toArray, List.set_cons_zero, List.set_cons_succ, i64_w, i32_w]
       rfl
      refine pure_ (i:=1) (N:=some 87) (v:=?_) (a':=?_) #[true,true,false,false,false,false,false,false,false,false,false,false,false,false,false,false,false,false,false,false,false,false] rfl rfl (any_of HT_.out (by kernel_rfl)) (fun _ _ _ h=>h) (Or.inl ⟨by rfl,?_⟩) ?_ ?_
      rotate_left
      ·intro w'
       go_simp
       with_reducible rfl
      rotate_left
      ·simp only [Act.put, List.setIfInBounds_toArray, List.set_cons_zero, List.set_cons_succ, i64_w, i32_w]
       rfl
      refine one_ (i:=2) (N:=some 88) #[true,true,true,false,false,false,false,false,false,false,false,false,false,false,false,false,false,false,false,false,false,false] rfl rfl (one_of HT_.out (by kernel_rfl)) (by decide) (fun K hK=>?_)
      refine goes_ Try.func53 (by kernel_rfl) rfl #[.slice Ao11 t577.length co11] (by rfl) rfl rfl (by(try simp only [List.map_toArray,List.map_cons,List.map_nil]);first | done | rfl |(simp only [List.length_drop,List.length_take];rfl)) ?_
      with_reducible refine(q10_OrderAt.calls kj18 _ _ t577 t596 _ ?side1 ?side2 A41.out).mono ?_
      (case side1=>repeat(first | exact(Kd.R_reads' HO_7.out).2.2 |(with_reducible refine Kd.C_alloc ?_ _) |(with_reducible refine Kd.C_drewN ?_ _) |(with_reducible refine Kd.C_drew ?_)))
      (case side2=>exact(Kd.R_reads' HO_7.out).2.1)
      rintro e w53 ⟨rfl,hb⟩
      refine⟨_,rfl,?_⟩
      have n0_:=Aside0.mk (Kd.R_below (by(with_reducible repeat(first | apply Kd.R_alloc | apply Kd.R_drewN | apply Kd.R_drew));exact HO_7.out) hb)
      have n1_:=Aside0.mk (bkB (g:=gb589) (o:=.cells #[.int .i64 t586,.int .i64 t587] 45 (0,0)) (by(with_reducible repeat(first | refine bkN ?_ _ | refine bkD ?_ | refine bkA ?_ _));exact BK589.out) hb)
      have n2_:=Aside0.mk (bwT (by repeat(first |(with_reducible first | exact HB.out | apply bwA | apply bwN | apply bw1 | refine bwS ?_ GE589.out) | exact HB.out)) hb)
      clear HO_7
      clear BK589
      clear HB
      have HO_7:=n0_
      have BK589:=n1_
      have HB:=n2_
      clear n0_ n1_ n2_
      (try clear hb)
      (try clear hb2)
      (try clear hk)
      (try clear hi)
      refine hK.out _ _ ⟨(bkC BK589.out 0).trans rfl,(bkC BK589.out 1).trans rfl⟩ (fun hHeld=>?_)
      clear hK K
      refine norm_ (a':=?_) ?_ ?_
      rotate_left
      ·show Act.put _ (some 88) _ = _
       simp only [Act.put,List.setIfInBounds_toArray,List.set_cons_zero,List.set_cons_succ,i64_w,i32_w]
       rfl
      refine pure_ (i:=3) (N:=some 89) (v:=?_) (a':=?_) #[true,true,true,true,false,false,false,false,false,false,false,false,false,false,false,false,false,false,false,false,false,false] rfl rfl (any_of HT_.out (by kernel_rfl)) (fun _ _ _ h=>h) (Or.inl ⟨by rfl,?_⟩) ?_ ?_
      rotate_left
      ·intro w'
       go_simp
       with_reducible rfl
      rotate_left
      ·simp only [Act.put, List.setIfInBounds_toArray, List.set_cons_zero, List.set_cons_succ, i64_w, i32_w]
       rfl
      refine pure_ (i:=4) (N:=some 90) (v:=?_) (a':=?_) #[true,true,true,true,true,false,false,false,false,false,false,false,false,false,false,false,false,false,false,false,false,false] rfl rfl (any_of HT_.out (by kernel_rfl)) (fun _ _ _ h=>h) (Or.inl ⟨by rfl,?_⟩) ?_ ?_
      rotate_left
      ·intro w'
       go_simp
       with_reducible rfl
      rotate_left
      ·simp only [Act.put, List.setIfInBounds_toArray, List.set_cons_zero, List.set_cons_succ, i64_w, i32_w]
       rfl
      refine pure_ (i:=5) (N:=some 91) (v:=?_) (a':=?_) #[true,true,true,true,true,true,false,false,false,false,false,false,false,false,false,false,false,false,false,false,false,false] rfl rfl (any_of HT_.out (by kernel_rfl)) (fun _ _ _ h=>h) (Or.inl ⟨by rfl,?_⟩) ?_ ?_
      rotate_left
      ·intro w'
       go_simp
       with_reducible rfl
      rotate_left
      ·simp only [Act.put, List.setIfInBounds_toArray, List.set_cons_zero, List.set_cons_succ, i64_w, i32_w]
       rfl
      refine pure_ (i:=6) (N:=some 92) (v:=?_) (a':=?_) #[true,true,true,true,true,true,true,false,false,false,false,false,false,false,false,false,false,false,false,false,false,false] rfl rfl (any_of HT_.out (by kernel_rfl)) (fun _ _ _ h=>h) (Or.inl ⟨by rfl,?_⟩) ?_ ?_
      rotate_left
      ·intro w'
       go_simp
       with_reducible rfl
      rotate_left
      ·simp only [Act.put, List.setIfInBounds_toArray, List.set_cons_zero, List.set_cons_succ, i64_w, i32_w]
       rfl
      refine pure_ (i:=7) (N:=some 93) (v:=?_) (a':=?_) #[true,true,true,true,true,true,true,true,false,false,false,false,false,false,false,false,false,false,false,false,false,false] rfl rfl (any_of HT_.out (by kernel_rfl)) (fun _ _ _ h=>h) (Or.inl ⟨by rfl,?_⟩) ?_ ?_
      rotate_left
      ·intro w'
       go_simp
       with_reducible rfl
      rotate_left
      ·simp only [Act.put, List.setIfInBounds_toArray, List.set_cons_zero, List.set_cons_succ, i64_w, i32_w]
       rfl
      refine pure_ (i:=8) (N:=some 94) (v:=?_) (a':=?_) #[true,true,true,true,true,true,true,true,true,false,false,false,false,false,false,false,false,false,false,false,false,false] rfl rfl (any_of HT_.out (by kernel_rfl)) (fun _ _ _ h=>h) (Or.inl ⟨by rfl,?_⟩) ?_ ?_
      rotate_left
      ·intro w'
       go_simp
       with_reducible rfl
      rotate_left
      ·simp only [Act.put, List.setIfInBounds_toArray, List.set_cons_zero, List.set_cons_succ, i64_w, i32_w]
       rfl
      refine pure_ (i:=10) (N:=some 96) (v:=?_) (a':=?_) #[true,true,true,true,true,true,true,true,true,false,true,false,false,false,false,false,false,false,false,false,false,false] rfl rfl (any_of HT_.out (by kernel_rfl)) (fun _ _ _ h=>h) (Or.inl ⟨by rfl,?_⟩) ?_ ?_
      rotate_left
      ·intro w'
       go_simp
       with_reducible rfl
      rotate_left
      ·simp only [Act.put, List.setIfInBounds_toArray, List.set_cons_zero, List.set_cons_succ, i64_w, i32_w]
       rfl
      refine take_ (i:=9) (N:=some 95) (v:=?_) (a':=?_) #[true,true,true,true,true,true,true,true,true,true,true,false,false,false,false,false,false,false,false,false,false,false] rfl rfl (take_ofW HT_.out HW_.out (by kernel_rfl)) (fun _ _ _ h=>h) (Or.inl ⟨by rfl,?_⟩) hHeld ?_ ?_
      rotate_left
      ·rintro w' ⟨s0, s1⟩
       go_simp
       with_reducible rfl
      rotate_left
      ·simp only [Act.put, List.setIfInBounds_toArray, List.set_cons_zero, List.set_cons_succ, i64_w, i32_w]
       rfl
      refine one_ (i:=11) (N:=some 97) #[true,true,true,true,true,true,true,true,true,true,true,true,false,false,false,false,false,false,false,false,false,false] rfl rfl (one_of HT_.out (by kernel_rfl)) (by decide) (fun K hK=>?_)
      refine goes_ Try.func54 (by kernel_rfl) rfl #[.slice Ao11 t577.length co11] (by rfl) rfl rfl (by(try simp only [List.map_toArray,List.map_cons,List.map_nil]);first | done | rfl |(simp only [List.length_drop,List.length_take];rfl)) ?_
      with_reducible refine(q10_Turn.calls kj18 _ _ t577 t597 t598 _ ?side1 ?side2 A44.out).mono ?_
      (case side1=>repeat(first | exact(Kd.R_reads' HO_7.out).2.2 |(with_reducible refine Kd.C_alloc ?_ _) |(with_reducible refine Kd.C_drewN ?_ _) |(with_reducible refine Kd.C_drew ?_)))
      (case side2=>exact(Kd.R_reads' HO_7.out).2.1)
      rintro e w54 ⟨rfl,hb⟩
      refine⟨_,rfl,?_⟩
      have n0_:=Aside0.mk (Kd.R_below (by(with_reducible repeat(first | apply Kd.R_alloc | apply Kd.R_drewN | apply Kd.R_drew));exact HO_7.out) hb)
      have n1_:=Aside0.mk (bkB (g:=gb589) (o:=.cells #[.int .i64 t586,.int .i64 t587] 45 (0,0)) (by(with_reducible repeat(first | refine bkN ?_ _ | refine bkD ?_ | refine bkA ?_ _));exact BK589.out) hb)
      have n2_:=Aside0.mk (bwT (by repeat(first |(with_reducible first | exact HB.out | apply bwA | apply bwN | apply bw1 | refine bwS ?_ GE589.out) | exact HB.out)) hb)
      clear HO_7
      clear BK589
      clear HB
      have HO_7:=n0_
      have BK589:=n1_
      have HB:=n2_
      clear n0_ n1_ n2_
      (try clear hb)
      (try clear hb2)
      (try clear hk)
      (try clear hi)
      refine hK.out _ _ ⟨(bkC BK589.out 0).trans rfl,(bkC BK589.out 1).trans rfl⟩ (fun hHeld=>?_)
      clear hK K
      refine norm_ (a':=?_) ?_ ?_
      rotate_left
      ·show Act.put _ (some 97) _ = _
       simp only [Act.put,List.setIfInBounds_toArray,List.set_cons_zero,List.set_cons_succ,i64_w,i32_w]
       rfl
      refine pure_ (i:=12) (N:=some 98) (v:=?_) (a':=?_) #[true,true,true,true,true,true,true,true,true,true,true,true,true,false,false,false,false,false,false,false,false,false] rfl rfl (any_of HT_.out (by kernel_rfl)) (fun _ _ _ h=>h) (Or.inl ⟨by rfl,?_⟩) ?_ ?_
      rotate_left
      ·intro w'
       go_simp
       with_reducible rfl
      rotate_left
      ·simp only [Act.put, List.setIfInBounds_toArray, List.set_cons_zero, List.set_cons_succ, i64_w, i32_w]
       rfl
      refine pure_ (i:=13) (N:=some 99) (v:=?_) (a':=?_) #[true,true,true,true,true,true,true,true,true,true,true,true,true,true,false,false,false,false,false,false,false,false] rfl rfl (any_of HT_.out (by kernel_rfl)) (fun _ _ _ h=>h) (Or.inl ⟨by rfl,?_⟩) ?_ ?_
      rotate_left
      ·intro w'
       go_simp
       with_reducible rfl
      rotate_left
      ·simp only [Act.put, List.setIfInBounds_toArray, List.set_cons_zero, List.set_cons_succ, i64_w, i32_w]
       rfl
      refine pure_ (i:=14) (N:=some 100) (v:=?_) (a':=?_) #[true,true,true,true,true,true,true,true,true,true,true,true,true,true,true,false,false,false,false,false,false,false] rfl rfl (any_of HT_.out (by kernel_rfl)) (fun _ _ _ h=>h) (Or.inl ⟨by rfl,?_⟩) ?_ ?_
      rotate_left
      ·intro w'
       go_simp
       with_reducible rfl
      rotate_left
      ·simp only [Act.put, List.setIfInBounds_toArray, List.set_cons_zero, List.set_cons_succ, i64_w, i32_w]
       rfl
      refine pure_ (i:=15) (N:=some 101) (v:=?_) (a':=?_) #[true,true,true,true,true,true,true,true,true,true,true,true,true,true,true,true,false,false,false,false,false,false] rfl rfl (any_of HT_.out (by kernel_rfl)) (fun _ _ _ h=>h) (Or.inl ⟨by rfl,?_⟩) ?_ ?_
      rotate_left
      ·intro w'
       go_simp
       with_reducible rfl
      rotate_left
      ·simp only [Act.put, List.setIfInBounds_toArray, List.set_cons_zero, List.set_cons_succ, i64_w, i32_w]
       rfl
      refine pure_ (i:=16) (N:=some 102) (v:=?_) (a':=?_) #[true,true,true,true,true,true,true,true,true,true,true,true,true,true,true,true,true,false,false,false,false,false] rfl rfl (any_of HT_.out (by kernel_rfl)) (fun _ _ _ h=>h) (Or.inl ⟨by rfl,?_⟩) ?_ ?_
      rotate_left
      ·intro w'
       go_simp
       with_reducible rfl
      rotate_left
      ·simp only [Act.put, List.setIfInBounds_toArray, List.set_cons_zero, List.set_cons_succ, i64_w, i32_w]
       rfl
      refine pure_ (i:=17) (N:=some 103) (v:=?_) (a':=?_) #[true,true,true,true,true,true,true,true,true,true,true,true,true,true,true,true,true,true,false,false,false,false] rfl rfl (any_of HT_.out (by kernel_rfl)) (fun _ _ _ h=>h) (Or.inl ⟨by rfl,?_⟩) ?_ ?_
      rotate_left
      ·intro w'
       go_simp
       with_reducible rfl
      rotate_left
      ·simp only [Act.put, List.setIfInBounds_toArray, List.set_cons_zero, List.set_cons_succ, i64_w, i32_w]
       rfl
      refine pure_ (i:=18) (N:=some 104) (v:=?_) (a':=?_) #[true,true,true,true,true,true,true,true,true,true,true,true,true,true,true,true,true,true,true,false,false,false] rfl rfl (any_of HT_.out (by kernel_rfl)) (fun _ _ _ h=>h) (Or.inl ⟨by rfl,?_⟩) ?_ ?_
      rotate_left
      ·intro w'
       go_simp
       with_reducible rfl
      rotate_left
      ·simp only [Act.put, List.setIfInBounds_toArray, List.set_cons_zero, List.set_cons_succ, i64_w, i32_w]
       rfl
      refine pure_ (i:=19) (N:=some 105) (v:=undef) (a':=?_) #[true,true,true,true,true,true,true,true,true,true,true,true,true,true,true,true,true,true,true,true,false,false] rfl rfl (any_of HT_.out (by kernel_rfl)) (fun _ _ _ h=>h) (Or.inr ⟨by rfl,rfl⟩) ?_ ?_
      rotate_left
      ·simp only [Act.put, List.setIfInBounds_toArray, List.set_cons_zero, List.set_cons_succ, i64_w, i32_w]
       rfl
      refine pure_ (i:=20) (N:=some 106) (v:=?_) (a':=?_) #[true,true,true,true,true,true,true,true,true,true,true,true,true,true,true,true,true,true,true,true,true,false] rfl rfl (any_of HT_.out (by kernel_rfl)) (fun _ _ _ h=>h) (Or.inl ⟨by rfl,?_⟩) ?_ ?_
      rotate_left
      ·intro w'
       go_simp
       with_reducible rfl
      rotate_left
      ·simp only [Act.put, List.setIfInBounds_toArray, List.set_cons_zero, List.set_cons_succ, i64_w, i32_w]
       rfl
      refine pure_ (i:=21) (N:=some 6) (v:=?_) (a':=?_) #[true,true,true,true,true,true,true,true,true,true,true,true,true,true,true,true,true,true,true,true,true,true] rfl rfl (any_of HT_.out (by kernel_rfl)) (fun _ _ _ h=>h) (Or.inl ⟨by rfl,?_⟩) ?_ ?_
      rotate_left
      ·intro w'
       go_simp
       with_reducible rfl
      rotate_left
      ·simp only [Act.put, List.setIfInBounds_toArray, List.set_cons_zero, List.set_cons_succ, i64_w, i32_w]
       rfl
      refine done_ (done_of HT_.out (by kernel_rfl)) ?_
      try go_wp2
      go_ret
      exact⟨by first | rfl |(simp [errW_none,errW_some] <;> rfl) |(simp [*,errW_none,errW_some] <;> rfl),by repeat(first |(with_reducible first | exact HB.out | apply bwA | apply bwN | apply bw1 | refine bwS ?_ GE589.out) | exact HB.out)⟩
     rw [if_pos c46] at H
     have c46b0 :(t588 == 0) = true:=beq_iff_eq.mpr c46
     have c46b1 :(t588 != 0) = false:=bne_eq_false_iff_eq.mpr c46
     clear c46
     replace H:=Option.bind_eq_some_iff.mp H
     obtain ⟨t599,A470,H⟩:=H
     replace H :(some t599) = some r:=H
     have A47:=Aside0.mk A470
     clear A470
     obtain rfl:=Option.some.inj H
     try go_wp2_with (first |((with_reducible refine gate_callee (f:=52) rfl ?_);refine goesL_ (some 66) rfl rfl Try.func52 (by kernel_rfl) rfl #[.slice Ao11 t577.length co11] rfl (by(try simp only [List.map_toArray,List.map_cons,List.map_nil]);first | done | rfl |(simp only [List.length_drop,List.length_take];rfl)) ?_;(with_reducible refine(q10_Orders.calls kj18 _ _ t577 true _ ?side1 ?side2 A39.out).mono ?_);(case side1=>repeat(first | exact(Kd.R_reads' HO_7.out).2.2 |(with_reducible refine Kd.C_alloc ?_ _) |(with_reducible refine Kd.C_drewN ?_ _) |(with_reducible refine Kd.C_drew ?_)));(case side2=>exact(Kd.R_reads' HO_7.out).2.1);rintro e w' ⟨rfl,⟨nd,rfl⟩⟩;refine⟨_,rfl,?_⟩))
     (try(rw [drewN_self wc];generalize hq_ : World.drewN wc _ = wc;have n0_ : Aside0 (Kd.R (Kd.int .i64) 3 wc w.heap.size (fun _=>True) (.slice Ao11 t577.length co11) t577):=⟨by rw [← hq_];exact(by(with_reducible repeat(first | apply Kd.R_alloc | apply Kd.R_drewN | apply Kd.R_drew));exact HO_7.out)⟩;have n1_ : Aside0 (wc.heap[gb589]? = some (.cells #[.int .i64 t586,.int .i64 t587] 45 (0,0))):=⟨by rw [← hq_];exact(by(with_reducible repeat(first | refine bkN ?_ _ | refine bkD ?_ | refine bkA ?_ _));exact BK589.out)⟩;have n2_ : Aside0 (Below w.heap.size w wc):=⟨by rw [← hq_];exact(by repeat(first |(with_reducible first | exact HB.out | apply bwA | apply bwN | apply bw1 | refine bwS ?_ GE589.out) | exact HB.out))⟩;clear HO_7 BK589 HB hq_;have HO_7:=n0_;have BK589:=n1_;have HB:=n2_;clear n0_ n1_ n2_))
     have n0_:=Aside0.mk (Kd.R_drew HO_7.out)
     have n1_:=Aside0.mk (bkD BK589.out)
     have n2_:=Aside0.mk (bw1 HB.out)
     clear HO_7
     clear BK589
     clear HB
     have HO_7:=n0_
     have BK589:=n1_
     have HB:=n2_
     clear n0_ n1_ n2_
     refine start_ (n:=22) (S:=fun w'=>w'.cell? ⟨gb589,0,none⟩ = some (.int .i64 t586)∧w'.cell? ⟨gb589,1,none⟩ = some (.int .i64 t587)) (ds:=[]) #[false,false,false,false,false,false,false,false,false,false,false,false,false,false,false,false,false,false,false,false,false,false] (by kernel_rfl) rfl rfl ⟨(bkC BK589.out 0).trans rfl,(bkC BK589.out 1).trans rfl⟩ (fun hHeld=>?_);refine with_tabW w10_TurnsOrders.tab12 w10_TurnsOrders.bits12 (fun HT_ HW_=>?_)
     generalize wc.drew = w48 at HO_7 BK589 HB hHeld ⊢
     refine pure_ (i:=0) (N:=some 86) (v:=?_) (a':=?_) #[true,false,false,false,false,false,false,false,false,false,false,false,false,false,false,false,false,false,false,false,false,false] rfl rfl (any_of HT_.out (by kernel_rfl)) (fun _ _ _ h=>h) (Or.inl ⟨by rfl,?_⟩) ?_ ?_
     rotate_left
     ·intro w'
      go_simp
      with_reducible rfl
     rotate_left
     ·simp only [Act.put, List.setIfInBounds_toArray, List.set_cons_zero, List.set_cons_succ, i64_w, i32_w]
      rfl
     refine pure_ (i:=1) (N:=some 87) (v:=?_) (a':=?_) #[true,true,false,false,false,false,false,false,false,false,false,false,false,false,false,false,false,false,false,false,false,false] rfl rfl (any_of HT_.out (by kernel_rfl)) (fun _ _ _ h=>h) (Or.inl ⟨by rfl,?_⟩) ?_ ?_
     rotate_left
     ·intro w'
      go_simp
      with_reducible rfl
     rotate_left
     ·simp only [Act.put, List.setIfInBounds_toArray, List.set_cons_zero, List.set_cons_succ, i64_w, i32_w]
      rfl
     refine one_ (i:=2) (N:=some 88) #[true,true,true,false,false,false,false,false,false,false,false,false,false,false,false,false,false,false,false,false,false,false] rfl rfl (one_of HT_.out (by kernel_rfl)) (by decide) (fun K hK=>?_)
     refine goes_ Try.func53 (by kernel_rfl) rfl #[.slice Ao11 t577.length co11] (by rfl) rfl rfl (by(try simp only [List.map_toArray,List.map_cons,List.map_nil]);first | done | rfl |(simp only [List.length_drop,List.length_take];rfl)) ?_
     with_reducible refine(q10_OrderAt.calls kj18 _ _ t577 t596 _ ?side1 ?side2 A41.out).mono ?_
     (case side1=>repeat(first | exact(Kd.R_reads' HO_7.out).2.2 |(with_reducible refine Kd.C_alloc ?_ _) |(with_reducible refine Kd.C_drewN ?_ _) |(with_reducible refine Kd.C_drew ?_)))
     (case side2=>exact(Kd.R_reads' HO_7.out).2.1)
     rintro e w49 ⟨rfl,hb⟩
     refine⟨_,rfl,?_⟩
     have n0_:=Aside0.mk (Kd.R_below (by(with_reducible repeat(first | apply Kd.R_alloc | apply Kd.R_drewN | apply Kd.R_drew));exact HO_7.out) hb)
     have n1_:=Aside0.mk (bkB (g:=gb589) (o:=.cells #[.int .i64 t586,.int .i64 t587] 45 (0,0)) (by(with_reducible repeat(first | refine bkN ?_ _ | refine bkD ?_ | refine bkA ?_ _));exact BK589.out) hb)
     have n2_:=Aside0.mk (bwT (by repeat(first |(with_reducible first | exact HB.out | apply bwA | apply bwN | apply bw1 | refine bwS ?_ GE589.out) | exact HB.out)) hb)
     clear HO_7
     clear BK589
     clear HB
     have HO_7:=n0_
     have BK589:=n1_
     have HB:=n2_
     clear n0_ n1_ n2_
     (try clear hb)
     (try clear hb2)
     (try clear hk)
     (try clear hi)
     refine hK.out _ _ ⟨(bkC BK589.out 0).trans rfl,(bkC BK589.out 1).trans rfl⟩ (fun hHeld=>?_)
     clear hK K
     refine norm_ (a':=?_) ?_ ?_
     rotate_left
     ·show Act.put _ (some 88) _ = _
      simp only [Act.put,List.setIfInBounds_toArray,List.set_cons_zero,List.set_cons_succ,i64_w,i32_w]
      rfl
     refine pure_ (i:=3) (N:=some 89) (v:=?_) (a':=?_) #[true,true,true,true,false,false,false,false,false,false,false,false,false,false,false,false,false,false,false,false,false,false] rfl rfl (any_of HT_.out (by kernel_rfl)) (fun _ _ _ h=>h) (Or.inl ⟨by rfl,?_⟩) ?_ ?_
     rotate_left
     ·intro w'
      go_simp
      with_reducible rfl
     rotate_left
     ·simp only [Act.put, List.setIfInBounds_toArray, List.set_cons_zero, List.set_cons_succ, i64_w, i32_w]
      rfl
     refine pure_ (i:=4) (N:=some 90) (v:=?_) (a':=?_) #[true,true,true,true,true,false,false,false,false,false,false,false,false,false,false,false,false,false,false,false,false,false] rfl rfl (any_of HT_.out (by kernel_rfl)) (fun _ _ _ h=>h) (Or.inl ⟨by rfl,?_⟩) ?_ ?_
     rotate_left
     ·intro w'
      go_simp
      with_reducible rfl
     rotate_left
     ·simp only [Act.put, List.setIfInBounds_toArray, List.set_cons_zero, List.set_cons_succ, i64_w, i32_w]
      rfl
     refine pure_ (i:=5) (N:=some 91) (v:=?_) (a':=?_) #[true,true,true,true,true,true,false,false,false,false,false,false,false,false,false,false,false,false,false,false,false,false] rfl rfl (any_of HT_.out (by kernel_rfl)) (fun _ _ _ h=>h) (Or.inl ⟨by rfl,?_⟩) ?_ ?_
     rotate_left
     ·intro w'
      go_simp
      with_reducible rfl
     rotate_left
     ·simp only [Act.put, List.setIfInBounds_toArray, List.set_cons_zero, List.set_cons_succ, i64_w, i32_w]
      rfl
     refine pure_ (i:=6) (N:=some 92) (v:=?_) (a':=?_) #[true,true,true,true,true,true,true,false,false,false,false,false,false,false,false,false,false,false,false,false,false,false] rfl rfl (any_of HT_.out (by kernel_rfl)) (fun _ _ _ h=>h) (Or.inl ⟨by rfl,?_⟩) ?_ ?_
     rotate_left
     ·intro w'
      go_simp
      with_reducible rfl
     rotate_left
     ·simp only [Act.put, List.setIfInBounds_toArray, List.set_cons_zero, List.set_cons_succ, i64_w, i32_w]
      rfl
     refine pure_ (i:=7) (N:=some 93) (v:=?_) (a':=?_) #[true,true,true,true,true,true,true,true,false,false,false,false,false,false,false,false,false,false,false,false,false,false] rfl rfl (any_of HT_.out (by kernel_rfl)) (fun _ _ _ h=>h) (Or.inl ⟨by rfl,?_⟩) ?_ ?_
     rotate_left
     ·intro w'
      go_simp
      with_reducible rfl
     rotate_left
     ·simp only [Act.put, List.setIfInBounds_toArray, List.set_cons_zero, List.set_cons_succ, i64_w, i32_w]
      rfl
     refine pure_ (i:=8) (N:=some 94) (v:=?_) (a':=?_) #[true,true,true,true,true,true,true,true,true,false,false,false,false,false,false,false,false,false,false,false,false,false] rfl rfl (any_of HT_.out (by kernel_rfl)) (fun _ _ _ h=>h) (Or.inl ⟨by rfl,?_⟩) ?_ ?_
     rotate_left
     ·intro w'
      go_simp
      with_reducible rfl
     rotate_left
     ·simp only [Act.put, List.setIfInBounds_toArray, List.set_cons_zero, List.set_cons_succ, i64_w, i32_w]
      rfl
     refine pure_ (i:=10) (N:=some 96) (v:=?_) (a':=?_) #[true,true,true,true,true,true,true,true,true,false,true,false,false,false,false,false,false,false,false,false,false,false] rfl rfl (any_of HT_.out (by kernel_rfl)) (fun _ _ _ h=>h) (Or.inl ⟨by rfl,?_⟩) ?_ ?_
     rotate_left
     ·intro w'
      go_simp
      with_reducible rfl
     rotate_left
     ·simp only [Act.put, List.setIfInBounds_toArray, List.set_cons_zero, List.set_cons_succ, i64_w, i32_w]
      rfl
     refine take_ (i:=9) (N:=some 95) (v:=?_) (a':=?_) #[true,true,true,true,true,true,true,true,true,true,true,false,false,false,false,false,false,false,false,false,false,false] rfl rfl (take_ofW HT_.out HW_.out (by kernel_rfl)) (fun _ _ _ h=>h) (Or.inl ⟨by rfl,?_⟩) hHeld ?_ ?_
     rotate_left
     ·rintro w' ⟨s0, s1⟩
      go_simp
      with_reducible rfl
     rotate_left
     ·simp only [Act.put, List.setIfInBounds_toArray, List.set_cons_zero, List.set_cons_succ, i64_w, i32_w]
      rfl
     refine one_ (i:=11) (N:=some 97) #[true,true,true,true,true,true,true,true,true,true,true,true,false,false,false,false,false,false,false,false,false,false] rfl rfl (one_of HT_.out (by kernel_rfl)) (by decide) (fun K hK=>?_)
     refine goes_ Try.func54 (by kernel_rfl) rfl #[.slice Ao11 t577.length co11] (by rfl) rfl rfl (by(try simp only [List.map_toArray,List.map_cons,List.map_nil]);first | done | rfl |(simp only [List.length_drop,List.length_take];rfl)) ?_
     with_reducible refine(q10_Turn.calls kj18 _ _ t577 t597 t598 _ ?side1 ?side2 A44.out).mono ?_
     (case side1=>repeat(first | exact(Kd.R_reads' HO_7.out).2.2 |(with_reducible refine Kd.C_alloc ?_ _) |(with_reducible refine Kd.C_drewN ?_ _) |(with_reducible refine Kd.C_drew ?_)))
     (case side2=>exact(Kd.R_reads' HO_7.out).2.1)
     rintro e w50 ⟨rfl,hb⟩
     refine⟨_,rfl,?_⟩
     have n0_:=Aside0.mk (Kd.R_below (by(with_reducible repeat(first | apply Kd.R_alloc | apply Kd.R_drewN | apply Kd.R_drew));exact HO_7.out) hb)
     have n1_:=Aside0.mk (bkB (g:=gb589) (o:=.cells #[.int .i64 t586,.int .i64 t587] 45 (0,0)) (by(with_reducible repeat(first | refine bkN ?_ _ | refine bkD ?_ | refine bkA ?_ _));exact BK589.out) hb)
     have n2_:=Aside0.mk (bwT (by repeat(first |(with_reducible first | exact HB.out | apply bwA | apply bwN | apply bw1 | refine bwS ?_ GE589.out) | exact HB.out)) hb)
     clear HO_7
     clear BK589
     clear HB
     have HO_7:=n0_
     have BK589:=n1_
     have HB:=n2_
     clear n0_ n1_ n2_
     (try clear hb)
     (try clear hb2)
     (try clear hk)
     (try clear hi)
     refine hK.out _ _ ⟨(bkC BK589.out 0).trans rfl,(bkC BK589.out 1).trans rfl⟩ (fun hHeld=>?_)
     clear hK K
     refine norm_ (a':=?_) ?_ ?_
     rotate_left
     ·show Act.put _ (some 97) _ = _
      simp only [Act.put,List.setIfInBounds_toArray,List.set_cons_zero,List.set_cons_succ,i64_w,i32_w]
      rfl
     refine pure_ (i:=12) (N:=some 98) (v:=?_) (a':=?_) #[true,true,true,true,true,true,true,true,true,true,true,true,true,false,false,false,false,false,false,false,false,false] rfl rfl (any_of HT_.out (by kernel_rfl)) (fun _ _ _ h=>h) (Or.inl ⟨by rfl,?_⟩) ?_ ?_
     rotate_left
     ·intro w'
      go_simp
      with_reducible rfl
     rotate_left
     ·simp only [Act.put, List.setIfInBounds_toArray, List.set_cons_zero, List.set_cons_succ, i64_w, i32_w]
      rfl
     refine pure_ (i:=13) (N:=some 99) (v:=?_) (a':=?_) #[true,true,true,true,true,true,true,true,true,true,true,true,true,true,false,false,false,false,false,false,false,false] rfl rfl (any_of HT_.out (by kernel_rfl)) (fun _ _ _ h=>h) (Or.inl ⟨by rfl,?_⟩) ?_ ?_
     rotate_left
     ·intro w'
      go_simp
      with_reducible rfl
     rotate_left
     ·simp only [Act.put, List.setIfInBounds_toArray, List.set_cons_zero, List.set_cons_succ, i64_w, i32_w]
      rfl
     refine pure_ (i:=14) (N:=some 100) (v:=?_) (a':=?_) #[true,true,true,true,true,true,true,true,true,true,true,true,true,true,true,false,false,false,false,false,false,false] rfl rfl (any_of HT_.out (by kernel_rfl)) (fun _ _ _ h=>h) (Or.inl ⟨by rfl,?_⟩) ?_ ?_
     rotate_left
     ·intro w'
      go_simp
      with_reducible rfl
     rotate_left
     ·simp only [Act.put, List.setIfInBounds_toArray, List.set_cons_zero, List.set_cons_succ, i64_w, i32_w]
      rfl
     refine pure_ (i:=15) (N:=some 101) (v:=?_) (a':=?_) #[true,true,true,true,true,true,true,true,true,true,true,true,true,true,true,true,false,false,false,false,false,false] rfl rfl (any_of HT_.out (by kernel_rfl)) (fun _ _ _ h=>h) (Or.inl ⟨by rfl,?_⟩) ?_ ?_
     rotate_left
     ·intro w'
      go_simp
      with_reducible rfl
     rotate_left
     ·simp only [Act.put, List.setIfInBounds_toArray, List.set_cons_zero, List.set_cons_succ, i64_w, i32_w]
      rfl
     refine pure_ (i:=16) (N:=some 102) (v:=?_) (a':=?_) #[true,true,true,true,true,true,true,true,true,true,true,true,true,true,true,true,true,false,false,false,false,false] rfl rfl (any_of HT_.out (by kernel_rfl)) (fun _ _ _ h=>h) (Or.inl ⟨by rfl,?_⟩) ?_ ?_
     rotate_left
     ·intro w'
      go_simp
      with_reducible rfl
     rotate_left
     ·simp only [Act.put, List.setIfInBounds_toArray, List.set_cons_zero, List.set_cons_succ, i64_w, i32_w]
      rfl
     refine pure_ (i:=17) (N:=some 103) (v:=?_) (a':=?_) #[true,true,true,true,true,true,true,true,true,true,true,true,true,true,true,true,true,true,false,false,false,false] rfl rfl (any_of HT_.out (by kernel_rfl)) (fun _ _ _ h=>h) (Or.inl ⟨by rfl,?_⟩) ?_ ?_
     rotate_left
     ·intro w'
      go_simp
      with_reducible rfl
     rotate_left
     ·simp only [Act.put, List.setIfInBounds_toArray, List.set_cons_zero, List.set_cons_succ, i64_w, i32_w]
      rfl
     refine pure_ (i:=18) (N:=some 104) (v:=?_) (a':=?_) #[true,true,true,true,true,true,true,true,true,true,true,true,true,true,true,true,true,true,true,false,false,false] rfl rfl (any_of HT_.out (by kernel_rfl)) (fun _ _ _ h=>h) (Or.inl ⟨by rfl,?_⟩) ?_ ?_
     rotate_left
     ·intro w'
      go_simp
      with_reducible rfl
     rotate_left
     ·simp only [Act.put, List.setIfInBounds_toArray, List.set_cons_zero, List.set_cons_succ, i64_w, i32_w]
      rfl
     refine one_ (i:=19) (N:=some 105) #[true,true,true,true,true,true,true,true,true,true,true,true,true,true,true,true,true,true,true,true,false,false] rfl rfl (one_of HT_.out (by kernel_rfl)) (by decide) (fun K hK=>?_)
     refine goes_ Try.func20 (by kernel_rfl) rfl #[] (by rfl) rfl rfl (by(try simp only [List.map_toArray,List.map_cons,List.map_nil]);first | done | rfl |(simp only [List.length_drop,List.length_take];rfl)) ?_
     with_reducible refine(w10_awake.calls kj18  t599 _ A47.out).mono ?_
     rintro e w51 ⟨rfl,hb⟩
     refine⟨_,rfl,?_⟩
     have n0_:=Aside0.mk (Kd.R_below (by(with_reducible repeat(first | apply Kd.R_alloc | apply Kd.R_drewN | apply Kd.R_drew));exact HO_7.out) hb)
     have n1_:=Aside0.mk (bkB (g:=gb589) (o:=.cells #[.int .i64 t586,.int .i64 t587] 45 (0,0)) (by(with_reducible repeat(first | refine bkN ?_ _ | refine bkD ?_ | refine bkA ?_ _));exact BK589.out) hb)
     have n2_:=Aside0.mk (bwT (by repeat(first |(with_reducible first | exact HB.out | apply bwA | apply bwN | apply bw1 | refine bwS ?_ GE589.out) | exact HB.out)) hb)
     clear HO_7
     clear BK589
     clear HB
     have HO_7:=n0_
     have BK589:=n1_
     have HB:=n2_
     clear n0_ n1_ n2_
     (try clear hb)
     (try clear hb2)
     (try clear hk)
     (try clear hi)
     refine hK.out _ _ ⟨(bkC BK589.out 0).trans rfl,(bkC BK589.out 1).trans rfl⟩ (fun hHeld=>?_)
     clear hK K
     refine norm_ (a':=?_) ?_ ?_
     rotate_left
     ·show Act.put _ (some 105) _ = _
      simp only [Act.put,List.setIfInBounds_toArray,List.set_cons_zero,List.set_cons_succ,i64_w,i32_w]
      rfl
     refine pure_ (i:=20) (N:=some 106) (v:=?_) (a':=?_) #[true,true,true,true,true,true,true,true,true,true,true,true,true,true,true,true,true,true,true,true,true,false] rfl rfl (any_of HT_.out (by kernel_rfl)) (fun _ _ _ h=>h) (Or.inl ⟨by rfl,?_⟩) ?_ ?_
     rotate_left
     ·intro w'
      go_simp
      with_reducible rfl
     rotate_left
     ·simp only [Act.put, List.setIfInBounds_toArray, List.set_cons_zero, List.set_cons_succ, i64_w, i32_w]
      rfl
     refine pure_ (i:=21) (N:=some 6) (v:=?_) (a':=?_) #[true,true,true,true,true,true,true,true,true,true,true,true,true,true,true,true,true,true,true,true,true,true] rfl rfl (any_of HT_.out (by kernel_rfl)) (fun _ _ _ h=>h) (Or.inl ⟨by rfl,?_⟩) ?_ ?_
     rotate_left
     ·intro w'
      go_simp
      with_reducible rfl
     rotate_left
     ·simp only [Act.put, List.setIfInBounds_toArray, List.set_cons_zero, List.set_cons_succ, i64_w, i32_w]
      rfl
     refine done_ (done_of HT_.out (by kernel_rfl)) ?_
     try go_wp2
     go_ret
     exact⟨by first | rfl |(simp [errW_none,errW_some] <;> rfl) |(simp [*,errW_none,errW_some] <;> rfl),by repeat(first |(with_reducible first | exact HB.out | apply bwA | apply bwN | apply bw1 | refine bwS ?_ GE589.out) | exact HB.out)⟩
/-- THE ONE PURE STATEMENT of w10_TurnsOrders: yours. -/
def w10_TurnsOrders.Pure : Prop:=∀ (a0 : Int) (a1 : Int) (l2 : List Int),(Lit.int .i64 a0).wf = true →(Lit.int .i64 a1).wf = true→l2.length≤maxLen→l2.length * 8≤140737488351232 →(∀ x ∈ l2,(Lit.int .i64 x).wf = true)→∃ k,w10_TurnsOrders.f k a0 a1 l2 = some true
theorem w10_TurnsOrders.walk (P : w10_TurnsOrders.Pure) (a0 : Int) (a1 : Int) (a2 : Option Addr) (len2 cap2 : Nat) (z2 : List Int) (w : World) (w0 : (Lit.int .i64 a0).wf = true) (w1 : (Lit.int .i64 a1).wf = true) (w2 : (a2 = none ∧ len2 = 0 ∧ cap2 = 0 ∧ z2 = []) ∨ ∃ x, a2 = some x ∧ len2 ≤ cap2 ∧ cap2 ≤ maxLen ∧ z2.length = cap2 ∧ (∀ i, i < z2.length → w.cell? (x.add i) = some (.int .i64 (z2.getD i 0))) ∧ ∀ n ∈ z2, (Lit.int .i64 n).wf = true) (y2 : len2 * 8 ≤ 140737488351232) :
  Calls Try.prog 13 #[.int .i64 a0,.int .i64 a1,.slice a2 len2 cap2] w fun e w'=>e = .returned (.bool true)∧Below w.heap.size w w':=by
 obtain ⟨l2,rfl,hr2,hm2,hw2,hc2⟩:=ReadsInt.ofRowC w2
 obtain ⟨k,h⟩:=P a0 a1 l2 w0 w1 hm2 y2 hw2
 refine(w10_TurnsOrders.calls k a0 a1 _ _ l2 true w (Kd.C_of_reads (d:=(0 : Int)) (h1:=fun _=>rfl) hr2) hc2 h).mono ?_
 rintro e w' ⟨rfl,hd⟩
 exact⟨rfl,hd⟩
end Go.Proofs.Ytbfhlaggllofdaa.S

namespace Go.Proofs.Ytbfhlaggllofdaa.P
open Go.RowKit Go.Proofs.Ytbfhlaggllofdaa.S Go.Proofs.YtbfhlaggllofdaaW.PrintWords Go.Proofs.YtbfhlaggllofdaaW.PrintLast Go.Proofs.YtbfhlaggllofdaaW.PrintMore
set_option linter.unusedVariables false
theorem ints_loop (a b : List Int) (he : a.length = b.length) (hl : a.length≤1000) : ∀ d i : Nat,i + d = a.length→Ev (fun k=>w10_ints.l0 k a b (i : Int)) (decide (a.drop i = b.drop i)):=by
 intro d
 induction d with
 | zero =>
  intro i h
  rw [List.drop_eq_nil_of_le (by omega),List.drop_eq_nil_of_le (by omega),decide_eq_true rfl]
  refine Ev.step (f:=fun _=>some true) (fun k=>?_) (Ev.now _)
  simp only [w10_ints.l0]
  rw [if_neg (by omega)]
 | succ d ih =>
  intro i h
  have w : wrap64 ((i : Int) + 1) =((i + 1 : Nat) : Int):=by rw [w64 (by omega) (by omega)];rfl
  have ea:=drop_cons a i (by omega)
  have eb:=drop_cons b i (by omega)
  by_cases c : rd a (i : Int) = rd b (i : Int)
  rotate_left
  ·have e : decide (a.drop i = b.drop i) = false := decide_eq_false (by rw [ea, eb]; simp [c])
   rw [e]
   refine Ev.step (f:=fun _=>some false) (fun k=>?_) (Ev.now _)
   simp only [w10_ints.l0]
   rw [if_pos (by omega),if_pos (by omega),if_pos (by omega),if_neg c]
  have e : decide (a.drop i = b.drop i) = decide (a.drop (i + 1) = b.drop (i + 1)):=by rw [ea,eb,c];simp
  rw [e]
  refine Ev.step (fun k=>?_) (ih (i + 1) (by omega))
  simp only [w10_ints.l0]
  rw [if_pos (by omega),if_pos (by omega),if_pos (by omega),if_pos c,w]
theorem ints_ev (a b : List Int) (hl : a.length≤1000) : Ev (fun k=>w10_ints.f k a b) (decide (a = b)):=by
 by_cases c : a.length = b.length
 ·refine Ev.congr (fun k => ?_) (ints_loop a b c hl a.length 0 (by omega))
  unfold w10_ints.f
  rw [if_pos (by omega)]
  rfl
 rw [decide_eq_false (fun h=>c (by rw [h]))]
 refine Ev.congr (fun k=>?_) (Ev.now _)
 unfold w10_ints.f
 rw [if_neg (by omega)]
end Go.Proofs.Ytbfhlaggllofdaa.P

namespace Go.Proofs.Ytbfhlaggllofdaa.P
open Go.RowKit Go.Proofs.Ytbfhlaggllofdaa.S Go.Proofs.Ytbfhlaggllofdaa.G Go.Proofs.Ytbfhlaggllofdaa.T Go.Proofs.YtbfhlaggllofdaaW.PrintWords Go.Proofs.YtbfhlaggllofdaaW.PrintLast Go.Proofs.YtbfhlaggllofdaaW.PrintMore
set_option linter.unusedVariables false
theorem awake_ev : Ev (fun k=>w10_awake.f k) true:=by
 have e1 : turns_Set.f 2 2 = some ([1,2],0):=by kernel_rfl
 have e2 : turns_Choice.f 3 2 1 = some ([2,3],0):=by kernel_rfl
 have e3 : turns_Order.f 3 3 = some ([3,2,1],0):=by kernel_rfl
 have e4 : turns_Groupings.f 5 = some (52,0):=by kernel_rfl
 have e5 : turns_Setting.f [2,3] 3 = some ([1,2],0):=by kernel_rfl
 have i1:=ints_ev [1,2] [1,2] (by decide)
 have i2:=ints_ev [2,3] [2,3] (by decide)
 have i3:=ints_ev [3,2,1] [3,2,1] (by decide)
 rw [decide_eq_true rfl] at i1 i2 i3
 have hj : Ev (fun k=>w10_awake.j0 k false) true:=by
  refine Ev.step (f:=fun _=>some true) (fun k=>?_) (Ev.now _)
  simp only [w10_awake.j0]
  rw [if_neg (by decide)]
 refine Ev.congr (f:=fun k=>(w10_ints.f k [1,2] [1,2]).bind fun t=>(if t = true then((w10_ints.f k [2,3] [2,3]).bind fun t=>(if t = true then((w10_ints.f k [3,2,1] [3,2,1]).bind fun t=>(if t = true then((w10_ints.f k [1,2] [1,2]).bind fun t=>w10_awake.j0 k (!t)) else w10_awake.j0 k true)) else w10_awake.j0 k true)) else w10_awake.j0 k true)) (fun k=>?_) ?_
 ·unfold w10_awake.f
  rw [e1,e2,e3,e4,e5]
  rfl
 refine Ev.bind (f:=fun k (t : Bool)=>_) i1 ?_
 refine Ev.congr (fun k=>if_pos rfl) ?_
 refine Ev.bind (f:=fun k (t : Bool)=>_) i2 ?_
 refine Ev.congr (fun k=>if_pos rfl) ?_
 refine Ev.bind (f:=fun k (t : Bool)=>_) i3 ?_
 refine Ev.congr (fun k=>if_pos rfl) ?_
 exact Ev.bind (f:=fun k (t : Bool)=>_) i1 hj
theorem awake_some : Ev (fun k=>(w10_awake.f k).bind fun z=>some z) true:=Ev.congr (fun k=>by cases w10_awake.f k <;> rfl) awake_ev
end Go.Proofs.Ytbfhlaggllofdaa.P
