-- Written by wip/bundle2.py: texts of this claim, one behind the other.
import Derived.Test.YtbfhlaggllofdaaBTurnsOwn1
set_option linter.unusedVariables false
set_option linter.unusedSimpArgs false

namespace Go.Proofs.Ytbfhlaggllofdaa.S
open Go.Proofs.Ytbfhlaggllofdaa.Lib
open Go.Maps (Keyed)
open Go.RowKit Go.Proofs.YtbfhlaggllofdaaW.PrintWords Go.Proofs.YtbfhlaggllofdaaW.PrintLast Go.Proofs.YtbfhlaggllofdaaW.PrintMore
attribute [local go_sem] max2_int min2_int max_two min_two max_three min_three max_four min_four
set_option linter.unusedVariables false
set_option linter.unusedSimpArgs false

def q10_Order.f : Nat → Int → Int → Option (List Int)
 | 0,_,_=>none
 | k + 1,a0,a1=>if a0 = 0 then(some ([] : List Int)) else((q10_Order.f k (wrap64 (a0 - 1)) (wrap64 (Int.tdiv a1 a0))).bind fun t518=>(if(Int.tmod (wrap64 (Int.tdiv a1 a0)) 2) = 0 then(if 0 ≤(wrap64 ((wrap64 (a0 - 1)) - (Int.tmod a1 a0))) then(if(wrap64 ((wrap64 (a0 - 1)) - (Int.tmod a1 a0))) ≤(t518.length : Int) then((some (t518.take ((wrap64 ((wrap64 (a0 - 1)) - (Int.tmod a1 a0))) : Int).toNat : List Int)).bind fun y521=>(if([] : List Int).length + y521.length < 17592186044416 then((some (([] : List Int) ++ y521 : List Int)).bind fun y525=>(if y525.length < 17592186044416 then((some (y525 ++ [a0] : List Int)).bind fun y528=>((some (t518.drop ((wrap64 ((wrap64 (a0 - 1)) - (Int.tmod a1 a0))) : Int).toNat : List Int)).bind fun y531=>(if y528.length + y531.length < 17592186044416 then(some (y528 ++ y531)) else(none)))) else(none))) else(none))) else(none)) else(none)) else(if 0 ≤(Int.tmod a1 a0) then(if(Int.tmod a1 a0) ≤(t518.length : Int) then((some (t518.take ((Int.tmod a1 a0) : Int).toNat : List Int)).bind fun y538=>(if([] : List Int).length + y538.length < 17592186044416 then((some (([] : List Int) ++ y538 : List Int)).bind fun y542=>(if y542.length < 17592186044416 then((some (y542 ++ [a0] : List Int)).bind fun y545=>((some (t518.drop ((Int.tmod a1 a0) : Int).toNat : List Int)).bind fun y548=>(if y545.length + y548.length < 17592186044416 then(some (y545 ++ y548)) else(none)))) else(none))) else(none))) else(none)) else(none))))
set_option maxHeartbeats 8000000 in
set_option maxRecDepth 100000 in
theorem q10_Order.calls (k : Nat) : ∀ (a0 : Int) (a1 : Int) (r : List Int) (w : World) (h : q10_Order.f k a0 a1 = some r),
  Calls Try.prog 51 #[.int .i64 a0,.int .i64 a1] w fun e w'=>∃ v0_ : Value,e = .returned (v0_)∧Kd.R (Kd.int .i64) 3 w' w.heap.size (fun _=>True) v0_ r∧Below w.heap.size w w':=by
 induction k using Nat.strongRecOn with
 | _ k ih =>
 intro a0 a1 r w h
 cases k with
 | zero=>exact absurd h (by simp [q10_Order.f])
 | succ k =>
 simp only [q10_Order.f] at h
 have HB:=Aside0.mk (Below.refl w.heap.size w)
 have H :(if a0 = 0 then(some ([] : List Int)) else((q10_Order.f k (wrap64 (a0 - 1)) (wrap64 (Int.tdiv a1 a0))).bind fun t518=>(if(Int.tmod (wrap64 (Int.tdiv a1 a0)) 2) = 0 then(if 0 ≤(wrap64 ((wrap64 (a0 - 1)) - (Int.tmod a1 a0))) then(if(wrap64 ((wrap64 (a0 - 1)) - (Int.tmod a1 a0))) ≤(t518.length : Int) then((some (t518.take ((wrap64 ((wrap64 (a0 - 1)) - (Int.tmod a1 a0))) : Int).toNat : List Int)).bind fun y521=>(if([] : List Int).length + y521.length < 17592186044416 then((some (([] : List Int) ++ y521 : List Int)).bind fun y525=>(if y525.length < 17592186044416 then((some (y525 ++ [a0] : List Int)).bind fun y528=>((some (t518.drop ((wrap64 ((wrap64 (a0 - 1)) - (Int.tmod a1 a0))) : Int).toNat : List Int)).bind fun y531=>(if y528.length + y531.length < 17592186044416 then(some (y528 ++ y531)) else(none)))) else(none))) else(none))) else(none)) else(none)) else(if 0 ≤(Int.tmod a1 a0) then(if(Int.tmod a1 a0) ≤(t518.length : Int) then((some (t518.take ((Int.tmod a1 a0) : Int).toNat : List Int)).bind fun y538=>(if([] : List Int).length + y538.length < 17592186044416 then((some (([] : List Int) ++ y538 : List Int)).bind fun y542=>(if y542.length < 17592186044416 then((some (y542 ++ [a0] : List Int)).bind fun y545=>((some (t518.drop ((Int.tmod a1 a0) : Int).toNat : List Int)).bind fun y548=>(if y545.length + y548.length < 17592186044416 then(some (y545 ++ y548)) else(none)))) else(none))) else(none))) else(none)) else(none))))) = some r:=h
 clear h
 by_cases c3 : a0 = 0
 ·rw [if_pos c3] at H
  have c3b0 :(a0 == 0) = true:=beq_iff_eq.mpr c3
  have c3b1 :(a0 != 0) = false:=bne_eq_false_iff_eq.mpr c3
  clear c3
  obtain rfl:=Option.some.inj H
  go_enter Try.func51,Try.ntmps51
  go_wp2
  repeat(go_quiet (fail);try go_wp2)
  go_ret
  exact⟨_,by first | rfl |(simp [errW_none,errW_some] <;> rfl) |(simp [*,errW_none,errW_some] <;> rfl),by first | exact Kd.R_nil _ _ _ _ _ | exact Kd.N_nil _ _ _ _ _ | exact Kd.V_nil _ _ _ _ _ | exact Kd.Q_nil _ _ _ _ _ | exact Kd.S_nil _ _ _ _ _,by repeat(first |(with_reducible first | exact HB.out | apply bwA | apply bwN | apply bw1) | exact HB.out)⟩
 rw [if_neg c3] at H
 have c3b0 :(a0 == 0) = false:=beq_eq_false_iff_ne.mpr c3
 have c3b1 :(a0 != 0) = true:=bne_iff_ne.mpr c3
 replace H:=Option.bind_eq_some_iff.mp H
 obtain ⟨t518,A40,H⟩:=H
 replace H :(if(Int.tmod (wrap64 (Int.tdiv a1 a0)) 2) = 0 then(if 0 ≤(wrap64 ((wrap64 (a0 - 1)) - (Int.tmod a1 a0))) then(if(wrap64 ((wrap64 (a0 - 1)) - (Int.tmod a1 a0))) ≤(t518.length : Int) then((some (t518.take ((wrap64 ((wrap64 (a0 - 1)) - (Int.tmod a1 a0))) : Int).toNat : List Int)).bind fun y521=>(if([] : List Int).length + y521.length < 17592186044416 then((some (([] : List Int) ++ y521 : List Int)).bind fun y525=>(if y525.length < 17592186044416 then((some (y525 ++ [a0] : List Int)).bind fun y528=>((some (t518.drop ((wrap64 ((wrap64 (a0 - 1)) - (Int.tmod a1 a0))) : Int).toNat : List Int)).bind fun y531=>(if y528.length + y531.length < 17592186044416 then(some (y528 ++ y531)) else(none)))) else(none))) else(none))) else(none)) else(none)) else(if 0 ≤(Int.tmod a1 a0) then(if(Int.tmod a1 a0) ≤(t518.length : Int) then((some (t518.take ((Int.tmod a1 a0) : Int).toNat : List Int)).bind fun y538=>(if([] : List Int).length + y538.length < 17592186044416 then((some (([] : List Int) ++ y538 : List Int)).bind fun y542=>(if y542.length < 17592186044416 then((some (y542 ++ [a0] : List Int)).bind fun y545=>((some (t518.drop ((Int.tmod a1 a0) : Int).toNat : List Int)).bind fun y548=>(if y545.length + y548.length < 17592186044416 then(some (y545 ++ y548)) else(none)))) else(none))) else(none))) else(none)) else(none))) = some r:=H
 have A4:=Aside0.mk A40
 clear A40
 by_cases c5 :(Int.tmod (wrap64 (Int.tdiv a1 a0)) 2) = 0
 rotate_left
 ·rw [if_neg c5] at H
  have c5b0 :((Int.tmod (wrap64 (Int.tdiv a1 a0)) 2) == 0) = false:=beq_eq_false_iff_ne.mpr c5
  have c5b1 :((Int.tmod (wrap64 (Int.tdiv a1 a0)) 2) != 0) = true:=bne_iff_ne.mpr c5
  obtain ⟨ji21,hji21⟩ : ∃ j_ : Int,(Int.tmod a1 a0) = j_:=⟨_,rfl⟩
  replace H :(if 0 ≤(ji21) then(if(ji21) ≤(t518.length : Int) then((some (t518.take ((ji21) : Int).toNat : List Int)).bind fun y538=>(if([] : List Int).length + y538.length < 17592186044416 then((some (([] : List Int) ++ y538 : List Int)).bind fun y542=>(if y542.length < 17592186044416 then((some (y542 ++ [a0] : List Int)).bind fun y545=>((some (t518.drop ((ji21) : Int).toNat : List Int)).bind fun y548=>(if y545.length + y548.length < 17592186044416 then(some (y545 ++ y548)) else(none)))) else(none))) else(none))) else(none)) else(none)) = some r:=by first |(rw [hji21] at H;exact H) |(simp only [hji21] at H ⊢;exact H)
  (try rw [hji21] at A4)
  by_cases c22 : 0 ≤(ji21)
  rotate_left
  ·rw [if_neg c22] at H
   exact absurd H (by simp)
  rw [if_pos c22] at H
  have c22b0:=eq_true c22
  have c22b1 : decide (0 ≤(ji21)) = true:=decide_eq_true c22
  clear c22
  by_cases c23 :(ji21) ≤(t518.length : Int)
  rotate_left
  ·rw [if_neg c23] at H
   exact absurd H (by simp)
  rw [if_pos c23] at H
  have c23b0:=eq_true c23
  have c23b1 : decide ((ji21) ≤(t518.length : Int)) = true:=decide_eq_true c23
  clear c23
  obtain ⟨y538,hy538⟩ : ∃ y_ : List Int,y_ =(t518.take ((ji21) : Int).toNat):=⟨_,rfl⟩
  replace H :(if([] : List Int).length + y538.length < 17592186044416 then((some (([] : List Int) ++ y538 : List Int)).bind fun y542=>(if y542.length < 17592186044416 then((some (y542 ++ [a0] : List Int)).bind fun y545=>((some (t518.drop ((ji21) : Int).toNat : List Int)).bind fun y548=>(if y545.length + y548.length < 17592186044416 then(some (y545 ++ y548)) else(none)))) else(none))) else(none)) = some r:=by first |(rw [hy538];with_reducible exact H) |(have H2_:=(Option.bind_some _ _).symm.trans H;rw [hy538];with_reducible exact H2_) |(have H2_:=(Option.bind_some _ _).symm.trans H;with_reducible exact H2_) | with_reducible exact H |(rw [hy538];exact H) | exact H
  have Ny538:=Aside0.mk hy538
  clear hy538
  by_cases c24 :([] : List Int).length + y538.length < 17592186044416
  rotate_left
  ·rw [if_neg c24] at H
   exact absurd H (by simp)
  rw [if_pos c24] at H
  have LMc24:=Aside0.mk c24
  clear c24
  obtain ⟨y542,hy542⟩ : ∃ y_ : List Int,y_ =(([] : List Int) ++ y538):=⟨_,rfl⟩
  replace H :(if y542.length < 17592186044416 then((some (y542 ++ [a0] : List Int)).bind fun y545=>((some (t518.drop ((ji21) : Int).toNat : List Int)).bind fun y548=>(if y545.length + y548.length < 17592186044416 then(some (y545 ++ y548)) else(none)))) else(none)) = some r:=by first |(rw [hy542];with_reducible exact H) |(have H2_:=(Option.bind_some _ _).symm.trans H;rw [hy542];with_reducible exact H2_) |(have H2_:=(Option.bind_some _ _).symm.trans H;with_reducible exact H2_) | with_reducible exact H |(rw [hy542];exact H) | exact H
  have Ny542:=Aside0.mk hy542
  clear hy542
  by_cases c25 : y542.length < 17592186044416
  rotate_left
  ·rw [if_neg c25] at H
   exact absurd H (by simp)
  rw [if_pos c25] at H
  have LMc25:=Aside0.mk c25
  clear c25
  obtain ⟨y545,hy545⟩ : ∃ y_ : List Int,y_ =(y542 ++ [a0]):=⟨_,rfl⟩
  replace H :((some (t518.drop ((ji21) : Int).toNat : List Int)).bind fun y548=>(if y545.length + y548.length < 17592186044416 then(some (y545 ++ y548)) else(none))) = some r:=by first |(rw [hy545];with_reducible exact H) |(have H2_:=(Option.bind_some _ _).symm.trans H;rw [hy545];with_reducible exact H2_) |(have H2_:=(Option.bind_some _ _).symm.trans H;with_reducible exact H2_) | with_reducible exact H |(rw [hy545];exact H) | exact H
  have Ny545:=Aside0.mk hy545
  clear hy545
  have c26b0:=eq_true (of_decide_eq_true (by first |(with_reducible assumption) | assumption) : 0 ≤(ji21))
  have c27b0:=eq_true (of_decide_eq_true (by first |(with_reducible assumption) | assumption) :(ji21) ≤(t518.length : Int))
  obtain ⟨y548,hy548⟩ : ∃ y_ : List Int,y_ =(t518.drop ((ji21) : Int).toNat):=⟨_,rfl⟩
  replace H :(if y545.length + y548.length < 17592186044416 then(some (y545 ++ y548)) else(none)) = some r:=by first |(rw [hy548];with_reducible exact H) |(have H2_:=(Option.bind_some _ _).symm.trans H;rw [hy548];with_reducible exact H2_) |(have H2_:=(Option.bind_some _ _).symm.trans H;with_reducible exact H2_) | with_reducible exact H |(rw [hy548];exact H) | exact H
  have Ny548:=Aside0.mk hy548
  clear hy548
  by_cases c28 : y545.length + y548.length < 17592186044416
  rotate_left
  ·rw [if_neg c28] at H
   exact absurd H (by simp)
  rw [if_pos c28] at H
  have LMc28:=Aside0.mk c28
  clear c28
  obtain ⟨y552,hy552⟩ : ∃ y_ : List Int,y_ =(y545 ++ y548):=⟨_,rfl⟩
  replace H :(some y552) = some r:=by first |(rw [hy552];with_reducible exact H) |(have H2_:=(Option.bind_some _ _).symm.trans H;rw [hy552];with_reducible exact H2_) |(have H2_:=(Option.bind_some _ _).symm.trans H;with_reducible exact H2_) | with_reducible exact H |(rw [hy552];exact H) | exact H
  have Ny552:=Aside0.mk hy552
  clear hy552
  obtain rfl:=Option.some.inj H
  go_enter Try.func51,Try.ntmps51
  go_wp2_with (first |(go_at_call 51;(with_reducible refine(ih k (by omega) (wrap64 (a0 - 1)) (wrap64 (Int.tdiv a1 a0)) t518 _ A4.out).mono ?_);rintro e w29 ⟨v519,rfl,ho0,hb⟩;have n0_:=Aside0.mk (Kd.R_lower ho0 (bwZ (by repeat(first |(with_reducible first | exact HB.out | apply bwA | apply bwN | apply bw1) | exact HB.out))));have n1_:=Aside0.mk (bwT (by repeat(first |(with_reducible first | exact HB.out | apply bwA | apply bwN | apply bw1) | exact HB.out)) hb);clear HB;have HO520:=n0_;have HB:=n1_;clear n0_ n1_;(try clear hb);(try clear hb2);(try clear hk);(try clear hi);(try clear ho0);obtain ⟨Ao31,co31,eo31⟩:=Kd.R_slice HO520.out;subst eo31;have q30 :((ji21) : Int) ≤((t518.length : Int) : Int):=of_decide_eq_true (by first |(with_reducible assumption) | assumption);obtain ⟨i030,hi030,_,hsz30,_⟩:=info_parts info3;have hroom30 : t518.length≤co31:=(Kd.R_reads' HO520.out).2.1;have hC30 : Kd.C (Kd.int .i64) _ Ao31 t518.length t518:=(Kd.R_reads' HO520.out).2.2;have hcut30:=cut_to (P:=Try.prog) 22 3 .i64 Try.underlying22 hi030 Ao31 t518.length co31 (ji21) (of_decide_eq_true (by first |(with_reducible assumption) | assumption)) q30 hroom30;have hr30:=Kd.C_take (m:=((ji21) : Int).toNat) hC30 (by omega);have hy30 : y538.length =((ji21) : Int).toNat:=(by rw [Ny538.out,List.length_take];omega);rw [← Ny538.out] at hr30;rw [← hy30] at hcut30;have HR541:=Aside0.mk hr30;have HC541:=Aside0.mk (show y538.length≤co31 from by omega);clear hr30 hC30 hroom30 hi030 hsz30;have KY30:=Aside0.mk hy30;clear hy30;have KL30:=Aside0.mk (show((ji21) : Int).toNat≤t518.length from by omega);replace q30:=eq_true q30) |((with_reducible refine gate_builtin (b:=.append) (xs:=#[.tmp 28,.tmp 31]) rfl ?_);at_builtin;refine Kd.R_append_rows (Kd.int .i64) (w0:=w) w.heap.size rfl (.tmp 28) (.tmp 31) 22 3 (.int .i64 0) 8 rfl Try.underlying22 info3 rfl (by decide) (by omega) (.slice none 0 0) ([] : List Int) y538 _ _ _ (fun k_=>some k_ ≠(.slice Ao31 t518.length co31 : Value).ownBlock) (fun _=>False) rfl rfl ?aO ?aR (fun _ _ h=>h) (fun _ h=>h.elim) ?aF ?aB ?aS ?aL ?_;(case aR=>repeat(first | exact(by repeat(first |(with_reducible exact HR541.out) |(with_reducible refine Kd.C_alloc ?_ _) |(with_reducible refine Kd.C_drewN ?_ _) |(with_reducible refine Kd.C_drew ?_) | exact HR541.out)) |(with_reducible refine Kd.C_alloc ?_ _) |(with_reducible refine Kd.C_drewN ?_ _) |(with_reducible refine Kd.C_drew ?_)));(case aB=>exact(by repeat(first |(with_reducible first | exact HB.out | apply bwA | apply bwN | apply bw1) | exact HB.out)));(case aF=>exact(fun k_ hk=>Kd.fresh' (Kd.R_lt (by(with_reducible repeat(first | apply Kd.R_alloc | apply Kd.R_drewN | apply Kd.R_drew));exact HO520.out)) k_ hk));(case aO=>exact((Kd.R_nil _ _ _ _ (fun k_=>some k_ ≠(.slice Ao31 t518.length co31 : Value).ownBlock))));(case aS=>exact(bwZ (by repeat(first |(with_reducible first | exact HB.out | apply bwA | apply bwN | apply bw1) | exact HB.out))));(case aL=>have:=LMc24.out;omega);intro v543 w32 ho hb hg hat;rw [← Ny542.out] at ho;have n0_:=Aside0.mk (Kd.R_after (Kd.R_apart_nil (by(with_reducible repeat(first | apply Kd.R_alloc | apply Kd.R_drewN | apply Kd.R_drew));exact HO520.out)) hg hat);have n1_:=Aside0.mk (hb);have n2_:=Aside0.mk ((show Kd.C (Kd.int .i64) w32 Ao31 y538.length y538 from by rw [Ny538.out];exact Kd.C_take (m:=((ji21) : Int).toNat) ((Kd.R_reads' (Kd.R_after (Kd.R_apart_nil (by(with_reducible repeat(first | apply Kd.R_alloc | apply Kd.R_drewN | apply Kd.R_drew));exact HO520.out)) hg hat)).2.2) KL30.out));have n3_:=Aside0.mk (ho);clear HO520;clear HB;clear HR541;have HO520:=n0_;have HB:=n1_;have HR541:=n2_;have HO544:=n3_;clear n0_ n1_ n2_ n3_;clear ho hb hg hat) |((with_reducible refine gate_builtin (b:=.append) (xs:=#[.tmp 33,.tmp 35]) rfl ?_);at_builtin;refine Kd.R_append (Kd.int .i64) (w0:=w) w.heap.size rfl (.tmp 33) (.tmp 35) 22 3 (.int .i64 0) 8 rfl Try.underlying22 info3 rfl (by decide) (by omega) v543 y542 a0 [.int .i64 a0] (fun k_=>some k_ ≠(.slice Ao31 t518.length co31 : Value).ownBlock) (fun _=>False) rfl rfl ?aP (fun _ hk=>hk.elim) ?aF ?aO ?aB ?aS ?aL ?_;(case aP=>exact rfl);(case aB=>exact(by repeat(first |(with_reducible first | exact HB.out | apply bwA | apply bwN | apply bw1) | exact HB.out)));(case aF=>exact(fun k_ hk=>Kd.fresh' (Kd.R_lt (by(with_reducible repeat(first | apply Kd.R_alloc | apply Kd.R_drewN | apply Kd.R_drew));exact HO520.out)) k_ hk));(case aO=>exact(by(with_reducible repeat(first | apply Kd.R_alloc | apply Kd.R_drewN | apply Kd.R_drew));exact HO544.out));(case aS=>exact(bwZ (by repeat(first |(with_reducible first | exact HB.out | apply bwA | apply bwN | apply bw1) | exact HB.out))));(case aL=>have:=LMc25.out;omega);intro v546 w33 ho hb hg hat;rw [← Ny545.out] at ho;have n0_:=Aside0.mk (Kd.R_after (ok:=(fun _=>True)) (by(with_reducible repeat(first | apply Kd.R_alloc | apply Kd.R_drewN | apply Kd.R_drew));exact HO520.out) hg hat);have n1_:=Aside0.mk (hb);have n2_:=Aside0.mk ((show Kd.C (Kd.int .i64) w33 Ao31 y538.length y538 from by rw [Ny538.out];exact Kd.C_take (m:=((ji21) : Int).toNat) ((Kd.R_reads' (Kd.R_after (ok:=(fun _=>True)) (by(with_reducible repeat(first | apply Kd.R_alloc | apply Kd.R_drewN | apply Kd.R_drew));exact HO520.out) hg hat)).2.2) KL30.out));have n3_:=Aside0.mk (ho);clear HO520;clear HB;clear HR541;clear HO544;have HO520:=n0_;have HB:=n1_;have HR541:=n2_;have HO547:=n3_;clear n0_ n1_ n2_ n3_;clear ho hb hg hat;have q34 :((ji21) : Int) ≤((t518.length : Int) : Int):=of_decide_eq_true (by first |(with_reducible assumption) | assumption);obtain ⟨i034,hi034,_,hsz34,_⟩:=info_parts info3;have hroom34 : t518.length≤co31:=(Kd.R_reads' HO520.out).2.1;have hC34 : Kd.C (Kd.int .i64) _ Ao31 t518.length t518:=(Kd.R_reads' HO520.out).2.2;have q034 :(0 : Int) ≤((ji21) : Int):=of_decide_eq_true (by first |(with_reducible assumption) | assumption);have hcut34:=cut_from (P:=Try.prog) 22 3 .i64 Try.underlying22 hi034 1 hsz34 Ao31 t518.length co31 (ji21) q034 q34;have hr34:=Kd.C_drop (m:=((ji21) : Int).toNat) (c:=co31) hC34 (by omega) hroom34;obtain ⟨A34,hA34⟩ : ∃ A1,A1 =(if co31 =((ji21) : Int).toNat then Ao31 else(Ao31 : Option Addr).map (·.add (((ji21) : Int).toNat * 1))):=⟨_,rfl⟩;obtain ⟨c34,hc34⟩ : ∃ c1,c1 = co31 - ((ji21) : Int).toNat:=⟨_,rfl⟩;have hy34 : y548.length = t518.length - ((ji21) : Int).toNat:=(by rw [Ny548.out,List.length_drop] <;> omega);rw [show(t518).drop ((ji21) : Int).toNat = y548 from Ny548.out.symm] at hr34;replace hr34 : Kd.C (Kd.int .i64) _ A34 y548.length y548:=(by rw [hA34];exact hr34);rw [← hy34,← hA34,← hc34] at hcut34;have HR551:=Aside0.mk hr34;have HC551:=Aside0.mk (show y548.length≤c34 from by rw [hy34,hc34];exact Nat.sub_le_sub_right hroom34 _);clear hr34 hC34 hroom34 hi034 hsz34 hc34;have KY34:=Aside0.mk hy34;have KA34:=Aside0.mk hA34;clear hy34 hA34;have KL34:=Aside0.mk (show((ji21) : Int).toNat≤t518.length from by omega);replace q34:=eq_true q34) |((with_reducible refine gate_builtin (b:=.append) (xs:=#[.tmp 37,.tmp 40]) rfl ?_);at_builtin;refine Kd.R_append_rows (Kd.int .i64) (w0:=w) w.heap.size rfl (.tmp 37) (.tmp 40) 22 3 (.int .i64 0) 8 rfl Try.underlying22 info3 rfl (by decide) (by omega) v546 y545 y548 _ _ _ (fun k_=>some k_ ≠(.slice Ao31 t518.length co31 : Value).ownBlock) (fun _=>False) rfl rfl ?aO ?aR (fun _ _ h=>h) (fun _ h=>h.elim) ?aF ?aB ?aS ?aL ?_;(case aR=>repeat(first | exact(by repeat(first |(with_reducible exact HR551.out) |(with_reducible refine Kd.C_alloc ?_ _) |(with_reducible refine Kd.C_drewN ?_ _) |(with_reducible refine Kd.C_drew ?_) | exact HR551.out)) |(with_reducible refine Kd.C_alloc ?_ _) |(with_reducible refine Kd.C_drewN ?_ _) |(with_reducible refine Kd.C_drew ?_)));(case aB=>exact(by repeat(first |(with_reducible first | exact HB.out | apply bwA | apply bwN | apply bw1) | exact HB.out)));(case aF=>exact(fun k_ hk=>Kd.fresh' (Kd.R_lt (by(with_reducible repeat(first | apply Kd.R_alloc | apply Kd.R_drewN | apply Kd.R_drew));exact HO520.out)) k_ hk));(case aO=>exact(by(with_reducible repeat(first | apply Kd.R_alloc | apply Kd.R_drewN | apply Kd.R_drew));exact HO547.out));(case aS=>exact(bwZ (by repeat(first |(with_reducible first | exact HB.out | apply bwA | apply bwN | apply bw1) | exact HB.out))));(case aL=>have:=LMc28.out;omega);intro v553 w35 ho hb hg hat;rw [← Ny552.out] at ho;have n0_:=Aside0.mk (Kd.R_after (ok:=(fun _=>True)) (by(with_reducible repeat(first | apply Kd.R_alloc | apply Kd.R_drewN | apply Kd.R_drew));exact HO520.out) hg hat);have n1_:=Aside0.mk (hb);have n2_:=Aside0.mk ((show Kd.C (Kd.int .i64) w35 Ao31 y538.length y538 from by rw [Ny538.out];exact Kd.C_take (m:=((ji21) : Int).toNat) ((Kd.R_reads' (Kd.R_after (ok:=(fun _=>True)) (by(with_reducible repeat(first | apply Kd.R_alloc | apply Kd.R_drewN | apply Kd.R_drew));exact HO520.out) hg hat)).2.2) KL30.out));have n3_:=Aside0.mk ((show Kd.C (Kd.int .i64) w35 A34 y548.length y548 from by rw [Ny548.out,KA34.out];exact Kd.C_drop (m:=((ji21) : Int).toNat) (c:=co31) ((Kd.R_reads' (Kd.R_after (ok:=(fun _=>True)) (by(with_reducible repeat(first | apply Kd.R_alloc | apply Kd.R_drewN | apply Kd.R_drew));exact HO520.out) hg hat)).2.2) KL34.out ((Kd.R_reads' (Kd.R_after (ok:=(fun _=>True)) (by(with_reducible repeat(first | apply Kd.R_alloc | apply Kd.R_drewN | apply Kd.R_drew));exact HO520.out) hg hat)).2.1)));have n4_:=Aside0.mk (ho);clear HO520;clear HB;clear HR541;clear HR551;clear HO547;have HO520:=n0_;have HB:=n1_;have HR541:=n2_;have HR551:=n3_;have HO554:=n4_;clear n0_ n1_ n2_ n3_ n4_;clear ho hb hg hat))
  repeat(go_quiet (first |(go_at_call 51;(with_reducible refine(ih k (by omega) (wrap64 (a0 - 1)) (wrap64 (Int.tdiv a1 a0)) t518 _ A4.out).mono ?_);rintro e w29 ⟨v519,rfl,ho0,hb⟩;have n0_:=Aside0.mk (Kd.R_lower ho0 (bwZ (by repeat(first |(with_reducible first | exact HB.out | apply bwA | apply bwN | apply bw1) | exact HB.out))));have n1_:=Aside0.mk (bwT (by repeat(first |(with_reducible first | exact HB.out | apply bwA | apply bwN | apply bw1) | exact HB.out)) hb);clear HB;have HO520:=n0_;have HB:=n1_;clear n0_ n1_;(try clear hb);(try clear hb2);(try clear hk);(try clear hi);(try clear ho0);obtain ⟨Ao31,co31,eo31⟩:=Kd.R_slice HO520.out;subst eo31;have q30 :((ji21) : Int) ≤((t518.length : Int) : Int):=of_decide_eq_true (by first |(with_reducible assumption) | assumption);obtain ⟨i030,hi030,_,hsz30,_⟩:=info_parts info3;have hroom30 : t518.length≤co31:=(Kd.R_reads' HO520.out).2.1;have hC30 : Kd.C (Kd.int .i64) _ Ao31 t518.length t518:=(Kd.R_reads' HO520.out).2.2;have hcut30:=cut_to (P:=Try.prog) 22 3 .i64 Try.underlying22 hi030 Ao31 t518.length co31 (ji21) (of_decide_eq_true (by first |(with_reducible assumption) | assumption)) q30 hroom30;have hr30:=Kd.C_take (m:=((ji21) : Int).toNat) hC30 (by omega);have hy30 : y538.length =((ji21) : Int).toNat:=(by rw [Ny538.out,List.length_take];omega);rw [← Ny538.out] at hr30;rw [← hy30] at hcut30;have HR541:=Aside0.mk hr30;have HC541:=Aside0.mk (show y538.length≤co31 from by omega);clear hr30 hC30 hroom30 hi030 hsz30;have KY30:=Aside0.mk hy30;clear hy30;have KL30:=Aside0.mk (show((ji21) : Int).toNat≤t518.length from by omega);replace q30:=eq_true q30) |((with_reducible refine gate_builtin (b:=.append) (xs:=#[.tmp 28,.tmp 31]) rfl ?_);at_builtin;refine Kd.R_append_rows (Kd.int .i64) (w0:=w) w.heap.size rfl (.tmp 28) (.tmp 31) 22 3 (.int .i64 0) 8 rfl Try.underlying22 info3 rfl (by decide) (by omega) (.slice none 0 0) ([] : List Int) y538 _ _ _ (fun k_=>some k_ ≠(.slice Ao31 t518.length co31 : Value).ownBlock) (fun _=>False) rfl rfl ?aO ?aR (fun _ _ h=>h) (fun _ h=>h.elim) ?aF ?aB ?aS ?aL ?_;(case aR=>repeat(first | exact(by repeat(first |(with_reducible exact HR541.out) |(with_reducible refine Kd.C_alloc ?_ _) |(with_reducible refine Kd.C_drewN ?_ _) |(with_reducible refine Kd.C_drew ?_) | exact HR541.out)) |(with_reducible refine Kd.C_alloc ?_ _) |(with_reducible refine Kd.C_drewN ?_ _) |(with_reducible refine Kd.C_drew ?_)));(case aB=>exact(by repeat(first |(with_reducible first | exact HB.out | apply bwA | apply bwN | apply bw1) | exact HB.out)));(case aF=>exact(fun k_ hk=>Kd.fresh' (Kd.R_lt (by(with_reducible repeat(first | apply Kd.R_alloc | apply Kd.R_drewN | apply Kd.R_drew));exact HO520.out)) k_ hk));(case aO=>exact((Kd.R_nil _ _ _ _ (fun k_=>some k_ ≠(.slice Ao31 t518.length co31 : Value).ownBlock))));(case aS=>exact(bwZ (by repeat(first |(with_reducible first | exact HB.out | apply bwA | apply bwN | apply bw1) | exact HB.out))));(case aL=>have:=LMc24.out;omega);intro v543 w32 ho hb hg hat;rw [← Ny542.out] at ho;have n0_:=Aside0.mk (Kd.R_after (Kd.R_apart_nil (by(with_reducible repeat(first | apply Kd.R_alloc | apply Kd.R_drewN | apply Kd.R_drew));exact HO520.out)) hg hat);have n1_:=Aside0.mk (hb);have n2_:=Aside0.mk ((show Kd.C (Kd.int .i64) w32 Ao31 y538.length y538 from by rw [Ny538.out];exact Kd.C_take (m:=((ji21) : Int).toNat) ((Kd.R_reads' (Kd.R_after (Kd.R_apart_nil (by(with_reducible repeat(first | apply Kd.R_alloc | apply Kd.R_drewN | apply Kd.R_drew));exact HO520.out)) hg hat)).2.2) KL30.out));have n3_:=Aside0.mk (ho);clear HO520;clear HB;clear HR541;have HO520:=n0_;have HB:=n1_;have HR541:=n2_;have HO544:=n3_;clear n0_ n1_ n2_ n3_;clear ho hb hg hat) |((with_reducible refine gate_builtin (b:=.append) (xs:=#[.tmp 33,.tmp 35]) rfl ?_);at_builtin;refine Kd.R_append (Kd.int .i64) (w0:=w) w.heap.size rfl (.tmp 33) (.tmp 35) 22 3 (.int .i64 0) 8 rfl Try.underlying22 info3 rfl (by decide) (by omega) v543 y542 a0 [.int .i64 a0] (fun k_=>some k_ ≠(.slice Ao31 t518.length co31 : Value).ownBlock) (fun _=>False) rfl rfl ?aP (fun _ hk=>hk.elim) ?aF ?aO ?aB ?aS ?aL ?_;(case aP=>exact rfl);(case aB=>exact(by repeat(first |(with_reducible first | exact HB.out | apply bwA | apply bwN | apply bw1) | exact HB.out)));(case aF=>exact(fun k_ hk=>Kd.fresh' (Kd.R_lt (by(with_reducible repeat(first | apply Kd.R_alloc | apply Kd.R_drewN | apply Kd.R_drew));exact HO520.out)) k_ hk));(case aO=>exact(by(with_reducible repeat(first | apply Kd.R_alloc | apply Kd.R_drewN | apply Kd.R_drew));exact HO544.out));(case aS=>exact(bwZ (by repeat(first |(with_reducible first | exact HB.out | apply bwA | apply bwN | apply bw1) | exact HB.out))));(case aL=>have:=LMc25.out;omega);intro v546 w33 ho hb hg hat;rw [← Ny545.out] at ho;have n0_:=Aside0.mk (Kd.R_after (ok:=(fun _=>True)) (by(with_reducible repeat(first | apply Kd.R_alloc | apply Kd.R_drewN | apply Kd.R_drew));exact HO520.out) hg hat);have n1_:=Aside0.mk (hb);have n2_:=Aside0.mk ((show Kd.C (Kd.int .i64) w33 Ao31 y538.length y538 from by rw [Ny538.out];exact Kd.C_take (m:=((ji21) : Int).toNat) ((Kd.R_reads' (Kd.R_after (ok:=(fun _=>True)) (by(with_reducible repeat(first | apply Kd.R_alloc | apply Kd.R_drewN | apply Kd.R_drew));exact HO520.out) hg hat)).2.2) KL30.out));have n3_:=Aside0.mk (ho);clear HO520;clear HB;clear HR541;clear HO544;have HO520:=n0_;have HB:=n1_;have HR541:=n2_;have HO547:=n3_;clear n0_ n1_ n2_ n3_;clear ho hb hg hat;have q34 :((ji21) : Int) ≤((t518.length : Int) : Int):=of_decide_eq_true (by first |(with_reducible assumption) | assumption);obtain ⟨i034,hi034,_,hsz34,_⟩:=info_parts info3;have hroom34 : t518.length≤co31:=(Kd.R_reads' HO520.out).2.1;have hC34 : Kd.C (Kd.int .i64) _ Ao31 t518.length t518:=(Kd.R_reads' HO520.out).2.2;have q034 :(0 : Int) ≤((ji21) : Int):=of_decide_eq_true (by first |(with_reducible assumption) | assumption);have hcut34:=cut_from (P:=Try.prog) 22 3 .i64 Try.underlying22 hi034 1 hsz34 Ao31 t518.length co31 (ji21) q034 q34;have hr34:=Kd.C_drop (m:=((ji21) : Int).toNat) (c:=co31) hC34 (by omega) hroom34;obtain ⟨A34,hA34⟩ : ∃ A1,A1 =(if co31 =((ji21) : Int).toNat then Ao31 else(Ao31 : Option Addr).map (·.add (((ji21) : Int).toNat * 1))):=⟨_,rfl⟩;obtain ⟨c34,hc34⟩ : ∃ c1,c1 = co31 - ((ji21) : Int).toNat:=⟨_,rfl⟩;have hy34 : y548.length = t518.length - ((ji21) : Int).toNat:=(by rw [Ny548.out,List.length_drop] <;> omega);rw [show(t518).drop ((ji21) : Int).toNat = y548 from Ny548.out.symm] at hr34;replace hr34 : Kd.C (Kd.int .i64) _ A34 y548.length y548:=(by rw [hA34];exact hr34);rw [← hy34,← hA34,← hc34] at hcut34;have HR551:=Aside0.mk hr34;have HC551:=Aside0.mk (show y548.length≤c34 from by rw [hy34,hc34];exact Nat.sub_le_sub_right hroom34 _);clear hr34 hC34 hroom34 hi034 hsz34 hc34;have KY34:=Aside0.mk hy34;have KA34:=Aside0.mk hA34;clear hy34 hA34;have KL34:=Aside0.mk (show((ji21) : Int).toNat≤t518.length from by omega);replace q34:=eq_true q34) |((with_reducible refine gate_builtin (b:=.append) (xs:=#[.tmp 37,.tmp 40]) rfl ?_);at_builtin;refine Kd.R_append_rows (Kd.int .i64) (w0:=w) w.heap.size rfl (.tmp 37) (.tmp 40) 22 3 (.int .i64 0) 8 rfl Try.underlying22 info3 rfl (by decide) (by omega) v546 y545 y548 _ _ _ (fun k_=>some k_ ≠(.slice Ao31 t518.length co31 : Value).ownBlock) (fun _=>False) rfl rfl ?aO ?aR (fun _ _ h=>h) (fun _ h=>h.elim) ?aF ?aB ?aS ?aL ?_;(case aR=>repeat(first | exact(by repeat(first |(with_reducible exact HR551.out) |(with_reducible refine Kd.C_alloc ?_ _) |(with_reducible refine Kd.C_drewN ?_ _) |(with_reducible refine Kd.C_drew ?_) | exact HR551.out)) |(with_reducible refine Kd.C_alloc ?_ _) |(with_reducible refine Kd.C_drewN ?_ _) |(with_reducible refine Kd.C_drew ?_)));(case aB=>exact(by repeat(first |(with_reducible first | exact HB.out | apply bwA | apply bwN | apply bw1) | exact HB.out)));(case aF=>exact(fun k_ hk=>Kd.fresh' (Kd.R_lt (by(with_reducible repeat(first | apply Kd.R_alloc | apply Kd.R_drewN | apply Kd.R_drew));exact HO520.out)) k_ hk));(case aO=>exact(by(with_reducible repeat(first | apply Kd.R_alloc | apply Kd.R_drewN | apply Kd.R_drew));exact HO547.out));(case aS=>exact(bwZ (by repeat(first |(with_reducible first | exact HB.out | apply bwA | apply bwN | apply bw1) | exact HB.out))));(case aL=>have:=LMc28.out;omega);intro v553 w35 ho hb hg hat;rw [← Ny552.out] at ho;have n0_:=Aside0.mk (Kd.R_after (ok:=(fun _=>True)) (by(with_reducible repeat(first | apply Kd.R_alloc | apply Kd.R_drewN | apply Kd.R_drew));exact HO520.out) hg hat);have n1_:=Aside0.mk (hb);have n2_:=Aside0.mk ((show Kd.C (Kd.int .i64) w35 Ao31 y538.length y538 from by rw [Ny538.out];exact Kd.C_take (m:=((ji21) : Int).toNat) ((Kd.R_reads' (Kd.R_after (ok:=(fun _=>True)) (by(with_reducible repeat(first | apply Kd.R_alloc | apply Kd.R_drewN | apply Kd.R_drew));exact HO520.out) hg hat)).2.2) KL30.out));have n3_:=Aside0.mk ((show Kd.C (Kd.int .i64) w35 A34 y548.length y548 from by rw [Ny548.out,KA34.out];exact Kd.C_drop (m:=((ji21) : Int).toNat) (c:=co31) ((Kd.R_reads' (Kd.R_after (ok:=(fun _=>True)) (by(with_reducible repeat(first | apply Kd.R_alloc | apply Kd.R_drewN | apply Kd.R_drew));exact HO520.out) hg hat)).2.2) KL34.out ((Kd.R_reads' (Kd.R_after (ok:=(fun _=>True)) (by(with_reducible repeat(first | apply Kd.R_alloc | apply Kd.R_drewN | apply Kd.R_drew));exact HO520.out) hg hat)).2.1)));have n4_:=Aside0.mk (ho);clear HO520;clear HB;clear HR541;clear HR551;clear HO547;have HO520:=n0_;have HB:=n1_;have HR541:=n2_;have HR551:=n3_;have HO554:=n4_;clear n0_ n1_ n2_ n3_ n4_;clear ho hb hg hat));try go_wp2_with (first |(go_at_call 51;(with_reducible refine(ih k (by omega) (wrap64 (a0 - 1)) (wrap64 (Int.tdiv a1 a0)) t518 _ A4.out).mono ?_);rintro e w29 ⟨v519,rfl,ho0,hb⟩;have n0_:=Aside0.mk (Kd.R_lower ho0 (bwZ (by repeat(first |(with_reducible first | exact HB.out | apply bwA | apply bwN | apply bw1) | exact HB.out))));have n1_:=Aside0.mk (bwT (by repeat(first |(with_reducible first | exact HB.out | apply bwA | apply bwN | apply bw1) | exact HB.out)) hb);clear HB;have HO520:=n0_;have HB:=n1_;clear n0_ n1_;(try clear hb);(try clear hb2);(try clear hk);(try clear hi);(try clear ho0);obtain ⟨Ao31,co31,eo31⟩:=Kd.R_slice HO520.out;subst eo31;have q30 :((ji21) : Int) ≤((t518.length : Int) : Int):=of_decide_eq_true (by first |(with_reducible assumption) | assumption);obtain ⟨i030,hi030,_,hsz30,_⟩:=info_parts info3;have hroom30 : t518.length≤co31:=(Kd.R_reads' HO520.out).2.1;have hC30 : Kd.C (Kd.int .i64) _ Ao31 t518.length t518:=(Kd.R_reads' HO520.out).2.2;have hcut30:=cut_to (P:=Try.prog) 22 3 .i64 Try.underlying22 hi030 Ao31 t518.length co31 (ji21) (of_decide_eq_true (by first |(with_reducible assumption) | assumption)) q30 hroom30;have hr30:=Kd.C_take (m:=((ji21) : Int).toNat) hC30 (by omega);have hy30 : y538.length =((ji21) : Int).toNat:=(by rw [Ny538.out,List.length_take];omega);rw [← Ny538.out] at hr30;rw [← hy30] at hcut30;have HR541:=Aside0.mk hr30;have HC541:=Aside0.mk (show y538.length≤co31 from by omega);clear hr30 hC30 hroom30 hi030 hsz30;have KY30:=Aside0.mk hy30;clear hy30;have KL30:=Aside0.mk (show((ji21) : Int).toNat≤t518.length from by omega);replace q30:=eq_true q30) |((with_reducible refine gate_builtin (b:=.append) (xs:=#[.tmp 28,.tmp 31]) rfl ?_);at_builtin;refine Kd.R_append_rows (Kd.int .i64) (w0:=w) w.heap.size rfl (.tmp 28) (.tmp 31) 22 3 (.int .i64 0) 8 rfl Try.underlying22 info3 rfl (by decide) (by omega) (.slice none 0 0) ([] : List Int) y538 _ _ _ (fun k_=>some k_ ≠(.slice Ao31 t518.length co31 : Value).ownBlock) (fun _=>False) rfl rfl ?aO ?aR (fun _ _ h=>h) (fun _ h=>h.elim) ?aF ?aB ?aS ?aL ?_;(case aR=>repeat(first | exact(by repeat(first |(with_reducible exact HR541.out) |(with_reducible refine Kd.C_alloc ?_ _) |(with_reducible refine Kd.C_drewN ?_ _) |(with_reducible refine Kd.C_drew ?_) | exact HR541.out)) |(with_reducible refine Kd.C_alloc ?_ _) |(with_reducible refine Kd.C_drewN ?_ _) |(with_reducible refine Kd.C_drew ?_)));(case aB=>exact(by repeat(first |(with_reducible first | exact HB.out | apply bwA | apply bwN | apply bw1) | exact HB.out)));(case aF=>exact(fun k_ hk=>Kd.fresh' (Kd.R_lt (by(with_reducible repeat(first | apply Kd.R_alloc | apply Kd.R_drewN | apply Kd.R_drew));exact HO520.out)) k_ hk));(case aO=>exact((Kd.R_nil _ _ _ _ (fun k_=>some k_ ≠(.slice Ao31 t518.length co31 : Value).ownBlock))));(case aS=>exact(bwZ (by repeat(first |(with_reducible first | exact HB.out | apply bwA | apply bwN | apply bw1) | exact HB.out))));(case aL=>have:=LMc24.out;omega);intro v543 w32 ho hb hg hat;rw [← Ny542.out] at ho;have n0_:=Aside0.mk (Kd.R_after (Kd.R_apart_nil (by(with_reducible repeat(first | apply Kd.R_alloc | apply Kd.R_drewN | apply Kd.R_drew));exact HO520.out)) hg hat);have n1_:=Aside0.mk (hb);have n2_:=Aside0.mk ((show Kd.C (Kd.int .i64) w32 Ao31 y538.length y538 from by rw [Ny538.out];exact Kd.C_take (m:=((ji21) : Int).toNat) ((Kd.R_reads' (Kd.R_after (Kd.R_apart_nil (by(with_reducible repeat(first | apply Kd.R_alloc | apply Kd.R_drewN | apply Kd.R_drew));exact HO520.out)) hg hat)).2.2) KL30.out));have n3_:=Aside0.mk (ho);clear HO520;clear HB;clear HR541;have HO520:=n0_;have HB:=n1_;have HR541:=n2_;have HO544:=n3_;clear n0_ n1_ n2_ n3_;clear ho hb hg hat) |((with_reducible refine gate_builtin (b:=.append) (xs:=#[.tmp 33,.tmp 35]) rfl ?_);at_builtin;refine Kd.R_append (Kd.int .i64) (w0:=w) w.heap.size rfl (.tmp 33) (.tmp 35) 22 3 (.int .i64 0) 8 rfl Try.underlying22 info3 rfl (by decide) (by omega) v543 y542 a0 [.int .i64 a0] (fun k_=>some k_ ≠(.slice Ao31 t518.length co31 : Value).ownBlock) (fun _=>False) rfl rfl ?aP (fun _ hk=>hk.elim) ?aF ?aO ?aB ?aS ?aL ?_;(case aP=>exact rfl);(case aB=>exact(by repeat(first |(with_reducible first | exact HB.out | apply bwA | apply bwN | apply bw1) | exact HB.out)));(case aF=>exact(fun k_ hk=>Kd.fresh' (Kd.R_lt (by(with_reducible repeat(first | apply Kd.R_alloc | apply Kd.R_drewN | apply Kd.R_drew));exact HO520.out)) k_ hk));(case aO=>exact(by(with_reducible repeat(first | apply Kd.R_alloc | apply Kd.R_drewN | apply Kd.R_drew));exact HO544.out));(case aS=>exact(bwZ (by repeat(first |(with_reducible first | exact HB.out | apply bwA | apply bwN | apply bw1) | exact HB.out))));(case aL=>have:=LMc25.out;omega);intro v546 w33 ho hb hg hat;rw [← Ny545.out] at ho;have n0_:=Aside0.mk (Kd.R_after (ok:=(fun _=>True)) (by(with_reducible repeat(first | apply Kd.R_alloc | apply Kd.R_drewN | apply Kd.R_drew));exact HO520.out) hg hat);have n1_:=Aside0.mk (hb);have n2_:=Aside0.mk ((show Kd.C (Kd.int .i64) w33 Ao31 y538.length y538 from by rw [Ny538.out];exact Kd.C_take (m:=((ji21) : Int).toNat) ((Kd.R_reads' (Kd.R_after (ok:=(fun _=>True)) (by(with_reducible repeat(first | apply Kd.R_alloc | apply Kd.R_drewN | apply Kd.R_drew));exact HO520.out) hg hat)).2.2) KL30.out));have n3_:=Aside0.mk (ho);clear HO520;clear HB;clear HR541;clear HO544;have HO520:=n0_;have HB:=n1_;have HR541:=n2_;have HO547:=n3_;clear n0_ n1_ n2_ n3_;clear ho hb hg hat;have q34 :((ji21) : Int) ≤((t518.length : Int) : Int):=of_decide_eq_true (by first |(with_reducible assumption) | assumption);obtain ⟨i034,hi034,_,hsz34,_⟩:=info_parts info3;have hroom34 : t518.length≤co31:=(Kd.R_reads' HO520.out).2.1;have hC34 : Kd.C (Kd.int .i64) _ Ao31 t518.length t518:=(Kd.R_reads' HO520.out).2.2;have q034 :(0 : Int) ≤((ji21) : Int):=of_decide_eq_true (by first |(with_reducible assumption) | assumption);have hcut34:=cut_from (P:=Try.prog) 22 3 .i64 Try.underlying22 hi034 1 hsz34 Ao31 t518.length co31 (ji21) q034 q34;have hr34:=Kd.C_drop (m:=((ji21) : Int).toNat) (c:=co31) hC34 (by omega) hroom34;obtain ⟨A34,hA34⟩ : ∃ A1,A1 =(if co31 =((ji21) : Int).toNat then Ao31 else(Ao31 : Option Addr).map (·.add (((ji21) : Int).toNat * 1))):=⟨_,rfl⟩;obtain ⟨c34,hc34⟩ : ∃ c1,c1 = co31 - ((ji21) : Int).toNat:=⟨_,rfl⟩;have hy34 : y548.length = t518.length - ((ji21) : Int).toNat:=(by rw [Ny548.out,List.length_drop] <;> omega);rw [show(t518).drop ((ji21) : Int).toNat = y548 from Ny548.out.symm] at hr34;replace hr34 : Kd.C (Kd.int .i64) _ A34 y548.length y548:=(by rw [hA34];exact hr34);rw [← hy34,← hA34,← hc34] at hcut34;have HR551:=Aside0.mk hr34;have HC551:=Aside0.mk (show y548.length≤c34 from by rw [hy34,hc34];exact Nat.sub_le_sub_right hroom34 _);clear hr34 hC34 hroom34 hi034 hsz34 hc34;have KY34:=Aside0.mk hy34;have KA34:=Aside0.mk hA34;clear hy34 hA34;have KL34:=Aside0.mk (show((ji21) : Int).toNat≤t518.length from by omega);replace q34:=eq_true q34) |((with_reducible refine gate_builtin (b:=.append) (xs:=#[.tmp 37,.tmp 40]) rfl ?_);at_builtin;refine Kd.R_append_rows (Kd.int .i64) (w0:=w) w.heap.size rfl (.tmp 37) (.tmp 40) 22 3 (.int .i64 0) 8 rfl Try.underlying22 info3 rfl (by decide) (by omega) v546 y545 y548 _ _ _ (fun k_=>some k_ ≠(.slice Ao31 t518.length co31 : Value).ownBlock) (fun _=>False) rfl rfl ?aO ?aR (fun _ _ h=>h) (fun _ h=>h.elim) ?aF ?aB ?aS ?aL ?_;(case aR=>repeat(first | exact(by repeat(first |(with_reducible exact HR551.out) |(with_reducible refine Kd.C_alloc ?_ _) |(with_reducible refine Kd.C_drewN ?_ _) |(with_reducible refine Kd.C_drew ?_) | exact HR551.out)) |(with_reducible refine Kd.C_alloc ?_ _) |(with_reducible refine Kd.C_drewN ?_ _) |(with_reducible refine Kd.C_drew ?_)));(case aB=>exact(by repeat(first |(with_reducible first | exact HB.out | apply bwA | apply bwN | apply bw1) | exact HB.out)));(case aF=>exact(fun k_ hk=>Kd.fresh' (Kd.R_lt (by(with_reducible repeat(first | apply Kd.R_alloc | apply Kd.R_drewN | apply Kd.R_drew));exact HO520.out)) k_ hk));(case aO=>exact(by(with_reducible repeat(first | apply Kd.R_alloc | apply Kd.R_drewN | apply Kd.R_drew));exact HO547.out));(case aS=>exact(bwZ (by repeat(first |(with_reducible first | exact HB.out | apply bwA | apply bwN | apply bw1) | exact HB.out))));(case aL=>have:=LMc28.out;omega);intro v553 w35 ho hb hg hat;rw [← Ny552.out] at ho;have n0_:=Aside0.mk (Kd.R_after (ok:=(fun _=>True)) (by(with_reducible repeat(first | apply Kd.R_alloc | apply Kd.R_drewN | apply Kd.R_drew));exact HO520.out) hg hat);have n1_:=Aside0.mk (hb);have n2_:=Aside0.mk ((show Kd.C (Kd.int .i64) w35 Ao31 y538.length y538 from by rw [Ny538.out];exact Kd.C_take (m:=((ji21) : Int).toNat) ((Kd.R_reads' (Kd.R_after (ok:=(fun _=>True)) (by(with_reducible repeat(first | apply Kd.R_alloc | apply Kd.R_drewN | apply Kd.R_drew));exact HO520.out) hg hat)).2.2) KL30.out));have n3_:=Aside0.mk ((show Kd.C (Kd.int .i64) w35 A34 y548.length y548 from by rw [Ny548.out,KA34.out];exact Kd.C_drop (m:=((ji21) : Int).toNat) (c:=co31) ((Kd.R_reads' (Kd.R_after (ok:=(fun _=>True)) (by(with_reducible repeat(first | apply Kd.R_alloc | apply Kd.R_drewN | apply Kd.R_drew));exact HO520.out) hg hat)).2.2) KL34.out ((Kd.R_reads' (Kd.R_after (ok:=(fun _=>True)) (by(with_reducible repeat(first | apply Kd.R_alloc | apply Kd.R_drewN | apply Kd.R_drew));exact HO520.out) hg hat)).2.1)));have n4_:=Aside0.mk (ho);clear HO520;clear HB;clear HR541;clear HR551;clear HO547;have HO520:=n0_;have HB:=n1_;have HR541:=n2_;have HR551:=n3_;have HO554:=n4_;clear n0_ n1_ n2_ n3_ n4_;clear ho hb hg hat)))
  go_ret
  exact⟨_,by first | rfl |(simp [errW_none,errW_some] <;> rfl) |(simp only [← hji21];first | rfl |(simp [errW_none,errW_some] <;> rfl)) |(simp [*,errW_none,errW_some] <;> rfl),by(with_reducible repeat(first | apply Kd.R_alloc | apply Kd.R_drewN | apply Kd.R_drew));exact Kd.R_mono HO554.out (fun _ hk=>trivial),by repeat(first |(with_reducible first | exact HB.out | apply bwA | apply bwN | apply bw1) | exact HB.out)⟩
 rw [if_pos c5] at H
 have c5b0 :((Int.tmod (wrap64 (Int.tdiv a1 a0)) 2) == 0) = true:=beq_iff_eq.mpr c5
 have c5b1 :((Int.tmod (wrap64 (Int.tdiv a1 a0)) 2) != 0) = false:=bne_eq_false_iff_eq.mpr c5
 clear c5
 obtain ⟨ji6,hji6⟩ : ∃ j_ : Int,(wrap64 ((wrap64 (a0 - 1)) - (Int.tmod a1 a0))) = j_:=⟨_,rfl⟩
 replace H :(if 0 ≤(ji6) then(if(ji6) ≤(t518.length : Int) then((some (t518.take ((ji6) : Int).toNat : List Int)).bind fun y521=>(if([] : List Int).length + y521.length < 17592186044416 then((some (([] : List Int) ++ y521 : List Int)).bind fun y525=>(if y525.length < 17592186044416 then((some (y525 ++ [a0] : List Int)).bind fun y528=>((some (t518.drop ((ji6) : Int).toNat : List Int)).bind fun y531=>(if y528.length + y531.length < 17592186044416 then(some (y528 ++ y531)) else(none)))) else(none))) else(none))) else(none)) else(none)) = some r:=by first |(rw [hji6] at H;exact H) |(simp only [hji6] at H ⊢;exact H)
 (try rw [hji6] at A4)
 have hji6w :(IntKind.i64.wrap ((wrap64 (a0 - 1)) - (Int.tmod a1 a0))) = ji6:=(i64_w _).trans hji6
 by_cases c7 : 0 ≤(ji6)
 rotate_left
 ·rw [if_neg c7] at H
  exact absurd H (by simp)
 rw [if_pos c7] at H
 have c7b0:=eq_true c7
 have c7b1 : decide (0 ≤(ji6)) = true:=decide_eq_true c7
 clear c7
 by_cases c8 :(ji6) ≤(t518.length : Int)
 rotate_left
 ·rw [if_neg c8] at H
  exact absurd H (by simp)
 rw [if_pos c8] at H
 have c8b0:=eq_true c8
 have c8b1 : decide ((ji6) ≤(t518.length : Int)) = true:=decide_eq_true c8
 clear c8
 obtain ⟨y521,hy521⟩ : ∃ y_ : List Int,y_ =(t518.take ((ji6) : Int).toNat):=⟨_,rfl⟩
 replace H :(if([] : List Int).length + y521.length < 17592186044416 then((some (([] : List Int) ++ y521 : List Int)).bind fun y525=>(if y525.length < 17592186044416 then((some (y525 ++ [a0] : List Int)).bind fun y528=>((some (t518.drop ((ji6) : Int).toNat : List Int)).bind fun y531=>(if y528.length + y531.length < 17592186044416 then(some (y528 ++ y531)) else(none)))) else(none))) else(none)) = some r:=by first |(rw [hy521];with_reducible exact H) |(have H2_:=(Option.bind_some _ _).symm.trans H;rw [hy521];with_reducible exact H2_) |(have H2_:=(Option.bind_some _ _).symm.trans H;with_reducible exact H2_) | with_reducible exact H |(rw [hy521];exact H) | exact H
 have Ny521:=Aside0.mk hy521
 clear hy521
 by_cases c9 :([] : List Int).length + y521.length < 17592186044416
 rotate_left
 ·rw [if_neg c9] at H
  exact absurd H (by simp)
 rw [if_pos c9] at H
 have LMc9:=Aside0.mk c9
 clear c9
 obtain ⟨y525,hy525⟩ : ∃ y_ : List Int,y_ =(([] : List Int) ++ y521):=⟨_,rfl⟩
 replace H :(if y525.length < 17592186044416 then((some (y525 ++ [a0] : List Int)).bind fun y528=>((some (t518.drop ((ji6) : Int).toNat : List Int)).bind fun y531=>(if y528.length + y531.length < 17592186044416 then(some (y528 ++ y531)) else(none)))) else(none)) = some r:=by first |(rw [hy525];with_reducible exact H) |(have H2_:=(Option.bind_some _ _).symm.trans H;rw [hy525];with_reducible exact H2_) |(have H2_:=(Option.bind_some _ _).symm.trans H;with_reducible exact H2_) | with_reducible exact H |(rw [hy525];exact H) | exact H
 have Ny525:=Aside0.mk hy525
 clear hy525
 by_cases c10 : y525.length < 17592186044416
 rotate_left
 ·rw [if_neg c10] at H
  exact absurd H (by simp)
 rw [if_pos c10] at H
 have LMc10:=Aside0.mk c10
 clear c10
 obtain ⟨y528,hy528⟩ : ∃ y_ : List Int,y_ =(y525 ++ [a0]):=⟨_,rfl⟩
 replace H :((some (t518.drop ((ji6) : Int).toNat : List Int)).bind fun y531=>(if y528.length + y531.length < 17592186044416 then(some (y528 ++ y531)) else(none))) = some r:=by first |(rw [hy528];with_reducible exact H) |(have H2_:=(Option.bind_some _ _).symm.trans H;rw [hy528];with_reducible exact H2_) |(have H2_:=(Option.bind_some _ _).symm.trans H;with_reducible exact H2_) | with_reducible exact H |(rw [hy528];exact H) | exact H
 have Ny528:=Aside0.mk hy528
 clear hy528
 have c11b0:=eq_true (of_decide_eq_true (by first |(with_reducible assumption) | assumption) : 0 ≤(ji6))
 have c12b0:=eq_true (of_decide_eq_true (by first |(with_reducible assumption) | assumption) :(ji6) ≤(t518.length : Int))
 obtain ⟨y531,hy531⟩ : ∃ y_ : List Int,y_ =(t518.drop ((ji6) : Int).toNat):=⟨_,rfl⟩
 replace H :(if y528.length + y531.length < 17592186044416 then(some (y528 ++ y531)) else(none)) = some r:=by first |(rw [hy531];with_reducible exact H) |(have H2_:=(Option.bind_some _ _).symm.trans H;rw [hy531];with_reducible exact H2_) |(have H2_:=(Option.bind_some _ _).symm.trans H;with_reducible exact H2_) | with_reducible exact H |(rw [hy531];exact H) | exact H
 have Ny531:=Aside0.mk hy531
 clear hy531
 by_cases c13 : y528.length + y531.length < 17592186044416
 rotate_left
 ·rw [if_neg c13] at H
  exact absurd H (by simp)
 rw [if_pos c13] at H
 have LMc13:=Aside0.mk c13
 clear c13
 obtain ⟨y535,hy535⟩ : ∃ y_ : List Int,y_ =(y528 ++ y531):=⟨_,rfl⟩
 replace H :(some y535) = some r:=by first |(rw [hy535];with_reducible exact H) |(have H2_:=(Option.bind_some _ _).symm.trans H;rw [hy535];with_reducible exact H2_) |(have H2_:=(Option.bind_some _ _).symm.trans H;with_reducible exact H2_) | with_reducible exact H |(rw [hy535];exact H) | exact H
 have Ny535:=Aside0.mk hy535
 clear hy535
 obtain rfl:=Option.some.inj H
 go_enter Try.func51,Try.ntmps51
 go_wp2_with (first |(go_at_call 51;(with_reducible refine(ih k (by omega) (wrap64 (a0 - 1)) (wrap64 (Int.tdiv a1 a0)) t518 _ A4.out).mono ?_);rintro e w14 ⟨v519,rfl,ho0,hb⟩;have n0_:=Aside0.mk (Kd.R_lower ho0 (bwZ (by repeat(first |(with_reducible first | exact HB.out | apply bwA | apply bwN | apply bw1) | exact HB.out))));have n1_:=Aside0.mk (bwT (by repeat(first |(with_reducible first | exact HB.out | apply bwA | apply bwN | apply bw1) | exact HB.out)) hb);clear HB;have HO520:=n0_;have HB:=n1_;clear n0_ n1_;(try clear hb);(try clear hb2);(try clear hk);(try clear hi);(try clear ho0);obtain ⟨Ao16,co16,eo16⟩:=Kd.R_slice HO520.out;subst eo16;have q15 :((ji6) : Int) ≤((t518.length : Int) : Int):=of_decide_eq_true (by first |(with_reducible assumption) | assumption);obtain ⟨i015,hi015,_,hsz15,_⟩:=info_parts info3;have hroom15 : t518.length≤co16:=(Kd.R_reads' HO520.out).2.1;have hC15 : Kd.C (Kd.int .i64) _ Ao16 t518.length t518:=(Kd.R_reads' HO520.out).2.2;have hcut15:=cut_to (P:=Try.prog) 22 3 .i64 Try.underlying22 hi015 Ao16 t518.length co16 (ji6) (of_decide_eq_true (by first |(with_reducible assumption) | assumption)) q15 hroom15;have hr15:=Kd.C_take (m:=((ji6) : Int).toNat) hC15 (by omega);have hy15 : y521.length =((ji6) : Int).toNat:=(by rw [Ny521.out,List.length_take];omega);rw [← Ny521.out] at hr15;rw [← hy15] at hcut15;have HR524:=Aside0.mk hr15;have HC524:=Aside0.mk (show y521.length≤co16 from by omega);clear hr15 hC15 hroom15 hi015 hsz15;have KY15:=Aside0.mk hy15;clear hy15;have KL15:=Aside0.mk (show((ji6) : Int).toNat≤t518.length from by omega);replace q15:=eq_true q15) |((with_reducible refine gate_builtin (b:=.append) (xs:=#[.tmp 28,.tmp 31]) rfl ?_);at_builtin;refine Kd.R_append_rows (Kd.int .i64) (w0:=w) w.heap.size rfl (.tmp 28) (.tmp 31) 22 3 (.int .i64 0) 8 rfl Try.underlying22 info3 rfl (by decide) (by omega) (.slice none 0 0) ([] : List Int) y521 _ _ _ (fun k_=>some k_ ≠(.slice Ao16 t518.length co16 : Value).ownBlock) (fun _=>False) rfl rfl ?aO ?aR (fun _ _ h=>h) (fun _ h=>h.elim) ?aF ?aB ?aS ?aL ?_;(case aR=>repeat(first | exact(by repeat(first |(with_reducible exact HR524.out) |(with_reducible refine Kd.C_alloc ?_ _) |(with_reducible refine Kd.C_drewN ?_ _) |(with_reducible refine Kd.C_drew ?_) | exact HR524.out)) |(with_reducible refine Kd.C_alloc ?_ _) |(with_reducible refine Kd.C_drewN ?_ _) |(with_reducible refine Kd.C_drew ?_)));(case aB=>exact(by repeat(first |(with_reducible first | exact HB.out | apply bwA | apply bwN | apply bw1) | exact HB.out)));(case aF=>exact(fun k_ hk=>Kd.fresh' (Kd.R_lt (by(with_reducible repeat(first | apply Kd.R_alloc | apply Kd.R_drewN | apply Kd.R_drew));exact HO520.out)) k_ hk));(case aO=>exact((Kd.R_nil _ _ _ _ (fun k_=>some k_ ≠(.slice Ao16 t518.length co16 : Value).ownBlock))));(case aS=>exact(bwZ (by repeat(first |(with_reducible first | exact HB.out | apply bwA | apply bwN | apply bw1) | exact HB.out))));(case aL=>have:=LMc9.out;omega);intro v526 w17 ho hb hg hat;rw [← Ny525.out] at ho;have n0_:=Aside0.mk (Kd.R_after (Kd.R_apart_nil (by(with_reducible repeat(first | apply Kd.R_alloc | apply Kd.R_drewN | apply Kd.R_drew));exact HO520.out)) hg hat);have n1_:=Aside0.mk (hb);have n2_:=Aside0.mk ((show Kd.C (Kd.int .i64) w17 Ao16 y521.length y521 from by rw [Ny521.out];exact Kd.C_take (m:=((ji6) : Int).toNat) ((Kd.R_reads' (Kd.R_after (Kd.R_apart_nil (by(with_reducible repeat(first | apply Kd.R_alloc | apply Kd.R_drewN | apply Kd.R_drew));exact HO520.out)) hg hat)).2.2) KL15.out));have n3_:=Aside0.mk (ho);clear HO520;clear HB;clear HR524;have HO520:=n0_;have HB:=n1_;have HR524:=n2_;have HO527:=n3_;clear n0_ n1_ n2_ n3_;clear ho hb hg hat) |((with_reducible refine gate_builtin (b:=.append) (xs:=#[.tmp 33,.tmp 35]) rfl ?_);at_builtin;refine Kd.R_append (Kd.int .i64) (w0:=w) w.heap.size rfl (.tmp 33) (.tmp 35) 22 3 (.int .i64 0) 8 rfl Try.underlying22 info3 rfl (by decide) (by omega) v526 y525 a0 [.int .i64 a0] (fun k_=>some k_ ≠(.slice Ao16 t518.length co16 : Value).ownBlock) (fun _=>False) rfl rfl ?aP (fun _ hk=>hk.elim) ?aF ?aO ?aB ?aS ?aL ?_;(case aP=>exact rfl);(case aB=>exact(by repeat(first |(with_reducible first | exact HB.out | apply bwA | apply bwN | apply bw1) | exact HB.out)));(case aF=>exact(fun k_ hk=>Kd.fresh' (Kd.R_lt (by(with_reducible repeat(first | apply Kd.R_alloc | apply Kd.R_drewN | apply Kd.R_drew));exact HO520.out)) k_ hk));(case aO=>exact(by(with_reducible repeat(first | apply Kd.R_alloc | apply Kd.R_drewN | apply Kd.R_drew));exact HO527.out));(case aS=>exact(bwZ (by repeat(first |(with_reducible first | exact HB.out | apply bwA | apply bwN | apply bw1) | exact HB.out))));(case aL=>have:=LMc10.out;omega);intro v529 w18 ho hb hg hat;rw [← Ny528.out] at ho;have n0_:=Aside0.mk (Kd.R_after (ok:=(fun _=>True)) (by(with_reducible repeat(first | apply Kd.R_alloc | apply Kd.R_drewN | apply Kd.R_drew));exact HO520.out) hg hat);have n1_:=Aside0.mk (hb);have n2_:=Aside0.mk ((show Kd.C (Kd.int .i64) w18 Ao16 y521.length y521 from by rw [Ny521.out];exact Kd.C_take (m:=((ji6) : Int).toNat) ((Kd.R_reads' (Kd.R_after (ok:=(fun _=>True)) (by(with_reducible repeat(first | apply Kd.R_alloc | apply Kd.R_drewN | apply Kd.R_drew));exact HO520.out) hg hat)).2.2) KL15.out));have n3_:=Aside0.mk (ho);clear HO520;clear HB;clear HR524;clear HO527;have HO520:=n0_;have HB:=n1_;have HR524:=n2_;have HO530:=n3_;clear n0_ n1_ n2_ n3_;clear ho hb hg hat;have q19 :((ji6) : Int) ≤((t518.length : Int) : Int):=of_decide_eq_true (by first |(with_reducible assumption) | assumption);obtain ⟨i019,hi019,_,hsz19,_⟩:=info_parts info3;have hroom19 : t518.length≤co16:=(Kd.R_reads' HO520.out).2.1;have hC19 : Kd.C (Kd.int .i64) _ Ao16 t518.length t518:=(Kd.R_reads' HO520.out).2.2;have q019 :(0 : Int) ≤((ji6) : Int):=of_decide_eq_true (by first |(with_reducible assumption) | assumption);have hcut19:=cut_from (P:=Try.prog) 22 3 .i64 Try.underlying22 hi019 1 hsz19 Ao16 t518.length co16 (ji6) q019 q19;have hr19:=Kd.C_drop (m:=((ji6) : Int).toNat) (c:=co16) hC19 (by omega) hroom19;obtain ⟨A19,hA19⟩ : ∃ A1,A1 =(if co16 =((ji6) : Int).toNat then Ao16 else(Ao16 : Option Addr).map (·.add (((ji6) : Int).toNat * 1))):=⟨_,rfl⟩;obtain ⟨c19,hc19⟩ : ∃ c1,c1 = co16 - ((ji6) : Int).toNat:=⟨_,rfl⟩;have hy19 : y531.length = t518.length - ((ji6) : Int).toNat:=(by rw [Ny531.out,List.length_drop] <;> omega);rw [show(t518).drop ((ji6) : Int).toNat = y531 from Ny531.out.symm] at hr19;replace hr19 : Kd.C (Kd.int .i64) _ A19 y531.length y531:=(by rw [hA19];exact hr19);rw [← hy19,← hA19,← hc19] at hcut19;have HR534:=Aside0.mk hr19;have HC534:=Aside0.mk (show y531.length≤c19 from by rw [hy19,hc19];exact Nat.sub_le_sub_right hroom19 _);clear hr19 hC19 hroom19 hi019 hsz19 hc19;have KY19:=Aside0.mk hy19;have KA19:=Aside0.mk hA19;clear hy19 hA19;have KL19:=Aside0.mk (show((ji6) : Int).toNat≤t518.length from by omega);replace q19:=eq_true q19) |((with_reducible refine gate_builtin (b:=.append) (xs:=#[.tmp 37,.tmp 40]) rfl ?_);at_builtin;refine Kd.R_append_rows (Kd.int .i64) (w0:=w) w.heap.size rfl (.tmp 37) (.tmp 40) 22 3 (.int .i64 0) 8 rfl Try.underlying22 info3 rfl (by decide) (by omega) v529 y528 y531 _ _ _ (fun k_=>some k_ ≠(.slice Ao16 t518.length co16 : Value).ownBlock) (fun _=>False) rfl rfl ?aO ?aR (fun _ _ h=>h) (fun _ h=>h.elim) ?aF ?aB ?aS ?aL ?_;(case aR=>repeat(first | exact(by repeat(first |(with_reducible exact HR534.out) |(with_reducible refine Kd.C_alloc ?_ _) |(with_reducible refine Kd.C_drewN ?_ _) |(with_reducible refine Kd.C_drew ?_) | exact HR534.out)) |(with_reducible refine Kd.C_alloc ?_ _) |(with_reducible refine Kd.C_drewN ?_ _) |(with_reducible refine Kd.C_drew ?_)));(case aB=>exact(by repeat(first |(with_reducible first | exact HB.out | apply bwA | apply bwN | apply bw1) | exact HB.out)));(case aF=>exact(fun k_ hk=>Kd.fresh' (Kd.R_lt (by(with_reducible repeat(first | apply Kd.R_alloc | apply Kd.R_drewN | apply Kd.R_drew));exact HO520.out)) k_ hk));(case aO=>exact(by(with_reducible repeat(first | apply Kd.R_alloc | apply Kd.R_drewN | apply Kd.R_drew));exact HO530.out));(case aS=>exact(bwZ (by repeat(first |(with_reducible first | exact HB.out | apply bwA | apply bwN | apply bw1) | exact HB.out))));(case aL=>have:=LMc13.out;omega);intro v536 w20 ho hb hg hat;rw [← Ny535.out] at ho;have n0_:=Aside0.mk (Kd.R_after (ok:=(fun _=>True)) (by(with_reducible repeat(first | apply Kd.R_alloc | apply Kd.R_drewN | apply Kd.R_drew));exact HO520.out) hg hat);have n1_:=Aside0.mk (hb);have n2_:=Aside0.mk ((show Kd.C (Kd.int .i64) w20 Ao16 y521.length y521 from by rw [Ny521.out];exact Kd.C_take (m:=((ji6) : Int).toNat) ((Kd.R_reads' (Kd.R_after (ok:=(fun _=>True)) (by(with_reducible repeat(first | apply Kd.R_alloc | apply Kd.R_drewN | apply Kd.R_drew));exact HO520.out) hg hat)).2.2) KL15.out));have n3_:=Aside0.mk ((show Kd.C (Kd.int .i64) w20 A19 y531.length y531 from by rw [Ny531.out,KA19.out];exact Kd.C_drop (m:=((ji6) : Int).toNat) (c:=co16) ((Kd.R_reads' (Kd.R_after (ok:=(fun _=>True)) (by(with_reducible repeat(first | apply Kd.R_alloc | apply Kd.R_drewN | apply Kd.R_drew));exact HO520.out) hg hat)).2.2) KL19.out ((Kd.R_reads' (Kd.R_after (ok:=(fun _=>True)) (by(with_reducible repeat(first | apply Kd.R_alloc | apply Kd.R_drewN | apply Kd.R_drew));exact HO520.out) hg hat)).2.1)));have n4_:=Aside0.mk (ho);clear HO520;clear HB;clear HR524;clear HR534;clear HO530;have HO520:=n0_;have HB:=n1_;have HR524:=n2_;have HR534:=n3_;have HO537:=n4_;clear n0_ n1_ n2_ n3_ n4_;clear ho hb hg hat))
 repeat(go_quiet (first |(go_at_call 51;(with_reducible refine(ih k (by omega) (wrap64 (a0 - 1)) (wrap64 (Int.tdiv a1 a0)) t518 _ A4.out).mono ?_);rintro e w14 ⟨v519,rfl,ho0,hb⟩;have n0_:=Aside0.mk (Kd.R_lower ho0 (bwZ (by repeat(first |(with_reducible first | exact HB.out | apply bwA | apply bwN | apply bw1) | exact HB.out))));have n1_:=Aside0.mk (bwT (by repeat(first |(with_reducible first | exact HB.out | apply bwA | apply bwN | apply bw1) | exact HB.out)) hb);clear HB;have HO520:=n0_;have HB:=n1_;clear n0_ n1_;(try clear hb);(try clear hb2);(try clear hk);(try clear hi);(try clear ho0);obtain ⟨Ao16,co16,eo16⟩:=Kd.R_slice HO520.out;subst eo16;have q15 :((ji6) : Int) ≤((t518.length : Int) : Int):=of_decide_eq_true (by first |(with_reducible assumption) | assumption);obtain ⟨i015,hi015,_,hsz15,_⟩:=info_parts info3;have hroom15 : t518.length≤co16:=(Kd.R_reads' HO520.out).2.1;have hC15 : Kd.C (Kd.int .i64) _ Ao16 t518.length t518:=(Kd.R_reads' HO520.out).2.2;have hcut15:=cut_to (P:=Try.prog) 22 3 .i64 Try.underlying22 hi015 Ao16 t518.length co16 (ji6) (of_decide_eq_true (by first |(with_reducible assumption) | assumption)) q15 hroom15;have hr15:=Kd.C_take (m:=((ji6) : Int).toNat) hC15 (by omega);have hy15 : y521.length =((ji6) : Int).toNat:=(by rw [Ny521.out,List.length_take];omega);rw [← Ny521.out] at hr15;rw [← hy15] at hcut15;have HR524:=Aside0.mk hr15;have HC524:=Aside0.mk (show y521.length≤co16 from by omega);clear hr15 hC15 hroom15 hi015 hsz15;have KY15:=Aside0.mk hy15;clear hy15;have KL15:=Aside0.mk (show((ji6) : Int).toNat≤t518.length from by omega);replace q15:=eq_true q15) |((with_reducible refine gate_builtin (b:=.append) (xs:=#[.tmp 28,.tmp 31]) rfl ?_);at_builtin;refine Kd.R_append_rows (Kd.int .i64) (w0:=w) w.heap.size rfl (.tmp 28) (.tmp 31) 22 3 (.int .i64 0) 8 rfl Try.underlying22 info3 rfl (by decide) (by omega) (.slice none 0 0) ([] : List Int) y521 _ _ _ (fun k_=>some k_ ≠(.slice Ao16 t518.length co16 : Value).ownBlock) (fun _=>False) rfl rfl ?aO ?aR (fun _ _ h=>h) (fun _ h=>h.elim) ?aF ?aB ?aS ?aL ?_;(case aR=>repeat(first | exact(by repeat(first |(with_reducible exact HR524.out) |(with_reducible refine Kd.C_alloc ?_ _) |(with_reducible refine Kd.C_drewN ?_ _) |(with_reducible refine Kd.C_drew ?_) | exact HR524.out)) |(with_reducible refine Kd.C_alloc ?_ _) |(with_reducible refine Kd.C_drewN ?_ _) |(with_reducible refine Kd.C_drew ?_)));(case aB=>exact(by repeat(first |(with_reducible first | exact HB.out | apply bwA | apply bwN | apply bw1) | exact HB.out)));(case aF=>exact(fun k_ hk=>Kd.fresh' (Kd.R_lt (by(with_reducible repeat(first | apply Kd.R_alloc | apply Kd.R_drewN | apply Kd.R_drew));exact HO520.out)) k_ hk));(case aO=>exact((Kd.R_nil _ _ _ _ (fun k_=>some k_ ≠(.slice Ao16 t518.length co16 : Value).ownBlock))));(case aS=>exact(bwZ (by repeat(first |(with_reducible first | exact HB.out | apply bwA | apply bwN | apply bw1) | exact HB.out))));(case aL=>have:=LMc9.out;omega);intro v526 w17 ho hb hg hat;rw [← Ny525.out] at ho;have n0_:=Aside0.mk (Kd.R_after (Kd.R_apart_nil (by(with_reducible repeat(first | apply Kd.R_alloc | apply Kd.R_drewN | apply Kd.R_drew));exact HO520.out)) hg hat);have n1_:=Aside0.mk (hb);have n2_:=Aside0.mk ((show Kd.C (Kd.int .i64) w17 Ao16 y521.length y521 from by rw [Ny521.out];exact Kd.C_take (m:=((ji6) : Int).toNat) ((Kd.R_reads' (Kd.R_after (Kd.R_apart_nil (by(with_reducible repeat(first | apply Kd.R_alloc | apply Kd.R_drewN | apply Kd.R_drew));exact HO520.out)) hg hat)).2.2) KL15.out));have n3_:=Aside0.mk (ho);clear HO520;clear HB;clear HR524;have HO520:=n0_;have HB:=n1_;have HR524:=n2_;have HO527:=n3_;clear n0_ n1_ n2_ n3_;clear ho hb hg hat) |((with_reducible refine gate_builtin (b:=.append) (xs:=#[.tmp 33,.tmp 35]) rfl ?_);at_builtin;refine Kd.R_append (Kd.int .i64) (w0:=w) w.heap.size rfl (.tmp 33) (.tmp 35) 22 3 (.int .i64 0) 8 rfl Try.underlying22 info3 rfl (by decide) (by omega) v526 y525 a0 [.int .i64 a0] (fun k_=>some k_ ≠(.slice Ao16 t518.length co16 : Value).ownBlock) (fun _=>False) rfl rfl ?aP (fun _ hk=>hk.elim) ?aF ?aO ?aB ?aS ?aL ?_;(case aP=>exact rfl);(case aB=>exact(by repeat(first |(with_reducible first | exact HB.out | apply bwA | apply bwN | apply bw1) | exact HB.out)));(case aF=>exact(fun k_ hk=>Kd.fresh' (Kd.R_lt (by(with_reducible repeat(first | apply Kd.R_alloc | apply Kd.R_drewN | apply Kd.R_drew));exact HO520.out)) k_ hk));(case aO=>exact(by(with_reducible repeat(first | apply Kd.R_alloc | apply Kd.R_drewN | apply Kd.R_drew));exact HO527.out));(case aS=>exact(bwZ (by repeat(first |(with_reducible first | exact HB.out | apply bwA | apply bwN | apply bw1) | exact HB.out))));(case aL=>have:=LMc10.out;omega);intro v529 w18 ho hb hg hat;rw [← Ny528.out] at ho;have n0_:=Aside0.mk (Kd.R_after (ok:=(fun _=>True)) (by(with_reducible repeat(first | apply Kd.R_alloc | apply Kd.R_drewN | apply Kd.R_drew));exact HO520.out) hg hat);have n1_:=Aside0.mk (hb);have n2_:=Aside0.mk ((show Kd.C (Kd.int .i64) w18 Ao16 y521.length y521 from by rw [Ny521.out];exact Kd.C_take (m:=((ji6) : Int).toNat) ((Kd.R_reads' (Kd.R_after (ok:=(fun _=>True)) (by(with_reducible repeat(first | apply Kd.R_alloc | apply Kd.R_drewN | apply Kd.R_drew));exact HO520.out) hg hat)).2.2) KL15.out));have n3_:=Aside0.mk (ho);clear HO520;clear HB;clear HR524;clear HO527;have HO520:=n0_;have HB:=n1_;have HR524:=n2_;have HO530:=n3_;clear n0_ n1_ n2_ n3_;clear ho hb hg hat;have q19 :((ji6) : Int) ≤((t518.length : Int) : Int):=of_decide_eq_true (by first |(with_reducible assumption) | assumption);obtain ⟨i019,hi019,_,hsz19,_⟩:=info_parts info3;have hroom19 : t518.length≤co16:=(Kd.R_reads' HO520.out).2.1;have hC19 : Kd.C (Kd.int .i64) _ Ao16 t518.length t518:=(Kd.R_reads' HO520.out).2.2;have q019 :(0 : Int) ≤((ji6) : Int):=of_decide_eq_true (by first |(with_reducible assumption) | assumption);have hcut19:=cut_from (P:=Try.prog) 22 3 .i64 Try.underlying22 hi019 1 hsz19 Ao16 t518.length co16 (ji6) q019 q19;have hr19:=Kd.C_drop (m:=((ji6) : Int).toNat) (c:=co16) hC19 (by omega) hroom19;obtain ⟨A19,hA19⟩ : ∃ A1,A1 =(if co16 =((ji6) : Int).toNat then Ao16 else(Ao16 : Option Addr).map (·.add (((ji6) : Int).toNat * 1))):=⟨_,rfl⟩;obtain ⟨c19,hc19⟩ : ∃ c1,c1 = co16 - ((ji6) : Int).toNat:=⟨_,rfl⟩;have hy19 : y531.length = t518.length - ((ji6) : Int).toNat:=(by rw [Ny531.out,List.length_drop] <;> omega);rw [show(t518).drop ((ji6) : Int).toNat = y531 from Ny531.out.symm] at hr19;replace hr19 : Kd.C (Kd.int .i64) _ A19 y531.length y531:=(by rw [hA19];exact hr19);rw [← hy19,← hA19,← hc19] at hcut19;have HR534:=Aside0.mk hr19;have HC534:=Aside0.mk (show y531.length≤c19 from by rw [hy19,hc19];exact Nat.sub_le_sub_right hroom19 _);clear hr19 hC19 hroom19 hi019 hsz19 hc19;have KY19:=Aside0.mk hy19;have KA19:=Aside0.mk hA19;clear hy19 hA19;have KL19:=Aside0.mk (show((ji6) : Int).toNat≤t518.length from by omega);replace q19:=eq_true q19) |((with_reducible refine gate_builtin (b:=.append) (xs:=#[.tmp 37,.tmp 40]) rfl ?_);at_builtin;refine Kd.R_append_rows (Kd.int .i64) (w0:=w) w.heap.size rfl (.tmp 37) (.tmp 40) 22 3 (.int .i64 0) 8 rfl Try.underlying22 info3 rfl (by decide) (by omega) v529 y528 y531 _ _ _ (fun k_=>some k_ ≠(.slice Ao16 t518.length co16 : Value).ownBlock) (fun _=>False) rfl rfl ?aO ?aR (fun _ _ h=>h) (fun _ h=>h.elim) ?aF ?aB ?aS ?aL ?_;(case aR=>repeat(first | exact(by repeat(first |(with_reducible exact HR534.out) |(with_reducible refine Kd.C_alloc ?_ _) |(with_reducible refine Kd.C_drewN ?_ _) |(with_reducible refine Kd.C_drew ?_) | exact HR534.out)) |(with_reducible refine Kd.C_alloc ?_ _) |(with_reducible refine Kd.C_drewN ?_ _) |(with_reducible refine Kd.C_drew ?_)));(case aB=>exact(by repeat(first |(with_reducible first | exact HB.out | apply bwA | apply bwN | apply bw1) | exact HB.out)));(case aF=>exact(fun k_ hk=>Kd.fresh' (Kd.R_lt (by(with_reducible repeat(first | apply Kd.R_alloc | apply Kd.R_drewN | apply Kd.R_drew));exact HO520.out)) k_ hk));(case aO=>exact(by(with_reducible repeat(first | apply Kd.R_alloc | apply Kd.R_drewN | apply Kd.R_drew));exact HO530.out));(case aS=>exact(bwZ (by repeat(first |(with_reducible first | exact HB.out | apply bwA | apply bwN | apply bw1) | exact HB.out))));(case aL=>have:=LMc13.out;omega);intro v536 w20 ho hb hg hat;rw [← Ny535.out] at ho;have n0_:=Aside0.mk (Kd.R_after (ok:=(fun _=>True)) (by(with_reducible repeat(first | apply Kd.R_alloc | apply Kd.R_drewN | apply Kd.R_drew));exact HO520.out) hg hat);have n1_:=Aside0.mk (hb);have n2_:=Aside0.mk ((show Kd.C (Kd.int .i64) w20 Ao16 y521.length y521 from by rw [Ny521.out];exact Kd.C_take (m:=((ji6) : Int).toNat) ((Kd.R_reads' (Kd.R_after (ok:=(fun _=>True)) (by(with_reducible repeat(first | apply Kd.R_alloc | apply Kd.R_drewN | apply Kd.R_drew));exact HO520.out) hg hat)).2.2) KL15.out));have n3_:=Aside0.mk ((show Kd.C (Kd.int .i64) w20 A19 y531.length y531 from by rw [Ny531.out,KA19.out];exact Kd.C_drop (m:=((ji6) : Int).toNat) (c:=co16) ((Kd.R_reads' (Kd.R_after (ok:=(fun _=>True)) (by(with_reducible repeat(first | apply Kd.R_alloc | apply Kd.R_drewN | apply Kd.R_drew));exact HO520.out) hg hat)).2.2) KL19.out ((Kd.R_reads' (Kd.R_after (ok:=(fun _=>True)) (by(with_reducible repeat(first | apply Kd.R_alloc | apply Kd.R_drewN | apply Kd.R_drew));exact HO520.out) hg hat)).2.1)));have n4_:=Aside0.mk (ho);clear HO520;clear HB;clear HR524;clear HR534;clear HO530;have HO520:=n0_;have HB:=n1_;have HR524:=n2_;have HR534:=n3_;have HO537:=n4_;clear n0_ n1_ n2_ n3_ n4_;clear ho hb hg hat));try go_wp2_with (first |(go_at_call 51;(with_reducible refine(ih k (by omega) (wrap64 (a0 - 1)) (wrap64 (Int.tdiv a1 a0)) t518 _ A4.out).mono ?_);rintro e w14 ⟨v519,rfl,ho0,hb⟩;have n0_:=Aside0.mk (Kd.R_lower ho0 (bwZ (by repeat(first |(with_reducible first | exact HB.out | apply bwA | apply bwN | apply bw1) | exact HB.out))));have n1_:=Aside0.mk (bwT (by repeat(first |(with_reducible first | exact HB.out | apply bwA | apply bwN | apply bw1) | exact HB.out)) hb);clear HB;have HO520:=n0_;have HB:=n1_;clear n0_ n1_;(try clear hb);(try clear hb2);(try clear hk);(try clear hi);(try clear ho0);obtain ⟨Ao16,co16,eo16⟩:=Kd.R_slice HO520.out;subst eo16;have q15 :((ji6) : Int) ≤((t518.length : Int) : Int):=of_decide_eq_true (by first |(with_reducible assumption) | assumption);obtain ⟨i015,hi015,_,hsz15,_⟩:=info_parts info3;have hroom15 : t518.length≤co16:=(Kd.R_reads' HO520.out).2.1;have hC15 : Kd.C (Kd.int .i64) _ Ao16 t518.length t518:=(Kd.R_reads' HO520.out).2.2;have hcut15:=cut_to (P:=Try.prog) 22 3 .i64 Try.underlying22 hi015 Ao16 t518.length co16 (ji6) (of_decide_eq_true (by first |(with_reducible assumption) | assumption)) q15 hroom15;have hr15:=Kd.C_take (m:=((ji6) : Int).toNat) hC15 (by omega);have hy15 : y521.length =((ji6) : Int).toNat:=(by rw [Ny521.out,List.length_take];omega);rw [← Ny521.out] at hr15;rw [← hy15] at hcut15;have HR524:=Aside0.mk hr15;have HC524:=Aside0.mk (show y521.length≤co16 from by omega);clear hr15 hC15 hroom15 hi015 hsz15;have KY15:=Aside0.mk hy15;clear hy15;have KL15:=Aside0.mk (show((ji6) : Int).toNat≤t518.length from by omega);replace q15:=eq_true q15) |((with_reducible refine gate_builtin (b:=.append) (xs:=#[.tmp 28,.tmp 31]) rfl ?_);at_builtin;refine Kd.R_append_rows (Kd.int .i64) (w0:=w) w.heap.size rfl (.tmp 28) (.tmp 31) 22 3 (.int .i64 0) 8 rfl Try.underlying22 info3 rfl (by decide) (by omega) (.slice none 0 0) ([] : List Int) y521 _ _ _ (fun k_=>some k_ ≠(.slice Ao16 t518.length co16 : Value).ownBlock) (fun _=>False) rfl rfl ?aO ?aR (fun _ _ h=>h) (fun _ h=>h.elim) ?aF ?aB ?aS ?aL ?_;(case aR=>repeat(first | exact(by repeat(first |(with_reducible exact HR524.out) |(with_reducible refine Kd.C_alloc ?_ _) |(with_reducible refine Kd.C_drewN ?_ _) |(with_reducible refine Kd.C_drew ?_) | exact HR524.out)) |(with_reducible refine Kd.C_alloc ?_ _) |(with_reducible refine Kd.C_drewN ?_ _) |(with_reducible refine Kd.C_drew ?_)));(case aB=>exact(by repeat(first |(with_reducible first | exact HB.out | apply bwA | apply bwN | apply bw1) | exact HB.out)));(case aF=>exact(fun k_ hk=>Kd.fresh' (Kd.R_lt (by(with_reducible repeat(first | apply Kd.R_alloc | apply Kd.R_drewN | apply Kd.R_drew));exact HO520.out)) k_ hk));(case aO=>exact((Kd.R_nil _ _ _ _ (fun k_=>some k_ ≠(.slice Ao16 t518.length co16 : Value).ownBlock))));(case aS=>exact(bwZ (by repeat(first |(with_reducible first | exact HB.out | apply bwA | apply bwN | apply bw1) | exact HB.out))));(case aL=>have:=LMc9.out;omega);intro v526 w17 ho hb hg hat;rw [← Ny525.out] at ho;have n0_:=Aside0.mk (Kd.R_after (Kd.R_apart_nil (by(with_reducible repeat(first | apply Kd.R_alloc | apply Kd.R_drewN | apply Kd.R_drew));exact HO520.out)) hg hat);have n1_:=Aside0.mk (hb);have n2_:=Aside0.mk ((show Kd.C (Kd.int .i64) w17 Ao16 y521.length y521 from by rw [Ny521.out];exact Kd.C_take (m:=((ji6) : Int).toNat) ((Kd.R_reads' (Kd.R_after (Kd.R_apart_nil (by(with_reducible repeat(first | apply Kd.R_alloc | apply Kd.R_drewN | apply Kd.R_drew));exact HO520.out)) hg hat)).2.2) KL15.out));have n3_:=Aside0.mk (ho);clear HO520;clear HB;clear HR524;have HO520:=n0_;have HB:=n1_;have HR524:=n2_;have HO527:=n3_;clear n0_ n1_ n2_ n3_;clear ho hb hg hat) |((with_reducible refine gate_builtin (b:=.append) (xs:=#[.tmp 33,.tmp 35]) rfl ?_);at_builtin;refine Kd.R_append (Kd.int .i64) (w0:=w) w.heap.size rfl (.tmp 33) (.tmp 35) 22 3 (.int .i64 0) 8 rfl Try.underlying22 info3 rfl (by decide) (by omega) v526 y525 a0 [.int .i64 a0] (fun k_=>some k_ ≠(.slice Ao16 t518.length co16 : Value).ownBlock) (fun _=>False) rfl rfl ?aP (fun _ hk=>hk.elim) ?aF ?aO ?aB ?aS ?aL ?_;(case aP=>exact rfl);(case aB=>exact(by repeat(first |(with_reducible first | exact HB.out | apply bwA | apply bwN | apply bw1) | exact HB.out)));(case aF=>exact(fun k_ hk=>Kd.fresh' (Kd.R_lt (by(with_reducible repeat(first | apply Kd.R_alloc | apply Kd.R_drewN | apply Kd.R_drew));exact HO520.out)) k_ hk));(case aO=>exact(by(with_reducible repeat(first | apply Kd.R_alloc | apply Kd.R_drewN | apply Kd.R_drew));exact HO527.out));(case aS=>exact(bwZ (by repeat(first |(with_reducible first | exact HB.out | apply bwA | apply bwN | apply bw1) | exact HB.out))));(case aL=>have:=LMc10.out;omega);intro v529 w18 ho hb hg hat;rw [← Ny528.out] at ho;have n0_:=Aside0.mk (Kd.R_after (ok:=(fun _=>True)) (by(with_reducible repeat(first | apply Kd.R_alloc | apply Kd.R_drewN | apply Kd.R_drew));exact HO520.out) hg hat);have n1_:=Aside0.mk (hb);have n2_:=Aside0.mk ((show Kd.C (Kd.int .i64) w18 Ao16 y521.length y521 from by rw [Ny521.out];exact Kd.C_take (m:=((ji6) : Int).toNat) ((Kd.R_reads' (Kd.R_after (ok:=(fun _=>True)) (by(with_reducible repeat(first | apply Kd.R_alloc | apply Kd.R_drewN | apply Kd.R_drew));exact HO520.out) hg hat)).2.2) KL15.out));have n3_:=Aside0.mk (ho);clear HO520;clear HB;clear HR524;clear HO527;have HO520:=n0_;have HB:=n1_;have HR524:=n2_;have HO530:=n3_;clear n0_ n1_ n2_ n3_;clear ho hb hg hat;have q19 :((ji6) : Int) ≤((t518.length : Int) : Int):=of_decide_eq_true (by first |(with_reducible assumption) | assumption);obtain ⟨i019,hi019,_,hsz19,_⟩:=info_parts info3;have hroom19 : t518.length≤co16:=(Kd.R_reads' HO520.out).2.1;have hC19 : Kd.C (Kd.int .i64) _ Ao16 t518.length t518:=(Kd.R_reads' HO520.out).2.2;have q019 :(0 : Int) ≤((ji6) : Int):=of_decide_eq_true (by first |(with_reducible assumption) | assumption);have hcut19:=cut_from (P:=Try.prog) 22 3 .i64 Try.underlying22 hi019 1 hsz19 Ao16 t518.length co16 (ji6) q019 q19;have hr19:=Kd.C_drop (m:=((ji6) : Int).toNat) (c:=co16) hC19 (by omega) hroom19;obtain ⟨A19,hA19⟩ : ∃ A1,A1 =(if co16 =((ji6) : Int).toNat then Ao16 else(Ao16 : Option Addr).map (·.add (((ji6) : Int).toNat * 1))):=⟨_,rfl⟩;obtain ⟨c19,hc19⟩ : ∃ c1,c1 = co16 - ((ji6) : Int).toNat:=⟨_,rfl⟩;have hy19 : y531.length = t518.length - ((ji6) : Int).toNat:=(by rw [Ny531.out,List.length_drop] <;> omega);rw [show(t518).drop ((ji6) : Int).toNat = y531 from Ny531.out.symm] at hr19;replace hr19 : Kd.C (Kd.int .i64) _ A19 y531.length y531:=(by rw [hA19];exact hr19);rw [← hy19,← hA19,← hc19] at hcut19;have HR534:=Aside0.mk hr19;have HC534:=Aside0.mk (show y531.length≤c19 from by rw [hy19,hc19];exact Nat.sub_le_sub_right hroom19 _);clear hr19 hC19 hroom19 hi019 hsz19 hc19;have KY19:=Aside0.mk hy19;have KA19:=Aside0.mk hA19;clear hy19 hA19;have KL19:=Aside0.mk (show((ji6) : Int).toNat≤t518.length from by omega);replace q19:=eq_true q19) |((with_reducible refine gate_builtin (b:=.append) (xs:=#[.tmp 37,.tmp 40]) rfl ?_);at_builtin;refine Kd.R_append_rows (Kd.int .i64) (w0:=w) w.heap.size rfl (.tmp 37) (.tmp 40) 22 3 (.int .i64 0) 8 rfl Try.underlying22 info3 rfl (by decide) (by omega) v529 y528 y531 _ _ _ (fun k_=>some k_ ≠(.slice Ao16 t518.length co16 : Value).ownBlock) (fun _=>False) rfl rfl ?aO ?aR (fun _ _ h=>h) (fun _ h=>h.elim) ?aF ?aB ?aS ?aL ?_;(case aR=>repeat(first | exact(by repeat(first |(with_reducible exact HR534.out) |(with_reducible refine Kd.C_alloc ?_ _) |(with_reducible refine Kd.C_drewN ?_ _) |(with_reducible refine Kd.C_drew ?_) | exact HR534.out)) |(with_reducible refine Kd.C_alloc ?_ _) |(with_reducible refine Kd.C_drewN ?_ _) |(with_reducible refine Kd.C_drew ?_)));(case aB=>exact(by repeat(first |(with_reducible first | exact HB.out | apply bwA | apply bwN | apply bw1) | exact HB.out)));(case aF=>exact(fun k_ hk=>Kd.fresh' (Kd.R_lt (by(with_reducible repeat(first | apply Kd.R_alloc | apply Kd.R_drewN | apply Kd.R_drew));exact HO520.out)) k_ hk));(case aO=>exact(by(with_reducible repeat(first | apply Kd.R_alloc | apply Kd.R_drewN | apply Kd.R_drew));exact HO530.out));(case aS=>exact(bwZ (by repeat(first |(with_reducible first | exact HB.out | apply bwA | apply bwN | apply bw1) | exact HB.out))));(case aL=>have:=LMc13.out;omega);intro v536 w20 ho hb hg hat;rw [← Ny535.out] at ho;have n0_:=Aside0.mk (Kd.R_after (ok:=(fun _=>True)) (by(with_reducible repeat(first | apply Kd.R_alloc | apply Kd.R_drewN | apply Kd.R_drew));exact HO520.out) hg hat);have n1_:=Aside0.mk (hb);have n2_:=Aside0.mk ((show Kd.C (Kd.int .i64) w20 Ao16 y521.length y521 from by rw [Ny521.out];exact Kd.C_take (m:=((ji6) : Int).toNat) ((Kd.R_reads' (Kd.R_after (ok:=(fun _=>True)) (by(with_reducible repeat(first | apply Kd.R_alloc | apply Kd.R_drewN | apply Kd.R_drew));exact HO520.out) hg hat)).2.2) KL15.out));have n3_:=Aside0.mk ((show Kd.C (Kd.int .i64) w20 A19 y531.length y531 from by rw [Ny531.out,KA19.out];exact Kd.C_drop (m:=((ji6) : Int).toNat) (c:=co16) ((Kd.R_reads' (Kd.R_after (ok:=(fun _=>True)) (by(with_reducible repeat(first | apply Kd.R_alloc | apply Kd.R_drewN | apply Kd.R_drew));exact HO520.out) hg hat)).2.2) KL19.out ((Kd.R_reads' (Kd.R_after (ok:=(fun _=>True)) (by(with_reducible repeat(first | apply Kd.R_alloc | apply Kd.R_drewN | apply Kd.R_drew));exact HO520.out) hg hat)).2.1)));have n4_:=Aside0.mk (ho);clear HO520;clear HB;clear HR524;clear HR534;clear HO530;have HO520:=n0_;have HB:=n1_;have HR524:=n2_;have HR534:=n3_;have HO537:=n4_;clear n0_ n1_ n2_ n3_ n4_;clear ho hb hg hat)))
 go_ret
 exact⟨_,by first | rfl |(simp [errW_none,errW_some] <;> rfl) |(simp only [← hji6];first | rfl |(simp [errW_none,errW_some] <;> rfl)) |(simp [*,errW_none,errW_some] <;> rfl),by(with_reducible repeat(first | apply Kd.R_alloc | apply Kd.R_drewN | apply Kd.R_drew));exact Kd.R_mono HO537.out (fun _ hk=>trivial),by repeat(first |(with_reducible first | exact HB.out | apply bwA | apply bwN | apply bw1) | exact HB.out)⟩

mutual
def w10_TurnsOwn.j0 : Nat → Int → Int → List Int → List Int → Bool → Option (Bool)
 | 0,_,_,_,_,_=>none
 | k + 1,x0,x1,x5,x7,x59=>if x59 = true then(some false) else(w10_TurnsOwn.l0 k x0 x1 x5 x7 0)
def w10_TurnsOwn.l0 : Nat → Int → Int → List Int → List Int → Int → Option (Bool)
 | 0,_,_,_,_,_=>none
 | k + 1,x0,x1,x5,x7,x12=>if x12 < (x5.length : Int) then(if 0≤x12 then(w10_TurnsOwn.l0 k x0 x1 (x5.set (x12 : Int).toNat (-1)) x7 (wrap64 (x12 + 1))) else(none)) else((turns_Order.f x0 x1).bind fun bt644=>(if bt644.2 = 0 then((w10_ints.f k bt644.1 x7).bind fun t648=>(if t648 = true then((q10_Order.f k x0 x1).bind fun t649=>((w10_ints.f k bt644.1 t649).bind fun t652=>(if t652 = true then((w10_awake.f k).bind fun t653=>(some t653)) else(some false)))) else(some false))) else(some false)))
end
def w10_TurnsOwn.f (k : Nat) (a0 : Int) (a1 : Int) : Option (Bool):=(w10_mod.f a0 19).bind fun t626=>((q10_Factorial.f k t626).bind fun t627=>((w10_mod.f a1 t627).bind fun t628=>((turns_Order.f t626 t628).bind fun bt629=>((w10_list.f bt629.1).bind fun t633=>((turns_OrderAt.f k bt629.1).bind fun bt636=>((turns_Turn.f k bt629.1).bind fun bt638=>(if bt629.2 = 0 then(if bt636.2 = 0 then(if bt638.2.2 = 0 then(if bt636.1 = t628 then((w10_ints.f k bt629.1 t633).bind fun t642=>(w10_TurnsOwn.j0 k t626 t628 bt629.1 t633 (!t642))) else(w10_TurnsOwn.j0 k t626 t628 bt629.1 t633 true)) else(w10_TurnsOwn.j0 k t626 t628 bt629.1 t633 true)) else(w10_TurnsOwn.j0 k t626 t628 bt629.1 t633 true)) else(w10_TurnsOwn.j0 k t626 t628 bt629.1 t633 true))))))))
set_option maxHeartbeats 8000000 in
set_option maxRecDepth 100000 in
theorem w10_TurnsOwn.calls (k : Nat) (a0 : Int) (a1 : Int) (r : Bool) (w : World) (h : w10_TurnsOwn.f k a0 a1 = some r) :
  Calls Try.prog 15 #[.int .i64 a0,.int .i64 a1] w fun e w'=>e = .returned (.bool r)∧Below w.heap.size w w':=by
 have hu45:=Try.underlying45
 have HB:=Aside0.mk (Below.refl w.heap.size w)
 have H :((w10_mod.f a0 19).bind fun t626=>((q10_Factorial.f k t626).bind fun t627=>((w10_mod.f a1 t627).bind fun t628=>((turns_Order.f t626 t628).bind fun bt629=>((w10_list.f bt629.1).bind fun t633=>((turns_OrderAt.f k bt629.1).bind fun bt636=>((turns_Turn.f k bt629.1).bind fun bt638=>(if bt629.2 = 0 then(if bt636.2 = 0 then(if bt638.2.2 = 0 then(if bt636.1 = t628 then((w10_ints.f k bt629.1 t633).bind fun t642=>(w10_TurnsOwn.j0 k t626 t628 bt629.1 t633 (!t642))) else(w10_TurnsOwn.j0 k t626 t628 bt629.1 t633 true)) else(w10_TurnsOwn.j0 k t626 t628 bt629.1 t633 true)) else(w10_TurnsOwn.j0 k t626 t628 bt629.1 t633 true)) else(w10_TurnsOwn.j0 k t626 t628 bt629.1 t633 true))))))))) = some r:=h
 clear h
 replace H:=Option.bind_eq_some_iff.mp H
 obtain ⟨t626,A30,H⟩:=H
 replace H :((q10_Factorial.f k t626).bind fun t627=>((w10_mod.f a1 t627).bind fun t628=>((turns_Order.f t626 t628).bind fun bt629=>((w10_list.f bt629.1).bind fun t633=>((turns_OrderAt.f k bt629.1).bind fun bt636=>((turns_Turn.f k bt629.1).bind fun bt638=>(if bt629.2 = 0 then(if bt636.2 = 0 then(if bt638.2.2 = 0 then(if bt636.1 = t628 then((w10_ints.f k bt629.1 t633).bind fun t642=>(w10_TurnsOwn.j0 k t626 t628 bt629.1 t633 (!t642))) else(w10_TurnsOwn.j0 k t626 t628 bt629.1 t633 true)) else(w10_TurnsOwn.j0 k t626 t628 bt629.1 t633 true)) else(w10_TurnsOwn.j0 k t626 t628 bt629.1 t633 true)) else(w10_TurnsOwn.j0 k t626 t628 bt629.1 t633 true)))))))) = some r:=H
 have A3:=Aside0.mk A30
 clear A30
 replace H:=Option.bind_eq_some_iff.mp H
 obtain ⟨t627,A40,H⟩:=H
 replace H :((w10_mod.f a1 t627).bind fun t628=>((turns_Order.f t626 t628).bind fun bt629=>((w10_list.f bt629.1).bind fun t633=>((turns_OrderAt.f k bt629.1).bind fun bt636=>((turns_Turn.f k bt629.1).bind fun bt638=>(if bt629.2 = 0 then(if bt636.2 = 0 then(if bt638.2.2 = 0 then(if bt636.1 = t628 then((w10_ints.f k bt629.1 t633).bind fun t642=>(w10_TurnsOwn.j0 k t626 t628 bt629.1 t633 (!t642))) else(w10_TurnsOwn.j0 k t626 t628 bt629.1 t633 true)) else(w10_TurnsOwn.j0 k t626 t628 bt629.1 t633 true)) else(w10_TurnsOwn.j0 k t626 t628 bt629.1 t633 true)) else(w10_TurnsOwn.j0 k t626 t628 bt629.1 t633 true))))))) = some r:=H
 have A4:=Aside0.mk A40
 clear A40
 replace H:=Option.bind_eq_some_iff.mp H
 obtain ⟨t628,A50,H⟩:=H
 replace H :((turns_Order.f t626 t628).bind fun bt629=>((w10_list.f bt629.1).bind fun t633=>((turns_OrderAt.f k bt629.1).bind fun bt636=>((turns_Turn.f k bt629.1).bind fun bt638=>(if bt629.2 = 0 then(if bt636.2 = 0 then(if bt638.2.2 = 0 then(if bt636.1 = t628 then((w10_ints.f k bt629.1 t633).bind fun t642=>(w10_TurnsOwn.j0 k t626 t628 bt629.1 t633 (!t642))) else(w10_TurnsOwn.j0 k t626 t628 bt629.1 t633 true)) else(w10_TurnsOwn.j0 k t626 t628 bt629.1 t633 true)) else(w10_TurnsOwn.j0 k t626 t628 bt629.1 t633 true)) else(w10_TurnsOwn.j0 k t626 t628 bt629.1 t633 true)))))) = some r:=H
 have A5:=Aside0.mk A50
 clear A50
 replace H:=Option.bind_eq_some_iff.mp H
 obtain ⟨⟨t629,t630⟩,A60,H⟩:=H
 replace H :((w10_list.f t629).bind fun t633=>((turns_OrderAt.f k t629).bind fun bt636=>((turns_Turn.f k t629).bind fun bt638=>(if t630 = 0 then(if bt636.2 = 0 then(if bt638.2.2 = 0 then(if bt636.1 = t628 then((w10_ints.f k t629 t633).bind fun t642=>(w10_TurnsOwn.j0 k t626 t628 t629 t633 (!t642))) else(w10_TurnsOwn.j0 k t626 t628 t629 t633 true)) else(w10_TurnsOwn.j0 k t626 t628 t629 t633 true)) else(w10_TurnsOwn.j0 k t626 t628 t629 t633 true)) else(w10_TurnsOwn.j0 k t626 t628 t629 t633 true))))) = some r:=H
 have A6:=Aside0.mk A60
 clear A60
 replace H:=Option.bind_eq_some_iff.mp H
 obtain ⟨t633,A70,H⟩:=H
 replace H :((turns_OrderAt.f k t629).bind fun bt636=>((turns_Turn.f k t629).bind fun bt638=>(if t630 = 0 then(if bt636.2 = 0 then(if bt638.2.2 = 0 then(if bt636.1 = t628 then((w10_ints.f k t629 t633).bind fun t642=>(w10_TurnsOwn.j0 k t626 t628 t629 t633 (!t642))) else(w10_TurnsOwn.j0 k t626 t628 t629 t633 true)) else(w10_TurnsOwn.j0 k t626 t628 t629 t633 true)) else(w10_TurnsOwn.j0 k t626 t628 t629 t633 true)) else(w10_TurnsOwn.j0 k t626 t628 t629 t633 true)))) = some r:=H
 have A7:=Aside0.mk A70
 clear A70
 replace H:=Option.bind_eq_some_iff.mp H
 obtain ⟨⟨t636,t637⟩,A80,H⟩:=H
 replace H :((turns_Turn.f k t629).bind fun bt638=>(if t630 = 0 then(if t637 = 0 then(if bt638.2.2 = 0 then(if t636 = t628 then((w10_ints.f k t629 t633).bind fun t642=>(w10_TurnsOwn.j0 k t626 t628 t629 t633 (!t642))) else(w10_TurnsOwn.j0 k t626 t628 t629 t633 true)) else(w10_TurnsOwn.j0 k t626 t628 t629 t633 true)) else(w10_TurnsOwn.j0 k t626 t628 t629 t633 true)) else(w10_TurnsOwn.j0 k t626 t628 t629 t633 true))) = some r:=H
 have A8:=Aside0.mk A80
 clear A80
 replace H:=Option.bind_eq_some_iff.mp H
 obtain ⟨⟨t638,t639,t640⟩,A90,H⟩:=H
 replace H :(if t630 = 0 then(if t637 = 0 then(if t640 = 0 then(if t636 = t628 then((w10_ints.f k t629 t633).bind fun t642=>(w10_TurnsOwn.j0 k t626 t628 t629 t633 (!t642))) else(w10_TurnsOwn.j0 k t626 t628 t629 t633 true)) else(w10_TurnsOwn.j0 k t626 t628 t629 t633 true)) else(w10_TurnsOwn.j0 k t626 t628 t629 t633 true)) else(w10_TurnsOwn.j0 k t626 t628 t629 t633 true)) = some r:=H
 have A9:=Aside0.mk A90
 clear A90
 have HC10:=Aside0.mk H
 clear H
 go_enter Try.func15,Try.ntmps15
 go_upto_region 7 with (first |((with_reducible refine gate_callee (f:=26) rfl ?_);refine goesL_ (some 16) rfl rfl Try.func26 (by kernel_rfl) rfl #[.int .i64 a0,.int .i64 19] rfl (by(try simp only [List.map_toArray,List.map_cons,List.map_nil]);first | done | rfl |(simp only [List.length_drop,List.length_take];rfl)) ?_;(with_reducible refine(w10_mod.calls a0 19 t626 _ A3.out).mono ?_);rintro e w' ⟨rfl,⟨nd,rfl⟩⟩;refine⟨_,rfl,?_⟩) |((with_reducible refine gate_callee (f:=29) rfl ?_);refine goesL_ (some 19) rfl rfl Try.func29 (by kernel_rfl) rfl #[.int .i64 t626] rfl (by(try simp only [List.map_toArray,List.map_cons,List.map_nil]);first | done | rfl |(simp only [List.length_drop,List.length_take];rfl)) ?_;(with_reducible refine(q10_Factorial.calls k t626 t627 _ A4.out).mono ?_);rintro e w' ⟨rfl,⟨nd,rfl⟩⟩;refine⟨_,rfl,?_⟩) |((with_reducible refine gate_callee (f:=26) rfl ?_);refine goesL_ (some 20) rfl rfl Try.func26 (by kernel_rfl) rfl #[.int .i64 a1,.int .i64 t627] rfl (by(try simp only [List.map_toArray,List.map_cons,List.map_nil]);first | done | rfl |(simp only [List.length_drop,List.length_take];rfl)) ?_;(with_reducible refine(w10_mod.calls a1 t627 t628 _ A5.out).mono ?_);rintro e w' ⟨rfl,⟨nd,rfl⟩⟩;refine⟨_,rfl,?_⟩) |((with_reducible refine gate_callee (f:=48) rfl ?_);refine goesL_ (some 24) rfl rfl Try.func48 (by kernel_rfl) rfl #[.int .i64 t626,.int .i64 t628] rfl (by(try simp only [List.map_toArray,List.map_cons,List.map_nil]);first | done | rfl |(simp only [List.length_drop,List.length_take];rfl)) ?_;(with_reducible refine(turns_Order.calls t626 t628 t629 t630 _ A6.out).mono ?_);rintro e w11 ⟨v631,rfl,ho0,hb⟩;refine⟨_,rfl,?_⟩;have n0_:=Aside0.mk (Kd.R_lower ho0 (bwZ (by repeat(first |(with_reducible first | exact HB.out | apply bwA | apply bwN | apply bw1) | exact HB.out))));have n1_:=Aside0.mk (bwT (by repeat(first |(with_reducible first | exact HB.out | apply bwA | apply bwN | apply bw1) | exact HB.out)) hb);clear HB;have HO632:=n0_;have HB:=n1_;clear n0_ n1_;(try clear hb);(try clear hb2);(try clear hk);(try clear hi);(try clear ho0);obtain ⟨Ao12,co12,eo12⟩:=Kd.R_slice HO632.out;subst eo12) |((with_reducible refine gate_callee (f:=16) rfl ?_);refine goesL_ (some 28) rfl rfl Try.func16 (by kernel_rfl) rfl #[.slice Ao12 t629.length co12] rfl (by(try simp only [List.map_toArray,List.map_cons,List.map_nil]);first | done | rfl |(simp only [List.length_drop,List.length_take];rfl)) ?_;(with_reducible refine(w10_list.calls _ _ t629 t633 _ ?side1 ?side2 A7.out).mono ?_);(case side1=>repeat(first | exact(Kd.R_reads' HO632.out).2.2 |(with_reducible refine Kd.C_alloc ?_ _) |(with_reducible refine Kd.C_drewN ?_ _) |(with_reducible refine Kd.C_drew ?_)));(case side2=>exact(Kd.R_reads' HO632.out).2.1);rintro e w13 ⟨v634,rfl,ho0,hb⟩;refine⟨_,rfl,?_⟩;have n0_:=Aside0.mk (Kd.R_elder' (by(with_reducible repeat(first | apply Kd.R_alloc | apply Kd.R_drewN | apply Kd.R_drew));exact HO632.out) (Kd.R_base ho0) hb);have n1_:=Aside0.mk (Kd.R_lower (Kd.R_new' ho0 (Kd.R_lt (by(with_reducible repeat(first | apply Kd.R_alloc | apply Kd.R_drewN | apply Kd.R_drew));exact HO632.out))) (bwZ (by repeat(first |(with_reducible first | exact HB.out | apply bwA | apply bwN | apply bw1) | exact HB.out))));have n2_:=Aside0.mk (bwT (by repeat(first |(with_reducible first | exact HB.out | apply bwA | apply bwN | apply bw1) | exact HB.out)) hb);clear HO632;clear HB;have HO632:=n0_;have HO635:=n1_;have HB:=n2_;clear n0_ n1_ n2_;(try clear hb);(try clear hb2);(try clear hk);(try clear hi);(try clear ho0)) |((with_reducible refine gate_callee (f:=49) rfl ?_);refine goesL_ (some 31) rfl rfl Try.func49 (by kernel_rfl) rfl #[.slice Ao12 t629.length co12] rfl (by(try simp only [List.map_toArray,List.map_cons,List.map_nil]);first | done | rfl |(simp only [List.length_drop,List.length_take];rfl)) ?_;(with_reducible refine(turns_OrderAt.calls k _ _ t629 t636 t637 _ ?side1 ?side2 A8.out).mono ?_);(case side1=>repeat(first | exact(Kd.R_reads' HO632.out).2.2 |(with_reducible refine Kd.C_alloc ?_ _) |(with_reducible refine Kd.C_drewN ?_ _) |(with_reducible refine Kd.C_drew ?_)));(case side2=>exact(Kd.R_reads' HO632.out).2.1);rintro e w' ⟨rfl,⟨nd,rfl⟩⟩;refine⟨_,rfl,?_⟩;(try(rw [drewN_self w13];generalize hq_ : World.drewN w13 _ = w13;have n0_ : Aside0 (Kd.R (Kd.int .i64) 3 w13 w.heap.size (fun k_=>some k_ ≠(v634 : Value).ownBlock) (.slice Ao12 t629.length co12) t629):=⟨by rw [← hq_];exact(by(with_reducible repeat(first | apply Kd.R_alloc | apply Kd.R_drewN | apply Kd.R_drew));exact Kd.R_mono HO632.out (fun _ hk=>hk.2))⟩;have n1_ : Aside0 (Kd.R (Kd.int .i64) 3 w13 w.heap.size (fun k_=>some k_ ≠(.slice Ao12 t629.length co12 : Value).ownBlock) v634 t633):=⟨by rw [← hq_];exact(by(with_reducible repeat(first | apply Kd.R_alloc | apply Kd.R_drewN | apply Kd.R_drew));exact Kd.R_mono HO635.out (fun _ hk=>hk.2))⟩;have n2_ : Aside0 (Below w.heap.size w w13):=⟨by rw [← hq_];exact(by repeat(first |(with_reducible first | exact HB.out | apply bwA | apply bwN | apply bw1) | exact HB.out))⟩;clear HO632 HO635 HB hq_;have HO632:=n0_;have HO635:=n1_;have HB:=n2_;clear n0_ n1_ n2_))) |((with_reducible refine gate_callee (f:=50) rfl ?_);refine goesL_ (some 36) rfl rfl Try.func50 (by kernel_rfl) rfl #[.slice Ao12 t629.length co12] rfl (by(try simp only [List.map_toArray,List.map_cons,List.map_nil]);first | done | rfl |(simp only [List.length_drop,List.length_take];rfl)) ?_;(with_reducible refine(turns_Turn.calls k _ _ t629 t638 t639 t640 _ ?side1 ?side2 A9.out).mono ?_);(case side1=>repeat(first | exact(Kd.R_reads' HO632.out).2.2 |(with_reducible refine Kd.C_alloc ?_ _) |(with_reducible refine Kd.C_drewN ?_ _) |(with_reducible refine Kd.C_drew ?_)));(case side2=>exact(Kd.R_reads' HO632.out).2.1);rintro e w14 ⟨rfl,hb⟩;refine⟨_,rfl,?_⟩;have n0_:=Aside0.mk (Kd.R_below (by(with_reducible repeat(first | apply Kd.R_alloc | apply Kd.R_drewN | apply Kd.R_drew));exact HO632.out) hb);have n1_:=Aside0.mk (Kd.R_below (by(with_reducible repeat(first | apply Kd.R_alloc | apply Kd.R_drewN | apply Kd.R_drew));exact HO635.out) hb);have n2_:=Aside0.mk (bwT (by repeat(first |(with_reducible first | exact HB.out | apply bwA | apply bwN | apply bw1) | exact HB.out)) hb);clear HO632;clear HO635;clear HB;have HO632:=n0_;have HO635:=n1_;have HB:=n2_;clear n0_ n1_ n2_;(try clear hb);(try clear hb2);(try clear hk);(try clear hi)) |((with_reducible refine gate_dst (N:=10) rfl ?_);refine box_event ?hg (N:=10) ?hd (cs:=#[.int .i64 0,.int .i64 0]) (t:=45) ?hr ?_;(case hd=>rfl);(case hg=>rfl);(case hr=>first |(go_simp;done) |(go_simp;rfl));intro gb641 hg w15 hbox hb;have n0_:=Aside0.mk (Kd.R_below (by(with_reducible repeat(first | apply Kd.R_alloc | apply Kd.R_drewN | apply Kd.R_drew));exact HO632.out) hb);have n1_:=Aside0.mk (Kd.R_below (by(with_reducible repeat(first | apply Kd.R_alloc | apply Kd.R_drewN | apply Kd.R_drew));exact HO635.out) hb);have n2_:=Aside0.mk (bwT (by repeat(first |(with_reducible first | exact HB.out | apply bwA | apply bwN | apply bw1) | exact HB.out)) hb);have n3_:=Aside0.mk (hbox);have n4_:=Aside0.mk ((by rw [hg];exact(bwZ (by repeat(first |(with_reducible first | exact HB.out | apply bwA | apply bwN | apply bw1) | exact HB.out))) : w.heap.size≤gb641));have n5_:=Aside0.mk ((by rw [hg];exact(bwZ (by repeat(first |(with_reducible first | exact HB.out | apply bwA | apply bwN | apply bw1) | exact HB.out))) : w.heap.size≤gb641));clear HO632;clear HO635;clear HB;have HO632:=n0_;have HO635:=n1_;have HB:=n2_;have BK641:=n3_;have GW641:=n4_;have GE641:=n5_;clear n0_ n1_ n2_ n3_ n4_ n5_;clear hb hbox hg;have hcz16_0 : w15.cell? ⟨gb641,0,none⟩ = some (.int .i64 0):=(bkC BK641.out 0).trans rfl;have hcz16_1 : w15.cell? ⟨gb641,1,none⟩ = some (.int .i64 0):=(bkC BK641.out 1).trans rfl;have hfz16_0:=bkF BK641.out 0;have hfz16_1:=bkF BK641.out 1))
 (try simp only [Act.put,List.setIfInBounds_toArray,List.set_cons_zero,List.set_cons_succ])
 go_cut [59] (fun v59 wc=>∃ (kq : Nat) (x59_9 : Bool),v59 = .bool x59_9∧Aside0 (w10_TurnsOwn.j0 kq t626 t628 t629 t633 x59_9 = some r)∧Aside0 (kq≤k)∧Aside0 (Kd.R (Kd.int .i64) 3 wc w.heap.size (fun k_=>some k_ ≠(v634 : Value).ownBlock) (.slice Ao12 t629.length co12) t629)∧Aside0 (Kd.R (Kd.int .i64) 3 wc w.heap.size (fun k_=>some k_ ≠((.slice Ao12 t629.length co12) : Value).ownBlock) v634 t633)∧Aside0 (wc.heap[gb641]? = some (.cells #[.int .i64 t638,.int .i64 t639] 45 (0,0)))∧Aside0 (Below w.heap.size w wc))
 case first =>
  have H:=HC10.out
  clear HC10
  by_cases c17 : t630 = 0
  rotate_left
  ·rw [if_neg c17] at H
   have c17b0 :(t630 == 0) = false:=beq_eq_false_iff_ne.mpr c17
   have c17b1 :(t630 != 0) = true:=bne_iff_ne.mpr c17
   (first | rw [c17b0] |(simp only [i64_w,i32_w];rw [c17b0]) | skip)
   have H':=Aside0.mk H
   clear H
   go_wp2
   go_meet
   exact⟨_,(true),(by first | rfl |(simp;done) |(simp [*];done)),H',⟨by first | omega | exact Nat.le_refl _⟩,⟨by(with_reducible repeat(first | apply Kd.R_alloc | apply Kd.R_drewN | apply Kd.R_drew));exact Kd.R_mono (Kd.R_far (p:=⟨gb641,1,none⟩) (Kd.R_far (p:=⟨gb641,0,none⟩) (Kd.R_types HO632.out BK641.out (by decide)) (fun _ hk=>hk.2) (.int .i64 t638)) (fun _ hk=>hk.2) (.int .i64 t639)) (fun _ hk=>by first | exact hk.1.2 | exact hk.1)⟩,⟨by(with_reducible repeat(first | apply Kd.R_alloc | apply Kd.R_drewN | apply Kd.R_drew));exact Kd.R_mono (Kd.R_far (p:=⟨gb641,1,none⟩) (Kd.R_far (p:=⟨gb641,0,none⟩) (Kd.R_types HO635.out BK641.out (by decide)) (fun _ hk=>hk.2) (.int .i64 t638)) (fun _ hk=>hk.2) (.int .i64 t639)) (fun _ hk=>by first | exact hk.1.2 | exact hk.1)⟩,⟨by(with_reducible repeat(first | refine bkN ?_ _ | refine bkD ?_ | refine bkA ?_ _));refine blk_put (cs:=#[.int .i64 t638,.int .i64 0]) ?_ 1 _ rfl;(with_reducible repeat(first | refine bkN ?_ _ | refine bkD ?_ | refine bkA ?_ _));refine blk_put (cs:=#[.int .i64 0,.int .i64 0]) ?_ 0 _ rfl;(with_reducible repeat(first | refine bkN ?_ _ | refine bkD ?_ | refine bkA ?_ _));exact BK641.out⟩,⟨by repeat(first |(with_reducible first | exact HB.out | apply bwA | apply bwN | apply bw1 | refine bwS ?_ GE641.out) | exact HB.out)⟩⟩
  rw [if_pos c17] at H
  have c17b0 :(t630 == 0) = true:=beq_iff_eq.mpr c17
  have c17b1 :(t630 != 0) = false:=bne_eq_false_iff_eq.mpr c17
  clear c17
  (first | rw [c17b0] |(simp only [i64_w,i32_w];rw [c17b0]) | skip)
  by_cases c18 : t637 = 0
  rotate_left
  ·rw [if_neg c18] at H
   have c18b0 :(t637 == 0) = false:=beq_eq_false_iff_ne.mpr c18
   have c18b1 :(t637 != 0) = true:=bne_iff_ne.mpr c18
   have H':=Aside0.mk H
   clear H
   go_wp2
   go_meet
   exact⟨_,(true),(by first | rfl |(simp;done) |(simp [*];done)),H',⟨by first | omega | exact Nat.le_refl _⟩,⟨by(with_reducible repeat(first | apply Kd.R_alloc | apply Kd.R_drewN | apply Kd.R_drew));exact Kd.R_mono (Kd.R_far (p:=⟨gb641,1,none⟩) (Kd.R_far (p:=⟨gb641,0,none⟩) (Kd.R_types HO632.out BK641.out (by decide)) (fun _ hk=>hk.2) (.int .i64 t638)) (fun _ hk=>hk.2) (.int .i64 t639)) (fun _ hk=>by first | exact hk.1.2 | exact hk.1)⟩,⟨by(with_reducible repeat(first | apply Kd.R_alloc | apply Kd.R_drewN | apply Kd.R_drew));exact Kd.R_mono (Kd.R_far (p:=⟨gb641,1,none⟩) (Kd.R_far (p:=⟨gb641,0,none⟩) (Kd.R_types HO635.out BK641.out (by decide)) (fun _ hk=>hk.2) (.int .i64 t638)) (fun _ hk=>hk.2) (.int .i64 t639)) (fun _ hk=>by first | exact hk.1.2 | exact hk.1)⟩,⟨by(with_reducible repeat(first | refine bkN ?_ _ | refine bkD ?_ | refine bkA ?_ _));refine blk_put (cs:=#[.int .i64 t638,.int .i64 0]) ?_ 1 _ rfl;(with_reducible repeat(first | refine bkN ?_ _ | refine bkD ?_ | refine bkA ?_ _));refine blk_put (cs:=#[.int .i64 0,.int .i64 0]) ?_ 0 _ rfl;(with_reducible repeat(first | refine bkN ?_ _ | refine bkD ?_ | refine bkA ?_ _));exact BK641.out⟩,⟨by repeat(first |(with_reducible first | exact HB.out | apply bwA | apply bwN | apply bw1 | refine bwS ?_ GE641.out) | exact HB.out)⟩⟩
  rw [if_pos c18] at H
  have c18b0 :(t637 == 0) = true:=beq_iff_eq.mpr c18
  have c18b1 :(t637 != 0) = false:=bne_eq_false_iff_eq.mpr c18
  clear c18
  by_cases c19 : t640 = 0
  rotate_left
  ·rw [if_neg c19] at H
   have c19b0 :(t640 == 0) = false:=beq_eq_false_iff_ne.mpr c19
   have c19b1 :(t640 != 0) = true:=bne_iff_ne.mpr c19
   have H':=Aside0.mk H
   clear H
   go_wp2
   go_meet
   exact⟨_,(true),(by first | rfl |(simp;done) |(simp [*];done)),H',⟨by first | omega | exact Nat.le_refl _⟩,⟨by(with_reducible repeat(first | apply Kd.R_alloc | apply Kd.R_drewN | apply Kd.R_drew));exact Kd.R_mono (Kd.R_far (p:=⟨gb641,1,none⟩) (Kd.R_far (p:=⟨gb641,0,none⟩) (Kd.R_types HO632.out BK641.out (by decide)) (fun _ hk=>hk.2) (.int .i64 t638)) (fun _ hk=>hk.2) (.int .i64 t639)) (fun _ hk=>by first | exact hk.1.2 | exact hk.1)⟩,⟨by(with_reducible repeat(first | apply Kd.R_alloc | apply Kd.R_drewN | apply Kd.R_drew));exact Kd.R_mono (Kd.R_far (p:=⟨gb641,1,none⟩) (Kd.R_far (p:=⟨gb641,0,none⟩) (Kd.R_types HO635.out BK641.out (by decide)) (fun _ hk=>hk.2) (.int .i64 t638)) (fun _ hk=>hk.2) (.int .i64 t639)) (fun _ hk=>by first | exact hk.1.2 | exact hk.1)⟩,⟨by(with_reducible repeat(first | refine bkN ?_ _ | refine bkD ?_ | refine bkA ?_ _));refine blk_put (cs:=#[.int .i64 t638,.int .i64 0]) ?_ 1 _ rfl;(with_reducible repeat(first | refine bkN ?_ _ | refine bkD ?_ | refine bkA ?_ _));refine blk_put (cs:=#[.int .i64 0,.int .i64 0]) ?_ 0 _ rfl;(with_reducible repeat(first | refine bkN ?_ _ | refine bkD ?_ | refine bkA ?_ _));exact BK641.out⟩,⟨by repeat(first |(with_reducible first | exact HB.out | apply bwA | apply bwN | apply bw1 | refine bwS ?_ GE641.out) | exact HB.out)⟩⟩
  rw [if_pos c19] at H
  have c19b0 :(t640 == 0) = true:=beq_iff_eq.mpr c19
  have c19b1 :(t640 != 0) = false:=bne_eq_false_iff_eq.mpr c19
  clear c19
  by_cases c20 : t636 = t628
  rotate_left
  ·rw [if_neg c20] at H
   have c20b0 :(t636 == t628) = false:=beq_eq_false_iff_ne.mpr c20
   have c20b1 :(t636 != t628) = true:=bne_iff_ne.mpr c20
   have H':=Aside0.mk H
   clear H
   go_wp2
   go_meet
   exact⟨_,(true),(by first | rfl |(simp;done) |(simp [*];done)),H',⟨by first | omega | exact Nat.le_refl _⟩,⟨by(with_reducible repeat(first | apply Kd.R_alloc | apply Kd.R_drewN | apply Kd.R_drew));exact Kd.R_mono (Kd.R_far (p:=⟨gb641,1,none⟩) (Kd.R_far (p:=⟨gb641,0,none⟩) (Kd.R_types HO632.out BK641.out (by decide)) (fun _ hk=>hk.2) (.int .i64 t638)) (fun _ hk=>hk.2) (.int .i64 t639)) (fun _ hk=>by first | exact hk.1.2 | exact hk.1)⟩,⟨by(with_reducible repeat(first | apply Kd.R_alloc | apply Kd.R_drewN | apply Kd.R_drew));exact Kd.R_mono (Kd.R_far (p:=⟨gb641,1,none⟩) (Kd.R_far (p:=⟨gb641,0,none⟩) (Kd.R_types HO635.out BK641.out (by decide)) (fun _ hk=>hk.2) (.int .i64 t638)) (fun _ hk=>hk.2) (.int .i64 t639)) (fun _ hk=>by first | exact hk.1.2 | exact hk.1)⟩,⟨by(with_reducible repeat(first | refine bkN ?_ _ | refine bkD ?_ | refine bkA ?_ _));refine blk_put (cs:=#[.int .i64 t638,.int .i64 0]) ?_ 1 _ rfl;(with_reducible repeat(first | refine bkN ?_ _ | refine bkD ?_ | refine bkA ?_ _));refine blk_put (cs:=#[.int .i64 0,.int .i64 0]) ?_ 0 _ rfl;(with_reducible repeat(first | refine bkN ?_ _ | refine bkD ?_ | refine bkA ?_ _));exact BK641.out⟩,⟨by repeat(first |(with_reducible first | exact HB.out | apply bwA | apply bwN | apply bw1 | refine bwS ?_ GE641.out) | exact HB.out)⟩⟩
  rw [if_pos c20] at H
  have c20b0 :(t636 == t628) = true:=beq_iff_eq.mpr c20
  have c20b1 :(t636 != t628) = false:=bne_eq_false_iff_eq.mpr c20
  clear c20
  replace H:=Option.bind_eq_some_iff.mp H
  obtain ⟨t642,A210,H⟩:=H
  replace H :(w10_TurnsOwn.j0 k t626 t628 t629 t633 (!t642)) = some r:=H
  have A21:=Aside0.mk A210
  clear A210
  have H':=Aside0.mk H
  clear H
  obtain ⟨Ao22,co22,eo22⟩:=Kd.R_slice HO635.out
  subst eo22
  go_wp2_with (first |(go_at_call 22;(with_reducible refine(w10_ints.calls k _ _ t629 _ _ t633 t642 _ ?side1 ?side2 ?side3 ?side4 A21.out).mono ?_);(case side1=>refine(Kd.R_reads' (e:=3) (base:=w.heap.size) (ok:=fun k_=>(True∧some k_ ≠(.slice Ao22 t633.length co22 : Value).ownBlock)) (n:=t629.length) (c:=co12) ?_).2.2;exact(by(with_reducible repeat(first | apply Kd.R_alloc | apply Kd.R_drewN | apply Kd.R_drew));exact(Kd.R_mono (Kd.R_far (p:=⟨gb641,1,none⟩) (Kd.R_far (p:=⟨gb641,0,none⟩) (Kd.R_types HO632.out BK641.out (by decide)) (fun _ hk=>hk.2) (.int .i64 t638)) (fun _ hk=>hk.2) (.int .i64 t639)) (fun _ h_=>by first | exact h_.1 | exact⟨trivial,h_.1⟩))));(case side2=>exact(Kd.R_reads' HO632.out).2.1);(case side3=>refine(Kd.R_reads' (e:=3) (base:=w.heap.size) (ok:=fun k_=>(True∧some k_ ≠(.slice Ao12 t629.length co12 : Value).ownBlock)) (n:=t633.length) (c:=co22) ?_).2.2;exact(by(with_reducible repeat(first | apply Kd.R_alloc | apply Kd.R_drewN | apply Kd.R_drew));exact(Kd.R_mono (Kd.R_far (p:=⟨gb641,1,none⟩) (Kd.R_far (p:=⟨gb641,0,none⟩) (Kd.R_types HO635.out BK641.out (by decide)) (fun _ hk=>hk.2) (.int .i64 t638)) (fun _ hk=>hk.2) (.int .i64 t639)) (fun _ h_=>by first | exact h_.1 | exact⟨trivial,h_.1⟩))));(case side4=>exact(Kd.R_reads' HO635.out).2.1);rintro e w' ⟨rfl,⟨nd,rfl⟩⟩))
  go_meet
  exact⟨_,(!t642),(by first | rfl |(simp;done) |(simp [*];done)),H',⟨by first | omega | exact Nat.le_refl _⟩,⟨by(with_reducible repeat(first | apply Kd.R_alloc | apply Kd.R_drewN | apply Kd.R_drew));exact Kd.R_mono (Kd.R_far (p:=⟨gb641,1,none⟩) (Kd.R_far (p:=⟨gb641,0,none⟩) (Kd.R_types HO632.out BK641.out (by decide)) (fun _ hk=>hk.2) (.int .i64 t638)) (fun _ hk=>hk.2) (.int .i64 t639)) (fun _ hk=>by first | exact hk.1.2 | exact hk.1)⟩,⟨by(with_reducible repeat(first | apply Kd.R_alloc | apply Kd.R_drewN | apply Kd.R_drew));exact Kd.R_mono (Kd.R_far (p:=⟨gb641,1,none⟩) (Kd.R_far (p:=⟨gb641,0,none⟩) (Kd.R_types HO635.out BK641.out (by decide)) (fun _ hk=>hk.2) (.int .i64 t638)) (fun _ hk=>hk.2) (.int .i64 t639)) (fun _ hk=>by first | exact hk.1.2 | exact hk.1)⟩,⟨by(with_reducible repeat(first | refine bkN ?_ _ | refine bkD ?_ | refine bkA ?_ _));refine blk_put (cs:=#[.int .i64 t638,.int .i64 0]) ?_ 1 _ rfl;(with_reducible repeat(first | refine bkN ?_ _ | refine bkD ?_ | refine bkA ?_ _));refine blk_put (cs:=#[.int .i64 0,.int .i64 0]) ?_ 0 _ rfl;(with_reducible repeat(first | refine bkN ?_ _ | refine bkD ?_ | refine bkA ?_ _));exact BK641.out⟩,⟨by repeat(first |(with_reducible first | exact HB.out | apply bwA | apply bwN | apply bw1 | refine bwS ?_ GE641.out) | exact HB.out)⟩⟩
 case rest =>
  clear HC10
  try clear c1
  try clear c2
  try clear p2
  try clear c4
  try clear c5
  try clear c15
  try clear c16
  try clear c17
  try clear c17b0
  try clear c17b1
  try clear c18
  try clear c18b0
  try clear c18b1
  try clear c19
  try clear c19b0
  try clear c19b1
  try clear c20
  try clear c20b0
  try clear c20b1
  try clear hcz16_0
  try clear hcz16_1
  try clear hfz16_0
  try clear hfz16_1
  obtain ⟨kq,x59_9,rfl,HA,HJ9,HO_5,HO_7,BK641,HB⟩:=hcut
  cases kq with
  | zero=>exact absurd HA.out (by simp [w10_TurnsOwn.j0])
  | succ kj9 =>
   have H:=HA.out
   clear HA
   simp only [w10_TurnsOwn.j0] at H
   by_cases c23 : x59_9 = true
   ·subst c23
    have H1 :(some false) = some r:=by rw [if_pos rfl] at H;exact H
    clear H
    have H:=H1
    clear H1
    obtain rfl:=Option.some.inj H
    go_wp2
    go_ret
    exact⟨by first | rfl |(simp [errW_none,errW_some] <;> rfl) |(simp [*,errW_none,errW_some] <;> rfl),by repeat(first |(with_reducible first | exact HB.out | apply bwA | apply bwN | apply bw1 | refine bwS ?_ GE641.out) | exact HB.out)⟩
   replace c23:=Bool.eq_false_iff.mpr c23
   subst c23
   have H1 :(w10_TurnsOwn.l0 kj9 t626 t628 t629 t633 0) = some r:=by rw [if_neg (show ¬ (false = true) by decide)] at H;exact H
   clear H
   have H:=H1
   clear H1
   have H':=Aside0.mk H
   clear H
   go_wp2
   go_loopg [12] kj9 (fun kq v12 w'=>∃ (x5_2 : List Int) (x12_2 : Int),v12 = .int .i64 x12_2∧Aside0 (w10_TurnsOwn.l0 kq t626 t628 x5_2 t633 x12_2 = some r)∧Aside0 (kq≤kj9)∧Aside0 (Kd.R (Kd.int .i64) 3 w' w.heap.size (fun k_=>some k_ ≠(v634 : Value).ownBlock) (.slice Ao12 t629.length co12) x5_2)∧Aside0 (Kd.R (Kd.int .i64) 3 w' w.heap.size (fun k_=>some k_ ≠((.slice Ao12 t629.length co12) : Value).ownBlock) v634 t633)∧Aside0 (w'.heap[gb641]? = some (.cells #[.int .i64 t638,.int .i64 t639] 45 (0,0)))∧Aside0 (Below w.heap.size w w'))
   case atStart=>exact⟨(t629),(0),(by first | rfl |(simp;done) |(simp [*];done)),H',⟨Nat.le_refl _⟩,⟨by(with_reducible repeat(first | apply Kd.R_alloc | apply Kd.R_drewN | apply Kd.R_drew));exact HO_5.out⟩,⟨by(with_reducible repeat(first | apply Kd.R_alloc | apply Kd.R_drewN | apply Kd.R_drew));exact HO_7.out⟩,⟨by(with_reducible repeat(first | refine bkN ?_ _ | refine bkD ?_ | refine bkA ?_ _));exact BK641.out⟩,⟨by repeat(first |(with_reducible first | exact HB.out | apply bwA | apply bwN | apply bw1 | refine bwS ?_ GE641.out) | exact HB.out)⟩⟩
   clear H'
   try clear c1
   try clear c2
   try clear p2
   try clear c4
   try clear c5
   try clear c15
   try clear c16
   try clear c17
   try clear c17b0
   try clear c17b1
   try clear c18
   try clear c18b0
   try clear c18b1
   try clear c19
   try clear c19b0
   try clear c19b1
   try clear c20
   try clear c20b0
   try clear c20b1
   try clear c23
   try clear hcz16_0
   try clear hcz16_1
   try clear hfz16_0
   try clear hfz16_1
   try clear p2
   obtain ⟨x5_2,x12_2,rfl,HA,HK2,HO_5,HO_7,BK641,HB⟩:=hrel
   have hl5_2:=(Kd.R_reads' HO_5.out).1
   rw [hl5_2] at HO_5
   (try simp only [hl5_2])
   (try simp only [hl5_2] at BK641)
   (try simp only [hl5_2] at HO_7)
   cases gk with
   | zero=>exact absurd HA.out (by simp [w10_TurnsOwn.l0])
   | succ k2 =>
    have H:=HA.out
    clear HA
    simp only [w10_TurnsOwn.l0] at H
    by_cases c24 : x12_2 < (x5_2.length : Int)
    ·rw [if_pos c24] at H
     have c24b0 : decide (x12_2 < (x5_2.length : Int)) = true:=decide_eq_true c24
     clear c24
     by_cases c25 : 0≤x12_2
     rotate_left
     ·rw [if_neg c25] at H
      exact absurd H (by simp)
     rw [if_pos c25] at H
     have c25b0 : decide (0≤x12_2) = true:=decide_eq_true c25
     clear c25
     obtain ⟨y643,hy643⟩ : ∃ y_ : List Int,y_ =(x5_2.set (x12_2 : Int).toNat (-1)):=⟨_,rfl⟩
     replace H :(w10_TurnsOwn.l0 k2 t626 t628 y643 t633 (wrap64 (x12_2 + 1))) = some r:=by first |(rw [hy643];with_reducible exact H) |(have H2_:=(Option.bind_some _ _).symm.trans H;rw [hy643];with_reducible exact H2_) |(have H2_:=(Option.bind_some _ _).symm.trans H;with_reducible exact H2_) | with_reducible exact H |(rw [hy643];exact H) | exact H
     have Ny643:=Aside0.mk hy643
     clear hy643
     have H':=Aside0.mk H
     clear H
     have p26 : 0 ≤(x12_2 : Int):=of_decide_eq_true (by first |(with_reducible assumption) | assumption)
     have q26 :(x12_2 : Int) < ((x5_2.length : Int) : Int):=of_decide_eq_true (by first |(with_reducible assumption) | assumption)
     obtain ⟨go26,co26,eo26,gb26,gl26,cl26,HG26⟩:=Kd.R_form HO_5.out (by omega)
     (first | cases eo26 |(injection eo26 with ea_ en_ ec_;(first | subst ea_ |(injection ea_ with ea_;subst ea_));subst ec_;clear en_))
     have GB26:=Aside0.mk gb26
     have GG26:=Aside0.mk HG26
     clear gb26 gl26 HG26
     obtain ⟨hx26_0,hf26_0⟩:=Kd.R_celln 0 HO_5.out (x12_2 : Int) p26 q26
     replace p26:=eq_true p26
     replace q26:=eq_true q26
     have HP27:=Kd.R_putg HO_5.out (x12_2 : Int) (-1)
     go_wp2_with (first |((with_reducible refine gate_store (t:=3) (p:=68) rfl ?_);refine store_event (t:=3) (p:=68) (v:=?vo_w28) (w1:=(wr.setCell ⟨go26,(x12_2 : Int).toNat,none⟩ (.int .i64 (-1)))) ?hg ?ho ?hn ?hr ?_;(case ho=>rfl);(case hg=>rfl);(case hn=>rfl);(case hr=>first |(go_simp;done) |(go_simp;rfl));intro w28 hw;have hg : wr.grownBy w28 (some go26):=(by rw [hw];exact HP27.2);have hp_ : Kd.R (Kd.int .i64) 3 w28 w.heap.size (fun k_=>some k_ ≠(v634 : Value).ownBlock) (.slice (some ⟨go26,0,none⟩) x5_2.length co12) y643:=(by rw [hw,Ny643.out];exact HP27.1);clear HP27;have n0_:=Aside0.mk (hp_);have n1_:=Aside0.mk (Kd.R_after (v:=(.slice (some ⟨go26,0,none⟩) x5_2.length co12)) (v1:=(.slice (some ⟨go26,0,none⟩) x5_2.length co12)) (ok:=(fun _=>True)) (by(with_reducible repeat(first | apply Kd.R_alloc | apply Kd.R_drewN | apply Kd.R_drew));exact Kd.R_mono HO_7.out (fun _ hk=>⟨trivial,hk⟩)) hg (.inl rfl));have n2_:=Aside0.mk (blk_grown (g:=gb641) (o:=.cells #[.int .i64 t638,.int .i64 t639] 45 (0,0)) (by(with_reducible repeat(first | refine bkN ?_ _ | refine bkD ?_ | refine bkA ?_ _));exact BK641.out) hg (Kd.R_ne HO_5.out BK641.out (by decide)));have n3_:=Aside0.mk ((by rw [hw];exact bwS (HB.out) GB26.out : Below w.heap.size w w28));clear HO_5;clear HO_7;clear BK641;clear HB;have HO_5:=n0_;have HO_7:=n1_;have BK641:=n2_;have HB:=n3_;clear n0_ n1_ n2_ n3_;clear hg hw hp_))
     (try simp only [← hl5_2])
     go_roundg k2
     case measure=>have:=HJ9.out;have:=HK2.out;omega
     exact⟨(y643),(wrap64 (x12_2 + 1)),(by first | rfl |(simp;done) |(simp [*];done)),H',⟨by have:=HJ9.out;have:=HK2.out;omega⟩,⟨by(try simp only [hl5_2]);(with_reducible repeat(first | apply Kd.R_alloc | apply Kd.R_drewN | apply Kd.R_drew));exact HO_5.out⟩,⟨by(try simp only [hl5_2]);(with_reducible repeat(first | apply Kd.R_alloc | apply Kd.R_drewN | apply Kd.R_drew));exact Kd.R_mono HO_7.out (fun _ hk=>hk.2)⟩,⟨by(try simp only [hl5_2]);(with_reducible repeat(first | refine bkN ?_ _ | refine bkD ?_ | refine bkA ?_ _));exact BK641.out⟩,⟨by repeat(first |(with_reducible first | exact HB.out | apply bwA | apply bwN | apply bw1 | refine bwS ?_ GE641.out) | exact HB.out)⟩⟩
    rw [if_neg c24] at H
    have c24b0 : decide (x12_2 < (x5_2.length : Int)) = false:=decide_eq_false c24
    clear c24
    replace H:=Option.bind_eq_some_iff.mp H
    obtain ⟨⟨t644,t645⟩,A290,H⟩:=H
    replace H :(if t645 = 0 then((w10_ints.f k2 t644 t633).bind fun t648=>(if t648 = true then((q10_Order.f k2 t626 t628).bind fun t649=>((w10_ints.f k2 t644 t649).bind fun t652=>(if t652 = true then((w10_awake.f k2).bind fun t653=>(some t653)) else(some false)))) else(some false))) else(some false)) = some r:=H
    have A29:=Aside0.mk A290
    clear A290
    by_cases c30 : t645 = 0
    rotate_left
    ·rw [if_neg c30] at H
     have c30b0 :(t645 == 0) = false:=beq_eq_false_iff_ne.mpr c30
     have c30b1 :(t645 != 0) = true:=bne_iff_ne.mpr c30
     obtain rfl:=Option.some.inj H
     go_wp2_with (first |((with_reducible refine gate_callee (f:=48) rfl ?_);refine goesL_ (some 72) rfl rfl Try.func48 (by kernel_rfl) rfl #[.int .i64 t626,.int .i64 t628] rfl (by(try simp only [List.map_toArray,List.map_cons,List.map_nil]);first | done | rfl |(simp only [List.length_drop,List.length_take];rfl)) ?_;(with_reducible refine(turns_Order.calls t626 t628 t644 t645 _ A29.out).mono ?_);rintro e w51 ⟨v646,rfl,ho0,hb⟩;refine⟨_,rfl,?_⟩;have n0_:=Aside0.mk (Kd.R_elder' (by(with_reducible repeat(first | apply Kd.R_alloc | apply Kd.R_drewN | apply Kd.R_drew));exact HO_5.out) (Kd.R_base ho0) hb);have n1_:=Aside0.mk (Kd.R_elder' (by(with_reducible repeat(first | apply Kd.R_alloc | apply Kd.R_drewN | apply Kd.R_drew));exact HO_7.out) (Kd.R_base ho0) hb);have n2_:=Aside0.mk (Kd.R_lower (Kd.R_new' (Kd.R_new' ho0 (Kd.R_lt (by(with_reducible repeat(first | apply Kd.R_alloc | apply Kd.R_drewN | apply Kd.R_drew));exact HO_5.out))) (Kd.R_lt (by(with_reducible repeat(first | apply Kd.R_alloc | apply Kd.R_drewN | apply Kd.R_drew));exact HO_7.out))) (bwZ (by repeat(first |(with_reducible first | exact HB.out | apply bwA | apply bwN | apply bw1 | refine bwS ?_ GE641.out) | exact HB.out))));have n3_:=Aside0.mk (bkB (g:=gb641) (o:=.cells #[.int .i64 t638,.int .i64 t639] 45 (0,0)) (by(with_reducible repeat(first | refine bkN ?_ _ | refine bkD ?_ | refine bkA ?_ _));exact BK641.out) hb);have n4_:=Aside0.mk (bwT (by repeat(first |(with_reducible first | exact HB.out | apply bwA | apply bwN | apply bw1 | refine bwS ?_ GE641.out) | exact HB.out)) hb);clear HO_5;clear HO_7;clear BK641;clear HB;have HO_5:=n0_;have HO_7:=n1_;have HO647:=n2_;have BK641:=n3_;have HB:=n4_;clear n0_ n1_ n2_ n3_ n4_;(try clear hb);(try clear hb2);(try clear hk);(try clear hi);(try clear ho0)))
     go_ret
     exact⟨by first | rfl |(simp [errW_none,errW_some] <;> rfl) |(simp [*,errW_none,errW_some] <;> rfl),by repeat(first |(with_reducible first | exact HB.out | apply bwA | apply bwN | apply bw1 | refine bwS ?_ GE641.out) | exact HB.out)⟩
    rw [if_pos c30] at H
    have c30b0 :(t645 == 0) = true:=beq_iff_eq.mpr c30
    have c30b1 :(t645 != 0) = false:=bne_eq_false_iff_eq.mpr c30
    clear c30
    replace H:=Option.bind_eq_some_iff.mp H
    obtain ⟨t648,A310,H⟩:=H
    replace H :(if t648 = true then((q10_Order.f k2 t626 t628).bind fun t649=>((w10_ints.f k2 t644 t649).bind fun t652=>(if t652 = true then((w10_awake.f k2).bind fun t653=>(some t653)) else(some false)))) else(some false)) = some r:=H
    have A31:=Aside0.mk A310
    clear A310
    by_cases c32 : t648 = true
    rotate_left
    ·replace c32 := Bool.eq_false_iff.mpr c32
     subst c32
     have H1 :(some false) = some r:=by rw [if_neg (show ¬ (false = true) by decide)] at H;exact H
     clear H
     have H:=H1
     clear H1
     obtain rfl:=Option.some.inj H
     go_wp2_with (first |((with_reducible refine gate_callee (f:=48) rfl ?_);refine goesL_ (some 72) rfl rfl Try.func48 (by kernel_rfl) rfl #[.int .i64 t626,.int .i64 t628] rfl (by(try simp only [List.map_toArray,List.map_cons,List.map_nil]);first | done | rfl |(simp only [List.length_drop,List.length_take];rfl)) ?_;(with_reducible refine(turns_Order.calls t626 t628 t644 t645 _ A29.out).mono ?_);rintro e w48 ⟨v646,rfl,ho0,hb⟩;refine⟨_,rfl,?_⟩;have n0_:=Aside0.mk (Kd.R_elder' (by(with_reducible repeat(first | apply Kd.R_alloc | apply Kd.R_drewN | apply Kd.R_drew));exact HO_5.out) (Kd.R_base ho0) hb);have n1_:=Aside0.mk (Kd.R_elder' (by(with_reducible repeat(first | apply Kd.R_alloc | apply Kd.R_drewN | apply Kd.R_drew));exact HO_7.out) (Kd.R_base ho0) hb);have n2_:=Aside0.mk (Kd.R_lower (Kd.R_new' (Kd.R_new' ho0 (Kd.R_lt (by(with_reducible repeat(first | apply Kd.R_alloc | apply Kd.R_drewN | apply Kd.R_drew));exact HO_5.out))) (Kd.R_lt (by(with_reducible repeat(first | apply Kd.R_alloc | apply Kd.R_drewN | apply Kd.R_drew));exact HO_7.out))) (bwZ (by repeat(first |(with_reducible first | exact HB.out | apply bwA | apply bwN | apply bw1 | refine bwS ?_ GE641.out) | exact HB.out))));have n3_:=Aside0.mk (bkB (g:=gb641) (o:=.cells #[.int .i64 t638,.int .i64 t639] 45 (0,0)) (by(with_reducible repeat(first | refine bkN ?_ _ | refine bkD ?_ | refine bkA ?_ _));exact BK641.out) hb);have n4_:=Aside0.mk (bwT (by repeat(first |(with_reducible first | exact HB.out | apply bwA | apply bwN | apply bw1 | refine bwS ?_ GE641.out) | exact HB.out)) hb);clear HO_5;clear HO_7;clear BK641;clear HB;have HO_5:=n0_;have HO_7:=n1_;have HO647:=n2_;have BK641:=n3_;have HB:=n4_;clear n0_ n1_ n2_ n3_ n4_;(try clear hb);(try clear hb2);(try clear hk);(try clear hi);(try clear ho0);obtain ⟨Ao49,co49,eo49⟩:=Kd.R_slice HO647.out;subst eo49;obtain ⟨Ao50,co50,eo50⟩:=Kd.R_slice HO_7.out;subst eo50) |(go_at_call 22;(with_reducible refine(w10_ints.calls k2 _ _ t644 _ _ t633 false _ ?side1 ?side2 ?side3 ?side4 A31.out).mono ?_);(case side1=>repeat(first | exact(Kd.R_reads' HO647.out).2.2 |(with_reducible refine Kd.C_alloc ?_ _) |(with_reducible refine Kd.C_drewN ?_ _) |(with_reducible refine Kd.C_drew ?_)));(case side2=>exact(Kd.R_reads' HO647.out).2.1);(case side3=>repeat(first | exact(Kd.R_reads' HO_7.out).2.2 |(with_reducible refine Kd.C_alloc ?_ _) |(with_reducible refine Kd.C_drewN ?_ _) |(with_reducible refine Kd.C_drew ?_)));(case side4=>exact(Kd.R_reads' HO_7.out).2.1);rintro e w' ⟨rfl,⟨nd,rfl⟩⟩))
     go_ret
     exact⟨by first | rfl |(simp [errW_none,errW_some] <;> rfl) |(simp [*,errW_none,errW_some] <;> rfl),by repeat(first |(with_reducible first | exact HB.out | apply bwA | apply bwN | apply bw1 | refine bwS ?_ GE641.out) | exact HB.out)⟩
    subst c32
    have H1 :((q10_Order.f k2 t626 t628).bind fun t649=>((w10_ints.f k2 t644 t649).bind fun t652=>(if t652 = true then((w10_awake.f k2).bind fun t653=>(some t653)) else(some false)))) = some r:=by rw [if_pos rfl] at H;exact H
    clear H
    have H:=H1
    clear H1
    replace H:=Option.bind_eq_some_iff.mp H
    obtain ⟨t649,A330,H⟩:=H
    replace H :((w10_ints.f k2 t644 t649).bind fun t652=>(if t652 = true then((w10_awake.f k2).bind fun t653=>(some t653)) else(some false))) = some r:=H
    have A33:=Aside0.mk A330
    clear A330
    replace H:=Option.bind_eq_some_iff.mp H
    obtain ⟨t652,A340,H⟩:=H
    replace H :(if t652 = true then((w10_awake.f k2).bind fun t653=>(some t653)) else(some false)) = some r:=H
    have A34:=Aside0.mk A340
    clear A340
    by_cases c35 : t652 = true
    rotate_left
    ·replace c35 := Bool.eq_false_iff.mpr c35
     subst c35
     have H1 :(some false) = some r:=by rw [if_neg (show ¬ (false = true) by decide)] at H;exact H
     clear H
     have H:=H1
     clear H1
     obtain rfl:=Option.some.inj H
     go_wp2_with (first |((with_reducible refine gate_callee (f:=48) rfl ?_);refine goesL_ (some 72) rfl rfl Try.func48 (by kernel_rfl) rfl #[.int .i64 t626,.int .i64 t628] rfl (by(try simp only [List.map_toArray,List.map_cons,List.map_nil]);first | done | rfl |(simp only [List.length_drop,List.length_take];rfl)) ?_;(with_reducible refine(turns_Order.calls t626 t628 t644 t645 _ A29.out).mono ?_);rintro e w43 ⟨v646,rfl,ho0,hb⟩;refine⟨_,rfl,?_⟩;have n0_:=Aside0.mk (Kd.R_elder' (by(with_reducible repeat(first | apply Kd.R_alloc | apply Kd.R_drewN | apply Kd.R_drew));exact HO_5.out) (Kd.R_base ho0) hb);have n1_:=Aside0.mk (Kd.R_elder' (by(with_reducible repeat(first | apply Kd.R_alloc | apply Kd.R_drewN | apply Kd.R_drew));exact HO_7.out) (Kd.R_base ho0) hb);have n2_:=Aside0.mk (Kd.R_lower (Kd.R_new' (Kd.R_new' ho0 (Kd.R_lt (by(with_reducible repeat(first | apply Kd.R_alloc | apply Kd.R_drewN | apply Kd.R_drew));exact HO_5.out))) (Kd.R_lt (by(with_reducible repeat(first | apply Kd.R_alloc | apply Kd.R_drewN | apply Kd.R_drew));exact HO_7.out))) (bwZ (by repeat(first |(with_reducible first | exact HB.out | apply bwA | apply bwN | apply bw1 | refine bwS ?_ GE641.out) | exact HB.out))));have n3_:=Aside0.mk (bkB (g:=gb641) (o:=.cells #[.int .i64 t638,.int .i64 t639] 45 (0,0)) (by(with_reducible repeat(first | refine bkN ?_ _ | refine bkD ?_ | refine bkA ?_ _));exact BK641.out) hb);have n4_:=Aside0.mk (bwT (by repeat(first |(with_reducible first | exact HB.out | apply bwA | apply bwN | apply bw1 | refine bwS ?_ GE641.out) | exact HB.out)) hb);clear HO_5;clear HO_7;clear BK641;clear HB;have HO_5:=n0_;have HO_7:=n1_;have HO647:=n2_;have BK641:=n3_;have HB:=n4_;clear n0_ n1_ n2_ n3_ n4_;(try clear hb);(try clear hb2);(try clear hk);(try clear hi);(try clear ho0);obtain ⟨Ao44,co44,eo44⟩:=Kd.R_slice HO647.out;subst eo44;obtain ⟨Ao45,co45,eo45⟩:=Kd.R_slice HO_7.out;subst eo45) |(go_at_call 22;(with_reducible refine(w10_ints.calls k2 _ _ t644 _ _ t633 true _ ?side1 ?side2 ?side3 ?side4 A31.out).mono ?_);(case side1=>repeat(first | exact(Kd.R_reads' HO647.out).2.2 |(with_reducible refine Kd.C_alloc ?_ _) |(with_reducible refine Kd.C_drewN ?_ _) |(with_reducible refine Kd.C_drew ?_)));(case side2=>exact(Kd.R_reads' HO647.out).2.1);(case side3=>repeat(first | exact(Kd.R_reads' HO_7.out).2.2 |(with_reducible refine Kd.C_alloc ?_ _) |(with_reducible refine Kd.C_drewN ?_ _) |(with_reducible refine Kd.C_drew ?_)));(case side4=>exact(Kd.R_reads' HO_7.out).2.1);rintro e w' ⟨rfl,⟨nd,rfl⟩⟩) |(go_at_call 51;(with_reducible refine(q10_Order.calls k2 t626 t628 t649 _ A33.out).mono ?_);rintro e w46 ⟨v650,rfl,ho0,hb⟩;have n0_:=Aside0.mk (Kd.R_elder' (by(with_reducible repeat(first | apply Kd.R_alloc | apply Kd.R_drewN | apply Kd.R_drew));exact HO_5.out) (Kd.R_base ho0) hb);have n1_:=Aside0.mk (Kd.R_elder' (by(with_reducible repeat(first | apply Kd.R_alloc | apply Kd.R_drewN | apply Kd.R_drew));exact HO_7.out) (Kd.R_base ho0) hb);have n2_:=Aside0.mk (Kd.R_elder' (by(with_reducible repeat(first | apply Kd.R_alloc | apply Kd.R_drewN | apply Kd.R_drew));exact HO647.out) (Kd.R_base ho0) hb);have n3_:=Aside0.mk (Kd.R_lower (Kd.R_new' (Kd.R_new' (Kd.R_new' ho0 (Kd.R_lt (by(with_reducible repeat(first | apply Kd.R_alloc | apply Kd.R_drewN | apply Kd.R_drew));exact HO_5.out))) (Kd.R_lt (by(with_reducible repeat(first | apply Kd.R_alloc | apply Kd.R_drewN | apply Kd.R_drew));exact HO_7.out))) (Kd.R_lt (by(with_reducible repeat(first | apply Kd.R_alloc | apply Kd.R_drewN | apply Kd.R_drew));exact HO647.out))) (bwZ (by repeat(first |(with_reducible first | exact HB.out | apply bwA | apply bwN | apply bw1 | refine bwS ?_ GE641.out) | exact HB.out))));have n4_:=Aside0.mk (bkB (g:=gb641) (o:=.cells #[.int .i64 t638,.int .i64 t639] 45 (0,0)) (by(with_reducible repeat(first | refine bkN ?_ _ | refine bkD ?_ | refine bkA ?_ _));exact BK641.out) hb);have n5_:=Aside0.mk (bwT (by repeat(first |(with_reducible first | exact HB.out | apply bwA | apply bwN | apply bw1 | refine bwS ?_ GE641.out) | exact HB.out)) hb);clear HO_5;clear HO_7;clear HO647;clear BK641;clear HB;have HO_5:=n0_;have HO_7:=n1_;have HO647:=n2_;have HO651:=n3_;have BK641:=n4_;have HB:=n5_;clear n0_ n1_ n2_ n3_ n4_ n5_;(try clear hb);(try clear hb2);(try clear hk);(try clear hi);(try clear ho0);obtain ⟨Ao47,co47,eo47⟩:=Kd.R_slice HO651.out;subst eo47) |(go_at_call 22;(with_reducible refine(w10_ints.calls k2 _ _ t644 _ _ t649 false _ ?side1 ?side2 ?side3 ?side4 A34.out).mono ?_);(case side1=>repeat(first | exact(Kd.R_reads' HO647.out).2.2 |(with_reducible refine Kd.C_alloc ?_ _) |(with_reducible refine Kd.C_drewN ?_ _) |(with_reducible refine Kd.C_drew ?_)));(case side2=>exact(Kd.R_reads' HO647.out).2.1);(case side3=>repeat(first | exact(Kd.R_reads' HO651.out).2.2 |(with_reducible refine Kd.C_alloc ?_ _) |(with_reducible refine Kd.C_drewN ?_ _) |(with_reducible refine Kd.C_drew ?_)));(case side4=>exact(Kd.R_reads' HO651.out).2.1);rintro e w' ⟨rfl,⟨nd,rfl⟩⟩))
     go_ret
     exact⟨by first | rfl |(simp [errW_none,errW_some] <;> rfl) |(simp [*,errW_none,errW_some] <;> rfl),by repeat(first |(with_reducible first | exact HB.out | apply bwA | apply bwN | apply bw1 | refine bwS ?_ GE641.out) | exact HB.out)⟩
    subst c35
    have H1 :((w10_awake.f k2).bind fun t653=>(some t653)) = some r:=by rw [if_pos rfl] at H;exact H
    clear H
    have H:=H1
    clear H1
    replace H:=Option.bind_eq_some_iff.mp H
    obtain ⟨t653,A360,H⟩:=H
    replace H :(some t653) = some r:=H
    have A36:=Aside0.mk A360
    clear A360
    obtain rfl:=Option.some.inj H
    go_wp2_with (first |((with_reducible refine gate_callee (f:=48) rfl ?_);refine goesL_ (some 72) rfl rfl Try.func48 (by kernel_rfl) rfl #[.int .i64 t626,.int .i64 t628] rfl (by(try simp only [List.map_toArray,List.map_cons,List.map_nil]);first | done | rfl |(simp only [List.length_drop,List.length_take];rfl)) ?_;(with_reducible refine(turns_Order.calls t626 t628 t644 t645 _ A29.out).mono ?_);rintro e w37 ⟨v646,rfl,ho0,hb⟩;refine⟨_,rfl,?_⟩;have n0_:=Aside0.mk (Kd.R_elder' (by(with_reducible repeat(first | apply Kd.R_alloc | apply Kd.R_drewN | apply Kd.R_drew));exact HO_5.out) (Kd.R_base ho0) hb);have n1_:=Aside0.mk (Kd.R_elder' (by(with_reducible repeat(first | apply Kd.R_alloc | apply Kd.R_drewN | apply Kd.R_drew));exact HO_7.out) (Kd.R_base ho0) hb);have n2_:=Aside0.mk (Kd.R_lower (Kd.R_new' (Kd.R_new' ho0 (Kd.R_lt (by(with_reducible repeat(first | apply Kd.R_alloc | apply Kd.R_drewN | apply Kd.R_drew));exact HO_5.out))) (Kd.R_lt (by(with_reducible repeat(first | apply Kd.R_alloc | apply Kd.R_drewN | apply Kd.R_drew));exact HO_7.out))) (bwZ (by repeat(first |(with_reducible first | exact HB.out | apply bwA | apply bwN | apply bw1 | refine bwS ?_ GE641.out) | exact HB.out))));have n3_:=Aside0.mk (bkB (g:=gb641) (o:=.cells #[.int .i64 t638,.int .i64 t639] 45 (0,0)) (by(with_reducible repeat(first | refine bkN ?_ _ | refine bkD ?_ | refine bkA ?_ _));exact BK641.out) hb);have n4_:=Aside0.mk (bwT (by repeat(first |(with_reducible first | exact HB.out | apply bwA | apply bwN | apply bw1 | refine bwS ?_ GE641.out) | exact HB.out)) hb);clear HO_5;clear HO_7;clear BK641;clear HB;have HO_5:=n0_;have HO_7:=n1_;have HO647:=n2_;have BK641:=n3_;have HB:=n4_;clear n0_ n1_ n2_ n3_ n4_;(try clear hb);(try clear hb2);(try clear hk);(try clear hi);(try clear ho0);obtain ⟨Ao38,co38,eo38⟩:=Kd.R_slice HO647.out;subst eo38;obtain ⟨Ao39,co39,eo39⟩:=Kd.R_slice HO_7.out;subst eo39) |(go_at_call 22;(with_reducible refine(w10_ints.calls k2 _ _ t644 _ _ t633 true _ ?side1 ?side2 ?side3 ?side4 A31.out).mono ?_);(case side1=>repeat(first | exact(Kd.R_reads' HO647.out).2.2 |(with_reducible refine Kd.C_alloc ?_ _) |(with_reducible refine Kd.C_drewN ?_ _) |(with_reducible refine Kd.C_drew ?_)));(case side2=>exact(Kd.R_reads' HO647.out).2.1);(case side3=>repeat(first | exact(Kd.R_reads' HO_7.out).2.2 |(with_reducible refine Kd.C_alloc ?_ _) |(with_reducible refine Kd.C_drewN ?_ _) |(with_reducible refine Kd.C_drew ?_)));(case side4=>exact(Kd.R_reads' HO_7.out).2.1);rintro e w' ⟨rfl,⟨nd,rfl⟩⟩) |(go_at_call 51;(with_reducible refine(q10_Order.calls k2 t626 t628 t649 _ A33.out).mono ?_);rintro e w40 ⟨v650,rfl,ho0,hb⟩;have n0_:=Aside0.mk (Kd.R_elder' (by(with_reducible repeat(first | apply Kd.R_alloc | apply Kd.R_drewN | apply Kd.R_drew));exact HO_5.out) (Kd.R_base ho0) hb);have n1_:=Aside0.mk (Kd.R_elder' (by(with_reducible repeat(first | apply Kd.R_alloc | apply Kd.R_drewN | apply Kd.R_drew));exact HO_7.out) (Kd.R_base ho0) hb);have n2_:=Aside0.mk (Kd.R_elder' (by(with_reducible repeat(first | apply Kd.R_alloc | apply Kd.R_drewN | apply Kd.R_drew));exact HO647.out) (Kd.R_base ho0) hb);have n3_:=Aside0.mk (Kd.R_lower (Kd.R_new' (Kd.R_new' (Kd.R_new' ho0 (Kd.R_lt (by(with_reducible repeat(first | apply Kd.R_alloc | apply Kd.R_drewN | apply Kd.R_drew));exact HO_5.out))) (Kd.R_lt (by(with_reducible repeat(first | apply Kd.R_alloc | apply Kd.R_drewN | apply Kd.R_drew));exact HO_7.out))) (Kd.R_lt (by(with_reducible repeat(first | apply Kd.R_alloc | apply Kd.R_drewN | apply Kd.R_drew));exact HO647.out))) (bwZ (by repeat(first |(with_reducible first | exact HB.out | apply bwA | apply bwN | apply bw1 | refine bwS ?_ GE641.out) | exact HB.out))));have n4_:=Aside0.mk (bkB (g:=gb641) (o:=.cells #[.int .i64 t638,.int .i64 t639] 45 (0,0)) (by(with_reducible repeat(first | refine bkN ?_ _ | refine bkD ?_ | refine bkA ?_ _));exact BK641.out) hb);have n5_:=Aside0.mk (bwT (by repeat(first |(with_reducible first | exact HB.out | apply bwA | apply bwN | apply bw1 | refine bwS ?_ GE641.out) | exact HB.out)) hb);clear HO_5;clear HO_7;clear HO647;clear BK641;clear HB;have HO_5:=n0_;have HO_7:=n1_;have HO647:=n2_;have HO651:=n3_;have BK641:=n4_;have HB:=n5_;clear n0_ n1_ n2_ n3_ n4_ n5_;(try clear hb);(try clear hb2);(try clear hk);(try clear hi);(try clear ho0);obtain ⟨Ao41,co41,eo41⟩:=Kd.R_slice HO651.out;subst eo41) |(go_at_call 22;(with_reducible refine(w10_ints.calls k2 _ _ t644 _ _ t649 true _ ?side1 ?side2 ?side3 ?side4 A34.out).mono ?_);(case side1=>repeat(first | exact(Kd.R_reads' HO647.out).2.2 |(with_reducible refine Kd.C_alloc ?_ _) |(with_reducible refine Kd.C_drewN ?_ _) |(with_reducible refine Kd.C_drew ?_)));(case side2=>exact(Kd.R_reads' HO647.out).2.1);(case side3=>repeat(first | exact(Kd.R_reads' HO651.out).2.2 |(with_reducible refine Kd.C_alloc ?_ _) |(with_reducible refine Kd.C_drewN ?_ _) |(with_reducible refine Kd.C_drew ?_)));(case side4=>exact(Kd.R_reads' HO651.out).2.1);rintro e w' ⟨rfl,⟨nd,rfl⟩⟩) |(go_at_call 20;(with_reducible refine(w10_awake.calls k2  t653 _ A36.out).mono ?_);rintro e w42 ⟨rfl,hb⟩;have n0_:=Aside0.mk (Kd.R_below (by(with_reducible repeat(first | apply Kd.R_alloc | apply Kd.R_drewN | apply Kd.R_drew));exact HO_5.out) hb);have n1_:=Aside0.mk (Kd.R_below (by(with_reducible repeat(first | apply Kd.R_alloc | apply Kd.R_drewN | apply Kd.R_drew));exact HO_7.out) hb);have n2_:=Aside0.mk (Kd.R_below (by(with_reducible repeat(first | apply Kd.R_alloc | apply Kd.R_drewN | apply Kd.R_drew));exact HO647.out) hb);have n3_:=Aside0.mk (Kd.R_below (by(with_reducible repeat(first | apply Kd.R_alloc | apply Kd.R_drewN | apply Kd.R_drew));exact HO651.out) hb);have n4_:=Aside0.mk (bkB (g:=gb641) (o:=.cells #[.int .i64 t638,.int .i64 t639] 45 (0,0)) (by(with_reducible repeat(first | refine bkN ?_ _ | refine bkD ?_ | refine bkA ?_ _));exact BK641.out) hb);have n5_:=Aside0.mk (bwT (by repeat(first |(with_reducible first | exact HB.out | apply bwA | apply bwN | apply bw1 | refine bwS ?_ GE641.out) | exact HB.out)) hb);clear HO_5;clear HO_7;clear HO647;clear HO651;clear BK641;clear HB;have HO_5:=n0_;have HO_7:=n1_;have HO647:=n2_;have HO651:=n3_;have BK641:=n4_;have HB:=n5_;clear n0_ n1_ n2_ n3_ n4_ n5_;(try clear hb);(try clear hb2);(try clear hk);(try clear hi)))
    go_ret
    exact⟨by first | rfl |(simp [errW_none,errW_some] <;> rfl) |(simp [*,errW_none,errW_some] <;> rfl),by repeat(first |(with_reducible first | exact HB.out | apply bwA | apply bwN | apply bw1 | refine bwS ?_ GE641.out) | exact HB.out)⟩
/-- THE ONE PURE STATEMENT of w10_TurnsOwn: yours. -/
def w10_TurnsOwn.Pure : Prop:=∀ (a0 : Int) (a1 : Int),(Lit.int .i64 a0).wf = true →(Lit.int .i64 a1).wf = true→∃ k,w10_TurnsOwn.f k a0 a1 = some true
theorem w10_TurnsOwn.walk (P : w10_TurnsOwn.Pure) (a0 : Int) (a1 : Int) (w : World) (w0 : (Lit.int .i64 a0).wf = true) (w1 : (Lit.int .i64 a1).wf = true) :
  Calls Try.prog 15 #[.int .i64 a0,.int .i64 a1] w fun e w'=>e = .returned (.bool true)∧Below w.heap.size w w':=by
 obtain ⟨k,h⟩:=P a0 a1 w0 w1
 refine(w10_TurnsOwn.calls k a0 a1 true w h).mono ?_
 rintro e w' ⟨rfl,hd⟩
 exact⟨rfl,hd⟩
end Go.Proofs.Ytbfhlaggllofdaa.S

namespace Go.Proofs.Ytbfhlaggllofdaa.P
open Go.RowKit Go.Proofs.Ytbfhlaggllofdaa.S Go.Proofs.YtbfhlaggllofdaaW.PrintWords Go.Proofs.YtbfhlaggllofdaaW.PrintLast Go.Proofs.YtbfhlaggllofdaaW.PrintMore
set_option linter.unusedVariables false
theorem ints_loop (a b : List Int) (he : a.length = b.length) (hl : a.length≤1000) : ∀ d i : Nat,i + d = a.length→Ev (fun k=>w10_ints.l0 k a b (i : Int)) (decide (a.drop i = b.drop i)):=by
 intro d
 induction d with
 | zero =>
  intro i h
  rw [List.drop_eq_nil_of_le (by omega),List.drop_eq_nil_of_le (by omega),decide_eq_true rfl]
  refine Ev.step (f:=fun _=>some true) (fun k=>?_) (Ev.now _)
  simp only [w10_ints.l0]
  rw [if_neg (by omega)]
 | succ d ih =>
  intro i h
  have w : wrap64 ((i : Int) + 1) =((i + 1 : Nat) : Int):=by rw [w64 (by omega) (by omega)];rfl
  have ea:=drop_cons a i (by omega)
  have eb:=drop_cons b i (by omega)
  by_cases c : rd a (i : Int) = rd b (i : Int)
  rotate_left
  ·have e : decide (a.drop i = b.drop i) = false := decide_eq_false (by rw [ea, eb]; simp [c])
   rw [e]
   refine Ev.step (f:=fun _=>some false) (fun k=>?_) (Ev.now _)
   simp only [w10_ints.l0]
   rw [if_pos (by omega),if_pos (by omega),if_pos (by omega),if_neg c]
  have e : decide (a.drop i = b.drop i) = decide (a.drop (i + 1) = b.drop (i + 1)):=by rw [ea,eb,c];simp
  rw [e]
  refine Ev.step (fun k=>?_) (ih (i + 1) (by omega))
  simp only [w10_ints.l0]
  rw [if_pos (by omega),if_pos (by omega),if_pos (by omega),if_pos c,w]
theorem ints_ev (a b : List Int) (hl : a.length≤1000) : Ev (fun k=>w10_ints.f k a b) (decide (a = b)):=by
 by_cases c : a.length = b.length
 ·refine Ev.congr (fun k => ?_) (ints_loop a b c hl a.length 0 (by omega))
  unfold w10_ints.f
  rw [if_pos (by omega)]
  rfl
 rw [decide_eq_false (fun h=>c (by rw [h]))]
 refine Ev.congr (fun k=>?_) (Ev.now _)
 unfold w10_ints.f
 rw [if_neg (by omega)]
end Go.Proofs.Ytbfhlaggllofdaa.P

namespace Go.Proofs.Ytbfhlaggllofdaa.P
open Go.RowKit Go.Proofs.Ytbfhlaggllofdaa.S Go.Proofs.Ytbfhlaggllofdaa.G Go.Proofs.Ytbfhlaggllofdaa.T Go.Proofs.YtbfhlaggllofdaaW.PrintWords Go.Proofs.YtbfhlaggllofdaaW.PrintLast Go.Proofs.YtbfhlaggllofdaaW.PrintMore
set_option linter.unusedVariables false
theorem awake_ev : Ev (fun k=>w10_awake.f k) true:=by
 have e1 : turns_Set.f 2 2 = some ([1,2],0):=by kernel_rfl
 have e2 : turns_Choice.f 3 2 1 = some ([2,3],0):=by kernel_rfl
 have e3 : turns_Order.f 3 3 = some ([3,2,1],0):=by kernel_rfl
 have e4 : turns_Groupings.f 5 = some (52,0):=by kernel_rfl
 have e5 : turns_Setting.f [2,3] 3 = some ([1,2],0):=by kernel_rfl
 have i1:=ints_ev [1,2] [1,2] (by decide)
 have i2:=ints_ev [2,3] [2,3] (by decide)
 have i3:=ints_ev [3,2,1] [3,2,1] (by decide)
 rw [decide_eq_true rfl] at i1 i2 i3
 have hj : Ev (fun k=>w10_awake.j0 k false) true:=by
  refine Ev.step (f:=fun _=>some true) (fun k=>?_) (Ev.now _)
  simp only [w10_awake.j0]
  rw [if_neg (by decide)]
 refine Ev.congr (f:=fun k=>(w10_ints.f k [1,2] [1,2]).bind fun t=>(if t = true then((w10_ints.f k [2,3] [2,3]).bind fun t=>(if t = true then((w10_ints.f k [3,2,1] [3,2,1]).bind fun t=>(if t = true then((w10_ints.f k [1,2] [1,2]).bind fun t=>w10_awake.j0 k (!t)) else w10_awake.j0 k true)) else w10_awake.j0 k true)) else w10_awake.j0 k true)) (fun k=>?_) ?_
 ·unfold w10_awake.f
  rw [e1,e2,e3,e4,e5]
  rfl
 refine Ev.bind (f:=fun k (t : Bool)=>_) i1 ?_
 refine Ev.congr (fun k=>if_pos rfl) ?_
 refine Ev.bind (f:=fun k (t : Bool)=>_) i2 ?_
 refine Ev.congr (fun k=>if_pos rfl) ?_
 refine Ev.bind (f:=fun k (t : Bool)=>_) i3 ?_
 refine Ev.congr (fun k=>if_pos rfl) ?_
 exact Ev.bind (f:=fun k (t : Bool)=>_) i1 hj
theorem awake_some : Ev (fun k=>(w10_awake.f k).bind fun z=>some z) true:=Ev.congr (fun k=>by cases w10_awake.f k <;> rfl) awake_ev
end Go.Proofs.Ytbfhlaggllofdaa.P

namespace Go.Proofs.Ytbfhlaggllofdaa.P
open Go.RowKit Go.Proofs.Ytbfhlaggllofdaa.S Go.Proofs.YtbfhlaggllofdaaW.PrintWords Go.Proofs.YtbfhlaggllofdaaW.PrintLast Go.Proofs.YtbfhlaggllofdaaW.PrintMore
set_option linter.unusedVariables false
theorem u64_nonneg (a : Int) : 0≤IntKind.u64.wrap a:=by
 simp [IntKind.wrap,IntKind.signed,IntKind.bits]
 omega
theorem u64_id {a : Int} (h0 : 0≤a) (h1 : a≤9000000000000000000) : IntKind.u64.wrap a = a:=by
 simp [IntKind.wrap,IntKind.signed,IntKind.bits]
 omega
theorem mod_ok (a : Int) {b : Int} (b1 : 1≤b) (b2 : b≤9000000000000000000) : ∃ m,w10_mod.f a b = some m∧0≤m∧m < b:=by
 unfold w10_mod.f
 rw [u64_id (by omega) (by omega),if_neg (by omega),Int.tmod_eq_emod_of_nonneg (u64_nonneg a)]
 have h0:=Int.emod_nonneg (IntKind.u64.wrap a) (show b≠0 by omega)
 have h1:=Int.emod_lt_of_pos (IntKind.u64.wrap a) (show 0 < b by omega)
 rw [w64 (by omega) (by omega)]
 exact⟨_,rfl,h0,h1⟩
end Go.Proofs.Ytbfhlaggllofdaa.P

namespace Go.Proofs.Ytbfhlaggllofdaa.P
open Go.RowKit Go.Proofs.Ytbfhlaggllofdaa.S Go.Proofs.Ytbfhlaggllofdaa.G Go.Proofs.Ytbfhlaggllofdaa.T Go.Proofs.YtbfhlaggllofdaaW.PrintWords Go.Proofs.YtbfhlaggllofdaaW.PrintLast Go.Proofs.YtbfhlaggllofdaaW.PrintMore
set_option linter.unusedVariables false
instance (n : Int) (l : List Int) : Decidable (IsS n l):=decidable_of_iff ((∀ x ∈ l,1≤x∧x≤n)∧l.Pairwise (· < ·)) ⟨fun h=>⟨h.1,h.2⟩,fun h=>⟨h.1,h.2⟩⟩
theorem index_loop (l : List Int) (hl : l.length≤1000) (x : Int) : ∀ e i : Nat,i + e = l.length→x ∉ l.take i→Ev (fun k=>slices_Index_int_int.l0 k l x (l.length : Int) (i : Int)) (if x ∈ l then(l.idxOf x : Int) else -1):=by
 intro e
 induction e with
 | zero =>
  intro i h hs
  rw [List.take_of_length_le (by omega)] at hs
  rw [if_neg hs]
  refine Ev.step (f:=fun _=>some (-1)) (fun k=>?_) (Ev.now _)
  simp only [slices_Index_int_int.l0]
  rw [if_neg (by omega)]
 | succ e ih =>
  intro i h hs
  have w : wrap64 ((i : Int) + 1) =((i + 1 : Nat) : Int):=by rw [w64 (by omega) (by omega)];rfl
  have r : rd l (i : Int) = l[i]:=rd_lt l i (by omega)
  by_cases c : x = rd l (i : Int)
  rotate_left
  ·refine Ev.step (fun k=>?_) (ih (i + 1) (by omega) (fun h'=>by
    rw [List.take_succ_eq_append_getElem (show i < l.length by omega)] at h'
    rcases List.mem_append.1 h' with h' | h'
    ·exact hs h'
    ·exact c (by rw [r];simpa using h')))
   simp only [slices_Index_int_int.l0]
   rw [if_pos (by omega),if_pos (by omega),if_pos (by omega),if_neg c,w]
  have hm : x ∈ l:=by rw [c,r];exact List.getElem_mem _
  have hi : l.idxOf x = i:=by
   conv=>lhs;rw [← List.take_append_drop i l]
   rw [List.idxOf_append,if_neg hs,drop_cons l i (by omega),← c,List.idxOf_cons_self,List.length_take]
   omega
  rw [if_pos hm,hi]
  refine Ev.step (f:=fun _=>some (i : Int)) (fun k=>?_) (Ev.now _)
  simp only [slices_Index_int_int.l0]
  rw [if_pos (by omega),if_pos (by omega),if_pos (by omega),if_pos c]
theorem index_ev (l : List Int) (hl : l.length≤1000) (x : Int) : Ev (fun k=>slices_Index_int_int.f k l x) (if x ∈ l then(l.idxOf x : Int) else -1):=index_loop l hl x l.length 0 (by omega) (by simp)
theorem contains_ev (l : List Int) (hl : l.length≤1000) (x : Int) : Ev (fun k=>slices_Contains_int_int.f k l x) (decide (x ∈ l)):=by
 refine Ev.bind (f:=fun k (t : Int)=>some (decide (t ≥ 0))) (index_ev l hl x) ?_
 by_cases c : x ∈ l
 ·rw [if_pos c, decide_eq_true c, decide_eq_true (by omega)]
  exact Ev.now _
 rw [if_neg c,decide_eq_false c,decide_eq_false (by omega)]
 exact Ev.now _
theorem succ64 (i : Nat) (h : i≤1000) : wrap64 ((i : Int) + 1) =((i + 1 : Nat) : Int):=by rw [w64 (by omega) (by omega)];rfl
theorem fact_step (j : Nat) : fact (j + 1) = fact j * ((j : Int) + 1):=Int.mul_comm _ _
theorem factorial_l0 {n : Nat} (hn : n≤18) : ∀ e j : Nat,1≤j→j + e = max n 1→Ev (fun k=>q10_Factorial.l0 k (n : Int) (fact j) ((j : Int) + 1)) (fact n):=by
 intro e
 induction e with
 | zero =>
  intro j h1 h
  have ej : fact j = fact n:=by
   by_cases c : n = 0
   ·subst c
    obtain rfl : j = 1:=by omega
    rfl
   ·rw [show j = n by omega]
  rw [← ej]
  refine Ev.step (f:=fun _=>some (fact j)) (fun k=>?_) (Ev.now _)
  simp only [q10_Factorial.l0]
  rw [if_neg (by omega)]
 | succ e ih =>
  intro j h1 h
  have b:=fact_le (n:=j + 1) (by omega)
  have hs:=fact_step j
  have hih:=ih (j + 1) (by omega) (by omega)
  refine Ev.step (fun k=>?_) hih
  simp only [q10_Factorial.l0]
  rw [if_pos (by omega),← hs,w64 (x:=fact (j + 1)) (by omega) (by omega),w64 (x:=(j : Int) + 1 + 1) (by omega) (by omega)]
  rfl
theorem factorial_ev {n : Nat} (hn : n≤18) : Ev (fun k=>q10_Factorial.f k (n : Int)) (fact n):=factorial_l0 hn (max n 1 - 1) 1 (by omega) (by omega)
structure PreO (N : Int) (l : List Int) : Prop where
 mem : ∀ x ∈ l,1≤x∧x≤N
 nodup : l.Nodup
instance (N : Int) (l : List Int) : Decidable (PreO N l):=decidable_of_iff ((∀ x ∈ l,1≤x∧x≤N)∧l.Nodup) ⟨fun h=>⟨h.1,h.2⟩,fun h=>⟨h.1,h.2⟩⟩
theorem PreO.take {N : Int} {l : List Int} (h : PreO N l) (i : Nat) : PreO N (l.take i):=⟨fun x hx=>h.mem x (List.mem_of_mem_take hx),h.nodup.sublist (List.take_sublist i l)⟩
theorem preO_step {N : Int} {l : List Int} {i : Nat} (hi : i < l.length) : PreO N (l.take (i + 1))↔PreO N (l.take i) ∧(1≤rd l (i : Int)∧rd l (i : Int)≤N)∧rd l (i : Int) ∉ l.take i:=by
 have e : l.take (i + 1) = l.take i ++ [rd l (i : Int)]:=by rw [rd_lt l i hi];exact List.take_succ_eq_append_getElem hi
 rw [e]
 constructor
 ·intro h
  obtain ⟨h1,h2,h3⟩:=List.nodup_append.1 h.nodup
  exact⟨⟨fun x hx=>h.mem x (List.mem_append_left _ hx),h1⟩,h.mem _ (List.mem_append_right _ (List.mem_singleton.2 rfl)),fun hm=>h3 _ hm _ (List.mem_singleton.2 rfl) rfl⟩
 intro ⟨h1,h2,h3⟩
 refine⟨fun x hx=>?_,List.nodup_append.2 ⟨h1.nodup,by simp,fun x hx y hy=>?_⟩⟩
 ·rcases List.mem_append.1 hx with hx | hx
  ·exact h1.mem x hx
  rw [List.mem_singleton.1 hx];exact h2
 rw [List.mem_singleton.1 hy]
 exact fun e=>h3 (e ▸ hx)
theorem preO_not {N : Int} {l : List Int} (j : Nat) (h : ¬ PreO N (l.take j)) : decide (PreO N l) = false:=decide_eq_false (fun h'=>h (h'.take j))
theorem preO_nil (N : Int) : PreO N []:=⟨fun x hx=>by simp at hx,.nil⟩
theorem isOrder_loop {l : List Int} (hl : l.length≤18) : ∀ e i : Nat,i + e = l.length→PreO (l.length : Int) (l.take i)→Ev (fun k=>turns_isOrder.l0 k l l (l.length : Int) (i : Int)) (decide (PreO (l.length : Int) l)):=by
 intro e
 induction e with
 | zero =>
  intro i h hs
  rw [List.take_of_length_le (by omega)] at hs
  rw [decide_eq_true hs]
  refine Ev.step (f:=fun _=>some true) (fun k=>?_) (Ev.now _)
  simp only [turns_isOrder.l0]
  rw [if_neg (by omega)]
 | succ e ih =>
  intro i h hs
  have st:=preO_step (N:=(l.length : Int)) (l:=l) (i:=i) (by omega)
  by_cases c : 1≤rd l (i : Int)∧rd l (i : Int) ≤(l.length : Int)
  rotate_left
  ·rw [preO_not (i + 1) (fun h => c ((st.1 h).2.1))]
   refine Ev.step (f:=fun _=>some false) (fun k=>?_) (Ev.now _)
   simp only [turns_isOrder.l0]
   rw [if_pos (by omega),if_pos (by omega),if_pos (by omega),within_no c]
   rfl
  have hc:=contains_ev (l.take i) (by rw [List.length_take];omega) (rd l (i : Int))
  have hf : ∀ {r : Bool},Ev (fun k=>(slices_Contains_int_int.f k (l.take i) (rd l (i : Int))).bind fun t512=>(if t512 = true then(some false) else(turns_isOrder.l0 k l l (l.length : Int) ((i + 1 : Nat) : Int)))) r→Ev (fun k=>turns_isOrder.l0 k l l (l.length : Int) (i : Int)) r:=fun h=>by
   refine Ev.step (fun k=>?_) h
   simp only [turns_isOrder.l0]
   rw [if_pos (by omega),if_pos (by omega),if_pos (by omega),within_yes c]
   simp only [Option.bind_some,if_true]
   rw [if_pos (by omega),show((i : Int)).toNat = i by omega,succ64 i (by omega)]
  refine hf (Ev.bind (f:=fun k (t : Bool)=>_) hc ?_)
  by_cases c1 : rd l (i : Int) ∈ l.take i
  rotate_left
  ·rw [decide_eq_false c1]
   exact Ev.congr (fun k=>if_neg (by decide)) (ih (i + 1) (by omega) (st.2 ⟨hs,c,c1⟩))
  rw [decide_eq_true c1,preO_not (i + 1) (fun h=>(st.1 h).2.2 c1)]
  exact Ev.congr (fun k=>if_pos rfl) (Ev.now _)
def OrdP (l : List Int) : Prop:=l.length≤18∧PreO (l.length : Int) l
instance (l : List Int) : Decidable (OrdP l):=by unfold OrdP;infer_instance
theorem isOrder_ev (l : List Int) : Ev (fun k=>turns_isOrder.f k l) (decide (OrdP l)):=by
 by_cases c : l.length≤18
 rotate_left
 ·rw [decide_eq_false (fun h => c h.1)]
  refine Ev.congr (fun k=>?_) (Ev.now _)
  unfold turns_isOrder.f
  rw [if_pos (by omega)]
 have h:=isOrder_loop c l.length 0 (by omega) (preO_nil _)
 rw [show decide (OrdP l) = decide (PreO (l.length : Int) l) from decide_eq_decide.2 ⟨fun h=>h.2,fun h=>⟨c,h⟩⟩]
 refine Ev.congr (fun k=>?_) h
 unfold turns_isOrder.f
 rw [if_neg (by omega)]
 rfl
theorem mem_take_rd {l : List Int} {i : Nat} (hi : i≤l.length) {x : Int} : x ∈ l.take i↔∃ j,j < i∧rd l (j : Int) = x:=by
 constructor
 ·intro h
  obtain ⟨j,hj,e⟩:=List.getElem_of_mem h
  rw [List.length_take] at hj
  rw [List.getElem_take] at e
  exact⟨j,by omega,by rw [rd_lt l j (by omega)];exact e⟩
 intro ⟨j,hj,e⟩
 rw [rd_lt l j (by omega)] at e
 rw [← e]
 exact List.mem_take_iff_getElem.2 ⟨j,by omega,rfl⟩
theorem ordP_has {l : List Int} (h : OrdP l) {m : Nat} (hm : m < l.length) :(m : Int) + 1 ∈ l:=full_range l.length l 0 h.2.nodup (fun a ha=>by have:=h.2.mem a ha;omega) rfl _ (by omega) (by omega)
theorem ordP_range {l : List Int} (h : OrdP l) {m : Nat} (hm : m≤l.length) : 0≤sjtAt m l∧sjtAt m l < fact m:=sjtAt_range m l (fun j hj=>ordP_has h (by omega)) h.2.nodup (fun x hx=>(h.2.mem x hx).1)
theorem split_at {l : List Int} {x : Int} (hx : x ∈ l) : l = l.take (l.idxOf x) ++ x :: l.drop (l.idxOf x + 1)∧x ∉ l.take (l.idxOf x)∧l.idxOf x < l.length:=by
 have hi:=List.idxOf_lt_length_of_mem hx
 have e:=drop_cons l (l.idxOf x) hi
 have ex : rd l (l.idxOf x : Int) = x:=by rw [rd_lt l _ hi];exact List.getElem_idxOf hi
 rw [ex] at e
 refine⟨?_,?_,hi⟩
 ·rw [← e,List.take_append_drop]
 intro hm
 obtain ⟨j,hj,e2⟩:=(mem_take_rd (by omega)).1 hm
 have h1 : l.idxOf x≤j:=by
  rw [rd_lt l j (by omega)] at e2
  rcases Nat.lt_or_ge j (l.idxOf x) with h | h
  ·exact absurd e2 (List.not_of_lt_findIdx (p:=(· == x)) h |> fun h=>by simpa using h)
  ·exact h
 omega
theorem idx_upto {l : List Int} {m : Nat} (hx :(m : Int) + 1 ∈ l) :(upto ((m : Int) + 1) l).idxOf ((m : Int) + 1) =(upto (m : Int) (l.take (l.idxOf ((m : Int) + 1)))).length:=by
 obtain ⟨e,hn,_⟩:=split_at hx
 have e1 : upto ((m : Int) + 1) (l.take (l.idxOf ((m : Int) + 1))) = upto (m : Int) (l.take (l.idxOf ((m : Int) + 1))):=by
  unfold upto
  refine List.filter_congr (fun x hx=>?_)
  have : x ≠(m : Int) + 1:=fun e=>hn (e ▸ hx)
  exact decide_eq_decide.2 ⟨fun h=>by omega,fun h=>by omega⟩
 rw [← e1]
 generalize l.take (l.idxOf ((m : Int) + 1)) = a at *
 generalize l.drop (l.idxOf ((m : Int) + 1) + 1) = b at *
 rw [e]
 have hna :(m : Int) + 1 ∉ upto ((m : Int) + 1) a:=fun h=>hn (List.mem_filter.1 h).1
 unfold upto at hna ⊢
 rw [List.filter_append,List.filter_cons,if_pos (by simp),List.idxOf_append,if_neg hna,List.idxOf_cons_self]
 omega
theorem upto_snoc {m : Int} {l : List Int} {j : Nat} (hj : j < l.length) :(upto m (l.take (j + 1))).length =(upto m (l.take j)).length + (if rd l (j : Int)≤m then 1 else 0):=by
 have e : l.take (j + 1) = l.take j ++ [rd l (j : Int)]:=by rw [rd_lt l j hj];exact List.take_succ_eq_append_getElem hj
 unfold upto
 rw [e,List.filter_append,List.length_append]
 by_cases c : rd l (j : Int)≤m
 ·rw [if_pos c,List.filter_cons,if_pos (by simpa using c)];rfl
 rw [if_neg c,List.filter_cons,if_neg (by simpa using c)];rfl
theorem sjtAt_step {l : List Int} (h : OrdP l) {m : Nat} (hm : m < l.length) :(sjtAt (m + 1) l = if sjtAt m l % 2 = 0 then sjtAt m l * ((m : Int) + 1) + ((m : Int) - ((upto (m : Int) (l.take (l.idxOf ((m : Int) + 1)))).length : Int)) else sjtAt m l * ((m : Int) + 1) + ((upto (m : Int) (l.take (l.idxOf ((m : Int) + 1)))).length : Int))∧0≤sjtAt m l * ((m : Int) + 1)∧sjtAt m l * ((m : Int) + 1)≤6402373705728000∧0≤sjtAt m l:=by
 obtain ⟨r0,r1⟩:=ordP_range h (m:=m) (by omega)
 have b:=fact_le (n:=m + 1) (by have:=h.1;omega)
 have e7:=fact_step m
 have h6 : sjtAt m l * ((m : Int) + 1)≤fact m * ((m : Int) + 1):=Int.mul_le_mul_of_nonneg_right (by omega) (by omega)
 refine⟨?_,Int.mul_nonneg r0 (by omega),by omega,r0⟩
 show _ + place m _ _ = _
 rw [idx_upto (ordP_has h hm)]
 unfold place
 split <;> rfl
theorem orderAt_l1 {l : List Int} (h : OrdP l) {m : Nat} (hm : m < l.length) {r : Int} (hr : Ev (fun k=>turns_orderAt.l0 k l (sjtAt (m + 1) l) (l.length : Int) ((m + 1 : Nat) : Int)) r) {b : List Int} (hb : b = l.take (l.idxOf ((m : Int) + 1))) : ∀ e j : Nat,j + e = b.length→Ev (fun k=>turns_orderAt.l1 k l (sjtAt m l) (m : Int) ((upto (m : Int) (b.take j)).length : Int) (l.length : Int) (m : Int) b (b.length : Int) (j : Int)) r:=by
 have h18:=h.1
 have hbl : b.length≤l.length:=by rw [hb,List.length_take];omega
 have hub : ∀ j,(upto (m : Int) (b.take j)).length≤b.length:=fun j=>by
  unfold upto
  exact Nat.le_trans (List.length_filter_le _ _) (by rw [List.length_take];omega)
 obtain ⟨hv,v0,v1,v2⟩:=sjtAt_step h hm
 rw [← hb] at hv
 intro e
 induction e with
 | zero =>
  intro j hj
  have hu:=hub j
  obtain ⟨c,hc⟩ : ∃ c,(upto (m : Int) (b.take j)).length = c:=⟨_,rfl⟩
  rw [List.take_of_length_le (show b.length≤j by omega)] at hc hu ⊢
  rw [hc] at hv hu
  rw [hc]
  have hm2 : Int.tmod (sjtAt m l) 2 = sjtAt m l % 2:=Int.tmod_eq_emod_of_nonneg v2
  generalize sjtAt m l = R at *
  refine Ev.step (fun k=>?_) hr
  simp only [turns_orderAt.l1]
  rw [if_neg (by omega),hm2,w64 (x:=(m : Int) + 1) (by omega) (by omega),w64 (x:=R * ((m : Int) + 1)) (by omega) (by omega)]
  by_cases c2 : R % 2 = 0
  rotate_left
  ·rw [if_neg c2] at hv ⊢
   rw [w64 (x:=R * ((m : Int) + 1) + (c : Int)) (by omega) (by omega),← hv]
   rfl
  rw [if_pos c2] at hv ⊢
  rw [w64 (x:=(m : Int) - (c : Int)) (by omega) (by omega),w64 (x:=R * ((m : Int) + 1) + ((m : Int) - (c : Int))) (by omega) (by omega),← hv]
  rfl
 | succ e ih =>
  intro j hj
  have hs:=upto_snoc (m:=(m : Int)) (l:=b) (j:=j) (by omega)
  have hu:=hub j
  have hih:=ih (j + 1) (by omega)
  rw [hs] at hih
  generalize (upto (m : Int) (b.take j)).length = c at *
  refine Ev.step (fun k=>?_) hih
  simp only [turns_orderAt.l1]
  rw [if_pos (by omega),if_pos (by omega),if_pos (by omega),succ64 j (by omega)]
  by_cases c2 : rd b (j : Int) ≤(m : Int)
  rotate_left
  ·rw [if_neg c2, if_neg c2]
   rfl
  rw [if_pos c2,if_pos c2,succ64 c (by omega)]
theorem orderAt_l0 {l : List Int} (h : OrdP l) : ∀ e m : Nat,m + e = l.length→Ev (fun k=>turns_orderAt.l0 k l (sjtAt m l) (l.length : Int) (m : Int)) (sjtAt l.length l):=by
 intro e
 have h18:=h.1
 induction e with
 | zero =>
  intro m hm
  obtain rfl : m = l.length:=by omega
  refine Ev.step (f:=fun _=>some (sjtAt l.length l)) (fun k=>?_) (Ev.now _)
  simp only [turns_orderAt.l0]
  rw [if_neg (by omega)]
 | succ e ih =>
  intro m hm
  have hx:=ordP_has h (m:=m) (by omega)
  obtain ⟨_,_,hi⟩:=split_at hx
  have hI:=index_ev l (by omega) ((m : Int) + 1)
  rw [if_pos hx] at hI
  have h1:=orderAt_l1 h (m:=m) (by omega) (ih (m + 1) (by omega)) rfl (l.take (l.idxOf ((m : Int) + 1))).length 0 (by omega)
  refine Ev.step (f:=fun k=>(slices_Index_int_int.f k l ((m : Int) + 1)).bind fun t513=>(if 0≤t513 then(if t513 ≤(l.length : Int) then(turns_orderAt.l1 k l (sjtAt m l) (m : Int) 0 (l.length : Int) (m : Int) (l.take (t513 : Int).toNat) ((l.take (t513 : Int).toNat).length : Int) 0) else(none)) else(none))) (fun k=>?_) ?_
  ·simp only [turns_orderAt.l0]
   rw [if_pos (by omega),w64 (x:=(m : Int) + 1) (by omega) (by omega)]
  refine Ev.bind (f:=fun k (t : Int)=>_) hI ?_
  refine Ev.congr (fun k=>?_) h1
  rw [if_pos (by omega),if_pos (by omega),show((l.idxOf ((m : Int) + 1) : Int)).toNat = l.idxOf ((m : Int) + 1) by omega]
  rfl
theorem orderAt_ev {l : List Int} (h : OrdP l) : Ev (fun k=>turns_orderAt.f k l) (sjtAt l.length l):=orderAt_l0 h l.length 0 (by omega)
theorem ref_insert {l : List Int} (hl : l.length≤100) {p : Nat} (hp : p≤l.length) (x : Int) :(if 0 ≤(p : Int) then(if(p : Int) ≤(l.length : Int) then((some (l.take ((p : Int)).toNat : List Int)).bind fun y521=>(if([] : List Int).length + y521.length < 17592186044416 then((some (([] : List Int) ++ y521 : List Int)).bind fun y525=>(if y525.length < 17592186044416 then((some (y525 ++ [x] : List Int)).bind fun y528=>((some (l.drop ((p : Int)).toNat : List Int)).bind fun y531=>(if y528.length + y531.length < 17592186044416 then(some (y528 ++ y531)) else(none)))) else(none))) else(none))) else(none)) else(none)) = some (ins l p x):=by
 rw [if_pos (by omega),if_pos (by omega),show((p : Int)).toNat = p by omega]
 simp only [Option.bind_some,List.nil_append]
 have h1 :(l.take p).length≤100:=by rw [List.length_take];omega
 have h2 :(l.drop p).length≤100:=by rw [List.length_drop];omega
 rw [if_pos (by simp;omega),if_pos (by omega),if_pos (by rw [List.length_append];simp;omega)]
 unfold ins
 rw [List.append_assoc]
 rfl
theorem refOrder_ev : ∀ (n : Nat) (a : Int), n ≤ 18 → 0 ≤ a → a < fact n → Ev (fun k => q10_Order.f k (n : Int) a) (sjt n a)
 | 0,a,_,_,_=>by
  refine Ev.step (f:=fun _=>some []) (fun k=>?_) (Ev.now _)
  simp only [q10_Order.f]
  rw [if_pos (by simp)]
 | n + 1,a,hn,h0,h1=>by
  have b:=fact_le (n:=n + 1) hn
  have hpos :(0 : Int) < (n : Int) + 1:=by omega
  have ecast :((n + 1 : Nat) : Int) =(n : Int) + 1:=rfl
  have r0 : 0≤a / ((n : Int) + 1):=Int.ediv_nonneg h0 (by omega)
  have r1 : a / ((n : Int) + 1) < fact n:=Int.ediv_lt_of_lt_mul hpos (by rw [Int.mul_comm];exact h1)
  have b2:=fact_le (n:=n) (by omega)
  have p0:=Int.emod_nonneg a (show(n : Int) + 1≠0 by omega)
  have p1:=Int.emod_lt_of_pos a hpos
  have ed : Int.tdiv a ((n : Int) + 1) = a / ((n : Int) + 1):=Int.tdiv_eq_ediv_of_nonneg h0
  have em : Int.tmod a ((n : Int) + 1) = a % ((n : Int) + 1):=Int.tmod_eq_emod_of_nonneg h0
  have em2 : Int.tmod (a / ((n : Int) + 1)) 2 =(a / ((n : Int) + 1)) % 2:=Int.tmod_eq_emod_of_nonneg r0
  have es : sjt (n + 1) a = ins (sjt n (a / ((n : Int) + 1))) (place n (a / ((n : Int) + 1)) (a % ((n : Int) + 1))).toNat ((n : Int) + 1):=rfl
  have ih:=refOrder_ev n (a / ((n : Int) + 1)) (by omega) r0 r1
  have hlen:=sjt_len n (a / ((n : Int) + 1))
  have wR : wrap64 (a / ((n : Int) + 1)) = a / ((n : Int) + 1):=w64 (by omega) (by omega)
  have wN : wrap64 ((n : Int) + 1 - 1) =(n : Int):=by rw [w64 (by omega) (by omega)];omega
  rw [es]
  generalize a / ((n : Int) + 1) = R at *
  generalize a % ((n : Int) + 1) = M at *
  have wM : wrap64 ((n : Int) - M) =(n : Int) - M:=w64 (by omega) (by omega)
  obtain ⟨p,hp⟩ : ∃ p : Nat,place n R M = p:=⟨(place n R M).toNat,by have:=(place_range (n:=n) (r:=R) p0 (by omega)).1;omega⟩
  have hpn : p≤n:=by have:=(place_range (n:=n) (r:=R) p0 (by omega)).2;omega
  have hq : ∀ k : Nat,q10_Order.f (k + 1) ((n + 1 : Nat) : Int) a =(q10_Order.f k (n : Int) R).bind fun l=>(if 0 ≤(p : Int) then(if(p : Int) ≤(l.length : Int) then((some (l.take ((p : Int)).toNat : List Int)).bind fun y521=>(if([] : List Int).length + y521.length < 17592186044416 then((some (([] : List Int) ++ y521 : List Int)).bind fun y525=>(if y525.length < 17592186044416 then((some (y525 ++ [(n : Int) + 1] : List Int)).bind fun y528=>((some (l.drop ((p : Int)).toNat : List Int)).bind fun y531=>(if y528.length + y531.length < 17592186044416 then(some (y528 ++ y531)) else(none)))) else(none))) else(none))) else(none)) else(none)):=fun k=>by
   simp only [q10_Order.f]
   rw [ecast,if_neg (by omega),ed,em,wR,em2,wN]
   unfold place at hp
   by_cases c : R % 2 = 0
   ·rw [if_pos c] at hp
    rw [wM,hp]
    simp only [if_pos c]
   ·rw [if_neg c] at hp
    rw [hp]
    simp only [if_neg c]
  rw [hp,show((p : Int)).toNat = p by omega]
  exact Ev.step hq (Ev.bind (f:=fun k (l : List Int)=>_) ih (Ev.congr (fun k=>ref_insert (by omega) (by omega) _) (Ev.now _)))
def turnVal (l : List Int) : Int×Int:=if sjtAt l.length l + 1 = fact l.length then(-1,-1) else turnGo (sjt l.length (sjtAt l.length l + 1)) l l.length 0
theorem Turn_ev (l : List Int) : Ev (fun k=>turns_Turn.f k l) (if OrdP l then((turnVal l).1,(turnVal l).2,0) else(0,0,2)):=by
 refine Ev.bind (f:=fun k (b : Bool)=>_) (isOrder_ev l) ?_
 by_cases c : OrdP l
 rotate_left
 ·rw [decide_eq_false c, if_neg c]
  exact Ev.congr (fun k=>if_neg (by decide)) (Ev.now _)
 obtain ⟨r0,r1⟩:=ordP_range c (m:=l.length) (Nat.le_refl _)
 rw [decide_eq_true c,if_pos c]
 refine Ev.congr (fun k=>(if_pos rfl).trans (if_pos c.1)) ?_
 refine Ev.bind (f:=fun k (t : Int)=>_) (orderAt_ev c) ?_
 refine Ev.congr (fun k=>if_pos ⟨r0,r1⟩) ?_
 unfold turnVal
 by_cases c1 : sjtAt l.length l + 1 = fact l.length
 ·refine Ev.congr (fun k => if_pos c1) ?_
  rw [if_pos c1]
  exact Ev.now _
 refine Ev.congr (fun k=>if_neg c1) ?_
 rw [if_neg c1]
 exact Ev.now _
theorem OrderAt_ev (l : List Int) : Ev (fun k=>turns_OrderAt.f k l) (if OrdP l then(sjtAt l.length l,0) else(0,2)):=by
 refine Ev.bind (f:=fun k (b : Bool)=>_) (isOrder_ev l) ?_
 by_cases c : OrdP l
 rotate_left
 ·rw [decide_eq_false c, if_neg c]
  exact Ev.congr (fun k=>if_neg (by decide)) (Ev.now _)
 rw [decide_eq_true c,if_pos c]
 refine Ev.congr (fun k=>if_pos rfl) ?_
 exact Ev.bind (f:=fun k (t : Int)=>some (t,(0 : Int))) (orderAt_ev c) (Ev.now _)
end Go.Proofs.Ytbfhlaggllofdaa.P

namespace Go.Proofs.Ytbfhlaggllofdaa.S
open Go.Proofs.Ytbfhlaggllofdaa.Lib
open Go.Maps (Keyed)
open Go.RowKit Go.Proofs.YtbfhlaggllofdaaW.PrintWords Go.Proofs.YtbfhlaggllofdaaW.PrintLast Go.Proofs.YtbfhlaggllofdaaW.PrintMore
attribute [local go_sem] max2_int min2_int max_two min_two max_three min_three max_four min_four
set_option linter.unusedVariables false
set_option linter.unusedSimpArgs false

theorem eqA45 (d : Nat) (w : World) (x0 y0 : Int) (x1 y1 : Int) :
  (Op.equalIn (d + 2) 45 (.agg #[.int .i64 x0,.int .i64 x1]) (.agg #[.int .i64 y0,.int .i64 y1])).run Try.prog w = .ok (x0 == y0 && (x1 == y1)) w:=by
 have u3:=Try.underlying3
 have a3:=Try.isAgg3
 have z3:=Try.sizeOf3
 rw [show(d + 2 : Nat) =(d + 1) + 1 from rfl,Op.equalIn]
 simp only [Sem.run_bind,run_underlying Try.underlying45,Result.andThen_ok]
 simp only [Std.Legacy.Range.forIn_eq_forIn_range',Std.Legacy.Range.size,Nat.sub_zero,Nat.add_sub_cancel,Nat.div_one,List.range'_succ,List.range'_zero,List.forIn_cons,List.forIn_nil]
 go_simp
 by_cases h1 : x0 = y0 <;> by_cases h2 : x1 = y1 <;> simp [h1,h2]
end Go.Proofs.Ytbfhlaggllofdaa.S

namespace Go.Proofs.Ytbfhlaggllofdaa.P
open Go.RowKit Go.Proofs.Ytbfhlaggllofdaa.S Go.Proofs.Ytbfhlaggllofdaa.G Go.Proofs.Ytbfhlaggllofdaa.T Go.Proofs.YtbfhlaggllofdaaW.PrintWords Go.Proofs.YtbfhlaggllofdaaW.PrintLast Go.Proofs.YtbfhlaggllofdaaW.PrintMore
set_option linter.unusedVariables false
theorem sjt_ord {n : Nat} (hn : n≤18) (a : Int) : OrdP (sjt n a):=⟨by rw [sjt_len];exact hn,fun x hx=>by have:=(sjt_mem n a x).1 hx;rw [sjt_len];exact this,sjt_nodup n a⟩
theorem order_some {n : Nat} {a : Int} (hn : n≤18) (h0 : 0≤a) (h1 : a < fact n) : turns_Order.f (n : Int) a = some (sjt n a,0):=by
 unfold turns_Order.f
 rw [show((n : Int)).toNat = n by omega,if_pos ⟨by omega,by omega,by omega,by omega⟩]
theorem own_end {n : Nat} (hn : n≤18) {m : Int} (m0 : 0≤m) (m1 : m < fact n) : ∀ (e i : Nat) (z : List Int),z.length = n→i + e = n→Ev (fun k=>w10_TurnsOwn.l0 k (n : Int) m z (sjt n m) (i : Int)) true:=by
 intro e
 induction e with
 | zero =>
  intro i z hz h
  have S1:=order_some hn m0 m1
  have hI:=ints_ev (sjt n m) (sjt n m) (by rw [sjt_len];omega)
  rw [decide_eq_true rfl] at hI
  refine Ev.step (f:=fun k=>(w10_ints.f k (sjt n m) (sjt n m)).bind fun t648=>(if t648 = true then((q10_Order.f k (n : Int) m).bind fun t649=>((w10_ints.f k (sjt n m) t649).bind fun t652=>(if t652 = true then((w10_awake.f k).bind fun t653=>(some t653)) else(some false)))) else(some false))) (fun k=>?_) ?_
  ·simp only [w10_TurnsOwn.l0]
   rw [if_neg (by omega),S1]
   simp only [Option.bind_some,if_true]
  refine Ev.bind (f:=fun k (t : Bool)=>_) hI ?_
  refine Ev.congr (fun k=>if_pos rfl) ?_
  refine Ev.bind (f:=fun k (t : List Int)=>_) (refOrder_ev n m hn m0 m1) ?_
  refine Ev.bind (f:=fun k (t : Bool)=>_) hI ?_
  exact Ev.congr (fun k=>if_pos rfl) awake_some
 | succ e ih =>
  intro i z hz h
  refine Ev.step (fun k=>?_) (ih (i + 1) (z.set i (-1)) (by rw [List.length_set];exact hz) (by omega))
  simp only [w10_TurnsOwn.l0]
  rw [if_pos (by omega),if_pos (by omega),succ64 i (by omega),show((i : Int)).toNat = i by omega]
theorem turnsOwn_law (x y : Int) : ∃ k,w10_TurnsOwn.f k x y = some true:=by
 refine Ev.rounds ?_
 obtain ⟨q,hq,q0,q1⟩:=mod_ok x (b:=19) (by omega) (by omega)
 obtain ⟨n,rfl⟩ : ∃ n : Nat,q = n:=⟨q.toNat,by omega⟩
 have hn : n≤18:=by omega
 have b:=fact_le (n:=n) hn
 obtain ⟨m,hm,m0,m1⟩:=mod_ok y (b:=fact n) (by omega) (by omega)
 have S1:=order_some hn m0 m1
 have hO:=sjt_ord hn m
 have hlen:=sjt_len n m
 have hat:=sjtAt_sjt n m m0 m1
 have hT:=Turn_ev (sjt n m)
 have hA:=OrderAt_ev (sjt n m)
 rw [if_pos hO] at hT hA
 rw [hlen,hat] at hA
 have hL : w10_list.f (sjt n m) = some (sjt n m):=by
  unfold w10_list.f
  rw [List.take_of_length_le (by omega)]
 have hI:=ints_ev (sjt n m) (sjt n m) (by omega)
 rw [decide_eq_true rfl] at hI
 have hj : Ev (fun k=>w10_TurnsOwn.j0 k (n : Int) m (sjt n m) (sjt n m) (!true)) true:=by
  refine Ev.step (fun k=>?_) (own_end hn m0 m1 n 0 (sjt n m) hlen (by omega))
  simp only [w10_TurnsOwn.j0]
  rw [if_neg (by decide)]
  rfl
 refine Ev.congr (f:=fun k=>(q10_Factorial.f k (n : Int)).bind fun t627=>((w10_mod.f y t627).bind fun t628=>((turns_Order.f (n : Int) t628).bind fun bt629=>((w10_list.f bt629.1).bind fun t633=>((turns_OrderAt.f k bt629.1).bind fun bt636=>((turns_Turn.f k bt629.1).bind fun bt638=>(if bt629.2 = 0 then(if bt636.2 = 0 then(if bt638.2.2 = 0 then(if bt636.1 = t628 then((w10_ints.f k bt629.1 t633).bind fun t642=>(w10_TurnsOwn.j0 k (n : Int) t628 bt629.1 t633 (!t642))) else(w10_TurnsOwn.j0 k (n : Int) t628 bt629.1 t633 true)) else(w10_TurnsOwn.j0 k (n : Int) t628 bt629.1 t633 true)) else(w10_TurnsOwn.j0 k (n : Int) t628 bt629.1 t633 true)) else(w10_TurnsOwn.j0 k (n : Int) t628 bt629.1 t633 true)))))))) (fun k=>?_) ?_
 ·unfold w10_TurnsOwn.f
  rw [hq]
  simp only [Option.bind_some]
 refine Ev.bind (f:=fun k (t : Int)=>_) (factorial_ev hn) ?_
 rw [hm]
 simp only [Option.bind_some]
 rw [S1]
 simp only [Option.bind_some]
 rw [hL]
 simp only [Option.bind_some]
 refine Ev.bind (f:=fun k (t : Int×Int)=>_) hA ?_
 refine Ev.bind (f:=fun k (t : Int×Int×Int)=>_) hT ?_
 simp only [if_true]
 exact Ev.bind (f:=fun k (t : Bool)=>_) hI hj
end Go.Proofs.Ytbfhlaggllofdaa.P

namespace Go.Proofs.Ytbfhlaggllofdaa.Pure
open Go.RowKit Go.Proofs.Ytbfhlaggllofdaa.S Go.Proofs.YtbfhlaggllofdaaW.PrintWords Go.Proofs.YtbfhlaggllofdaaW.PrintLast
theorem TurnsOwn : w10_TurnsOwn.Pure:=fun a0 a1 _ _=>P.turnsOwn_law a0 a1
end Go.Proofs.Ytbfhlaggllofdaa.Pure
