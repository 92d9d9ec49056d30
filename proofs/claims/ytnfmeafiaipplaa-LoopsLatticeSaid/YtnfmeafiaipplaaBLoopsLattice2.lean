-- Written by wip/bundle2.py: texts of this claim, one behind the other.
import Derived.Test.YtnfmeafiaipplaaBLoopsLattice1
import Derived.BigRegion
import Derived.StillTailTactics
import Derived.Deep.RegionHeldLaw
import Derived.Scope
set_option linter.unusedVariables false
set_option linter.unusedSimpArgs false

namespace Go.Proofs.Ytnfmeafiaipplaa.S
open Go.Proofs.Ytnfmeafiaipplaa.Lib
open Go.Maps (Keyed)
open Go.RowKit Go.Proofs.YtnfmeafiaipplaaW.PrintWords Go.Proofs.YtnfmeafiaipplaaW.PrintLast Go.Proofs.YtnfmeafiaipplaaW.PrintMore
attribute [local go_sem] max2_int min2_int max_two min_two max_three min_three max_four min_four
set_option linter.unusedVariables false
set_option linter.unusedSimpArgs false

def w06_tame.l0 : Nat → List (S39) → Int → List (S39) → Int → Option ((List (S39)))
 | 0,_,_,_,_=>none
 | k + 1,x0,x5,x6,x7=>if x7 < x5 then(if x7 < (x0.length : Int) then(if 0≤x7 then((w06_mod.f ((rd_T39 x0 x7).f0) 6).bind fun t266=>(if t266 ≥ 4 then((w06_mod.f ((rd_T39 x0 x7).f1) x5).bind fun t268=>((w06_mod.f ((rd_T39 x0 x7).f2) x5).bind fun t270=>(if x6.length < 5864062014805 then(w06_tame.l0 k x0 x5 (x6 ++ [(⟨t266,t268,t270⟩ : S39)]) (wrap64 (x7 + 1))) else(none)))) else(if x6.length < 5864062014805 then(w06_tame.l0 k x0 x5 (x6 ++ [(⟨t266,0,0⟩ : S39)]) (wrap64 (x7 + 1))) else(none)))) else(none)) else(if x6.length < 5864062014805 then(w06_tame.l0 k x0 x5 (x6 ++ [(⟨0,0,0⟩ : S39)]) (wrap64 (x7 + 1))) else(none))) else(some x6)
def w06_tame.f (k : Nat) (l0 : List (S39)) (a1 : Int) : Option ((List (S39))):=(w06_mod.f (wrap64 ((l0.length : Int) - 1)) a1).bind fun t263=>(w06_tame.l0 k l0 (wrap64 (1 + t263)) ([] : List (S39)) 0)
set_option maxHeartbeats 8000000 in
set_option maxRecDepth 100000 in
theorem w06_tame.calls (k : Nat) (A0 : Option Addr) (c0 : Nat) (l0 : List (S39)) (a1 : Int) (r : List (S39)) (w : World) (hr0 : Kd.C k39 w A0 l0.length l0) (hc0 : l0.length ≤ c0) (h : w06_tame.f k l0 a1 = some r) :
  Calls Try.prog 23 #[.slice A0 l0.length c0,.int .i64 a1] w fun e w'=>∃ v0_ : Value,e = .returned (v0_)∧Kd.R k39 39 w' w.heap.size (fun _=>True) v0_ r∧Below w.heap.size w w':=by
 have hu39:=Try.underlying39
 have HR0:=Aside0.mk hr0
 have HC0:=Aside0.mk hc0
 clear hr0 hc0
 have HB:=Aside0.mk (Below.refl w.heap.size w)
 have H :((w06_mod.f (wrap64 ((l0.length : Int) - 1)) a1).bind fun t263=>(w06_tame.l0 k l0 (wrap64 (1 + t263)) ([] : List (S39)) 0)) = some r:=h
 clear h
 replace H:=Option.bind_eq_some_iff.mp H
 obtain ⟨t263,A30,H⟩:=H
 replace H :(w06_tame.l0 k l0 (wrap64 (1 + t263)) ([] : List (S39)) 0) = some r:=H
 have A3:=Aside0.mk A30
 clear A30
 have H':=Aside0.mk H
 clear H
 go_enter Try.func23,Try.ntmps23
 go_wp2_with (first |((with_reducible refine gate_callee (f:=24) rfl ?_);refine goesL_ (some 13) rfl rfl Try.func24 (by kernel_rfl) rfl #[.int .i64 (wrap64 ((l0.length : Int) - 1)),.int .i64 a1] rfl (by(try simp only [List.map_toArray,List.map_cons,List.map_nil]);first | done | rfl |(simp only [List.length_drop,List.length_take];rfl)) ?_;(with_reducible refine(w06_mod.calls (wrap64 ((l0.length : Int) - 1)) a1 t263 _ A3.out).mono ?_);rintro e w' ⟨rfl,⟨nd,rfl⟩⟩;refine⟨_,rfl,?_⟩))
 go_loopg [6,7] k (fun kq v6 v7 w'=>∃ (x6_1 : List (S39)) (x7_1 : Int),v7 = .int .i64 x7_1∧Aside0 (w06_tame.l0 kq l0 (wrap64 (1 + t263)) x6_1 x7_1 = some r)∧Aside0 (kq≤k)∧Aside0 (Kd.R k39 39 w' w.heap.size (fun _=>True) v6 x6_1)∧Aside0 (Below w.heap.size w w'))
 case atStart=>exact⟨(([] : List (S39))),(0),(by first | rfl |(simp;done) |(simp [*];done)),H',⟨Nat.le_refl _⟩,⟨by first | exact Kd.R_nil _ _ _ _ _ | exact Kd.N_nil _ _ _ _ _ | exact Kd.V_nil _ _ _ _ _ | exact Kd.Q_nil _ _ _ _ _ | exact Kd.S_nil _ _ _ _ _⟩,⟨by repeat(first |(with_reducible first | exact HB.out | apply bwA | apply bwN | apply bw1) | exact HB.out)⟩⟩
 clear H'
 try clear c2
 try clear p2
 obtain ⟨x6_1,x7_1,rfl,HA,HK1,HO_6,HB⟩:=hrel
 cases gk with
 | zero=>exact absurd HA.out (by simp [w06_tame.l0])
 | succ k1 =>
  have H:=HA.out
  clear HA
  simp only [w06_tame.l0] at H
  by_cases c4 : x7_1 < (wrap64 (1 + t263))
  rotate_left
  ·rw [if_neg c4] at H
   have c4b0 : decide (x7_1 < (wrap64 (1 + t263))) = false:=decide_eq_false c4
   clear c4
   obtain rfl:=Option.some.inj H
   go_wp2
   go_ret
   exact⟨_,by first | rfl |(simp [errW_none,errW_some] <;> rfl) |(simp [*,errW_none,errW_some] <;> rfl),by(with_reducible repeat(first | apply Kd.R_alloc | apply Kd.R_drewN | apply Kd.R_drew));exact HO_6.out,by repeat(first |(with_reducible first | exact HB.out | apply bwA | apply bwN | apply bw1) | exact HB.out)⟩
  rw [if_pos c4] at H
  have c4b0 : decide (x7_1 < (wrap64 (1 + t263))) = true:=decide_eq_true c4
  clear c4
  by_cases c5 : x7_1 < (l0.length : Int)
  rotate_left
  ·rw [if_neg c5] at H
   have c5b0 : decide (x7_1 < (l0.length : Int)) = false:=decide_eq_false c5
   clear c5
   by_cases c19 : x6_1.length < 5864062014805
   rotate_left
   ·rw [if_neg c19] at H
    exact absurd H (by simp)
   rw [if_pos c19] at H
   have LMc19:=Aside0.mk c19
   clear c19
   obtain ⟨y277,hy277⟩ : ∃ y_ : List (S39),y_ =(x6_1 ++ [(⟨0,0,0⟩ : S39)]):=⟨_,rfl⟩
   replace H :(w06_tame.l0 k1 l0 (wrap64 (1 + t263)) y277 (wrap64 (x7_1 + 1))) = some r:=by first |(rw [hy277];with_reducible exact H) |(have H2_:=(Option.bind_some _ _).symm.trans H;rw [hy277];with_reducible exact H2_) |(have H2_:=(Option.bind_some _ _).symm.trans H;with_reducible exact H2_) | with_reducible exact H |(rw [hy277];exact H) | exact H
   have Ny277:=Aside0.mk hy277
   clear hy277
   have H':=Aside0.mk H
   clear H
   go_wp2_with (first |((with_reducible refine gate_dst (N:=8) rfl ?_);refine box_event ?hg (N:=8) ?hd (cs:=#[.int .i64 0,.int .i64 0,.int .i64 0]) (t:=39) ?hr ?_;(case hd=>rfl);(case hg=>rfl);(case hr=>first |(go_simp;done) |(go_simp;rfl));intro gb hg wb hbox hb;have BX:=Aside0.mk (Box.made (by repeat(first | exact HB.out | apply bwA | apply bwN | apply bw1)) (by(with_reducible repeat(first | apply Kd.R_alloc | apply Kd.R_drewN | apply Kd.R_drew));exact HO_6.out) hg hbox hb);clear hg hbox hb HB HO_6;have hc0:=BX.out.cell0;have hc1:=BX.out.cell1;have hc2:=BX.out.cell2;have hf0:=BX.out.fz 0;have hf1:=BX.out.fz 1;have hf2:=BX.out.fz 2) |((with_reducible refine gate_store (t:=39) (p:=8) rfl ?_);refine put_event (w:=w) (g:=gb) (vv:=u6) (xs:=x6_1) (W1:=?W1_8_2) (0)  (0)  (0) rfl rfl rfl ?hr ?hb ?_;(case hr=>first |(go_simp;done) |(go_simp;rfl));(case hb=>exact(Box.put2 (Box.put1 (Box.put0 (by repeat(first | exact BX.out | apply Box.drewN | apply Box.drew)) 0) 0) 0));intro wb hbx;clear BX;have BX:=Aside0.mk hbx;clear hbx;clear hc0 hc1 hc2 hf0 hf1 hf2;have hc0:=BX.out.cell0;have hc1:=BX.out.cell1;have hc2:=BX.out.cell2;have hf0:=BX.out.fz 0;have hf1:=BX.out.fz 1;have hf2:=BX.out.fz 2) |((with_reducible refine gate_builtin (b:=.append) (xs:=#[.tmp 51,.tmp 53]) rfl ?_);at_builtin;refine Kd.R_append k39 (w0:=w) w.heap.size rfl (.tmp 51) (.tmp 53) 22 39 (.agg #[(.int .i64 0),(.int .i64 0),(.int .i64 0)]) 24 rfl Try.underlying22 info39 rfl (by decide) (by omega) u6 x6_1 (⟨0,0,0⟩ : S39) [.int .i64 ((0)),.int .i64 ((0)),.int .i64 ((0))] (fun k_=>k_≠gb) (fun _=>False) rfl (by first |(go_simp;done) |(go_simp;rfl)) ?aP (fun _ hk=>hk.elim) ?aF ?aO ?aB ?aS ?aL ?_;(case aP=>exact k39_mkM _ _ _ (⟨0,0,0⟩ : S39));(case aB=>repeat(first | exact BX.out.below | apply bwA | apply bwN | apply bw1));(case aF=>exact(Kd.freshB (by repeat(first | exact BX.out.blk | refine bkN ?_ _ | refine bkD ?_ | refine bkA ?_ _))));(case aO=>repeat(first | exact BX.out.row | apply Kd.R_alloc | apply Kd.R_drewN | apply Kd.R_drew));(case aS=>exact(bwZ (by repeat(first | exact BX.out.below | apply bwA | apply bwN | apply bw1))));(case aL=>have:=LMc19.out;omega);intro v13 w13 ho hb hg hat;rw [← Ny277.out] at ho;clear BX;have HO279:=Aside0.mk ho;have HB:=Aside0.mk hb;clear ho hb hg hat))
   go_roundg k1
   case measure=>have:=HK1.out;omega
   exact⟨(y277),(wrap64 (x7_1 + 1)),(by first | rfl |(simp;done) |(simp [*];done)),H',⟨by have:=HK1.out;omega⟩,⟨by(with_reducible repeat(first | apply Kd.R_alloc | apply Kd.R_drewN | apply Kd.R_drew));exact Kd.R_mono HO279.out (fun _ hk=>trivial)⟩,⟨by repeat(first |(with_reducible first | exact HB.out | apply bwA | apply bwN | apply bw1) | exact HB.out)⟩⟩
  rw [if_pos c5] at H
  have c5b0 : decide (x7_1 < (l0.length : Int)) = true:=decide_eq_true c5
  clear c5
  by_cases c6 : 0≤x7_1
  rotate_left
  ·rw [if_neg c6] at H
   exact absurd H (by simp)
  rw [if_pos c6] at H
  have c6b0 : decide (0≤x7_1) = true:=decide_eq_true c6
  clear c6
  replace H:=Option.bind_eq_some_iff.mp H
  obtain ⟨t266,A70,H⟩:=H
  replace H :(if t266 ≥ 4 then((w06_mod.f ((rd_T39 l0 x7_1).f1) (wrap64 (1 + t263))).bind fun t268=>((w06_mod.f ((rd_T39 l0 x7_1).f2) (wrap64 (1 + t263))).bind fun t270=>(if x6_1.length < 5864062014805 then(w06_tame.l0 k1 l0 (wrap64 (1 + t263)) (x6_1 ++ [(⟨t266,t268,t270⟩ : S39)]) (wrap64 (x7_1 + 1))) else(none)))) else(if x6_1.length < 5864062014805 then(w06_tame.l0 k1 l0 (wrap64 (1 + t263)) (x6_1 ++ [(⟨t266,0,0⟩ : S39)]) (wrap64 (x7_1 + 1))) else(none))) = some r:=H
  have A7:=Aside0.mk A70
  clear A70
  by_cases c8 : t266 ≥ 4
  rotate_left
  ·rw [if_neg c8] at H
   have c8b0 : decide (4≤t266) = false:=decide_eq_false c8
   clear c8
   by_cases c15 : x6_1.length < 5864062014805
   rotate_left
   ·rw [if_neg c15] at H
    exact absurd H (by simp)
   rw [if_pos c15] at H
   have LMc15:=Aside0.mk c15
   clear c15
   obtain ⟨y274,hy274⟩ : ∃ y_ : List (S39),y_ =(x6_1 ++ [(⟨t266,0,0⟩ : S39)]):=⟨_,rfl⟩
   replace H :(w06_tame.l0 k1 l0 (wrap64 (1 + t263)) y274 (wrap64 (x7_1 + 1))) = some r:=by first |(rw [hy274];with_reducible exact H) |(have H2_:=(Option.bind_some _ _).symm.trans H;rw [hy274];with_reducible exact H2_) |(have H2_:=(Option.bind_some _ _).symm.trans H;with_reducible exact H2_) | with_reducible exact H |(rw [hy274];exact H) | exact H
   have Ny274:=Aside0.mk hy274
   clear hy274
   have H':=Aside0.mk H
   clear H
   have p_ : 0 ≤(x7_1 : Int):=of_decide_eq_true (by first |(with_reducible assumption) | assumption)
   have q_ : x7_1 < (l0.length : Int):=of_decide_eq_true (by first |(with_reducible assumption) | assumption)
   obtain ⟨ad_,e_,hx0,hx1,hx2⟩:=at_T39 HR0.out x7_1 p_ q_
   cases e_
   have HX0:=Aside0.mk hx0
   have HX1:=Aside0.mk hx1
   have HX2:=Aside0.mk hx2
   clear hx0 hx1 hx2
   replace p_:=eq_true p_
   replace q_:=eq_true q_
   go_wp2_with (first |((with_reducible refine gate_dst (N:=8) rfl ?_);refine box_event ?hg (N:=8) ?hd (cs:=#[.int .i64 0,.int .i64 0,.int .i64 0]) (t:=39) ?hr ?_;(case hd=>rfl);(case hg=>rfl);(case hr=>first |(go_simp;done) |(go_simp;rfl));intro gb hg wb hbox hb;have BX:=Aside0.mk (Box.made (by repeat(first | exact HB.out | apply bwA | apply bwN | apply bw1)) (by(with_reducible repeat(first | apply Kd.R_alloc | apply Kd.R_drewN | apply Kd.R_drew));exact HO_6.out) hg hbox hb);clear hg hbox hb HB HO_6;have hc0:=BX.out.cell0;have hc1:=BX.out.cell1;have hc2:=BX.out.cell2;have hf0:=BX.out.fz 0;have hf1:=BX.out.fz 1;have hf2:=BX.out.fz 2;have hl0:=BX.out.old HX0.out;have hl1:=BX.out.old HX1.out;have hl2:=BX.out.old HX2.out) |((with_reducible refine gate_store (t:=39) (p:=8) rfl ?_);refine put_event (w:=w) (g:=gb) (vv:=u6) (xs:=x6_1) (W1:=?W1_8_1) (0)  (0)  (0) rfl rfl rfl ?hr ?hb ?_;(case hr=>first |(go_simp;done) |(go_simp;rfl));(case hb=>exact(Box.put2 (Box.put1 (Box.put0 (by repeat(first | exact BX.out | apply Box.drewN | apply Box.drew)) 0) 0) 0));intro wb hbx;clear BX;have BX:=Aside0.mk hbx;clear hbx;clear hc0 hc1 hc2 hf0 hf1 hf2;clear hl0 hl1 hl2;have hc0:=BX.out.cell0;have hc1:=BX.out.cell1;have hc2:=BX.out.cell2;have hf0:=BX.out.fz 0;have hf1:=BX.out.fz 1;have hf2:=BX.out.fz 2;have hl0:=BX.out.old HX0.out;have hl1:=BX.out.old HX1.out;have hl2:=BX.out.old HX2.out) |((with_reducible refine gate_dst (N:=30) rfl ?_);(with_reducible refine gate_callee (f:=24) rfl ?_);refine goesL_ (some 30) rfl rfl Try.func24 (by kernel_rfl) rfl #[.int .i64 ((rd_T39 l0 x7_1).f0),.int .i64 6] rfl (by(try simp only [List.map_toArray,List.map_cons,List.map_nil]);first | done | rfl |(simp only [List.length_drop,List.length_take];rfl)) ?_;(with_reducible refine(w06_mod.calls ((rd_T39 l0 x7_1).f0) 6 t266 _ A7.out).mono ?_);rintro e w' ⟨rfl,⟨nd,rfl⟩⟩;refine⟨_,rfl,?_⟩) |((with_reducible refine gate_store (t:=3) (p:=31) rfl ?_);refine put_event (w:=w) (g:=gb) (vv:=u6) (xs:=x6_1) (W1:=?W1_31_1) t266  (0)  (0) rfl rfl rfl ?hr ?hb ?_;(case hr=>first |(go_simp;done) |(go_simp;rfl));(case hb=>exact(Box.put0 (by repeat(first | exact BX.out | apply Box.drewN | apply Box.drew)) t266));intro wb hbx;clear BX;have BX:=Aside0.mk hbx;clear hbx;clear hc0 hc1 hc2 hf0 hf1 hf2;clear hl0 hl1 hl2;have hc0:=BX.out.cell0;have hc1:=BX.out.cell1;have hc2:=BX.out.cell2;have hf0:=BX.out.fz 0;have hf1:=BX.out.fz 1;have hf2:=BX.out.fz 2;have hl0:=BX.out.old HX0.out;have hl1:=BX.out.old HX1.out;have hl2:=BX.out.old HX2.out) |((with_reducible refine gate_builtin (b:=.append) (xs:=#[.tmp 51,.tmp 53]) rfl ?_);at_builtin;refine Kd.R_append k39 (w0:=w) w.heap.size rfl (.tmp 51) (.tmp 53) 22 39 (.agg #[(.int .i64 0),(.int .i64 0),(.int .i64 0)]) 24 rfl Try.underlying22 info39 rfl (by decide) (by omega) u6 x6_1 (⟨t266,0,0⟩ : S39) [.int .i64 ((t266)),.int .i64 ((0)),.int .i64 ((0))] (fun k_=>k_≠gb) (fun _=>False) rfl (by first |(go_simp;done) |(go_simp;rfl)) ?aP (fun _ hk=>hk.elim) ?aF ?aO ?aB ?aS ?aL ?_;(case aP=>exact k39_mkM _ _ _ (⟨t266,0,0⟩ : S39));(case aB=>repeat(first | exact BX.out.below | apply bwA | apply bwN | apply bw1));(case aF=>exact(Kd.freshB (by repeat(first | exact BX.out.blk | refine bkN ?_ _ | refine bkD ?_ | refine bkA ?_ _))));(case aO=>repeat(first | exact BX.out.row | apply Kd.R_alloc | apply Kd.R_drewN | apply Kd.R_drew));(case aS=>exact(bwZ (by repeat(first | exact BX.out.below | apply bwA | apply bwN | apply bw1))));(case aL=>have:=LMc15.out;omega);intro v13 w13 ho hb hg hat;rw [← Ny274.out] at ho;clear BX;have HO276:=Aside0.mk ho;have HB:=Aside0.mk hb;clear ho hb hg hat))
   go_roundg k1
   case measure=>have:=HK1.out;omega
   exact⟨(y274),(wrap64 (x7_1 + 1)),(by first | rfl |(simp;done) |(simp [*];done)),H',⟨by have:=HK1.out;omega⟩,⟨by(with_reducible repeat(first | apply Kd.R_alloc | apply Kd.R_drewN | apply Kd.R_drew));exact Kd.R_mono HO276.out (fun _ hk=>trivial)⟩,⟨by repeat(first |(with_reducible first | exact HB.out | apply bwA | apply bwN | apply bw1) | exact HB.out)⟩⟩
  rw [if_pos c8] at H
  have c8b0 : decide (4≤t266) = true:=decide_eq_true c8
  clear c8
  replace H:=Option.bind_eq_some_iff.mp H
  obtain ⟨t268,A90,H⟩:=H
  replace H :((w06_mod.f ((rd_T39 l0 x7_1).f2) (wrap64 (1 + t263))).bind fun t270=>(if x6_1.length < 5864062014805 then(w06_tame.l0 k1 l0 (wrap64 (1 + t263)) (x6_1 ++ [(⟨t266,t268,t270⟩ : S39)]) (wrap64 (x7_1 + 1))) else(none))) = some r:=H
  have A9:=Aside0.mk A90
  clear A90
  replace H:=Option.bind_eq_some_iff.mp H
  obtain ⟨t270,A100,H⟩:=H
  replace H :(if x6_1.length < 5864062014805 then(w06_tame.l0 k1 l0 (wrap64 (1 + t263)) (x6_1 ++ [(⟨t266,t268,t270⟩ : S39)]) (wrap64 (x7_1 + 1))) else(none)) = some r:=H
  have A10:=Aside0.mk A100
  clear A100
  by_cases c11 : x6_1.length < 5864062014805
  rotate_left
  ·rw [if_neg c11] at H
   exact absurd H (by simp)
  rw [if_pos c11] at H
  have LMc11:=Aside0.mk c11
  clear c11
  obtain ⟨y271,hy271⟩ : ∃ y_ : List (S39),y_ =(x6_1 ++ [(⟨t266,t268,t270⟩ : S39)]):=⟨_,rfl⟩
  replace H :(w06_tame.l0 k1 l0 (wrap64 (1 + t263)) y271 (wrap64 (x7_1 + 1))) = some r:=by first |(rw [hy271];with_reducible exact H) |(have H2_:=(Option.bind_some _ _).symm.trans H;rw [hy271];with_reducible exact H2_) |(have H2_:=(Option.bind_some _ _).symm.trans H;with_reducible exact H2_) | with_reducible exact H |(rw [hy271];exact H) | exact H
  have Ny271:=Aside0.mk hy271
  clear hy271
  have H':=Aside0.mk H
  clear H
  have p_ : 0 ≤(x7_1 : Int):=of_decide_eq_true (by first |(with_reducible assumption) | assumption)
  have q_ : x7_1 < (l0.length : Int):=of_decide_eq_true (by first |(with_reducible assumption) | assumption)
  obtain ⟨ad_,e_,hx0,hx1,hx2⟩:=at_T39 HR0.out x7_1 p_ q_
  cases e_
  have HX0:=Aside0.mk hx0
  have HX1:=Aside0.mk hx1
  have HX2:=Aside0.mk hx2
  clear hx0 hx1 hx2
  replace p_:=eq_true p_
  replace q_:=eq_true q_
  go_wp2_with (first |((with_reducible refine gate_dst (N:=8) rfl ?_);refine box_event ?hg (N:=8) ?hd (cs:=#[.int .i64 0,.int .i64 0,.int .i64 0]) (t:=39) ?hr ?_;(case hd=>rfl);(case hg=>rfl);(case hr=>first |(go_simp;done) |(go_simp;rfl));intro gb hg wb hbox hb;have BX:=Aside0.mk (Box.made (by repeat(first | exact HB.out | apply bwA | apply bwN | apply bw1)) (by(with_reducible repeat(first | apply Kd.R_alloc | apply Kd.R_drewN | apply Kd.R_drew));exact HO_6.out) hg hbox hb);clear hg hbox hb HB HO_6;have hc0:=BX.out.cell0;have hc1:=BX.out.cell1;have hc2:=BX.out.cell2;have hf0:=BX.out.fz 0;have hf1:=BX.out.fz 1;have hf2:=BX.out.fz 2;have hl0:=BX.out.old HX0.out;have hl1:=BX.out.old HX1.out;have hl2:=BX.out.old HX2.out) |((with_reducible refine gate_store (t:=39) (p:=8) rfl ?_);refine put_event (w:=w) (g:=gb) (vv:=u6) (xs:=x6_1) (W1:=?W1_8_0) (0)  (0)  (0) rfl rfl rfl ?hr ?hb ?_;(case hr=>first |(go_simp;done) |(go_simp;rfl));(case hb=>exact(Box.put2 (Box.put1 (Box.put0 (by repeat(first | exact BX.out | apply Box.drewN | apply Box.drew)) 0) 0) 0));intro wb hbx;clear BX;have BX:=Aside0.mk hbx;clear hbx;clear hc0 hc1 hc2 hf0 hf1 hf2;clear hl0 hl1 hl2;have hc0:=BX.out.cell0;have hc1:=BX.out.cell1;have hc2:=BX.out.cell2;have hf0:=BX.out.fz 0;have hf1:=BX.out.fz 1;have hf2:=BX.out.fz 2;have hl0:=BX.out.old HX0.out;have hl1:=BX.out.old HX1.out;have hl2:=BX.out.old HX2.out) |((with_reducible refine gate_dst (N:=30) rfl ?_);(with_reducible refine gate_callee (f:=24) rfl ?_);refine goesL_ (some 30) rfl rfl Try.func24 (by kernel_rfl) rfl #[.int .i64 ((rd_T39 l0 x7_1).f0),.int .i64 6] rfl (by(try simp only [List.map_toArray,List.map_cons,List.map_nil]);first | done | rfl |(simp only [List.length_drop,List.length_take];rfl)) ?_;(with_reducible refine(w06_mod.calls ((rd_T39 l0 x7_1).f0) 6 t266 _ A7.out).mono ?_);rintro e w' ⟨rfl,⟨nd,rfl⟩⟩;refine⟨_,rfl,?_⟩) |((with_reducible refine gate_store (t:=3) (p:=31) rfl ?_);refine put_event (w:=w) (g:=gb) (vv:=u6) (xs:=x6_1) (W1:=?W1_31_0) t266  (0)  (0) rfl rfl rfl ?hr ?hb ?_;(case hr=>first |(go_simp;done) |(go_simp;rfl));(case hb=>exact(Box.put0 (by repeat(first | exact BX.out | apply Box.drewN | apply Box.drew)) t266));intro wb hbx;clear BX;have BX:=Aside0.mk hbx;clear hbx;clear hc0 hc1 hc2 hf0 hf1 hf2;clear hl0 hl1 hl2;have hc0:=BX.out.cell0;have hc1:=BX.out.cell1;have hc2:=BX.out.cell2;have hf0:=BX.out.fz 0;have hf1:=BX.out.fz 1;have hf2:=BX.out.fz 2;have hl0:=BX.out.old HX0.out;have hl1:=BX.out.old HX1.out;have hl2:=BX.out.old HX2.out) |((with_reducible refine gate_dst (N:=41) rfl ?_);(with_reducible refine gate_callee (f:=24) rfl ?_);refine goesL_ (some 41) rfl rfl Try.func24 (by kernel_rfl) rfl #[.int .i64 ((rd_T39 l0 x7_1).f1),.int .i64 (wrap64 (1 + t263))] rfl (by(try simp only [List.map_toArray,List.map_cons,List.map_nil]);first | done | rfl |(simp only [List.length_drop,List.length_take];rfl)) ?_;(with_reducible refine(w06_mod.calls ((rd_T39 l0 x7_1).f1) (wrap64 (1 + t263)) t268 _ A9.out).mono ?_);rintro e w' ⟨rfl,⟨nd,rfl⟩⟩;refine⟨_,rfl,?_⟩) |((with_reducible refine gate_store (t:=3) (p:=42) rfl ?_);refine put_event (w:=w) (g:=gb) (vv:=u6) (xs:=x6_1) (W1:=?W1_42_0) t266  t268  (0) rfl rfl rfl ?hr ?hb ?_;(case hr=>first |(go_simp;done) |(go_simp;rfl));(case hb=>exact(Box.put1 (by repeat(first | exact BX.out | apply Box.drewN | apply Box.drew)) t268));intro wb hbx;clear BX;have BX:=Aside0.mk hbx;clear hbx;clear hc0 hc1 hc2 hf0 hf1 hf2;clear hl0 hl1 hl2;have hc0:=BX.out.cell0;have hc1:=BX.out.cell1;have hc2:=BX.out.cell2;have hf0:=BX.out.fz 0;have hf1:=BX.out.fz 1;have hf2:=BX.out.fz 2;have hl0:=BX.out.old HX0.out;have hl1:=BX.out.old HX1.out;have hl2:=BX.out.old HX2.out) |((with_reducible refine gate_dst (N:=49) rfl ?_);(with_reducible refine gate_callee (f:=24) rfl ?_);refine goesL_ (some 49) rfl rfl Try.func24 (by kernel_rfl) rfl #[.int .i64 ((rd_T39 l0 x7_1).f2),.int .i64 (wrap64 (1 + t263))] rfl (by(try simp only [List.map_toArray,List.map_cons,List.map_nil]);first | done | rfl |(simp only [List.length_drop,List.length_take];rfl)) ?_;(with_reducible refine(w06_mod.calls ((rd_T39 l0 x7_1).f2) (wrap64 (1 + t263)) t270 _ A10.out).mono ?_);rintro e w' ⟨rfl,⟨nd,rfl⟩⟩;refine⟨_,rfl,?_⟩) |((with_reducible refine gate_store (t:=3) (p:=50) rfl ?_);refine put_event (w:=w) (g:=gb) (vv:=u6) (xs:=x6_1) (W1:=?W1_50_0) t266  t268  t270 rfl rfl rfl ?hr ?hb ?_;(case hr=>first |(go_simp;done) |(go_simp;rfl));(case hb=>exact(Box.put2 (by repeat(first | exact BX.out | apply Box.drewN | apply Box.drew)) t270));intro wb hbx;clear BX;have BX:=Aside0.mk hbx;clear hbx;clear hc0 hc1 hc2 hf0 hf1 hf2;clear hl0 hl1 hl2;have hc0:=BX.out.cell0;have hc1:=BX.out.cell1;have hc2:=BX.out.cell2;have hf0:=BX.out.fz 0;have hf1:=BX.out.fz 1;have hf2:=BX.out.fz 2;have hl0:=BX.out.old HX0.out;have hl1:=BX.out.old HX1.out;have hl2:=BX.out.old HX2.out) |((with_reducible refine gate_builtin (b:=.append) (xs:=#[.tmp 51,.tmp 53]) rfl ?_);at_builtin;refine Kd.R_append k39 (w0:=w) w.heap.size rfl (.tmp 51) (.tmp 53) 22 39 (.agg #[(.int .i64 0),(.int .i64 0),(.int .i64 0)]) 24 rfl Try.underlying22 info39 rfl (by decide) (by omega) u6 x6_1 (⟨t266,t268,t270⟩ : S39) [.int .i64 ((t266)),.int .i64 ((t268)),.int .i64 ((t270))] (fun k_=>k_≠gb) (fun _=>False) rfl (by first |(go_simp;done) |(go_simp;rfl)) ?aP (fun _ hk=>hk.elim) ?aF ?aO ?aB ?aS ?aL ?_;(case aP=>exact k39_mkM _ _ _ (⟨t266,t268,t270⟩ : S39));(case aB=>repeat(first | exact BX.out.below | apply bwA | apply bwN | apply bw1));(case aF=>exact(Kd.freshB (by repeat(first | exact BX.out.blk | refine bkN ?_ _ | refine bkD ?_ | refine bkA ?_ _))));(case aO=>repeat(first | exact BX.out.row | apply Kd.R_alloc | apply Kd.R_drewN | apply Kd.R_drew));(case aS=>exact(bwZ (by repeat(first | exact BX.out.below | apply bwA | apply bwN | apply bw1))));(case aL=>have:=LMc11.out;omega);intro v13 w13 ho hb hg hat;rw [← Ny271.out] at ho;clear BX;have HO273:=Aside0.mk ho;have HB:=Aside0.mk hb;clear ho hb hg hat))
  go_roundg k1
  case measure=>have:=HK1.out;omega
  exact⟨(y271),(wrap64 (x7_1 + 1)),(by first | rfl |(simp;done) |(simp [*];done)),H',⟨by have:=HK1.out;omega⟩,⟨by(with_reducible repeat(first | apply Kd.R_alloc | apply Kd.R_drewN | apply Kd.R_drew));exact Kd.R_mono HO273.out (fun _ hk=>trivial)⟩,⟨by repeat(first |(with_reducible first | exact HB.out | apply bwA | apply bwN | apply bw1) | exact HB.out)⟩⟩

def w06_sub.f (k : Nat) (l0 : List (S39)) (a1 : Int) (a2 : Int) : Option (Bool×Bool):=(loops_Sub.f k l0 a1 a2).bind fun bt280=>(some (bt280.1,(bt280.2.2.2 == 0)))
set_option maxHeartbeats 8000000 in
set_option maxRecDepth 100000 in
theorem w06_sub.calls (k : Nat) (A0 : Option Addr) (c0 : Nat) (l0 : List (S39)) (a1 : Int) (a2 : Int) (r1 : Bool) (r2 : Bool) (w : World) (hr0 : Kd.C k39 w A0 l0.length l0) (hc0 : l0.length ≤ c0) (h : w06_sub.f k l0 a1 a2 = some (r1, r2)) :
  Calls Try.prog 25 #[.slice A0 l0.length c0,.int .i64 a1,.int .i64 a2] w fun e w'=>e = .returned (.tuple #[.bool r1,.bool r2])∧Below w.heap.size w w':=by
 have hu55:=Try.underlying55
 have HR0:=Aside0.mk hr0
 have HC0:=Aside0.mk hc0
 clear hr0 hc0
 have HB:=Aside0.mk (Below.refl w.heap.size w)
 have H :((loops_Sub.f k l0 a1 a2).bind fun bt280=>(some (bt280.1,(bt280.2.2.2 == 0)))) = some (r1,r2):=h
 clear h
 replace H:=Option.bind_eq_some_iff.mp H
 obtain ⟨⟨t280,t281,t284,t285⟩,A40,H⟩:=H
 replace H :(some (t280,(t285 == 0))) = some (r1,r2):=H
 have A4:=Aside0.mk A40
 clear A40
 simp only [Option.some.injEq,Prod.mk.injEq] at H
 obtain ⟨rfl,rfl⟩:=H
 go_enter Try.func25,Try.ntmps25
 go_wp2_with (first |((with_reducible refine gate_callee (f:=33) rfl ?_);refine goesL_ (some 14) rfl rfl Try.func33 (by kernel_rfl) rfl #[.slice A0 l0.length c0,.int .i64 a1,.int .i64 a2] rfl (by(try simp only [List.map_toArray,List.map_cons,List.map_nil]);first | done | rfl |(simp only [List.length_drop,List.length_take];rfl)) ?_;(with_reducible refine(loops_Sub.calls k _ _ l0 a1 a2 t280 t281 t284 t285 _ ?side1 ?side2 A4.out).mono ?_);(case side1=>repeat(first | exact HR0.out |(with_reducible refine Kd.C_alloc ?_ _) |(with_reducible refine Kd.C_drewN ?_ _) |(with_reducible refine Kd.C_drew ?_)));(case side2=>exact HC0.out);rintro e w5 ⟨v282,rfl,ho0,hb⟩;refine⟨_,rfl,?_⟩;have n0_:=Aside0.mk (Kd.R_lower ho0 (bwZ (by repeat(first |(with_reducible first | exact HB.out | apply bwA | apply bwN | apply bw1) | exact HB.out))));have n1_:=Aside0.mk (bwT (by repeat(first |(with_reducible first | exact HB.out | apply bwA | apply bwN | apply bw1) | exact HB.out)) hb);clear HB;have HO283:=n0_;have HB:=n1_;clear n0_ n1_;(try clear hb);(try clear hb2);(try clear hk);(try clear hi);(try clear ho0)) |((with_reducible refine gate_dst (N:=8) rfl ?_);refine box_event ?hg (N:=8) ?hd (cs:=#[.bool false,.slice none 0 0,.string (⟨#[]⟩ : ByteArray)]) (t:=55) ?hr ?_;(case hd=>rfl);(case hg=>rfl);(case hr=>first |(go_simp;done) |(go_simp;rfl));intro gb286 hg w6 hbox hb;have n0_:=Aside0.mk (Kd.R_below (by(with_reducible repeat(first | apply Kd.R_alloc | apply Kd.R_drewN | apply Kd.R_drew));exact HO283.out) hb);have n1_:=Aside0.mk (bwT (by repeat(first |(with_reducible first | exact HB.out | apply bwA | apply bwN | apply bw1) | exact HB.out)) hb);have n2_:=Aside0.mk (hbox);have n3_:=Aside0.mk ((by rw [hg];exact(bwZ (by repeat(first |(with_reducible first | exact HB.out | apply bwA | apply bwN | apply bw1) | exact HB.out))) : w.heap.size≤gb286));have n4_:=Aside0.mk ((by rw [hg];exact(bwZ (by repeat(first |(with_reducible first | exact HB.out | apply bwA | apply bwN | apply bw1) | exact HB.out))) : w.heap.size≤gb286));clear HO283;clear HB;have HO283:=n0_;have HB:=n1_;have BK286:=n2_;have GW286:=n3_;have GE286:=n4_;clear n0_ n1_ n2_ n3_ n4_;clear hb hbox hg;have hcz7_0 : w6.cell? ⟨gb286,0,none⟩ = some (.bool false):=(bkC BK286.out 0).trans rfl;have hcz7_1 : w6.cell? ⟨gb286,1,none⟩ = some (.slice none 0 0):=(bkC BK286.out 1).trans rfl;have hcz7_2 : w6.cell? ⟨gb286,2,none⟩ = some (.string (⟨#[]⟩ : ByteArray)):=(bkC BK286.out 2).trans rfl;have hfz7_0:=bkF BK286.out 0;have hfz7_1:=bkF BK286.out 1;have hfz7_2:=bkF BK286.out 2;obtain ⟨Ao8,co8,eo8⟩:=Kd.R_slice HO283.out;subst eo8))
 go_ret2
 exact⟨by first | rfl |(simp [errW_none,errW_some] <;> rfl) |(simp [*,errW_none,errW_some] <;> rfl),by repeat(first |(with_reducible first | exact HB.out | apply bwA | apply bwN | apply bw1 | refine bwS ?_ GE286.out) | exact HB.out)⟩

def w06_joined.l0 : Nat → List (S39) → List (S39) → List (S39) → Int → Option ((List (S39)))
 | 0,_,_,_,_=>none
 | k + 1,x0,x1,x5,x6=>if x6 < (x1.length : Int) then(if 0≤x6 then(if((rd_T39 x1 x6).f0) ≥ 4 then(if x5.length < 5864062014805 then(w06_joined.l0 k x0 x1 (x5 ++ [(⟨(rd_T39 x1 x6).f0,wrap64 (((rd_T39 x1 x6).f1) + (x0.length : Int)),wrap64 (((rd_T39 x1 x6).f2) + (x0.length : Int))⟩ : S39)]) (wrap64 (x6 + 1))) else(none)) else(if x5.length < 5864062014805 then(w06_joined.l0 k x0 x1 (x5 ++ [(⟨(rd_T39 x1 x6).f0,(rd_T39 x1 x6).f1,(rd_T39 x1 x6).f2⟩ : S39)]) (wrap64 (x6 + 1))) else(none))) else(none)) else(some x5)
def w06_joined.f (k : Nat) (l0 : List (S39)) (l1 : List (S39)) : Option ((List (S39))):=(some (([] : List (S39)) : List (S39))).bind fun y319=>(if y319.length + l0.length < 5864062014805 then(w06_joined.l0 k l0 l1 (y319 ++ l0) 0) else(none))
set_option maxHeartbeats 8000000 in
set_option maxRecDepth 100000 in
theorem w06_joined.calls (k : Nat) (A0 : Option Addr) (c0 : Nat) (l0 : List (S39)) (A1 : Option Addr) (c1 : Nat) (l1 : List (S39)) (r : List (S39)) (w : World) (hr0 : Kd.C k39 w A0 l0.length l0) (hc0 : l0.length ≤ c0) (hr1 : Kd.C k39 w A1 l1.length l1) (hc1 : l1.length ≤ c1) (h : w06_joined.f k l0 l1 = some r) :
  Calls Try.prog 27 #[.slice A0 l0.length c0,.slice A1 l1.length c1] w fun e w'=>∃ v0_ : Value,e = .returned (v0_)∧Kd.R k39 39 w' w.heap.size (fun _=>True) v0_ r∧Below w.heap.size w w':=by
 have hu39:=Try.underlying39
 have HR0:=Aside0.mk hr0
 have HC0:=Aside0.mk hc0
 clear hr0 hc0
 have HR1:=Aside0.mk hr1
 have HC1:=Aside0.mk hc1
 clear hr1 hc1
 have HB:=Aside0.mk (Below.refl w.heap.size w)
 have H :((some (([] : List (S39)) : List (S39))).bind fun y319=>(if y319.length + l0.length < 5864062014805 then(w06_joined.l0 k l0 l1 (y319 ++ l0) 0) else(none))) = some r:=h
 clear h
 obtain ⟨y319,hy319⟩ : ∃ y_ : List (S39),y_ =(([] : List (S39))):=⟨_,rfl⟩
 replace H :(if y319.length + l0.length < 5864062014805 then(w06_joined.l0 k l0 l1 (y319 ++ l0) 0) else(none)) = some r:=by first |(rw [hy319];with_reducible exact H) |(have H2_:=(Option.bind_some _ _).symm.trans H;rw [hy319];with_reducible exact H2_) |(have H2_:=(Option.bind_some _ _).symm.trans H;with_reducible exact H2_) | with_reducible exact H |(rw [hy319];exact H) | exact H
 have Ny319:=Aside0.mk hy319
 clear hy319
 by_cases c3 : y319.length + l0.length < 5864062014805
 rotate_left
 ·rw [if_neg c3] at H
  exact absurd H (by simp)
 rw [if_pos c3] at H
 have LMc3:=Aside0.mk c3
 clear c3
 obtain ⟨y322,hy322⟩ : ∃ y_ : List (S39),y_ =(y319 ++ l0):=⟨_,rfl⟩
 replace H :(w06_joined.l0 k l0 l1 y322 0) = some r:=by first |(rw [hy322];with_reducible exact H) |(have H2_:=(Option.bind_some _ _).symm.trans H;rw [hy322];with_reducible exact H2_) |(have H2_:=(Option.bind_some _ _).symm.trans H;with_reducible exact H2_) | with_reducible exact H |(rw [hy322];exact H) | exact H
 have Ny322:=Aside0.mk hy322
 clear hy322
 have H':=Aside0.mk H
 clear H
 go_enter Try.func27,Try.ntmps27
 go_wp2_with (first |((with_reducible refine gate_dst (N:=8) rfl ?_);refine Kd.R_lit k39 _ 39 ?hg (N:=8) ?hd (xs:=([] : List (S39))) (inner:=[]) (ok:=fun _=>True) (okp:=fun _=>True) ?hr ?hp (fun _ hk=>hk) trivial (Below.refl _ _) (Nat.le_refl _) (by simp) ?_;(case hd=>rfl);(case hg=>rfl);(case hr=>first |(go_simp;done) |(go_simp;rfl));(case hp=>exact(Reps.none _ _));intro v320 w4 ho5 hb hg_ hnew_;clear hg_ hnew_;(first | rw [← Ny319.out] at ho5 |(simp only [Int.reduceToNat] at ho5;rw [← Ny319.out] at ho5));have n0_:=Aside0.mk (Kd.R_lower ho5 (bwZ (by repeat(first |(with_reducible first | exact HB.out | apply bwA | apply bwN | apply bw1) | exact HB.out))));have n1_:=Aside0.mk (bwT (by repeat(first |(with_reducible first | exact HB.out | apply bwA | apply bwN | apply bw1) | exact HB.out)) hb);clear HB;have HO321:=n0_;have HB:=n1_;clear n0_ n1_;clear hb ho5) |((with_reducible refine gate_builtin (b:=.append) (xs:=#[.tmp 8,.tmp 9]) rfl ?_);at_builtin;refine Kd.R_append_rows k39 (w0:=w) w.heap.size rfl (.tmp 8) (.tmp 9) 22 39 (.agg #[(.int .i64 0),(.int .i64 0),(.int .i64 0)]) 24 rfl Try.underlying22 info39 rfl (by decide) (by omega) v320 y319 l0 _ _ _ (fun _=>True) (fun _=>False) rfl rfl ?aO ?aR (fun _ _ h=>h) (fun _ h=>h.elim) ?aF ?aB ?aS ?aL ?_;(case aR=>repeat(first | exact(Kd.C_below HR0.out HB.out) |(with_reducible refine Kd.C_alloc ?_ _) |(with_reducible refine Kd.C_drewN ?_ _) |(with_reducible refine Kd.C_drew ?_)));(case aB=>exact(by repeat(first |(with_reducible first | exact HB.out | apply bwA | apply bwN | apply bw1) | exact HB.out)));(case aF=>exact(fun _ _=>trivial));(case aO=>exact(by(with_reducible repeat(first | apply Kd.R_alloc | apply Kd.R_drewN | apply Kd.R_drew));exact HO321.out));(case aS=>exact(bwZ (by repeat(first |(with_reducible first | exact HB.out | apply bwA | apply bwN | apply bw1) | exact HB.out))));(case aL=>have:=LMc3.out;omega);intro v323 w6 ho hb hg hat;rw [← Ny322.out] at ho;have n0_:=Aside0.mk (hb);have n1_:=Aside0.mk (ho);clear HB;clear HO321;have HB:=n0_;have HO324:=n1_;clear n0_ n1_;clear ho hb hg hat))
 go_loopg [5,6] k (fun kq v5 v6 w'=>∃ (x5_1 : List (S39)) (x6_1 : Int),v6 = .int .i64 x6_1∧Aside0 (w06_joined.l0 kq l0 l1 x5_1 x6_1 = some r)∧Aside0 (kq≤k)∧Aside0 (Kd.R k39 39 w' w.heap.size (fun _=>True) v5 x5_1)∧Aside0 (Below w.heap.size w w'))
 case atStart=>exact⟨(y322),(0),(by first | rfl |(simp;done) |(simp [*];done)),H',⟨Nat.le_refl _⟩,⟨by(with_reducible repeat(first | apply Kd.R_alloc | apply Kd.R_drewN | apply Kd.R_drew));exact HO324.out⟩,⟨by repeat(first |(with_reducible first | exact HB.out | apply bwA | apply bwN | apply bw1) | exact HB.out)⟩⟩
 clear H'
 try clear c1
 try clear c2
 try clear p2
 try clear c3
 obtain ⟨x5_1,x6_1,rfl,HA,HK1,HO_5,HB⟩:=hrel
 cases gk with
 | zero=>exact absurd HA.out (by simp [w06_joined.l0])
 | succ k1 =>
  have H:=HA.out
  clear HA
  simp only [w06_joined.l0] at H
  by_cases c7 : x6_1 < (l1.length : Int)
  rotate_left
  ·rw [if_neg c7] at H
   have c7b0 : decide (x6_1 < (l1.length : Int)) = false:=decide_eq_false c7
   clear c7
   obtain rfl:=Option.some.inj H
   go_wp2
   go_ret
   exact⟨_,by first | rfl |(simp [errW_none,errW_some] <;> rfl) |(simp [*,errW_none,errW_some] <;> rfl),by(with_reducible repeat(first | apply Kd.R_alloc | apply Kd.R_drewN | apply Kd.R_drew));exact HO_5.out,by repeat(first |(with_reducible first | exact HB.out | apply bwA | apply bwN | apply bw1) | exact HB.out)⟩
  rw [if_pos c7] at H
  have c7b0 : decide (x6_1 < (l1.length : Int)) = true:=decide_eq_true c7
  clear c7
  by_cases c8 : 0≤x6_1
  rotate_left
  ·rw [if_neg c8] at H
   exact absurd H (by simp)
  rw [if_pos c8] at H
  have c8b0 : decide (0≤x6_1) = true:=decide_eq_true c8
  clear c8
  by_cases c9 :((rd_T39 l1 x6_1).f0) ≥ 4
  rotate_left
  ·rw [if_neg c9] at H
   have c9b0 : decide (4 ≤((rd_T39 l1 x6_1).f0)) = false:=decide_eq_false c9
   clear c9
   by_cases c14 : x5_1.length < 5864062014805
   rotate_left
   ·rw [if_neg c14] at H
    exact absurd H (by simp)
   rw [if_pos c14] at H
   have LMc14:=Aside0.mk c14
   clear c14
   obtain ⟨y330,hy330⟩ : ∃ y_ : List (S39),y_ =(x5_1 ++ [(⟨(rd_T39 l1 x6_1).f0,(rd_T39 l1 x6_1).f1,(rd_T39 l1 x6_1).f2⟩ : S39)]):=⟨_,rfl⟩
   replace H :(w06_joined.l0 k1 l0 l1 y330 (wrap64 (x6_1 + 1))) = some r:=by first |(rw [hy330];with_reducible exact H) |(have H2_:=(Option.bind_some _ _).symm.trans H;rw [hy330];with_reducible exact H2_) |(have H2_:=(Option.bind_some _ _).symm.trans H;with_reducible exact H2_) | with_reducible exact H |(rw [hy330];exact H) | exact H
   have Ny330:=Aside0.mk hy330
   clear hy330
   have H':=Aside0.mk H
   clear H
   have p325 : 0 ≤(x6_1 : Int):=of_decide_eq_true (by first |(with_reducible assumption) | assumption)
   have q325 : x6_1 < (l1.length : Int):=of_decide_eq_true (by first |(with_reducible assumption) | assumption)
   obtain ⟨ad325,e325,hx325_0,hx325_1,hx325_2⟩:=at_T39 HR1.out x6_1 p325 q325
   cases e325
   replace hx325_0:=(HB.out.cell (World.block_lt_of_cell? w _ hx325_0)).trans hx325_0
   replace hx325_1:=(HB.out.cell (World.block_lt_of_cell? w _ hx325_1)).trans hx325_1
   replace hx325_2:=(HB.out.cell (World.block_lt_of_cell? w _ hx325_2)).trans hx325_2
   replace p325:=eq_true p325
   replace q325:=eq_true q325
   have p_ : 0 ≤(x6_1 : Int):=of_decide_eq_true (by first |(with_reducible assumption) | assumption)
   have q_ : x6_1 < (l1.length : Int):=of_decide_eq_true (by first |(with_reducible assumption) | assumption)
   obtain ⟨ad_,e_,hx0,hx1,hx2⟩:=at_T39 HR1.out x6_1 p_ q_
   cases e_
   replace hx0:=(HB.out.cell (World.block_lt_of_cell? w _ hx0)).trans hx0
   replace hx1:=(HB.out.cell (World.block_lt_of_cell? w _ hx1)).trans hx1
   replace hx2:=(HB.out.cell (World.block_lt_of_cell? w _ hx2)).trans hx2
   replace p_:=eq_true p_
   replace q_:=eq_true q_
   go_wp2_with (first |((with_reducible refine gate_dst (N:=7) rfl ?_);refine box_event ?hg (N:=7) ?hd (cs:=#[.int .i64 0,.int .i64 0,.int .i64 0]) (t:=39) ?hr ?_;(case hd=>rfl);(case hg=>rfl);(case hr=>first |(go_simp;done) |(go_simp;rfl));intro gb hg wb hbox hb;have BX:=Aside0.mk (Box.made (by repeat(first | exact HB.out | apply bwA | apply bwN | apply bw1)) (by(with_reducible repeat(first | apply Kd.R_alloc | apply Kd.R_drewN | apply Kd.R_drew));exact HO_5.out) hg hbox hb);clear hg hbox hb HB HO_5;have hc0:=BX.out.cell0;have hc1:=BX.out.cell1;have hc2:=BX.out.cell2;have hf0:=BX.out.fz 0;have hf1:=BX.out.fz 1;have hf2:=BX.out.fz 2) |((with_reducible refine gate_store (t:=39) (p:=7) rfl ?_);refine put_event (w:=w) (g:=gb) (vv:=u5) (xs:=x5_1) (W1:=?W1_7_1) ((rd_T39 l1 x6_1).f0)  ((rd_T39 l1 x6_1).f1)  ((rd_T39 l1 x6_1).f2) rfl rfl rfl ?hr ?hb ?_;(case hr=>first |(go_simp;done) |(go_simp;rfl));(case hb=>exact(Box.put2 (Box.put1 (Box.put0 (by repeat(first | exact BX.out | apply Box.drewN | apply Box.drew)) ((rd_T39 l1 x6_1).f0)) ((rd_T39 l1 x6_1).f1)) ((rd_T39 l1 x6_1).f2)));intro wb hbx;clear BX;have BX:=Aside0.mk hbx;clear hbx;clear hc0 hc1 hc2 hf0 hf1 hf2;have hc0:=BX.out.cell0;have hc1:=BX.out.cell1;have hc2:=BX.out.cell2;have hf0:=BX.out.fz 0;have hf1:=BX.out.fz 1;have hf2:=BX.out.fz 2) |((with_reducible refine gate_builtin (b:=.append) (xs:=#[.tmp 36,.tmp 38]) rfl ?_);at_builtin;refine Kd.R_append k39 (w0:=w) w.heap.size rfl (.tmp 36) (.tmp 38) 22 39 (.agg #[(.int .i64 0),(.int .i64 0),(.int .i64 0)]) 24 rfl Try.underlying22 info39 rfl (by decide) (by omega) u5 x5_1 (⟨(rd_T39 l1 x6_1).f0,(rd_T39 l1 x6_1).f1,(rd_T39 l1 x6_1).f2⟩ : S39) [.int .i64 (((rd_T39 l1 x6_1).f0)),.int .i64 (((rd_T39 l1 x6_1).f1)),.int .i64 (((rd_T39 l1 x6_1).f2))] (fun k_=>k_≠gb) (fun _=>False) rfl (by first |(go_simp;done) |(go_simp;rfl)) ?aP (fun _ hk=>hk.elim) ?aF ?aO ?aB ?aS ?aL ?_;(case aP=>exact k39_mkM _ _ _ (⟨(rd_T39 l1 x6_1).f0,(rd_T39 l1 x6_1).f1,(rd_T39 l1 x6_1).f2⟩ : S39));(case aB=>repeat(first | exact BX.out.below | apply bwA | apply bwN | apply bw1));(case aF=>exact(Kd.freshB (by repeat(first | exact BX.out.blk | refine bkN ?_ _ | refine bkD ?_ | refine bkA ?_ _))));(case aO=>repeat(first | exact BX.out.row | apply Kd.R_alloc | apply Kd.R_drewN | apply Kd.R_drew));(case aS=>exact(bwZ (by repeat(first | exact BX.out.below | apply bwA | apply bwN | apply bw1))));(case aL=>have:=LMc14.out;omega);intro v13 w13 ho hb hg hat;rw [← Ny330.out] at ho;clear BX;have HO332:=Aside0.mk ho;have HB:=Aside0.mk hb;clear ho hb hg hat))
   go_roundg k1
   case measure=>have:=HK1.out;omega
   exact⟨(y330),(wrap64 (x6_1 + 1)),(by first | rfl |(simp;done) |(simp [*];done)),H',⟨by have:=HK1.out;omega⟩,⟨by(with_reducible repeat(first | apply Kd.R_alloc | apply Kd.R_drewN | apply Kd.R_drew));exact Kd.R_mono HO332.out (fun _ hk=>trivial)⟩,⟨by repeat(first |(with_reducible first | exact HB.out | apply bwA | apply bwN | apply bw1) | exact HB.out)⟩⟩
  rw [if_pos c9] at H
  have c9b0 : decide (4 ≤((rd_T39 l1 x6_1).f0)) = true:=decide_eq_true c9
  clear c9
  by_cases c10 : x5_1.length < 5864062014805
  rotate_left
  ·rw [if_neg c10] at H
   exact absurd H (by simp)
  rw [if_pos c10] at H
  have LMc10:=Aside0.mk c10
  clear c10
  obtain ⟨y327,hy327⟩ : ∃ y_ : List (S39),y_ =(x5_1 ++ [(⟨(rd_T39 l1 x6_1).f0,wrap64 (((rd_T39 l1 x6_1).f1) + (l0.length : Int)),wrap64 (((rd_T39 l1 x6_1).f2) + (l0.length : Int))⟩ : S39)]):=⟨_,rfl⟩
  replace H :(w06_joined.l0 k1 l0 l1 y327 (wrap64 (x6_1 + 1))) = some r:=by first |(rw [hy327];with_reducible exact H) |(have H2_:=(Option.bind_some _ _).symm.trans H;rw [hy327];with_reducible exact H2_) |(have H2_:=(Option.bind_some _ _).symm.trans H;with_reducible exact H2_) | with_reducible exact H |(rw [hy327];exact H) | exact H
  have Ny327:=Aside0.mk hy327
  clear hy327
  have H':=Aside0.mk H
  clear H
  have p325 : 0 ≤(x6_1 : Int):=of_decide_eq_true (by first |(with_reducible assumption) | assumption)
  have q325 : x6_1 < (l1.length : Int):=of_decide_eq_true (by first |(with_reducible assumption) | assumption)
  obtain ⟨ad325,e325,hx325_0,hx325_1,hx325_2⟩:=at_T39 HR1.out x6_1 p325 q325
  cases e325
  replace hx325_0:=(HB.out.cell (World.block_lt_of_cell? w _ hx325_0)).trans hx325_0
  replace hx325_1:=(HB.out.cell (World.block_lt_of_cell? w _ hx325_1)).trans hx325_1
  replace hx325_2:=(HB.out.cell (World.block_lt_of_cell? w _ hx325_2)).trans hx325_2
  replace p325:=eq_true p325
  replace q325:=eq_true q325
  have p_ : 0 ≤(x6_1 : Int):=of_decide_eq_true (by first |(with_reducible assumption) | assumption)
  have q_ : x6_1 < (l1.length : Int):=of_decide_eq_true (by first |(with_reducible assumption) | assumption)
  obtain ⟨ad_,e_,hx0,hx1,hx2⟩:=at_T39 HR1.out x6_1 p_ q_
  cases e_
  replace hx0:=(HB.out.cell (World.block_lt_of_cell? w _ hx0)).trans hx0
  replace hx1:=(HB.out.cell (World.block_lt_of_cell? w _ hx1)).trans hx1
  replace hx2:=(HB.out.cell (World.block_lt_of_cell? w _ hx2)).trans hx2
  replace p_:=eq_true p_
  replace q_:=eq_true q_
  go_wp2_with (first |((with_reducible refine gate_dst (N:=7) rfl ?_);refine box_event ?hg (N:=7) ?hd (cs:=#[.int .i64 0,.int .i64 0,.int .i64 0]) (t:=39) ?hr ?_;(case hd=>rfl);(case hg=>rfl);(case hr=>first |(go_simp;done) |(go_simp;rfl));intro gb hg wb hbox hb;have BX:=Aside0.mk (Box.made (by repeat(first | exact HB.out | apply bwA | apply bwN | apply bw1)) (by(with_reducible repeat(first | apply Kd.R_alloc | apply Kd.R_drewN | apply Kd.R_drew));exact HO_5.out) hg hbox hb);clear hg hbox hb HB HO_5;have hc0:=BX.out.cell0;have hc1:=BX.out.cell1;have hc2:=BX.out.cell2;have hf0:=BX.out.fz 0;have hf1:=BX.out.fz 1;have hf2:=BX.out.fz 2) |((with_reducible refine gate_store (t:=39) (p:=7) rfl ?_);refine put_event (w:=w) (g:=gb) (vv:=u5) (xs:=x5_1) (W1:=?W1_7_0) ((rd_T39 l1 x6_1).f0)  ((rd_T39 l1 x6_1).f1)  ((rd_T39 l1 x6_1).f2) rfl rfl rfl ?hr ?hb ?_;(case hr=>first |(go_simp;done) |(go_simp;rfl));(case hb=>exact(Box.put2 (Box.put1 (Box.put0 (by repeat(first | exact BX.out | apply Box.drewN | apply Box.drew)) ((rd_T39 l1 x6_1).f0)) ((rd_T39 l1 x6_1).f1)) ((rd_T39 l1 x6_1).f2)));intro wb hbx;clear BX;have BX:=Aside0.mk hbx;clear hbx;clear hc0 hc1 hc2 hf0 hf1 hf2;have hc0:=BX.out.cell0;have hc1:=BX.out.cell1;have hc2:=BX.out.cell2;have hf0:=BX.out.fz 0;have hf1:=BX.out.fz 1;have hf2:=BX.out.fz 2) |((with_reducible refine gate_store (t:=3) (p:=29) rfl ?_);refine put_event (w:=w) (g:=gb) (vv:=u5) (xs:=x5_1) (W1:=?W1_29_0) ((rd_T39 l1 x6_1).f0)  (wrap64 (((rd_T39 l1 x6_1).f1) + (l0.length : Int)))  ((rd_T39 l1 x6_1).f2) rfl rfl rfl ?hr ?hb ?_;(case hr=>first |(go_simp;done) |(go_simp;rfl));(case hb=>exact(Box.put1 (by repeat(first | exact BX.out | apply Box.drewN | apply Box.drew)) (wrap64 (((rd_T39 l1 x6_1).f1) + (l0.length : Int)))));intro wb hbx;clear BX;have BX:=Aside0.mk hbx;clear hbx;clear hc0 hc1 hc2 hf0 hf1 hf2;have hc0:=BX.out.cell0;have hc1:=BX.out.cell1;have hc2:=BX.out.cell2;have hf0:=BX.out.fz 0;have hf1:=BX.out.fz 1;have hf2:=BX.out.fz 2) |((with_reducible refine gate_store (t:=3) (p:=35) rfl ?_);refine put_event (w:=w) (g:=gb) (vv:=u5) (xs:=x5_1) (W1:=?W1_35_0) ((rd_T39 l1 x6_1).f0)  (wrap64 (((rd_T39 l1 x6_1).f1) + (l0.length : Int)))  (wrap64 (((rd_T39 l1 x6_1).f2) + (l0.length : Int))) rfl rfl rfl ?hr ?hb ?_;(case hr=>first |(go_simp;done) |(go_simp;rfl));(case hb=>exact(Box.put2 (by repeat(first | exact BX.out | apply Box.drewN | apply Box.drew)) (wrap64 (((rd_T39 l1 x6_1).f2) + (l0.length : Int)))));intro wb hbx;clear BX;have BX:=Aside0.mk hbx;clear hbx;clear hc0 hc1 hc2 hf0 hf1 hf2;have hc0:=BX.out.cell0;have hc1:=BX.out.cell1;have hc2:=BX.out.cell2;have hf0:=BX.out.fz 0;have hf1:=BX.out.fz 1;have hf2:=BX.out.fz 2) |((with_reducible refine gate_builtin (b:=.append) (xs:=#[.tmp 36,.tmp 38]) rfl ?_);at_builtin;refine Kd.R_append k39 (w0:=w) w.heap.size rfl (.tmp 36) (.tmp 38) 22 39 (.agg #[(.int .i64 0),(.int .i64 0),(.int .i64 0)]) 24 rfl Try.underlying22 info39 rfl (by decide) (by omega) u5 x5_1 (⟨(rd_T39 l1 x6_1).f0,wrap64 (((rd_T39 l1 x6_1).f1) + (l0.length : Int)),wrap64 (((rd_T39 l1 x6_1).f2) + (l0.length : Int))⟩ : S39) [.int .i64 (((rd_T39 l1 x6_1).f0)),.int .i64 ((wrap64 (((rd_T39 l1 x6_1).f1) + (l0.length : Int)))),.int .i64 ((wrap64 (((rd_T39 l1 x6_1).f2) + (l0.length : Int))))] (fun k_=>k_≠gb) (fun _=>False) rfl (by first |(go_simp;done) |(go_simp;rfl)) ?aP (fun _ hk=>hk.elim) ?aF ?aO ?aB ?aS ?aL ?_;(case aP=>exact k39_mkM _ _ _ (⟨(rd_T39 l1 x6_1).f0,wrap64 (((rd_T39 l1 x6_1).f1) + (l0.length : Int)),wrap64 (((rd_T39 l1 x6_1).f2) + (l0.length : Int))⟩ : S39));(case aB=>repeat(first | exact BX.out.below | apply bwA | apply bwN | apply bw1));(case aF=>exact(Kd.freshB (by repeat(first | exact BX.out.blk | refine bkN ?_ _ | refine bkD ?_ | refine bkA ?_ _))));(case aO=>repeat(first | exact BX.out.row | apply Kd.R_alloc | apply Kd.R_drewN | apply Kd.R_drew));(case aS=>exact(bwZ (by repeat(first | exact BX.out.below | apply bwA | apply bwN | apply bw1))));(case aL=>have:=LMc10.out;omega);intro v13 w13 ho hb hg hat;rw [← Ny327.out] at ho;clear BX;have HO329:=Aside0.mk ho;have HB:=Aside0.mk hb;clear ho hb hg hat))
  go_roundg k1
  case measure=>have:=HK1.out;omega
  exact⟨(y327),(wrap64 (x6_1 + 1)),(by first | rfl |(simp;done) |(simp [*];done)),H',⟨by have:=HK1.out;omega⟩,⟨by(with_reducible repeat(first | apply Kd.R_alloc | apply Kd.R_drewN | apply Kd.R_drew));exact Kd.R_mono HO329.out (fun _ hk=>trivial)⟩,⟨by repeat(first |(with_reducible first | exact HB.out | apply bwA | apply bwN | apply bw1) | exact HB.out)⟩⟩
end Go.Proofs.Ytnfmeafiaipplaa.S

namespace Go.Proofs.Ytnfmeafiaipplaa.S
open Go.Proofs.Ytnfmeafiaipplaa.Lib
open Go.RowKit Go.Proofs.YtnfmeafiaipplaaW.PrintWords Go.Proofs.YtnfmeafiaipplaaW.PrintLast Go.Proofs.YtnfmeafiaipplaaW.PrintMore
set_option linter.unusedVariables false
set_option linter.unusedSimpArgs false
/-- The first a of a + b have been done. -/
def mk_ (a b : Nat) : Array Bool:=(List.replicate a true ++ List.replicate b false).toArray
section
variable {P : Program} {md : Region.Mode} {ops : Array Oper} {Q : Exit → Act → World → Prop} {S : World → Prop} {ds : List Nat} {i b n : Nat} {N : Option Tmp} {oi : Oper} {v : Value} {a a' : Act} {w : World}
theorem pm_ (hi : ops[i]? = some oi) (hN : oi.dst = N) (hc : anyB md ops (mk_ i (b + 1)) (mk_ (i + 1) b) i = true) (hQ : ∀ c a w,Q (.panic c) (a.put oi.dst v) w→Q (.panic c) a w) (hy : Yields P ops oi v a) (ha : a.put N v = a') (h : wpAnyLast P md ops Q S ds n (mk_ (i + 1) b) a' w) : wpAnyLast P md ops Q S ds (n + 1) (mk_ i (b + 1)) a w :=
 pure_ (mk_ (i + 1) b) hi hN hc hQ hy ha h
theorem tm_ (hi : ops[i]? = some oi) (hN : oi.dst = N) (hc : takeB md ops ds (mk_ i (b + 1)) (mk_ (i + 1) b) i = true) (hQ : ∀ c a w,Q (.panic c) (a.put oi.dst v) w→Q (.panic c) a w) (hy : YieldsIf P ops S oi v a) (hS : S w) (ha : a.put N v = a') (h : wpAnyLast P md ops Q S ds n (mk_ (i + 1) b) a' w) : wpAnyLast P md ops Q S ds (n + 1) (mk_ i (b + 1)) a w :=
 take_ (mk_ (i + 1) b) hi hN hc hQ hy hS ha h
theorem om_ (hi : ops[i]? = some oi) (hN : oi.dst = N) (hc : readyB md ops (mk_ i (b + 1)) (mk_ (i + 1) b) i = true) (hd : i ∉ ds)
  (h : ∀ K : Act→World→Prop,Shut (∀ a' w',S w' →(S w'→wpAnyLast P md ops Q S ds n (mk_ (i + 1) b) a' w')→K a' w')→if Region.wanted oi (yielded ops a.tmps) = true then Oper.wp P oi a w K Q else K (a.put N undef) w) :
  wpAnyLast P md ops Q S ds (n + 1) (mk_ i (b + 1)) a w :=
 one_ (mk_ (i + 1) b) hi hN hc hd h
end
theorem blk_set6 {W : World} {g t : Nat} {a b c d e f : Value} (h : W.heap[g]? = some (.cells #[a, b, c, d, e, f] t (0, 0))) (a' b' c' d' e' f' : Value) :
  ((((((W.setCell ⟨g,0,none⟩ a').setCell ⟨g,1,none⟩ b').setCell ⟨g,2,none⟩ c').setCell ⟨g,3,none⟩ d').setCell ⟨g,4,none⟩ e').setCell ⟨g,5,none⟩ f').heap[g]? = some (.cells #[a',b',c',d',e',f'] t (0,0)):=by
 simpa using blk_set (blk_set (blk_set (blk_set (blk_set (blk_set h 0 a') 1 b') 2 c') 3 d') 4 e') 5 f'
theorem blk_set3 {W : World} {g t : Nat} {a b c : Value} (h : W.heap[g]? = some (.cells #[a, b, c] t (0, 0))) (a' b' c' : Value) :
  (((W.setCell ⟨g,0,none⟩ a').setCell ⟨g,1,none⟩ b').setCell ⟨g,2,none⟩ c').heap[g]? = some (.cells #[a',b',c'] t (0,0)):=by
 simpa using blk_set (blk_set (blk_set h 0 a') 1 b') 2 c'
/-- What a store leaves: the block written, all else. -/
structure Wrote (W W' : World) (g t : Nat) (cs : Array Value) : Prop where
 blk : W'.heap[g]? = some (.cells cs t (0,0))
 kept : Kept W W' (fun k=>k = g)
 below : ∀ (B : Nat) (w : World),Below B w W→B≤g→Below B w W'
set_option maxHeartbeats 1000000 in
theorem store107 {ev : Operand → Value} {o : Oper} {x y : Operand} {g : Nat} {W : World} {a b c d e f : Value} (a' b' c' d' e' f' : Int) (ho : o.op = .store 107 x y) (hx : ev x = .pointer (some ⟨g, 0, none⟩)) (hy : ev y = .agg #[.int .i64 a', .int .i64 b', .int .i64 c', .int .i64 d', .int .i64 e', .int .i64 f']) (hg : W.heap[g]? = some (.cells #[a, b, c, d, e, f] 107 (0, 0))) :
  ∃ W',(execOp ev o).run Try.prog W = .ok .skip W'∧Wrote W W' g 107 #[.int .i64 a',.int .i64 b',.int .i64 c',.int .i64 d',.int .i64 e',.int .i64 f']:=by
 refine⟨_,?_,⟨blk_set6 hg _ _ _ _ _ _,(((((((Kept.refl W (fun k=>k = g)).setCell (.inl rfl) _).setCell (.inl rfl) _).setCell (.inl rfl) _).setCell (.inl rfl) _).setCell (.inl rfl) _).setCell (.inl rfl) _),fun B w hB hle=>(((((hB.setCell hle _).setCell hle _).setCell hle _).setCell hle _).setCell hle _).setCell hle _⟩⟩
 have f0:=bkF hg 0
 have f1:=bkF hg 1
 have f2:=bkF hg 2
 have f3:=bkF hg 3
 have f4:=bkF hg 4
 have f5:=bkF hg 5
 have c0 : W.cell? ⟨g,0,none⟩ = some a:=(bkC hg 0).trans rfl
 have c1 : W.cell? ⟨g,1,none⟩ = some b:=(bkC hg 1).trans rfl
 have c2 : W.cell? ⟨g,2,none⟩ = some c:=(bkC hg 2).trans rfl
 have c3 : W.cell? ⟨g,3,none⟩ = some d:=(bkC hg 3).trans rfl
 have c4 : W.cell? ⟨g,4,none⟩ = some e:=(bkC hg 4).trans rfl
 have c5 : W.cell? ⟨g,5,none⟩ = some f:=(bkC hg 5).trans rfl
 unfold execOp
 rw [ho]
 simp only [hx,hy]
 go_simp
set_option maxHeartbeats 1000000 in
theorem store87 {ev : Operand → Value} {o : Oper} {x y : Operand} {g : Nat} {W : World} {a b c : Value} (a' b' c' : Int) (ho : o.op = .store 87 x y) (hx : ev x = .pointer (some ⟨g, 0, none⟩)) (hy : ev y = .agg #[.int .i64 a', .int .i64 b', .int .i64 c']) (hg : W.heap[g]? = some (.cells #[a, b, c] 87 (0, 0))) :
  ∃ W',(execOp ev o).run Try.prog W = .ok .skip W'∧Wrote W W' g 87 #[.int .i64 a',.int .i64 b',.int .i64 c']:=by
 refine⟨_,?_,⟨blk_set3 hg _ _ _,((((Kept.refl W (fun k=>k = g)).setCell (.inl rfl) _).setCell (.inl rfl) _).setCell (.inl rfl) _),fun B w hB hle=>((hB.setCell hle _).setCell hle _).setCell hle _⟩⟩
 have f0:=bkF hg 0
 have f1:=bkF hg 1
 have f2:=bkF hg 2
 have c0 : W.cell? ⟨g,0,none⟩ = some a:=(bkC hg 0).trans rfl
 have c1 : W.cell? ⟨g,1,none⟩ = some b:=(bkC hg 1).trans rfl
 have c2 : W.cell? ⟨g,2,none⟩ = some c:=(bkC hg 2).trans rfl
 unfold execOp
 rw [ho]
 simp only [hx,hy]
 go_simp
end Go.Proofs.Ytnfmeafiaipplaa.S

namespace Go.Proofs.Ytnfmeafiaipplaa.S
open Go.Proofs.Ytnfmeafiaipplaa.Lib
open Go.Maps (Keyed)
open Go.RowKit Go.Proofs.YtnfmeafiaipplaaW.PrintWords Go.Proofs.YtnfmeafiaipplaaW.PrintLast Go.Proofs.YtnfmeafiaipplaaW.PrintMore
attribute [local go_sem] max2_int min2_int max_two min_two max_three min_three max_four min_four
set_option linter.unusedVariables false
set_option linter.unusedSimpArgs false
def l87 (x : S87) : List Int:=[x.f0,x.f1,x.f2]
theorem l87_inj {x y : S87} (h : l87 x = l87 y) : x = y:=by
  obtain ⟨a,b,c⟩:=x
  obtain ⟨a',b',c'⟩:=y
  unfold l87 at h
  simp at h
  obtain ⟨rfl,rfl,rfl⟩:=h
  rfl
/-- What kind of node a wish is, the wishes for its parts, the wish that it is. -/
def madeM (X Y : S39) (w : S87) : Int×S87×S87×S87 :=
  if w.f0 = 0 then(X.f0,⟨0,X.f1,X.f1⟩,⟨0,X.f2,X.f2⟩,w)
  else if X.f0 =(if w.f0 = 2 then 1 else 0) then(0,⟨0,0,0⟩,⟨0,0,0⟩,⟨0,w.f2,w.f2⟩)
  else if Y.f0 =(if w.f0 = 2 then 1 else 0) then(0,⟨0,0,0⟩,⟨0,0,0⟩,⟨0,w.f1,w.f1⟩)
  else if X.f0 = Y.f0 then
    (if X.f0 = 4 then (X.f0, ⟨w.f0, X.f1, Y.f1⟩, ⟨w.f0, X.f2, Y.f2⟩, w)
     else(X.f0,⟨(if w.f0 = 2 then 1 else 2),X.f1,Y.f1⟩,⟨w.f0,X.f2,Y.f2⟩,w))
  else((if w.f0 = 2 then 0 else 1),⟨0,0,0⟩,⟨0,0,0⟩,w)
def c87 (x : S87) : Value:=.agg #[.int .i64 x.f0,.int .i64 x.f1,.int .i64 x.f2]
def c107 (x y : S87) : Value:=.agg #[.int .i64 x.f0,.int .i64 x.f1,.int .i64 x.f2,.int .i64 y.f0,.int .i64 y.f1,.int .i64 y.f2]
def MadePost (m : Int×S87×S87×S87) (w : World) (e : Ending) (w' : World) : Prop :=
  Below w.heap.size w w'∧e = .returned (.tuple #[.int .i64 m.1,c107 m.2.1 m.2.2.1,c87 m.2.2.2])
section
variable {P : Program} {ops : Array Oper} {Q : Exit → Act → World → Prop} {oi : Oper} {a : Act} {K : Act → World → Prop}
theorem skip107 {tm : Array Value} {x y : Operand} {g : Nat} {W : World} {c0 c1 c2 c3 c4 c5 : Value} {a' b' c' d' e' f' : Int} (hw : Region.wanted oi (yielded ops tm) = true) (hN : oi.dst = none) (ho : oi.op = .store 107 x y) (hx : a.eval x = .pointer (some ⟨g, 0, none⟩)) (hy : a.eval y = .agg #[.int .i64 a', .int .i64 b', .int .i64 c', .int .i64 d', .int .i64 e', .int .i64 f']) (hg : W.heap[g]? = some (.cells #[c0, c1, c2, c3, c4, c5] 107 (0, 0)))
    (h : ∀ W',Wrote W W' g 107 #[.int .i64 a',.int .i64 b',.int .i64 c',.int .i64 d',.int .i64 e',.int .i64 f']→K a W') : if Region.wanted oi (yielded ops tm) = true then Oper.wp Try.prog oi a W K Q else K (a.put none undef) W:=by
  obtain ⟨W',hr,hW⟩:=store107 (ev:=a.eval) a' b' c' d' e' f' ho hx hy hg
  rw [if_pos hw]
  unfold Oper.wp
  rw [hr]
  show K (a.put oi.dst undef) W'
  rw [hN]
  exact h W' hW
theorem skip87 {tm : Array Value} {x y : Operand} {g : Nat} {W : World} {c0 c1 c2 : Value} {a' b' c' : Int} (hw : Region.wanted oi (yielded ops tm) = true) (hN : oi.dst = none) (ho : oi.op = .store 87 x y) (hx : a.eval x = .pointer (some ⟨g, 0, none⟩)) (hy : a.eval y = .agg #[.int .i64 a', .int .i64 b', .int .i64 c']) (hg : W.heap[g]? = some (.cells #[c0, c1, c2] 87 (0, 0)))
    (h : ∀ W',Wrote W W' g 87 #[.int .i64 a',.int .i64 b',.int .i64 c']→K a W') : if Region.wanted oi (yielded ops tm) = true then Oper.wp Try.prog oi a W K Q else K (a.put none undef) W:=by
  obtain ⟨W',hr,hW⟩:=store87 (ev:=a.eval) a' b' c' ho hx hy hg
  rw [if_pos hw]
  unfold Oper.wp
  rw [hr]
  show K (a.put oi.dst undef) W'
  rw [hN]
  exact h W' hW
end
theorem heap_new3 (w : World) (o : Obj) (n : Nat) (hn : n = w.heap.size) :(w.alloc o).heap[n]? = some o:=by subst hn;exact heap_alloc_new w o
set_option maxHeartbeats 4000000 in
set_option maxRecDepth 100000 in
theorem made_fn.calls (A0 : Option Addr) (c0 : Nat) (l0 : List S39) (p : S87) (w : World) (hr0 : Kd.C k39 w A0 l0.length l0) (hi : 0 ≤ p.f1 ∧ p.f1 < l0.length) (hj : 0 ≤ p.f2 ∧ p.f2 < l0.length) :
    Calls Try.prog 67 #[.slice A0 l0.length c0,c87 p] w (MadePost (madeM (rd_T39 l0 p.f1) (rd_T39 l0 p.f2) p) w):=by
  obtain ⟨X,hX⟩ : ∃ X,X = rd_T39 l0 p.f1:=⟨_,rfl⟩
  obtain ⟨Y,hY⟩ : ∃ Y,Y = rd_T39 l0 p.f2:=⟨_,rfl⟩
  obtain ⟨adt,eat,hx0,hx1,hx2⟩:=at_T39 hr0 p.f1 hi.1 hi.2
  obtain ⟨adt2,eat2,hy0,hy1,hy2⟩:=at_T39 hr0 p.f2 hj.1 hj.2
  subst eat
  obtain rfl : adt = adt2:=by injection eat2
  rw [← hX] at hx0 hx1 hx2 ⊢
  rw [← hY] at hy0 hy1 hy2 ⊢
  have r0:=eq_true hi.1
  have r1:=eq_true hi.2
  have r2:=eq_true hj.1
  have r3:=eq_true hj.2
  obtain ⟨W,hW⟩ : ∃ W,W =((w.alloc (.cells #[.int .i64 p.f0,.int .i64 p.f1,.int .i64 p.f2] 87)).alloc (.cells #[.int .i64 0,.int .i64 0,.int .i64 0,.int .i64 0,.int .i64 0,.int .i64 0] 107)).alloc (.cells #[.int .i64 0,.int .i64 0,.int .i64 0] 87):=⟨_,rfl⟩
  have hBW : Below w.heap.size w W:=by rw [hW];exact bwA (bwA (bwA (Below.refl _ _) _) _) _
  have hg3 : W.heap[w.heap.size]? = some (.cells #[.int .i64 p.f0,.int .i64 p.f1,.int .i64 p.f2] 87 (0,0)):=by rw [hW];exact bkB (heap_alloc_new w _) (bwA (bwA (Below.refl _ _) _) _)
  have hg5 : W.heap[w.heap.size + 1]? = some (.cells #[.int .i64 0,.int .i64 0,.int .i64 0,.int .i64 0,.int .i64 0,.int .i64 0] 107 (0,0)):=by rw [hW];exact bkB (heap_new3 _ _ _ (by simp)) (bwA (Below.refl _ _) _)
  have hg6 : W.heap[w.heap.size + 1 + 1]? = some (.cells #[.int .i64 0,.int .i64 0,.int .i64 0] 87 (0,0)):=by rw [hW];exact heap_new3 _ _ _ (by simp)
  have lt0 : ∀ {a : Addr} {v : Value},w.cell? a = some v→a.block < W.heap.size:=fun h=>Nat.lt_of_lt_of_le (World.block_lt_of_cell? w _ h) hBW.size
  have HKEEP := Aside0.mk (fun (W' : World) (hB : Below W.heap.size W W') => (show W'.cell? (adt.add (p.f1.toNat * 3)) = some (.int .i64 X.f0) ∧ W'.cell? ⟨(adt.add (p.f1.toNat * 3)).block, (adt.add (p.f1.toNat * 3)).off + 1, none⟩ = some (.int .i64 X.f1) ∧ W'.cell? ⟨(adt.add (p.f1.toNat * 3)).block, (adt.add (p.f1.toNat * 3)).off + 2, none⟩ = some (.int .i64 X.f2) ∧ W'.cell? (adt.add (p.f2.toNat * 3)) = some (.int .i64 Y.f0) ∧ W'.cell? ⟨(adt.add (p.f2.toNat * 3)).block, (adt.add (p.f2.toNat * 3)).off + 1, none⟩ = some (.int .i64 Y.f1) ∧ W'.cell? ⟨(adt.add (p.f2.toNat * 3)).block, (adt.add (p.f2.toNat * 3)).off + 2, none⟩ = some (.int .i64 Y.f2) ∧ W'.cell? ⟨w.heap.size, 1, none⟩ = some (.int .i64 p.f1) ∧ W'.cell? ⟨w.heap.size, 2, none⟩ = some (.int .i64 p.f2) from
    ⟨(hB.cell (lt0 hx0)).trans ((hBW.cell (World.block_lt_of_cell? w _ hx0)).trans hx0),(hB.cell (lt0 hx1)).trans ((hBW.cell (World.block_lt_of_cell? w _ hx1)).trans hx1),(hB.cell (lt0 hx2)).trans ((hBW.cell (World.block_lt_of_cell? w _ hx2)).trans hx2),(hB.cell (lt0 hy0)).trans ((hBW.cell (World.block_lt_of_cell? w _ hy0)).trans hy0),(hB.cell (lt0 hy1)).trans ((hBW.cell (World.block_lt_of_cell? w _ hy1)).trans hy1),(hB.cell (lt0 hy2)).trans ((hBW.cell (World.block_lt_of_cell? w _ hy2)).trans hy2),(bkC (bkB hg3 hB) 1).trans rfl,(bkC (bkB hg3 hB) 2).trans rfl⟩))
  have HB:=Aside0.mk hBW
  have HG3:=Aside0.mk hg3
  have HG5:=Aside0.mk hg5
  have HG6:=Aside0.mk hg6
  have HSZ:=Aside0.mk (show W.heap.size = w.heap.size + 1 + 1 + 1 by rw [hW];simp)
  clear hX hY hr0 hi hj hx0 hx1 hx2 hy0 hy1 hy2 hBW eat2 hg3 hg5 hg6 lt0
  obtain ⟨m,hm⟩ : ∃ m,m = madeM X Y p:=⟨_,rfl⟩
  rw [← hm]
  have HM:=Aside0.mk hm
  clear hm
  show Calls Try.prog 67 #[.slice (some adt) l0.length c0,.agg #[.int .i64 p.f0,.int .i64 p.f1,.int .i64 p.f2]] w _
  subst hW
  go_enter Try.func67,Try.ntmps67
  go_upto_region 1 with (fail)
  go_cut [7,8] (fun v7 v8 wc=>∃ g7 g8 : Nat,v7 = .pointer (some ⟨g7,0,none⟩)∧v8 = .pointer (some ⟨g8,0,none⟩)∧Aside0 (wc.heap[g7]? = some (.cells #[.int .i64 X.f0,.int .i64 X.f1,.int .i64 X.f2] 39 (0,0)))∧Aside0 (wc.heap[g8]? = some (.cells #[.int .i64 Y.f0,.int .i64 Y.f1,.int .i64 Y.f2] 39 (0,0)))∧Aside0 (Below w.heap.size w wc)∧Aside0 (wc.heap[w.heap.size]? = some (.cells #[.int .i64 p.f0,.int .i64 p.f1,.int .i64 p.f2] 87 (0,0)))∧Aside0 (wc.heap[w.heap.size + 1]? = some (.cells #[.int .i64 0,.int .i64 0,.int .i64 0,.int .i64 0,.int .i64 0,.int .i64 0] 107 (0,0)))∧Aside0 (wc.heap[w.heap.size + 1 + 1]? = some (.cells #[.int .i64 0,.int .i64 0,.int .i64 0] 87 (0,0))))
  case first =>
    go_wp2
    go_region_held (fun W'=>W'.cell? (adt.add (p.f1.toNat * 3)) = some (.int .i64 X.f0)∧W'.cell? ⟨(adt.add (p.f1.toNat * 3)).block,(adt.add (p.f1.toNat * 3)).off + 1,none⟩ = some (.int .i64 X.f1)∧W'.cell? ⟨(adt.add (p.f1.toNat * 3)).block,(adt.add (p.f1.toNat * 3)).off + 2,none⟩ = some (.int .i64 X.f2)∧W'.cell? (adt.add (p.f2.toNat * 3)) = some (.int .i64 Y.f0)∧W'.cell? ⟨(adt.add (p.f2.toNat * 3)).block,(adt.add (p.f2.toNat * 3)).off + 1,none⟩ = some (.int .i64 Y.f1)∧W'.cell? ⟨(adt.add (p.f2.toNat * 3)).block,(adt.add (p.f2.toNat * 3)).off + 2,none⟩ = some (.int .i64 Y.f2)∧W'.cell? ⟨w.heap.size,1,none⟩ = some (.int .i64 p.f1)∧W'.cell? ⟨w.heap.size,2,none⟩ = some (.int .i64 p.f2)) ((refine HKEEP.out _ ?_;repeat(first | exact Below.refl _ _ | apply bwA | apply bw1 | apply bwN |(refine Below.setCell ?_ (by simp <;> omega) _)))) (fail)
    all_goals (
      go_wp2
      go_meet
      case rel=>exact⟨_,_,rfl,rfl,⟨by first | exact bkD (heap_new2 _ _ _ (by simp)) | exact bkD (bkB (heap_new2 _ _ _ (by simp)) (bwA (Below.refl _ _) _))⟩,⟨by first | exact bkD (heap_new2 _ _ _ (by simp)) | exact bkD (bkB (heap_new2 _ _ _ (by simp)) (bwA (Below.refl _ _) _))⟩,⟨bw1 (bwA (bwA HB.out _) _)⟩,⟨bkD (bkB HG3.out (bwA (bwA (Below.refl _ _) _) _))⟩,⟨bkD (bkB HG5.out (bwA (bwA (Below.refl _ _) _) _))⟩,⟨bkD (bkB HG6.out (bwA (bwA (Below.refl _ _) _) _))⟩⟩)
  case rest =>
    clear HKEEP HB HG3 HG5 HG6
    obtain ⟨g7,g8,rfl,rfl,H7,H8,HB,HG3,HG5,HG6⟩:=hcut
    have hz:=HB.out.size
    have c30 : wc.cell? ⟨w.heap.size,0,none⟩ = some (.int .i64 p.f0):=(bkC HG3.out 0).trans rfl
    have c70 : wc.cell? ⟨g7,0,none⟩ = some (.int .i64 X.f0):=(bkC H7.out 0).trans rfl
    have c80 : wc.cell? ⟨g8,0,none⟩ = some (.int .i64 Y.f0):=(bkC H8.out 0).trans rfl
    -- the cells hold while the results are written
    have HK:=Aside0.mk (fun(W' : World) (hK : Kept wc W' (fun k=>k = w.heap.size + 1∨k = w.heap.size + 1 + 1))=>(show W'.cell? ⟨w.heap.size,0,none⟩ = some (.int .i64 p.f0)∧W'.cell? ⟨w.heap.size,1,none⟩ = some (.int .i64 p.f1)∧W'.cell? ⟨w.heap.size,2,none⟩ = some (.int .i64 p.f2)∧W'.cell? ⟨g7,0,none⟩ = some (.int .i64 X.f0)∧W'.cell? ⟨g7,1,none⟩ = some (.int .i64 X.f1)∧W'.cell? ⟨g7,2,none⟩ = some (.int .i64 X.f2)∧W'.cell? ⟨g8,1,none⟩ = some (.int .i64 Y.f1)∧W'.cell? ⟨g8,2,none⟩ = some (.int .i64 Y.f2) from by
      have h3:=blk_kept HG3.out hK (by rintro(h | h) <;> omega)
      have h7 := blk_kept H7.out hK (by rintro (h | h)
                                        · exact absurd (blk_type (by rw [← h];exact H7.out) HG5.out) (by decide)
                                        · exact absurd (blk_type (by rw [← h];exact H7.out) HG6.out) (by decide))
      have h8 := blk_kept H8.out hK (by rintro (h | h)
                                        · exact absurd (blk_type (by rw [← h];exact H8.out) HG5.out) (by decide)
                                        · exact absurd (blk_type (by rw [← h];exact H8.out) HG6.out) (by decide))
      exact⟨(bkC h3 0).trans rfl,(bkC h3 1).trans rfl,(bkC h3 2).trans rfl,(bkC h7 0).trans rfl,(bkC h7 1).trans rfl,(bkC h7 2).trans rfl,(bkC h8 1).trans rfl,(bkC h8 2).trans rfl⟩))
    clear hz
    have hm:=HM.out
    unfold madeM at hm
    by_cases k2 : p.f0 = 2
    · have k2b : (p.f0 == 2) = true := beq_iff_eq.mpr k2
      have k0 : ¬ p.f0 = 0:=by omega
      have k0b :(p.f0 == 0) = false:=beq_eq_false_iff_ne.mpr k0
      simp only [if_neg k0,if_pos k2] at hm
      clear k2 k0
      by_cases k3 : X.f0 = 1
      · have k3b : (X.f0 == 1) = true := beq_iff_eq.mpr k3
        rw [if_pos k3] at hm
        go_wp2
        refine start_ (n:=9) (S:=(fun W'=>W'.cell? ⟨w.heap.size,0,none⟩ = some (.int .i64 p.f0)∧W'.cell? ⟨w.heap.size,1,none⟩ = some (.int .i64 p.f1)∧W'.cell? ⟨w.heap.size,2,none⟩ = some (.int .i64 p.f2)∧W'.cell? ⟨g7,0,none⟩ = some (.int .i64 X.f0)∧W'.cell? ⟨g7,1,none⟩ = some (.int .i64 X.f1)∧W'.cell? ⟨g7,2,none⟩ = some (.int .i64 X.f2)∧W'.cell? ⟨g8,1,none⟩ = some (.int .i64 Y.f1)∧W'.cell? ⟨g8,2,none⟩ = some (.int .i64 Y.f2))) (ds:=[]) (mk_ 0 9) (by kernel_rfl) rfl (by kernel_rfl) (HK.out _ (Kept.refl _ _)) (fun hHeld=>?_)
        iterate 7 (first
          |(refine pm_ (v:=?_) (a':=?_) rfl rfl (by kernel_rfl) (fun _ _ _ h=>h) ?_ ?_ ?_;rotate_left 2;(focus refine Or.inl ⟨by rfl,?_⟩;intro w';go_simp;with_reducible rfl);(focus simp only [List.getElem_toArray,List.getElem_cons_succ,List.getElem_cons_zero,Act.put,List.setIfInBounds_toArray,List.set_cons_zero,List.set_cons_succ,i64_w,i32_w];rfl))
          |(refine tm_ (v:=?_) (a':=?_) rfl rfl (by kernel_rfl) (fun _ _ _ h=>h) ?_ hHeld ?_ ?_;rotate_left 2;(focus refine Or.inl ⟨by rfl,?_⟩;rintro w' ⟨s0,s1,s2,s3,s4,s5,s6,s7⟩;go_simp;with_reducible rfl);(focus simp only [List.getElem_toArray,List.getElem_cons_succ,List.getElem_cons_zero,Act.put,List.setIfInBounds_toArray,List.set_cons_zero,List.set_cons_succ,i64_w,i32_w];rfl)))
        refine om_ rfl rfl (by kernel_rfl) (by decide) (fun K hK=>?_)
        simp only [List.getElem_toArray,List.getElem_cons_succ,List.getElem_cons_zero]
        refine skip107 (by rfl) rfl rfl rfl rfl (bkD HG5.out) (fun W1 hW1=>?_)
        refine hK.out _ _ (HK.out _ ((show Kept wc W1 _ from hW1.kept).mono (fun k hk=>.inl hk))) (fun hHeld=>?_)
        clear hK K
        refine om_ rfl rfl (by kernel_rfl) (by decide) (fun K hK=>?_)
        simp only [List.getElem_toArray,List.getElem_cons_succ,List.getElem_cons_zero]
        refine skip87 (by rfl) rfl rfl rfl rfl (blk_kept (bkD HG6.out) hW1.kept (by omega)) (fun W2 hW2=>?_)
        refine hK.out _ _ (HK.out _ (((show Kept wc W1 _ from hW1.kept).mono (fun k hk=>.inl hk)).then_ hW2.kept (fun k hk=>.inl (.inr hk)))) (fun hHeld=>?_)
        clear hK K
        refine done_ (by kernel_rfl) ?_
        try go_wp2
        refine bodyPost_ret (results_list (rs:=[.tmp 4,.cell 5 107,.cell 6 87]) rfl (by simp) (.tmp (.cell (w.heap.size + 1) 107 _ (0,0) _ rfl (blk_kept hW1.blk hW2.kept (by omega)) Try.underlying107 rfl (by kernel_rfl) (.cell (w.heap.size + 1 + 1) 87 _ (0,0) _ rfl hW2.blk Try.underlying87 rfl (by kernel_rfl) .nil)))) rfl ?_
        exact⟨hW2.below _ _ (hW1.below _ _ (bw1 HB.out) (by omega)) (by omega),by rw [hm];rfl⟩
      have k3b :(X.f0 == 1) = false:=beq_eq_false_iff_ne.mpr k3
      rw [if_neg k3] at hm
      by_cases k4 : Y.f0 = 1
      · have k4b : (Y.f0 == 1) = true := beq_iff_eq.mpr k4
        rw [if_pos k4] at hm
        go_wp2
        refine start_ (n:=9) (S:=(fun W'=>W'.cell? ⟨w.heap.size,0,none⟩ = some (.int .i64 p.f0)∧W'.cell? ⟨w.heap.size,1,none⟩ = some (.int .i64 p.f1)∧W'.cell? ⟨w.heap.size,2,none⟩ = some (.int .i64 p.f2)∧W'.cell? ⟨g7,0,none⟩ = some (.int .i64 X.f0)∧W'.cell? ⟨g7,1,none⟩ = some (.int .i64 X.f1)∧W'.cell? ⟨g7,2,none⟩ = some (.int .i64 X.f2)∧W'.cell? ⟨g8,1,none⟩ = some (.int .i64 Y.f1)∧W'.cell? ⟨g8,2,none⟩ = some (.int .i64 Y.f2))) (ds:=[]) (mk_ 0 9) (by kernel_rfl) rfl (by kernel_rfl) (HK.out _ (Kept.refl _ _)) (fun hHeld=>?_)
        iterate 7 (first
          |(refine pm_ (v:=?_) (a':=?_) rfl rfl (by kernel_rfl) (fun _ _ _ h=>h) ?_ ?_ ?_;rotate_left 2;(focus refine Or.inl ⟨by rfl,?_⟩;intro w';go_simp;with_reducible rfl);(focus simp only [List.getElem_toArray,List.getElem_cons_succ,List.getElem_cons_zero,Act.put,List.setIfInBounds_toArray,List.set_cons_zero,List.set_cons_succ,i64_w,i32_w];rfl))
          |(refine tm_ (v:=?_) (a':=?_) rfl rfl (by kernel_rfl) (fun _ _ _ h=>h) ?_ hHeld ?_ ?_;rotate_left 2;(focus refine Or.inl ⟨by rfl,?_⟩;rintro w' ⟨s0,s1,s2,s3,s4,s5,s6,s7⟩;go_simp;with_reducible rfl);(focus simp only [List.getElem_toArray,List.getElem_cons_succ,List.getElem_cons_zero,Act.put,List.setIfInBounds_toArray,List.set_cons_zero,List.set_cons_succ,i64_w,i32_w];rfl)))
        refine om_ rfl rfl (by kernel_rfl) (by decide) (fun K hK=>?_)
        simp only [List.getElem_toArray,List.getElem_cons_succ,List.getElem_cons_zero]
        refine skip107 (by rfl) rfl rfl rfl rfl (bkD HG5.out) (fun W1 hW1=>?_)
        refine hK.out _ _ (HK.out _ ((show Kept wc W1 _ from hW1.kept).mono (fun k hk=>.inl hk))) (fun hHeld=>?_)
        clear hK K
        refine om_ rfl rfl (by kernel_rfl) (by decide) (fun K hK=>?_)
        simp only [List.getElem_toArray,List.getElem_cons_succ,List.getElem_cons_zero]
        refine skip87 (by rfl) rfl rfl rfl rfl (blk_kept (bkD HG6.out) hW1.kept (by omega)) (fun W2 hW2=>?_)
        refine hK.out _ _ (HK.out _ (((show Kept wc W1 _ from hW1.kept).mono (fun k hk=>.inl hk)).then_ hW2.kept (fun k hk=>.inl (.inr hk)))) (fun hHeld=>?_)
        clear hK K
        refine done_ (by kernel_rfl) ?_
        try go_wp2
        refine bodyPost_ret (results_list (rs:=[.tmp 4,.cell 5 107,.cell 6 87]) rfl (by simp) (.tmp (.cell (w.heap.size + 1) 107 _ (0,0) _ rfl (blk_kept hW1.blk hW2.kept (by omega)) Try.underlying107 rfl (by kernel_rfl) (.cell (w.heap.size + 1 + 1) 87 _ (0,0) _ rfl hW2.blk Try.underlying87 rfl (by kernel_rfl) .nil)))) rfl ?_
        exact⟨hW2.below _ _ (hW1.below _ _ (bw1 HB.out) (by omega)) (by omega),by rw [hm];rfl⟩
      have k4b :(Y.f0 == 1) = false:=beq_eq_false_iff_ne.mpr k4
      rw [if_neg k4] at hm
      by_cases k5 : X.f0 = Y.f0
      case neg =>
        have k5b :(X.f0 == Y.f0) = false:=beq_eq_false_iff_ne.mpr k5
        have k5c :(X.f0 != Y.f0) = true:=bne_iff_ne.mpr k5
        rw [if_neg k5] at hm
        clear k3 k4 k5
        go_wp2
        refine start_ (n:=6) (S:=(fun W'=>W'.cell? ⟨w.heap.size,0,none⟩ = some (.int .i64 p.f0)∧W'.cell? ⟨w.heap.size,1,none⟩ = some (.int .i64 p.f1)∧W'.cell? ⟨w.heap.size,2,none⟩ = some (.int .i64 p.f2)∧W'.cell? ⟨g7,0,none⟩ = some (.int .i64 X.f0)∧W'.cell? ⟨g7,1,none⟩ = some (.int .i64 X.f1)∧W'.cell? ⟨g7,2,none⟩ = some (.int .i64 X.f2)∧W'.cell? ⟨g8,1,none⟩ = some (.int .i64 Y.f1)∧W'.cell? ⟨g8,2,none⟩ = some (.int .i64 Y.f2))) (ds:=[]) (mk_ 0 6) (by kernel_rfl) rfl (by kernel_rfl) (HK.out _ (Kept.refl _ _)) (fun hHeld=>?_)
        iterate 4 (first
          |(refine pm_ (v:=?_) (a':=?_) rfl rfl (by kernel_rfl) (fun _ _ _ h=>h) ?_ ?_ ?_;rotate_left 2;(focus refine Or.inl ⟨by rfl,?_⟩;intro w';go_simp;with_reducible rfl);(focus simp only [List.getElem_toArray,List.getElem_cons_succ,List.getElem_cons_zero,Act.put,List.setIfInBounds_toArray,List.set_cons_zero,List.set_cons_succ,i64_w,i32_w];rfl))
          |(refine tm_ (v:=?_) (a':=?_) rfl rfl (by kernel_rfl) (fun _ _ _ h=>h) ?_ hHeld ?_ ?_;rotate_left 2;(focus refine Or.inl ⟨by rfl,?_⟩;rintro w' ⟨s0,s1,s2,s3,s4,s5,s6,s7⟩;go_simp;with_reducible rfl);(focus simp only [List.getElem_toArray,List.getElem_cons_succ,List.getElem_cons_zero,Act.put,List.setIfInBounds_toArray,List.set_cons_zero,List.set_cons_succ,i64_w,i32_w];rfl)))
        refine om_ rfl rfl (by kernel_rfl) (by decide) (fun K hK=>?_)
        simp only [List.getElem_toArray,List.getElem_cons_succ,List.getElem_cons_zero]
        refine skip107 (by rfl) rfl rfl rfl rfl (bkD HG5.out) (fun W1 hW1=>?_)
        refine hK.out _ _ (HK.out _ ((show Kept wc W1 _ from hW1.kept).mono (fun k hk=>.inl hk))) (fun hHeld=>?_)
        clear hK K
        refine om_ rfl rfl (by kernel_rfl) (by decide) (fun K hK=>?_)
        simp only [List.getElem_toArray,List.getElem_cons_succ,List.getElem_cons_zero]
        refine skip87 (by rfl) rfl rfl rfl rfl (blk_kept (bkD HG6.out) hW1.kept (by omega)) (fun W2 hW2=>?_)
        refine hK.out _ _ (HK.out _ (((show Kept wc W1 _ from hW1.kept).mono (fun k hk=>.inl hk)).then_ hW2.kept (fun k hk=>.inl (.inr hk)))) (fun hHeld=>?_)
        clear hK K
        refine done_ (by kernel_rfl) ?_
        try go_wp2
        refine bodyPost_ret (results_list (rs:=[.tmp 4,.cell 5 107,.cell 6 87]) rfl (by simp) (.tmp (.cell (w.heap.size + 1) 107 _ (0,0) _ rfl (blk_kept hW1.blk hW2.kept (by omega)) Try.underlying107 rfl (by kernel_rfl) (.cell (w.heap.size + 1 + 1) 87 _ (0,0) _ rfl hW2.blk Try.underlying87 rfl (by kernel_rfl) .nil)))) rfl ?_
        exact⟨hW2.below _ _ (hW1.below _ _ (bw1 HB.out) (by omega)) (by omega),by rw [hm];rfl⟩
      have k5b :(X.f0 == Y.f0) = true:=beq_iff_eq.mpr k5
      have k5c :(X.f0 != Y.f0) = false:=bne_eq_false_iff_eq.mpr k5
      rw [if_pos k5] at hm
      by_cases k6 : X.f0 = 4
      · have k6b : (X.f0 == 4) = true := beq_iff_eq.mpr k6
        rw [if_pos k6] at hm
        clear k3 k4 k5 k6
        go_wp2
        refine start_ (n:=21) (S:=(fun W'=>W'.cell? ⟨w.heap.size,0,none⟩ = some (.int .i64 p.f0)∧W'.cell? ⟨w.heap.size,1,none⟩ = some (.int .i64 p.f1)∧W'.cell? ⟨w.heap.size,2,none⟩ = some (.int .i64 p.f2)∧W'.cell? ⟨g7,0,none⟩ = some (.int .i64 X.f0)∧W'.cell? ⟨g7,1,none⟩ = some (.int .i64 X.f1)∧W'.cell? ⟨g7,2,none⟩ = some (.int .i64 X.f2)∧W'.cell? ⟨g8,1,none⟩ = some (.int .i64 Y.f1)∧W'.cell? ⟨g8,2,none⟩ = some (.int .i64 Y.f2))) (ds:=[]) (mk_ 0 21) (by kernel_rfl) rfl (by kernel_rfl) (HK.out _ (Kept.refl _ _)) (fun hHeld=>?_)
        iterate 19 (first
          |(refine pm_ (v:=?_) (a':=?_) rfl rfl (by kernel_rfl) (fun _ _ _ h=>h) ?_ ?_ ?_;rotate_left 2;(focus refine Or.inl ⟨by rfl,?_⟩;intro w';go_simp;with_reducible rfl);(focus simp only [List.getElem_toArray,List.getElem_cons_succ,List.getElem_cons_zero,Act.put,List.setIfInBounds_toArray,List.set_cons_zero,List.set_cons_succ,i64_w,i32_w];rfl))
          |(refine tm_ (v:=?_) (a':=?_) rfl rfl (by kernel_rfl) (fun _ _ _ h=>h) ?_ hHeld ?_ ?_;rotate_left 2;(focus refine Or.inl ⟨by rfl,?_⟩;rintro w' ⟨s0,s1,s2,s3,s4,s5,s6,s7⟩;go_simp;with_reducible rfl);(focus simp only [List.getElem_toArray,List.getElem_cons_succ,List.getElem_cons_zero,Act.put,List.setIfInBounds_toArray,List.set_cons_zero,List.set_cons_succ,i64_w,i32_w];rfl)))
        refine om_ rfl rfl (by kernel_rfl) (by decide) (fun K hK=>?_)
        simp only [List.getElem_toArray,List.getElem_cons_succ,List.getElem_cons_zero]
        refine skip107 (by rfl) rfl rfl rfl rfl (bkD HG5.out) (fun W1 hW1=>?_)
        refine hK.out _ _ (HK.out _ ((show Kept wc W1 _ from hW1.kept).mono (fun k hk=>.inl hk))) (fun hHeld=>?_)
        clear hK K
        refine om_ rfl rfl (by kernel_rfl) (by decide) (fun K hK=>?_)
        simp only [List.getElem_toArray,List.getElem_cons_succ,List.getElem_cons_zero]
        refine skip87 (by rfl) rfl rfl rfl rfl (blk_kept (bkD HG6.out) hW1.kept (by omega)) (fun W2 hW2=>?_)
        refine hK.out _ _ (HK.out _ (((show Kept wc W1 _ from hW1.kept).mono (fun k hk=>.inl hk)).then_ hW2.kept (fun k hk=>.inl (.inr hk)))) (fun hHeld=>?_)
        clear hK K
        refine done_ (by kernel_rfl) ?_
        try go_wp2
        refine bodyPost_ret (results_list (rs:=[.tmp 4,.cell 5 107,.cell 6 87]) rfl (by simp) (.tmp (.cell (w.heap.size + 1) 107 _ (0,0) _ rfl (blk_kept hW1.blk hW2.kept (by omega)) Try.underlying107 rfl (by kernel_rfl) (.cell (w.heap.size + 1 + 1) 87 _ (0,0) _ rfl hW2.blk Try.underlying87 rfl (by kernel_rfl) .nil)))) rfl ?_
        exact⟨hW2.below _ _ (hW1.below _ _ (bw1 HB.out) (by omega)) (by omega),by rw [hm];rfl⟩
      have k6b :(X.f0 == 4) = false:=beq_eq_false_iff_ne.mpr k6
      rw [if_neg k6] at hm
      clear k3 k4 k5 k6
      go_wp2
      refine start_ (n:=20) (S:=(fun W'=>W'.cell? ⟨w.heap.size,0,none⟩ = some (.int .i64 p.f0)∧W'.cell? ⟨w.heap.size,1,none⟩ = some (.int .i64 p.f1)∧W'.cell? ⟨w.heap.size,2,none⟩ = some (.int .i64 p.f2)∧W'.cell? ⟨g7,0,none⟩ = some (.int .i64 X.f0)∧W'.cell? ⟨g7,1,none⟩ = some (.int .i64 X.f1)∧W'.cell? ⟨g7,2,none⟩ = some (.int .i64 X.f2)∧W'.cell? ⟨g8,1,none⟩ = some (.int .i64 Y.f1)∧W'.cell? ⟨g8,2,none⟩ = some (.int .i64 Y.f2))) (ds:=[]) (mk_ 0 20) (by kernel_rfl) rfl (by kernel_rfl) (HK.out _ (Kept.refl _ _)) (fun hHeld=>?_)
      iterate 18 (first
        |(refine pm_ (v:=?_) (a':=?_) rfl rfl (by kernel_rfl) (fun _ _ _ h=>h) ?_ ?_ ?_;rotate_left 2;(focus refine Or.inl ⟨by rfl,?_⟩;intro w';go_simp;with_reducible rfl);(focus simp only [List.getElem_toArray,List.getElem_cons_succ,List.getElem_cons_zero,Act.put,List.setIfInBounds_toArray,List.set_cons_zero,List.set_cons_succ,i64_w,i32_w];rfl))
        |(refine tm_ (v:=?_) (a':=?_) rfl rfl (by kernel_rfl) (fun _ _ _ h=>h) ?_ hHeld ?_ ?_;rotate_left 2;(focus refine Or.inl ⟨by rfl,?_⟩;rintro w' ⟨s0,s1,s2,s3,s4,s5,s6,s7⟩;go_simp;with_reducible rfl);(focus simp only [List.getElem_toArray,List.getElem_cons_succ,List.getElem_cons_zero,Act.put,List.setIfInBounds_toArray,List.set_cons_zero,List.set_cons_succ,i64_w,i32_w];rfl)))
      refine om_ rfl rfl (by kernel_rfl) (by decide) (fun K hK=>?_)
      simp only [List.getElem_toArray,List.getElem_cons_succ,List.getElem_cons_zero]
      refine skip107 (by rfl) rfl rfl rfl rfl (bkD HG5.out) (fun W1 hW1=>?_)
      refine hK.out _ _ (HK.out _ ((show Kept wc W1 _ from hW1.kept).mono (fun k hk=>.inl hk))) (fun hHeld=>?_)
      clear hK K
      refine om_ rfl rfl (by kernel_rfl) (by decide) (fun K hK=>?_)
      simp only [List.getElem_toArray,List.getElem_cons_succ,List.getElem_cons_zero]
      refine skip87 (by rfl) rfl rfl rfl rfl (blk_kept (bkD HG6.out) hW1.kept (by omega)) (fun W2 hW2=>?_)
      refine hK.out _ _ (HK.out _ (((show Kept wc W1 _ from hW1.kept).mono (fun k hk=>.inl hk)).then_ hW2.kept (fun k hk=>.inl (.inr hk)))) (fun hHeld=>?_)
      clear hK K
      refine done_ (by kernel_rfl) ?_
      try go_wp2
      refine bodyPost_ret (results_list (rs:=[.tmp 4,.cell 5 107,.cell 6 87]) rfl (by simp) (.tmp (.cell (w.heap.size + 1) 107 _ (0,0) _ rfl (blk_kept hW1.blk hW2.kept (by omega)) Try.underlying107 rfl (by kernel_rfl) (.cell (w.heap.size + 1 + 1) 87 _ (0,0) _ rfl hW2.blk Try.underlying87 rfl (by kernel_rfl) .nil)))) rfl ?_
      exact⟨hW2.below _ _ (hW1.below _ _ (bw1 HB.out) (by omega)) (by omega),by rw [hm];rfl⟩
    have k2b :(p.f0 == 2) = false:=beq_eq_false_iff_ne.mpr k2
    by_cases k0 : p.f0 = 0
    · have k0b : (p.f0 == 0) = true := beq_iff_eq.mpr k0
      rw [if_pos k0] at hm
      clear k2
      go_wp2
      refine start_ (n:=17) (S:=(fun W'=>W'.cell? ⟨w.heap.size,0,none⟩ = some (.int .i64 p.f0)∧W'.cell? ⟨w.heap.size,1,none⟩ = some (.int .i64 p.f1)∧W'.cell? ⟨w.heap.size,2,none⟩ = some (.int .i64 p.f2)∧W'.cell? ⟨g7,0,none⟩ = some (.int .i64 X.f0)∧W'.cell? ⟨g7,1,none⟩ = some (.int .i64 X.f1)∧W'.cell? ⟨g7,2,none⟩ = some (.int .i64 X.f2)∧W'.cell? ⟨g8,1,none⟩ = some (.int .i64 Y.f1)∧W'.cell? ⟨g8,2,none⟩ = some (.int .i64 Y.f2))) (ds:=[]) (mk_ 0 17) (by kernel_rfl) rfl (by kernel_rfl) (HK.out _ (Kept.refl _ _)) (fun hHeld=>?_)
      iterate 15 (first
        |(refine pm_ (v:=?_) (a':=?_) rfl rfl (by kernel_rfl) (fun _ _ _ h=>h) ?_ ?_ ?_;rotate_left 2;(focus refine Or.inl ⟨by rfl,?_⟩;intro w';go_simp;with_reducible rfl);(focus simp only [List.getElem_toArray,List.getElem_cons_succ,List.getElem_cons_zero,Act.put,List.setIfInBounds_toArray,List.set_cons_zero,List.set_cons_succ,i64_w,i32_w];rfl))
        |(refine tm_ (v:=?_) (a':=?_) rfl rfl (by kernel_rfl) (fun _ _ _ h=>h) ?_ hHeld ?_ ?_;rotate_left 2;(focus refine Or.inl ⟨by rfl,?_⟩;rintro w' ⟨s0,s1,s2,s3,s4,s5,s6,s7⟩;go_simp;with_reducible rfl);(focus simp only [List.getElem_toArray,List.getElem_cons_succ,List.getElem_cons_zero,Act.put,List.setIfInBounds_toArray,List.set_cons_zero,List.set_cons_succ,i64_w,i32_w];rfl)))
      refine om_ rfl rfl (by kernel_rfl) (by decide) (fun K hK=>?_)
      simp only [List.getElem_toArray,List.getElem_cons_succ,List.getElem_cons_zero]
      refine skip107 (by rfl) rfl rfl rfl rfl (bkD HG5.out) (fun W1 hW1=>?_)
      refine hK.out _ _ (HK.out _ ((show Kept wc W1 _ from hW1.kept).mono (fun k hk=>.inl hk))) (fun hHeld=>?_)
      clear hK K
      refine om_ rfl rfl (by kernel_rfl) (by decide) (fun K hK=>?_)
      simp only [List.getElem_toArray,List.getElem_cons_succ,List.getElem_cons_zero]
      refine skip87 (by rfl) rfl rfl rfl rfl (blk_kept (bkD HG6.out) hW1.kept (by omega)) (fun W2 hW2=>?_)
      refine hK.out _ _ (HK.out _ (((show Kept wc W1 _ from hW1.kept).mono (fun k hk=>.inl hk)).then_ hW2.kept (fun k hk=>.inl (.inr hk)))) (fun hHeld=>?_)
      clear hK K
      refine done_ (by kernel_rfl) ?_
      try go_wp2
      refine bodyPost_ret (results_list (rs:=[.tmp 4,.cell 5 107,.cell 6 87]) rfl (by simp) (.tmp (.cell (w.heap.size + 1) 107 _ (0,0) _ rfl (blk_kept hW1.blk hW2.kept (by omega)) Try.underlying107 rfl (by kernel_rfl) (.cell (w.heap.size + 1 + 1) 87 _ (0,0) _ rfl hW2.blk Try.underlying87 rfl (by kernel_rfl) .nil)))) rfl ?_
      exact⟨hW2.below _ _ (hW1.below _ _ (bw1 HB.out) (by omega)) (by omega),by rw [hm];show _ = Ending.returned (.tuple #[_,_,.agg #[.int .i64 p.f0,.int .i64 p.f1,.int .i64 p.f2]]);rw [k0];rfl⟩
    have k0b :(p.f0 == 0) = false:=beq_eq_false_iff_ne.mpr k0
    simp only [if_neg k0,if_neg k2] at hm
    clear k2 k0
    by_cases k3 : X.f0 = 0
    · have k3b : (X.f0 == 0) = true := beq_iff_eq.mpr k3
      rw [if_pos k3] at hm
      go_wp2
      refine start_ (n:=9) (S:=(fun W'=>W'.cell? ⟨w.heap.size,0,none⟩ = some (.int .i64 p.f0)∧W'.cell? ⟨w.heap.size,1,none⟩ = some (.int .i64 p.f1)∧W'.cell? ⟨w.heap.size,2,none⟩ = some (.int .i64 p.f2)∧W'.cell? ⟨g7,0,none⟩ = some (.int .i64 X.f0)∧W'.cell? ⟨g7,1,none⟩ = some (.int .i64 X.f1)∧W'.cell? ⟨g7,2,none⟩ = some (.int .i64 X.f2)∧W'.cell? ⟨g8,1,none⟩ = some (.int .i64 Y.f1)∧W'.cell? ⟨g8,2,none⟩ = some (.int .i64 Y.f2))) (ds:=[]) (mk_ 0 9) (by kernel_rfl) rfl (by kernel_rfl) (HK.out _ (Kept.refl _ _)) (fun hHeld=>?_)
      iterate 7 (first
        |(refine pm_ (v:=?_) (a':=?_) rfl rfl (by kernel_rfl) (fun _ _ _ h=>h) ?_ ?_ ?_;rotate_left 2;(focus refine Or.inl ⟨by rfl,?_⟩;intro w';go_simp;with_reducible rfl);(focus simp only [List.getElem_toArray,List.getElem_cons_succ,List.getElem_cons_zero,Act.put,List.setIfInBounds_toArray,List.set_cons_zero,List.set_cons_succ,i64_w,i32_w];rfl))
        |(refine tm_ (v:=?_) (a':=?_) rfl rfl (by kernel_rfl) (fun _ _ _ h=>h) ?_ hHeld ?_ ?_;rotate_left 2;(focus refine Or.inl ⟨by rfl,?_⟩;rintro w' ⟨s0,s1,s2,s3,s4,s5,s6,s7⟩;go_simp;with_reducible rfl);(focus simp only [List.getElem_toArray,List.getElem_cons_succ,List.getElem_cons_zero,Act.put,List.setIfInBounds_toArray,List.set_cons_zero,List.set_cons_succ,i64_w,i32_w];rfl)))
      refine om_ rfl rfl (by kernel_rfl) (by decide) (fun K hK=>?_)
      simp only [List.getElem_toArray,List.getElem_cons_succ,List.getElem_cons_zero]
      refine skip107 (by rfl) rfl rfl rfl rfl (bkD HG5.out) (fun W1 hW1=>?_)
      refine hK.out _ _ (HK.out _ ((show Kept wc W1 _ from hW1.kept).mono (fun k hk=>.inl hk))) (fun hHeld=>?_)
      clear hK K
      refine om_ rfl rfl (by kernel_rfl) (by decide) (fun K hK=>?_)
      simp only [List.getElem_toArray,List.getElem_cons_succ,List.getElem_cons_zero]
      refine skip87 (by rfl) rfl rfl rfl rfl (blk_kept (bkD HG6.out) hW1.kept (by omega)) (fun W2 hW2=>?_)
      refine hK.out _ _ (HK.out _ (((show Kept wc W1 _ from hW1.kept).mono (fun k hk=>.inl hk)).then_ hW2.kept (fun k hk=>.inl (.inr hk)))) (fun hHeld=>?_)
      clear hK K
      refine done_ (by kernel_rfl) ?_
      try go_wp2
      refine bodyPost_ret (results_list (rs:=[.tmp 4,.cell 5 107,.cell 6 87]) rfl (by simp) (.tmp (.cell (w.heap.size + 1) 107 _ (0,0) _ rfl (blk_kept hW1.blk hW2.kept (by omega)) Try.underlying107 rfl (by kernel_rfl) (.cell (w.heap.size + 1 + 1) 87 _ (0,0) _ rfl hW2.blk Try.underlying87 rfl (by kernel_rfl) .nil)))) rfl ?_
      exact⟨hW2.below _ _ (hW1.below _ _ (bw1 HB.out) (by omega)) (by omega),by rw [hm];rfl⟩
    have k3b :(X.f0 == 0) = false:=beq_eq_false_iff_ne.mpr k3
    rw [if_neg k3] at hm
    by_cases k4 : Y.f0 = 0
    · have k4b : (Y.f0 == 0) = true := beq_iff_eq.mpr k4
      rw [if_pos k4] at hm
      go_wp2
      refine start_ (n:=9) (S:=(fun W'=>W'.cell? ⟨w.heap.size,0,none⟩ = some (.int .i64 p.f0)∧W'.cell? ⟨w.heap.size,1,none⟩ = some (.int .i64 p.f1)∧W'.cell? ⟨w.heap.size,2,none⟩ = some (.int .i64 p.f2)∧W'.cell? ⟨g7,0,none⟩ = some (.int .i64 X.f0)∧W'.cell? ⟨g7,1,none⟩ = some (.int .i64 X.f1)∧W'.cell? ⟨g7,2,none⟩ = some (.int .i64 X.f2)∧W'.cell? ⟨g8,1,none⟩ = some (.int .i64 Y.f1)∧W'.cell? ⟨g8,2,none⟩ = some (.int .i64 Y.f2))) (ds:=[]) (mk_ 0 9) (by kernel_rfl) rfl (by kernel_rfl) (HK.out _ (Kept.refl _ _)) (fun hHeld=>?_)
      iterate 7 (first
        |(refine pm_ (v:=?_) (a':=?_) rfl rfl (by kernel_rfl) (fun _ _ _ h=>h) ?_ ?_ ?_;rotate_left 2;(focus refine Or.inl ⟨by rfl,?_⟩;intro w';go_simp;with_reducible rfl);(focus simp only [List.getElem_toArray,List.getElem_cons_succ,List.getElem_cons_zero,Act.put,List.setIfInBounds_toArray,List.set_cons_zero,List.set_cons_succ,i64_w,i32_w];rfl))
        |(refine tm_ (v:=?_) (a':=?_) rfl rfl (by kernel_rfl) (fun _ _ _ h=>h) ?_ hHeld ?_ ?_;rotate_left 2;(focus refine Or.inl ⟨by rfl,?_⟩;rintro w' ⟨s0,s1,s2,s3,s4,s5,s6,s7⟩;go_simp;with_reducible rfl);(focus simp only [List.getElem_toArray,List.getElem_cons_succ,List.getElem_cons_zero,Act.put,List.setIfInBounds_toArray,List.set_cons_zero,List.set_cons_succ,i64_w,i32_w];rfl)))
      refine om_ rfl rfl (by kernel_rfl) (by decide) (fun K hK=>?_)
      simp only [List.getElem_toArray,List.getElem_cons_succ,List.getElem_cons_zero]
      refine skip107 (by rfl) rfl rfl rfl rfl (bkD HG5.out) (fun W1 hW1=>?_)
      refine hK.out _ _ (HK.out _ ((show Kept wc W1 _ from hW1.kept).mono (fun k hk=>.inl hk))) (fun hHeld=>?_)
      clear hK K
      refine om_ rfl rfl (by kernel_rfl) (by decide) (fun K hK=>?_)
      simp only [List.getElem_toArray,List.getElem_cons_succ,List.getElem_cons_zero]
      refine skip87 (by rfl) rfl rfl rfl rfl (blk_kept (bkD HG6.out) hW1.kept (by omega)) (fun W2 hW2=>?_)
      refine hK.out _ _ (HK.out _ (((show Kept wc W1 _ from hW1.kept).mono (fun k hk=>.inl hk)).then_ hW2.kept (fun k hk=>.inl (.inr hk)))) (fun hHeld=>?_)
      clear hK K
      refine done_ (by kernel_rfl) ?_
      try go_wp2
      refine bodyPost_ret (results_list (rs:=[.tmp 4,.cell 5 107,.cell 6 87]) rfl (by simp) (.tmp (.cell (w.heap.size + 1) 107 _ (0,0) _ rfl (blk_kept hW1.blk hW2.kept (by omega)) Try.underlying107 rfl (by kernel_rfl) (.cell (w.heap.size + 1 + 1) 87 _ (0,0) _ rfl hW2.blk Try.underlying87 rfl (by kernel_rfl) .nil)))) rfl ?_
      exact⟨hW2.below _ _ (hW1.below _ _ (bw1 HB.out) (by omega)) (by omega),by rw [hm];rfl⟩
    have k4b :(Y.f0 == 0) = false:=beq_eq_false_iff_ne.mpr k4
    rw [if_neg k4] at hm
    by_cases k5 : X.f0 = Y.f0
    case neg =>
      have k5b :(X.f0 == Y.f0) = false:=beq_eq_false_iff_ne.mpr k5
      have k5c :(X.f0 != Y.f0) = true:=bne_iff_ne.mpr k5
      rw [if_neg k5] at hm
      clear k3 k4 k5
      go_wp2
      refine start_ (n:=6) (S:=(fun W'=>W'.cell? ⟨w.heap.size,0,none⟩ = some (.int .i64 p.f0)∧W'.cell? ⟨w.heap.size,1,none⟩ = some (.int .i64 p.f1)∧W'.cell? ⟨w.heap.size,2,none⟩ = some (.int .i64 p.f2)∧W'.cell? ⟨g7,0,none⟩ = some (.int .i64 X.f0)∧W'.cell? ⟨g7,1,none⟩ = some (.int .i64 X.f1)∧W'.cell? ⟨g7,2,none⟩ = some (.int .i64 X.f2)∧W'.cell? ⟨g8,1,none⟩ = some (.int .i64 Y.f1)∧W'.cell? ⟨g8,2,none⟩ = some (.int .i64 Y.f2))) (ds:=[]) (mk_ 0 6) (by kernel_rfl) rfl (by kernel_rfl) (HK.out _ (Kept.refl _ _)) (fun hHeld=>?_)
      iterate 4 (first
        |(refine pm_ (v:=?_) (a':=?_) rfl rfl (by kernel_rfl) (fun _ _ _ h=>h) ?_ ?_ ?_;rotate_left 2;(focus refine Or.inl ⟨by rfl,?_⟩;intro w';go_simp;with_reducible rfl);(focus simp only [List.getElem_toArray,List.getElem_cons_succ,List.getElem_cons_zero,Act.put,List.setIfInBounds_toArray,List.set_cons_zero,List.set_cons_succ,i64_w,i32_w];rfl))
        |(refine tm_ (v:=?_) (a':=?_) rfl rfl (by kernel_rfl) (fun _ _ _ h=>h) ?_ hHeld ?_ ?_;rotate_left 2;(focus refine Or.inl ⟨by rfl,?_⟩;rintro w' ⟨s0,s1,s2,s3,s4,s5,s6,s7⟩;go_simp;with_reducible rfl);(focus simp only [List.getElem_toArray,List.getElem_cons_succ,List.getElem_cons_zero,Act.put,List.setIfInBounds_toArray,List.set_cons_zero,List.set_cons_succ,i64_w,i32_w];rfl)))
      refine om_ rfl rfl (by kernel_rfl) (by decide) (fun K hK=>?_)
      simp only [List.getElem_toArray,List.getElem_cons_succ,List.getElem_cons_zero]
      refine skip107 (by rfl) rfl rfl rfl rfl (bkD HG5.out) (fun W1 hW1=>?_)
      refine hK.out _ _ (HK.out _ ((show Kept wc W1 _ from hW1.kept).mono (fun k hk=>.inl hk))) (fun hHeld=>?_)
      clear hK K
      refine om_ rfl rfl (by kernel_rfl) (by decide) (fun K hK=>?_)
      simp only [List.getElem_toArray,List.getElem_cons_succ,List.getElem_cons_zero]
      refine skip87 (by rfl) rfl rfl rfl rfl (blk_kept (bkD HG6.out) hW1.kept (by omega)) (fun W2 hW2=>?_)
      refine hK.out _ _ (HK.out _ (((show Kept wc W1 _ from hW1.kept).mono (fun k hk=>.inl hk)).then_ hW2.kept (fun k hk=>.inl (.inr hk)))) (fun hHeld=>?_)
      clear hK K
      refine done_ (by kernel_rfl) ?_
      try go_wp2
      refine bodyPost_ret (results_list (rs:=[.tmp 4,.cell 5 107,.cell 6 87]) rfl (by simp) (.tmp (.cell (w.heap.size + 1) 107 _ (0,0) _ rfl (blk_kept hW1.blk hW2.kept (by omega)) Try.underlying107 rfl (by kernel_rfl) (.cell (w.heap.size + 1 + 1) 87 _ (0,0) _ rfl hW2.blk Try.underlying87 rfl (by kernel_rfl) .nil)))) rfl ?_
      exact⟨hW2.below _ _ (hW1.below _ _ (bw1 HB.out) (by omega)) (by omega),by rw [hm];rfl⟩
    have k5b :(X.f0 == Y.f0) = true:=beq_iff_eq.mpr k5
    have k5c :(X.f0 != Y.f0) = false:=bne_eq_false_iff_eq.mpr k5
    rw [if_pos k5] at hm
    by_cases k6 : X.f0 = 4
    · have k6b : (X.f0 == 4) = true := beq_iff_eq.mpr k6
      rw [if_pos k6] at hm
      clear k3 k4 k5 k6
      go_wp2
      refine start_ (n:=21) (S:=(fun W'=>W'.cell? ⟨w.heap.size,0,none⟩ = some (.int .i64 p.f0)∧W'.cell? ⟨w.heap.size,1,none⟩ = some (.int .i64 p.f1)∧W'.cell? ⟨w.heap.size,2,none⟩ = some (.int .i64 p.f2)∧W'.cell? ⟨g7,0,none⟩ = some (.int .i64 X.f0)∧W'.cell? ⟨g7,1,none⟩ = some (.int .i64 X.f1)∧W'.cell? ⟨g7,2,none⟩ = some (.int .i64 X.f2)∧W'.cell? ⟨g8,1,none⟩ = some (.int .i64 Y.f1)∧W'.cell? ⟨g8,2,none⟩ = some (.int .i64 Y.f2))) (ds:=[]) (mk_ 0 21) (by kernel_rfl) rfl (by kernel_rfl) (HK.out _ (Kept.refl _ _)) (fun hHeld=>?_)
      iterate 19 (first
        |(refine pm_ (v:=?_) (a':=?_) rfl rfl (by kernel_rfl) (fun _ _ _ h=>h) ?_ ?_ ?_;rotate_left 2;(focus refine Or.inl ⟨by rfl,?_⟩;intro w';go_simp;with_reducible rfl);(focus simp only [List.getElem_toArray,List.getElem_cons_succ,List.getElem_cons_zero,Act.put,List.setIfInBounds_toArray,List.set_cons_zero,List.set_cons_succ,i64_w,i32_w];rfl))
        |(refine tm_ (v:=?_) (a':=?_) rfl rfl (by kernel_rfl) (fun _ _ _ h=>h) ?_ hHeld ?_ ?_;rotate_left 2;(focus refine Or.inl ⟨by rfl,?_⟩;rintro w' ⟨s0,s1,s2,s3,s4,s5,s6,s7⟩;go_simp;with_reducible rfl);(focus simp only [List.getElem_toArray,List.getElem_cons_succ,List.getElem_cons_zero,Act.put,List.setIfInBounds_toArray,List.set_cons_zero,List.set_cons_succ,i64_w,i32_w];rfl)))
      refine om_ rfl rfl (by kernel_rfl) (by decide) (fun K hK=>?_)
      simp only [List.getElem_toArray,List.getElem_cons_succ,List.getElem_cons_zero]
      refine skip107 (by rfl) rfl rfl rfl rfl (bkD HG5.out) (fun W1 hW1=>?_)
      refine hK.out _ _ (HK.out _ ((show Kept wc W1 _ from hW1.kept).mono (fun k hk=>.inl hk))) (fun hHeld=>?_)
      clear hK K
      refine om_ rfl rfl (by kernel_rfl) (by decide) (fun K hK=>?_)
      simp only [List.getElem_toArray,List.getElem_cons_succ,List.getElem_cons_zero]
      refine skip87 (by rfl) rfl rfl rfl rfl (blk_kept (bkD HG6.out) hW1.kept (by omega)) (fun W2 hW2=>?_)
      refine hK.out _ _ (HK.out _ (((show Kept wc W1 _ from hW1.kept).mono (fun k hk=>.inl hk)).then_ hW2.kept (fun k hk=>.inl (.inr hk)))) (fun hHeld=>?_)
      clear hK K
      refine done_ (by kernel_rfl) ?_
      try go_wp2
      refine bodyPost_ret (results_list (rs:=[.tmp 4,.cell 5 107,.cell 6 87]) rfl (by simp) (.tmp (.cell (w.heap.size + 1) 107 _ (0,0) _ rfl (blk_kept hW1.blk hW2.kept (by omega)) Try.underlying107 rfl (by kernel_rfl) (.cell (w.heap.size + 1 + 1) 87 _ (0,0) _ rfl hW2.blk Try.underlying87 rfl (by kernel_rfl) .nil)))) rfl ?_
      exact⟨hW2.below _ _ (hW1.below _ _ (bw1 HB.out) (by omega)) (by omega),by rw [hm];rfl⟩
    have k6b :(X.f0 == 4) = false:=beq_eq_false_iff_ne.mpr k6
    rw [if_neg k6] at hm
    clear k3 k4 k5 k6
    go_wp2
    refine start_ (n:=20) (S:=(fun W'=>W'.cell? ⟨w.heap.size,0,none⟩ = some (.int .i64 p.f0)∧W'.cell? ⟨w.heap.size,1,none⟩ = some (.int .i64 p.f1)∧W'.cell? ⟨w.heap.size,2,none⟩ = some (.int .i64 p.f2)∧W'.cell? ⟨g7,0,none⟩ = some (.int .i64 X.f0)∧W'.cell? ⟨g7,1,none⟩ = some (.int .i64 X.f1)∧W'.cell? ⟨g7,2,none⟩ = some (.int .i64 X.f2)∧W'.cell? ⟨g8,1,none⟩ = some (.int .i64 Y.f1)∧W'.cell? ⟨g8,2,none⟩ = some (.int .i64 Y.f2))) (ds:=[]) (mk_ 0 20) (by kernel_rfl) rfl (by kernel_rfl) (HK.out _ (Kept.refl _ _)) (fun hHeld=>?_)
    iterate 18 (first
      |(refine pm_ (v:=?_) (a':=?_) rfl rfl (by kernel_rfl) (fun _ _ _ h=>h) ?_ ?_ ?_;rotate_left 2;(focus refine Or.inl ⟨by rfl,?_⟩;intro w';go_simp;with_reducible rfl);(focus simp only [List.getElem_toArray,List.getElem_cons_succ,List.getElem_cons_zero,Act.put,List.setIfInBounds_toArray,List.set_cons_zero,List.set_cons_succ,i64_w,i32_w];rfl))
      |(refine tm_ (v:=?_) (a':=?_) rfl rfl (by kernel_rfl) (fun _ _ _ h=>h) ?_ hHeld ?_ ?_;rotate_left 2;(focus refine Or.inl ⟨by rfl,?_⟩;rintro w' ⟨s0,s1,s2,s3,s4,s5,s6,s7⟩;go_simp;with_reducible rfl);(focus simp only [List.getElem_toArray,List.getElem_cons_succ,List.getElem_cons_zero,Act.put,List.setIfInBounds_toArray,List.set_cons_zero,List.set_cons_succ,i64_w,i32_w];rfl)))
    refine om_ rfl rfl (by kernel_rfl) (by decide) (fun K hK=>?_)
    simp only [List.getElem_toArray,List.getElem_cons_succ,List.getElem_cons_zero]
    refine skip107 (by rfl) rfl rfl rfl rfl (bkD HG5.out) (fun W1 hW1=>?_)
    refine hK.out _ _ (HK.out _ ((show Kept wc W1 _ from hW1.kept).mono (fun k hk=>.inl hk))) (fun hHeld=>?_)
    clear hK K
    refine om_ rfl rfl (by kernel_rfl) (by decide) (fun K hK=>?_)
    simp only [List.getElem_toArray,List.getElem_cons_succ,List.getElem_cons_zero]
    refine skip87 (by rfl) rfl rfl rfl rfl (blk_kept (bkD HG6.out) hW1.kept (by omega)) (fun W2 hW2=>?_)
    refine hK.out _ _ (HK.out _ (((show Kept wc W1 _ from hW1.kept).mono (fun k hk=>.inl hk)).then_ hW2.kept (fun k hk=>.inl (.inr hk)))) (fun hHeld=>?_)
    clear hK K
    refine done_ (by kernel_rfl) ?_
    try go_wp2
    refine bodyPost_ret (results_list (rs:=[.tmp 4,.cell 5 107,.cell 6 87]) rfl (by simp) (.tmp (.cell (w.heap.size + 1) 107 _ (0,0) _ rfl (blk_kept hW1.blk hW2.kept (by omega)) Try.underlying107 rfl (by kernel_rfl) (.cell (w.heap.size + 1 + 1) 87 _ (0,0) _ rfl hW2.blk Try.underlying87 rfl (by kernel_rfl) .nil)))) rfl ?_
    exact⟨hW2.below _ _ (hW1.below _ _ (bw1 HB.out) (by omega)) (by omega),by rw [hm];rfl⟩
theorem info87 :(Try.prog.info? 87).map (fun i=>(i.zero,i.size,i.bytes)) = some (some (.agg #[(.int .i64 0),(.int .i64 0),(.int .i64 0)]),3,24):=by kernel_rfl
theorem eqA87 (d : Nat) (w : World) (x0 y0 : Int) (x1 y1 : Int) (x2 y2 : Int) :
  (Op.equalIn (d + 2) 87 (.agg #[.int .i64 x0,.int .i64 x1,.int .i64 x2]) (.agg #[.int .i64 y0,.int .i64 y1,.int .i64 y2])).run Try.prog w = .ok (x0 == y0 && (x1 == y1 && (x2 == y2))) w:=by
 refine eqA_of Try.underlying87 (by kernel_rfl) ?_
 refine eqf_cons (by rfl) (by go_simp;rfl) (by go_simp;rfl) (by go_simp) ?_
 refine eqf_cons (by rfl) (by go_simp;rfl) (by go_simp;rfl) (by go_simp) ?_
 exact eqf_last (by rfl) (by go_simp;rfl) (by go_simp;rfl) (by go_simp)
attribute [local go_sem high] eqA87
def latM (t : List S39) (w : S87) : Int×S87×S87×S87:=madeM (rd_T39 t w.f1) (rd_T39 t w.f2) w
def latS (t : List S39) (w : S87) : S87:=(latM t w).2.2.2
def latNs (t : List S39) (ns : List S87) (w : S87) : List S87:=if l87 (latS t w) ∈ ns.map l87 then ns else ns ++ [latS t w]
def latIx (t : List S39) (ns : List S87) (w : S87) : Int:=(numIx (ns.map l87) (l87 (latS t w)) : Int)
theorem latNs_len (t : List S39) (ns : List S87) (w : S87) :(latNs t ns w).length≤ns.length + 1:=by
 unfold latNs
 split
 ·omega
 simp
/-- What holds in memory all along. -/
structure LatSt (l0 : List S39) (A0 : Option Addr) (c0 gt ga gl b : Nat) (wc W : World) (vn : Value) (ns : List S87) : Prop where
 below : Below wc.heap.size wc W
 tb : W.heap[gt]? = some (.cells #[.slice A0 l0.length c0] 22 (0,0))
 mb : W.heap[ga]? = some (.cells #[.map (some b)] 105 (0,0))
 lb : W.heap[gl]? = some (.cells #[vn] 106 (0,0))
 map : MapAt W Try.prog 87 b ns.length (encL (numM (ns.map l87)))
 row : Kd.R k87 87 W wc.heap.size (fun _=>True) vn ns
section
variable {l0 : List S39} {A0 : Option Addr} {c0 gt ga gl b : Nat} {wc W : World} {vn : Value} {ns : List S87}
theorem LatSt.belowN (h : LatSt l0 A0 c0 gt ga gl b wc W vn ns) {W' : World} (hB : Below W.heap.size W W') : LatSt l0 A0 c0 gt ga gl b wc W' vn ns:=by
 obtain ⟨h1,h2,h3,h4,h5,h6⟩:=h
 exact⟨below_then h1 h1.size hB,bkB h2 hB,bkB h3 hB,bkB h4 hB,h5.below hB,Kd.R_below h6 hB⟩
end
def LatPost (l0 : List S39) (A0 : Option Addr) (c0 gt ga gl b : Nat) (wc W : World) (vn : Value) (ns : List S87) (r : Int) (e : Ending) (w' : World) : Prop :=
 e = .returned (.int .i64 r)∧∃ vn',LatSt l0 A0 c0 gt ga gl b wc w' vn' ns∧Kept W w' (fun i=>i = gl∨i = b∨some i = vn.ownBlock)
theorem z3_run (w : World) :(zeroValue 3).run Try.prog w = .ok (.int .i64 0) w:=by kernel_rfl
set_option maxHeartbeats 4000000 in
set_option maxRecDepth 100000 in
theorem lfind_fn.calls (l0 : List S39) (A0 : Option Addr) (c0 gt ga gl b : Nat) (wc W : World) (vn : Value) (ns : List S87) (p : S87)
  (h : LatSt l0 A0 c0 gt ga gl b wc W vn ns) (hr0 : Kd.C k39 wc A0 l0.length l0) (hge : wc.heap.size≤gl∧wc.heap.size≤b) (hi : 0≤p.f1∧p.f1 < l0.length) (hj : 0≤p.f2∧p.f2 < l0.length) (hl : ns.length≤100000)
  (hI : I64 (latS l0 p).f0∧I64 (latS l0 p).f1∧I64 (latS l0 p).f2) :
  Calls Try.prog 66 #[c87 p,.pointer (some ⟨gt,0,none⟩),.pointer (some ⟨ga,0,none⟩),.pointer (some ⟨gl,0,none⟩)] W (LatPost l0 A0 c0 gt ga gl b wc W vn (latNs l0 ns p) (latIx l0 (latNs l0 ns p) p)):=by
 obtain ⟨m,hm⟩ : ∃ m,m = latM l0 p:=⟨_,rfl⟩
 have HMD:=Aside0.mk (fun(W' : World) (hB : Below wc.heap.size wc W')=>made_fn.calls A0 c0 l0 p W' (Kd.C_below hr0 hB) hi hj)
 rw [show madeM (rd_T39 l0 p.f1) (rd_T39 l0 p.f2) p = m from hm.symm] at HMD
 have hs : latS l0 p = m.2.2.2:=by rw [hm];rfl
 obtain ⟨mk,m0,m1,s⟩:=m
 have hs' : latS l0 p = s:=hs
 rw [hs'] at hI
 have hkey : keyOf Try.prog 87 (c87 s) = some (lit87 s.f0 s.f1 s.f2):=key87 hI.1 hI.2.1 hI.2.2
 have HMD:=Aside0.mk (fun(W' : World) (hB : Below wc.heap.size wc W')=>(show Calls Try.prog 67 #[.slice A0 l0.length c0,.agg #[.int .i64 p.f0,.int .i64 p.f1,.int .i64 p.f2]] W' (fun e w'=>Below W'.heap.size W' w'∧e = .returned (.tuple #[.int .i64 mk,.agg #[.int .i64 m0.f0,.int .i64 m0.f1,.int .i64 m0.f2,.int .i64 m1.f0,.int .i64 m1.f1,.int .i64 m1.f2],.agg #[.int .i64 s.f0,.int .i64 s.f1,.int .i64 s.f2]])) from HMD.out W' hB))
 have HS:=Aside0.mk h
 have HBX:=Aside0.mk (heap_alloc_new W (.cells #[.int .i64 p.f0,.int .i64 p.f1,.int .i64 p.f2] 87))
 have HKY:=Aside0.mk hkey
 have HGE:=Aside0.mk hge
 have HSS:=Aside0.mk hs'
 have HL:=Aside0.mk hl
 have ht0 :(W.alloc (.cells #[.int .i64 p.f0,.int .i64 p.f1,.int .i64 p.f2] 87)).cell? ⟨gt,0,none⟩ = some (.slice A0 l0.length c0):=(bkC (bkB h.tb (bwA (Below.refl _ _) _)) 0).trans rfl
 obtain ⟨An,cn,ev⟩:=Kd.R_slice HS.out.row
 subst ev
 clear h hr0 hi hj hI hkey hm hs hs' hge hl
 show Calls Try.prog 66 #[.agg #[.int .i64 p.f0,.int .i64 p.f1,.int .i64 p.f2],_,_,_] W _
 by_cases c3 : s = p
 ·have c3' := c3.symm
  clear c3
  subst c3'
  by_cases c4 : l87 p ∈ ns.map l87
  ·have e1 : latNs l0 ns p = ns := by unfold latNs; rw [HSS.out, if_pos c4]
   have e2 : latIx l0 ns p =(numIx (ns.map l87) (l87 p) : Int):=by unfold latIx;rw [HSS.out]
   rw [e1,e2]
   obtain ⟨r,hr⟩ : ∃ r,r =(numIx (ns.map l87) (l87 p) : Int):=⟨_,rfl⟩
   rw [← hr]
   have HR:=Aside0.mk hr
   have C4:=Aside0.mk c4
   clear e1 e2 hr c4
   go_enter Try.func66,Try.ntmps66
   go_wp2_with (go_at_call 67;go_must (
     (with_reducible refine(HMD.out _ (bwA HS.out.below _)).mono ?_);rintro e w1 ⟨hB1,rfl⟩;
     have hb1:=below_then (bwA (Below.refl _ _) _) (bwA (Below.refl W.heap.size W) _).size hB1;
     have hx1:=bkB HBX.out hB1;
     have hx2 :((w1.alloc (.cells #[.int .i64 m0.f0,.int .i64 m0.f1,.int .i64 m0.f2,.int .i64 m1.f0,.int .i64 m1.f1,.int .i64 m1.f2] 107)).alloc (.cells #[.int .i64 p.f0,.int .i64 p.f1,.int .i64 p.f2] 87)).heap[W.heap.size]? = some (.cells #[.int .i64 p.f0,.int .i64 p.f1,.int .i64 p.f2] 87 (0,0)):=bkB hx1 (bwA (bwA (Below.refl _ _) _) _);
     have hp0 :((w1.alloc (.cells #[.int .i64 m0.f0,.int .i64 m0.f1,.int .i64 m0.f2,.int .i64 m1.f0,.int .i64 m1.f1,.int .i64 m1.f2] 107)).alloc (.cells #[.int .i64 p.f0,.int .i64 p.f1,.int .i64 p.f2] 87)).cell? ⟨W.heap.size,0,none⟩ = some (.int .i64 p.f0):=(bkC hx2 0).trans rfl;
     have hp1 :((w1.alloc (.cells #[.int .i64 m0.f0,.int .i64 m0.f1,.int .i64 m0.f2,.int .i64 m1.f0,.int .i64 m1.f1,.int .i64 m1.f2] 107)).alloc (.cells #[.int .i64 p.f0,.int .i64 p.f1,.int .i64 p.f2] 87)).cell? ⟨W.heap.size,1,none⟩ = some (.int .i64 p.f1):=(bkC hx2 1).trans rfl;
     have hp2 :((w1.alloc (.cells #[.int .i64 m0.f0,.int .i64 m0.f1,.int .i64 m0.f2,.int .i64 m1.f0,.int .i64 m1.f1,.int .i64 m1.f2] 107)).alloc (.cells #[.int .i64 p.f0,.int .i64 p.f1,.int .i64 p.f2] 87)).cell? ⟨W.heap.size,2,none⟩ = some (.int .i64 p.f2):=(bkC hx2 2).trans rfl;
     have hx3:=hx2;
     have hB3 : Below W.heap.size W ((w1.alloc (.cells #[.int .i64 m0.f0,.int .i64 m0.f1,.int .i64 m0.f2,.int .i64 m1.f0,.int .i64 m1.f1,.int .i64 m1.f2] 107)).alloc (.cells #[.int .i64 p.f0,.int .i64 p.f1,.int .i64 p.f2] 87)):=bwA (bwA hb1 _) _;
     have hS3:=HS.out.belowN hB3;
     have hca :((w1.alloc (.cells #[.int .i64 m0.f0,.int .i64 m0.f1,.int .i64 m0.f2,.int .i64 m1.f0,.int .i64 m1.f1,.int .i64 m1.f2] 107)).alloc (.cells #[.int .i64 p.f0,.int .i64 p.f1,.int .i64 p.f2] 87)).cell? ⟨ga,0,none⟩ = some (.map (some b)):=(bkC hS3.mb 0).trans rfl;
     have hcl :((w1.alloc (.cells #[.int .i64 m0.f0,.int .i64 m0.f1,.int .i64 m0.f2,.int .i64 m1.f0,.int .i64 m1.f1,.int .i64 m1.f2] 107)).alloc (.cells #[.int .i64 p.f0,.int .i64 p.f1,.int .i64 p.f2] 87)).cell? ⟨gl,0,none⟩ = some (.slice An ns.length cn):=(bkC hS3.lb 0).trans rfl;
     have hlo :(Instr.lookup 105 (.map (some b)) (.agg #[.int .i64 p.f0,.int .i64 p.f1,.int .i64 p.f2]) true).run Try.prog ((w1.alloc (.cells #[.int .i64 m0.f0,.int .i64 m0.f1,.int .i64 m0.f2,.int .i64 m1.f0,.int .i64 m1.f1,.int .i64 m1.f2] 107)).alloc (.cells #[.int .i64 p.f0,.int .i64 p.f1,.int .i64 p.f2] 87)) = .ok (.tuple #[.int .i64 r,.bool true]) ((w1.alloc (.cells #[.int .i64 m0.f0,.int .i64 m0.f1,.int .i64 m0.f2,.int .i64 m1.f0,.int .i64 m1.f1,.int .i64 m1.f2] 107)).alloc (.cells #[.int .i64 p.f0,.int .i64 p.f1,.int .i64 p.f2] 87)):=by(have hh:=hS3.map.lookOk law87 Try.underlying105 (z3_run _) HKY.out;rw [show c87 p = keyL (l87 p) from rfl,nl_some C4.out,← HR.out] at hh;exact hh);
     have hlk :(Instr.lookup 105 (.map (some b)) (.agg #[.int .i64 p.f0,.int .i64 p.f1,.int .i64 p.f2]) false).run Try.prog ((w1.alloc (.cells #[.int .i64 m0.f0,.int .i64 m0.f1,.int .i64 m0.f2,.int .i64 m1.f0,.int .i64 m1.f1,.int .i64 m1.f2] 107)).alloc (.cells #[.int .i64 p.f0,.int .i64 p.f1,.int .i64 p.f2] 87)) = .ok (.int .i64 r) ((w1.alloc (.cells #[.int .i64 m0.f0,.int .i64 m0.f1,.int .i64 m0.f2,.int .i64 m1.f0,.int .i64 m1.f1,.int .i64 m1.f2] 107)).alloc (.cells #[.int .i64 p.f0,.int .i64 p.f1,.int .i64 p.f2] 87)):=by(have hh:=hS3.map.look law87 Try.underlying105 (z3_run _) HKY.out;rw [show c87 p = keyL (l87 p) from rfl,nl_some C4.out,← HR.out] at hh;exact hh);
     have HS3:=Aside0.mk hS3;
     have HB3:=Aside0.mk hB3;
     clear hB1 hb1 hx1 hx2 hx3 hS3 hB3))
   go_ret
   exact⟨rfl,_,HS3.out,Kept.of_below HB3.out _⟩
  have e1 : latNs l0 ns p = ns ++ [p]:=by unfold latNs;rw [HSS.out,if_neg c4]
  have e2 : latIx l0 (ns ++ [p]) p =(ns.length : Int):=by unfold latIx;rw [HSS.out,List.map_append,List.map_singleton,numIx_new c4,List.length_map]
  rw [e1,e2]
  have C4:=Aside0.mk c4
  clear e1 e2 c4
  go_enter Try.func66,Try.ntmps66
  go_wp2_with (first |(go_at_call 67;go_must (
    (with_reducible refine(HMD.out _ (bwA HS.out.below _)).mono ?_);rintro e w1 ⟨hB1,rfl⟩;
    have hb1:=below_then (bwA (Below.refl _ _) _) (bwA (Below.refl W.heap.size W) _).size hB1;
    have hx1:=bkB HBX.out hB1;
    have hx2 :((w1.alloc (.cells #[.int .i64 m0.f0,.int .i64 m0.f1,.int .i64 m0.f2,.int .i64 m1.f0,.int .i64 m1.f1,.int .i64 m1.f2] 107)).alloc (.cells #[.int .i64 p.f0,.int .i64 p.f1,.int .i64 p.f2] 87)).heap[W.heap.size]? = some (.cells #[.int .i64 p.f0,.int .i64 p.f1,.int .i64 p.f2] 87 (0,0)):=bkB hx1 (bwA (bwA (Below.refl _ _) _) _);
    have hp0 :((w1.alloc (.cells #[.int .i64 m0.f0,.int .i64 m0.f1,.int .i64 m0.f2,.int .i64 m1.f0,.int .i64 m1.f1,.int .i64 m1.f2] 107)).alloc (.cells #[.int .i64 p.f0,.int .i64 p.f1,.int .i64 p.f2] 87)).cell? ⟨W.heap.size,0,none⟩ = some (.int .i64 p.f0):=(bkC hx2 0).trans rfl;
    have hp1 :((w1.alloc (.cells #[.int .i64 m0.f0,.int .i64 m0.f1,.int .i64 m0.f2,.int .i64 m1.f0,.int .i64 m1.f1,.int .i64 m1.f2] 107)).alloc (.cells #[.int .i64 p.f0,.int .i64 p.f1,.int .i64 p.f2] 87)).cell? ⟨W.heap.size,1,none⟩ = some (.int .i64 p.f1):=(bkC hx2 1).trans rfl;
    have hp2 :((w1.alloc (.cells #[.int .i64 m0.f0,.int .i64 m0.f1,.int .i64 m0.f2,.int .i64 m1.f0,.int .i64 m1.f1,.int .i64 m1.f2] 107)).alloc (.cells #[.int .i64 p.f0,.int .i64 p.f1,.int .i64 p.f2] 87)).cell? ⟨W.heap.size,2,none⟩ = some (.int .i64 p.f2):=(bkC hx2 2).trans rfl;
    have hx3:=hx2;
    have hB3 : Below W.heap.size W ((w1.alloc (.cells #[.int .i64 m0.f0,.int .i64 m0.f1,.int .i64 m0.f2,.int .i64 m1.f0,.int .i64 m1.f1,.int .i64 m1.f2] 107)).alloc (.cells #[.int .i64 p.f0,.int .i64 p.f1,.int .i64 p.f2] 87)):=bwA (bwA hb1 _) _;
    have hS3:=HS.out.belowN hB3;
    have hca :((w1.alloc (.cells #[.int .i64 m0.f0,.int .i64 m0.f1,.int .i64 m0.f2,.int .i64 m1.f0,.int .i64 m1.f1,.int .i64 m1.f2] 107)).alloc (.cells #[.int .i64 p.f0,.int .i64 p.f1,.int .i64 p.f2] 87)).cell? ⟨ga,0,none⟩ = some (.map (some b)):=(bkC hS3.mb 0).trans rfl;
    have hcl :((w1.alloc (.cells #[.int .i64 m0.f0,.int .i64 m0.f1,.int .i64 m0.f2,.int .i64 m1.f0,.int .i64 m1.f1,.int .i64 m1.f2] 107)).alloc (.cells #[.int .i64 p.f0,.int .i64 p.f1,.int .i64 p.f2] 87)).cell? ⟨gl,0,none⟩ = some (.slice An ns.length cn):=(bkC hS3.lb 0).trans rfl;
    have hlo :(Instr.lookup 105 (.map (some b)) (.agg #[.int .i64 p.f0,.int .i64 p.f1,.int .i64 p.f2]) true).run Try.prog ((w1.alloc (.cells #[.int .i64 m0.f0,.int .i64 m0.f1,.int .i64 m0.f2,.int .i64 m1.f0,.int .i64 m1.f1,.int .i64 m1.f2] 107)).alloc (.cells #[.int .i64 p.f0,.int .i64 p.f1,.int .i64 p.f2] 87)) = .ok (.tuple #[.int .i64 0,.bool false]) ((w1.alloc (.cells #[.int .i64 m0.f0,.int .i64 m0.f1,.int .i64 m0.f2,.int .i64 m1.f0,.int .i64 m1.f1,.int .i64 m1.f2] 107)).alloc (.cells #[.int .i64 p.f0,.int .i64 p.f1,.int .i64 p.f2] 87)):=by(have hh:=hS3.map.lookOk law87 Try.underlying105 (z3_run _) HKY.out;rw [show c87 p = keyL (l87 p) from rfl,nl_none C4.out] at hh;exact hh);
    obtain ⟨w4,hst,hm4,hg4⟩:=hS3.map.store law87 Try.underlying105 (val:=.int .i64 (ns.length : Int)) (f':=encL (numM (ns.map l87 ++ [l87 p]))) (by have:=HL.out;unfold maxLen;omega) HKY.out (by have hh:=nl_put1 C4.out;rwa [List.length_map] at hh) (nl_put2 C4.out);
    have hst' :(Instr.mapUpdate 105 (.map (some b)) (.agg #[.int .i64 p.f0,.int .i64 p.f1,.int .i64 p.f2]) (.int .i64 (ns.length : Int))).run Try.prog ((w1.alloc (.cells #[.int .i64 m0.f0,.int .i64 m0.f1,.int .i64 m0.f2,.int .i64 m1.f0,.int .i64 m1.f1,.int .i64 m1.f2] 107)).alloc (.cells #[.int .i64 p.f0,.int .i64 p.f1,.int .i64 p.f2] 87)) = .ok () w4:=hst;
    rw [show c87 p = keyL (l87 p) from rfl,nl_none C4.out] at hm4;
    have hm4' : MapAt w4 Try.prog 87 b (ns.length + 1) (encL (numM (ns.map l87 ++ [l87 p]))):=hm4;
    have nb : ∀ {g : Nat} {c : Array Value} {t : TypeId} {fr : Nat×Nat},((w1.alloc (.cells #[.int .i64 m0.f0,.int .i64 m0.f1,.int .i64 m0.f2,.int .i64 m1.f0,.int .i64 m1.f1,.int .i64 m1.f2] 107)).alloc (.cells #[.int .i64 p.f0,.int .i64 p.f1,.int .i64 p.f2] 87)).heap[g]? = some (.cells c t fr)→w4.heap[g]? = some (.cells c t fr):=fun hg=>blk_grown hg hg4 (by intro e;exact hS3.map.ne hg (Option.some.inj e).symm);
    have hx4:=nb hx3;
    have ht4:=nb hS3.tb;
    have ha4:=nb hS3.mb;
    have hl4:=nb hS3.lb;
    have hB4 : Below wc.heap.size wc w4:=Below.grown hS3.below hg4 hS3.below.size (fun k hk=>by injection hk with hk;have:=HGE.out.2;omega);
    have hR4:=R_mapped hS3.row rfl hS3.map hg4;
    obtain ⟨v1,w5,hrun,ho,hB5,hgr,hat⟩:=append_one k87 (P:=Try.prog) (w0:=wc) (W:=w4) wc.heap.size 106 106 87 (.agg #[.int .i64 0,.int .i64 0,.int .i64 0]) 24 Try.underlying106 info87 rfl (by decide) (by omega) (xs:=ns) p [.int .i64 p.f0,.int .i64 p.f1,.int .i64 p.f2] (ok:=fun _=>True) (fun _=>False) (k87_mkM _ _ _ _) (fun _ h=>h.elim) (fun _ _=>trivial) hR4 hB4 hB4.size (by have:=HL.out;omega);
    obtain ⟨A1,d1,e1⟩:=Kd.R_slice ho;
    have e2 : v1 = .slice A1 (ns.length + 1) d1:=by(rw [e1];simp);
    clear e1;subst e2;
    have n5 : ∀ {g : Nat} {c : Array Value} {t : TypeId},t≠87→w4.heap[g]? = some (.cells c t (0,0))→w5.heap[g]? = some (.cells c t (0,0)):=fun hne hg=>blk_grown hg hgr (Kd.R_ne hR4 hg (Ne.symm hne));
    have ht5:=n5 (by decide) ht4;
    have ha5:=n5 (by decide) ha4;
    have hl5:=n5 (by decide) hl4;
    have hx5 : w5.heap[W.heap.size]? = some (.cells #[.int .i64 p.f0,.int .i64 p.f1,.int .i64 p.f2] 87 (0,0)):=blk_grown hx4 hgr (by intro e;obtain ⟨c1,e1⟩:=own_blk HS.out.row e;exact absurd (blk_lt e1) (Nat.lt_irrefl _));
    have hfl:=bkF hl5 0;
    have hcl4 : w4.cell? ⟨gl,0,none⟩ = some (.slice An ns.length cn):=(bkC hl4 0).trans rfl;
    have hcl5 : w5.cell? ⟨gl,0,none⟩ = some (.slice An ns.length cn):=(bkC hl5 0).trans rfl;
    have hu0 : w4.cell? ⟨W.heap.size,0,none⟩ = some (.int .i64 p.f0):=(bkC hx4 0).trans rfl;
    have hu1 : w4.cell? ⟨W.heap.size,1,none⟩ = some (.int .i64 p.f1):=(bkC hx4 1).trans rfl;
    have hu2 : w4.cell? ⟨W.heap.size,2,none⟩ = some (.int .i64 p.f2):=(bkC hx4 2).trans rfl;
    have hl6 :(w5.setCell ⟨gl,0,none⟩ (.slice A1 (ns.length + 1) d1)).heap[gl]? = some (.cells #[.slice A1 (ns.length + 1) d1] 106 (0,0)):=by simpa using blk_set hl5 0 (.slice A1 (ns.length + 1) d1);
    have ht6:=blk_far ht5 (p:=⟨gl,0,none⟩) (blk_ne ht5 hl5 (by decide)) (.slice A1 (ns.length + 1) d1);
    have ha6:=blk_far ha5 (p:=⟨gl,0,none⟩) (blk_ne ha5 hl5 (by decide)) (.slice A1 (ns.length + 1) d1);
    have hx6:=blk_far hx5 (p:=⟨gl,0,none⟩) (blk_ne hx5 hl5 (by decide)) (.slice A1 (ns.length + 1) d1);
    have hca6 :(w5.setCell ⟨gl,0,none⟩ (.slice A1 (ns.length + 1) d1)).cell? ⟨ga,0,none⟩ = some (.map (some b)):=(bkC ha6 0).trans rfl;
    have hv0 :(w5.setCell ⟨gl,0,none⟩ (.slice A1 (ns.length + 1) d1)).cell? ⟨W.heap.size,0,none⟩ = some (.int .i64 p.f0):=(bkC hx6 0).trans rfl;
    have hv1 :(w5.setCell ⟨gl,0,none⟩ (.slice A1 (ns.length + 1) d1)).cell? ⟨W.heap.size,1,none⟩ = some (.int .i64 p.f1):=(bkC hx6 1).trans rfl;
    have hv2 :(w5.setCell ⟨gl,0,none⟩ (.slice A1 (ns.length + 1) d1)).cell? ⟨W.heap.size,2,none⟩ = some (.int .i64 p.f2):=(bkC hx6 2).trans rfl;
    have hm5:=hm4'.rowed hR4 hgr;
    have hm6 : MapAt (w5.setCell ⟨gl,0,none⟩ (.slice A1 (ns.length + 1) d1)) Try.prog 87 b (ns.length + 1) (encL (numM (ns.map l87 ++ [l87 p]))):=hm5.setCell (hm5.ne hl5) _;
    have hR6 : Kd.R k87 87 (w5.setCell ⟨gl,0,none⟩ (.slice A1 (ns.length + 1) d1)) wc.heap.size (fun _=>True) (.slice A1 (ns.length + 1) d1) (ns ++ [p]):=Kd.R_set ho hl5 (by intro q hq;have hq : q ∈ [87]:=hq;simp at hq;omega) 0 _;
    have hB6 : Below wc.heap.size wc (w5.setCell ⟨gl,0,none⟩ (.slice A1 (ns.length + 1) d1)):=hB5.setCell HGE.out.1 _;
    have hlk :(Instr.lookup 105 (.map (some b)) (.agg #[.int .i64 p.f0,.int .i64 p.f1,.int .i64 p.f2]) false).run Try.prog (w5.setCell ⟨gl,0,none⟩ (.slice A1 (ns.length + 1) d1)) = .ok (.int .i64 (ns.length : Int)) (w5.setCell ⟨gl,0,none⟩ (.slice A1 (ns.length + 1) d1)):=by(have hh:=hm6.look law87 Try.underlying105 (z3_run _) HKY.out;rw [show c87 p = keyL (l87 p) from rfl,nl_put1 C4.out,List.length_map] at hh;exact hh);
    have HF:=Aside0.mk (show LatSt l0 A0 c0 gt ga gl b wc (w5.setCell ⟨gl,0,none⟩ (.slice A1 (ns.length + 1) d1)) (.slice A1 (ns.length + 1) d1) (ns ++ [p]) from⟨hB6,ht6,ha6,hl6,(by rw [List.map_append,List.map_singleton,List.length_append];exact hm6),hR6⟩);
    have HK:=Aside0.mk ((((Kept.of_below hB3 (fun i=>i = gl∨i = b∨some i =(Value.slice An ns.length cn).ownBlock)).of_grown hg4 (fun k hk=>.inl (.inr (.inl (Option.some.inj hk).symm)))).of_grown hgr (fun k hk=>.inl (.inr (.inr hk.symm)))).setCell (p:=⟨gl,0,none⟩) (.inl (.inl rfl)) (.slice A1 (ns.length + 1) d1));
    have HRUN:=Aside0.mk hrun;
    clear hB1 hb1 hx1 hx2 hx3 hS3 hB3 hst hm4 hg4 hm4' nb hx4 ht4 ha4 hl4 hB4 hR4 hB5 hrun ho hgr hat n5 ht5 ha5 hl5 hx5 hl6 ht6 ha6 hx6 hm5 hm6 hR6 hB6)) |((with_reducible refine gate_builtin (b:=.append) (xs:=#[.tmp 34,.tmp 36]) rfl ?_);at_builtin;go_must (refine wpList_appendRun _ rfl _ _ _ rfl HRUN.out rfl rfl rfl ?_)))
  go_ret
  exact⟨rfl,_,HF.out,HK.out⟩
 have c3b :(s.f0 == p.f0 && (s.f1 == p.f1 && (s.f2 == p.f2))) = false:=by
  rw [Bool.eq_false_iff]
  intro hh
  simp at hh
  apply c3
  obtain ⟨x,y,z⟩:=s
  obtain ⟨x',y',z'⟩:=p
  simp at hh
  obtain ⟨rfl,rfl,rfl⟩:=hh
  rfl
 clear c3
 by_cases c4 : l87 s ∈ ns.map l87
 ·have e1 : latNs l0 ns p = ns := by unfold latNs; rw [HSS.out, if_pos c4]
  have e2 : latIx l0 ns p =(numIx (ns.map l87) (l87 s) : Int):=by unfold latIx;rw [HSS.out]
  rw [e1,e2]
  obtain ⟨r,hr⟩ : ∃ r,r =(numIx (ns.map l87) (l87 s) : Int):=⟨_,rfl⟩
  rw [← hr]
  have HR:=Aside0.mk hr
  have C4:=Aside0.mk c4
  clear e1 e2 hr c4
  go_enter Try.func66,Try.ntmps66
  go_wp2_with (go_at_call 67;go_must (
    (with_reducible refine(HMD.out _ (bwA HS.out.below _)).mono ?_);rintro e w1 ⟨hB1,rfl⟩;
    have hb1:=below_then (bwA (Below.refl _ _) _) (bwA (Below.refl W.heap.size W) _).size hB1;
    have hx1:=bkB HBX.out hB1;
    have hx2 :((w1.alloc (.cells #[.int .i64 m0.f0,.int .i64 m0.f1,.int .i64 m0.f2,.int .i64 m1.f0,.int .i64 m1.f1,.int .i64 m1.f2] 107)).alloc (.cells #[.int .i64 s.f0,.int .i64 s.f1,.int .i64 s.f2] 87)).heap[W.heap.size]? = some (.cells #[.int .i64 p.f0,.int .i64 p.f1,.int .i64 p.f2] 87 (0,0)):=bkB hx1 (bwA (bwA (Below.refl _ _) _) _);
    have hp0 :((w1.alloc (.cells #[.int .i64 m0.f0,.int .i64 m0.f1,.int .i64 m0.f2,.int .i64 m1.f0,.int .i64 m1.f1,.int .i64 m1.f2] 107)).alloc (.cells #[.int .i64 s.f0,.int .i64 s.f1,.int .i64 s.f2] 87)).cell? ⟨W.heap.size,0,none⟩ = some (.int .i64 p.f0):=(bkC hx2 0).trans rfl;
    have hp1 :((w1.alloc (.cells #[.int .i64 m0.f0,.int .i64 m0.f1,.int .i64 m0.f2,.int .i64 m1.f0,.int .i64 m1.f1,.int .i64 m1.f2] 107)).alloc (.cells #[.int .i64 s.f0,.int .i64 s.f1,.int .i64 s.f2] 87)).cell? ⟨W.heap.size,1,none⟩ = some (.int .i64 p.f1):=(bkC hx2 1).trans rfl;
    have hp2 :((w1.alloc (.cells #[.int .i64 m0.f0,.int .i64 m0.f1,.int .i64 m0.f2,.int .i64 m1.f0,.int .i64 m1.f1,.int .i64 m1.f2] 107)).alloc (.cells #[.int .i64 s.f0,.int .i64 s.f1,.int .i64 s.f2] 87)).cell? ⟨W.heap.size,2,none⟩ = some (.int .i64 p.f2):=(bkC hx2 2).trans rfl;
    have hf0:=bkF hx2 0;
    have hf1:=bkF hx2 1;
    have hf2:=bkF hx2 2;
    have hx3 :(((((w1.alloc (.cells #[.int .i64 m0.f0,.int .i64 m0.f1,.int .i64 m0.f2,.int .i64 m1.f0,.int .i64 m1.f1,.int .i64 m1.f2] 107)).alloc (.cells #[.int .i64 s.f0,.int .i64 s.f1,.int .i64 s.f2] 87)).setCell ⟨W.heap.size,0,none⟩ (.int .i64 s.f0)).setCell ⟨W.heap.size,1,none⟩ (.int .i64 s.f1)).setCell ⟨W.heap.size,2,none⟩ (.int .i64 s.f2)).heap[W.heap.size]? = some (.cells #[.int .i64 s.f0,.int .i64 s.f1,.int .i64 s.f2] 87 (0,0)):=blk_set3 hx2 _ _ _;
    have hq0 :(((((w1.alloc (.cells #[.int .i64 m0.f0,.int .i64 m0.f1,.int .i64 m0.f2,.int .i64 m1.f0,.int .i64 m1.f1,.int .i64 m1.f2] 107)).alloc (.cells #[.int .i64 s.f0,.int .i64 s.f1,.int .i64 s.f2] 87)).setCell ⟨W.heap.size,0,none⟩ (.int .i64 s.f0)).setCell ⟨W.heap.size,1,none⟩ (.int .i64 s.f1)).setCell ⟨W.heap.size,2,none⟩ (.int .i64 s.f2)).cell? ⟨W.heap.size,0,none⟩ = some (.int .i64 s.f0):=(bkC hx3 0).trans rfl;
    have hq1 :(((((w1.alloc (.cells #[.int .i64 m0.f0,.int .i64 m0.f1,.int .i64 m0.f2,.int .i64 m1.f0,.int .i64 m1.f1,.int .i64 m1.f2] 107)).alloc (.cells #[.int .i64 s.f0,.int .i64 s.f1,.int .i64 s.f2] 87)).setCell ⟨W.heap.size,0,none⟩ (.int .i64 s.f0)).setCell ⟨W.heap.size,1,none⟩ (.int .i64 s.f1)).setCell ⟨W.heap.size,2,none⟩ (.int .i64 s.f2)).cell? ⟨W.heap.size,1,none⟩ = some (.int .i64 s.f1):=(bkC hx3 1).trans rfl;
    have hq2 :(((((w1.alloc (.cells #[.int .i64 m0.f0,.int .i64 m0.f1,.int .i64 m0.f2,.int .i64 m1.f0,.int .i64 m1.f1,.int .i64 m1.f2] 107)).alloc (.cells #[.int .i64 s.f0,.int .i64 s.f1,.int .i64 s.f2] 87)).setCell ⟨W.heap.size,0,none⟩ (.int .i64 s.f0)).setCell ⟨W.heap.size,1,none⟩ (.int .i64 s.f1)).setCell ⟨W.heap.size,2,none⟩ (.int .i64 s.f2)).cell? ⟨W.heap.size,2,none⟩ = some (.int .i64 s.f2):=(bkC hx3 2).trans rfl;
    have hB3 : Below W.heap.size W (((((w1.alloc (.cells #[.int .i64 m0.f0,.int .i64 m0.f1,.int .i64 m0.f2,.int .i64 m1.f0,.int .i64 m1.f1,.int .i64 m1.f2] 107)).alloc (.cells #[.int .i64 s.f0,.int .i64 s.f1,.int .i64 s.f2] 87)).setCell ⟨W.heap.size,0,none⟩ (.int .i64 s.f0)).setCell ⟨W.heap.size,1,none⟩ (.int .i64 s.f1)).setCell ⟨W.heap.size,2,none⟩ (.int .i64 s.f2)):=(((bwA (bwA hb1 _) _).setCell (Nat.le_refl _) _).setCell (Nat.le_refl _) _).setCell (Nat.le_refl _) _;
    have hS3:=HS.out.belowN hB3;
    have hca :(((((w1.alloc (.cells #[.int .i64 m0.f0,.int .i64 m0.f1,.int .i64 m0.f2,.int .i64 m1.f0,.int .i64 m1.f1,.int .i64 m1.f2] 107)).alloc (.cells #[.int .i64 s.f0,.int .i64 s.f1,.int .i64 s.f2] 87)).setCell ⟨W.heap.size,0,none⟩ (.int .i64 s.f0)).setCell ⟨W.heap.size,1,none⟩ (.int .i64 s.f1)).setCell ⟨W.heap.size,2,none⟩ (.int .i64 s.f2)).cell? ⟨ga,0,none⟩ = some (.map (some b)):=(bkC hS3.mb 0).trans rfl;
    have hcl :(((((w1.alloc (.cells #[.int .i64 m0.f0,.int .i64 m0.f1,.int .i64 m0.f2,.int .i64 m1.f0,.int .i64 m1.f1,.int .i64 m1.f2] 107)).alloc (.cells #[.int .i64 s.f0,.int .i64 s.f1,.int .i64 s.f2] 87)).setCell ⟨W.heap.size,0,none⟩ (.int .i64 s.f0)).setCell ⟨W.heap.size,1,none⟩ (.int .i64 s.f1)).setCell ⟨W.heap.size,2,none⟩ (.int .i64 s.f2)).cell? ⟨gl,0,none⟩ = some (.slice An ns.length cn):=(bkC hS3.lb 0).trans rfl;
    have hlo :(Instr.lookup 105 (.map (some b)) (.agg #[.int .i64 s.f0,.int .i64 s.f1,.int .i64 s.f2]) true).run Try.prog (((((w1.alloc (.cells #[.int .i64 m0.f0,.int .i64 m0.f1,.int .i64 m0.f2,.int .i64 m1.f0,.int .i64 m1.f1,.int .i64 m1.f2] 107)).alloc (.cells #[.int .i64 s.f0,.int .i64 s.f1,.int .i64 s.f2] 87)).setCell ⟨W.heap.size,0,none⟩ (.int .i64 s.f0)).setCell ⟨W.heap.size,1,none⟩ (.int .i64 s.f1)).setCell ⟨W.heap.size,2,none⟩ (.int .i64 s.f2)) = .ok (.tuple #[.int .i64 r,.bool true]) (((((w1.alloc (.cells #[.int .i64 m0.f0,.int .i64 m0.f1,.int .i64 m0.f2,.int .i64 m1.f0,.int .i64 m1.f1,.int .i64 m1.f2] 107)).alloc (.cells #[.int .i64 s.f0,.int .i64 s.f1,.int .i64 s.f2] 87)).setCell ⟨W.heap.size,0,none⟩ (.int .i64 s.f0)).setCell ⟨W.heap.size,1,none⟩ (.int .i64 s.f1)).setCell ⟨W.heap.size,2,none⟩ (.int .i64 s.f2)):=by(have hh:=hS3.map.lookOk law87 Try.underlying105 (z3_run _) HKY.out;rw [show c87 s = keyL (l87 s) from rfl,nl_some C4.out,← HR.out] at hh;exact hh);
    have hlk :(Instr.lookup 105 (.map (some b)) (.agg #[.int .i64 s.f0,.int .i64 s.f1,.int .i64 s.f2]) false).run Try.prog (((((w1.alloc (.cells #[.int .i64 m0.f0,.int .i64 m0.f1,.int .i64 m0.f2,.int .i64 m1.f0,.int .i64 m1.f1,.int .i64 m1.f2] 107)).alloc (.cells #[.int .i64 s.f0,.int .i64 s.f1,.int .i64 s.f2] 87)).setCell ⟨W.heap.size,0,none⟩ (.int .i64 s.f0)).setCell ⟨W.heap.size,1,none⟩ (.int .i64 s.f1)).setCell ⟨W.heap.size,2,none⟩ (.int .i64 s.f2)) = .ok (.int .i64 r) (((((w1.alloc (.cells #[.int .i64 m0.f0,.int .i64 m0.f1,.int .i64 m0.f2,.int .i64 m1.f0,.int .i64 m1.f1,.int .i64 m1.f2] 107)).alloc (.cells #[.int .i64 s.f0,.int .i64 s.f1,.int .i64 s.f2] 87)).setCell ⟨W.heap.size,0,none⟩ (.int .i64 s.f0)).setCell ⟨W.heap.size,1,none⟩ (.int .i64 s.f1)).setCell ⟨W.heap.size,2,none⟩ (.int .i64 s.f2)):=by(have hh:=hS3.map.look law87 Try.underlying105 (z3_run _) HKY.out;rw [show c87 s = keyL (l87 s) from rfl,nl_some C4.out,← HR.out] at hh;exact hh);
    have HS3:=Aside0.mk hS3;
    have HB3:=Aside0.mk hB3;
    clear hB1 hb1 hx1 hx2 hx3 hS3 hB3))
  go_ret
  exact⟨rfl,_,HS3.out,Kept.of_below HB3.out _⟩
 have e1 : latNs l0 ns p = ns ++ [s]:=by unfold latNs;rw [HSS.out,if_neg c4]
 have e2 : latIx l0 (ns ++ [s]) p =(ns.length : Int):=by unfold latIx;rw [HSS.out,List.map_append,List.map_singleton,numIx_new c4,List.length_map]
 rw [e1,e2]
 have C4:=Aside0.mk c4
 clear e1 e2 c4
 go_enter Try.func66,Try.ntmps66
 go_wp2_with (first |(go_at_call 67;go_must (
   (with_reducible refine(HMD.out _ (bwA HS.out.below _)).mono ?_);rintro e w1 ⟨hB1,rfl⟩;
   have hb1:=below_then (bwA (Below.refl _ _) _) (bwA (Below.refl W.heap.size W) _).size hB1;
   have hx1:=bkB HBX.out hB1;
   have hx2 :((w1.alloc (.cells #[.int .i64 m0.f0,.int .i64 m0.f1,.int .i64 m0.f2,.int .i64 m1.f0,.int .i64 m1.f1,.int .i64 m1.f2] 107)).alloc (.cells #[.int .i64 s.f0,.int .i64 s.f1,.int .i64 s.f2] 87)).heap[W.heap.size]? = some (.cells #[.int .i64 p.f0,.int .i64 p.f1,.int .i64 p.f2] 87 (0,0)):=bkB hx1 (bwA (bwA (Below.refl _ _) _) _);
   have hp0 :((w1.alloc (.cells #[.int .i64 m0.f0,.int .i64 m0.f1,.int .i64 m0.f2,.int .i64 m1.f0,.int .i64 m1.f1,.int .i64 m1.f2] 107)).alloc (.cells #[.int .i64 s.f0,.int .i64 s.f1,.int .i64 s.f2] 87)).cell? ⟨W.heap.size,0,none⟩ = some (.int .i64 p.f0):=(bkC hx2 0).trans rfl;
   have hp1 :((w1.alloc (.cells #[.int .i64 m0.f0,.int .i64 m0.f1,.int .i64 m0.f2,.int .i64 m1.f0,.int .i64 m1.f1,.int .i64 m1.f2] 107)).alloc (.cells #[.int .i64 s.f0,.int .i64 s.f1,.int .i64 s.f2] 87)).cell? ⟨W.heap.size,1,none⟩ = some (.int .i64 p.f1):=(bkC hx2 1).trans rfl;
   have hp2 :((w1.alloc (.cells #[.int .i64 m0.f0,.int .i64 m0.f1,.int .i64 m0.f2,.int .i64 m1.f0,.int .i64 m1.f1,.int .i64 m1.f2] 107)).alloc (.cells #[.int .i64 s.f0,.int .i64 s.f1,.int .i64 s.f2] 87)).cell? ⟨W.heap.size,2,none⟩ = some (.int .i64 p.f2):=(bkC hx2 2).trans rfl;
   have hf0:=bkF hx2 0;
   have hf1:=bkF hx2 1;
   have hf2:=bkF hx2 2;
   have hx3 :(((((w1.alloc (.cells #[.int .i64 m0.f0,.int .i64 m0.f1,.int .i64 m0.f2,.int .i64 m1.f0,.int .i64 m1.f1,.int .i64 m1.f2] 107)).alloc (.cells #[.int .i64 s.f0,.int .i64 s.f1,.int .i64 s.f2] 87)).setCell ⟨W.heap.size,0,none⟩ (.int .i64 s.f0)).setCell ⟨W.heap.size,1,none⟩ (.int .i64 s.f1)).setCell ⟨W.heap.size,2,none⟩ (.int .i64 s.f2)).heap[W.heap.size]? = some (.cells #[.int .i64 s.f0,.int .i64 s.f1,.int .i64 s.f2] 87 (0,0)):=blk_set3 hx2 _ _ _;
   have hq0 :(((((w1.alloc (.cells #[.int .i64 m0.f0,.int .i64 m0.f1,.int .i64 m0.f2,.int .i64 m1.f0,.int .i64 m1.f1,.int .i64 m1.f2] 107)).alloc (.cells #[.int .i64 s.f0,.int .i64 s.f1,.int .i64 s.f2] 87)).setCell ⟨W.heap.size,0,none⟩ (.int .i64 s.f0)).setCell ⟨W.heap.size,1,none⟩ (.int .i64 s.f1)).setCell ⟨W.heap.size,2,none⟩ (.int .i64 s.f2)).cell? ⟨W.heap.size,0,none⟩ = some (.int .i64 s.f0):=(bkC hx3 0).trans rfl;
   have hq1 :(((((w1.alloc (.cells #[.int .i64 m0.f0,.int .i64 m0.f1,.int .i64 m0.f2,.int .i64 m1.f0,.int .i64 m1.f1,.int .i64 m1.f2] 107)).alloc (.cells #[.int .i64 s.f0,.int .i64 s.f1,.int .i64 s.f2] 87)).setCell ⟨W.heap.size,0,none⟩ (.int .i64 s.f0)).setCell ⟨W.heap.size,1,none⟩ (.int .i64 s.f1)).setCell ⟨W.heap.size,2,none⟩ (.int .i64 s.f2)).cell? ⟨W.heap.size,1,none⟩ = some (.int .i64 s.f1):=(bkC hx3 1).trans rfl;
   have hq2 :(((((w1.alloc (.cells #[.int .i64 m0.f0,.int .i64 m0.f1,.int .i64 m0.f2,.int .i64 m1.f0,.int .i64 m1.f1,.int .i64 m1.f2] 107)).alloc (.cells #[.int .i64 s.f0,.int .i64 s.f1,.int .i64 s.f2] 87)).setCell ⟨W.heap.size,0,none⟩ (.int .i64 s.f0)).setCell ⟨W.heap.size,1,none⟩ (.int .i64 s.f1)).setCell ⟨W.heap.size,2,none⟩ (.int .i64 s.f2)).cell? ⟨W.heap.size,2,none⟩ = some (.int .i64 s.f2):=(bkC hx3 2).trans rfl;
   have hB3 : Below W.heap.size W (((((w1.alloc (.cells #[.int .i64 m0.f0,.int .i64 m0.f1,.int .i64 m0.f2,.int .i64 m1.f0,.int .i64 m1.f1,.int .i64 m1.f2] 107)).alloc (.cells #[.int .i64 s.f0,.int .i64 s.f1,.int .i64 s.f2] 87)).setCell ⟨W.heap.size,0,none⟩ (.int .i64 s.f0)).setCell ⟨W.heap.size,1,none⟩ (.int .i64 s.f1)).setCell ⟨W.heap.size,2,none⟩ (.int .i64 s.f2)):=(((bwA (bwA hb1 _) _).setCell (Nat.le_refl _) _).setCell (Nat.le_refl _) _).setCell (Nat.le_refl _) _;
   have hS3:=HS.out.belowN hB3;
   have hca :(((((w1.alloc (.cells #[.int .i64 m0.f0,.int .i64 m0.f1,.int .i64 m0.f2,.int .i64 m1.f0,.int .i64 m1.f1,.int .i64 m1.f2] 107)).alloc (.cells #[.int .i64 s.f0,.int .i64 s.f1,.int .i64 s.f2] 87)).setCell ⟨W.heap.size,0,none⟩ (.int .i64 s.f0)).setCell ⟨W.heap.size,1,none⟩ (.int .i64 s.f1)).setCell ⟨W.heap.size,2,none⟩ (.int .i64 s.f2)).cell? ⟨ga,0,none⟩ = some (.map (some b)):=(bkC hS3.mb 0).trans rfl;
   have hcl :(((((w1.alloc (.cells #[.int .i64 m0.f0,.int .i64 m0.f1,.int .i64 m0.f2,.int .i64 m1.f0,.int .i64 m1.f1,.int .i64 m1.f2] 107)).alloc (.cells #[.int .i64 s.f0,.int .i64 s.f1,.int .i64 s.f2] 87)).setCell ⟨W.heap.size,0,none⟩ (.int .i64 s.f0)).setCell ⟨W.heap.size,1,none⟩ (.int .i64 s.f1)).setCell ⟨W.heap.size,2,none⟩ (.int .i64 s.f2)).cell? ⟨gl,0,none⟩ = some (.slice An ns.length cn):=(bkC hS3.lb 0).trans rfl;
   have hlo :(Instr.lookup 105 (.map (some b)) (.agg #[.int .i64 s.f0,.int .i64 s.f1,.int .i64 s.f2]) true).run Try.prog (((((w1.alloc (.cells #[.int .i64 m0.f0,.int .i64 m0.f1,.int .i64 m0.f2,.int .i64 m1.f0,.int .i64 m1.f1,.int .i64 m1.f2] 107)).alloc (.cells #[.int .i64 s.f0,.int .i64 s.f1,.int .i64 s.f2] 87)).setCell ⟨W.heap.size,0,none⟩ (.int .i64 s.f0)).setCell ⟨W.heap.size,1,none⟩ (.int .i64 s.f1)).setCell ⟨W.heap.size,2,none⟩ (.int .i64 s.f2)) = .ok (.tuple #[.int .i64 0,.bool false]) (((((w1.alloc (.cells #[.int .i64 m0.f0,.int .i64 m0.f1,.int .i64 m0.f2,.int .i64 m1.f0,.int .i64 m1.f1,.int .i64 m1.f2] 107)).alloc (.cells #[.int .i64 s.f0,.int .i64 s.f1,.int .i64 s.f2] 87)).setCell ⟨W.heap.size,0,none⟩ (.int .i64 s.f0)).setCell ⟨W.heap.size,1,none⟩ (.int .i64 s.f1)).setCell ⟨W.heap.size,2,none⟩ (.int .i64 s.f2)):=by(have hh:=hS3.map.lookOk law87 Try.underlying105 (z3_run _) HKY.out;rw [show c87 s = keyL (l87 s) from rfl,nl_none C4.out] at hh;exact hh);
   obtain ⟨w4,hst,hm4,hg4⟩:=hS3.map.store law87 Try.underlying105 (val:=.int .i64 (ns.length : Int)) (f':=encL (numM (ns.map l87 ++ [l87 s]))) (by have:=HL.out;unfold maxLen;omega) HKY.out (by have hh:=nl_put1 C4.out;rwa [List.length_map] at hh) (nl_put2 C4.out);
   have hst' :(Instr.mapUpdate 105 (.map (some b)) (.agg #[.int .i64 s.f0,.int .i64 s.f1,.int .i64 s.f2]) (.int .i64 (ns.length : Int))).run Try.prog (((((w1.alloc (.cells #[.int .i64 m0.f0,.int .i64 m0.f1,.int .i64 m0.f2,.int .i64 m1.f0,.int .i64 m1.f1,.int .i64 m1.f2] 107)).alloc (.cells #[.int .i64 s.f0,.int .i64 s.f1,.int .i64 s.f2] 87)).setCell ⟨W.heap.size,0,none⟩ (.int .i64 s.f0)).setCell ⟨W.heap.size,1,none⟩ (.int .i64 s.f1)).setCell ⟨W.heap.size,2,none⟩ (.int .i64 s.f2)) = .ok () w4:=hst;
   rw [show c87 s = keyL (l87 s) from rfl,nl_none C4.out] at hm4;
   have hm4' : MapAt w4 Try.prog 87 b (ns.length + 1) (encL (numM (ns.map l87 ++ [l87 s]))):=hm4;
   have nb : ∀ {g : Nat} {c : Array Value} {t : TypeId} {fr : Nat×Nat},(((((w1.alloc (.cells #[.int .i64 m0.f0,.int .i64 m0.f1,.int .i64 m0.f2,.int .i64 m1.f0,.int .i64 m1.f1,.int .i64 m1.f2] 107)).alloc (.cells #[.int .i64 s.f0,.int .i64 s.f1,.int .i64 s.f2] 87)).setCell ⟨W.heap.size,0,none⟩ (.int .i64 s.f0)).setCell ⟨W.heap.size,1,none⟩ (.int .i64 s.f1)).setCell ⟨W.heap.size,2,none⟩ (.int .i64 s.f2)).heap[g]? = some (.cells c t fr)→w4.heap[g]? = some (.cells c t fr):=fun hg=>blk_grown hg hg4 (by intro e;exact hS3.map.ne hg (Option.some.inj e).symm);
   have hx4:=nb hx3;
   have ht4:=nb hS3.tb;
   have ha4:=nb hS3.mb;
   have hl4:=nb hS3.lb;
   have hB4 : Below wc.heap.size wc w4:=Below.grown hS3.below hg4 hS3.below.size (fun k hk=>by injection hk with hk;have:=HGE.out.2;omega);
   have hR4:=R_mapped hS3.row rfl hS3.map hg4;
   obtain ⟨v1,w5,hrun,ho,hB5,hgr,hat⟩:=append_one k87 (P:=Try.prog) (w0:=wc) (W:=w4) wc.heap.size 106 106 87 (.agg #[.int .i64 0,.int .i64 0,.int .i64 0]) 24 Try.underlying106 info87 rfl (by decide) (by omega) (xs:=ns) s [.int .i64 s.f0,.int .i64 s.f1,.int .i64 s.f2] (ok:=fun _=>True) (fun _=>False) (k87_mkM _ _ _ _) (fun _ h=>h.elim) (fun _ _=>trivial) hR4 hB4 hB4.size (by have:=HL.out;omega);
   obtain ⟨A1,d1,e1⟩:=Kd.R_slice ho;
   have e2 : v1 = .slice A1 (ns.length + 1) d1:=by(rw [e1];simp);
   clear e1;subst e2;
   have n5 : ∀ {g : Nat} {c : Array Value} {t : TypeId},t≠87→w4.heap[g]? = some (.cells c t (0,0))→w5.heap[g]? = some (.cells c t (0,0)):=fun hne hg=>blk_grown hg hgr (Kd.R_ne hR4 hg (Ne.symm hne));
   have ht5:=n5 (by decide) ht4;
   have ha5:=n5 (by decide) ha4;
   have hl5:=n5 (by decide) hl4;
   have hx5 : w5.heap[W.heap.size]? = some (.cells #[.int .i64 s.f0,.int .i64 s.f1,.int .i64 s.f2] 87 (0,0)):=blk_grown hx4 hgr (by intro e;obtain ⟨c1,e1⟩:=own_blk HS.out.row e;exact absurd (blk_lt e1) (Nat.lt_irrefl _));
   have hfl:=bkF hl5 0;
   have hcl4 : w4.cell? ⟨gl,0,none⟩ = some (.slice An ns.length cn):=(bkC hl4 0).trans rfl;
   have hcl5 : w5.cell? ⟨gl,0,none⟩ = some (.slice An ns.length cn):=(bkC hl5 0).trans rfl;
   have hu0 : w4.cell? ⟨W.heap.size,0,none⟩ = some (.int .i64 s.f0):=(bkC hx4 0).trans rfl;
   have hu1 : w4.cell? ⟨W.heap.size,1,none⟩ = some (.int .i64 s.f1):=(bkC hx4 1).trans rfl;
   have hu2 : w4.cell? ⟨W.heap.size,2,none⟩ = some (.int .i64 s.f2):=(bkC hx4 2).trans rfl;
   have hl6 :(w5.setCell ⟨gl,0,none⟩ (.slice A1 (ns.length + 1) d1)).heap[gl]? = some (.cells #[.slice A1 (ns.length + 1) d1] 106 (0,0)):=by simpa using blk_set hl5 0 (.slice A1 (ns.length + 1) d1);
   have ht6:=blk_far ht5 (p:=⟨gl,0,none⟩) (blk_ne ht5 hl5 (by decide)) (.slice A1 (ns.length + 1) d1);
   have ha6:=blk_far ha5 (p:=⟨gl,0,none⟩) (blk_ne ha5 hl5 (by decide)) (.slice A1 (ns.length + 1) d1);
   have hx6:=blk_far hx5 (p:=⟨gl,0,none⟩) (blk_ne hx5 hl5 (by decide)) (.slice A1 (ns.length + 1) d1);
   have hca6 :(w5.setCell ⟨gl,0,none⟩ (.slice A1 (ns.length + 1) d1)).cell? ⟨ga,0,none⟩ = some (.map (some b)):=(bkC ha6 0).trans rfl;
   have hv0 :(w5.setCell ⟨gl,0,none⟩ (.slice A1 (ns.length + 1) d1)).cell? ⟨W.heap.size,0,none⟩ = some (.int .i64 s.f0):=(bkC hx6 0).trans rfl;
   have hv1 :(w5.setCell ⟨gl,0,none⟩ (.slice A1 (ns.length + 1) d1)).cell? ⟨W.heap.size,1,none⟩ = some (.int .i64 s.f1):=(bkC hx6 1).trans rfl;
   have hv2 :(w5.setCell ⟨gl,0,none⟩ (.slice A1 (ns.length + 1) d1)).cell? ⟨W.heap.size,2,none⟩ = some (.int .i64 s.f2):=(bkC hx6 2).trans rfl;
   have hm5:=hm4'.rowed hR4 hgr;
   have hm6 : MapAt (w5.setCell ⟨gl,0,none⟩ (.slice A1 (ns.length + 1) d1)) Try.prog 87 b (ns.length + 1) (encL (numM (ns.map l87 ++ [l87 s]))):=hm5.setCell (hm5.ne hl5) _;
   have hR6 : Kd.R k87 87 (w5.setCell ⟨gl,0,none⟩ (.slice A1 (ns.length + 1) d1)) wc.heap.size (fun _=>True) (.slice A1 (ns.length + 1) d1) (ns ++ [s]):=Kd.R_set ho hl5 (by intro q hq;have hq : q ∈ [87]:=hq;simp at hq;omega) 0 _;
   have hB6 : Below wc.heap.size wc (w5.setCell ⟨gl,0,none⟩ (.slice A1 (ns.length + 1) d1)):=hB5.setCell HGE.out.1 _;
   have hlk :(Instr.lookup 105 (.map (some b)) (.agg #[.int .i64 s.f0,.int .i64 s.f1,.int .i64 s.f2]) false).run Try.prog (w5.setCell ⟨gl,0,none⟩ (.slice A1 (ns.length + 1) d1)) = .ok (.int .i64 (ns.length : Int)) (w5.setCell ⟨gl,0,none⟩ (.slice A1 (ns.length + 1) d1)):=by(have hh:=hm6.look law87 Try.underlying105 (z3_run _) HKY.out;rw [show c87 s = keyL (l87 s) from rfl,nl_put1 C4.out,List.length_map] at hh;exact hh);
   have HF:=Aside0.mk (show LatSt l0 A0 c0 gt ga gl b wc (w5.setCell ⟨gl,0,none⟩ (.slice A1 (ns.length + 1) d1)) (.slice A1 (ns.length + 1) d1) (ns ++ [s]) from⟨hB6,ht6,ha6,hl6,(by rw [List.map_append,List.map_singleton,List.length_append];exact hm6),hR6⟩);
   have HK:=Aside0.mk ((((Kept.of_below hB3 (fun i=>i = gl∨i = b∨some i =(Value.slice An ns.length cn).ownBlock)).of_grown hg4 (fun k hk=>.inl (.inr (.inl (Option.some.inj hk).symm)))).of_grown hgr (fun k hk=>.inl (.inr (.inr hk.symm)))).setCell (p:=⟨gl,0,none⟩) (.inl (.inl rfl)) (.slice A1 (ns.length + 1) d1));
   have HRUN:=Aside0.mk hrun;
   clear hB1 hb1 hx1 hx2 hx3 hS3 hB3 hst hm4 hg4 hm4' nb hx4 ht4 ha4 hl4 hB4 hR4 hB5 hrun ho hgr hat n5 ht5 ha5 hl5 hx5 hl6 ht6 ha6 hx6 hm5 hm6 hR6 hB6)) |((with_reducible refine gate_builtin (b:=.append) (xs:=#[.tmp 34,.tmp 36]) rfl ?_);at_builtin;go_must (refine wpList_appendRun _ rfl _ _ _ rfl HRUN.out rfl rfl rfl ?_)))
 go_ret
 exact⟨rfl,_,HF.out,HK.out⟩
section
variable {l0 : List S39} {A0 : Option Addr} {c0 gt ga gl b : Nat} {wc W : World} {vn : Value} {ns : List S87}
theorem LatSt.box (h : LatSt l0 A0 c0 gt ga gl b wc W vn ns) {g i : Nat} {c : Array Value} (hg : W.heap[g]? = some (.cells c 39 (0,0))) (hge : wc.heap.size≤g) (u : Value) : LatSt l0 A0 c0 gt ga gl b wc (W.setCell ⟨g,i,none⟩ u) vn ns:=by
  obtain ⟨h1,h2,h3,h4,h5,h6⟩:=h
  exact⟨h1.setCell hge u,blk_far h2 (blk_ne h2 hg (by decide)) u,blk_far h3 (blk_ne h3 hg (by decide)) u,blk_far h4 (blk_ne h4 hg (by decide)) u,h5.box hg u,Kd.R_set h6 hg (by intro q hq;have hq : q ∈ [87]:=hq;simp at hq;omega) i u⟩
/-- What find leaves alone: a block of another type. -/
theorem LatSt.blkT (h : LatSt l0 A0 c0 gt ga gl b wc W vn ns) {W' : World} (hk : Kept W W' (fun i=>i = gl∨i = b∨some i = vn.ownBlock)) {g t : Nat} {c : Array Value} (h1 : t≠106) (h2 : t≠87) (hg : W.heap[g]? = some (.cells c t (0,0))) : W'.heap[g]? = some (.cells c t (0,0)):=by
  refine blk_kept hg hk ?_
  rintro(rfl | rfl | he)
  · exact h1 (blk_type hg h.lb)
  · exact h.map.ne hg rfl
  obtain ⟨c1,e1⟩:=own_blk h.row he
  exact h2 (blk_type hg e1)
theorem LatSt.row39 (h : LatSt l0 A0 c0 gt ga gl b wc W vn ns) {W' : World} (hk : Kept W W' (fun i=>i = gl∨i = b∨some i = vn.ownBlock)) {base : Nat} {ok : Nat→Prop} {v : Value} {xs : List S39} (hr : Kd.R k39 39 W base ok v xs) : Kd.R k39 39 W' base ok v xs:=by
  refine R_apart hr rfl hk ?_
  rintro k c _ hg (rfl | rfl | he)
  · exact absurd (blk_type hg h.lb) (by decide)
  · exact h.map.ne hg rfl
  obtain ⟨c1,e1⟩:=own_blk h.row he
  exact absurd (blk_type hg e1) (by decide)
/-- A row of types has grown. -/
theorem LatSt.row_app (h : LatSt l0 A0 c0 gt ga gl b wc W vn ns) {W' : World} {base : Nat} {ok : Nat→Prop} {v : Value} {xs : List S39} (hr : Kd.R k39 39 W base ok v xs) (hg : W.grownBy W' v.ownBlock) (hB : Below wc.heap.size wc W') : LatSt l0 A0 c0 gt ga gl b wc W' vn ns:=by
  obtain ⟨h1,h2,h3,h4,h5,h6⟩:=h
  refine⟨hB,blk_grown h2 hg (Kd.R_ne hr h2 (by decide)),blk_grown h3 hg (Kd.R_ne hr h3 (by decide)),blk_grown h4 hg (Kd.R_ne hr h4 (by decide)),h5.rowed hr hg,Kd.R_grown2 h6 rfl hg (fun k hk he=>?_)⟩
  obtain ⟨c1,e1⟩:=own_blk hr hk.symm
  obtain ⟨c2,e2⟩:=own_blk h6 he
  exact absurd (blk_type e1 e2) (by decide)
end
def okW (n : Nat) (w : S87) : Prop:=(0≤w.f0∧w.f0≤2) ∧(0≤w.f1∧w.f1 < n) ∧(0≤w.f2∧w.f2 < n)
instance (n : Nat) (w : S87) : Decidable (okW n w):=by unfold okW;infer_instance
theorem latS_ok {t : List S39} {w : S87} (h : okW t.length w) : okW t.length (latS t w):=by
  obtain ⟨h0,h1,h2⟩:=h
  unfold latS latM madeM
  repeat' split
  all_goals first | exact⟨h0,h1,h2⟩ | exact⟨⟨Int.le_refl 0,by show(0 : Int)≤2;decide⟩,h1,h1⟩ | exact⟨⟨Int.le_refl 0,by show(0 : Int)≤2;decide⟩,h2,h2⟩
theorem okW_I {n : Nat} {w : S87} (hn : n≤1000) (h : okW n w) : I64 w.f0∧I64 w.f1∧I64 w.f2:=by
  obtain ⟨h0,h1,h2⟩:=h
  refine⟨⟨?_,?_⟩,⟨?_,?_⟩,⟨?_,?_⟩⟩ <;> omega
def latGo (t : List S39) : Nat → List S87 → Int → List S39 → Option (List S39)
  | 0,_,_,_=>none
  | f + 1,ns,k,out =>
    if k < ns.length then
      (if 0 ≤ k ∧ ns.length ≤ 5000 ∧ okW t.length (rd_T87 ns k) ∧ (out.length : Int) = k then
        (if (latM t (rd_T87 ns k)).1 = 4 ∨ (latM t (rd_T87 ns k)).1 = 5 then
          (if okW t.length (latM t (rd_T87 ns k)).2.1 ∧ okW t.length (latM t (rd_T87 ns k)).2.2.1 then
            latGo t f (latNs t (latNs t ns (latM t (rd_T87 ns k)).2.1) (latM t (rd_T87 ns k)).2.2.1) (k + 1) (out ++ [⟨(latM t (rd_T87 ns k)).1,latIx t (latNs t ns (latM t (rd_T87 ns k)).2.1) (latM t (rd_T87 ns k)).2.1,latIx t (latNs t (latNs t ns (latM t (rd_T87 ns k)).2.1) (latM t (rd_T87 ns k)).2.2.1) (latM t (rd_T87 ns k)).2.2.1⟩])
           else none)
         else latGo t f ns (k + 1) (out ++ [⟨(latM t (rd_T87 ns k)).1,0,0⟩]))
       else none)
    else some out
set_option maxHeartbeats 8000000 in
set_option maxRecDepth 100000 in
theorem lattice_fn.calls (k : Nat) (A0 : Option Addr) (c0 : Nat) (l0 : List S39) (p : S87) (fin r : List S39) (w : World) (hr0 : Kd.C k39 w A0 l0.length l0) (hn : l0.length ≤ 1000) (hp : okW l0.length p) (h : latGo l0 10000 (latNs l0 [] p) 0 [] = some fin) (hcan : loops_canonical.f k fin 0 = some r) :
    Calls Try.prog 57 #[.slice A0 l0.length c0,.agg #[.int .i64 p.f0,.int .i64 p.f1,.int .i64 p.f2]] w fun e w'=>∃ v0_ : Value,e = .returned v0_∧Kd.R k39 39 w' w.heap.size (fun _=>True) v0_ r∧Below w.heap.size w w':=by
  obtain ⟨W0,hW0⟩ : ∃ W0,W0 =((((w.alloc (.cells #[.slice A0 l0.length c0] 22)).alloc (.cells #[.int .i64 p.f0,.int .i64 p.f1,.int .i64 p.f2] 87)).alloc (.map #[] 0)).alloc (.cells #[.map (some (w.heap.size + 1 + 1))] 105)).alloc (.cells #[.slice none 0 0] 106):=⟨_,rfl⟩
  have HST0:=Aside0.mk (show LatSt l0 A0 c0 w.heap.size (w.heap.size + 1 + 1 + 1) (w.heap.size + 1 + 1 + 1 + 1) (w.heap.size + 1 + 1) w W0 (.slice none 0 0) [] from by
    subst hW0
    have h2:=MapAt.made ((w.alloc (.cells #[.slice A0 l0.length c0] 22)).alloc (.cells #[.int .i64 p.f0,.int .i64 p.f1,.int .i64 p.f2] 87)) Try.prog 87
    simp only [World.size_alloc] at h2
    refine⟨bwA (bwA (bwA (bwA (bwA (Below.refl _ _) _) _) _) _) _,?_,?_,?_,?_,Kd.R_nil _ _ _ _ _⟩
    · exact bkB (heap_alloc_new w _) (bwA (bwA (bwA (bwA (Below.refl _ _) _) _) _) _)
    · exact bkB (heap_new3 _ _ _ (by simp)) (bwA (Below.refl _ _) _)
    · exact heap_new3 _ _ _ (by simp)
    · exact((h2.alloc _).alloc _).congr (fun kv kl _=>by unfold encL numM;cases decL kv <;> simp))
  have HGE:=Aside0.mk (show w.heap.size≤w.heap.size + 1 + 1 + 1 + 1∧w.heap.size≤w.heap.size + 1 + 1 by omega)
  have HR0:=Aside0.mk hr0
  have HFND:=Aside0.mk (fun(W : World) (vn : Value) (ns : List S87) (q : S87) (hS : LatSt l0 A0 c0 w.heap.size (w.heap.size + 1 + 1 + 1) (w.heap.size + 1 + 1 + 1 + 1) (w.heap.size + 1 + 1) w W vn ns) (hq : okW l0.length q) (hl : ns.length≤100000)=>(show Calls Try.prog 66 #[.agg #[.int .i64 q.f0,.int .i64 q.f1,.int .i64 q.f2],.pointer (some ⟨w.heap.size,0,none⟩),.pointer (some ⟨w.heap.size + 1 + 1 + 1,0,none⟩),.pointer (some ⟨w.heap.size + 1 + 1 + 1 + 1,0,none⟩)] W (LatPost l0 A0 c0 w.heap.size (w.heap.size + 1 + 1 + 1) (w.heap.size + 1 + 1 + 1 + 1) (w.heap.size + 1 + 1) w W vn (latNs l0 ns q) (latIx l0 (latNs l0 ns q) q)) from lfind_fn.calls l0 A0 c0 _ _ _ _ w W vn ns q hS HR0.out HGE.out hq.2.1 hq.2.2 hl (okW_I hn (latS_ok hq))))
  have HP:=Aside0.mk hp
  have H:=Aside0.mk h
  have HCN:=Aside0.mk hcan
  have hmm:=@run_makeMap Try.prog
  have hmf : ∀ (fn : Fn) (first cap : Array Value) (w : World),(Instr.makeFunc fn first cap).run Try.prog w = .ok (.func fn first cap) w:=fun _ _ _ _=>rfl
  have hb10 : W0.cell? ⟨w.heap.size + 1,0,none⟩ = some (.int .i64 p.f0):=by subst hW0;exact(bkC (bkB (heap_new3 _ _ _ (by simp)) (bwA (bwA (bwA (Below.refl _ _) _) _) _)) 0).trans rfl
  have hb11 : W0.cell? ⟨w.heap.size + 1,1,none⟩ = some (.int .i64 p.f1):=by subst hW0;exact(bkC (bkB (heap_new3 _ _ _ (by simp)) (bwA (bwA (bwA (Below.refl _ _) _) _) _)) 1).trans rfl
  have hb12 : W0.cell? ⟨w.heap.size + 1,2,none⟩ = some (.int .i64 p.f2):=by subst hW0;exact(bkC (bkB (heap_new3 _ _ _ (by simp)) (bwA (bwA (bwA (Below.refl _ _) _) _) _)) 2).trans rfl
  subst hW0
  clear h hr0 hcan hp
  go_enter Try.func57,Try.ntmps57
  go_wp2_with (go_at_call 66;go_must ((with_reducible refine(HFND.out _ _ _ p HST0.out HP.out (Nat.zero_le _)).mono ?_);rintro e w1 ⟨rfl,vn1,hS1,_⟩;have HS1:=Aside0.mk hS1;clear hS1))
  go_loopg [8,9] 10000 (fun kq v8 v9 wr=>∃ (ns : List S87) (i : Int) (out : List S39) (vn : Value),v9 = .int .i64 i∧Aside0 (latGo l0 kq ns i out = some fin)∧Aside0 (LatSt l0 A0 c0 w.heap.size (w.heap.size + 1 + 1 + 1) (w.heap.size + 1 + 1 + 1 + 1) (w.heap.size + 1 + 1) w wr vn ns)∧Aside0 (Kd.R k39 39 wr w.heap.size (fun _=>True) v8 out))
  case atStart=>exact⟨latNs l0 [] p,0,[],_,rfl,H,HS1,⟨Kd.R_nil _ _ _ _ _⟩⟩
  clear H HS1 HST0
  obtain ⟨ns,i,out,vn,rfl,HG,HS,HO⟩:=hrel
  obtain ⟨mm,hm1⟩ : ∃ m,gk = m + 1:=by
    cases gk with
    | zero=>exact absurd HG.out (by simp [latGo])
    | succ m=>exact⟨m,rfl⟩
  have HG1:=HG.out
  rw [hm1] at HG1
  unfold latGo at HG1
  obtain ⟨An,cn,en⟩:=Kd.R_slice HS.out.row
  subst en
  have cgn : wr.cell? ⟨w.heap.size + 1 + 1 + 1 + 1,0,none⟩ = some (.slice An ns.length cn):=(bkC HS.out.lb 0).trans rfl
  have HMM:=Aside0.mk (show mm < gk by omega)
  by_cases c2 : i < (ns.length : Int)
  rotate_left
  · rw [if_neg c2] at HG1
    obtain rfl:=Option.some.inj HG1
    have c2b0 : decide (i < (ns.length : Int)) = false:=decide_eq_false c2
    obtain ⟨Ao,co,eo⟩:=Kd.R_slice HO.out
    subst eo
    have HCA:=Aside0.mk (loops_canonical.calls k Ao co out 0 r wr (Kd.R_reads' HO.out).2.2 (Kd.R_reads' HO.out).2.1 HCN.out)
    clear c2 HG1 hm1
    go_wp2_with (go_at_call 42;go_must ((with_reducible refine HCA.out.mono ?_);rintro e w9 ⟨v9,rfl,hR9,hB9⟩;have HR9:=Aside0.mk (Kd.R_lower hR9 HS.out.below.size);have HB9:=Aside0.mk (below_then HS.out.below HS.out.below.size hB9);clear hR9 hB9))
    go_ret
    exact⟨_,rfl,HR9.out,HB9.out⟩
  rw [if_pos c2] at HG1
  by_cases c3 : 0≤i∧ns.length≤5000∧okW l0.length (rd_T87 ns i) ∧(out.length : Int) = i
  case neg=>rw [if_neg c3] at HG1;cases HG1
  rw [if_pos c3] at HG1
  obtain ⟨b0,b1,b2,b4⟩:=c3
  obtain ⟨adn,ean,hx0,hx1,hx2⟩:=at_T87 (Kd.R_reads' HS.out.row).2.2 i b0 c2
  subst ean
  obtain ⟨P,hP⟩ : ∃ P,P = rd_T87 ns i:=⟨_,rfl⟩
  rw [← hP] at hx0 hx1 hx2 HG1 b2
  have HMD0:=Aside0.mk (fun(W' : World) (hB : Below w.heap.size w W')=>made_fn.calls A0 c0 l0 P W' (Kd.C_below HR0.out hB) b2.2.1 b2.2.2)
  obtain ⟨M,hM⟩ : ∃ M,M = latM l0 P:=⟨_,rfl⟩
  rw [← hM] at HG1
  rw [show madeM (rd_T39 l0 P.f1) (rd_T39 l0 P.f2) P = M from hM.symm] at HMD0
  obtain ⟨mk,m0,m1,m2⟩:=M
  have HMD:=Aside0.mk (fun(W' : World) (hB : Below w.heap.size w W')=>(show Calls Try.prog 67 #[.slice A0 l0.length c0,.agg #[.int .i64 P.f0,.int .i64 P.f1,.int .i64 P.f2]] W' (fun e w'=>Below W'.heap.size W' w'∧e = .returned (.tuple #[.int .i64 mk,.agg #[.int .i64 m0.f0,.int .i64 m0.f1,.int .i64 m0.f2,.int .i64 m1.f0,.int .i64 m1.f1,.int .i64 m1.f2],.agg #[.int .i64 m2.f0,.int .i64 m2.f1,.int .i64 m2.f2]])) from HMD0.out W' hB))
  have c2b0 : decide (i < (ns.length : Int)) = true:=decide_eq_true c2
  have hw : wrap64 (i + 1) = i + 1:=by unfold wrap64;omega
  have HW:=Aside0.mk hw
  have r0:=eq_true b0
  have r1:=eq_true c2
  have HKEEP := Aside0.mk (fun (W' : World) (hB : Below wr.heap.size wr W') => (show W'.cell? ⟨w.heap.size, 0, none⟩ = some (.slice A0 l0.length c0) ∧ W'.cell? ⟨w.heap.size + 1 + 1 + 1 + 1, 0, none⟩ = some (.slice (some adn) ns.length cn) ∧ W'.cell? (adn.add (i.toNat * 3)) = some (.int .i64 P.f0) ∧ W'.cell? ⟨(adn.add (i.toNat * 3)).block, (adn.add (i.toNat * 3)).off + 1, none⟩ = some (.int .i64 P.f1) ∧ W'.cell? ⟨(adn.add (i.toNat * 3)).block, (adn.add (i.toNat * 3)).off + 2, none⟩ = some (.int .i64 P.f2) from
    ⟨(bkC (bkB HS.out.tb hB) 0).trans rfl,(bkC (bkB HS.out.lb hB) 0).trans rfl,(hB.cell (World.block_lt_of_cell? wr _ hx0)).trans hx0,(hB.cell (World.block_lt_of_cell? wr _ hx1)).trans hx1,(hB.cell (World.block_lt_of_cell? wr _ hx2)).trans hx2⟩))
  have HB0:=Aside0.mk (bw1 (Below.refl wr.heap.size wr))
  have HOL:=Aside0.mk (show out.length≤5000 by omega)
  have HNL:=Aside0.mk b1
  have HG2:=Aside0.mk HG1
  have HOB:=Aside0.mk (Kd.R_mono (Kd.R_bound HO.out) (fun k hk=>hk.2.2.1) : Kd.R k39 39 wr w.heap.size (fun k=>k < wr.heap.size) _ out)
  clear HG HG1 HMD0 c2 b0 b1 b2 b4 hP hM hw hm1 hx0 hx1 hx2
  go_upto_region 9 with (fail)
  go_cut [10,11] (fun v10 v11 wd=>∃ g11 : Nat,v10 = .int .i64 mk∧v11 = .pointer (some ⟨g11,0,none⟩)∧Aside0 (wd.heap[g11]? = some (.cells #[.int .i64 m0.f0,.int .i64 m0.f1,.int .i64 m0.f2,.int .i64 m1.f0,.int .i64 m1.f1,.int .i64 m1.f2] 107 (0,0)))∧Aside0 (Below wr.heap.size wr wd))
  case first =>
    go_wp2
    refine start_ (n:=15) (S:=(fun W'=>W'.cell? ⟨w.heap.size,0,none⟩ = some (.slice A0 l0.length c0)∧W'.cell? ⟨w.heap.size + 1 + 1 + 1 + 1,0,none⟩ = some (.slice (some adn) ns.length cn)∧W'.cell? (adn.add (i.toNat * 3)) = some (.int .i64 P.f0)∧W'.cell? ⟨(adn.add (i.toNat * 3)).block,(adn.add (i.toNat * 3)).off + 1,none⟩ = some (.int .i64 P.f1)∧W'.cell? ⟨(adn.add (i.toNat * 3)).block,(adn.add (i.toNat * 3)).off + 2,none⟩ = some (.int .i64 P.f2))) (ds:=[]) (mk_ 0 15) (by kernel_rfl) rfl (by kernel_rfl) (HKEEP.out _ (bw1 (Below.refl _ _))) (fun hHeld=>?_)
    iterate 5 (first
      |(refine pm_ (v:=?_) (a':=?_) rfl rfl (by kernel_rfl) (fun _ _ _ h=>h) ?_ ?_ ?_;rotate_left 2;(focus refine Or.inl ⟨by rfl,?_⟩;intro w';go_simp;with_reducible rfl);(focus simp only [List.getElem_toArray,List.getElem_cons_succ,List.getElem_cons_zero,Act.put,List.setIfInBounds_toArray,List.set_cons_zero,List.set_cons_succ,i64_w,i32_w];rfl))
      |(refine tm_ (v:=?_) (a':=?_) rfl rfl (by kernel_rfl) (fun _ _ _ h=>h) ?_ hHeld ?_ ?_;rotate_left 2;(focus refine Or.inl ⟨by rfl,?_⟩;rintro w' ⟨s0,s1,s2,s3,s4⟩;go_simp;with_reducible rfl);(focus simp only [List.getElem_toArray,List.getElem_cons_succ,List.getElem_cons_zero,Act.put,List.setIfInBounds_toArray,List.set_cons_zero,List.set_cons_succ,i64_w,i32_w];rfl)))
    refine join_ (σ:=Nat×Nat) 3 #[true,true,true,true,true,true,true,true,true,true,true,true,false,false,false] (fun s_=>[(11,.pointer (some ⟨s_.1,0,none⟩)),(12,.pointer (some ⟨s_.2,0,none⟩)),(31,(.tuple #[.int .i64 mk,.agg #[.int .i64 m0.f0,.int .i64 m0.f1,.int .i64 m0.f2,.int .i64 m1.f0,.int .i64 m1.f1,.int .i64 m1.f2],.agg #[.int .i64 m2.f0,.int .i64 m2.f1,.int .i64 m2.f2]])),(25,(.tuple #[.int .i64 mk,.agg #[.int .i64 m0.f0,.int .i64 m0.f1,.int .i64 m0.f2,.int .i64 m1.f0,.int .i64 m1.f1,.int .i64 m1.f2],.agg #[.int .i64 m2.f0,.int .i64 m2.f1,.int .i64 m2.f2]])),(32,.int .i64 mk),(33,.agg #[.int .i64 m0.f0,.int .i64 m0.f1,.int .i64 m0.f2,.int .i64 m1.f0,.int .i64 m1.f1,.int .i64 m1.f2]),(34,.agg #[.int .i64 m2.f0,.int .i64 m2.f1,.int .i64 m2.f2])]) (fun s_ w'=>w'.heap[s_.1]? = some (.cells #[.int .i64 0,.int .i64 0,.int .i64 0,.int .i64 0,.int .i64 0,.int .i64 0] 107 (0,0))∧w'.heap[s_.2]? = some (.cells #[.int .i64 0,.int .i64 0,.int .i64 0] 87 (0,0))∧Below wr.heap.size wr w'∧wr.heap.size≤s_.1∧wr.heap.size≤s_.2) ?_ ?_
    rotate_left
    · intro hCont
      refine three_ (i:=5) (j:=10) (k:=11) (Ni:=some 31) (Nj:=some 11) (Nk:=some 12) #[true,true,true,true,true,true,false,false,false,false,false,false,false,false,false] #[true,true,true,true,true,false,false,false,false,false,true,false,false,false,false] #[true,true,true,true,true,false,false,false,false,false,false,true,false,false,false] rfl rfl rfl rfl rfl rfl (by kernel_rfl) (by decide) (by decide) (by decide) (fun K hK=>?_) (fun K hK=>?_) (fun K hK=>?_)
      · skip
        refine goes_ Try.func67 (by kernel_rfl) rfl #[.slice A0 l0.length c0,.agg #[.int .i64 P.f0,.int .i64 P.f1,.int .i64 P.f2]] (by rfl) rfl rfl (by(try simp only [List.map_toArray,List.map_cons,List.map_nil]);first | done | rfl) ?_
        refine(HMD.out _ (below_then HS.out.below HS.out.below.size HB0.out)).mono ?_
        rintro e w1 ⟨hb,rfl⟩
        refine⟨_,rfl,?_⟩
        have HB1:=Aside0.mk (below_then HB0.out HB0.out.size hb)
        refine hK.out _ _ (HKEEP.out _ HB1.out) (fun hHeld=>?_)
        clear hK K hb
        refine norm_ (a':=?_) ?_ ?_
        rotate_left
        · show Act.put _ (some 31) _ = _
          simp only [List.getElem_toArray,List.getElem_cons_succ,List.getElem_cons_zero,Act.put,List.setIfInBounds_toArray,List.set_cons_zero,List.set_cons_succ,i64_w,i32_w]
          rfl
        refine pure_ (i:=6) (N:=some 25) (v:=?_) (a':=?_) #[true,true,true,true,true,true,true,false,false,false,false,false,false,false,false] rfl rfl (by kernel_rfl) (fun _ _ _ h=>h) (Or.inl ⟨by rfl,?_⟩) ?_ ?_
        rotate_left
        · intro w'
          go_simp
          with_reducible rfl
        rotate_left
        · simp only [List.getElem_toArray, List.getElem_cons_succ, List.getElem_cons_zero, Act.put, List.setIfInBounds_toArray, List.set_cons_zero, List.set_cons_succ, i64_w, i32_w]
          rfl
        refine pure_ (i:=7) (N:=some 32) (v:=?_) (a':=?_) #[true,true,true,true,true,true,true,true,false,false,false,false,false,false,false] rfl rfl (by kernel_rfl) (fun _ _ _ h=>h) (Or.inl ⟨by rfl,?_⟩) ?_ ?_
        rotate_left
        · intro w'
          go_simp
          with_reducible rfl
        rotate_left
        · simp only [List.getElem_toArray, List.getElem_cons_succ, List.getElem_cons_zero, Act.put, List.setIfInBounds_toArray, List.set_cons_zero, List.set_cons_succ, i64_w, i32_w]
          rfl
        refine pure_ (i:=8) (N:=some 33) (v:=?_) (a':=?_) #[true,true,true,true,true,true,true,true,true,false,false,false,false,false,false] rfl rfl (by kernel_rfl) (fun _ _ _ h=>h) (Or.inl ⟨by rfl,?_⟩) ?_ ?_
        rotate_left
        · intro w'
          go_simp
          with_reducible rfl
        rotate_left
        · simp only [List.getElem_toArray, List.getElem_cons_succ, List.getElem_cons_zero, Act.put, List.setIfInBounds_toArray, List.set_cons_zero, List.set_cons_succ, i64_w, i32_w]
          rfl
        refine pure_ (i:=9) (N:=some 34) (v:=?_) (a':=?_) #[true,true,true,true,true,true,true,true,true,true,false,false,false,false,false] rfl rfl (by kernel_rfl) (fun _ _ _ h=>h) (Or.inl ⟨by rfl,?_⟩) ?_ ?_
        rotate_left
        · intro w'
          go_simp
          with_reducible rfl
        rotate_left
        · simp only [List.getElem_toArray, List.getElem_cons_succ, List.getElem_cons_zero, Act.put, List.setIfInBounds_toArray, List.set_cons_zero, List.set_cons_succ, i64_w, i32_w]
          rfl
        refine two_ (i:=10) (j:=11) (Ni:=some 11) (Nj:=some 12) #[true,true,true,true,true,true,true,true,true,true,true,false,false,false,false] #[true,true,true,true,true,true,true,true,true,true,false,true,false,false,false] rfl rfl rfl rfl (by kernel_rfl) (by decide) (by decide) (fun K hK=>?_) (fun K hK=>?_)
        · skip
          refine box_step ?hg (N:=11) ?hd (cs:=#[.int .i64 0,.int .i64 0,.int .i64 0,.int .i64 0,.int .i64 0,.int .i64 0]) (t:=107) ?hr ?_;(case hd=>rfl);(case hg=>rfl);(case hr=>first |(go_simp;done) |(go_simp;rfl))
          intro g11 hg w2 hbox hb
          have HB2:=Aside0.mk (below_then HB1.out HB1.out.size hb)
          have HK11_2:=Aside0.mk hbox
          have HG11:=Aside0.mk (show wr.heap.size≤g11 by rw [hg];exact HB1.out.size)
          refine hK.out _ _ (HKEEP.out _ HB2.out) (fun hHeld=>?_)
          clear hK K hb hbox hg
          refine norm_ (a':=?_) ?_ ?_
          rotate_left
          · show Act.put _ (some 11) _ = _
            simp only [List.getElem_toArray,List.getElem_cons_succ,List.getElem_cons_zero,Act.put,List.setIfInBounds_toArray,List.set_cons_zero,List.set_cons_succ,i64_w,i32_w]
            rfl
          refine one_ (i:=11) (N:=some 12) #[true,true,true,true,true,true,true,true,true,true,true,true,false,false,false] rfl rfl (by kernel_rfl) (by decide) (fun K hK=>?_)
          refine box_step ?hg (N:=12) ?hd (cs:=#[.int .i64 0,.int .i64 0,.int .i64 0]) (t:=87) ?hr ?_;(case hd=>rfl);(case hg=>rfl);(case hr=>first |(go_simp;done) |(go_simp;rfl))
          intro g12 hg w3 hbox hb
          have HB3:=Aside0.mk (below_then HB2.out HB2.out.size hb)
          have HK11_3:=Aside0.mk (bkB HK11_2.out hb)
          have HK12_3:=Aside0.mk hbox
          have HG12:=Aside0.mk (show wr.heap.size≤g12 by rw [hg];exact HB2.out.size)
          refine hK.out _ _ (HKEEP.out _ HB3.out) (fun hHeld=>?_)
          clear hK K hb hbox hg
          refine norm_ (a':=?_) ?_ ?_
          rotate_left
          · show Act.put _ (some 12) _ = _
            simp only [List.getElem_toArray,List.getElem_cons_succ,List.getElem_cons_zero,Act.put,List.setIfInBounds_toArray,List.set_cons_zero,List.set_cons_succ,i64_w,i32_w]
            rfl
          exact norm_ (by simp only [putAll,Act.put,List.setIfInBounds_toArray,List.set_cons_zero,List.set_cons_succ]) (hCont (g11,g12) _ ⟨HK11_3.out,HK12_3.out,HB3.out,HG11.out,HG12.out⟩)
        · skip
          refine box_step ?hg (N:=12) ?hd (cs:=#[.int .i64 0,.int .i64 0,.int .i64 0]) (t:=87) ?hr ?_;(case hd=>rfl);(case hg=>rfl);(case hr=>first |(go_simp;done) |(go_simp;rfl))
          intro g12 hg w2 hbox hb
          have HB2:=Aside0.mk (below_then HB1.out HB1.out.size hb)
          have HK12_2:=Aside0.mk hbox
          have HG12:=Aside0.mk (show wr.heap.size≤g12 by rw [hg];exact HB1.out.size)
          refine hK.out _ _ (HKEEP.out _ HB2.out) (fun hHeld=>?_)
          clear hK K hb hbox hg
          refine norm_ (a':=?_) ?_ ?_
          rotate_left
          · show Act.put _ (some 12) _ = _
            simp only [List.getElem_toArray,List.getElem_cons_succ,List.getElem_cons_zero,Act.put,List.setIfInBounds_toArray,List.set_cons_zero,List.set_cons_succ,i64_w,i32_w]
            rfl
          refine one_ (i:=10) (N:=some 11) #[true,true,true,true,true,true,true,true,true,true,true,true,false,false,false] rfl rfl (by kernel_rfl) (by decide) (fun K hK=>?_)
          refine box_step ?hg (N:=11) ?hd (cs:=#[.int .i64 0,.int .i64 0,.int .i64 0,.int .i64 0,.int .i64 0,.int .i64 0]) (t:=107) ?hr ?_;(case hd=>rfl);(case hg=>rfl);(case hr=>first |(go_simp;done) |(go_simp;rfl))
          intro g11 hg w3 hbox hb
          have HB3:=Aside0.mk (below_then HB2.out HB2.out.size hb)
          have HK12_3:=Aside0.mk (bkB HK12_2.out hb)
          have HK11_3:=Aside0.mk hbox
          have HG11:=Aside0.mk (show wr.heap.size≤g11 by rw [hg];exact HB2.out.size)
          refine hK.out _ _ (HKEEP.out _ HB3.out) (fun hHeld=>?_)
          clear hK K hb hbox hg
          refine norm_ (a':=?_) ?_ ?_
          rotate_left
          · show Act.put _ (some 11) _ = _
            simp only [List.getElem_toArray,List.getElem_cons_succ,List.getElem_cons_zero,Act.put,List.setIfInBounds_toArray,List.set_cons_zero,List.set_cons_succ,i64_w,i32_w]
            rfl
          exact norm_ (by simp only [putAll,Act.put,List.setIfInBounds_toArray,List.set_cons_zero,List.set_cons_succ]) (hCont (g11,g12) _ ⟨HK11_3.out,HK12_3.out,HB3.out,HG11.out,HG12.out⟩)
      · skip
        refine box_step ?hg (N:=11) ?hd (cs:=#[.int .i64 0,.int .i64 0,.int .i64 0,.int .i64 0,.int .i64 0,.int .i64 0]) (t:=107) ?hr ?_;(case hd=>rfl);(case hg=>rfl);(case hr=>first |(go_simp;done) |(go_simp;rfl))
        intro g11 hg w1 hbox hb
        have HB1:=Aside0.mk (below_then HB0.out HB0.out.size hb)
        have HK11_1:=Aside0.mk hbox
        have HG11:=Aside0.mk (show wr.heap.size≤g11 by rw [hg];exact HB0.out.size)
        refine hK.out _ _ (HKEEP.out _ HB1.out) (fun hHeld=>?_)
        clear hK K hb hbox hg
        refine norm_ (a':=?_) ?_ ?_
        rotate_left
        · show Act.put _ (some 11) _ = _
          simp only [List.getElem_toArray,List.getElem_cons_succ,List.getElem_cons_zero,Act.put,List.setIfInBounds_toArray,List.set_cons_zero,List.set_cons_succ,i64_w,i32_w]
          rfl
        refine two_ (i:=5) (j:=11) (Ni:=some 31) (Nj:=some 12) #[true,true,true,true,true,true,false,false,false,false,true,false,false,false,false] #[true,true,true,true,true,false,false,false,false,false,true,true,false,false,false] rfl rfl rfl rfl (by kernel_rfl) (by decide) (by decide) (fun K hK=>?_) (fun K hK=>?_)
        · skip
          refine goes_ Try.func67 (by kernel_rfl) rfl #[.slice A0 l0.length c0,.agg #[.int .i64 P.f0,.int .i64 P.f1,.int .i64 P.f2]] (by rfl) rfl rfl (by(try simp only [List.map_toArray,List.map_cons,List.map_nil]);first | done | rfl) ?_
          refine(HMD.out _ (below_then HS.out.below HS.out.below.size HB1.out)).mono ?_
          rintro e w2 ⟨hb,rfl⟩
          refine⟨_,rfl,?_⟩
          have HB2:=Aside0.mk (below_then HB1.out HB1.out.size hb)
          have HK11_2:=Aside0.mk (bkB HK11_1.out hb)
          refine hK.out _ _ (HKEEP.out _ HB2.out) (fun hHeld=>?_)
          clear hK K hb
          refine norm_ (a':=?_) ?_ ?_
          rotate_left
          · show Act.put _ (some 31) _ = _
            simp only [List.getElem_toArray,List.getElem_cons_succ,List.getElem_cons_zero,Act.put,List.setIfInBounds_toArray,List.set_cons_zero,List.set_cons_succ,i64_w,i32_w]
            rfl
          refine pure_ (i:=6) (N:=some 25) (v:=?_) (a':=?_) #[true,true,true,true,true,true,true,false,false,false,true,false,false,false,false] rfl rfl (by kernel_rfl) (fun _ _ _ h=>h) (Or.inl ⟨by rfl,?_⟩) ?_ ?_
          rotate_left
          · intro w'
            go_simp
            with_reducible rfl
          rotate_left
          · simp only [List.getElem_toArray, List.getElem_cons_succ, List.getElem_cons_zero, Act.put, List.setIfInBounds_toArray, List.set_cons_zero, List.set_cons_succ, i64_w, i32_w]
            rfl
          refine pure_ (i:=7) (N:=some 32) (v:=?_) (a':=?_) #[true,true,true,true,true,true,true,true,false,false,true,false,false,false,false] rfl rfl (by kernel_rfl) (fun _ _ _ h=>h) (Or.inl ⟨by rfl,?_⟩) ?_ ?_
          rotate_left
          · intro w'
            go_simp
            with_reducible rfl
          rotate_left
          · simp only [List.getElem_toArray, List.getElem_cons_succ, List.getElem_cons_zero, Act.put, List.setIfInBounds_toArray, List.set_cons_zero, List.set_cons_succ, i64_w, i32_w]
            rfl
          refine pure_ (i:=8) (N:=some 33) (v:=?_) (a':=?_) #[true,true,true,true,true,true,true,true,true,false,true,false,false,false,false] rfl rfl (by kernel_rfl) (fun _ _ _ h=>h) (Or.inl ⟨by rfl,?_⟩) ?_ ?_
          rotate_left
          · intro w'
            go_simp
            with_reducible rfl
          rotate_left
          · simp only [List.getElem_toArray, List.getElem_cons_succ, List.getElem_cons_zero, Act.put, List.setIfInBounds_toArray, List.set_cons_zero, List.set_cons_succ, i64_w, i32_w]
            rfl
          refine pure_ (i:=9) (N:=some 34) (v:=?_) (a':=?_) #[true,true,true,true,true,true,true,true,true,true,true,false,false,false,false] rfl rfl (by kernel_rfl) (fun _ _ _ h=>h) (Or.inl ⟨by rfl,?_⟩) ?_ ?_
          rotate_left
          · intro w'
            go_simp
            with_reducible rfl
          rotate_left
          · simp only [List.getElem_toArray, List.getElem_cons_succ, List.getElem_cons_zero, Act.put, List.setIfInBounds_toArray, List.set_cons_zero, List.set_cons_succ, i64_w, i32_w]
            rfl
          refine one_ (i:=11) (N:=some 12) #[true,true,true,true,true,true,true,true,true,true,true,true,false,false,false] rfl rfl (by kernel_rfl) (by decide) (fun K hK=>?_)
          refine box_step ?hg (N:=12) ?hd (cs:=#[.int .i64 0,.int .i64 0,.int .i64 0]) (t:=87) ?hr ?_;(case hd=>rfl);(case hg=>rfl);(case hr=>first |(go_simp;done) |(go_simp;rfl))
          intro g12 hg w3 hbox hb
          have HB3:=Aside0.mk (below_then HB2.out HB2.out.size hb)
          have HK11_3:=Aside0.mk (bkB HK11_2.out hb)
          have HK12_3:=Aside0.mk hbox
          have HG12:=Aside0.mk (show wr.heap.size≤g12 by rw [hg];exact HB2.out.size)
          refine hK.out _ _ (HKEEP.out _ HB3.out) (fun hHeld=>?_)
          clear hK K hb hbox hg
          refine norm_ (a':=?_) ?_ ?_
          rotate_left
          · show Act.put _ (some 12) _ = _
            simp only [List.getElem_toArray,List.getElem_cons_succ,List.getElem_cons_zero,Act.put,List.setIfInBounds_toArray,List.set_cons_zero,List.set_cons_succ,i64_w,i32_w]
            rfl
          exact norm_ (by simp only [putAll,Act.put,List.setIfInBounds_toArray,List.set_cons_zero,List.set_cons_succ]) (hCont (g11,g12) _ ⟨HK11_3.out,HK12_3.out,HB3.out,HG11.out,HG12.out⟩)
        · skip
          refine box_step ?hg (N:=12) ?hd (cs:=#[.int .i64 0,.int .i64 0,.int .i64 0]) (t:=87) ?hr ?_;(case hd=>rfl);(case hg=>rfl);(case hr=>first |(go_simp;done) |(go_simp;rfl))
          intro g12 hg w2 hbox hb
          have HB2:=Aside0.mk (below_then HB1.out HB1.out.size hb)
          have HK11_2:=Aside0.mk (bkB HK11_1.out hb)
          have HK12_2:=Aside0.mk hbox
          have HG12:=Aside0.mk (show wr.heap.size≤g12 by rw [hg];exact HB1.out.size)
          refine hK.out _ _ (HKEEP.out _ HB2.out) (fun hHeld=>?_)
          clear hK K hb hbox hg
          refine norm_ (a':=?_) ?_ ?_
          rotate_left
          · show Act.put _ (some 12) _ = _
            simp only [List.getElem_toArray,List.getElem_cons_succ,List.getElem_cons_zero,Act.put,List.setIfInBounds_toArray,List.set_cons_zero,List.set_cons_succ,i64_w,i32_w]
            rfl
          refine one_ (i:=5) (N:=some 31) #[true,true,true,true,true,true,false,false,false,false,true,true,false,false,false] rfl rfl (by kernel_rfl) (by decide) (fun K hK=>?_)
          refine goes_ Try.func67 (by kernel_rfl) rfl #[.slice A0 l0.length c0,.agg #[.int .i64 P.f0,.int .i64 P.f1,.int .i64 P.f2]] (by rfl) rfl rfl (by(try simp only [List.map_toArray,List.map_cons,List.map_nil]);first | done | rfl) ?_
          refine(HMD.out _ (below_then HS.out.below HS.out.below.size HB2.out)).mono ?_
          rintro e w3 ⟨hb,rfl⟩
          refine⟨_,rfl,?_⟩
          have HB3:=Aside0.mk (below_then HB2.out HB2.out.size hb)
          have HK11_3:=Aside0.mk (bkB HK11_2.out hb)
          have HK12_3:=Aside0.mk (bkB HK12_2.out hb)
          refine hK.out _ _ (HKEEP.out _ HB3.out) (fun hHeld=>?_)
          clear hK K hb
          refine norm_ (a':=?_) ?_ ?_
          rotate_left
          · show Act.put _ (some 31) _ = _
            simp only [List.getElem_toArray,List.getElem_cons_succ,List.getElem_cons_zero,Act.put,List.setIfInBounds_toArray,List.set_cons_zero,List.set_cons_succ,i64_w,i32_w]
            rfl
          refine pure_ (i:=6) (N:=some 25) (v:=?_) (a':=?_) #[true,true,true,true,true,true,true,false,false,false,true,true,false,false,false] rfl rfl (by kernel_rfl) (fun _ _ _ h=>h) (Or.inl ⟨by rfl,?_⟩) ?_ ?_
          rotate_left
          · intro w'
            go_simp
            with_reducible rfl
          rotate_left
          · simp only [List.getElem_toArray, List.getElem_cons_succ, List.getElem_cons_zero, Act.put, List.setIfInBounds_toArray, List.set_cons_zero, List.set_cons_succ, i64_w, i32_w]
            rfl
          refine pure_ (i:=7) (N:=some 32) (v:=?_) (a':=?_) #[true,true,true,true,true,true,true,true,false,false,true,true,false,false,false] rfl rfl (by kernel_rfl) (fun _ _ _ h=>h) (Or.inl ⟨by rfl,?_⟩) ?_ ?_
          rotate_left
          · intro w'
            go_simp
            with_reducible rfl
          rotate_left
          · simp only [List.getElem_toArray, List.getElem_cons_succ, List.getElem_cons_zero, Act.put, List.setIfInBounds_toArray, List.set_cons_zero, List.set_cons_succ, i64_w, i32_w]
            rfl
          refine pure_ (i:=8) (N:=some 33) (v:=?_) (a':=?_) #[true,true,true,true,true,true,true,true,true,false,true,true,false,false,false] rfl rfl (by kernel_rfl) (fun _ _ _ h=>h) (Or.inl ⟨by rfl,?_⟩) ?_ ?_
          rotate_left
          · intro w'
            go_simp
            with_reducible rfl
          rotate_left
          · simp only [List.getElem_toArray, List.getElem_cons_succ, List.getElem_cons_zero, Act.put, List.setIfInBounds_toArray, List.set_cons_zero, List.set_cons_succ, i64_w, i32_w]
            rfl
          refine pure_ (i:=9) (N:=some 34) (v:=?_) (a':=?_) #[true,true,true,true,true,true,true,true,true,true,true,true,false,false,false] rfl rfl (by kernel_rfl) (fun _ _ _ h=>h) (Or.inl ⟨by rfl,?_⟩) ?_ ?_
          rotate_left
          · intro w'
            go_simp
            with_reducible rfl
          rotate_left
          · simp only [List.getElem_toArray, List.getElem_cons_succ, List.getElem_cons_zero, Act.put, List.setIfInBounds_toArray, List.set_cons_zero, List.set_cons_succ, i64_w, i32_w]
            rfl
          exact norm_ (by simp only [putAll,Act.put,List.setIfInBounds_toArray,List.set_cons_zero,List.set_cons_succ]) (hCont (g11,g12) _ ⟨HK11_3.out,HK12_3.out,HB3.out,HG11.out,HG12.out⟩)
      · skip
        refine box_step ?hg (N:=12) ?hd (cs:=#[.int .i64 0,.int .i64 0,.int .i64 0]) (t:=87) ?hr ?_;(case hd=>rfl);(case hg=>rfl);(case hr=>first |(go_simp;done) |(go_simp;rfl))
        intro g12 hg w1 hbox hb
        have HB1:=Aside0.mk (below_then HB0.out HB0.out.size hb)
        have HK12_1:=Aside0.mk hbox
        have HG12:=Aside0.mk (show wr.heap.size≤g12 by rw [hg];exact HB0.out.size)
        refine hK.out _ _ (HKEEP.out _ HB1.out) (fun hHeld=>?_)
        clear hK K hb hbox hg
        refine norm_ (a':=?_) ?_ ?_
        rotate_left
        · show Act.put _ (some 12) _ = _
          simp only [List.getElem_toArray,List.getElem_cons_succ,List.getElem_cons_zero,Act.put,List.setIfInBounds_toArray,List.set_cons_zero,List.set_cons_succ,i64_w,i32_w]
          rfl
        refine two_ (i:=5) (j:=10) (Ni:=some 31) (Nj:=some 11) #[true,true,true,true,true,true,false,false,false,false,false,true,false,false,false] #[true,true,true,true,true,false,false,false,false,false,true,true,false,false,false] rfl rfl rfl rfl (by kernel_rfl) (by decide) (by decide) (fun K hK=>?_) (fun K hK=>?_)
        · skip
          refine goes_ Try.func67 (by kernel_rfl) rfl #[.slice A0 l0.length c0,.agg #[.int .i64 P.f0,.int .i64 P.f1,.int .i64 P.f2]] (by rfl) rfl rfl (by(try simp only [List.map_toArray,List.map_cons,List.map_nil]);first | done | rfl) ?_
          refine(HMD.out _ (below_then HS.out.below HS.out.below.size HB1.out)).mono ?_
          rintro e w2 ⟨hb,rfl⟩
          refine⟨_,rfl,?_⟩
          have HB2:=Aside0.mk (below_then HB1.out HB1.out.size hb)
          have HK12_2:=Aside0.mk (bkB HK12_1.out hb)
          refine hK.out _ _ (HKEEP.out _ HB2.out) (fun hHeld=>?_)
          clear hK K hb
          refine norm_ (a':=?_) ?_ ?_
          rotate_left
          · show Act.put _ (some 31) _ = _
            simp only [List.getElem_toArray,List.getElem_cons_succ,List.getElem_cons_zero,Act.put,List.setIfInBounds_toArray,List.set_cons_zero,List.set_cons_succ,i64_w,i32_w]
            rfl
          refine pure_ (i:=6) (N:=some 25) (v:=?_) (a':=?_) #[true,true,true,true,true,true,true,false,false,false,false,true,false,false,false] rfl rfl (by kernel_rfl) (fun _ _ _ h=>h) (Or.inl ⟨by rfl,?_⟩) ?_ ?_
          rotate_left
          · intro w'
            go_simp
            with_reducible rfl
          rotate_left
          · simp only [List.getElem_toArray, List.getElem_cons_succ, List.getElem_cons_zero, Act.put, List.setIfInBounds_toArray, List.set_cons_zero, List.set_cons_succ, i64_w, i32_w]
            rfl
          refine pure_ (i:=7) (N:=some 32) (v:=?_) (a':=?_) #[true,true,true,true,true,true,true,true,false,false,false,true,false,false,false] rfl rfl (by kernel_rfl) (fun _ _ _ h=>h) (Or.inl ⟨by rfl,?_⟩) ?_ ?_
          rotate_left
          · intro w'
            go_simp
            with_reducible rfl
          rotate_left
          · simp only [List.getElem_toArray, List.getElem_cons_succ, List.getElem_cons_zero, Act.put, List.setIfInBounds_toArray, List.set_cons_zero, List.set_cons_succ, i64_w, i32_w]
            rfl
          refine pure_ (i:=8) (N:=some 33) (v:=?_) (a':=?_) #[true,true,true,true,true,true,true,true,true,false,false,true,false,false,false] rfl rfl (by kernel_rfl) (fun _ _ _ h=>h) (Or.inl ⟨by rfl,?_⟩) ?_ ?_
          rotate_left
          · intro w'
            go_simp
            with_reducible rfl
          rotate_left
          · simp only [List.getElem_toArray, List.getElem_cons_succ, List.getElem_cons_zero, Act.put, List.setIfInBounds_toArray, List.set_cons_zero, List.set_cons_succ, i64_w, i32_w]
            rfl
          refine pure_ (i:=9) (N:=some 34) (v:=?_) (a':=?_) #[true,true,true,true,true,true,true,true,true,true,false,true,false,false,false] rfl rfl (by kernel_rfl) (fun _ _ _ h=>h) (Or.inl ⟨by rfl,?_⟩) ?_ ?_
          rotate_left
          · intro w'
            go_simp
            with_reducible rfl
          rotate_left
          · simp only [List.getElem_toArray, List.getElem_cons_succ, List.getElem_cons_zero, Act.put, List.setIfInBounds_toArray, List.set_cons_zero, List.set_cons_succ, i64_w, i32_w]
            rfl
          refine one_ (i:=10) (N:=some 11) #[true,true,true,true,true,true,true,true,true,true,true,true,false,false,false] rfl rfl (by kernel_rfl) (by decide) (fun K hK=>?_)
          refine box_step ?hg (N:=11) ?hd (cs:=#[.int .i64 0,.int .i64 0,.int .i64 0,.int .i64 0,.int .i64 0,.int .i64 0]) (t:=107) ?hr ?_;(case hd=>rfl);(case hg=>rfl);(case hr=>first |(go_simp;done) |(go_simp;rfl))
          intro g11 hg w3 hbox hb
          have HB3:=Aside0.mk (below_then HB2.out HB2.out.size hb)
          have HK12_3:=Aside0.mk (bkB HK12_2.out hb)
          have HK11_3:=Aside0.mk hbox
          have HG11:=Aside0.mk (show wr.heap.size≤g11 by rw [hg];exact HB2.out.size)
          refine hK.out _ _ (HKEEP.out _ HB3.out) (fun hHeld=>?_)
          clear hK K hb hbox hg
          refine norm_ (a':=?_) ?_ ?_
          rotate_left
          · show Act.put _ (some 11) _ = _
            simp only [List.getElem_toArray,List.getElem_cons_succ,List.getElem_cons_zero,Act.put,List.setIfInBounds_toArray,List.set_cons_zero,List.set_cons_succ,i64_w,i32_w]
            rfl
          exact norm_ (by simp only [putAll,Act.put,List.setIfInBounds_toArray,List.set_cons_zero,List.set_cons_succ]) (hCont (g11,g12) _ ⟨HK11_3.out,HK12_3.out,HB3.out,HG11.out,HG12.out⟩)
        · skip
          refine box_step ?hg (N:=11) ?hd (cs:=#[.int .i64 0,.int .i64 0,.int .i64 0,.int .i64 0,.int .i64 0,.int .i64 0]) (t:=107) ?hr ?_;(case hd=>rfl);(case hg=>rfl);(case hr=>first |(go_simp;done) |(go_simp;rfl))
          intro g11 hg w2 hbox hb
          have HB2:=Aside0.mk (below_then HB1.out HB1.out.size hb)
          have HK12_2:=Aside0.mk (bkB HK12_1.out hb)
          have HK11_2:=Aside0.mk hbox
          have HG11:=Aside0.mk (show wr.heap.size≤g11 by rw [hg];exact HB1.out.size)
          refine hK.out _ _ (HKEEP.out _ HB2.out) (fun hHeld=>?_)
          clear hK K hb hbox hg
          refine norm_ (a':=?_) ?_ ?_
          rotate_left
          · show Act.put _ (some 11) _ = _
            simp only [List.getElem_toArray,List.getElem_cons_succ,List.getElem_cons_zero,Act.put,List.setIfInBounds_toArray,List.set_cons_zero,List.set_cons_succ,i64_w,i32_w]
            rfl
          refine one_ (i:=5) (N:=some 31) #[true,true,true,true,true,true,false,false,false,false,true,true,false,false,false] rfl rfl (by kernel_rfl) (by decide) (fun K hK=>?_)
          refine goes_ Try.func67 (by kernel_rfl) rfl #[.slice A0 l0.length c0,.agg #[.int .i64 P.f0,.int .i64 P.f1,.int .i64 P.f2]] (by rfl) rfl rfl (by(try simp only [List.map_toArray,List.map_cons,List.map_nil]);first | done | rfl) ?_
          refine(HMD.out _ (below_then HS.out.below HS.out.below.size HB2.out)).mono ?_
          rintro e w3 ⟨hb,rfl⟩
          refine⟨_,rfl,?_⟩
          have HB3:=Aside0.mk (below_then HB2.out HB2.out.size hb)
          have HK11_3:=Aside0.mk (bkB HK11_2.out hb)
          have HK12_3:=Aside0.mk (bkB HK12_2.out hb)
          refine hK.out _ _ (HKEEP.out _ HB3.out) (fun hHeld=>?_)
          clear hK K hb
          refine norm_ (a':=?_) ?_ ?_
          rotate_left
          · show Act.put _ (some 31) _ = _
            simp only [List.getElem_toArray,List.getElem_cons_succ,List.getElem_cons_zero,Act.put,List.setIfInBounds_toArray,List.set_cons_zero,List.set_cons_succ,i64_w,i32_w]
            rfl
          refine pure_ (i:=6) (N:=some 25) (v:=?_) (a':=?_) #[true,true,true,true,true,true,true,false,false,false,true,true,false,false,false] rfl rfl (by kernel_rfl) (fun _ _ _ h=>h) (Or.inl ⟨by rfl,?_⟩) ?_ ?_
          rotate_left
          · intro w'
            go_simp
            with_reducible rfl
          rotate_left
          · simp only [List.getElem_toArray, List.getElem_cons_succ, List.getElem_cons_zero, Act.put, List.setIfInBounds_toArray, List.set_cons_zero, List.set_cons_succ, i64_w, i32_w]
            rfl
          refine pure_ (i:=7) (N:=some 32) (v:=?_) (a':=?_) #[true,true,true,true,true,true,true,true,false,false,true,true,false,false,false] rfl rfl (by kernel_rfl) (fun _ _ _ h=>h) (Or.inl ⟨by rfl,?_⟩) ?_ ?_
          rotate_left
          · intro w'
            go_simp
            with_reducible rfl
          rotate_left
          · simp only [List.getElem_toArray, List.getElem_cons_succ, List.getElem_cons_zero, Act.put, List.setIfInBounds_toArray, List.set_cons_zero, List.set_cons_succ, i64_w, i32_w]
            rfl
          refine pure_ (i:=8) (N:=some 33) (v:=?_) (a':=?_) #[true,true,true,true,true,true,true,true,true,false,true,true,false,false,false] rfl rfl (by kernel_rfl) (fun _ _ _ h=>h) (Or.inl ⟨by rfl,?_⟩) ?_ ?_
          rotate_left
          · intro w'
            go_simp
            with_reducible rfl
          rotate_left
          · simp only [List.getElem_toArray, List.getElem_cons_succ, List.getElem_cons_zero, Act.put, List.setIfInBounds_toArray, List.set_cons_zero, List.set_cons_succ, i64_w, i32_w]
            rfl
          refine pure_ (i:=9) (N:=some 34) (v:=?_) (a':=?_) #[true,true,true,true,true,true,true,true,true,true,true,true,false,false,false] rfl rfl (by kernel_rfl) (fun _ _ _ h=>h) (Or.inl ⟨by rfl,?_⟩) ?_ ?_
          rotate_left
          · intro w'
            go_simp
            with_reducible rfl
          rotate_left
          · simp only [List.getElem_toArray, List.getElem_cons_succ, List.getElem_cons_zero, Act.put, List.setIfInBounds_toArray, List.set_cons_zero, List.set_cons_succ, i64_w, i32_w]
            rfl
          exact norm_ (by simp only [putAll,Act.put,List.setIfInBounds_toArray,List.set_cons_zero,List.set_cons_succ]) (hCont (g11,g12) _ ⟨HK11_3.out,HK12_3.out,HB3.out,HG11.out,HG12.out⟩)
    rintro⟨g11,g12⟩ wd ⟨hk11,hk12,hbd,hg11,hg12⟩
    have hne12 : g11≠g12:=fun e=>by rw [e] at hk11;exact absurd (blk_type hk11 hk12) (by decide)
    refine norm_ (a':=?_) ?_ ?_
    rotate_left
    · simp only [putAll, Act.put, List.setIfInBounds_toArray, List.set_cons_zero, List.set_cons_succ]
      rfl
    refine pure_ (i:=12) (N:=some 10) (v:=?_) (a':=?_) #[true,true,true,true,true,true,true,true,true,true,true,true,true,false,false] rfl rfl (by kernel_rfl) (fun _ _ _ h=>h) (Or.inl ⟨by rfl,?_⟩) ?_ ?_
    rotate_left
    · intro w'
      go_simp
      with_reducible rfl
    rotate_left
    · simp only [List.getElem_toArray, List.getElem_cons_succ, List.getElem_cons_zero, Act.put, List.setIfInBounds_toArray, List.set_cons_zero, List.set_cons_succ, i64_w, i32_w]
      rfl
    refine one_ (i:=13) (N:=none) #[true,true,true,true,true,true,true,true,true,true,true,true,true,true,false] rfl rfl (by kernel_rfl) (by decide) (fun K hK=>?_)
    refine skip107 (by rfl) rfl rfl rfl rfl hk11 (fun W1 hW1=>?_)
    have hb1:=hW1.below _ _ hbd hg11
    refine hK.out _ _ (HKEEP.out _ hb1) (fun hHeld=>?_)
    clear hK K
    refine one_ (i:=14) (N:=none) #[true,true,true,true,true,true,true,true,true,true,true,true,true,true,true] rfl rfl (by kernel_rfl) (by decide) (fun K hK=>?_)
    refine skip87 (by rfl) rfl rfl rfl rfl (blk_kept hk12 hW1.kept (Ne.symm hne12)) (fun W2 hW2=>?_)
    have hb2:=hW2.below _ _ hb1 hg12
    refine hK.out _ _ (HKEEP.out _ hb2) (fun hHeld=>?_)
    clear hK K
    refine done_ (by kernel_rfl) ?_
    try go_wp2
    go_meet
    exact⟨g11,rfl,rfl,⟨blk_kept hW1.blk hW2.kept hne12⟩,⟨hb2⟩⟩
  case rest =>
    obtain ⟨g11,rfl,rfl,H11,HBD⟩:=hcut
    have HSX:=Aside0.mk ((HS.out.belowN HBD.out).belowN (bwA (Below.refl _ _) (.cells #[.int .i64 mk,.int .i64 0,.int .i64 0] 39)))
    have HBX:=Aside0.mk (heap_alloc_new wc (.cells #[.int .i64 mk,.int .i64 0,.int .i64 0] 39))
    have H1X:=Aside0.mk (bkB H11.out (bwA (Below.refl _ _) (.cells #[.int .i64 mk,.int .i64 0,.int .i64 0] 39)))
    have HOX:=Aside0.mk (Kd.R_below HOB.out (bwA HBD.out (.cells #[.int .i64 mk,.int .i64 0,.int .i64 0] 39)))
    have HPT:=Aside0.mk (fun W=>loops_hasParts.calls mk 0 0 _ W (hasParts_b ⟨mk,0,0⟩))
    have HGX:=Aside0.mk (show w.heap.size≤wc.heap.size∧wr.heap.size≤wc.heap.size from⟨Nat.le_trans HS.out.below.size HBD.out.size,HBD.out.size⟩)
    have HG1:=HG2.out
    by_cases c4 : mk = 4∨mk = 5
    rotate_left
    · rw [show decide ((⟨mk, 0, 0⟩ : S39).f0 = 4 ∨ (⟨mk, 0, 0⟩ : S39).f0 = 5) = false from decide_eq_false c4] at HPT
      rw [if_neg c4] at HG1
      have HG3:=Aside0.mk HG1
      clear HG1 HG2 c4
      go_wp2_with (first
        |(go_at_call 45;go_must ((with_reducible refine(HPT.out _).mono ?_);rintro e w5 ⟨rfl,hB5⟩;have HS5:=Aside0.mk (HSX.out.belowN hB5);have hb5:=bkB HBX.out hB5;have HO5:=Aside0.mk (Kd.R_below HOX.out hB5);have hc50 : w5.cell? ⟨wc.heap.size,0,none⟩ = some (.int .i64 mk):=(bkC hb5 0).trans rfl;have hc51 : w5.cell? ⟨wc.heap.size,1,none⟩ = some (.int .i64 0):=(bkC hb5 1).trans rfl;have hc52 : w5.cell? ⟨wc.heap.size,2,none⟩ = some (.int .i64 0):=(bkC hb5 2).trans rfl;clear hB5 hb5))
        |((with_reducible refine gate_builtin (b:=.append) (xs:=#[.tmp 49,.tmp 51]) rfl ?_);at_builtin;go_must (
           obtain ⟨v1,wz,hrun,ho,hB1,hgr,hat⟩:=append_one k39 (P:=Try.prog) (w0:=w) (W:=w5) w.heap.size 22 22 39 (.agg #[.int .i64 0,.int .i64 0,.int .i64 0]) 24 Try.underlying22 info39 rfl (by decide) (by omega) (xs:=out) (⟨mk,0,0⟩ : S39) [.int .i64 mk,.int .i64 0,.int .i64 0] (ok:=fun _=>True) (fun _=>False) (k39_mkM _ _ _ _) (fun _ h=>h.elim) (fun _ _=>trivial) (Kd.R_mono HO5.out (fun _ _=>trivial)) HS5.out.below HS5.out.below.size (by have:=HOL.out;omega);have HRUN:=Aside0.mk hrun;have HO1:=Aside0.mk ho;have HS1:=Aside0.mk (LatSt.row_app HS5.out (Kd.R_mono HO5.out (fun _ _=>trivial) : Kd.R k39 39 _ w.heap.size (fun _=>True) _ out) hgr hB1);clear hrun ho hB1 hgr hat;refine wpList_appendRun _ rfl _ _ _ rfl HRUN.out rfl rfl rfl ?_)))
      go_roundg mm
      case measure=>exact HMM.out
      case rel=>exact⟨_,i + 1,_,_,by rw [HW.out],HG3,HS1,HO1⟩
    rw [show decide ((⟨mk,0,0⟩ : S39).f0 = 4 ∨(⟨mk,0,0⟩ : S39).f0 = 5) = true from decide_eq_true c4] at HPT
    rw [if_pos c4] at HG1
    by_cases c5 : okW l0.length m0∧okW l0.length m1
    case neg=>rw [if_neg c5] at HG1;cases HG1
    rw [if_pos c5] at HG1
    have HC5:=Aside0.mk c5
    obtain ⟨n1,hn1⟩ : ∃ n1,n1 = latNs l0 ns m0:=⟨_,rfl⟩
    have HN1:=Aside0.mk (show n1.length≤100000 by rw [hn1];have:=latNs_len l0 ns m0;have:=HNL.out;omega)
    have HF1:=Aside0.mk (fun(W : World) (h : LatSt l0 A0 c0 w.heap.size (w.heap.size + 1 + 1 + 1) (w.heap.size + 1 + 1 + 1 + 1) (w.heap.size + 1 + 1) w W (.slice (some adn) ns.length cn) ns)=>HFND.out W _ ns m0 h HC5.out.1 (by have:=HNL.out;omega))
    obtain ⟨i1,hi1⟩ : ∃ i1,i1 = latIx l0 (latNs l0 ns m0) m0:=⟨_,rfl⟩
    rw [← hi1,← hn1] at HF1
    rw [← hn1] at hi1
    have HF2:=Aside0.mk (fun(W : World) (vn : Value) (h : LatSt l0 A0 c0 w.heap.size (w.heap.size + 1 + 1 + 1) (w.heap.size + 1 + 1 + 1 + 1) (w.heap.size + 1 + 1) w W vn n1)=>HFND.out W vn n1 m1 h HC5.out.2 HN1.out)
    obtain ⟨i2,hi2⟩ : ∃ i2,i2 = latIx l0 (latNs l0 n1 m1) m1:=⟨_,rfl⟩
    rw [← hi2] at HF2
    simp only [] at HG1
    rw [← hn1,← hi1,← hi2] at HG1
    have HG3:=Aside0.mk HG1
    clear HG1 HG2 c4 c5 hn1 hi1 hi2
    go_wp2_with (first
      |(go_at_call 45;go_must ((with_reducible refine(HPT.out _).mono ?_);rintro e w5 ⟨rfl,hB5⟩;have HS5:=Aside0.mk (HSX.out.belowN hB5);have HB5:=Aside0.mk (bkB HBX.out hB5);have HO5:=Aside0.mk (Kd.R_below HOX.out hB5);have h15:=bkB H1X.out hB5;have H15:=Aside0.mk h15;have hc50 : w5.cell? ⟨g11,0,none⟩ = some (.int .i64 m0.f0):=(bkC h15 0).trans rfl;have hc51 : w5.cell? ⟨g11,1,none⟩ = some (.int .i64 m0.f1):=(bkC h15 1).trans rfl;have hc52 : w5.cell? ⟨g11,2,none⟩ = some (.int .i64 m0.f2):=(bkC h15 2).trans rfl;clear hB5 h15))
      | (go_at_call 66; go_must (first
        |((with_reducible refine(HF1.out _ HS5.out).mono ?_);rintro e w6 ⟨rfl,vn6,hS6,hK6⟩;have hb6:=HS5.out.blkT hK6 (by decide) (by decide) HB5.out;have h16:=HS5.out.blkT hK6 (by decide) (by decide) H15.out;have hO6:=HS5.out.row39 hK6 HO5.out;have hc61 : w6.cell? ⟨wc.heap.size,1,none⟩ = some (.int .i64 0):=(bkC hb6 1).trans rfl;have hf61:=bkF hb6 1;have HS6:=Aside0.mk (hS6.box (i:=1) hb6 HGX.out.1 (.int .i64 i1));have hb7 :(w6.setCell ⟨wc.heap.size,1,none⟩ (.int .i64 i1)).heap[wc.heap.size]? = some (.cells #[.int .i64 mk,.int .i64 i1,.int .i64 0] 39 (0,0)):=(by simpa using blk_set hb6 1 (.int .i64 i1));have h17:=blk_far h16 (p:=⟨wc.heap.size,1,none⟩) (blk_ne h16 hb6 (by decide)) (.int .i64 i1);have hc73 :(w6.setCell ⟨wc.heap.size,1,none⟩ (.int .i64 i1)).cell? ⟨g11,3,none⟩ = some (.int .i64 m1.f0):=(bkC h17 3).trans rfl;have hc74 :(w6.setCell ⟨wc.heap.size,1,none⟩ (.int .i64 i1)).cell? ⟨g11,4,none⟩ = some (.int .i64 m1.f1):=(bkC h17 4).trans rfl;have hc75 :(w6.setCell ⟨wc.heap.size,1,none⟩ (.int .i64 i1)).cell? ⟨g11,5,none⟩ = some (.int .i64 m1.f2):=(bkC h17 5).trans rfl;have HO7:=Aside0.mk (Kd.R_far hO6 (p:=⟨wc.heap.size,1,none⟩) (fun k hk=>Nat.ne_of_lt (Nat.lt_of_lt_of_le hk HGX.out.2)) (.int .i64 i1));have HB7:=Aside0.mk hb7;clear hS6 hK6 hb6 hO6 hb7 h16 h17)
        |((with_reducible refine(HF2.out _ _ HS6.out).mono ?_);rintro e w8 ⟨rfl,vn8,hS8,hK8⟩;have hb8:=HS6.out.blkT hK8 (by decide) (by decide) HB7.out;have hO8:=HS6.out.row39 hK8 HO7.out;have hc82 : w8.cell? ⟨wc.heap.size,2,none⟩ = some (.int .i64 0):=(bkC hb8 2).trans rfl;have hf82:=bkF hb8 2;have HS8:=Aside0.mk (hS8.box (i:=2) hb8 HGX.out.1 (.int .i64 i2));have hb9 :(w8.setCell ⟨wc.heap.size,2,none⟩ (.int .i64 i2)).heap[wc.heap.size]? = some (.cells #[.int .i64 mk,.int .i64 i1,.int .i64 i2] 39 (0,0)):=(by simpa using blk_set hb8 2 (.int .i64 i2));have hc90 :(w8.setCell ⟨wc.heap.size,2,none⟩ (.int .i64 i2)).cell? ⟨wc.heap.size,0,none⟩ = some (.int .i64 mk):=(bkC hb9 0).trans rfl;have hc91 :(w8.setCell ⟨wc.heap.size,2,none⟩ (.int .i64 i2)).cell? ⟨wc.heap.size,1,none⟩ = some (.int .i64 i1):=(bkC hb9 1).trans rfl;have hc92 :(w8.setCell ⟨wc.heap.size,2,none⟩ (.int .i64 i2)).cell? ⟨wc.heap.size,2,none⟩ = some (.int .i64 i2):=(bkC hb9 2).trans rfl;have HO9:=Aside0.mk (Kd.R_far hO8 (p:=⟨wc.heap.size,2,none⟩) (fun k hk=>Nat.ne_of_lt (Nat.lt_of_lt_of_le hk HGX.out.2)) (.int .i64 i2));clear hS8 hK8 hb8 hO8 hb9)))
      |((with_reducible refine gate_builtin (b:=.append) (xs:=#[.tmp 49,.tmp 51]) rfl ?_);at_builtin;go_must (
         obtain ⟨v1,wz,hrun,ho,hB1,hgr,hat⟩:=append_one k39 (P:=Try.prog) (w0:=w) (W:=w8.setCell ⟨wc.heap.size,2,none⟩ (.int .i64 i2)) w.heap.size 22 22 39 (.agg #[.int .i64 0,.int .i64 0,.int .i64 0]) 24 Try.underlying22 info39 rfl (by decide) (by omega) (xs:=out) (⟨mk,i1,i2⟩ : S39) [.int .i64 mk,.int .i64 i1,.int .i64 i2] (ok:=fun _=>True) (fun _=>False) (k39_mkM _ _ _ _) (fun _ h=>h.elim) (fun _ _=>trivial) (Kd.R_mono HO9.out (fun _ _=>trivial)) HS8.out.below HS8.out.below.size (by have:=HOL.out;omega);simp only [World.size_setCell] at hrun;have HRUN:=Aside0.mk hrun;have HO1:=Aside0.mk ho;have HS1:=Aside0.mk (LatSt.row_app HS8.out (Kd.R_mono HO9.out (fun _ _=>trivial) : Kd.R k39 39 _ w.heap.size (fun _=>True) _ out) hgr hB1);clear hrun ho hB1 hgr hat;refine wpList_appendRun _ rfl _ _ _ rfl HRUN.out rfl rfl rfl ?_)))
    go_roundg mm
    case measure=>exact HMM.out
    exact⟨_,i + 1,_,_,by rw [HW.out],HG3,HS1,HO1⟩

def loops_lattice.f (k : Nat) (l0 : List S39) (a1_0 a1_1 a1_2 : Int) : Option (List S39) :=
 if l0.length≤1000∧okW l0.length ⟨a1_0,a1_1,a1_2⟩ then(latGo l0 10000 (latNs l0 [] ⟨a1_0,a1_1,a1_2⟩) 0 []).bind fun fin=>loops_canonical.f k fin 0 else none
theorem loops_lattice.calls (k : Nat) (A0 : Option Addr) (c0 : Nat) (l0 : List S39) (a1_0 a1_1 a1_2 : Int) (r : List S39) (w : World) (hr0 : Kd.C k39 w A0 l0.length l0) (hc0 : l0.length ≤ c0) (h : loops_lattice.f k l0 a1_0 a1_1 a1_2 = some r) :
  Calls Try.prog 57 #[.slice A0 l0.length c0,.agg #[.int .i64 a1_0,.int .i64 a1_1,.int .i64 a1_2]] w fun e w'=>∃ v0_ : Value,e = .returned v0_∧Kd.R k39 39 w' w.heap.size (fun _=>True) v0_ r∧Below w.heap.size w w':=by
 unfold loops_lattice.f at h
 split at h
 case isFalse=>cases h
 rename_i hh
 obtain ⟨fin,h1,h2⟩:=Option.bind_eq_some_iff.mp h
 exact lattice_fn.calls k A0 c0 l0 ⟨a1_0,a1_1,a1_2⟩ fin r w hr0 hh.1 hh.2 h1 h2

def loops_Join.f (k : Nat) (l0 : List (S39)) (a1 : Int) (a2 : Int) : Option ((List (S39))×Int):=(loops_areNodes.f k l0 (([a1,a2] : List Int))).bind fun t608=>(if t608 = true then((loops_lattice.f k l0 1 a1 a2).bind fun t609=>(some (t609,0))) else(some (([] : List (S39)),2)))
set_option maxHeartbeats 8000000 in
set_option maxRecDepth 100000 in
theorem loops_Join.calls (k : Nat) (A0 : Option Addr) (c0 : Nat) (l0 : List (S39)) (a1 : Int) (a2 : Int) (r1 : List (S39)) (r2 : Int) (w : World) (hr0 : Kd.C k39 w A0 l0.length l0) (hc0 : l0.length ≤ c0) (h : loops_Join.f k l0 a1 a2 = some (r1, r2)) :
  Calls Try.prog 37 #[.slice A0 l0.length c0,.int .i64 a1,.int .i64 a2] w fun e w'=>∃ v0_ : Value,e = .returned (.tuple #[v0_,.int .i64 r2])∧Kd.R k39 39 w' w.heap.size (fun _=>True) v0_ r1∧Below w.heap.size w w':=by
 have hu87:=Try.underlying87
 have HR0:=Aside0.mk hr0
 have HC0:=Aside0.mk hc0
 clear hr0 hc0
 have HB:=Aside0.mk (Below.refl w.heap.size w)
 have H :((loops_areNodes.f k l0 (([a1,a2] : List Int))).bind fun t608=>(if t608 = true then((loops_lattice.f k l0 1 a1 a2).bind fun t609=>(some (t609,0))) else(some (([] : List (S39)),2)))) = some (r1,r2):=h
 clear h
 obtain ⟨y605,hy605⟩ : ∃ y_ : List Int,y_ =(([a1,a2] : List Int)):=⟨_,rfl⟩
 replace H :((loops_areNodes.f k l0 y605).bind fun t608=>(if t608 = true then((loops_lattice.f k l0 1 a1 a2).bind fun t609=>(some (t609,0))) else(some (([] : List (S39)),2)))) = some (r1,r2):=by first |(rw [hy605];with_reducible exact H) |(have H2_:=(Option.bind_some _ _).symm.trans H;rw [hy605];with_reducible exact H2_) |(have H2_:=(Option.bind_some _ _).symm.trans H;with_reducible exact H2_) | with_reducible exact H |(rw [hy605];exact H) | exact H
 have Ny605:=Aside0.mk hy605
 clear hy605
 replace H:=Option.bind_eq_some_iff.mp H
 obtain ⟨t608,A40,H⟩:=H
 replace H :(if t608 = true then((loops_lattice.f k l0 1 a1 a2).bind fun t609=>(some (t609,0))) else(some (([] : List (S39)),2))) = some (r1,r2):=H
 have A4:=Aside0.mk A40
 clear A40
 by_cases c5 : t608 = true
 rotate_left
 ·replace c5 := Bool.eq_false_iff.mpr c5
  subst c5
  have H1 :(some (([] : List (S39)),2)) = some (r1,r2):=by rw [if_neg (show ¬ (false = true) by decide)] at H;exact H
  clear H
  have H:=H1
  clear H1
  simp only [Option.some.injEq,Prod.mk.injEq] at H
  obtain ⟨rfl,rfl⟩:=H
  go_enter Try.func37,Try.ntmps37
  go_wp2_with (first |((with_reducible refine gate_dst (N:=11) rfl ?_);refine Kd.R_lit (Kd.int .i64) _ 3 ?hg (N:=11) ?hd (xs:=([a1,a2] : List Int)) (inner:=[.int .i64 a1,.int .i64 a2]) (ok:=fun _=>True) (okp:=fun _=>True) ?hr ?hp (fun _ hk=>hk) trivial (Below.refl _ _) (Nat.le_refl _) (by simp) ?_;(case hd=>rfl);(case hg=>rfl);(case hr=>first |(go_simp;done) |(go_simp;rfl));(case hp=>exact(Reps.one (show Kd.M (Kd.int .i64) _ _ _ a1 [.int .i64 a1] from rfl) (Reps.one (show Kd.M (Kd.int .i64) _ _ _ a2 [.int .i64 a2] from rfl) (Reps.none _ _))));intro v606 w12 ho13 hb hg_ hnew_;clear hg_ hnew_;(first | rw [← Ny605.out] at ho13 |(simp only [Int.reduceToNat] at ho13;rw [← Ny605.out] at ho13));have n0_:=Aside0.mk (Kd.R_lower ho13 (bwZ (by repeat(first |(with_reducible first | exact HB.out | apply bwA | apply bwN | apply bw1) | exact HB.out))));have n1_:=Aside0.mk (bwT (by repeat(first |(with_reducible first | exact HB.out | apply bwA | apply bwN | apply bw1) | exact HB.out)) hb);clear HB;have HO607:=n0_;have HB:=n1_;clear n0_ n1_;clear hb ho13;obtain ⟨Ao14,co14,eo14⟩:=Kd.R_slice HO607.out;subst eo14) |((with_reducible refine gate_callee (f:=40) rfl ?_);refine goesL_ (some 12) rfl rfl Try.func40 (by kernel_rfl) rfl #[.slice A0 l0.length c0,.slice Ao14 y605.length co14] rfl (by(try simp only [List.map_toArray,List.map_cons,List.map_nil]);first | done | rfl |(simp only [List.length_drop,List.length_take];rfl)) ?_;(with_reducible refine(loops_areNodes.calls k _ _ l0 _ _ y605 false _ ?side1 ?side2 ?side3 ?side4 A4.out).mono ?_);(case side1=>repeat(first | exact(Kd.C_below HR0.out HB.out) |(with_reducible refine Kd.C_alloc ?_ _) |(with_reducible refine Kd.C_drewN ?_ _) |(with_reducible refine Kd.C_drew ?_)));(case side2=>exact HC0.out);(case side3=>repeat(first | exact(Kd.R_reads' HO607.out).2.2 |(with_reducible refine Kd.C_alloc ?_ _) |(with_reducible refine Kd.C_drewN ?_ _) |(with_reducible refine Kd.C_drew ?_)));(case side4=>exact(Kd.R_reads' HO607.out).2.1);rintro e w15 ⟨rfl,hb⟩;refine⟨_,rfl,?_⟩;have n0_:=Aside0.mk (Kd.R_below (by(with_reducible repeat(first | apply Kd.R_alloc | apply Kd.R_drewN | apply Kd.R_drew));exact HO607.out) hb);have n1_:=Aside0.mk (bwT (by repeat(first |(with_reducible first | exact HB.out | apply bwA | apply bwN | apply bw1) | exact HB.out)) hb);clear HO607;clear HB;have HO607:=n0_;have HB:=n1_;clear n0_ n1_;(try clear hb);(try clear hb2);(try clear hk);(try clear hi)))
  go_ret2
  exact⟨_,by first | rfl |(simp [errW_none,errW_some] <;> rfl) |(simp [*,errW_none,errW_some] <;> rfl),by first | exact Kd.R_nil _ _ _ _ _ | exact Kd.N_nil _ _ _ _ _ | exact Kd.V_nil _ _ _ _ _ | exact Kd.Q_nil _ _ _ _ _ | exact Kd.S_nil _ _ _ _ _,by repeat(first |(with_reducible first | exact HB.out | apply bwA | apply bwN | apply bw1) | exact HB.out)⟩
 subst c5
 have H1 :((loops_lattice.f k l0 1 a1 a2).bind fun t609=>(some (t609,0))) = some (r1,r2):=by rw [if_pos rfl] at H;exact H
 clear H
 have H:=H1
 clear H1
 replace H:=Option.bind_eq_some_iff.mp H
 obtain ⟨t609,A60,H⟩:=H
 replace H :(some (t609,0)) = some (r1,r2):=H
 have A6:=Aside0.mk A60
 clear A60
 simp only [Option.some.injEq,Prod.mk.injEq] at H
 obtain ⟨rfl,rfl⟩:=H
 go_enter Try.func37,Try.ntmps37
 go_wp2_with (first |((with_reducible refine gate_dst (N:=11) rfl ?_);refine Kd.R_lit (Kd.int .i64) _ 3 ?hg (N:=11) ?hd (xs:=([a1,a2] : List Int)) (inner:=[.int .i64 a1,.int .i64 a2]) (ok:=fun _=>True) (okp:=fun _=>True) ?hr ?hp (fun _ hk=>hk) trivial (Below.refl _ _) (Nat.le_refl _) (by simp) ?_;(case hd=>rfl);(case hg=>rfl);(case hr=>first |(go_simp;done) |(go_simp;rfl));(case hp=>exact(Reps.one (show Kd.M (Kd.int .i64) _ _ _ a1 [.int .i64 a1] from rfl) (Reps.one (show Kd.M (Kd.int .i64) _ _ _ a2 [.int .i64 a2] from rfl) (Reps.none _ _))));intro v606 w7 ho8 hb hg_ hnew_;clear hg_ hnew_;(first | rw [← Ny605.out] at ho8 |(simp only [Int.reduceToNat] at ho8;rw [← Ny605.out] at ho8));have n0_:=Aside0.mk (Kd.R_lower ho8 (bwZ (by repeat(first |(with_reducible first | exact HB.out | apply bwA | apply bwN | apply bw1) | exact HB.out))));have n1_:=Aside0.mk (bwT (by repeat(first |(with_reducible first | exact HB.out | apply bwA | apply bwN | apply bw1) | exact HB.out)) hb);clear HB;have HO607:=n0_;have HB:=n1_;clear n0_ n1_;clear hb ho8;obtain ⟨Ao9,co9,eo9⟩:=Kd.R_slice HO607.out;subst eo9) |((with_reducible refine gate_callee (f:=40) rfl ?_);refine goesL_ (some 12) rfl rfl Try.func40 (by kernel_rfl) rfl #[.slice A0 l0.length c0,.slice Ao9 y605.length co9] rfl (by(try simp only [List.map_toArray,List.map_cons,List.map_nil]);first | done | rfl |(simp only [List.length_drop,List.length_take];rfl)) ?_;(with_reducible refine(loops_areNodes.calls k _ _ l0 _ _ y605 true _ ?side1 ?side2 ?side3 ?side4 A4.out).mono ?_);(case side1=>repeat(first | exact(Kd.C_below HR0.out HB.out) |(with_reducible refine Kd.C_alloc ?_ _) |(with_reducible refine Kd.C_drewN ?_ _) |(with_reducible refine Kd.C_drew ?_)));(case side2=>exact HC0.out);(case side3=>repeat(first | exact(Kd.R_reads' HO607.out).2.2 |(with_reducible refine Kd.C_alloc ?_ _) |(with_reducible refine Kd.C_drewN ?_ _) |(with_reducible refine Kd.C_drew ?_)));(case side4=>exact(Kd.R_reads' HO607.out).2.1);rintro e w10 ⟨rfl,hb⟩;refine⟨_,rfl,?_⟩;have n0_:=Aside0.mk (Kd.R_below (by(with_reducible repeat(first | apply Kd.R_alloc | apply Kd.R_drewN | apply Kd.R_drew));exact HO607.out) hb);have n1_:=Aside0.mk (bwT (by repeat(first |(with_reducible first | exact HB.out | apply bwA | apply bwN | apply bw1) | exact HB.out)) hb);clear HO607;clear HB;have HO607:=n0_;have HB:=n1_;clear n0_ n1_;(try clear hb);(try clear hb2);(try clear hk);(try clear hi)) |((with_reducible refine gate_callee (f:=57) rfl ?_);refine goesL_ (some 18) rfl rfl Try.func57 (by kernel_rfl) rfl #[.slice A0 l0.length c0,.agg #[.int .i64 1,.int .i64 a1,.int .i64 a2]] rfl (by(try simp only [List.map_toArray,List.map_cons,List.map_nil]);first | done | rfl |(simp only [List.length_drop,List.length_take];rfl)) ?_;(with_reducible refine(loops_lattice.calls k _ _ l0 1 a1 a2 t609 _ ?side1 ?side2 A6.out).mono ?_);(case side1=>repeat(first | exact(Kd.C_below HR0.out HB.out) |(with_reducible refine Kd.C_alloc ?_ _) |(with_reducible refine Kd.C_drewN ?_ _) |(with_reducible refine Kd.C_drew ?_)));(case side2=>exact HC0.out);rintro e w11 ⟨v610,rfl,ho0,hb⟩;refine⟨_,rfl,?_⟩;have n0_:=Aside0.mk (Kd.R_below (by(with_reducible repeat(first | apply Kd.R_alloc | apply Kd.R_drewN | apply Kd.R_drew));exact HO607.out) hb);have n1_:=Aside0.mk (Kd.R_lower ho0 (bwZ (by repeat(first |(with_reducible first | exact HB.out | apply bwA | apply bwN | apply bw1) | exact HB.out))));have n2_:=Aside0.mk (bwT (by repeat(first |(with_reducible first | exact HB.out | apply bwA | apply bwN | apply bw1) | exact HB.out)) hb);clear HO607;clear HB;have HO607:=n0_;have HO611:=n1_;have HB:=n2_;clear n0_ n1_ n2_;(try clear hb);(try clear hb2);(try clear hk);(try clear hi);(try clear ho0)))
 go_ret2
 exact⟨_,by first | rfl |(simp [errW_none,errW_some] <;> rfl) |(simp [*,errW_none,errW_some] <;> rfl),by(with_reducible repeat(first | apply Kd.R_alloc | apply Kd.R_drewN | apply Kd.R_drew));exact HO611.out,by repeat(first |(with_reducible first | exact HB.out | apply bwA | apply bwN | apply bw1) | exact HB.out)⟩

def loops_Meet.f (k : Nat) (l0 : List (S39)) (a1 : Int) (a2 : Int) : Option ((List (S39))×Int):=(loops_areNodes.f k l0 (([a1,a2] : List Int))).bind fun t615=>(if t615 = true then((loops_lattice.f k l0 2 a1 a2).bind fun t616=>(some (t616,0))) else(some (([] : List (S39)),2)))
set_option maxHeartbeats 8000000 in
set_option maxRecDepth 100000 in
theorem loops_Meet.calls (k : Nat) (A0 : Option Addr) (c0 : Nat) (l0 : List (S39)) (a1 : Int) (a2 : Int) (r1 : List (S39)) (r2 : Int) (w : World) (hr0 : Kd.C k39 w A0 l0.length l0) (hc0 : l0.length ≤ c0) (h : loops_Meet.f k l0 a1 a2 = some (r1, r2)) :
  Calls Try.prog 38 #[.slice A0 l0.length c0,.int .i64 a1,.int .i64 a2] w fun e w'=>∃ v0_ : Value,e = .returned (.tuple #[v0_,.int .i64 r2])∧Kd.R k39 39 w' w.heap.size (fun _=>True) v0_ r1∧Below w.heap.size w w':=by
 have hu87:=Try.underlying87
 have HR0:=Aside0.mk hr0
 have HC0:=Aside0.mk hc0
 clear hr0 hc0
 have HB:=Aside0.mk (Below.refl w.heap.size w)
 have H :((loops_areNodes.f k l0 (([a1,a2] : List Int))).bind fun t615=>(if t615 = true then((loops_lattice.f k l0 2 a1 a2).bind fun t616=>(some (t616,0))) else(some (([] : List (S39)),2)))) = some (r1,r2):=h
 clear h
 obtain ⟨y612,hy612⟩ : ∃ y_ : List Int,y_ =(([a1,a2] : List Int)):=⟨_,rfl⟩
 replace H :((loops_areNodes.f k l0 y612).bind fun t615=>(if t615 = true then((loops_lattice.f k l0 2 a1 a2).bind fun t616=>(some (t616,0))) else(some (([] : List (S39)),2)))) = some (r1,r2):=by first |(rw [hy612];with_reducible exact H) |(have H2_:=(Option.bind_some _ _).symm.trans H;rw [hy612];with_reducible exact H2_) |(have H2_:=(Option.bind_some _ _).symm.trans H;with_reducible exact H2_) | with_reducible exact H |(rw [hy612];exact H) | exact H
 have Ny612:=Aside0.mk hy612
 clear hy612
 replace H:=Option.bind_eq_some_iff.mp H
 obtain ⟨t615,A40,H⟩:=H
 replace H :(if t615 = true then((loops_lattice.f k l0 2 a1 a2).bind fun t616=>(some (t616,0))) else(some (([] : List (S39)),2))) = some (r1,r2):=H
 have A4:=Aside0.mk A40
 clear A40
 by_cases c5 : t615 = true
 rotate_left
 ·replace c5 := Bool.eq_false_iff.mpr c5
  subst c5
  have H1 :(some (([] : List (S39)),2)) = some (r1,r2):=by rw [if_neg (show ¬ (false = true) by decide)] at H;exact H
  clear H
  have H:=H1
  clear H1
  simp only [Option.some.injEq,Prod.mk.injEq] at H
  obtain ⟨rfl,rfl⟩:=H
  go_enter Try.func38,Try.ntmps38
  go_wp2_with (first |((with_reducible refine gate_dst (N:=11) rfl ?_);refine Kd.R_lit (Kd.int .i64) _ 3 ?hg (N:=11) ?hd (xs:=([a1,a2] : List Int)) (inner:=[.int .i64 a1,.int .i64 a2]) (ok:=fun _=>True) (okp:=fun _=>True) ?hr ?hp (fun _ hk=>hk) trivial (Below.refl _ _) (Nat.le_refl _) (by simp) ?_;(case hd=>rfl);(case hg=>rfl);(case hr=>first |(go_simp;done) |(go_simp;rfl));(case hp=>exact(Reps.one (show Kd.M (Kd.int .i64) _ _ _ a1 [.int .i64 a1] from rfl) (Reps.one (show Kd.M (Kd.int .i64) _ _ _ a2 [.int .i64 a2] from rfl) (Reps.none _ _))));intro v613 w12 ho13 hb hg_ hnew_;clear hg_ hnew_;(first | rw [← Ny612.out] at ho13 |(simp only [Int.reduceToNat] at ho13;rw [← Ny612.out] at ho13));have n0_:=Aside0.mk (Kd.R_lower ho13 (bwZ (by repeat(first |(with_reducible first | exact HB.out | apply bwA | apply bwN | apply bw1) | exact HB.out))));have n1_:=Aside0.mk (bwT (by repeat(first |(with_reducible first | exact HB.out | apply bwA | apply bwN | apply bw1) | exact HB.out)) hb);clear HB;have HO614:=n0_;have HB:=n1_;clear n0_ n1_;clear hb ho13;obtain ⟨Ao14,co14,eo14⟩:=Kd.R_slice HO614.out;subst eo14) |((with_reducible refine gate_callee (f:=40) rfl ?_);refine goesL_ (some 12) rfl rfl Try.func40 (by kernel_rfl) rfl #[.slice A0 l0.length c0,.slice Ao14 y612.length co14] rfl (by(try simp only [List.map_toArray,List.map_cons,List.map_nil]);first | done | rfl |(simp only [List.length_drop,List.length_take];rfl)) ?_;(with_reducible refine(loops_areNodes.calls k _ _ l0 _ _ y612 false _ ?side1 ?side2 ?side3 ?side4 A4.out).mono ?_);(case side1=>repeat(first | exact(Kd.C_below HR0.out HB.out) |(with_reducible refine Kd.C_alloc ?_ _) |(with_reducible refine Kd.C_drewN ?_ _) |(with_reducible refine Kd.C_drew ?_)));(case side2=>exact HC0.out);(case side3=>repeat(first | exact(Kd.R_reads' HO614.out).2.2 |(with_reducible refine Kd.C_alloc ?_ _) |(with_reducible refine Kd.C_drewN ?_ _) |(with_reducible refine Kd.C_drew ?_)));(case side4=>exact(Kd.R_reads' HO614.out).2.1);rintro e w15 ⟨rfl,hb⟩;refine⟨_,rfl,?_⟩;have n0_:=Aside0.mk (Kd.R_below (by(with_reducible repeat(first | apply Kd.R_alloc | apply Kd.R_drewN | apply Kd.R_drew));exact HO614.out) hb);have n1_:=Aside0.mk (bwT (by repeat(first |(with_reducible first | exact HB.out | apply bwA | apply bwN | apply bw1) | exact HB.out)) hb);clear HO614;clear HB;have HO614:=n0_;have HB:=n1_;clear n0_ n1_;(try clear hb);(try clear hb2);(try clear hk);(try clear hi)))
  go_ret2
  exact⟨_,by first | rfl |(simp [errW_none,errW_some] <;> rfl) |(simp [*,errW_none,errW_some] <;> rfl),by first | exact Kd.R_nil _ _ _ _ _ | exact Kd.N_nil _ _ _ _ _ | exact Kd.V_nil _ _ _ _ _ | exact Kd.Q_nil _ _ _ _ _ | exact Kd.S_nil _ _ _ _ _,by repeat(first |(with_reducible first | exact HB.out | apply bwA | apply bwN | apply bw1) | exact HB.out)⟩
 subst c5
 have H1 :((loops_lattice.f k l0 2 a1 a2).bind fun t616=>(some (t616,0))) = some (r1,r2):=by rw [if_pos rfl] at H;exact H
 clear H
 have H:=H1
 clear H1
 replace H:=Option.bind_eq_some_iff.mp H
 obtain ⟨t616,A60,H⟩:=H
 replace H :(some (t616,0)) = some (r1,r2):=H
 have A6:=Aside0.mk A60
 clear A60
 simp only [Option.some.injEq,Prod.mk.injEq] at H
 obtain ⟨rfl,rfl⟩:=H
 go_enter Try.func38,Try.ntmps38
 go_wp2_with (first |((with_reducible refine gate_dst (N:=11) rfl ?_);refine Kd.R_lit (Kd.int .i64) _ 3 ?hg (N:=11) ?hd (xs:=([a1,a2] : List Int)) (inner:=[.int .i64 a1,.int .i64 a2]) (ok:=fun _=>True) (okp:=fun _=>True) ?hr ?hp (fun _ hk=>hk) trivial (Below.refl _ _) (Nat.le_refl _) (by simp) ?_;(case hd=>rfl);(case hg=>rfl);(case hr=>first |(go_simp;done) |(go_simp;rfl));(case hp=>exact(Reps.one (show Kd.M (Kd.int .i64) _ _ _ a1 [.int .i64 a1] from rfl) (Reps.one (show Kd.M (Kd.int .i64) _ _ _ a2 [.int .i64 a2] from rfl) (Reps.none _ _))));intro v613 w7 ho8 hb hg_ hnew_;clear hg_ hnew_;(first | rw [← Ny612.out] at ho8 |(simp only [Int.reduceToNat] at ho8;rw [← Ny612.out] at ho8));have n0_:=Aside0.mk (Kd.R_lower ho8 (bwZ (by repeat(first |(with_reducible first | exact HB.out | apply bwA | apply bwN | apply bw1) | exact HB.out))));have n1_:=Aside0.mk (bwT (by repeat(first |(with_reducible first | exact HB.out | apply bwA | apply bwN | apply bw1) | exact HB.out)) hb);clear HB;have HO614:=n0_;have HB:=n1_;clear n0_ n1_;clear hb ho8;obtain ⟨Ao9,co9,eo9⟩:=Kd.R_slice HO614.out;subst eo9) |((with_reducible refine gate_callee (f:=40) rfl ?_);refine goesL_ (some 12) rfl rfl Try.func40 (by kernel_rfl) rfl #[.slice A0 l0.length c0,.slice Ao9 y612.length co9] rfl (by(try simp only [List.map_toArray,List.map_cons,List.map_nil]);first | done | rfl |(simp only [List.length_drop,List.length_take];rfl)) ?_;(with_reducible refine(loops_areNodes.calls k _ _ l0 _ _ y612 true _ ?side1 ?side2 ?side3 ?side4 A4.out).mono ?_);(case side1=>repeat(first | exact(Kd.C_below HR0.out HB.out) |(with_reducible refine Kd.C_alloc ?_ _) |(with_reducible refine Kd.C_drewN ?_ _) |(with_reducible refine Kd.C_drew ?_)));(case side2=>exact HC0.out);(case side3=>repeat(first | exact(Kd.R_reads' HO614.out).2.2 |(with_reducible refine Kd.C_alloc ?_ _) |(with_reducible refine Kd.C_drewN ?_ _) |(with_reducible refine Kd.C_drew ?_)));(case side4=>exact(Kd.R_reads' HO614.out).2.1);rintro e w10 ⟨rfl,hb⟩;refine⟨_,rfl,?_⟩;have n0_:=Aside0.mk (Kd.R_below (by(with_reducible repeat(first | apply Kd.R_alloc | apply Kd.R_drewN | apply Kd.R_drew));exact HO614.out) hb);have n1_:=Aside0.mk (bwT (by repeat(first |(with_reducible first | exact HB.out | apply bwA | apply bwN | apply bw1) | exact HB.out)) hb);clear HO614;clear HB;have HO614:=n0_;have HB:=n1_;clear n0_ n1_;(try clear hb);(try clear hb2);(try clear hk);(try clear hi)) |((with_reducible refine gate_callee (f:=57) rfl ?_);refine goesL_ (some 18) rfl rfl Try.func57 (by kernel_rfl) rfl #[.slice A0 l0.length c0,.agg #[.int .i64 2,.int .i64 a1,.int .i64 a2]] rfl (by(try simp only [List.map_toArray,List.map_cons,List.map_nil]);first | done | rfl |(simp only [List.length_drop,List.length_take];rfl)) ?_;(with_reducible refine(loops_lattice.calls k _ _ l0 2 a1 a2 t616 _ ?side1 ?side2 A6.out).mono ?_);(case side1=>repeat(first | exact(Kd.C_below HR0.out HB.out) |(with_reducible refine Kd.C_alloc ?_ _) |(with_reducible refine Kd.C_drewN ?_ _) |(with_reducible refine Kd.C_drew ?_)));(case side2=>exact HC0.out);rintro e w11 ⟨v617,rfl,ho0,hb⟩;refine⟨_,rfl,?_⟩;have n0_:=Aside0.mk (Kd.R_below (by(with_reducible repeat(first | apply Kd.R_alloc | apply Kd.R_drewN | apply Kd.R_drew));exact HO614.out) hb);have n1_:=Aside0.mk (Kd.R_lower ho0 (bwZ (by repeat(first |(with_reducible first | exact HB.out | apply bwA | apply bwN | apply bw1) | exact HB.out))));have n2_:=Aside0.mk (bwT (by repeat(first |(with_reducible first | exact HB.out | apply bwA | apply bwN | apply bw1) | exact HB.out)) hb);clear HO614;clear HB;have HO614:=n0_;have HO618:=n1_;have HB:=n2_;clear n0_ n1_ n2_;(try clear hb);(try clear hb2);(try clear hk);(try clear hi);(try clear ho0)))
 go_ret2
 exact⟨_,by first | rfl |(simp [errW_none,errW_some] <;> rfl) |(simp [*,errW_none,errW_some] <;> rfl),by(with_reducible repeat(first | apply Kd.R_alloc | apply Kd.R_drewN | apply Kd.R_drew));exact HO618.out,by repeat(first |(with_reducible first | exact HB.out | apply bwA | apply bwN | apply bw1) | exact HB.out)⟩
end Go.Proofs.Ytnfmeafiaipplaa.S
