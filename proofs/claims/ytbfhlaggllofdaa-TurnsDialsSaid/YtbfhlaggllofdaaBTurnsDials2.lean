-- Written by wip/bundle2.py: texts of this claim, one behind the other.
import Derived.Test.YtbfhlaggllofdaaBTurnsDials1
set_option linter.unusedVariables false
set_option linter.unusedSimpArgs false

namespace Go.Proofs.Ytbfhlaggllofdaa.S
open Go.Proofs.Ytbfhlaggllofdaa.Lib
open Go.Maps (Keyed)
open Go.RowKit Go.Proofs.YtbfhlaggllofdaaW.PrintWords Go.Proofs.YtbfhlaggllofdaaW.PrintLast Go.Proofs.YtbfhlaggllofdaaW.PrintMore
attribute [local go_sem] max2_int min2_int max_two min_two max_three min_three max_four min_four
set_option linter.unusedVariables false
set_option linter.unusedSimpArgs false

mutual
def w10_TurnsDials.j0 : Nat → Int → List Int → List Int → List Int → Int → Int → Int → Bool → Option (Bool)
 | 0,_,_,_,_,_,_,_,_=>none
 | k + 1,x1,x7,x8,x9,x10,x11,x12,x57=>if x57 = true then(if(x9.length : Int) = 0 then(if x10 = 2 then(w10_TurnsDials.j1 k x7 x8 x11 x12) else(some false)) else(some false)) else((q10_Setting.f k x7 x1).bind fun t214=>((w10_ints.f k x9 t214).bind fun t217=>(if t217 = true then(if x10 = 0 then(w10_TurnsDials.j1 k x7 x8 x11 x12) else(some false)) else(some false))))
def w10_TurnsDials.j1 : Nat → List Int → List Int → Int → Int → Option (Bool)
 | 0,_,_,_,_=>none
 | k + 1,x7,x8,x11,x12=>(q10_Settings.f k x7 x8).bind fun t218=>(if t218 = true then((q10_SettingAt.f k x7 x8).bind fun t219=>(if x11 = t219 then(if x12 = 0 then((w10_awake.f k).bind fun t220=>(some t220)) else(some false)) else(some false))) else(if x11 = 0 then(if x12 = 2 then((w10_awake.f k).bind fun t221=>(some t221)) else(some false)) else(some false)))
end
def w10_TurnsDials.f (k : Nat) (l0 : List Int) (a1 : Int) (l2 : List Int) : Option (Bool):=(w10_list.f l0).bind fun t199=>((w10_list.f l2).bind fun t202=>((turns_Setting.f t199 a1).bind fun bt205=>((turns_SettingAt.f t199 t202).bind fun bt209=>((q10_Sizes.f k t199).bind fun t211=>(if t211 = true then(if a1 < 0 then(w10_TurnsDials.j0 k a1 t199 t202 bt205.1 bt205.2 bt209.1 bt209.2 true) else((q10_Product.f k t199).bind fun t213=>(w10_TurnsDials.j0 k a1 t199 t202 bt205.1 bt205.2 bt209.1 bt209.2 (decide (a1 ≥ t213))))) else(if(bt205.1.length : Int) = 0 then(if bt205.2 = 2 then(if bt209.1 = 0 then(if bt209.2 = 2 then((w10_awake.f k).bind fun t212=>(some t212)) else(some false)) else(some false)) else(some false)) else(some false)))))))
set_option maxHeartbeats 8000000 in
set_option maxRecDepth 100000 in
theorem w10_TurnsDials.calls (k : Nat) (A0 : Option Addr) (c0 : Nat) (l0 : List Int) (a1 : Int) (A2 : Option Addr) (c2 : Nat) (l2 : List Int) (r : Bool) (w : World) (hr0 : Kd.C (Kd.int .i64) w A0 l0.length l0) (hc0 : l0.length ≤ c0) (hr2 : Kd.C (Kd.int .i64) w A2 l2.length l2) (hc2 : l2.length ≤ c2) (h : w10_TurnsDials.f k l0 a1 l2 = some r) :
  Calls Try.prog 3 #[.slice A0 l0.length c0,.int .i64 a1,.slice A2 l2.length c2] w fun e w'=>e = .returned (.bool r)∧Below w.heap.size w w':=by
 have HR0:=Aside0.mk hr0
 have HC0:=Aside0.mk hc0
 clear hr0 hc0
 have HR2:=Aside0.mk hr2
 have HC2:=Aside0.mk hc2
 clear hr2 hc2
 have HB:=Aside0.mk (Below.refl w.heap.size w)
 have H :((w10_list.f l0).bind fun t199=>((w10_list.f l2).bind fun t202=>((turns_Setting.f t199 a1).bind fun bt205=>((turns_SettingAt.f t199 t202).bind fun bt209=>((q10_Sizes.f k t199).bind fun t211=>(if t211 = true then(if a1 < 0 then(w10_TurnsDials.j0 k a1 t199 t202 bt205.1 bt205.2 bt209.1 bt209.2 true) else((q10_Product.f k t199).bind fun t213=>(w10_TurnsDials.j0 k a1 t199 t202 bt205.1 bt205.2 bt209.1 bt209.2 (decide (a1 ≥ t213))))) else(if(bt205.1.length : Int) = 0 then(if bt205.2 = 2 then(if bt209.1 = 0 then(if bt209.2 = 2 then((w10_awake.f k).bind fun t212=>(some t212)) else(some false)) else(some false)) else(some false)) else(some false)))))))) = some r:=h
 clear h
 replace H:=Option.bind_eq_some_iff.mp H
 obtain ⟨t199,A40,H⟩:=H
 replace H :((w10_list.f l2).bind fun t202=>((turns_Setting.f t199 a1).bind fun bt205=>((turns_SettingAt.f t199 t202).bind fun bt209=>((q10_Sizes.f k t199).bind fun t211=>(if t211 = true then(if a1 < 0 then(w10_TurnsDials.j0 k a1 t199 t202 bt205.1 bt205.2 bt209.1 bt209.2 true) else((q10_Product.f k t199).bind fun t213=>(w10_TurnsDials.j0 k a1 t199 t202 bt205.1 bt205.2 bt209.1 bt209.2 (decide (a1 ≥ t213))))) else(if(bt205.1.length : Int) = 0 then(if bt205.2 = 2 then(if bt209.1 = 0 then(if bt209.2 = 2 then((w10_awake.f k).bind fun t212=>(some t212)) else(some false)) else(some false)) else(some false)) else(some false))))))) = some r:=H
 have A4:=Aside0.mk A40
 clear A40
 replace H:=Option.bind_eq_some_iff.mp H
 obtain ⟨t202,A50,H⟩:=H
 replace H :((turns_Setting.f t199 a1).bind fun bt205=>((turns_SettingAt.f t199 t202).bind fun bt209=>((q10_Sizes.f k t199).bind fun t211=>(if t211 = true then(if a1 < 0 then(w10_TurnsDials.j0 k a1 t199 t202 bt205.1 bt205.2 bt209.1 bt209.2 true) else((q10_Product.f k t199).bind fun t213=>(w10_TurnsDials.j0 k a1 t199 t202 bt205.1 bt205.2 bt209.1 bt209.2 (decide (a1 ≥ t213))))) else(if(bt205.1.length : Int) = 0 then(if bt205.2 = 2 then(if bt209.1 = 0 then(if bt209.2 = 2 then((w10_awake.f k).bind fun t212=>(some t212)) else(some false)) else(some false)) else(some false)) else(some false)))))) = some r:=H
 have A5:=Aside0.mk A50
 clear A50
 replace H:=Option.bind_eq_some_iff.mp H
 obtain ⟨⟨t205,t206⟩,A60,H⟩:=H
 replace H :((turns_SettingAt.f t199 t202).bind fun bt209=>((q10_Sizes.f k t199).bind fun t211=>(if t211 = true then(if a1 < 0 then(w10_TurnsDials.j0 k a1 t199 t202 t205 t206 bt209.1 bt209.2 true) else((q10_Product.f k t199).bind fun t213=>(w10_TurnsDials.j0 k a1 t199 t202 t205 t206 bt209.1 bt209.2 (decide (a1 ≥ t213))))) else(if(t205.length : Int) = 0 then(if t206 = 2 then(if bt209.1 = 0 then(if bt209.2 = 2 then((w10_awake.f k).bind fun t212=>(some t212)) else(some false)) else(some false)) else(some false)) else(some false))))) = some r:=H
 have A6:=Aside0.mk A60
 clear A60
 replace H:=Option.bind_eq_some_iff.mp H
 obtain ⟨⟨t209,t210⟩,A70,H⟩:=H
 replace H :((q10_Sizes.f k t199).bind fun t211=>(if t211 = true then(if a1 < 0 then(w10_TurnsDials.j0 k a1 t199 t202 t205 t206 t209 t210 true) else((q10_Product.f k t199).bind fun t213=>(w10_TurnsDials.j0 k a1 t199 t202 t205 t206 t209 t210 (decide (a1 ≥ t213))))) else(if(t205.length : Int) = 0 then(if t206 = 2 then(if t209 = 0 then(if t210 = 2 then((w10_awake.f k).bind fun t212=>(some t212)) else(some false)) else(some false)) else(some false)) else(some false)))) = some r:=H
 have A7:=Aside0.mk A70
 clear A70
 replace H:=Option.bind_eq_some_iff.mp H
 obtain ⟨t211,A80,H⟩:=H
 replace H :(if t211 = true then(if a1 < 0 then(w10_TurnsDials.j0 k a1 t199 t202 t205 t206 t209 t210 true) else((q10_Product.f k t199).bind fun t213=>(w10_TurnsDials.j0 k a1 t199 t202 t205 t206 t209 t210 (decide (a1 ≥ t213))))) else(if(t205.length : Int) = 0 then(if t206 = 2 then(if t209 = 0 then(if t210 = 2 then((w10_awake.f k).bind fun t212=>(some t212)) else(some false)) else(some false)) else(some false)) else(some false))) = some r:=H
 have A8:=Aside0.mk A80
 clear A80
 by_cases c9 : t211 = true
 rotate_left
 ·replace c9 := Bool.eq_false_iff.mpr c9
  subst c9
  have H1 :(if(t205.length : Int) = 0 then(if t206 = 2 then(if t209 = 0 then(if t210 = 2 then((w10_awake.f k).bind fun t212=>(some t212)) else(some false)) else(some false)) else(some false)) else(some false)) = some r:=by rw [if_neg (show ¬ (false = true) by decide)] at H;exact H
  clear H
  have H:=H1
  clear H1
  by_cases c53 :(t205.length : Int) = 0
  rotate_left
  ·rw [if_neg c53] at H
   have c53b0 :((t205.length : Int) == 0) = false:=beq_eq_false_iff_ne.mpr c53
   have c53b1 :((t205.length : Int) != 0) = true:=bne_iff_ne.mpr c53
   have c53b2 : ¬ (t205 = []):=fun h_=>c53 (by rw [h_];rfl)
   obtain rfl:=Option.some.inj H
   go_enter Try.func3,Try.ntmps3
   go_wp2_with (first |((with_reducible refine gate_callee (f:=16) rfl ?_);refine goesL_ (some 14) rfl rfl Try.func16 (by kernel_rfl) rfl #[.slice A0 l0.length c0] rfl (by(try simp only [List.map_toArray,List.map_cons,List.map_nil]);first | done | rfl |(simp only [List.length_drop,List.length_take];rfl)) ?_;(with_reducible refine(w10_list.calls _ _ l0 t199 _ ?side1 ?side2 A4.out).mono ?_);(case side1=>repeat(first | exact HR0.out |(with_reducible refine Kd.C_alloc ?_ _) |(with_reducible refine Kd.C_drewN ?_ _) |(with_reducible refine Kd.C_drew ?_)));(case side2=>exact HC0.out);rintro e w87 ⟨v200,rfl,ho0,hb⟩;refine⟨_,rfl,?_⟩;have n0_:=Aside0.mk (Kd.R_lower ho0 (bwZ (by repeat(first |(with_reducible first | exact HB.out | apply bwA | apply bwN | apply bw1) | exact HB.out))));have n1_:=Aside0.mk (bwT (by repeat(first |(with_reducible first | exact HB.out | apply bwA | apply bwN | apply bw1) | exact HB.out)) hb);clear HB;have HO201:=n0_;have HB:=n1_;clear n0_ n1_;(try clear hb);(try clear hb2);(try clear hk);(try clear hi);(try clear ho0)) |((with_reducible refine gate_callee (f:=16) rfl ?_);refine goesL_ (some 16) rfl rfl Try.func16 (by kernel_rfl) rfl #[.slice A2 l2.length c2] rfl (by(try simp only [List.map_toArray,List.map_cons,List.map_nil]);first | done | rfl |(simp only [List.length_drop,List.length_take];rfl)) ?_;(with_reducible refine(w10_list.calls _ _ l2 t202 _ ?side1 ?side2 A5.out).mono ?_);(case side1=>repeat(first | exact(Kd.C_below HR2.out HB.out) |(with_reducible refine Kd.C_alloc ?_ _) |(with_reducible refine Kd.C_drewN ?_ _) |(with_reducible refine Kd.C_drew ?_)));(case side2=>exact HC2.out);rintro e w88 ⟨v203,rfl,ho0,hb⟩;refine⟨_,rfl,?_⟩;have n0_:=Aside0.mk (Kd.R_elder' (by(with_reducible repeat(first | apply Kd.R_alloc | apply Kd.R_drewN | apply Kd.R_drew));exact HO201.out) (Kd.R_base ho0) hb);have n1_:=Aside0.mk (Kd.R_lower (Kd.R_new' ho0 (Kd.R_lt (by(with_reducible repeat(first | apply Kd.R_alloc | apply Kd.R_drewN | apply Kd.R_drew));exact HO201.out))) (bwZ (by repeat(first |(with_reducible first | exact HB.out | apply bwA | apply bwN | apply bw1) | exact HB.out))));have n2_:=Aside0.mk (bwT (by repeat(first |(with_reducible first | exact HB.out | apply bwA | apply bwN | apply bw1) | exact HB.out)) hb);clear HO201;clear HB;have HO201:=n0_;have HO204:=n1_;have HB:=n2_;clear n0_ n1_ n2_;(try clear hb);(try clear hb2);(try clear hk);(try clear hi);(try clear ho0);obtain ⟨Ao89,co89,eo89⟩:=Kd.R_slice HO201.out;subst eo89) |((with_reducible refine gate_callee (f:=17) rfl ?_);refine goesL_ (some 20) rfl rfl Try.func17 (by kernel_rfl) rfl #[.slice Ao89 t199.length co89,.int .i64 a1] rfl (by(try simp only [List.map_toArray,List.map_cons,List.map_nil]);first | done | rfl |(simp only [List.length_drop,List.length_take];rfl)) ?_;(with_reducible refine(turns_Setting.calls _ _ t199 a1 t205 t206 _ ?side1 ?side2 A6.out).mono ?_);(case side1=>repeat(first | exact(Kd.R_reads' HO201.out).2.2 |(with_reducible refine Kd.C_alloc ?_ _) |(with_reducible refine Kd.C_drewN ?_ _) |(with_reducible refine Kd.C_drew ?_)));(case side2=>exact(Kd.R_reads' HO201.out).2.1);rintro e w90 ⟨v207,rfl,ho0,hb⟩;refine⟨_,rfl,?_⟩;have n0_:=Aside0.mk (Kd.R_elder' (by(with_reducible repeat(first | apply Kd.R_alloc | apply Kd.R_drewN | apply Kd.R_drew));exact HO201.out) (Kd.R_base ho0) hb);have n1_:=Aside0.mk (Kd.R_elder' (by(with_reducible repeat(first | apply Kd.R_alloc | apply Kd.R_drewN | apply Kd.R_drew));exact HO204.out) (Kd.R_base ho0) hb);have n2_:=Aside0.mk (Kd.R_lower (Kd.R_new' (Kd.R_new' ho0 (Kd.R_lt (by(with_reducible repeat(first | apply Kd.R_alloc | apply Kd.R_drewN | apply Kd.R_drew));exact HO201.out))) (Kd.R_lt (by(with_reducible repeat(first | apply Kd.R_alloc | apply Kd.R_drewN | apply Kd.R_drew));exact HO204.out))) (bwZ (by repeat(first |(with_reducible first | exact HB.out | apply bwA | apply bwN | apply bw1) | exact HB.out))));have n3_:=Aside0.mk (bwT (by repeat(first |(with_reducible first | exact HB.out | apply bwA | apply bwN | apply bw1) | exact HB.out)) hb);clear HO201;clear HO204;clear HB;have HO201:=n0_;have HO204:=n1_;have HO208:=n2_;have HB:=n3_;clear n0_ n1_ n2_ n3_;(try clear hb);(try clear hb2);(try clear hk);(try clear hi);(try clear ho0);obtain ⟨Ao91,co91,eo91⟩:=Kd.R_slice HO204.out;subst eo91) |((with_reducible refine gate_callee (f:=18) rfl ?_);refine goesL_ (some 26) rfl rfl Try.func18 (by kernel_rfl) rfl #[.slice Ao89 t199.length co89,.slice Ao91 t202.length co91] rfl (by(try simp only [List.map_toArray,List.map_cons,List.map_nil]);first | done | rfl |(simp only [List.length_drop,List.length_take];rfl)) ?_;(with_reducible refine(turns_SettingAt.calls _ _ t199 _ _ t202 t209 t210 _ ?side1 ?side2 ?side3 ?side4 A7.out).mono ?_);(case side1=>repeat(first | exact(Kd.R_reads' HO201.out).2.2 |(with_reducible refine Kd.C_alloc ?_ _) |(with_reducible refine Kd.C_drewN ?_ _) |(with_reducible refine Kd.C_drew ?_)));(case side2=>exact(Kd.R_reads' HO201.out).2.1);(case side3=>repeat(first | exact(Kd.R_reads' HO204.out).2.2 |(with_reducible refine Kd.C_alloc ?_ _) |(with_reducible refine Kd.C_drewN ?_ _) |(with_reducible refine Kd.C_drew ?_)));(case side4=>exact(Kd.R_reads' HO204.out).2.1);rintro e w92 ⟨rfl,hb⟩;refine⟨_,rfl,?_⟩;have n0_:=Aside0.mk (Kd.R_below (by(with_reducible repeat(first | apply Kd.R_alloc | apply Kd.R_drewN | apply Kd.R_drew));exact HO201.out) hb);have n1_:=Aside0.mk (Kd.R_below (by(with_reducible repeat(first | apply Kd.R_alloc | apply Kd.R_drewN | apply Kd.R_drew));exact HO204.out) hb);have n2_:=Aside0.mk (Kd.R_below (by(with_reducible repeat(first | apply Kd.R_alloc | apply Kd.R_drewN | apply Kd.R_drew));exact HO208.out) hb);have n3_:=Aside0.mk (bwT (by repeat(first |(with_reducible first | exact HB.out | apply bwA | apply bwN | apply bw1) | exact HB.out)) hb);clear HO201;clear HO204;clear HO208;clear HB;have HO201:=n0_;have HO204:=n1_;have HO208:=n2_;have HB:=n3_;clear n0_ n1_ n2_ n3_;(try clear hb);(try clear hb2);(try clear hk);(try clear hi)) |((with_reducible refine gate_callee (f:=19) rfl ?_);refine goesL_ (some 30) rfl rfl Try.func19 (by kernel_rfl) rfl #[.slice Ao89 t199.length co89] rfl (by(try simp only [List.map_toArray,List.map_cons,List.map_nil]);first | done | rfl |(simp only [List.length_drop,List.length_take];rfl)) ?_;(with_reducible refine(q10_Sizes.calls k _ _ t199 false _ ?side1 ?side2 A8.out).mono ?_);(case side1=>repeat(first | exact(Kd.R_reads' HO201.out).2.2 |(with_reducible refine Kd.C_alloc ?_ _) |(with_reducible refine Kd.C_drewN ?_ _) |(with_reducible refine Kd.C_drew ?_)));(case side2=>exact(Kd.R_reads' HO201.out).2.1);rintro e w' ⟨rfl,⟨nd,rfl⟩⟩;refine⟨_,rfl,?_⟩;obtain ⟨Ao93,co93,eo93⟩:=Kd.R_slice HO208.out;subst eo93))
   go_ret
   exact⟨by first | rfl |(simp [errW_none,errW_some] <;> rfl) |(simp [*,errW_none,errW_some] <;> rfl),by repeat(first |(with_reducible first | exact HB.out | apply bwA | apply bwN | apply bw1) | exact HB.out)⟩
  rw [if_pos c53] at H
  have c53b0 :((t205.length : Int) == 0) = true:=beq_iff_eq.mpr c53
  have c53b1 :((t205.length : Int) != 0) = false:=bne_eq_false_iff_eq.mpr c53
  clear c53
  by_cases c54 : t206 = 2
  rotate_left
  ·rw [if_neg c54] at H
   have c54b0 :(t206 == 2) = false:=beq_eq_false_iff_ne.mpr c54
   have c54b1 :(t206 != 2) = true:=bne_iff_ne.mpr c54
   obtain rfl:=Option.some.inj H
   go_enter Try.func3,Try.ntmps3
   go_wp2_with (first |((with_reducible refine gate_callee (f:=16) rfl ?_);refine goesL_ (some 14) rfl rfl Try.func16 (by kernel_rfl) rfl #[.slice A0 l0.length c0] rfl (by(try simp only [List.map_toArray,List.map_cons,List.map_nil]);first | done | rfl |(simp only [List.length_drop,List.length_take];rfl)) ?_;(with_reducible refine(w10_list.calls _ _ l0 t199 _ ?side1 ?side2 A4.out).mono ?_);(case side1=>repeat(first | exact HR0.out |(with_reducible refine Kd.C_alloc ?_ _) |(with_reducible refine Kd.C_drewN ?_ _) |(with_reducible refine Kd.C_drew ?_)));(case side2=>exact HC0.out);rintro e w80 ⟨v200,rfl,ho0,hb⟩;refine⟨_,rfl,?_⟩;have n0_:=Aside0.mk (Kd.R_lower ho0 (bwZ (by repeat(first |(with_reducible first | exact HB.out | apply bwA | apply bwN | apply bw1) | exact HB.out))));have n1_:=Aside0.mk (bwT (by repeat(first |(with_reducible first | exact HB.out | apply bwA | apply bwN | apply bw1) | exact HB.out)) hb);clear HB;have HO201:=n0_;have HB:=n1_;clear n0_ n1_;(try clear hb);(try clear hb2);(try clear hk);(try clear hi);(try clear ho0)) |((with_reducible refine gate_callee (f:=16) rfl ?_);refine goesL_ (some 16) rfl rfl Try.func16 (by kernel_rfl) rfl #[.slice A2 l2.length c2] rfl (by(try simp only [List.map_toArray,List.map_cons,List.map_nil]);first | done | rfl |(simp only [List.length_drop,List.length_take];rfl)) ?_;(with_reducible refine(w10_list.calls _ _ l2 t202 _ ?side1 ?side2 A5.out).mono ?_);(case side1=>repeat(first | exact(Kd.C_below HR2.out HB.out) |(with_reducible refine Kd.C_alloc ?_ _) |(with_reducible refine Kd.C_drewN ?_ _) |(with_reducible refine Kd.C_drew ?_)));(case side2=>exact HC2.out);rintro e w81 ⟨v203,rfl,ho0,hb⟩;refine⟨_,rfl,?_⟩;have n0_:=Aside0.mk (Kd.R_elder' (by(with_reducible repeat(first | apply Kd.R_alloc | apply Kd.R_drewN | apply Kd.R_drew));exact HO201.out) (Kd.R_base ho0) hb);have n1_:=Aside0.mk (Kd.R_lower (Kd.R_new' ho0 (Kd.R_lt (by(with_reducible repeat(first | apply Kd.R_alloc | apply Kd.R_drewN | apply Kd.R_drew));exact HO201.out))) (bwZ (by repeat(first |(with_reducible first | exact HB.out | apply bwA | apply bwN | apply bw1) | exact HB.out))));have n2_:=Aside0.mk (bwT (by repeat(first |(with_reducible first | exact HB.out | apply bwA | apply bwN | apply bw1) | exact HB.out)) hb);clear HO201;clear HB;have HO201:=n0_;have HO204:=n1_;have HB:=n2_;clear n0_ n1_ n2_;(try clear hb);(try clear hb2);(try clear hk);(try clear hi);(try clear ho0);obtain ⟨Ao82,co82,eo82⟩:=Kd.R_slice HO201.out;subst eo82) |((with_reducible refine gate_callee (f:=17) rfl ?_);refine goesL_ (some 20) rfl rfl Try.func17 (by kernel_rfl) rfl #[.slice Ao82 t199.length co82,.int .i64 a1] rfl (by(try simp only [List.map_toArray,List.map_cons,List.map_nil]);first | done | rfl |(simp only [List.length_drop,List.length_take];rfl)) ?_;(with_reducible refine(turns_Setting.calls _ _ t199 a1 t205 t206 _ ?side1 ?side2 A6.out).mono ?_);(case side1=>repeat(first | exact(Kd.R_reads' HO201.out).2.2 |(with_reducible refine Kd.C_alloc ?_ _) |(with_reducible refine Kd.C_drewN ?_ _) |(with_reducible refine Kd.C_drew ?_)));(case side2=>exact(Kd.R_reads' HO201.out).2.1);rintro e w83 ⟨v207,rfl,ho0,hb⟩;refine⟨_,rfl,?_⟩;have n0_:=Aside0.mk (Kd.R_elder' (by(with_reducible repeat(first | apply Kd.R_alloc | apply Kd.R_drewN | apply Kd.R_drew));exact HO201.out) (Kd.R_base ho0) hb);have n1_:=Aside0.mk (Kd.R_elder' (by(with_reducible repeat(first | apply Kd.R_alloc | apply Kd.R_drewN | apply Kd.R_drew));exact HO204.out) (Kd.R_base ho0) hb);have n2_:=Aside0.mk (Kd.R_lower (Kd.R_new' (Kd.R_new' ho0 (Kd.R_lt (by(with_reducible repeat(first | apply Kd.R_alloc | apply Kd.R_drewN | apply Kd.R_drew));exact HO201.out))) (Kd.R_lt (by(with_reducible repeat(first | apply Kd.R_alloc | apply Kd.R_drewN | apply Kd.R_drew));exact HO204.out))) (bwZ (by repeat(first |(with_reducible first | exact HB.out | apply bwA | apply bwN | apply bw1) | exact HB.out))));have n3_:=Aside0.mk (bwT (by repeat(first |(with_reducible first | exact HB.out | apply bwA | apply bwN | apply bw1) | exact HB.out)) hb);clear HO201;clear HO204;clear HB;have HO201:=n0_;have HO204:=n1_;have HO208:=n2_;have HB:=n3_;clear n0_ n1_ n2_ n3_;(try clear hb);(try clear hb2);(try clear hk);(try clear hi);(try clear ho0);obtain ⟨Ao84,co84,eo84⟩:=Kd.R_slice HO204.out;subst eo84) |((with_reducible refine gate_callee (f:=18) rfl ?_);refine goesL_ (some 26) rfl rfl Try.func18 (by kernel_rfl) rfl #[.slice Ao82 t199.length co82,.slice Ao84 t202.length co84] rfl (by(try simp only [List.map_toArray,List.map_cons,List.map_nil]);first | done | rfl |(simp only [List.length_drop,List.length_take];rfl)) ?_;(with_reducible refine(turns_SettingAt.calls _ _ t199 _ _ t202 t209 t210 _ ?side1 ?side2 ?side3 ?side4 A7.out).mono ?_);(case side1=>repeat(first | exact(Kd.R_reads' HO201.out).2.2 |(with_reducible refine Kd.C_alloc ?_ _) |(with_reducible refine Kd.C_drewN ?_ _) |(with_reducible refine Kd.C_drew ?_)));(case side2=>exact(Kd.R_reads' HO201.out).2.1);(case side3=>repeat(first | exact(Kd.R_reads' HO204.out).2.2 |(with_reducible refine Kd.C_alloc ?_ _) |(with_reducible refine Kd.C_drewN ?_ _) |(with_reducible refine Kd.C_drew ?_)));(case side4=>exact(Kd.R_reads' HO204.out).2.1);rintro e w85 ⟨rfl,hb⟩;refine⟨_,rfl,?_⟩;have n0_:=Aside0.mk (Kd.R_below (by(with_reducible repeat(first | apply Kd.R_alloc | apply Kd.R_drewN | apply Kd.R_drew));exact HO201.out) hb);have n1_:=Aside0.mk (Kd.R_below (by(with_reducible repeat(first | apply Kd.R_alloc | apply Kd.R_drewN | apply Kd.R_drew));exact HO204.out) hb);have n2_:=Aside0.mk (Kd.R_below (by(with_reducible repeat(first | apply Kd.R_alloc | apply Kd.R_drewN | apply Kd.R_drew));exact HO208.out) hb);have n3_:=Aside0.mk (bwT (by repeat(first |(with_reducible first | exact HB.out | apply bwA | apply bwN | apply bw1) | exact HB.out)) hb);clear HO201;clear HO204;clear HO208;clear HB;have HO201:=n0_;have HO204:=n1_;have HO208:=n2_;have HB:=n3_;clear n0_ n1_ n2_ n3_;(try clear hb);(try clear hb2);(try clear hk);(try clear hi)) |((with_reducible refine gate_callee (f:=19) rfl ?_);refine goesL_ (some 30) rfl rfl Try.func19 (by kernel_rfl) rfl #[.slice Ao82 t199.length co82] rfl (by(try simp only [List.map_toArray,List.map_cons,List.map_nil]);first | done | rfl |(simp only [List.length_drop,List.length_take];rfl)) ?_;(with_reducible refine(q10_Sizes.calls k _ _ t199 false _ ?side1 ?side2 A8.out).mono ?_);(case side1=>repeat(first | exact(Kd.R_reads' HO201.out).2.2 |(with_reducible refine Kd.C_alloc ?_ _) |(with_reducible refine Kd.C_drewN ?_ _) |(with_reducible refine Kd.C_drew ?_)));(case side2=>exact(Kd.R_reads' HO201.out).2.1);rintro e w' ⟨rfl,⟨nd,rfl⟩⟩;refine⟨_,rfl,?_⟩;obtain ⟨Ao86,co86,eo86⟩:=Kd.R_slice HO208.out;subst eo86))
   go_ret
   exact⟨by first | rfl |(simp [errW_none,errW_some] <;> rfl) |(simp [*,errW_none,errW_some] <;> rfl),by repeat(first |(with_reducible first | exact HB.out | apply bwA | apply bwN | apply bw1) | exact HB.out)⟩
  rw [if_pos c54] at H
  have c54b0 :(t206 == 2) = true:=beq_iff_eq.mpr c54
  have c54b1 :(t206 != 2) = false:=bne_eq_false_iff_eq.mpr c54
  clear c54
  by_cases c55 : t209 = 0
  rotate_left
  ·rw [if_neg c55] at H
   have c55b0 :(t209 == 0) = false:=beq_eq_false_iff_ne.mpr c55
   have c55b1 :(t209 != 0) = true:=bne_iff_ne.mpr c55
   obtain rfl:=Option.some.inj H
   go_enter Try.func3,Try.ntmps3
   go_wp2_with (first |((with_reducible refine gate_callee (f:=16) rfl ?_);refine goesL_ (some 14) rfl rfl Try.func16 (by kernel_rfl) rfl #[.slice A0 l0.length c0] rfl (by(try simp only [List.map_toArray,List.map_cons,List.map_nil]);first | done | rfl |(simp only [List.length_drop,List.length_take];rfl)) ?_;(with_reducible refine(w10_list.calls _ _ l0 t199 _ ?side1 ?side2 A4.out).mono ?_);(case side1=>repeat(first | exact HR0.out |(with_reducible refine Kd.C_alloc ?_ _) |(with_reducible refine Kd.C_drewN ?_ _) |(with_reducible refine Kd.C_drew ?_)));(case side2=>exact HC0.out);rintro e w73 ⟨v200,rfl,ho0,hb⟩;refine⟨_,rfl,?_⟩;have n0_:=Aside0.mk (Kd.R_lower ho0 (bwZ (by repeat(first |(with_reducible first | exact HB.out | apply bwA | apply bwN | apply bw1) | exact HB.out))));have n1_:=Aside0.mk (bwT (by repeat(first |(with_reducible first | exact HB.out | apply bwA | apply bwN | apply bw1) | exact HB.out)) hb);clear HB;have HO201:=n0_;have HB:=n1_;clear n0_ n1_;(try clear hb);(try clear hb2);(try clear hk);(try clear hi);(try clear ho0)) |((with_reducible refine gate_callee (f:=16) rfl ?_);refine goesL_ (some 16) rfl rfl Try.func16 (by kernel_rfl) rfl #[.slice A2 l2.length c2] rfl (by(try simp only [List.map_toArray,List.map_cons,List.map_nil]);first | done | rfl |(simp only [List.length_drop,List.length_take];rfl)) ?_;(with_reducible refine(w10_list.calls _ _ l2 t202 _ ?side1 ?side2 A5.out).mono ?_);(case side1=>repeat(first | exact(Kd.C_below HR2.out HB.out) |(with_reducible refine Kd.C_alloc ?_ _) |(with_reducible refine Kd.C_drewN ?_ _) |(with_reducible refine Kd.C_drew ?_)));(case side2=>exact HC2.out);rintro e w74 ⟨v203,rfl,ho0,hb⟩;refine⟨_,rfl,?_⟩;have n0_:=Aside0.mk (Kd.R_elder' (by(with_reducible repeat(first | apply Kd.R_alloc | apply Kd.R_drewN | apply Kd.R_drew));exact HO201.out) (Kd.R_base ho0) hb);have n1_:=Aside0.mk (Kd.R_lower (Kd.R_new' ho0 (Kd.R_lt (by(with_reducible repeat(first | apply Kd.R_alloc | apply Kd.R_drewN | apply Kd.R_drew));exact HO201.out))) (bwZ (by repeat(first |(with_reducible first | exact HB.out | apply bwA | apply bwN | apply bw1) | exact HB.out))));have n2_:=Aside0.mk (bwT (by repeat(first |(with_reducible first | exact HB.out | apply bwA | apply bwN | apply bw1) | exact HB.out)) hb);clear HO201;clear HB;have HO201:=n0_;have HO204:=n1_;have HB:=n2_;clear n0_ n1_ n2_;(try clear hb);(try clear hb2);(try clear hk);(try clear hi);(try clear ho0);obtain ⟨Ao75,co75,eo75⟩:=Kd.R_slice HO201.out;subst eo75) |((with_reducible refine gate_callee (f:=17) rfl ?_);refine goesL_ (some 20) rfl rfl Try.func17 (by kernel_rfl) rfl #[.slice Ao75 t199.length co75,.int .i64 a1] rfl (by(try simp only [List.map_toArray,List.map_cons,List.map_nil]);first | done | rfl |(simp only [List.length_drop,List.length_take];rfl)) ?_;(with_reducible refine(turns_Setting.calls _ _ t199 a1 t205 t206 _ ?side1 ?side2 A6.out).mono ?_);(case side1=>repeat(first | exact(Kd.R_reads' HO201.out).2.2 |(with_reducible refine Kd.C_alloc ?_ _) |(with_reducible refine Kd.C_drewN ?_ _) |(with_reducible refine Kd.C_drew ?_)));(case side2=>exact(Kd.R_reads' HO201.out).2.1);rintro e w76 ⟨v207,rfl,ho0,hb⟩;refine⟨_,rfl,?_⟩;have n0_:=Aside0.mk (Kd.R_elder' (by(with_reducible repeat(first | apply Kd.R_alloc | apply Kd.R_drewN | apply Kd.R_drew));exact HO201.out) (Kd.R_base ho0) hb);have n1_:=Aside0.mk (Kd.R_elder' (by(with_reducible repeat(first | apply Kd.R_alloc | apply Kd.R_drewN | apply Kd.R_drew));exact HO204.out) (Kd.R_base ho0) hb);have n2_:=Aside0.mk (Kd.R_lower (Kd.R_new' (Kd.R_new' ho0 (Kd.R_lt (by(with_reducible repeat(first | apply Kd.R_alloc | apply Kd.R_drewN | apply Kd.R_drew));exact HO201.out))) (Kd.R_lt (by(with_reducible repeat(first | apply Kd.R_alloc | apply Kd.R_drewN | apply Kd.R_drew));exact HO204.out))) (bwZ (by repeat(first |(with_reducible first | exact HB.out | apply bwA | apply bwN | apply bw1) | exact HB.out))));have n3_:=Aside0.mk (bwT (by repeat(first |(with_reducible first | exact HB.out | apply bwA | apply bwN | apply bw1) | exact HB.out)) hb);clear HO201;clear HO204;clear HB;have HO201:=n0_;have HO204:=n1_;have HO208:=n2_;have HB:=n3_;clear n0_ n1_ n2_ n3_;(try clear hb);(try clear hb2);(try clear hk);(try clear hi);(try clear ho0);obtain ⟨Ao77,co77,eo77⟩:=Kd.R_slice HO204.out;subst eo77) |((with_reducible refine gate_callee (f:=18) rfl ?_);refine goesL_ (some 26) rfl rfl Try.func18 (by kernel_rfl) rfl #[.slice Ao75 t199.length co75,.slice Ao77 t202.length co77] rfl (by(try simp only [List.map_toArray,List.map_cons,List.map_nil]);first | done | rfl |(simp only [List.length_drop,List.length_take];rfl)) ?_;(with_reducible refine(turns_SettingAt.calls _ _ t199 _ _ t202 t209 t210 _ ?side1 ?side2 ?side3 ?side4 A7.out).mono ?_);(case side1=>repeat(first | exact(Kd.R_reads' HO201.out).2.2 |(with_reducible refine Kd.C_alloc ?_ _) |(with_reducible refine Kd.C_drewN ?_ _) |(with_reducible refine Kd.C_drew ?_)));(case side2=>exact(Kd.R_reads' HO201.out).2.1);(case side3=>repeat(first | exact(Kd.R_reads' HO204.out).2.2 |(with_reducible refine Kd.C_alloc ?_ _) |(with_reducible refine Kd.C_drewN ?_ _) |(with_reducible refine Kd.C_drew ?_)));(case side4=>exact(Kd.R_reads' HO204.out).2.1);rintro e w78 ⟨rfl,hb⟩;refine⟨_,rfl,?_⟩;have n0_:=Aside0.mk (Kd.R_below (by(with_reducible repeat(first | apply Kd.R_alloc | apply Kd.R_drewN | apply Kd.R_drew));exact HO201.out) hb);have n1_:=Aside0.mk (Kd.R_below (by(with_reducible repeat(first | apply Kd.R_alloc | apply Kd.R_drewN | apply Kd.R_drew));exact HO204.out) hb);have n2_:=Aside0.mk (Kd.R_below (by(with_reducible repeat(first | apply Kd.R_alloc | apply Kd.R_drewN | apply Kd.R_drew));exact HO208.out) hb);have n3_:=Aside0.mk (bwT (by repeat(first |(with_reducible first | exact HB.out | apply bwA | apply bwN | apply bw1) | exact HB.out)) hb);clear HO201;clear HO204;clear HO208;clear HB;have HO201:=n0_;have HO204:=n1_;have HO208:=n2_;have HB:=n3_;clear n0_ n1_ n2_ n3_;(try clear hb);(try clear hb2);(try clear hk);(try clear hi)) |((with_reducible refine gate_callee (f:=19) rfl ?_);refine goesL_ (some 30) rfl rfl Try.func19 (by kernel_rfl) rfl #[.slice Ao75 t199.length co75] rfl (by(try simp only [List.map_toArray,List.map_cons,List.map_nil]);first | done | rfl |(simp only [List.length_drop,List.length_take];rfl)) ?_;(with_reducible refine(q10_Sizes.calls k _ _ t199 false _ ?side1 ?side2 A8.out).mono ?_);(case side1=>repeat(first | exact(Kd.R_reads' HO201.out).2.2 |(with_reducible refine Kd.C_alloc ?_ _) |(with_reducible refine Kd.C_drewN ?_ _) |(with_reducible refine Kd.C_drew ?_)));(case side2=>exact(Kd.R_reads' HO201.out).2.1);rintro e w' ⟨rfl,⟨nd,rfl⟩⟩;refine⟨_,rfl,?_⟩;obtain ⟨Ao79,co79,eo79⟩:=Kd.R_slice HO208.out;subst eo79))
   go_ret
   exact⟨by first | rfl |(simp [errW_none,errW_some] <;> rfl) |(simp [*,errW_none,errW_some] <;> rfl),by repeat(first |(with_reducible first | exact HB.out | apply bwA | apply bwN | apply bw1) | exact HB.out)⟩
  rw [if_pos c55] at H
  have c55b0 :(t209 == 0) = true:=beq_iff_eq.mpr c55
  have c55b1 :(t209 != 0) = false:=bne_eq_false_iff_eq.mpr c55
  clear c55
  by_cases c56 : t210 = 2
  rotate_left
  ·rw [if_neg c56] at H
   have c56b0 :(t210 == 2) = false:=beq_eq_false_iff_ne.mpr c56
   have c56b1 :(t210 != 2) = true:=bne_iff_ne.mpr c56
   obtain rfl:=Option.some.inj H
   go_enter Try.func3,Try.ntmps3
   go_wp2_with (first |((with_reducible refine gate_callee (f:=16) rfl ?_);refine goesL_ (some 14) rfl rfl Try.func16 (by kernel_rfl) rfl #[.slice A0 l0.length c0] rfl (by(try simp only [List.map_toArray,List.map_cons,List.map_nil]);first | done | rfl |(simp only [List.length_drop,List.length_take];rfl)) ?_;(with_reducible refine(w10_list.calls _ _ l0 t199 _ ?side1 ?side2 A4.out).mono ?_);(case side1=>repeat(first | exact HR0.out |(with_reducible refine Kd.C_alloc ?_ _) |(with_reducible refine Kd.C_drewN ?_ _) |(with_reducible refine Kd.C_drew ?_)));(case side2=>exact HC0.out);rintro e w66 ⟨v200,rfl,ho0,hb⟩;refine⟨_,rfl,?_⟩;have n0_:=Aside0.mk (Kd.R_lower ho0 (bwZ (by repeat(first |(with_reducible first | exact HB.out | apply bwA | apply bwN | apply bw1) | exact HB.out))));have n1_:=Aside0.mk (bwT (by repeat(first |(with_reducible first | exact HB.out | apply bwA | apply bwN | apply bw1) | exact HB.out)) hb);clear HB;have HO201:=n0_;have HB:=n1_;clear n0_ n1_;(try clear hb);(try clear hb2);(try clear hk);(try clear hi);(try clear ho0)) |((with_reducible refine gate_callee (f:=16) rfl ?_);refine goesL_ (some 16) rfl rfl Try.func16 (by kernel_rfl) rfl #[.slice A2 l2.length c2] rfl (by(try simp only [List.map_toArray,List.map_cons,List.map_nil]);first | done | rfl |(simp only [List.length_drop,List.length_take];rfl)) ?_;(with_reducible refine(w10_list.calls _ _ l2 t202 _ ?side1 ?side2 A5.out).mono ?_);(case side1=>repeat(first | exact(Kd.C_below HR2.out HB.out) |(with_reducible refine Kd.C_alloc ?_ _) |(with_reducible refine Kd.C_drewN ?_ _) |(with_reducible refine Kd.C_drew ?_)));(case side2=>exact HC2.out);rintro e w67 ⟨v203,rfl,ho0,hb⟩;refine⟨_,rfl,?_⟩;have n0_:=Aside0.mk (Kd.R_elder' (by(with_reducible repeat(first | apply Kd.R_alloc | apply Kd.R_drewN | apply Kd.R_drew));exact HO201.out) (Kd.R_base ho0) hb);have n1_:=Aside0.mk (Kd.R_lower (Kd.R_new' ho0 (Kd.R_lt (by(with_reducible repeat(first | apply Kd.R_alloc | apply Kd.R_drewN | apply Kd.R_drew));exact HO201.out))) (bwZ (by repeat(first |(with_reducible first | exact HB.out | apply bwA | apply bwN | apply bw1) | exact HB.out))));have n2_:=Aside0.mk (bwT (by repeat(first |(with_reducible first | exact HB.out | apply bwA | apply bwN | apply bw1) | exact HB.out)) hb);clear HO201;clear HB;have HO201:=n0_;have HO204:=n1_;have HB:=n2_;clear n0_ n1_ n2_;(try clear hb);(try clear hb2);(try clear hk);(try clear hi);(try clear ho0);obtain ⟨Ao68,co68,eo68⟩:=Kd.R_slice HO201.out;subst eo68) |((with_reducible refine gate_callee (f:=17) rfl ?_);refine goesL_ (some 20) rfl rfl Try.func17 (by kernel_rfl) rfl #[.slice Ao68 t199.length co68,.int .i64 a1] rfl (by(try simp only [List.map_toArray,List.map_cons,List.map_nil]);first | done | rfl |(simp only [List.length_drop,List.length_take];rfl)) ?_;(with_reducible refine(turns_Setting.calls _ _ t199 a1 t205 t206 _ ?side1 ?side2 A6.out).mono ?_);(case side1=>repeat(first | exact(Kd.R_reads' HO201.out).2.2 |(with_reducible refine Kd.C_alloc ?_ _) |(with_reducible refine Kd.C_drewN ?_ _) |(with_reducible refine Kd.C_drew ?_)));(case side2=>exact(Kd.R_reads' HO201.out).2.1);rintro e w69 ⟨v207,rfl,ho0,hb⟩;refine⟨_,rfl,?_⟩;have n0_:=Aside0.mk (Kd.R_elder' (by(with_reducible repeat(first | apply Kd.R_alloc | apply Kd.R_drewN | apply Kd.R_drew));exact HO201.out) (Kd.R_base ho0) hb);have n1_:=Aside0.mk (Kd.R_elder' (by(with_reducible repeat(first | apply Kd.R_alloc | apply Kd.R_drewN | apply Kd.R_drew));exact HO204.out) (Kd.R_base ho0) hb);have n2_:=Aside0.mk (Kd.R_lower (Kd.R_new' (Kd.R_new' ho0 (Kd.R_lt (by(with_reducible repeat(first | apply Kd.R_alloc | apply Kd.R_drewN | apply Kd.R_drew));exact HO201.out))) (Kd.R_lt (by(with_reducible repeat(first | apply Kd.R_alloc | apply Kd.R_drewN | apply Kd.R_drew));exact HO204.out))) (bwZ (by repeat(first |(with_reducible first | exact HB.out | apply bwA | apply bwN | apply bw1) | exact HB.out))));have n3_:=Aside0.mk (bwT (by repeat(first |(with_reducible first | exact HB.out | apply bwA | apply bwN | apply bw1) | exact HB.out)) hb);clear HO201;clear HO204;clear HB;have HO201:=n0_;have HO204:=n1_;have HO208:=n2_;have HB:=n3_;clear n0_ n1_ n2_ n3_;(try clear hb);(try clear hb2);(try clear hk);(try clear hi);(try clear ho0);obtain ⟨Ao70,co70,eo70⟩:=Kd.R_slice HO204.out;subst eo70) |((with_reducible refine gate_callee (f:=18) rfl ?_);refine goesL_ (some 26) rfl rfl Try.func18 (by kernel_rfl) rfl #[.slice Ao68 t199.length co68,.slice Ao70 t202.length co70] rfl (by(try simp only [List.map_toArray,List.map_cons,List.map_nil]);first | done | rfl |(simp only [List.length_drop,List.length_take];rfl)) ?_;(with_reducible refine(turns_SettingAt.calls _ _ t199 _ _ t202 t209 t210 _ ?side1 ?side2 ?side3 ?side4 A7.out).mono ?_);(case side1=>repeat(first | exact(Kd.R_reads' HO201.out).2.2 |(with_reducible refine Kd.C_alloc ?_ _) |(with_reducible refine Kd.C_drewN ?_ _) |(with_reducible refine Kd.C_drew ?_)));(case side2=>exact(Kd.R_reads' HO201.out).2.1);(case side3=>repeat(first | exact(Kd.R_reads' HO204.out).2.2 |(with_reducible refine Kd.C_alloc ?_ _) |(with_reducible refine Kd.C_drewN ?_ _) |(with_reducible refine Kd.C_drew ?_)));(case side4=>exact(Kd.R_reads' HO204.out).2.1);rintro e w71 ⟨rfl,hb⟩;refine⟨_,rfl,?_⟩;have n0_:=Aside0.mk (Kd.R_below (by(with_reducible repeat(first | apply Kd.R_alloc | apply Kd.R_drewN | apply Kd.R_drew));exact HO201.out) hb);have n1_:=Aside0.mk (Kd.R_below (by(with_reducible repeat(first | apply Kd.R_alloc | apply Kd.R_drewN | apply Kd.R_drew));exact HO204.out) hb);have n2_:=Aside0.mk (Kd.R_below (by(with_reducible repeat(first | apply Kd.R_alloc | apply Kd.R_drewN | apply Kd.R_drew));exact HO208.out) hb);have n3_:=Aside0.mk (bwT (by repeat(first |(with_reducible first | exact HB.out | apply bwA | apply bwN | apply bw1) | exact HB.out)) hb);clear HO201;clear HO204;clear HO208;clear HB;have HO201:=n0_;have HO204:=n1_;have HO208:=n2_;have HB:=n3_;clear n0_ n1_ n2_ n3_;(try clear hb);(try clear hb2);(try clear hk);(try clear hi)) |((with_reducible refine gate_callee (f:=19) rfl ?_);refine goesL_ (some 30) rfl rfl Try.func19 (by kernel_rfl) rfl #[.slice Ao68 t199.length co68] rfl (by(try simp only [List.map_toArray,List.map_cons,List.map_nil]);first | done | rfl |(simp only [List.length_drop,List.length_take];rfl)) ?_;(with_reducible refine(q10_Sizes.calls k _ _ t199 false _ ?side1 ?side2 A8.out).mono ?_);(case side1=>repeat(first | exact(Kd.R_reads' HO201.out).2.2 |(with_reducible refine Kd.C_alloc ?_ _) |(with_reducible refine Kd.C_drewN ?_ _) |(with_reducible refine Kd.C_drew ?_)));(case side2=>exact(Kd.R_reads' HO201.out).2.1);rintro e w' ⟨rfl,⟨nd,rfl⟩⟩;refine⟨_,rfl,?_⟩;obtain ⟨Ao72,co72,eo72⟩:=Kd.R_slice HO208.out;subst eo72))
   go_ret
   exact⟨by first | rfl |(simp [errW_none,errW_some] <;> rfl) |(simp [*,errW_none,errW_some] <;> rfl),by repeat(first |(with_reducible first | exact HB.out | apply bwA | apply bwN | apply bw1) | exact HB.out)⟩
  rw [if_pos c56] at H
  have c56b0 :(t210 == 2) = true:=beq_iff_eq.mpr c56
  have c56b1 :(t210 != 2) = false:=bne_eq_false_iff_eq.mpr c56
  clear c56
  replace H:=Option.bind_eq_some_iff.mp H
  obtain ⟨t212,A570,H⟩:=H
  replace H :(some t212) = some r:=H
  have A57:=Aside0.mk A570
  clear A570
  obtain rfl:=Option.some.inj H
  go_enter Try.func3,Try.ntmps3
  go_wp2_with (first |((with_reducible refine gate_callee (f:=16) rfl ?_);refine goesL_ (some 14) rfl rfl Try.func16 (by kernel_rfl) rfl #[.slice A0 l0.length c0] rfl (by(try simp only [List.map_toArray,List.map_cons,List.map_nil]);first | done | rfl |(simp only [List.length_drop,List.length_take];rfl)) ?_;(with_reducible refine(w10_list.calls _ _ l0 t199 _ ?side1 ?side2 A4.out).mono ?_);(case side1=>repeat(first | exact HR0.out |(with_reducible refine Kd.C_alloc ?_ _) |(with_reducible refine Kd.C_drewN ?_ _) |(with_reducible refine Kd.C_drew ?_)));(case side2=>exact HC0.out);rintro e w58 ⟨v200,rfl,ho0,hb⟩;refine⟨_,rfl,?_⟩;have n0_:=Aside0.mk (Kd.R_lower ho0 (bwZ (by repeat(first |(with_reducible first | exact HB.out | apply bwA | apply bwN | apply bw1) | exact HB.out))));have n1_:=Aside0.mk (bwT (by repeat(first |(with_reducible first | exact HB.out | apply bwA | apply bwN | apply bw1) | exact HB.out)) hb);clear HB;have HO201:=n0_;have HB:=n1_;clear n0_ n1_;(try clear hb);(try clear hb2);(try clear hk);(try clear hi);(try clear ho0)) |((with_reducible refine gate_callee (f:=16) rfl ?_);refine goesL_ (some 16) rfl rfl Try.func16 (by kernel_rfl) rfl #[.slice A2 l2.length c2] rfl (by(try simp only [List.map_toArray,List.map_cons,List.map_nil]);first | done | rfl |(simp only [List.length_drop,List.length_take];rfl)) ?_;(with_reducible refine(w10_list.calls _ _ l2 t202 _ ?side1 ?side2 A5.out).mono ?_);(case side1=>repeat(first | exact(Kd.C_below HR2.out HB.out) |(with_reducible refine Kd.C_alloc ?_ _) |(with_reducible refine Kd.C_drewN ?_ _) |(with_reducible refine Kd.C_drew ?_)));(case side2=>exact HC2.out);rintro e w59 ⟨v203,rfl,ho0,hb⟩;refine⟨_,rfl,?_⟩;have n0_:=Aside0.mk (Kd.R_elder' (by(with_reducible repeat(first | apply Kd.R_alloc | apply Kd.R_drewN | apply Kd.R_drew));exact HO201.out) (Kd.R_base ho0) hb);have n1_:=Aside0.mk (Kd.R_lower (Kd.R_new' ho0 (Kd.R_lt (by(with_reducible repeat(first | apply Kd.R_alloc | apply Kd.R_drewN | apply Kd.R_drew));exact HO201.out))) (bwZ (by repeat(first |(with_reducible first | exact HB.out | apply bwA | apply bwN | apply bw1) | exact HB.out))));have n2_:=Aside0.mk (bwT (by repeat(first |(with_reducible first | exact HB.out | apply bwA | apply bwN | apply bw1) | exact HB.out)) hb);clear HO201;clear HB;have HO201:=n0_;have HO204:=n1_;have HB:=n2_;clear n0_ n1_ n2_;(try clear hb);(try clear hb2);(try clear hk);(try clear hi);(try clear ho0);obtain ⟨Ao60,co60,eo60⟩:=Kd.R_slice HO201.out;subst eo60) |((with_reducible refine gate_callee (f:=17) rfl ?_);refine goesL_ (some 20) rfl rfl Try.func17 (by kernel_rfl) rfl #[.slice Ao60 t199.length co60,.int .i64 a1] rfl (by(try simp only [List.map_toArray,List.map_cons,List.map_nil]);first | done | rfl |(simp only [List.length_drop,List.length_take];rfl)) ?_;(with_reducible refine(turns_Setting.calls _ _ t199 a1 t205 t206 _ ?side1 ?side2 A6.out).mono ?_);(case side1=>repeat(first | exact(Kd.R_reads' HO201.out).2.2 |(with_reducible refine Kd.C_alloc ?_ _) |(with_reducible refine Kd.C_drewN ?_ _) |(with_reducible refine Kd.C_drew ?_)));(case side2=>exact(Kd.R_reads' HO201.out).2.1);rintro e w61 ⟨v207,rfl,ho0,hb⟩;refine⟨_,rfl,?_⟩;have n0_:=Aside0.mk (Kd.R_elder' (by(with_reducible repeat(first | apply Kd.R_alloc | apply Kd.R_drewN | apply Kd.R_drew));exact HO201.out) (Kd.R_base ho0) hb);have n1_:=Aside0.mk (Kd.R_elder' (by(with_reducible repeat(first | apply Kd.R_alloc | apply Kd.R_drewN | apply Kd.R_drew));exact HO204.out) (Kd.R_base ho0) hb);have n2_:=Aside0.mk (Kd.R_lower (Kd.R_new' (Kd.R_new' ho0 (Kd.R_lt (by(with_reducible repeat(first | apply Kd.R_alloc | apply Kd.R_drewN | apply Kd.R_drew));exact HO201.out))) (Kd.R_lt (by(with_reducible repeat(first | apply Kd.R_alloc | apply Kd.R_drewN | apply Kd.R_drew));exact HO204.out))) (bwZ (by repeat(first |(with_reducible first | exact HB.out | apply bwA | apply bwN | apply bw1) | exact HB.out))));have n3_:=Aside0.mk (bwT (by repeat(first |(with_reducible first | exact HB.out | apply bwA | apply bwN | apply bw1) | exact HB.out)) hb);clear HO201;clear HO204;clear HB;have HO201:=n0_;have HO204:=n1_;have HO208:=n2_;have HB:=n3_;clear n0_ n1_ n2_ n3_;(try clear hb);(try clear hb2);(try clear hk);(try clear hi);(try clear ho0);obtain ⟨Ao62,co62,eo62⟩:=Kd.R_slice HO204.out;subst eo62) |((with_reducible refine gate_callee (f:=18) rfl ?_);refine goesL_ (some 26) rfl rfl Try.func18 (by kernel_rfl) rfl #[.slice Ao60 t199.length co60,.slice Ao62 t202.length co62] rfl (by(try simp only [List.map_toArray,List.map_cons,List.map_nil]);first | done | rfl |(simp only [List.length_drop,List.length_take];rfl)) ?_;(with_reducible refine(turns_SettingAt.calls _ _ t199 _ _ t202 t209 t210 _ ?side1 ?side2 ?side3 ?side4 A7.out).mono ?_);(case side1=>repeat(first | exact(Kd.R_reads' HO201.out).2.2 |(with_reducible refine Kd.C_alloc ?_ _) |(with_reducible refine Kd.C_drewN ?_ _) |(with_reducible refine Kd.C_drew ?_)));(case side2=>exact(Kd.R_reads' HO201.out).2.1);(case side3=>repeat(first | exact(Kd.R_reads' HO204.out).2.2 |(with_reducible refine Kd.C_alloc ?_ _) |(with_reducible refine Kd.C_drewN ?_ _) |(with_reducible refine Kd.C_drew ?_)));(case side4=>exact(Kd.R_reads' HO204.out).2.1);rintro e w63 ⟨rfl,hb⟩;refine⟨_,rfl,?_⟩;have n0_:=Aside0.mk (Kd.R_below (by(with_reducible repeat(first | apply Kd.R_alloc | apply Kd.R_drewN | apply Kd.R_drew));exact HO201.out) hb);have n1_:=Aside0.mk (Kd.R_below (by(with_reducible repeat(first | apply Kd.R_alloc | apply Kd.R_drewN | apply Kd.R_drew));exact HO204.out) hb);have n2_:=Aside0.mk (Kd.R_below (by(with_reducible repeat(first | apply Kd.R_alloc | apply Kd.R_drewN | apply Kd.R_drew));exact HO208.out) hb);have n3_:=Aside0.mk (bwT (by repeat(first |(with_reducible first | exact HB.out | apply bwA | apply bwN | apply bw1) | exact HB.out)) hb);clear HO201;clear HO204;clear HO208;clear HB;have HO201:=n0_;have HO204:=n1_;have HO208:=n2_;have HB:=n3_;clear n0_ n1_ n2_ n3_;(try clear hb);(try clear hb2);(try clear hk);(try clear hi)) |((with_reducible refine gate_callee (f:=19) rfl ?_);refine goesL_ (some 30) rfl rfl Try.func19 (by kernel_rfl) rfl #[.slice Ao60 t199.length co60] rfl (by(try simp only [List.map_toArray,List.map_cons,List.map_nil]);first | done | rfl |(simp only [List.length_drop,List.length_take];rfl)) ?_;(with_reducible refine(q10_Sizes.calls k _ _ t199 false _ ?side1 ?side2 A8.out).mono ?_);(case side1=>repeat(first | exact(Kd.R_reads' HO201.out).2.2 |(with_reducible refine Kd.C_alloc ?_ _) |(with_reducible refine Kd.C_drewN ?_ _) |(with_reducible refine Kd.C_drew ?_)));(case side2=>exact(Kd.R_reads' HO201.out).2.1);rintro e w' ⟨rfl,⟨nd,rfl⟩⟩;refine⟨_,rfl,?_⟩;obtain ⟨Ao64,co64,eo64⟩:=Kd.R_slice HO208.out;subst eo64) |(go_at_call 20;(with_reducible refine(w10_awake.calls k  t212 _ A57.out).mono ?_);rintro e w65 ⟨rfl,hb⟩;have n0_:=Aside0.mk (Kd.R_below (by(with_reducible repeat(first | apply Kd.R_alloc | apply Kd.R_drewN | apply Kd.R_drew));exact HO201.out) hb);have n1_:=Aside0.mk (Kd.R_below (by(with_reducible repeat(first | apply Kd.R_alloc | apply Kd.R_drewN | apply Kd.R_drew));exact HO204.out) hb);have n2_:=Aside0.mk (Kd.R_below (by(with_reducible repeat(first | apply Kd.R_alloc | apply Kd.R_drewN | apply Kd.R_drew));exact HO208.out) hb);have n3_:=Aside0.mk (bwT (by repeat(first |(with_reducible first | exact HB.out | apply bwA | apply bwN | apply bw1) | exact HB.out)) hb);clear HO201;clear HO204;clear HO208;clear HB;have HO201:=n0_;have HO204:=n1_;have HO208:=n2_;have HB:=n3_;clear n0_ n1_ n2_ n3_;(try clear hb);(try clear hb2);(try clear hk);(try clear hi)))
  go_ret
  exact⟨by first | rfl |(simp [errW_none,errW_some] <;> rfl) |(simp [*,errW_none,errW_some] <;> rfl),by repeat(first |(with_reducible first | exact HB.out | apply bwA | apply bwN | apply bw1) | exact HB.out)⟩
 subst c9
 have H1 :(if a1 < 0 then(w10_TurnsDials.j0 k a1 t199 t202 t205 t206 t209 t210 true) else((q10_Product.f k t199).bind fun t213=>(w10_TurnsDials.j0 k a1 t199 t202 t205 t206 t209 t210 (decide (a1 ≥ t213))))) = some r:=by rw [if_pos rfl] at H;exact H
 clear H
 have H:=H1
 clear H1
 have HC10:=Aside0.mk H
 clear H
 go_enter Try.func3,Try.ntmps3
 go_upto_region 6 with (first |((with_reducible refine gate_callee (f:=16) rfl ?_);refine goesL_ (some 14) rfl rfl Try.func16 (by kernel_rfl) rfl #[.slice A0 l0.length c0] rfl (by(try simp only [List.map_toArray,List.map_cons,List.map_nil]);first | done | rfl |(simp only [List.length_drop,List.length_take];rfl)) ?_;(with_reducible refine(w10_list.calls _ _ l0 t199 _ ?side1 ?side2 A4.out).mono ?_);(case side1=>repeat(first | exact HR0.out |(with_reducible refine Kd.C_alloc ?_ _) |(with_reducible refine Kd.C_drewN ?_ _) |(with_reducible refine Kd.C_drew ?_)));(case side2=>exact HC0.out);rintro e w11 ⟨v200,rfl,ho0,hb⟩;refine⟨_,rfl,?_⟩;have n0_:=Aside0.mk (Kd.R_lower ho0 (bwZ (by repeat(first |(with_reducible first | exact HB.out | apply bwA | apply bwN | apply bw1) | exact HB.out))));have n1_:=Aside0.mk (bwT (by repeat(first |(with_reducible first | exact HB.out | apply bwA | apply bwN | apply bw1) | exact HB.out)) hb);clear HB;have HO201:=n0_;have HB:=n1_;clear n0_ n1_;(try clear hb);(try clear hb2);(try clear hk);(try clear hi);(try clear ho0)) |((with_reducible refine gate_callee (f:=16) rfl ?_);refine goesL_ (some 16) rfl rfl Try.func16 (by kernel_rfl) rfl #[.slice A2 l2.length c2] rfl (by(try simp only [List.map_toArray,List.map_cons,List.map_nil]);first | done | rfl |(simp only [List.length_drop,List.length_take];rfl)) ?_;(with_reducible refine(w10_list.calls _ _ l2 t202 _ ?side1 ?side2 A5.out).mono ?_);(case side1=>repeat(first | exact(Kd.C_below HR2.out HB.out) |(with_reducible refine Kd.C_alloc ?_ _) |(with_reducible refine Kd.C_drewN ?_ _) |(with_reducible refine Kd.C_drew ?_)));(case side2=>exact HC2.out);rintro e w12 ⟨v203,rfl,ho0,hb⟩;refine⟨_,rfl,?_⟩;have n0_:=Aside0.mk (Kd.R_elder' (by(with_reducible repeat(first | apply Kd.R_alloc | apply Kd.R_drewN | apply Kd.R_drew));exact HO201.out) (Kd.R_base ho0) hb);have n1_:=Aside0.mk (Kd.R_lower (Kd.R_new' ho0 (Kd.R_lt (by(with_reducible repeat(first | apply Kd.R_alloc | apply Kd.R_drewN | apply Kd.R_drew));exact HO201.out))) (bwZ (by repeat(first |(with_reducible first | exact HB.out | apply bwA | apply bwN | apply bw1) | exact HB.out))));have n2_:=Aside0.mk (bwT (by repeat(first |(with_reducible first | exact HB.out | apply bwA | apply bwN | apply bw1) | exact HB.out)) hb);clear HO201;clear HB;have HO201:=n0_;have HO204:=n1_;have HB:=n2_;clear n0_ n1_ n2_;(try clear hb);(try clear hb2);(try clear hk);(try clear hi);(try clear ho0);obtain ⟨Ao13,co13,eo13⟩:=Kd.R_slice HO201.out;subst eo13) |((with_reducible refine gate_callee (f:=17) rfl ?_);refine goesL_ (some 20) rfl rfl Try.func17 (by kernel_rfl) rfl #[.slice Ao13 t199.length co13,.int .i64 a1] rfl (by(try simp only [List.map_toArray,List.map_cons,List.map_nil]);first | done | rfl |(simp only [List.length_drop,List.length_take];rfl)) ?_;(with_reducible refine(turns_Setting.calls _ _ t199 a1 t205 t206 _ ?side1 ?side2 A6.out).mono ?_);(case side1=>repeat(first | exact(Kd.R_reads' HO201.out).2.2 |(with_reducible refine Kd.C_alloc ?_ _) |(with_reducible refine Kd.C_drewN ?_ _) |(with_reducible refine Kd.C_drew ?_)));(case side2=>exact(Kd.R_reads' HO201.out).2.1);rintro e w14 ⟨v207,rfl,ho0,hb⟩;refine⟨_,rfl,?_⟩;have n0_:=Aside0.mk (Kd.R_elder' (by(with_reducible repeat(first | apply Kd.R_alloc | apply Kd.R_drewN | apply Kd.R_drew));exact HO201.out) (Kd.R_base ho0) hb);have n1_:=Aside0.mk (Kd.R_elder' (by(with_reducible repeat(first | apply Kd.R_alloc | apply Kd.R_drewN | apply Kd.R_drew));exact HO204.out) (Kd.R_base ho0) hb);have n2_:=Aside0.mk (Kd.R_lower (Kd.R_new' (Kd.R_new' ho0 (Kd.R_lt (by(with_reducible repeat(first | apply Kd.R_alloc | apply Kd.R_drewN | apply Kd.R_drew));exact HO201.out))) (Kd.R_lt (by(with_reducible repeat(first | apply Kd.R_alloc | apply Kd.R_drewN | apply Kd.R_drew));exact HO204.out))) (bwZ (by repeat(first |(with_reducible first | exact HB.out | apply bwA | apply bwN | apply bw1) | exact HB.out))));have n3_:=Aside0.mk (bwT (by repeat(first |(with_reducible first | exact HB.out | apply bwA | apply bwN | apply bw1) | exact HB.out)) hb);clear HO201;clear HO204;clear HB;have HO201:=n0_;have HO204:=n1_;have HO208:=n2_;have HB:=n3_;clear n0_ n1_ n2_ n3_;(try clear hb);(try clear hb2);(try clear hk);(try clear hi);(try clear ho0);obtain ⟨Ao15,co15,eo15⟩:=Kd.R_slice HO204.out;subst eo15) |((with_reducible refine gate_callee (f:=18) rfl ?_);refine goesL_ (some 26) rfl rfl Try.func18 (by kernel_rfl) rfl #[.slice Ao13 t199.length co13,.slice Ao15 t202.length co15] rfl (by(try simp only [List.map_toArray,List.map_cons,List.map_nil]);first | done | rfl |(simp only [List.length_drop,List.length_take];rfl)) ?_;(with_reducible refine(turns_SettingAt.calls _ _ t199 _ _ t202 t209 t210 _ ?side1 ?side2 ?side3 ?side4 A7.out).mono ?_);(case side1=>repeat(first | exact(Kd.R_reads' HO201.out).2.2 |(with_reducible refine Kd.C_alloc ?_ _) |(with_reducible refine Kd.C_drewN ?_ _) |(with_reducible refine Kd.C_drew ?_)));(case side2=>exact(Kd.R_reads' HO201.out).2.1);(case side3=>repeat(first | exact(Kd.R_reads' HO204.out).2.2 |(with_reducible refine Kd.C_alloc ?_ _) |(with_reducible refine Kd.C_drewN ?_ _) |(with_reducible refine Kd.C_drew ?_)));(case side4=>exact(Kd.R_reads' HO204.out).2.1);rintro e w16 ⟨rfl,hb⟩;refine⟨_,rfl,?_⟩;have n0_:=Aside0.mk (Kd.R_below (by(with_reducible repeat(first | apply Kd.R_alloc | apply Kd.R_drewN | apply Kd.R_drew));exact HO201.out) hb);have n1_:=Aside0.mk (Kd.R_below (by(with_reducible repeat(first | apply Kd.R_alloc | apply Kd.R_drewN | apply Kd.R_drew));exact HO204.out) hb);have n2_:=Aside0.mk (Kd.R_below (by(with_reducible repeat(first | apply Kd.R_alloc | apply Kd.R_drewN | apply Kd.R_drew));exact HO208.out) hb);have n3_:=Aside0.mk (bwT (by repeat(first |(with_reducible first | exact HB.out | apply bwA | apply bwN | apply bw1) | exact HB.out)) hb);clear HO201;clear HO204;clear HO208;clear HB;have HO201:=n0_;have HO204:=n1_;have HO208:=n2_;have HB:=n3_;clear n0_ n1_ n2_ n3_;(try clear hb);(try clear hb2);(try clear hk);(try clear hi)) |((with_reducible refine gate_callee (f:=19) rfl ?_);refine goesL_ (some 30) rfl rfl Try.func19 (by kernel_rfl) rfl #[.slice Ao13 t199.length co13] rfl (by(try simp only [List.map_toArray,List.map_cons,List.map_nil]);first | done | rfl |(simp only [List.length_drop,List.length_take];rfl)) ?_;(with_reducible refine(q10_Sizes.calls k _ _ t199 true _ ?side1 ?side2 A8.out).mono ?_);(case side1=>repeat(first | exact(Kd.R_reads' HO201.out).2.2 |(with_reducible refine Kd.C_alloc ?_ _) |(with_reducible refine Kd.C_drewN ?_ _) |(with_reducible refine Kd.C_drew ?_)));(case side2=>exact(Kd.R_reads' HO201.out).2.1);rintro e w' ⟨rfl,⟨nd,rfl⟩⟩;refine⟨_,rfl,?_⟩))
 (try simp only [Act.put,List.setIfInBounds_toArray,List.set_cons_zero,List.set_cons_succ])
 go_cut [57] (fun v57 wc=>∃ (kq : Nat) (x57_9 : Bool),v57 = .bool x57_9∧Aside0 (w10_TurnsDials.j0 kq a1 t199 t202 t205 t206 t209 t210 x57_9 = some r)∧Aside0 (kq≤k)∧Aside0 (Kd.R (Kd.int .i64) 3 wc w.heap.size (fun k_=>some k_ ≠((.slice Ao15 t202.length co15) : Value).ownBlock∧some k_ ≠(v207 : Value).ownBlock) (.slice Ao13 t199.length co13) t199)∧Aside0 (Kd.R (Kd.int .i64) 3 wc w.heap.size (fun k_=>some k_ ≠((.slice Ao13 t199.length co13) : Value).ownBlock∧some k_ ≠(v207 : Value).ownBlock) (.slice Ao15 t202.length co15) t202)∧Aside0 (Kd.R (Kd.int .i64) 3 wc w.heap.size (fun k_=>some k_ ≠((.slice Ao13 t199.length co13) : Value).ownBlock∧some k_ ≠((.slice Ao15 t202.length co15) : Value).ownBlock) v207 t205)∧Aside0 (Below w.heap.size w wc))
 case first =>
  have H:=HC10.out
  clear HC10
  by_cases c17 : a1 < 0
  ·rw [if_pos c17] at H
   have c17b0 : decide (a1 < 0) = true:=decide_eq_true c17
   clear c17
   (first | rw [c17b0] |(simp only [i64_w,i32_w];rw [c17b0]) | skip)
   have H':=Aside0.mk H
   clear H
   go_wp2
   go_meet
   exact⟨_,(true),(by first | rfl |(simp;done) |(simp [*];done)),H',⟨by first | omega | exact Nat.le_refl _⟩,⟨by(with_reducible repeat(first | apply Kd.R_alloc | apply Kd.R_drewN | apply Kd.R_drew));exact Kd.R_mono HO201.out (fun _ hk=>⟨hk.1.2,hk.2⟩)⟩,⟨by(with_reducible repeat(first | apply Kd.R_alloc | apply Kd.R_drewN | apply Kd.R_drew));exact Kd.R_mono HO204.out (fun _ hk=>⟨hk.1.2,hk.2⟩)⟩,⟨by(with_reducible repeat(first | apply Kd.R_alloc | apply Kd.R_drewN | apply Kd.R_drew));exact Kd.R_mono HO208.out (fun _ hk=>⟨hk.1.2,hk.2⟩)⟩,⟨by repeat(first |(with_reducible first | exact HB.out | apply bwA | apply bwN | apply bw1) | exact HB.out)⟩⟩
  rw [if_neg c17] at H
  have c17b0 : decide (a1 < 0) = false:=decide_eq_false c17
  clear c17
  (first | rw [c17b0] |(simp only [i64_w,i32_w];rw [c17b0]) | skip)
  replace H:=Option.bind_eq_some_iff.mp H
  obtain ⟨t213,A180,H⟩:=H
  replace H :(w10_TurnsDials.j0 k a1 t199 t202 t205 t206 t209 t210 (decide (a1 ≥ t213))) = some r:=H
  have A18:=Aside0.mk A180
  clear A180
  have H':=Aside0.mk H
  clear H
  go_wp2_with (first |(go_at_call 21;(with_reducible refine(q10_Product.calls k _ _ t199 t213 _ ?side1 ?side2 A18.out).mono ?_);(case side1=>repeat(first | exact(Kd.R_reads' HO201.out).2.2 |(with_reducible refine Kd.C_alloc ?_ _) |(with_reducible refine Kd.C_drewN ?_ _) |(with_reducible refine Kd.C_drew ?_)));(case side2=>exact(Kd.R_reads' HO201.out).2.1);rintro e w' ⟨rfl,⟨nd,rfl⟩⟩))
  go_meet
  exact⟨_,(decide (a1 ≥ t213)),(by first | rfl |(simp;done) |(simp [*];done)),H',⟨by first | omega | exact Nat.le_refl _⟩,⟨by(with_reducible repeat(first | apply Kd.R_alloc | apply Kd.R_drewN | apply Kd.R_drew));exact Kd.R_mono HO201.out (fun _ hk=>⟨hk.1.2,hk.2⟩)⟩,⟨by(with_reducible repeat(first | apply Kd.R_alloc | apply Kd.R_drewN | apply Kd.R_drew));exact Kd.R_mono HO204.out (fun _ hk=>⟨hk.1.2,hk.2⟩)⟩,⟨by(with_reducible repeat(first | apply Kd.R_alloc | apply Kd.R_drewN | apply Kd.R_drew));exact Kd.R_mono HO208.out (fun _ hk=>⟨hk.1.2,hk.2⟩)⟩,⟨by repeat(first |(with_reducible first | exact HB.out | apply bwA | apply bwN | apply bw1) | exact HB.out)⟩⟩
 case rest =>
  clear HC10
  try clear c1
  try clear c2
  try clear p2
  try clear c3
  try clear c9
  try clear c16
  try clear c17
  try clear c17b0
  try clear c18
  obtain ⟨kq,x57_9,rfl,HA,HJ9,HO_7,HO_8,HO_9,HB⟩:=hcut
  cases kq with
  | zero=>exact absurd HA.out (by simp [w10_TurnsDials.j0])
  | succ kj9 =>
   have H:=HA.out
   clear HA
   simp only [w10_TurnsDials.j0] at H
   have HC19:=Aside0.mk H
   clear H
   go_upto_if 57 with (fail)
   go_cut [] (fun wc=>∃ (kq : Nat),Aside0 (w10_TurnsDials.j1 kq t199 t202 t209 t210 = some r)∧Aside0 (kq≤kj9)∧Aside0 (Kd.R (Kd.int .i64) 3 wc w.heap.size (fun k_=>some k_ ≠((.slice Ao15 t202.length co15) : Value).ownBlock) (.slice Ao13 t199.length co13) t199)∧Aside0 (Kd.R (Kd.int .i64) 3 wc w.heap.size (fun k_=>some k_ ≠((.slice Ao13 t199.length co13) : Value).ownBlock) (.slice Ao15 t202.length co15) t202)∧Aside0 (Below w.heap.size w wc))
   case first =>
    have H:=HC19.out
    clear HC19
    by_cases c20 : x57_9 = true
    ·subst c20
     have H1 :(if(t205.length : Int) = 0 then(if t206 = 2 then(w10_TurnsDials.j1 kj9 t199 t202 t209 t210) else(some false)) else(some false)) = some r:=by rw [if_pos rfl] at H;exact H
     clear H
     have H:=H1
     clear H1
     by_cases c21 :(t205.length : Int) = 0
     rotate_left
     ·rw [if_neg c21] at H
      have c21b0 :((t205.length : Int) == 0) = false:=beq_eq_false_iff_ne.mpr c21
      have c21b1 :((t205.length : Int) != 0) = true:=bne_iff_ne.mpr c21
      have c21b2 : ¬ (t205 = []):=fun h_=>c21 (by rw [h_];rfl)
      (first | rw [c21b0] |(simp only [i64_w,i32_w];rw [c21b0]) | skip)
      obtain rfl:=Option.some.inj H
      obtain ⟨Ao25,co25,eo25⟩:=Kd.R_slice HO_9.out
      subst eo25
      go_wp2
      go_ret
      exact⟨by first | rfl |(simp [errW_none,errW_some] <;> rfl) |(simp [*,errW_none,errW_some] <;> rfl),by repeat(first |(with_reducible first | exact HB.out | apply bwA | apply bwN | apply bw1) | exact HB.out)⟩
     rw [if_pos c21] at H
     have c21b0 :((t205.length : Int) == 0) = true:=beq_iff_eq.mpr c21
     have c21b1 :((t205.length : Int) != 0) = false:=bne_eq_false_iff_eq.mpr c21
     clear c21
     (first | rw [c21b0] |(simp only [i64_w,i32_w];rw [c21b0]) | skip)
     by_cases c22 : t206 = 2
     rotate_left
     ·rw [if_neg c22] at H
      have c22b0 :(t206 == 2) = false:=beq_eq_false_iff_ne.mpr c22
      have c22b1 :(t206 != 2) = true:=bne_iff_ne.mpr c22
      obtain rfl:=Option.some.inj H
      obtain ⟨Ao24,co24,eo24⟩:=Kd.R_slice HO_9.out
      subst eo24
      go_wp2
      go_ret
      exact⟨by first | rfl |(simp [errW_none,errW_some] <;> rfl) |(simp [*,errW_none,errW_some] <;> rfl),by repeat(first |(with_reducible first | exact HB.out | apply bwA | apply bwN | apply bw1) | exact HB.out)⟩
     rw [if_pos c22] at H
     have c22b0 :(t206 == 2) = true:=beq_iff_eq.mpr c22
     have c22b1 :(t206 != 2) = false:=bne_eq_false_iff_eq.mpr c22
     clear c22
     have H':=Aside0.mk H
     clear H
     obtain ⟨Ao23,co23,eo23⟩:=Kd.R_slice HO_9.out
     subst eo23
     go_wp2
     go_meet
     exact⟨_,H',⟨by have:=HJ9.out;first | omega | exact Nat.le_refl _⟩,⟨by(with_reducible repeat(first | apply Kd.R_alloc | apply Kd.R_drewN | apply Kd.R_drew));exact Kd.R_mono HO_7.out (fun _ hk=>hk.1)⟩,⟨by(with_reducible repeat(first | apply Kd.R_alloc | apply Kd.R_drewN | apply Kd.R_drew));exact Kd.R_mono HO_8.out (fun _ hk=>hk.1)⟩,⟨by repeat(first |(with_reducible first | exact HB.out | apply bwA | apply bwN | apply bw1) | exact HB.out)⟩⟩
    replace c20:=Bool.eq_false_iff.mpr c20
    subst c20
    have H1 :((q10_Setting.f kj9 t199 a1).bind fun t214=>((w10_ints.f kj9 t205 t214).bind fun t217=>(if t217 = true then(if t206 = 0 then(w10_TurnsDials.j1 kj9 t199 t202 t209 t210) else(some false)) else(some false)))) = some r:=by rw [if_neg (show ¬ (false = true) by decide)] at H;exact H
    clear H
    have H:=H1
    clear H1
    replace H:=Option.bind_eq_some_iff.mp H
    obtain ⟨t214,A260,H⟩:=H
    replace H :((w10_ints.f kj9 t205 t214).bind fun t217=>(if t217 = true then(if t206 = 0 then(w10_TurnsDials.j1 kj9 t199 t202 t209 t210) else(some false)) else(some false))) = some r:=H
    have A26:=Aside0.mk A260
    clear A260
    replace H:=Option.bind_eq_some_iff.mp H
    obtain ⟨t217,A270,H⟩:=H
    replace H :(if t217 = true then(if t206 = 0 then(w10_TurnsDials.j1 kj9 t199 t202 t209 t210) else(some false)) else(some false)) = some r:=H
    have A27:=Aside0.mk A270
    clear A270
    by_cases c28 : t217 = true
    rotate_left
    ·replace c28 := Bool.eq_false_iff.mpr c28
     subst c28
     have H1 :(some false) = some r:=by rw [if_neg (show ¬ (false = true) by decide)] at H;exact H
     clear H
     have H:=H1
     clear H1
     obtain rfl:=Option.some.inj H
     go_wp2_with (first |((with_reducible refine gate_callee (f:=23) rfl ?_);refine goesL_ (some 68) rfl rfl Try.func23 (by kernel_rfl) rfl #[.slice Ao13 t199.length co13,.int .i64 a1] rfl (by(try simp only [List.map_toArray,List.map_cons,List.map_nil]);first | done | rfl |(simp only [List.length_drop,List.length_take];rfl)) ?_;(with_reducible refine(q10_Setting.calls kj9 _ _ t199 a1 t214 _ ?side1 ?side2 A26.out).mono ?_);(case side1=>repeat(first | exact(Kd.R_reads' HO_7.out).2.2 |(with_reducible refine Kd.C_alloc ?_ _) |(with_reducible refine Kd.C_drewN ?_ _) |(with_reducible refine Kd.C_drew ?_)));(case side2=>exact(Kd.R_reads' HO_7.out).2.1);rintro e w36 ⟨v215,rfl,ho0,hb⟩;refine⟨_,rfl,?_⟩;have n0_:=Aside0.mk (Kd.R_elder' (by(with_reducible repeat(first | apply Kd.R_alloc | apply Kd.R_drewN | apply Kd.R_drew));exact HO_7.out) (Kd.R_base ho0) hb);have n1_:=Aside0.mk (Kd.R_elder' (by(with_reducible repeat(first | apply Kd.R_alloc | apply Kd.R_drewN | apply Kd.R_drew));exact HO_8.out) (Kd.R_base ho0) hb);have n2_:=Aside0.mk (Kd.R_elder' (by(with_reducible repeat(first | apply Kd.R_alloc | apply Kd.R_drewN | apply Kd.R_drew));exact HO_9.out) (Kd.R_base ho0) hb);have n3_:=Aside0.mk (Kd.R_lower (Kd.R_new' (Kd.R_new' (Kd.R_new' ho0 (Kd.R_lt (by(with_reducible repeat(first | apply Kd.R_alloc | apply Kd.R_drewN | apply Kd.R_drew));exact HO_7.out))) (Kd.R_lt (by(with_reducible repeat(first | apply Kd.R_alloc | apply Kd.R_drewN | apply Kd.R_drew));exact HO_8.out))) (Kd.R_lt (by(with_reducible repeat(first | apply Kd.R_alloc | apply Kd.R_drewN | apply Kd.R_drew));exact HO_9.out))) (bwZ (by repeat(first |(with_reducible first | exact HB.out | apply bwA | apply bwN | apply bw1) | exact HB.out))));have n4_:=Aside0.mk (bwT (by repeat(first |(with_reducible first | exact HB.out | apply bwA | apply bwN | apply bw1) | exact HB.out)) hb);clear HO_7;clear HO_8;clear HO_9;clear HB;have HO_7:=n0_;have HO_8:=n1_;have HO_9:=n2_;have HO216:=n3_;have HB:=n4_;clear n0_ n1_ n2_ n3_ n4_;(try clear hb);(try clear hb2);(try clear hk);(try clear hi);(try clear ho0);obtain ⟨Ao37,co37,eo37⟩:=Kd.R_slice HO_9.out;subst eo37;obtain ⟨Ao38,co38,eo38⟩:=Kd.R_slice HO216.out;subst eo38) |((with_reducible refine gate_callee (f:=22) rfl ?_);refine goesL_ (some 69) rfl rfl Try.func22 (by kernel_rfl) rfl #[.slice Ao37 t205.length co37,.slice Ao38 t214.length co38] rfl (by(try simp only [List.map_toArray,List.map_cons,List.map_nil]);first | done | rfl |(simp only [List.length_drop,List.length_take];rfl)) ?_;(with_reducible refine(w10_ints.calls kj9 _ _ t205 _ _ t214 false _ ?side1 ?side2 ?side3 ?side4 A27.out).mono ?_);(case side1=>repeat(first | exact(Kd.R_reads' HO_9.out).2.2 |(with_reducible refine Kd.C_alloc ?_ _) |(with_reducible refine Kd.C_drewN ?_ _) |(with_reducible refine Kd.C_drew ?_)));(case side2=>exact(Kd.R_reads' HO_9.out).2.1);(case side3=>repeat(first | exact(Kd.R_reads' HO216.out).2.2 |(with_reducible refine Kd.C_alloc ?_ _) |(with_reducible refine Kd.C_drewN ?_ _) |(with_reducible refine Kd.C_drew ?_)));(case side4=>exact(Kd.R_reads' HO216.out).2.1);rintro e w' ⟨rfl,⟨nd,rfl⟩⟩;refine⟨_,rfl,?_⟩))
     go_ret
     exact⟨by first | rfl |(simp [errW_none,errW_some] <;> rfl) |(simp [*,errW_none,errW_some] <;> rfl),by repeat(first |(with_reducible first | exact HB.out | apply bwA | apply bwN | apply bw1) | exact HB.out)⟩
    subst c28
    have H1 :(if t206 = 0 then(w10_TurnsDials.j1 kj9 t199 t202 t209 t210) else(some false)) = some r:=by rw [if_pos rfl] at H;exact H
    clear H
    have H:=H1
    clear H1
    by_cases c29 : t206 = 0
    rotate_left
    ·rw [if_neg c29] at H
     have c29b0 :(t206 == 0) = false:=beq_eq_false_iff_ne.mpr c29
     have c29b1 :(t206 != 0) = true:=bne_iff_ne.mpr c29
     obtain rfl:=Option.some.inj H
     go_wp2_with (first |((with_reducible refine gate_callee (f:=23) rfl ?_);refine goesL_ (some 68) rfl rfl Try.func23 (by kernel_rfl) rfl #[.slice Ao13 t199.length co13,.int .i64 a1] rfl (by(try simp only [List.map_toArray,List.map_cons,List.map_nil]);first | done | rfl |(simp only [List.length_drop,List.length_take];rfl)) ?_;(with_reducible refine(q10_Setting.calls kj9 _ _ t199 a1 t214 _ ?side1 ?side2 A26.out).mono ?_);(case side1=>repeat(first | exact(Kd.R_reads' HO_7.out).2.2 |(with_reducible refine Kd.C_alloc ?_ _) |(with_reducible refine Kd.C_drewN ?_ _) |(with_reducible refine Kd.C_drew ?_)));(case side2=>exact(Kd.R_reads' HO_7.out).2.1);rintro e w33 ⟨v215,rfl,ho0,hb⟩;refine⟨_,rfl,?_⟩;have n0_:=Aside0.mk (Kd.R_elder' (by(with_reducible repeat(first | apply Kd.R_alloc | apply Kd.R_drewN | apply Kd.R_drew));exact HO_7.out) (Kd.R_base ho0) hb);have n1_:=Aside0.mk (Kd.R_elder' (by(with_reducible repeat(first | apply Kd.R_alloc | apply Kd.R_drewN | apply Kd.R_drew));exact HO_8.out) (Kd.R_base ho0) hb);have n2_:=Aside0.mk (Kd.R_elder' (by(with_reducible repeat(first | apply Kd.R_alloc | apply Kd.R_drewN | apply Kd.R_drew));exact HO_9.out) (Kd.R_base ho0) hb);have n3_:=Aside0.mk (Kd.R_lower (Kd.R_new' (Kd.R_new' (Kd.R_new' ho0 (Kd.R_lt (by(with_reducible repeat(first | apply Kd.R_alloc | apply Kd.R_drewN | apply Kd.R_drew));exact HO_7.out))) (Kd.R_lt (by(with_reducible repeat(first | apply Kd.R_alloc | apply Kd.R_drewN | apply Kd.R_drew));exact HO_8.out))) (Kd.R_lt (by(with_reducible repeat(first | apply Kd.R_alloc | apply Kd.R_drewN | apply Kd.R_drew));exact HO_9.out))) (bwZ (by repeat(first |(with_reducible first | exact HB.out | apply bwA | apply bwN | apply bw1) | exact HB.out))));have n4_:=Aside0.mk (bwT (by repeat(first |(with_reducible first | exact HB.out | apply bwA | apply bwN | apply bw1) | exact HB.out)) hb);clear HO_7;clear HO_8;clear HO_9;clear HB;have HO_7:=n0_;have HO_8:=n1_;have HO_9:=n2_;have HO216:=n3_;have HB:=n4_;clear n0_ n1_ n2_ n3_ n4_;(try clear hb);(try clear hb2);(try clear hk);(try clear hi);(try clear ho0);obtain ⟨Ao34,co34,eo34⟩:=Kd.R_slice HO_9.out;subst eo34;obtain ⟨Ao35,co35,eo35⟩:=Kd.R_slice HO216.out;subst eo35) |((with_reducible refine gate_callee (f:=22) rfl ?_);refine goesL_ (some 69) rfl rfl Try.func22 (by kernel_rfl) rfl #[.slice Ao34 t205.length co34,.slice Ao35 t214.length co35] rfl (by(try simp only [List.map_toArray,List.map_cons,List.map_nil]);first | done | rfl |(simp only [List.length_drop,List.length_take];rfl)) ?_;(with_reducible refine(w10_ints.calls kj9 _ _ t205 _ _ t214 true _ ?side1 ?side2 ?side3 ?side4 A27.out).mono ?_);(case side1=>repeat(first | exact(Kd.R_reads' HO_9.out).2.2 |(with_reducible refine Kd.C_alloc ?_ _) |(with_reducible refine Kd.C_drewN ?_ _) |(with_reducible refine Kd.C_drew ?_)));(case side2=>exact(Kd.R_reads' HO_9.out).2.1);(case side3=>repeat(first | exact(Kd.R_reads' HO216.out).2.2 |(with_reducible refine Kd.C_alloc ?_ _) |(with_reducible refine Kd.C_drewN ?_ _) |(with_reducible refine Kd.C_drew ?_)));(case side4=>exact(Kd.R_reads' HO216.out).2.1);rintro e w' ⟨rfl,⟨nd,rfl⟩⟩;refine⟨_,rfl,?_⟩))
     go_ret
     exact⟨by first | rfl |(simp [errW_none,errW_some] <;> rfl) |(simp [*,errW_none,errW_some] <;> rfl),by repeat(first |(with_reducible first | exact HB.out | apply bwA | apply bwN | apply bw1) | exact HB.out)⟩
    rw [if_pos c29] at H
    have c29b0 :(t206 == 0) = true:=beq_iff_eq.mpr c29
    have c29b1 :(t206 != 0) = false:=bne_eq_false_iff_eq.mpr c29
    clear c29
    have H':=Aside0.mk H
    clear H
    go_wp2_with (first |((with_reducible refine gate_callee (f:=23) rfl ?_);refine goesL_ (some 68) rfl rfl Try.func23 (by kernel_rfl) rfl #[.slice Ao13 t199.length co13,.int .i64 a1] rfl (by(try simp only [List.map_toArray,List.map_cons,List.map_nil]);first | done | rfl |(simp only [List.length_drop,List.length_take];rfl)) ?_;(with_reducible refine(q10_Setting.calls kj9 _ _ t199 a1 t214 _ ?side1 ?side2 A26.out).mono ?_);(case side1=>repeat(first | exact(Kd.R_reads' HO_7.out).2.2 |(with_reducible refine Kd.C_alloc ?_ _) |(with_reducible refine Kd.C_drewN ?_ _) |(with_reducible refine Kd.C_drew ?_)));(case side2=>exact(Kd.R_reads' HO_7.out).2.1);rintro e w30 ⟨v215,rfl,ho0,hb⟩;refine⟨_,rfl,?_⟩;have n0_:=Aside0.mk (Kd.R_elder' (by(with_reducible repeat(first | apply Kd.R_alloc | apply Kd.R_drewN | apply Kd.R_drew));exact HO_7.out) (Kd.R_base ho0) hb);have n1_:=Aside0.mk (Kd.R_elder' (by(with_reducible repeat(first | apply Kd.R_alloc | apply Kd.R_drewN | apply Kd.R_drew));exact HO_8.out) (Kd.R_base ho0) hb);have n2_:=Aside0.mk (Kd.R_elder' (by(with_reducible repeat(first | apply Kd.R_alloc | apply Kd.R_drewN | apply Kd.R_drew));exact HO_9.out) (Kd.R_base ho0) hb);have n3_:=Aside0.mk (Kd.R_lower (Kd.R_new' (Kd.R_new' (Kd.R_new' ho0 (Kd.R_lt (by(with_reducible repeat(first | apply Kd.R_alloc | apply Kd.R_drewN | apply Kd.R_drew));exact HO_7.out))) (Kd.R_lt (by(with_reducible repeat(first | apply Kd.R_alloc | apply Kd.R_drewN | apply Kd.R_drew));exact HO_8.out))) (Kd.R_lt (by(with_reducible repeat(first | apply Kd.R_alloc | apply Kd.R_drewN | apply Kd.R_drew));exact HO_9.out))) (bwZ (by repeat(first |(with_reducible first | exact HB.out | apply bwA | apply bwN | apply bw1) | exact HB.out))));have n4_:=Aside0.mk (bwT (by repeat(first |(with_reducible first | exact HB.out | apply bwA | apply bwN | apply bw1) | exact HB.out)) hb);clear HO_7;clear HO_8;clear HO_9;clear HB;have HO_7:=n0_;have HO_8:=n1_;have HO_9:=n2_;have HO216:=n3_;have HB:=n4_;clear n0_ n1_ n2_ n3_ n4_;(try clear hb);(try clear hb2);(try clear hk);(try clear hi);(try clear ho0);obtain ⟨Ao31,co31,eo31⟩:=Kd.R_slice HO_9.out;subst eo31;obtain ⟨Ao32,co32,eo32⟩:=Kd.R_slice HO216.out;subst eo32) |((with_reducible refine gate_callee (f:=22) rfl ?_);refine goesL_ (some 69) rfl rfl Try.func22 (by kernel_rfl) rfl #[.slice Ao31 t205.length co31,.slice Ao32 t214.length co32] rfl (by(try simp only [List.map_toArray,List.map_cons,List.map_nil]);first | done | rfl |(simp only [List.length_drop,List.length_take];rfl)) ?_;(with_reducible refine(w10_ints.calls kj9 _ _ t205 _ _ t214 true _ ?side1 ?side2 ?side3 ?side4 A27.out).mono ?_);(case side1=>repeat(first | exact(Kd.R_reads' HO_9.out).2.2 |(with_reducible refine Kd.C_alloc ?_ _) |(with_reducible refine Kd.C_drewN ?_ _) |(with_reducible refine Kd.C_drew ?_)));(case side2=>exact(Kd.R_reads' HO_9.out).2.1);(case side3=>repeat(first | exact(Kd.R_reads' HO216.out).2.2 |(with_reducible refine Kd.C_alloc ?_ _) |(with_reducible refine Kd.C_drewN ?_ _) |(with_reducible refine Kd.C_drew ?_)));(case side4=>exact(Kd.R_reads' HO216.out).2.1);rintro e w' ⟨rfl,⟨nd,rfl⟩⟩;refine⟨_,rfl,?_⟩))
    go_meet
    exact⟨_,H',⟨by have:=HJ9.out;first | omega | exact Nat.le_refl _⟩,⟨by(with_reducible repeat(first | apply Kd.R_alloc | apply Kd.R_drewN | apply Kd.R_drew));exact Kd.R_mono HO_7.out (fun _ hk=>hk.1.1)⟩,⟨by(with_reducible repeat(first | apply Kd.R_alloc | apply Kd.R_drewN | apply Kd.R_drew));exact Kd.R_mono HO_8.out (fun _ hk=>hk.1.1)⟩,⟨by repeat(first |(with_reducible first | exact HB.out | apply bwA | apply bwN | apply bw1) | exact HB.out)⟩⟩
   case rest =>
    clear HC19
    try clear c1
    try clear c2
    try clear p2
    try clear c3
    try clear c9
    try clear c16
    try clear c17
    try clear c17b0
    try clear c18
    try clear c19
    try clear c20
    try clear c21
    try clear c21b0
    try clear c21b1
    try clear c21b2
    try clear c22
    try clear c22b0
    try clear c22b1
    try clear c23
    try clear c28
    try clear c29
    try clear c29b0
    try clear c29b1
    try clear p2
    obtain ⟨kq,HA,HJ18,HO_7,HO_8,HB⟩:=hcut
    cases kq with
    | zero=>exact absurd HA.out (by simp [w10_TurnsDials.j1])
    | succ kj18 =>
     have H:=HA.out
     clear HA
     simp only [w10_TurnsDials.j1] at H
     replace H:=Option.bind_eq_some_iff.mp H
     obtain ⟨t218,A390,H⟩:=H
     replace H :(if t218 = true then((q10_SettingAt.f kj18 t199 t202).bind fun t219=>(if t209 = t219 then(if t210 = 0 then((w10_awake.f kj18).bind fun t220=>(some t220)) else(some false)) else(some false))) else(if t209 = 0 then(if t210 = 2 then((w10_awake.f kj18).bind fun t221=>(some t221)) else(some false)) else(some false))) = some r:=H
     have A39:=Aside0.mk A390
     clear A390
     by_cases c40 : t218 = true
     rotate_left
     ·replace c40 := Bool.eq_false_iff.mpr c40
      subst c40
      have H1 :(if t209 = 0 then(if t210 = 2 then((w10_awake.f kj18).bind fun t221=>(some t221)) else(some false)) else(some false)) = some r:=by rw [if_neg (show ¬ (false = true) by decide)] at H;exact H
      clear H
      have H:=H1
      clear H1
      by_cases c49 : t209 = 0
      rotate_left
      ·rw [if_neg c49] at H
       have c49b0 :(t209 == 0) = false:=beq_eq_false_iff_ne.mpr c49
       have c49b1 :(t209 != 0) = true:=bne_iff_ne.mpr c49
       obtain rfl:=Option.some.inj H
       go_wp2_with (first |((with_reducible refine gate_callee (f:=24) rfl ?_);refine goesL_ (some 77) rfl rfl Try.func24 (by kernel_rfl) rfl #[.slice Ao13 t199.length co13,.slice Ao15 t202.length co15] rfl (by(try simp only [List.map_toArray,List.map_cons,List.map_nil]);first | done | rfl |(simp only [List.length_drop,List.length_take];rfl)) ?_;(with_reducible refine(q10_Settings.calls kj18 _ _ t199 _ _ t202 false _ ?side1 ?side2 ?side3 ?side4 A39.out).mono ?_);(case side1=>repeat(first | exact(Kd.R_reads' HO_7.out).2.2 |(with_reducible refine Kd.C_alloc ?_ _) |(with_reducible refine Kd.C_drewN ?_ _) |(with_reducible refine Kd.C_drew ?_)));(case side2=>exact(Kd.R_reads' HO_7.out).2.1);(case side3=>repeat(first | exact(Kd.R_reads' HO_8.out).2.2 |(with_reducible refine Kd.C_alloc ?_ _) |(with_reducible refine Kd.C_drewN ?_ _) |(with_reducible refine Kd.C_drew ?_)));(case side4=>exact(Kd.R_reads' HO_8.out).2.1);rintro e w' ⟨rfl,⟨nd,rfl⟩⟩;refine⟨_,rfl,?_⟩))
       go_ret
       exact⟨by first | rfl |(simp [errW_none,errW_some] <;> rfl) |(simp [*,errW_none,errW_some] <;> rfl),by repeat(first |(with_reducible first | exact HB.out | apply bwA | apply bwN | apply bw1) | exact HB.out)⟩
      rw [if_pos c49] at H
      have c49b0 :(t209 == 0) = true:=beq_iff_eq.mpr c49
      have c49b1 :(t209 != 0) = false:=bne_eq_false_iff_eq.mpr c49
      clear c49
      by_cases c50 : t210 = 2
      rotate_left
      ·rw [if_neg c50] at H
       have c50b0 :(t210 == 2) = false:=beq_eq_false_iff_ne.mpr c50
       have c50b1 :(t210 != 2) = true:=bne_iff_ne.mpr c50
       obtain rfl:=Option.some.inj H
       go_wp2_with (first |((with_reducible refine gate_callee (f:=24) rfl ?_);refine goesL_ (some 77) rfl rfl Try.func24 (by kernel_rfl) rfl #[.slice Ao13 t199.length co13,.slice Ao15 t202.length co15] rfl (by(try simp only [List.map_toArray,List.map_cons,List.map_nil]);first | done | rfl |(simp only [List.length_drop,List.length_take];rfl)) ?_;(with_reducible refine(q10_Settings.calls kj18 _ _ t199 _ _ t202 false _ ?side1 ?side2 ?side3 ?side4 A39.out).mono ?_);(case side1=>repeat(first | exact(Kd.R_reads' HO_7.out).2.2 |(with_reducible refine Kd.C_alloc ?_ _) |(with_reducible refine Kd.C_drewN ?_ _) |(with_reducible refine Kd.C_drew ?_)));(case side2=>exact(Kd.R_reads' HO_7.out).2.1);(case side3=>repeat(first | exact(Kd.R_reads' HO_8.out).2.2 |(with_reducible refine Kd.C_alloc ?_ _) |(with_reducible refine Kd.C_drewN ?_ _) |(with_reducible refine Kd.C_drew ?_)));(case side4=>exact(Kd.R_reads' HO_8.out).2.1);rintro e w' ⟨rfl,⟨nd,rfl⟩⟩;refine⟨_,rfl,?_⟩))
       go_ret
       exact⟨by first | rfl |(simp [errW_none,errW_some] <;> rfl) |(simp [*,errW_none,errW_some] <;> rfl),by repeat(first |(with_reducible first | exact HB.out | apply bwA | apply bwN | apply bw1) | exact HB.out)⟩
      rw [if_pos c50] at H
      have c50b0 :(t210 == 2) = true:=beq_iff_eq.mpr c50
      have c50b1 :(t210 != 2) = false:=bne_eq_false_iff_eq.mpr c50
      clear c50
      replace H:=Option.bind_eq_some_iff.mp H
      obtain ⟨t221,A510,H⟩:=H
      replace H :(some t221) = some r:=H
      have A51:=Aside0.mk A510
      clear A510
      obtain rfl:=Option.some.inj H
      go_wp2_with (first |((with_reducible refine gate_callee (f:=24) rfl ?_);refine goesL_ (some 77) rfl rfl Try.func24 (by kernel_rfl) rfl #[.slice Ao13 t199.length co13,.slice Ao15 t202.length co15] rfl (by(try simp only [List.map_toArray,List.map_cons,List.map_nil]);first | done | rfl |(simp only [List.length_drop,List.length_take];rfl)) ?_;(with_reducible refine(q10_Settings.calls kj18 _ _ t199 _ _ t202 false _ ?side1 ?side2 ?side3 ?side4 A39.out).mono ?_);(case side1=>repeat(first | exact(Kd.R_reads' HO_7.out).2.2 |(with_reducible refine Kd.C_alloc ?_ _) |(with_reducible refine Kd.C_drewN ?_ _) |(with_reducible refine Kd.C_drew ?_)));(case side2=>exact(Kd.R_reads' HO_7.out).2.1);(case side3=>repeat(first | exact(Kd.R_reads' HO_8.out).2.2 |(with_reducible refine Kd.C_alloc ?_ _) |(with_reducible refine Kd.C_drewN ?_ _) |(with_reducible refine Kd.C_drew ?_)));(case side4=>exact(Kd.R_reads' HO_8.out).2.1);rintro e w' ⟨rfl,⟨nd,rfl⟩⟩;refine⟨_,rfl,?_⟩) |(go_at_call 20;(with_reducible refine(w10_awake.calls kj18  t221 _ A51.out).mono ?_);rintro e w52 ⟨rfl,hb⟩;have n0_:=Aside0.mk (Kd.R_below (by(with_reducible repeat(first | apply Kd.R_alloc | apply Kd.R_drewN | apply Kd.R_drew));exact HO_7.out) hb);have n1_:=Aside0.mk (Kd.R_below (by(with_reducible repeat(first | apply Kd.R_alloc | apply Kd.R_drewN | apply Kd.R_drew));exact HO_8.out) hb);have n2_:=Aside0.mk (bwT (by repeat(first |(with_reducible first | exact HB.out | apply bwA | apply bwN | apply bw1) | exact HB.out)) hb);clear HO_7;clear HO_8;clear HB;have HO_7:=n0_;have HO_8:=n1_;have HB:=n2_;clear n0_ n1_ n2_;(try clear hb);(try clear hb2);(try clear hk);(try clear hi)))
      go_ret
      exact⟨by first | rfl |(simp [errW_none,errW_some] <;> rfl) |(simp [*,errW_none,errW_some] <;> rfl),by repeat(first |(with_reducible first | exact HB.out | apply bwA | apply bwN | apply bw1) | exact HB.out)⟩
     subst c40
     have H1 :((q10_SettingAt.f kj18 t199 t202).bind fun t219=>(if t209 = t219 then(if t210 = 0 then((w10_awake.f kj18).bind fun t220=>(some t220)) else(some false)) else(some false))) = some r:=by rw [if_pos rfl] at H;exact H
     clear H
     have H:=H1
     clear H1
     replace H:=Option.bind_eq_some_iff.mp H
     obtain ⟨t219,A410,H⟩:=H
     replace H :(if t209 = t219 then(if t210 = 0 then((w10_awake.f kj18).bind fun t220=>(some t220)) else(some false)) else(some false)) = some r:=H
     have A41:=Aside0.mk A410
     clear A410
     by_cases c42 : t209 = t219
     rotate_left
     ·rw [if_neg c42] at H
      have c42b0 :(t209 == t219) = false:=beq_eq_false_iff_ne.mpr c42
      have c42b1 :(t209 != t219) = true:=bne_iff_ne.mpr c42
      obtain rfl:=Option.some.inj H
      go_wp2_with (first |((with_reducible refine gate_callee (f:=24) rfl ?_);refine goesL_ (some 77) rfl rfl Try.func24 (by kernel_rfl) rfl #[.slice Ao13 t199.length co13,.slice Ao15 t202.length co15] rfl (by(try simp only [List.map_toArray,List.map_cons,List.map_nil]);first | done | rfl |(simp only [List.length_drop,List.length_take];rfl)) ?_;(with_reducible refine(q10_Settings.calls kj18 _ _ t199 _ _ t202 true _ ?side1 ?side2 ?side3 ?side4 A39.out).mono ?_);(case side1=>repeat(first | exact(Kd.R_reads' HO_7.out).2.2 |(with_reducible refine Kd.C_alloc ?_ _) |(with_reducible refine Kd.C_drewN ?_ _) |(with_reducible refine Kd.C_drew ?_)));(case side2=>exact(Kd.R_reads' HO_7.out).2.1);(case side3=>repeat(first | exact(Kd.R_reads' HO_8.out).2.2 |(with_reducible refine Kd.C_alloc ?_ _) |(with_reducible refine Kd.C_drewN ?_ _) |(with_reducible refine Kd.C_drew ?_)));(case side4=>exact(Kd.R_reads' HO_8.out).2.1);rintro e w' ⟨rfl,⟨nd,rfl⟩⟩;refine⟨_,rfl,?_⟩) |((with_reducible refine gate_callee (f:=25) rfl ?_);refine goesL_ (some 91) rfl rfl Try.func25 (by kernel_rfl) rfl #[.slice Ao13 t199.length co13,.slice Ao15 t202.length co15] rfl (by(try simp only [List.map_toArray,List.map_cons,List.map_nil]);first | done | rfl |(simp only [List.length_drop,List.length_take];rfl)) ?_;(with_reducible refine(q10_SettingAt.calls kj18 _ _ t199 _ _ t202 t219 _ ?side1 ?side2 ?side3 ?side4 A41.out).mono ?_);(case side1=>repeat(first | exact(Kd.R_reads' HO_7.out).2.2 |(with_reducible refine Kd.C_alloc ?_ _) |(with_reducible refine Kd.C_drewN ?_ _) |(with_reducible refine Kd.C_drew ?_)));(case side2=>exact(Kd.R_reads' HO_7.out).2.1);(case side3=>repeat(first | exact(Kd.R_reads' HO_8.out).2.2 |(with_reducible refine Kd.C_alloc ?_ _) |(with_reducible refine Kd.C_drewN ?_ _) |(with_reducible refine Kd.C_drew ?_)));(case side4=>exact(Kd.R_reads' HO_8.out).2.1);rintro e w48 ⟨rfl,hb⟩;refine⟨_,rfl,?_⟩;have n0_:=Aside0.mk (Kd.R_below (by(with_reducible repeat(first | apply Kd.R_alloc | apply Kd.R_drewN | apply Kd.R_drew));exact HO_7.out) hb);have n1_:=Aside0.mk (Kd.R_below (by(with_reducible repeat(first | apply Kd.R_alloc | apply Kd.R_drewN | apply Kd.R_drew));exact HO_8.out) hb);have n2_:=Aside0.mk (bwT (by repeat(first |(with_reducible first | exact HB.out | apply bwA | apply bwN | apply bw1) | exact HB.out)) hb);clear HO_7;clear HO_8;clear HB;have HO_7:=n0_;have HO_8:=n1_;have HB:=n2_;clear n0_ n1_ n2_;(try clear hb);(try clear hb2);(try clear hk);(try clear hi)))
      go_ret
      exact⟨by first | rfl |(simp [errW_none,errW_some] <;> rfl) |(simp [*,errW_none,errW_some] <;> rfl),by repeat(first |(with_reducible first | exact HB.out | apply bwA | apply bwN | apply bw1) | exact HB.out)⟩
     rw [if_pos c42] at H
     have c42b0 :(t209 == t219) = true:=beq_iff_eq.mpr c42
     have c42b1 :(t209 != t219) = false:=bne_eq_false_iff_eq.mpr c42
     clear c42
     by_cases c43 : t210 = 0
     rotate_left
     ·rw [if_neg c43] at H
      have c43b0 :(t210 == 0) = false:=beq_eq_false_iff_ne.mpr c43
      have c43b1 :(t210 != 0) = true:=bne_iff_ne.mpr c43
      obtain rfl:=Option.some.inj H
      go_wp2_with (first |((with_reducible refine gate_callee (f:=24) rfl ?_);refine goesL_ (some 77) rfl rfl Try.func24 (by kernel_rfl) rfl #[.slice Ao13 t199.length co13,.slice Ao15 t202.length co15] rfl (by(try simp only [List.map_toArray,List.map_cons,List.map_nil]);first | done | rfl |(simp only [List.length_drop,List.length_take];rfl)) ?_;(with_reducible refine(q10_Settings.calls kj18 _ _ t199 _ _ t202 true _ ?side1 ?side2 ?side3 ?side4 A39.out).mono ?_);(case side1=>repeat(first | exact(Kd.R_reads' HO_7.out).2.2 |(with_reducible refine Kd.C_alloc ?_ _) |(with_reducible refine Kd.C_drewN ?_ _) |(with_reducible refine Kd.C_drew ?_)));(case side2=>exact(Kd.R_reads' HO_7.out).2.1);(case side3=>repeat(first | exact(Kd.R_reads' HO_8.out).2.2 |(with_reducible refine Kd.C_alloc ?_ _) |(with_reducible refine Kd.C_drewN ?_ _) |(with_reducible refine Kd.C_drew ?_)));(case side4=>exact(Kd.R_reads' HO_8.out).2.1);rintro e w' ⟨rfl,⟨nd,rfl⟩⟩;refine⟨_,rfl,?_⟩) |((with_reducible refine gate_callee (f:=25) rfl ?_);refine goesL_ (some 91) rfl rfl Try.func25 (by kernel_rfl) rfl #[.slice Ao13 t199.length co13,.slice Ao15 t202.length co15] rfl (by(try simp only [List.map_toArray,List.map_cons,List.map_nil]);first | done | rfl |(simp only [List.length_drop,List.length_take];rfl)) ?_;(with_reducible refine(q10_SettingAt.calls kj18 _ _ t199 _ _ t202 t219 _ ?side1 ?side2 ?side3 ?side4 A41.out).mono ?_);(case side1=>repeat(first | exact(Kd.R_reads' HO_7.out).2.2 |(with_reducible refine Kd.C_alloc ?_ _) |(with_reducible refine Kd.C_drewN ?_ _) |(with_reducible refine Kd.C_drew ?_)));(case side2=>exact(Kd.R_reads' HO_7.out).2.1);(case side3=>repeat(first | exact(Kd.R_reads' HO_8.out).2.2 |(with_reducible refine Kd.C_alloc ?_ _) |(with_reducible refine Kd.C_drewN ?_ _) |(with_reducible refine Kd.C_drew ?_)));(case side4=>exact(Kd.R_reads' HO_8.out).2.1);rintro e w47 ⟨rfl,hb⟩;refine⟨_,rfl,?_⟩;have n0_:=Aside0.mk (Kd.R_below (by(with_reducible repeat(first | apply Kd.R_alloc | apply Kd.R_drewN | apply Kd.R_drew));exact HO_7.out) hb);have n1_:=Aside0.mk (Kd.R_below (by(with_reducible repeat(first | apply Kd.R_alloc | apply Kd.R_drewN | apply Kd.R_drew));exact HO_8.out) hb);have n2_:=Aside0.mk (bwT (by repeat(first |(with_reducible first | exact HB.out | apply bwA | apply bwN | apply bw1) | exact HB.out)) hb);clear HO_7;clear HO_8;clear HB;have HO_7:=n0_;have HO_8:=n1_;have HB:=n2_;clear n0_ n1_ n2_;(try clear hb);(try clear hb2);(try clear hk);(try clear hi)))
      go_ret
      exact⟨by first | rfl |(simp [errW_none,errW_some] <;> rfl) |(simp [*,errW_none,errW_some] <;> rfl),by repeat(first |(with_reducible first | exact HB.out | apply bwA | apply bwN | apply bw1) | exact HB.out)⟩
     rw [if_pos c43] at H
     have c43b0 :(t210 == 0) = true:=beq_iff_eq.mpr c43
     have c43b1 :(t210 != 0) = false:=bne_eq_false_iff_eq.mpr c43
     clear c43
     replace H:=Option.bind_eq_some_iff.mp H
     obtain ⟨t220,A440,H⟩:=H
     replace H :(some t220) = some r:=H
     have A44:=Aside0.mk A440
     clear A440
     obtain rfl:=Option.some.inj H
     go_wp2_with (first |((with_reducible refine gate_callee (f:=24) rfl ?_);refine goesL_ (some 77) rfl rfl Try.func24 (by kernel_rfl) rfl #[.slice Ao13 t199.length co13,.slice Ao15 t202.length co15] rfl (by(try simp only [List.map_toArray,List.map_cons,List.map_nil]);first | done | rfl |(simp only [List.length_drop,List.length_take];rfl)) ?_;(with_reducible refine(q10_Settings.calls kj18 _ _ t199 _ _ t202 true _ ?side1 ?side2 ?side3 ?side4 A39.out).mono ?_);(case side1=>repeat(first | exact(Kd.R_reads' HO_7.out).2.2 |(with_reducible refine Kd.C_alloc ?_ _) |(with_reducible refine Kd.C_drewN ?_ _) |(with_reducible refine Kd.C_drew ?_)));(case side2=>exact(Kd.R_reads' HO_7.out).2.1);(case side3=>repeat(first | exact(Kd.R_reads' HO_8.out).2.2 |(with_reducible refine Kd.C_alloc ?_ _) |(with_reducible refine Kd.C_drewN ?_ _) |(with_reducible refine Kd.C_drew ?_)));(case side4=>exact(Kd.R_reads' HO_8.out).2.1);rintro e w' ⟨rfl,⟨nd,rfl⟩⟩;refine⟨_,rfl,?_⟩) |((with_reducible refine gate_callee (f:=25) rfl ?_);refine goesL_ (some 91) rfl rfl Try.func25 (by kernel_rfl) rfl #[.slice Ao13 t199.length co13,.slice Ao15 t202.length co15] rfl (by(try simp only [List.map_toArray,List.map_cons,List.map_nil]);first | done | rfl |(simp only [List.length_drop,List.length_take];rfl)) ?_;(with_reducible refine(q10_SettingAt.calls kj18 _ _ t199 _ _ t202 t219 _ ?side1 ?side2 ?side3 ?side4 A41.out).mono ?_);(case side1=>repeat(first | exact(Kd.R_reads' HO_7.out).2.2 |(with_reducible refine Kd.C_alloc ?_ _) |(with_reducible refine Kd.C_drewN ?_ _) |(with_reducible refine Kd.C_drew ?_)));(case side2=>exact(Kd.R_reads' HO_7.out).2.1);(case side3=>repeat(first | exact(Kd.R_reads' HO_8.out).2.2 |(with_reducible refine Kd.C_alloc ?_ _) |(with_reducible refine Kd.C_drewN ?_ _) |(with_reducible refine Kd.C_drew ?_)));(case side4=>exact(Kd.R_reads' HO_8.out).2.1);rintro e w45 ⟨rfl,hb⟩;refine⟨_,rfl,?_⟩;have n0_:=Aside0.mk (Kd.R_below (by(with_reducible repeat(first | apply Kd.R_alloc | apply Kd.R_drewN | apply Kd.R_drew));exact HO_7.out) hb);have n1_:=Aside0.mk (Kd.R_below (by(with_reducible repeat(first | apply Kd.R_alloc | apply Kd.R_drewN | apply Kd.R_drew));exact HO_8.out) hb);have n2_:=Aside0.mk (bwT (by repeat(first |(with_reducible first | exact HB.out | apply bwA | apply bwN | apply bw1) | exact HB.out)) hb);clear HO_7;clear HO_8;clear HB;have HO_7:=n0_;have HO_8:=n1_;have HB:=n2_;clear n0_ n1_ n2_;(try clear hb);(try clear hb2);(try clear hk);(try clear hi)) |(go_at_call 20;(with_reducible refine(w10_awake.calls kj18  t220 _ A44.out).mono ?_);rintro e w46 ⟨rfl,hb⟩;have n0_:=Aside0.mk (Kd.R_below (by(with_reducible repeat(first | apply Kd.R_alloc | apply Kd.R_drewN | apply Kd.R_drew));exact HO_7.out) hb);have n1_:=Aside0.mk (Kd.R_below (by(with_reducible repeat(first | apply Kd.R_alloc | apply Kd.R_drewN | apply Kd.R_drew));exact HO_8.out) hb);have n2_:=Aside0.mk (bwT (by repeat(first |(with_reducible first | exact HB.out | apply bwA | apply bwN | apply bw1) | exact HB.out)) hb);clear HO_7;clear HO_8;clear HB;have HO_7:=n0_;have HO_8:=n1_;have HB:=n2_;clear n0_ n1_ n2_;(try clear hb);(try clear hb2);(try clear hk);(try clear hi)))
     go_ret
     exact⟨by first | rfl |(simp [errW_none,errW_some] <;> rfl) |(simp [*,errW_none,errW_some] <;> rfl),by repeat(first |(with_reducible first | exact HB.out | apply bwA | apply bwN | apply bw1) | exact HB.out)⟩
/-- THE ONE PURE STATEMENT of w10_TurnsDials: yours. -/
def w10_TurnsDials.Pure : Prop:=∀ (l0 : List Int) (a1 : Int) (l2 : List Int),l0.length≤maxLen→l0.length * 8≤140737488351232 →(∀ x ∈ l0,(Lit.int .i64 x).wf = true) →(Lit.int .i64 a1).wf = true→l2.length≤maxLen→l2.length * 8≤140737488351232 →(∀ x ∈ l2,(Lit.int .i64 x).wf = true)→∃ k,w10_TurnsDials.f k l0 a1 l2 = some true
theorem w10_TurnsDials.walk (P : w10_TurnsDials.Pure) (a0 : Option Addr) (len0 cap0 : Nat) (z0 : List Int) (a1 : Int) (a2 : Option Addr) (len2 cap2 : Nat) (z2 : List Int) (w : World) (w0 : (a0 = none ∧ len0 = 0 ∧ cap0 = 0 ∧ z0 = []) ∨ ∃ x, a0 = some x ∧ len0 ≤ cap0 ∧ cap0 ≤ maxLen ∧ z0.length = cap0 ∧ (∀ i, i < z0.length → w.cell? (x.add i) = some (.int .i64 (z0.getD i 0))) ∧ ∀ n ∈ z0, (Lit.int .i64 n).wf = true) (y0 : len0 * 8 ≤ 140737488351232) (w1 : (Lit.int .i64 a1).wf = true) (w2 : (a2 = none ∧ len2 = 0 ∧ cap2 = 0 ∧ z2 = []) ∨ ∃ x, a2 = some x ∧ len2 ≤ cap2 ∧ cap2 ≤ maxLen ∧ z2.length = cap2 ∧ (∀ i, i < z2.length → w.cell? (x.add i) = some (.int .i64 (z2.getD i 0))) ∧ ∀ n ∈ z2, (Lit.int .i64 n).wf = true) (y2 : len2 * 8 ≤ 140737488351232) :
  Calls Try.prog 3 #[.slice a0 len0 cap0,.int .i64 a1,.slice a2 len2 cap2] w fun e w'=>e = .returned (.bool true)∧Below w.heap.size w w':=by
 obtain ⟨l0,rfl,hr0,hm0,hw0,hc0⟩:=ReadsInt.ofRowC w0
 obtain ⟨l2,rfl,hr2,hm2,hw2,hc2⟩:=ReadsInt.ofRowC w2
 obtain ⟨k,h⟩:=P l0 a1 l2 hm0 y0 hw0 w1 hm2 y2 hw2
 refine(w10_TurnsDials.calls k _ _ l0 a1 _ _ l2 true w (Kd.C_of_reads (d:=(0 : Int)) (h1:=fun _=>rfl) hr0) hc0 (Kd.C_of_reads (d:=(0 : Int)) (h1:=fun _=>rfl) hr2) hc2 h).mono ?_
 rintro e w' ⟨rfl,hd⟩
 exact⟨rfl,hd⟩
end Go.Proofs.Ytbfhlaggllofdaa.S

namespace Go.Proofs.Ytbfhlaggllofdaa.P
open Go.RowKit Go.Proofs.Ytbfhlaggllofdaa.S Go.Proofs.YtbfhlaggllofdaaW.PrintWords Go.Proofs.YtbfhlaggllofdaaW.PrintLast Go.Proofs.YtbfhlaggllofdaaW.PrintMore
set_option linter.unusedVariables false
theorem ints_loop (a b : List Int) (he : a.length = b.length) (hl : a.length≤1000) : ∀ d i : Nat,i + d = a.length→Ev (fun k=>w10_ints.l0 k a b (i : Int)) (decide (a.drop i = b.drop i)):=by
 intro d
 induction d with
 | zero =>
  intro i h
  rw [List.drop_eq_nil_of_le (by omega),List.drop_eq_nil_of_le (by omega),decide_eq_true rfl]
  refine Ev.step (f:=fun _=>some true) (fun k=>?_) (Ev.now _)
  simp only [w10_ints.l0]
  rw [if_neg (by omega)]
 | succ d ih =>
  intro i h
  have w : wrap64 ((i : Int) + 1) =((i + 1 : Nat) : Int):=by rw [w64 (by omega) (by omega)];rfl
  have ea:=drop_cons a i (by omega)
  have eb:=drop_cons b i (by omega)
  by_cases c : rd a (i : Int) = rd b (i : Int)
  rotate_left
  ·have e : decide (a.drop i = b.drop i) = false := decide_eq_false (by rw [ea, eb]; simp [c])
   rw [e]
   refine Ev.step (f:=fun _=>some false) (fun k=>?_) (Ev.now _)
   simp only [w10_ints.l0]
   rw [if_pos (by omega),if_pos (by omega),if_pos (by omega),if_neg c]
  have e : decide (a.drop i = b.drop i) = decide (a.drop (i + 1) = b.drop (i + 1)):=by rw [ea,eb,c];simp
  rw [e]
  refine Ev.step (fun k=>?_) (ih (i + 1) (by omega))
  simp only [w10_ints.l0]
  rw [if_pos (by omega),if_pos (by omega),if_pos (by omega),if_pos c,w]
theorem ints_ev (a b : List Int) (hl : a.length≤1000) : Ev (fun k=>w10_ints.f k a b) (decide (a = b)):=by
 by_cases c : a.length = b.length
 ·refine Ev.congr (fun k => ?_) (ints_loop a b c hl a.length 0 (by omega))
  unfold w10_ints.f
  rw [if_pos (by omega)]
  rfl
 rw [decide_eq_false (fun h=>c (by rw [h]))]
 refine Ev.congr (fun k=>?_) (Ev.now _)
 unfold w10_ints.f
 rw [if_neg (by omega)]
end Go.Proofs.Ytbfhlaggllofdaa.P

namespace Go.Proofs.Ytbfhlaggllofdaa.P
open Go.RowKit Go.Proofs.Ytbfhlaggllofdaa.S Go.Proofs.Ytbfhlaggllofdaa.G Go.Proofs.Ytbfhlaggllofdaa.T Go.Proofs.YtbfhlaggllofdaaW.PrintWords Go.Proofs.YtbfhlaggllofdaaW.PrintLast Go.Proofs.YtbfhlaggllofdaaW.PrintMore
set_option linter.unusedVariables false
theorem sizes_loop (d : List Int) (hl : d.length≤1000) : ∀ e i : Nat,i + e = d.length→Ev (fun k=>q10_Sizes.l0 k d (i : Int)) (!((d.drop i).any badDial) && decide (d.length≤12)):=by
 intro e
 induction e with
 | zero =>
  intro i h
  rw [List.drop_eq_nil_of_le (by omega)]
  refine Ev.step (f:=fun _=>some _) (fun k=>?_) (Ev.now _)
  simp only [q10_Sizes.l0]
  rw [if_neg (by omega)]
  congr 1
  by_cases c : d.length≤12
  ·rw [decide_eq_true (by omega),decide_eq_true c];rfl
  rw [decide_eq_false (by omega),decide_eq_false c];rfl
 | succ e ih =>
  intro i h
  have w : wrap64 ((i : Int) + 1) =((i + 1 : Nat) : Int):=by rw [w64 (by omega) (by omega)];rfl
  have ea:=drop_cons d i (by omega)
  by_cases c : 1≤rd d (i : Int)∧rd d (i : Int)≤10
  ·have hb : badDial (rd d (i : Int)) = false := by unfold badDial; rw [decide_eq_true c]; rfl
   rw [ea,List.any_cons,hb,Bool.false_or]
   refine Ev.step (fun k=>?_) (ih (i + 1) (by omega))
   simp only [q10_Sizes.l0]
   rw [if_pos (by omega),if_pos (by omega),if_neg (by omega),if_neg (by omega),w]
  have hb : badDial (rd d (i : Int)) = true:=by unfold badDial;rw [decide_eq_false c];rfl
  rw [ea,List.any_cons,hb,Bool.true_or]
  refine Ev.step (f:=fun _=>some false) (fun k=>?_) (Ev.now _)
  simp only [q10_Sizes.l0]
  rw [if_pos (by omega),if_pos (by omega)]
  by_cases c1 : rd d (i : Int) < 1
  ·rw [if_pos c1]
  rw [if_neg c1,if_pos (by omega)]
theorem sizes_ev (d : List Int) (hl : d.length≤1000) : Ev (fun k=>q10_Sizes.f k d) (decide (Dials d)):=by
 have e : decide (Dials d) =(!((d.drop 0).any badDial) && decide (d.length≤12)):=by
  rw [List.drop_zero]
  apply Bool.eq_iff_iff.2
  simp [Dials,and_comm]
 rw [e]
 exact sizes_loop d hl d.length 0 (by omega)
theorem product_loop (d : List Int) (hd : ∀ s ∈ d,1≤s∧s≤10) (hl : d.length≤12) : ∀ (e i : Nat) (acc : Int),i + e = d.length→1≤acc→acc * prod (d.drop i)≤1000000000000→Ev (fun k=>q10_Product.l0 k d acc (i : Int)) (acc * prod (d.drop i)):=by
 intro e
 induction e with
 | zero =>
  intro i acc h h1 h2
  rw [List.drop_eq_nil_of_le (by omega)]
  refine Ev.step (f:=fun _=>some _) (fun k=>?_) (Ev.now _)
  simp only [q10_Product.l0]
  rw [if_neg (by omega)]
  simp [prod]
 | succ e ih =>
  intro i acc h h1 h2
  have w : wrap64 ((i : Int) + 1) =((i + 1 : Nat) : Int):=by rw [w64 (by omega) (by omega)];rfl
  have ea:=drop_cons d i (by omega)
  have hs:=hd _ (rd_mem (l:=d) (x:=(i : Int)) (by omega) (by omega))
  have hp:=(prod_drop hd hl (i + 1)).1
  have em : acc * prod (d.drop i) =(acc * rd d (i : Int)) * prod (d.drop (i + 1)):=by rw [ea,Int.mul_assoc];rfl
  have h3 : 1≤acc * rd d (i : Int):=by
   have:=Int.mul_le_mul h1 hs.1 (by decide) (by omega)
   simpa using this
  rw [em] at h2 ⊢
  have h4 : acc * rd d (i : Int)≤1000000000000:=by
   have:=Int.mul_le_mul_of_nonneg_left hp (show 0≤acc * rd d (i : Int) by omega)
   omega
  have w2 : wrap64 (acc * rd d (i : Int)) = acc * rd d (i : Int):=w64 (by omega) (by omega)
  refine Ev.step (fun k=>?_) (ih (i + 1) _ (by omega) h3 h2)
  simp only [q10_Product.l0]
  rw [if_pos (by omega),if_pos (by omega),w,w2]
theorem product_ev {d : List Int} (hD : Dials d) : Ev (fun k=>q10_Product.f k d) (prod d):=by
 have h:=product_loop d hD.mem hD.1 d.length 0 1 (by omega) (by decide) (by rw [List.drop_zero,Int.one_mul];exact(prod_12 hD.mem hD.1).2)
 rw [List.drop_zero,Int.one_mul] at h
 exact h
theorem dials_drop {d : List Int} (hD : Dials d) (i : Nat) : Dials (d.drop i):=(dials_iff _).2 ⟨by rw [List.length_drop];have:=hD.1;omega,fun s hs=>hD.mem s (List.mem_of_mem_drop hs)⟩
theorem settings2_loop (d l : List Int) (hl : l.length = d.length) (hn : l.length≤1000) : ∀ e i : Nat,i + e = l.length→Ev (fun k=>q10_Settings.l0 k d l (i : Int)) (decide (isDial (d.drop i) (l.drop i))):=by
 intro e
 induction e with
 | zero =>
  intro i h
  rw [List.drop_eq_nil_of_le (by omega),List.drop_eq_nil_of_le (by omega),decide_eq_true (show isDial [] [] from trivial)]
  refine Ev.step (f:=fun _=>some _) (fun k=>?_) (Ev.now _)
  simp only [q10_Settings.l0]
  rw [if_neg (by omega)]
 | succ e ih =>
  intro i h
  have w : wrap64 ((i : Int) + 1) =((i + 1 : Nat) : Int):=by rw [w64 (by omega) (by omega)];rfl
  have ea:=drop_cons d i (by omega)
  have eb:=drop_cons l i (by omega)
  by_cases c : 0≤rd l (i : Int)∧rd l (i : Int) < rd d (i : Int)
  rotate_left
  ·have e1 : decide (isDial (d.drop i) (l.drop i)) = false := decide_eq_false (by rw [ea, eb]; exact fun h => c ⟨h.1, h.2.1⟩)
   rw [e1]
   refine Ev.step (f:=fun _=>some false) (fun k=>?_) (Ev.now _)
   simp only [q10_Settings.l0]
   rw [if_pos (by omega),if_pos (by omega)]
   by_cases c1 : rd l (i : Int) < 0
   ·rw [if_pos c1]
   rw [if_neg c1,if_pos (by omega),if_pos (by omega)]
  have e1 : decide (isDial (d.drop i) (l.drop i)) = decide (isDial (d.drop (i + 1)) (l.drop (i + 1))):=by
   apply decide_eq_decide.2
   rw [ea,eb]
   exact⟨fun h=>h.2.2,fun h=>⟨c.1,c.2,h⟩⟩
  rw [e1]
  refine Ev.step (fun k=>?_) (ih (i + 1) (by omega))
  simp only [q10_Settings.l0]
  rw [if_pos (by omega),if_pos (by omega),if_neg (by omega),if_pos (by omega),if_neg (by omega),w]
theorem settings2_ev (d l : List Int) (hn : l.length≤1000) : Ev (fun k=>q10_Settings.f k d l) (decide (isDial d l)):=by
 by_cases c : l.length = d.length
 ·refine Ev.congr (fun k => ?_) (settings2_loop d l c hn l.length 0 (by omega))
  unfold q10_Settings.f
  rw [if_pos (by omega)]
  rfl
 rw [decide_eq_false (fun h=>c (isDial_len h).symm)]
 refine Ev.congr (fun k=>?_) (Ev.now _)
 unfold q10_Settings.f
 rw [if_neg (by omega)]
theorem setting_ev : ∀ (d : List Int) (a : Int), Dials d → 0 ≤ a → a < prod d → Ev (fun k => q10_Setting.f k d a) (dial d a)
 | [],a,_,_,_=>by
  refine Ev.step (f:=fun _=>some []) (fun k=>?_) (Ev.now _)
  simp only [q10_Setting.f]
  rw [if_pos (by simp)]
 | s :: d,a,hD,h0,h1=>by
  have hD' : Dials d:=dials_drop hD 1
  obtain ⟨P,x,y,eP,ex,ey,⟨p1,p2,x0,y0,y1⟩,b0,b1,ht,wx,hm,et,hd⟩:=dial_step hD (i:=0) (by simp) h0 h1
  rw [show(s :: d).drop (0 + 1) = d from rfl] at eP hd
  rw [show(s :: d).drop 0 = s :: d from rfl] at hd
  have hlen :(dial d y).length = d.length:=dial_len _ _
  have hdl:=hD.1
  have ih:=setting_ev d y hD' y0 (by rw [eP];exact y1)
  have w1 : wrap64 (P - 1) = P - 1:=w64 (by omega) (by omega)
  have w2 : wrap64 y = y:=w64 (by omega) (by omega)
  have hpr:=product_ev hD'
  rw [eP] at hpr
  have hlen2 :([x] : List Int).length + (dial d y).length < 17592186044416:=by rw [hlen];simp at hdl ⊢;omega
  refine Ev.step (f:=fun k=>(q10_Product.f k d).bind fun t=>(if t = 0 then none else if(Int.tmod (wrap64 (Int.tdiv a t)) 2) = 1 then(q10_Setting.f k d (wrap64 ((wrap64 (t - 1)) - (Int.tmod a t)))).bind fun t172=>(if([wrap64 (Int.tdiv a t)] : List Int).length + t172.length < 17592186044416 then some ([wrap64 (Int.tdiv a t)] ++ t172) else none) else(q10_Setting.f k d (Int.tmod a t)).bind fun t182=>(if([wrap64 (Int.tdiv a t)] : List Int).length + t182.length < 17592186044416 then some ([wrap64 (Int.tdiv a t)] ++ t182) else none))) (fun k=>?_) ?_
  ·simp only [q10_Setting.f]
   rw [if_neg (by simp;omega),if_pos (by simp;omega)]
   rfl
  ·refine Ev.bind (f := fun k (t : Int) => _) hpr ?_
   have hdd : dial (s :: d) a = [x] ++ dial d y:=hd
   rw [hdd]
   have hmod : Int.tmod x 2 = x % 2:=Int.tmod_eq_emod_of_nonneg x0
   by_cases c : x % 2 = 1
   ·have ey' : P - 1 - Int.tmod a P = y := by rw [← et]; unfold turnD; rw [if_pos c]
    refine Ev.congr (g:=_) (f:=fun k=>(q10_Setting.f k d y).bind fun t172=>(if([x] : List Int).length + t172.length < 17592186044416 then some ([x] ++ t172) else none)) (fun k=>?_) ?_
    ·simp only [if_neg (show ¬ P = 0 by omega),ht,wx,hmod,if_pos c,w1,ey',w2]
    ·refine Ev.bind (f := fun k (t : List Int) => _) ih ?_
     refine Ev.congr (fun k=>?_) (Ev.now _)
     rw [if_pos hlen2]
   ·have ey' : Int.tmod a P = y := by rw [← et]; unfold turnD; rw [if_neg c]
    refine Ev.congr (g:=_) (f:=fun k=>(q10_Setting.f k d y).bind fun t172=>(if([x] : List Int).length + t172.length < 17592186044416 then some ([x] ++ t172) else none)) (fun k=>?_) ?_
    ·simp only [if_neg (show ¬ P = 0 by omega),ht,wx,hmod,if_neg c,ey']
    ·refine Ev.bind (f := fun k (t : List Int) => _) ih ?_
     refine Ev.congr (fun k=>?_) (Ev.now _)
     rw [if_pos hlen2]
theorem settingAt_ev : ∀ (d l : List Int), Dials d → isDial d l → Ev (fun k => q10_SettingAt.f k d l) (dialAt d l)
 | [],[],_,_=>by
  refine Ev.step (f:=fun _=>some 0) (fun k=>?_) (Ev.now _)
  simp only [q10_SettingAt.f]
  rw [if_pos (by simp)]
 | s :: d,x :: l,hD,hi=>by
  have hD' : Dials d:=dials_drop hD 1
  obtain ⟨P,x',s',z,y,eP,ex,es,ez,ey,ws,⟨p2,z0,z1⟩,yes,_⟩:=at_step hD (l:=x :: l) (isDial_len hi).symm (i:=0) (by simp) hi.2.2
  have e0 : rd (x :: l) ((0 : Nat) : Int) = x:=rfl
  have e1 : rd (s :: d) ((0 : Nat) : Int) = s:=rfl
  rw [e0] at ex
  rw [e1] at es
  subst ex
  subst es
  obtain ⟨_,w1,w2,hv⟩:=yes ⟨hi.1,by have:=hi.2.1;omega⟩
  rw [show(s :: d).drop (0 + 1) = d from rfl] at eP ez
  rw [show(x :: l).drop (0 + 1) = l from rfl] at ez
  have hv' : dialAt (s :: d) (x :: l) = x * P + y:=hv
  rw [hv']
  have ih:=settingAt_ev d l hD' hi.2.2
  rw [ez] at ih
  have hpr:=product_ev hD'
  rw [eP] at hpr
  have w3 : wrap64 (P - 1) = P - 1:=w64 (by omega) (by omega)
  have w4 : wrap64 (P - 1 - z) = P - 1 - z:=w64 (by omega) (by omega)
  have hmod : Int.tmod x 2 = x % 2:=Int.tmod_eq_emod_of_nonneg hi.1
  refine Ev.step (f:=fun k=>(q10_Product.f k d).bind fun t=>((q10_SettingAt.f k d l).bind fun u=>(if(Int.tmod x 2) = 1 then some (wrap64 ((wrap64 (x * t)) + (wrap64 ((wrap64 (t - 1)) - u)))) else some (wrap64 ((wrap64 (x * t)) + u))))) (fun k=>?_) ?_
  ·have h1 : ¬ (((x :: l).length : Int) = 0) := by simp; omega
   have h2 : 1 ≤((s :: d).length : Int):=by simp;omega
   have h3 : 1 ≤((x :: l).length : Int):=by simp;omega
   have h4 : 0 < ((x :: l).length : Int):=by simp
   simp only [q10_SettingAt.f,if_neg h1,if_pos h2,if_pos h3,if_pos h4]
   rfl
  ·refine Ev.bind (f := fun k (t : Int) => _) hpr ?_
   refine Ev.bind (f:=fun k (t : Int)=>_) ih ?_
   refine Ev.congr (fun k=>?_) (Ev.now _)
   rw [hmod]
   by_cases c : x % 2 = 1
   ·have : P - 1 - z = y := by rw [← ey]; unfold turnD; rw [if_pos c]
    rw [if_pos c,w3,w4,w1,this,w2]
   ·have : z = y := by rw [← ey]; unfold turnD; rw [if_neg c]
    rw [if_neg c,w1,this,w2]
 | [],_ :: _,_,h=>h.elim
 | _ :: _,[],_,h=>h.elim
theorem awake_ev : Ev (fun k=>w10_awake.f k) true:=by
 have e1 : turns_Set.f 2 2 = some ([1,2],0):=by kernel_rfl
 have e2 : turns_Choice.f 3 2 1 = some ([2,3],0):=by kernel_rfl
 have e3 : turns_Order.f 3 3 = some ([3,2,1],0):=by kernel_rfl
 have e4 : turns_Groupings.f 5 = some (52,0):=by kernel_rfl
 have e5 : turns_Setting.f [2,3] 3 = some ([1,2],0):=by kernel_rfl
 have i1:=ints_ev [1,2] [1,2] (by decide)
 have i2:=ints_ev [2,3] [2,3] (by decide)
 have i3:=ints_ev [3,2,1] [3,2,1] (by decide)
 rw [decide_eq_true rfl] at i1 i2 i3
 have hj : Ev (fun k=>w10_awake.j0 k false) true:=by
  refine Ev.step (f:=fun _=>some true) (fun k=>?_) (Ev.now _)
  simp only [w10_awake.j0]
  rw [if_neg (by decide)]
 refine Ev.congr (f:=fun k=>(w10_ints.f k [1,2] [1,2]).bind fun t=>(if t = true then((w10_ints.f k [2,3] [2,3]).bind fun t=>(if t = true then((w10_ints.f k [3,2,1] [3,2,1]).bind fun t=>(if t = true then((w10_ints.f k [1,2] [1,2]).bind fun t=>w10_awake.j0 k (!t)) else w10_awake.j0 k true)) else w10_awake.j0 k true)) else w10_awake.j0 k true)) (fun k=>?_) ?_
 ·unfold w10_awake.f
  rw [e1,e2,e3,e4,e5]
  rfl
 refine Ev.bind (f:=fun k (t : Bool)=>_) i1 ?_
 refine Ev.congr (fun k=>if_pos rfl) ?_
 refine Ev.bind (f:=fun k (t : Bool)=>_) i2 ?_
 refine Ev.congr (fun k=>if_pos rfl) ?_
 refine Ev.bind (f:=fun k (t : Bool)=>_) i3 ?_
 refine Ev.congr (fun k=>if_pos rfl) ?_
 exact Ev.bind (f:=fun k (t : Bool)=>_) i1 hj
theorem awake_some : Ev (fun k=>(w10_awake.f k).bind fun z=>some z) true:=Ev.congr (fun k=>by cases w10_awake.f k <;> rfl) awake_ev
theorem take42 (l : List Int) :(l.take 42).length≤42:=by rw [List.length_take];omega
theorem dials_j1 (d l : List Int) (hD : Dials d) (hl : l.length≤42) : ∀ p q : Int,(if isDial d l then(dialAt d l,(0 : Int)) else(0,2)) =(p,q)→Ev (fun k=>w10_TurnsDials.j1 k d l p q) true:=by
 intro p q e
 have hs:=settings2_ev d l (by omega)
 by_cases c : isDial d l
 rotate_left
 ·rw [if_neg c] at e
  injection e with e1 e2
  subst e1;subst e2
  rw [decide_eq_false c] at hs
  refine Ev.step (fun k=>rfl) ?_
  refine Ev.bind (f:=fun k (t : Bool)=>_) hs ?_
  refine Ev.congr (fun k=>if_neg (by decide)) ?_
  refine Ev.congr (fun k=>if_pos rfl) ?_
  refine Ev.congr (fun k=>if_pos rfl) ?_
  exact awake_some
 rw [if_pos c] at e
 injection e with e1 e2
 subst e1;subst e2
 rw [decide_eq_true c] at hs
 refine Ev.step (fun k=>rfl) ?_
 refine Ev.bind (f:=fun k (t : Bool)=>_) hs ?_
 refine Ev.congr (fun k=>if_pos rfl) ?_
 refine Ev.bind (f:=fun k (t : Int)=>_) (settingAt_ev d l hD c) ?_
 refine Ev.congr (fun k=>if_pos rfl) ?_
 refine Ev.congr (fun k=>if_pos rfl) ?_
 exact awake_some
theorem dials_j0 (d l : List Int) (a p q : Int) (hD : Dials d) (hl : l.length ≤ 42) (e : (if isDial d l then (dialAt d l, (0 : Int)) else (0, 2)) = (p, q)) :
  (∀ o c,(if 0≤a∧a≤prod d - 1 then(dial d a,(0 : Int)) else([],2)) =(o,c)→Ev (fun k=>w10_TurnsDials.j0 k a d l o c p q (!decide (0≤a∧a≤prod d - 1))) true):=by
 intro o c ho
 by_cases ca : 0≤a∧a≤prod d - 1
 rotate_left
 ·rw [if_neg ca] at ho
  injection ho with h1 h2
  subst h1;subst h2
  rw [decide_eq_false ca]
  refine Ev.step (f:=fun k=>w10_TurnsDials.j1 k d l p q) (fun k=>by simp only [w10_TurnsDials.j0];rw [if_pos (by decide),if_pos (by rfl),if_pos trivial]) ?_
  exact dials_j1 d l hD hl p q e
 rw [if_pos ca] at ho
 injection ho with h1 h2
 subst h1;subst h2
 rw [decide_eq_true ca]
 refine Ev.step (f:=fun k=>(q10_Setting.f k d a).bind fun t214=>((w10_ints.f k (dial d a) t214).bind fun t217=>(if t217 = true then(if(0 : Int) = 0 then(w10_TurnsDials.j1 k d l p q) else(some false)) else(some false)))) (fun k=>by simp only [w10_TurnsDials.j0];rw [if_neg (by decide)]) ?_
 refine Ev.bind (f:=fun k (t : List Int)=>_) (setting_ev d a hD ca.1 (by omega)) ?_
 have hi:=ints_ev (dial d a) (dial d a) (by rw [dial_len];have:=hD.1;omega)
 rw [decide_eq_true rfl] at hi
 refine Ev.bind (f:=fun k (t : Bool)=>_) hi ?_
 refine Ev.congr (fun k=>if_pos rfl) ?_
 refine Ev.congr (fun k=>if_pos rfl) ?_
 exact dials_j1 d l hD hl p q e
theorem turnsDials_law (l0 : List Int) (a : Int) (l2 : List Int) : ∃ k,w10_TurnsDials.f k l0 a l2 = some true:=by
 refine Ev.rounds ?_
 have hd:=take42 l0
 have hl:=take42 l2
 obtain ⟨d,ed⟩ : ∃ d,l0.take 42 = d:=⟨_,rfl⟩
 obtain ⟨l,el⟩ : ∃ d,l2.take 42 = d:=⟨_,rfl⟩
 rw [ed] at hd
 rw [el] at hl
 unfold w10_TurnsDials.f w10_list.f turns_Setting.f turns_SettingAt.f
 rw [ed,el]
 simp only [Option.bind_some]
 have hs:=sizes_ev d (by omega)
 by_cases c : Dials d
 rotate_left
 ·rw [decide_eq_false c] at hs
  simp only [c,false_and,if_false]
  refine Ev.bind (f:=fun k (t : Bool)=>_) hs ?_
  refine Ev.congr (fun k=>if_neg (by decide)) ?_
  refine Ev.congr (fun k=>if_pos (by trivial)) ?_
  refine Ev.congr (fun k=>if_pos (by trivial)) ?_
  refine Ev.congr (fun k=>if_pos (by trivial)) ?_
  refine Ev.congr (fun k=>if_pos (by trivial)) ?_
  exact awake_some
 rw [decide_eq_true c] at hs
 simp only [c,true_and]
 refine Ev.bind (f:=fun k (t : Bool)=>_) hs ?_
 refine Ev.congr (fun k=>if_pos rfl) ?_
 obtain ⟨p,q,e⟩ : ∃ p q,(if isDial d l then(dialAt d l,(0 : Int)) else(0,2)) =(p,q):=⟨_,_,rfl⟩
 obtain ⟨o,w,ho⟩ : ∃ p q,(if 0≤a∧a≤prod d - 1 then(dial d a,(0 : Int)) else([],2)) =(p,q):=⟨_,_,rfl⟩
 have h:=dials_j0 d l a p q c hl e o w ho
 rw [e,ho]
 by_cases ca : a < 0
 ·refine Ev.congr (fun k => if_pos ca) ?_
  rw [decide_eq_false (by omega)] at h
  exact h
 refine Ev.congr (fun k=>if_neg ca) ?_
 refine Ev.bind (f:=fun k (t : Int)=>_) (product_ev c) ?_
 have e2 : decide (a ≥ prod d) = !decide (0≤a∧a≤prod d - 1):=by
  by_cases cb : a ≥ prod d
  ·rw [decide_eq_true cb,decide_eq_false (by omega)];rfl
  ·rw [decide_eq_false cb,decide_eq_true (by omega)];rfl
 rw [e2]
 exact h
end Go.Proofs.Ytbfhlaggllofdaa.P

namespace Go.Proofs.Ytbfhlaggllofdaa.Pure
open Go.RowKit Go.Proofs.Ytbfhlaggllofdaa.S Go.Proofs.YtbfhlaggllofdaaW.PrintWords Go.Proofs.YtbfhlaggllofdaaW.PrintLast
theorem TurnsDials : w10_TurnsDials.Pure:=fun l0 a1 l2 _ _ _ _ _ _ _=>P.turnsDials_law l0 a1 l2
end Go.Proofs.Ytbfhlaggllofdaa.Pure
