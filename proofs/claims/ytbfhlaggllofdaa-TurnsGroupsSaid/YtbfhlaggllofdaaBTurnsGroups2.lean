-- Written by wip/bundle2.py: texts of this claim, one behind the other.
import Derived.Test.YtbfhlaggllofdaaBTurnsGroups1
set_option linter.unusedVariables false
set_option linter.unusedSimpArgs false

namespace Go.Proofs.Ytbfhlaggllofdaa.S
open Go.Proofs.Ytbfhlaggllofdaa.Lib
open Go.Maps (Keyed)
open Go.RowKit Go.Proofs.YtbfhlaggllofdaaW.PrintWords Go.Proofs.YtbfhlaggllofdaaW.PrintLast Go.Proofs.YtbfhlaggllofdaaW.PrintMore
attribute [local go_sem] max2_int min2_int max_two min_two max_three min_three max_four min_four
set_option linter.unusedVariables false
set_option linter.unusedSimpArgs false

mutual
def w10_TurnsGroups.j0 : Nat → Int → Int → List Int → List Int → Int → Int → Int → Int → Int → Bool → Option (Bool)
 | 0,_,_,_,_,_,_,_,_,_,_=>none
 | k + 1,x0,x1,x7,x8,x9,x10,x11,x12,x13,x37=>if x37 = true then(if(x8.length : Int) = 0 then(if x9 = 2 then(if x12 = 0 then(if x13 = 2 then(w10_TurnsGroups.j3 k x7 x10 x11) else(some false)) else(some false)) else(some false)) else(some false)) else((q10_Groups.f k 0 x0).bind fun t421=>(if x12 = t421 then(w10_TurnsGroups.j1 k x0 x1 x7 x8 x9 x10 x11 x12 (x13 != 0)) else(w10_TurnsGroups.j1 k x0 x1 x7 x8 x9 x10 x11 x12 true)))
def w10_TurnsGroups.j3 : Nat → List Int → Int → Int → Option (Bool)
 | 0,_,_,_=>none
 | k + 1,x7,x10,x11=>(q10_Groupings.f k x7).bind fun t426=>(if t426 = true then((q10_GroupingAt.f k x7).bind fun t427=>(if x10 = t427 then(if x11 = 0 then((w10_awake.f k).bind fun t428=>(some t428)) else(some false)) else(some false))) else(if x10 = 0 then(if x11 = 2 then((w10_awake.f k).bind fun t429=>(some t429)) else(some false)) else(some false)))
def w10_TurnsGroups.j1 : Nat → Int → Int → List Int → List Int → Int → Int → Int → Int → Bool → Option (Bool)
 | 0,_,_,_,_,_,_,_,_,_=>none
 | k + 1,x0,x1,x7,x8,x9,x10,x11,x12,x60=>if x60 = true then(some false) else(if x1 < 0 then(w10_TurnsGroups.j2 k x0 x1 x7 x8 x9 x10 x11 true) else(w10_TurnsGroups.j2 k x0 x1 x7 x8 x9 x10 x11 (decide (x1 ≥ x12))))
def w10_TurnsGroups.j2 : Nat → Int → Int → List Int → List Int → Int → Int → Int → Bool → Option (Bool)
 | 0,_,_,_,_,_,_,_,_=>none
 | k + 1,x0,x1,x7,x8,x9,x10,x11,x67=>if x67 = true then(if(x8.length : Int) = 0 then(if x9 = 2 then(w10_TurnsGroups.j3 k x7 x10 x11) else(some false)) else(some false)) else((q10_Grouping.f k x0 x1).bind fun t422=>((w10_ints.f k x8 t422).bind fun t425=>(if t425 = true then(if x9 = 0 then(w10_TurnsGroups.j3 k x7 x10 x11) else(some false)) else(some false))))
end
def w10_TurnsGroups.f (k : Nat) (a0 : Int) (a1 : Int) (l2 : List Int) : Option (Bool):=(w10_list.f l2).bind fun t410=>((turns_Grouping.f a0 a1).bind fun bt413=>((turns_GroupingAt.f t410).bind fun bt417=>((turns_Groupings.f a0).bind fun bt419=>(if a0 < 0 then(w10_TurnsGroups.j0 k a0 a1 t410 bt413.1 bt413.2 bt417.1 bt417.2 bt419.1 bt419.2 true) else(w10_TurnsGroups.j0 k a0 a1 t410 bt413.1 bt413.2 bt417.1 bt417.2 bt419.1 bt419.2 (decide (a0 > 20)))))))
set_option maxHeartbeats 8000000 in
set_option maxRecDepth 100000 in
theorem w10_TurnsGroups.calls (k : Nat) (a0 : Int) (a1 : Int) (A2 : Option Addr) (c2 : Nat) (l2 : List Int) (r : Bool) (w : World) (hr2 : Kd.C (Kd.int .i64) w A2 l2.length l2) (hc2 : l2.length ≤ c2) (h : w10_TurnsGroups.f k a0 a1 l2 = some r) :
  Calls Try.prog 9 #[.int .i64 a0,.int .i64 a1,.slice A2 l2.length c2] w fun e w'=>e = .returned (.bool r)∧Below w.heap.size w w':=by
 have HR2:=Aside0.mk hr2
 have HC2:=Aside0.mk hc2
 clear hr2 hc2
 have HB:=Aside0.mk (Below.refl w.heap.size w)
 have H :((w10_list.f l2).bind fun t410=>((turns_Grouping.f a0 a1).bind fun bt413=>((turns_GroupingAt.f t410).bind fun bt417=>((turns_Groupings.f a0).bind fun bt419=>(if a0 < 0 then(w10_TurnsGroups.j0 k a0 a1 t410 bt413.1 bt413.2 bt417.1 bt417.2 bt419.1 bt419.2 true) else(w10_TurnsGroups.j0 k a0 a1 t410 bt413.1 bt413.2 bt417.1 bt417.2 bt419.1 bt419.2 (decide (a0 > 20)))))))) = some r:=h
 clear h
 replace H:=Option.bind_eq_some_iff.mp H
 obtain ⟨t410,A40,H⟩:=H
 replace H :((turns_Grouping.f a0 a1).bind fun bt413=>((turns_GroupingAt.f t410).bind fun bt417=>((turns_Groupings.f a0).bind fun bt419=>(if a0 < 0 then(w10_TurnsGroups.j0 k a0 a1 t410 bt413.1 bt413.2 bt417.1 bt417.2 bt419.1 bt419.2 true) else(w10_TurnsGroups.j0 k a0 a1 t410 bt413.1 bt413.2 bt417.1 bt417.2 bt419.1 bt419.2 (decide (a0 > 20))))))) = some r:=H
 have A4:=Aside0.mk A40
 clear A40
 replace H:=Option.bind_eq_some_iff.mp H
 obtain ⟨⟨t413,t414⟩,A50,H⟩:=H
 replace H :((turns_GroupingAt.f t410).bind fun bt417=>((turns_Groupings.f a0).bind fun bt419=>(if a0 < 0 then(w10_TurnsGroups.j0 k a0 a1 t410 t413 t414 bt417.1 bt417.2 bt419.1 bt419.2 true) else(w10_TurnsGroups.j0 k a0 a1 t410 t413 t414 bt417.1 bt417.2 bt419.1 bt419.2 (decide (a0 > 20)))))) = some r:=H
 have A5:=Aside0.mk A50
 clear A50
 replace H:=Option.bind_eq_some_iff.mp H
 obtain ⟨⟨t417,t418⟩,A60,H⟩:=H
 replace H :((turns_Groupings.f a0).bind fun bt419=>(if a0 < 0 then(w10_TurnsGroups.j0 k a0 a1 t410 t413 t414 t417 t418 bt419.1 bt419.2 true) else(w10_TurnsGroups.j0 k a0 a1 t410 t413 t414 t417 t418 bt419.1 bt419.2 (decide (a0 > 20))))) = some r:=H
 have A6:=Aside0.mk A60
 clear A60
 replace H:=Option.bind_eq_some_iff.mp H
 obtain ⟨⟨t419,t420⟩,A70,H⟩:=H
 replace H :(if a0 < 0 then(w10_TurnsGroups.j0 k a0 a1 t410 t413 t414 t417 t418 t419 t420 true) else(w10_TurnsGroups.j0 k a0 a1 t410 t413 t414 t417 t418 t419 t420 (decide (a0 > 20)))) = some r:=H
 have A7:=Aside0.mk A70
 clear A70
 have HC8:=Aside0.mk H
 clear H
 go_enter Try.func9,Try.ntmps9
 go_upto_region 5 with (first |((with_reducible refine gate_callee (f:=16) rfl ?_);refine goesL_ (some 15) rfl rfl Try.func16 (by kernel_rfl) rfl #[.slice A2 l2.length c2] rfl (by(try simp only [List.map_toArray,List.map_cons,List.map_nil]);first | done | rfl |(simp only [List.length_drop,List.length_take];rfl)) ?_;(with_reducible refine(w10_list.calls _ _ l2 t410 _ ?side1 ?side2 A4.out).mono ?_);(case side1=>repeat(first | exact HR2.out |(with_reducible refine Kd.C_alloc ?_ _) |(with_reducible refine Kd.C_drewN ?_ _) |(with_reducible refine Kd.C_drew ?_)));(case side2=>exact HC2.out);rintro e w9 ⟨v411,rfl,ho0,hb⟩;refine⟨_,rfl,?_⟩;have n0_:=Aside0.mk (Kd.R_lower ho0 (bwZ (by repeat(first |(with_reducible first | exact HB.out | apply bwA | apply bwN | apply bw1) | exact HB.out))));have n1_:=Aside0.mk (bwT (by repeat(first |(with_reducible first | exact HB.out | apply bwA | apply bwN | apply bw1) | exact HB.out)) hb);clear HB;have HO412:=n0_;have HB:=n1_;clear n0_ n1_;(try clear hb);(try clear hb2);(try clear hk);(try clear hi);(try clear ho0)) |((with_reducible refine gate_callee (f:=39) rfl ?_);refine goesL_ (some 19) rfl rfl Try.func39 (by kernel_rfl) rfl #[.int .i64 a0,.int .i64 a1] rfl (by(try simp only [List.map_toArray,List.map_cons,List.map_nil]);first | done | rfl |(simp only [List.length_drop,List.length_take];rfl)) ?_;(with_reducible refine(turns_Grouping.calls a0 a1 t413 t414 _ A5.out).mono ?_);rintro e w10 ⟨v415,rfl,ho0,hb⟩;refine⟨_,rfl,?_⟩;have n0_:=Aside0.mk (Kd.R_elder' (by(with_reducible repeat(first | apply Kd.R_alloc | apply Kd.R_drewN | apply Kd.R_drew));exact HO412.out) (Kd.R_base ho0) hb);have n1_:=Aside0.mk (Kd.R_lower (Kd.R_new' ho0 (Kd.R_lt (by(with_reducible repeat(first | apply Kd.R_alloc | apply Kd.R_drewN | apply Kd.R_drew));exact HO412.out))) (bwZ (by repeat(first |(with_reducible first | exact HB.out | apply bwA | apply bwN | apply bw1) | exact HB.out))));have n2_:=Aside0.mk (bwT (by repeat(first |(with_reducible first | exact HB.out | apply bwA | apply bwN | apply bw1) | exact HB.out)) hb);clear HO412;clear HB;have HO412:=n0_;have HO416:=n1_;have HB:=n2_;clear n0_ n1_ n2_;(try clear hb);(try clear hb2);(try clear hk);(try clear hi);(try clear ho0);obtain ⟨Ao11,co11,eo11⟩:=Kd.R_slice HO412.out;subst eo11) |((with_reducible refine gate_callee (f:=40) rfl ?_);refine goesL_ (some 24) rfl rfl Try.func40 (by kernel_rfl) rfl #[.slice Ao11 t410.length co11] rfl (by(try simp only [List.map_toArray,List.map_cons,List.map_nil]);first | done | rfl |(simp only [List.length_drop,List.length_take];rfl)) ?_;(with_reducible refine(turns_GroupingAt.calls _ _ t410 t417 t418 _ ?side1 ?side2 A6.out).mono ?_);(case side1=>repeat(first | exact(Kd.R_reads' HO412.out).2.2 |(with_reducible refine Kd.C_alloc ?_ _) |(with_reducible refine Kd.C_drewN ?_ _) |(with_reducible refine Kd.C_drew ?_)));(case side2=>exact(Kd.R_reads' HO412.out).2.1);rintro e w12 ⟨rfl,hb⟩;refine⟨_,rfl,?_⟩;have n0_:=Aside0.mk (Kd.R_below (by(with_reducible repeat(first | apply Kd.R_alloc | apply Kd.R_drewN | apply Kd.R_drew));exact HO412.out) hb);have n1_:=Aside0.mk (Kd.R_below (by(with_reducible repeat(first | apply Kd.R_alloc | apply Kd.R_drewN | apply Kd.R_drew));exact HO416.out) hb);have n2_:=Aside0.mk (bwT (by repeat(first |(with_reducible first | exact HB.out | apply bwA | apply bwN | apply bw1) | exact HB.out)) hb);clear HO412;clear HO416;clear HB;have HO412:=n0_;have HO416:=n1_;have HB:=n2_;clear n0_ n1_ n2_;(try clear hb);(try clear hb2);(try clear hk);(try clear hi)) |((with_reducible refine gate_callee (f:=28) rfl ?_);refine goesL_ (some 29) rfl rfl Try.func28 (by kernel_rfl) rfl #[.int .i64 a0] rfl (by(try simp only [List.map_toArray,List.map_cons,List.map_nil]);first | done | rfl |(simp only [List.length_drop,List.length_take];rfl)) ?_;(with_reducible refine(turns_Groupings.calls a0 t419 t420 _ A7.out).mono ?_);rintro e w13 ⟨rfl,hb⟩;refine⟨_,rfl,?_⟩;have n0_:=Aside0.mk (Kd.R_below (by(with_reducible repeat(first | apply Kd.R_alloc | apply Kd.R_drewN | apply Kd.R_drew));exact HO412.out) hb);have n1_:=Aside0.mk (Kd.R_below (by(with_reducible repeat(first | apply Kd.R_alloc | apply Kd.R_drewN | apply Kd.R_drew));exact HO416.out) hb);have n2_:=Aside0.mk (bwT (by repeat(first |(with_reducible first | exact HB.out | apply bwA | apply bwN | apply bw1) | exact HB.out)) hb);clear HO412;clear HO416;clear HB;have HO412:=n0_;have HO416:=n1_;have HB:=n2_;clear n0_ n1_ n2_;(try clear hb);(try clear hb2);(try clear hk);(try clear hi)))
 (try simp only [Act.put,List.setIfInBounds_toArray,List.set_cons_zero,List.set_cons_succ])
 go_cut [37] (fun v37 wc=>∃ (kq : Nat) (x37_7 : Bool),v37 = .bool x37_7∧Aside0 (w10_TurnsGroups.j0 kq a0 a1 t410 t413 t414 t417 t418 t419 t420 x37_7 = some r)∧Aside0 (kq≤k)∧Aside0 (Kd.R (Kd.int .i64) 3 wc w.heap.size (fun k_=>some k_ ≠(v415 : Value).ownBlock) (.slice Ao11 t410.length co11) t410)∧Aside0 (Kd.R (Kd.int .i64) 3 wc w.heap.size (fun k_=>some k_ ≠((.slice Ao11 t410.length co11) : Value).ownBlock) v415 t413)∧Aside0 (Below w.heap.size w wc))
 case first =>
  have H:=HC8.out
  clear HC8
  by_cases c14 : a0 < 0
  ·rw [if_pos c14] at H
   have c14b0 : decide (a0 < 0) = true:=decide_eq_true c14
   clear c14
   (first | rw [c14b0] |(simp only [i64_w,i32_w];rw [c14b0]) | skip)
   have H':=Aside0.mk H
   clear H
   go_wp2
   go_meet
   exact⟨_,(true),(by first | rfl |(simp;done) |(simp [*];done)),H',⟨by first | omega | exact Nat.le_refl _⟩,⟨by(with_reducible repeat(first | apply Kd.R_alloc | apply Kd.R_drewN | apply Kd.R_drew));exact Kd.R_mono HO412.out (fun _ hk=>hk.2)⟩,⟨by(with_reducible repeat(first | apply Kd.R_alloc | apply Kd.R_drewN | apply Kd.R_drew));exact Kd.R_mono HO416.out (fun _ hk=>hk.2)⟩,⟨by repeat(first |(with_reducible first | exact HB.out | apply bwA | apply bwN | apply bw1) | exact HB.out)⟩⟩
  rw [if_neg c14] at H
  have c14b0 : decide (a0 < 0) = false:=decide_eq_false c14
  clear c14
  (first | rw [c14b0] |(simp only [i64_w,i32_w];rw [c14b0]) | skip)
  have H':=Aside0.mk H
  clear H
  go_wp2
  go_meet
  exact⟨_,(decide (a0 > 20)),(by first | rfl |(simp;done) |(simp [*];done)),H',⟨by first | omega | exact Nat.le_refl _⟩,⟨by(with_reducible repeat(first | apply Kd.R_alloc | apply Kd.R_drewN | apply Kd.R_drew));exact Kd.R_mono HO412.out (fun _ hk=>hk.2)⟩,⟨by(with_reducible repeat(first | apply Kd.R_alloc | apply Kd.R_drewN | apply Kd.R_drew));exact Kd.R_mono HO416.out (fun _ hk=>hk.2)⟩,⟨by repeat(first |(with_reducible first | exact HB.out | apply bwA | apply bwN | apply bw1) | exact HB.out)⟩⟩
 case rest =>
  clear HC8
  try clear c1
  try clear c2
  try clear p2
  try clear c3
  try clear c4
  try clear c9
  try clear c14
  try clear c14b0
  obtain ⟨kq,x37_7,rfl,HA,HJ7,HO_7,HO_8,HB⟩:=hcut
  cases kq with
  | zero=>exact absurd HA.out (by simp [w10_TurnsGroups.j0])
  | succ kj7 =>
   have H:=HA.out
   clear HA
   simp only [w10_TurnsGroups.j0] at H
   have HC15:=Aside0.mk H
   clear H
   go_upto_if 37 with (fail)
   go_cut [] (fun wc=>∃ (kq : Nat),Aside0 (w10_TurnsGroups.j3 kq t410 t417 t418 = some r)∧Aside0 (kq≤kj7)∧Aside0 (Kd.R (Kd.int .i64) 3 wc w.heap.size (fun _=>True) (.slice Ao11 t410.length co11) t410)∧Aside0 (Below w.heap.size w wc))
   case first =>
    have H:=HC15.out
    clear HC15
    by_cases c16 : x37_7 = true
    ·subst c16
     have H1 :(if(t413.length : Int) = 0 then(if t414 = 2 then(if t419 = 0 then(if t420 = 2 then(w10_TurnsGroups.j3 kj7 t410 t417 t418) else(some false)) else(some false)) else(some false)) else(some false)) = some r:=by rw [if_pos rfl] at H;exact H
     clear H
     have H:=H1
     clear H1
     by_cases c17 :(t413.length : Int) = 0
     rotate_left
     ·rw [if_neg c17] at H
      have c17b0 :((t413.length : Int) == 0) = false:=beq_eq_false_iff_ne.mpr c17
      have c17b1 :((t413.length : Int) != 0) = true:=bne_iff_ne.mpr c17
      have c17b2 : ¬ (t413 = []):=fun h_=>c17 (by rw [h_];rfl)
      (first | rw [c17b0] |(simp only [i64_w,i32_w];rw [c17b0]) | skip)
      obtain rfl:=Option.some.inj H
      obtain ⟨Ao25,co25,eo25⟩:=Kd.R_slice HO_8.out
      subst eo25
      go_wp2
      go_ret
      exact⟨by first | rfl |(simp [errW_none,errW_some] <;> rfl) |(simp [*,errW_none,errW_some] <;> rfl),by repeat(first |(with_reducible first | exact HB.out | apply bwA | apply bwN | apply bw1) | exact HB.out)⟩
     rw [if_pos c17] at H
     have c17b0 :((t413.length : Int) == 0) = true:=beq_iff_eq.mpr c17
     have c17b1 :((t413.length : Int) != 0) = false:=bne_eq_false_iff_eq.mpr c17
     clear c17
     (first | rw [c17b0] |(simp only [i64_w,i32_w];rw [c17b0]) | skip)
     by_cases c18 : t414 = 2
     rotate_left
     ·rw [if_neg c18] at H
      have c18b0 :(t414 == 2) = false:=beq_eq_false_iff_ne.mpr c18
      have c18b1 :(t414 != 2) = true:=bne_iff_ne.mpr c18
      obtain rfl:=Option.some.inj H
      obtain ⟨Ao24,co24,eo24⟩:=Kd.R_slice HO_8.out
      subst eo24
      go_wp2
      go_ret
      exact⟨by first | rfl |(simp [errW_none,errW_some] <;> rfl) |(simp [*,errW_none,errW_some] <;> rfl),by repeat(first |(with_reducible first | exact HB.out | apply bwA | apply bwN | apply bw1) | exact HB.out)⟩
     rw [if_pos c18] at H
     have c18b0 :(t414 == 2) = true:=beq_iff_eq.mpr c18
     have c18b1 :(t414 != 2) = false:=bne_eq_false_iff_eq.mpr c18
     clear c18
     by_cases c19 : t419 = 0
     rotate_left
     ·rw [if_neg c19] at H
      have c19b0 :(t419 == 0) = false:=beq_eq_false_iff_ne.mpr c19
      have c19b1 :(t419 != 0) = true:=bne_iff_ne.mpr c19
      obtain rfl:=Option.some.inj H
      obtain ⟨Ao23,co23,eo23⟩:=Kd.R_slice HO_8.out
      subst eo23
      go_wp2
      go_ret
      exact⟨by first | rfl |(simp [errW_none,errW_some] <;> rfl) |(simp [*,errW_none,errW_some] <;> rfl),by repeat(first |(with_reducible first | exact HB.out | apply bwA | apply bwN | apply bw1) | exact HB.out)⟩
     rw [if_pos c19] at H
     have c19b0 :(t419 == 0) = true:=beq_iff_eq.mpr c19
     have c19b1 :(t419 != 0) = false:=bne_eq_false_iff_eq.mpr c19
     clear c19
     by_cases c20 : t420 = 2
     rotate_left
     ·rw [if_neg c20] at H
      have c20b0 :(t420 == 2) = false:=beq_eq_false_iff_ne.mpr c20
      have c20b1 :(t420 != 2) = true:=bne_iff_ne.mpr c20
      obtain rfl:=Option.some.inj H
      obtain ⟨Ao22,co22,eo22⟩:=Kd.R_slice HO_8.out
      subst eo22
      go_wp2
      go_ret
      exact⟨by first | rfl |(simp [errW_none,errW_some] <;> rfl) |(simp [*,errW_none,errW_some] <;> rfl),by repeat(first |(with_reducible first | exact HB.out | apply bwA | apply bwN | apply bw1) | exact HB.out)⟩
     rw [if_pos c20] at H
     have c20b0 :(t420 == 2) = true:=beq_iff_eq.mpr c20
     have c20b1 :(t420 != 2) = false:=bne_eq_false_iff_eq.mpr c20
     clear c20
     have H':=Aside0.mk H
     clear H
     obtain ⟨Ao21,co21,eo21⟩:=Kd.R_slice HO_8.out
     subst eo21
     go_wp2
     go_meet
     exact⟨_,H',⟨by have:=HJ7.out;first | omega | exact Nat.le_refl _⟩,⟨by(with_reducible repeat(first | apply Kd.R_alloc | apply Kd.R_drewN | apply Kd.R_drew));exact Kd.R_mono HO_7.out (fun _ hk=>trivial)⟩,⟨by repeat(first |(with_reducible first | exact HB.out | apply bwA | apply bwN | apply bw1) | exact HB.out)⟩⟩
    replace c16:=Bool.eq_false_iff.mpr c16
    subst c16
    have H1 :((q10_Groups.f kj7 0 a0).bind fun t421=>(if t419 = t421 then(w10_TurnsGroups.j1 kj7 a0 a1 t410 t413 t414 t417 t418 t419 (t420 != 0)) else(w10_TurnsGroups.j1 kj7 a0 a1 t410 t413 t414 t417 t418 t419 true))) = some r:=by rw [if_neg (show ¬ (false = true) by decide)] at H;exact H
    clear H
    have H:=H1
    clear H1
    have HC26:=Aside0.mk H
    clear H
    go_upto_region 8 with (fail)
    go_cut [60] (fun v60 wc=>∃ (kq : Nat) (x60_25 : Bool),v60 = .bool x60_25∧Aside0 (w10_TurnsGroups.j1 kq a0 a1 t410 t413 t414 t417 t418 t419 x60_25 = some r)∧Aside0 (kq≤kj7)∧Aside0 (Kd.R (Kd.int .i64) 3 wc w.heap.size (fun k_=>some k_ ≠(v415 : Value).ownBlock) (.slice Ao11 t410.length co11) t410)∧Aside0 (Kd.R (Kd.int .i64) 3 wc w.heap.size (fun k_=>some k_ ≠((.slice Ao11 t410.length co11) : Value).ownBlock) v415 t413)∧Aside0 (Below w.heap.size w wc))
    case first =>
     have H:=HC26.out
     clear HC26
     replace H:=Option.bind_eq_some_iff.mp H
     obtain ⟨t421,A270,H⟩:=H
     replace H :(if t419 = t421 then(w10_TurnsGroups.j1 kj7 a0 a1 t410 t413 t414 t417 t418 t419 (t420 != 0)) else(w10_TurnsGroups.j1 kj7 a0 a1 t410 t413 t414 t417 t418 t419 true)) = some r:=H
     have A27:=Aside0.mk A270
     clear A270
     by_cases c28 : t419 = t421
     rotate_left
     ·rw [if_neg c28] at H
      have c28b0 :(t419 == t421) = false:=beq_eq_false_iff_ne.mpr c28
      have c28b1 :(t419 != t421) = true:=bne_iff_ne.mpr c28
      (first | rw [c28b0] |(simp only [i64_w,i32_w];rw [c28b0]) | skip)
      have H':=Aside0.mk H
      clear H
      go_wp2_with (first |((with_reducible refine gate_callee (f:=41) rfl ?_);refine goesL_ (some 55) rfl rfl Try.func41 (by kernel_rfl) rfl #[.int .i64 0,.int .i64 a0] rfl (by(try simp only [List.map_toArray,List.map_cons,List.map_nil]);first | done | rfl |(simp only [List.length_drop,List.length_take];rfl)) ?_;(with_reducible refine(q10_Groups.calls kj7 0 a0 t421 _ A27.out).mono ?_);rintro e w30 ⟨rfl,hb⟩;refine⟨_,rfl,?_⟩;have n0_:=Aside0.mk (Kd.R_below (by(with_reducible repeat(first | apply Kd.R_alloc | apply Kd.R_drewN | apply Kd.R_drew));exact HO_7.out) hb);have n1_:=Aside0.mk (Kd.R_below (by(with_reducible repeat(first | apply Kd.R_alloc | apply Kd.R_drewN | apply Kd.R_drew));exact HO_8.out) hb);have n2_:=Aside0.mk (bwT (by repeat(first |(with_reducible first | exact HB.out | apply bwA | apply bwN | apply bw1) | exact HB.out)) hb);clear HO_7;clear HO_8;clear HB;have HO_7:=n0_;have HO_8:=n1_;have HB:=n2_;clear n0_ n1_ n2_;(try clear hb);(try clear hb2);(try clear hk);(try clear hi)))
      go_meet
      exact⟨_,(true),(by first | rfl |(simp;done) |(simp [*];done)),H',⟨by have:=HJ7.out;first | omega | exact Nat.le_refl _⟩,⟨by(with_reducible repeat(first | apply Kd.R_alloc | apply Kd.R_drewN | apply Kd.R_drew));exact HO_7.out⟩,⟨by(with_reducible repeat(first | apply Kd.R_alloc | apply Kd.R_drewN | apply Kd.R_drew));exact HO_8.out⟩,⟨by repeat(first |(with_reducible first | exact HB.out | apply bwA | apply bwN | apply bw1) | exact HB.out)⟩⟩
     rw [if_pos c28] at H
     have c28b0 :(t419 == t421) = true:=beq_iff_eq.mpr c28
     have c28b1 :(t419 != t421) = false:=bne_eq_false_iff_eq.mpr c28
     clear c28
     (first | rw [c28b0] |(simp only [i64_w,i32_w];rw [c28b0]) | skip)
     have H':=Aside0.mk H
     clear H
     go_wp2_with (first |((with_reducible refine gate_callee (f:=41) rfl ?_);refine goesL_ (some 55) rfl rfl Try.func41 (by kernel_rfl) rfl #[.int .i64 0,.int .i64 a0] rfl (by(try simp only [List.map_toArray,List.map_cons,List.map_nil]);first | done | rfl |(simp only [List.length_drop,List.length_take];rfl)) ?_;(with_reducible refine(q10_Groups.calls kj7 0 a0 t421 _ A27.out).mono ?_);rintro e w29 ⟨rfl,hb⟩;refine⟨_,rfl,?_⟩;have n0_:=Aside0.mk (Kd.R_below (by(with_reducible repeat(first | apply Kd.R_alloc | apply Kd.R_drewN | apply Kd.R_drew));exact HO_7.out) hb);have n1_:=Aside0.mk (Kd.R_below (by(with_reducible repeat(first | apply Kd.R_alloc | apply Kd.R_drewN | apply Kd.R_drew));exact HO_8.out) hb);have n2_:=Aside0.mk (bwT (by repeat(first |(with_reducible first | exact HB.out | apply bwA | apply bwN | apply bw1) | exact HB.out)) hb);clear HO_7;clear HO_8;clear HB;have HO_7:=n0_;have HO_8:=n1_;have HB:=n2_;clear n0_ n1_ n2_;(try clear hb);(try clear hb2);(try clear hk);(try clear hi)))
     go_meet
     exact⟨_,((t420 != 0)),(by first | rfl |(simp;done) |(simp [*];done)),H',⟨by have:=HJ7.out;first | omega | exact Nat.le_refl _⟩,⟨by(with_reducible repeat(first | apply Kd.R_alloc | apply Kd.R_drewN | apply Kd.R_drew));exact HO_7.out⟩,⟨by(with_reducible repeat(first | apply Kd.R_alloc | apply Kd.R_drewN | apply Kd.R_drew));exact HO_8.out⟩,⟨by repeat(first |(with_reducible first | exact HB.out | apply bwA | apply bwN | apply bw1) | exact HB.out)⟩⟩
    case rest =>
     clear HC26
     try clear c1
     try clear c2
     try clear p2
     try clear c3
     try clear c4
     try clear c9
     try clear c14
     try clear c14b0
     try clear c16
     try clear c17
     try clear c17b0
     try clear c17b1
     try clear c17b2
     try clear c18
     try clear c18b0
     try clear c18b1
     try clear c19
     try clear c19b0
     try clear c19b1
     try clear c20
     try clear c20b0
     try clear c20b1
     try clear c28
     try clear c28b0
     try clear c28b1
     try clear p2
     obtain ⟨kq,x60_25,rfl,HA,HJ25,HO_7,HO_8,HB⟩:=hcut
     cases kq with
     | zero=>exact absurd HA.out (by simp [w10_TurnsGroups.j1])
     | succ kj25 =>
      have H:=HA.out
      clear HA
      simp only [w10_TurnsGroups.j1] at H
      by_cases c31 : x60_25 = true
      ·subst c31
       have H1 :(some false) = some r:=by rw [if_pos rfl] at H;exact H
       clear H
       have H:=H1
       clear H1
       obtain rfl:=Option.some.inj H
       go_wp2
       go_ret
       exact⟨by first | rfl |(simp [errW_none,errW_some] <;> rfl) |(simp [*,errW_none,errW_some] <;> rfl),by repeat(first |(with_reducible first | exact HB.out | apply bwA | apply bwN | apply bw1) | exact HB.out)⟩
      replace c31:=Bool.eq_false_iff.mpr c31
      subst c31
      have H1 :(if a1 < 0 then(w10_TurnsGroups.j2 kj25 a0 a1 t410 t413 t414 t417 t418 true) else(w10_TurnsGroups.j2 kj25 a0 a1 t410 t413 t414 t417 t418 (decide (a1 ≥ t419)))) = some r:=by rw [if_neg (show ¬ (false = true) by decide)] at H;exact H
      clear H
      have H:=H1
      clear H1
      have HC32:=Aside0.mk H
      clear H
      go_upto_region 10 with (fail)
      go_cut [67] (fun v67 wc=>∃ (kq : Nat) (x67_31 : Bool),v67 = .bool x67_31∧Aside0 (w10_TurnsGroups.j2 kq a0 a1 t410 t413 t414 t417 t418 x67_31 = some r)∧Aside0 (kq≤kj25)∧Aside0 (Kd.R (Kd.int .i64) 3 wc w.heap.size (fun k_=>some k_ ≠(v415 : Value).ownBlock) (.slice Ao11 t410.length co11) t410)∧Aside0 (Kd.R (Kd.int .i64) 3 wc w.heap.size (fun k_=>some k_ ≠((.slice Ao11 t410.length co11) : Value).ownBlock) v415 t413)∧Aside0 (Below w.heap.size w wc))
      case first =>
       have H:=HC32.out
       clear HC32
       by_cases c33 : a1 < 0
       ·rw [if_pos c33] at H
        have c33b0 : decide (a1 < 0) = true:=decide_eq_true c33
        clear c33
        (first | rw [c33b0] |(simp only [i64_w,i32_w];rw [c33b0]) | skip)
        have H':=Aside0.mk H
        clear H
        go_wp2
        go_meet
        exact⟨_,(true),(by first | rfl |(simp;done) |(simp [*];done)),H',⟨by have:=HJ7.out;have:=HJ25.out;first | omega | exact Nat.le_refl _⟩,⟨by(with_reducible repeat(first | apply Kd.R_alloc | apply Kd.R_drewN | apply Kd.R_drew));exact HO_7.out⟩,⟨by(with_reducible repeat(first | apply Kd.R_alloc | apply Kd.R_drewN | apply Kd.R_drew));exact HO_8.out⟩,⟨by repeat(first |(with_reducible first | exact HB.out | apply bwA | apply bwN | apply bw1) | exact HB.out)⟩⟩
       rw [if_neg c33] at H
       have c33b0 : decide (a1 < 0) = false:=decide_eq_false c33
       clear c33
       (first | rw [c33b0] |(simp only [i64_w,i32_w];rw [c33b0]) | skip)
       have H':=Aside0.mk H
       clear H
       go_wp2
       go_meet
       exact⟨_,(decide (a1 ≥ t419)),(by first | rfl |(simp;done) |(simp [*];done)),H',⟨by have:=HJ7.out;have:=HJ25.out;first | omega | exact Nat.le_refl _⟩,⟨by(with_reducible repeat(first | apply Kd.R_alloc | apply Kd.R_drewN | apply Kd.R_drew));exact HO_7.out⟩,⟨by(with_reducible repeat(first | apply Kd.R_alloc | apply Kd.R_drewN | apply Kd.R_drew));exact HO_8.out⟩,⟨by repeat(first |(with_reducible first | exact HB.out | apply bwA | apply bwN | apply bw1) | exact HB.out)⟩⟩
      case rest =>
       clear HC32
       try clear c1
       try clear c2
       try clear p2
       try clear c3
       try clear c4
       try clear c9
       try clear c14
       try clear c14b0
       try clear c16
       try clear c17
       try clear c17b0
       try clear c17b1
       try clear c17b2
       try clear c18
       try clear c18b0
       try clear c18b1
       try clear c19
       try clear c19b0
       try clear c19b1
       try clear c20
       try clear c20b0
       try clear c20b1
       try clear c28
       try clear c28b0
       try clear c28b1
       try clear c31
       try clear c33
       try clear c33b0
       try clear p2
       obtain ⟨kq,x67_31,rfl,HA,HJ31,HO_7,HO_8,HB⟩:=hcut
       cases kq with
       | zero=>exact absurd HA.out (by simp [w10_TurnsGroups.j2])
       | succ kj31 =>
        have H:=HA.out
        clear HA
        simp only [w10_TurnsGroups.j2] at H
        by_cases c34 : x67_31 = true
        ·subst c34
         have H1 :(if(t413.length : Int) = 0 then(if t414 = 2 then(w10_TurnsGroups.j3 kj31 t410 t417 t418) else(some false)) else(some false)) = some r:=by rw [if_pos rfl] at H;exact H
         clear H
         have H:=H1
         clear H1
         by_cases c35 :(t413.length : Int) = 0
         rotate_left
         ·rw [if_neg c35] at H
          have c35b0 :((t413.length : Int) == 0) = false:=beq_eq_false_iff_ne.mpr c35
          have c35b1 :((t413.length : Int) != 0) = true:=bne_iff_ne.mpr c35
          have c35b2 : ¬ (t413 = []):=fun h_=>c35 (by rw [h_];rfl)
          obtain rfl:=Option.some.inj H
          obtain ⟨Ao39,co39,eo39⟩:=Kd.R_slice HO_8.out
          subst eo39
          go_wp2
          go_ret
          exact⟨by first | rfl |(simp [errW_none,errW_some] <;> rfl) |(simp [*,errW_none,errW_some] <;> rfl),by repeat(first |(with_reducible first | exact HB.out | apply bwA | apply bwN | apply bw1) | exact HB.out)⟩
         rw [if_pos c35] at H
         have c35b0 :((t413.length : Int) == 0) = true:=beq_iff_eq.mpr c35
         have c35b1 :((t413.length : Int) != 0) = false:=bne_eq_false_iff_eq.mpr c35
         clear c35
         by_cases c36 : t414 = 2
         rotate_left
         ·rw [if_neg c36] at H
          have c36b0 :(t414 == 2) = false:=beq_eq_false_iff_ne.mpr c36
          have c36b1 :(t414 != 2) = true:=bne_iff_ne.mpr c36
          obtain rfl:=Option.some.inj H
          obtain ⟨Ao38,co38,eo38⟩:=Kd.R_slice HO_8.out
          subst eo38
          go_wp2
          go_ret
          exact⟨by first | rfl |(simp [errW_none,errW_some] <;> rfl) |(simp [*,errW_none,errW_some] <;> rfl),by repeat(first |(with_reducible first | exact HB.out | apply bwA | apply bwN | apply bw1) | exact HB.out)⟩
         rw [if_pos c36] at H
         have c36b0 :(t414 == 2) = true:=beq_iff_eq.mpr c36
         have c36b1 :(t414 != 2) = false:=bne_eq_false_iff_eq.mpr c36
         clear c36
         have H':=Aside0.mk H
         clear H
         obtain ⟨Ao37,co37,eo37⟩:=Kd.R_slice HO_8.out
         subst eo37
         go_wp2
         go_meet
         exact⟨_,H',⟨by have:=HJ7.out;have:=HJ25.out;have:=HJ31.out;first | omega | exact Nat.le_refl _⟩,⟨by(with_reducible repeat(first | apply Kd.R_alloc | apply Kd.R_drewN | apply Kd.R_drew));exact Kd.R_mono HO_7.out (fun _ hk=>trivial)⟩,⟨by repeat(first |(with_reducible first | exact HB.out | apply bwA | apply bwN | apply bw1) | exact HB.out)⟩⟩
        replace c34:=Bool.eq_false_iff.mpr c34
        subst c34
        have H1 :((q10_Grouping.f kj31 a0 a1).bind fun t422=>((w10_ints.f kj31 t413 t422).bind fun t425=>(if t425 = true then(if t414 = 0 then(w10_TurnsGroups.j3 kj31 t410 t417 t418) else(some false)) else(some false)))) = some r:=by rw [if_neg (show ¬ (false = true) by decide)] at H;exact H
        clear H
        have H:=H1
        clear H1
        replace H:=Option.bind_eq_some_iff.mp H
        obtain ⟨t422,A400,H⟩:=H
        replace H :((w10_ints.f kj31 t413 t422).bind fun t425=>(if t425 = true then(if t414 = 0 then(w10_TurnsGroups.j3 kj31 t410 t417 t418) else(some false)) else(some false))) = some r:=H
        have A40:=Aside0.mk A400
        clear A400
        replace H:=Option.bind_eq_some_iff.mp H
        obtain ⟨t425,A410,H⟩:=H
        replace H :(if t425 = true then(if t414 = 0 then(w10_TurnsGroups.j3 kj31 t410 t417 t418) else(some false)) else(some false)) = some r:=H
        have A41:=Aside0.mk A410
        clear A410
        by_cases c42 : t425 = true
        rotate_left
        ·replace c42 := Bool.eq_false_iff.mpr c42
         subst c42
         have H1 :(some false) = some r:=by rw [if_neg (show ¬ (false = true) by decide)] at H;exact H
         clear H
         have H:=H1
         clear H1
         obtain rfl:=Option.some.inj H
         go_wp2_with (first |((with_reducible refine gate_callee (f:=42) rfl ?_);refine goesL_ (some 78) rfl rfl Try.func42 (by kernel_rfl) rfl #[.int .i64 a0,.int .i64 a1] rfl (by(try simp only [List.map_toArray,List.map_cons,List.map_nil]);first | done | rfl |(simp only [List.length_drop,List.length_take];rfl)) ?_;(with_reducible refine(q10_Grouping.calls kj31 a0 a1 t422 _ A40.out).mono ?_);rintro e w50 ⟨v423,rfl,ho0,hb⟩;refine⟨_,rfl,?_⟩;have n0_:=Aside0.mk (Kd.R_elder' (by(with_reducible repeat(first | apply Kd.R_alloc | apply Kd.R_drewN | apply Kd.R_drew));exact HO_7.out) (Kd.R_base ho0) hb);have n1_:=Aside0.mk (Kd.R_elder' (by(with_reducible repeat(first | apply Kd.R_alloc | apply Kd.R_drewN | apply Kd.R_drew));exact HO_8.out) (Kd.R_base ho0) hb);have n2_:=Aside0.mk (Kd.R_lower (Kd.R_new' (Kd.R_new' ho0 (Kd.R_lt (by(with_reducible repeat(first | apply Kd.R_alloc | apply Kd.R_drewN | apply Kd.R_drew));exact HO_7.out))) (Kd.R_lt (by(with_reducible repeat(first | apply Kd.R_alloc | apply Kd.R_drewN | apply Kd.R_drew));exact HO_8.out))) (bwZ (by repeat(first |(with_reducible first | exact HB.out | apply bwA | apply bwN | apply bw1) | exact HB.out))));have n3_:=Aside0.mk (bwT (by repeat(first |(with_reducible first | exact HB.out | apply bwA | apply bwN | apply bw1) | exact HB.out)) hb);clear HO_7;clear HO_8;clear HB;have HO_7:=n0_;have HO_8:=n1_;have HO424:=n2_;have HB:=n3_;clear n0_ n1_ n2_ n3_;(try clear hb);(try clear hb2);(try clear hk);(try clear hi);(try clear ho0);obtain ⟨Ao51,co51,eo51⟩:=Kd.R_slice HO_8.out;subst eo51;obtain ⟨Ao52,co52,eo52⟩:=Kd.R_slice HO424.out;subst eo52) |((with_reducible refine gate_callee (f:=22) rfl ?_);refine goesL_ (some 79) rfl rfl Try.func22 (by kernel_rfl) rfl #[.slice Ao51 t413.length co51,.slice Ao52 t422.length co52] rfl (by(try simp only [List.map_toArray,List.map_cons,List.map_nil]);first | done | rfl |(simp only [List.length_drop,List.length_take];rfl)) ?_;(with_reducible refine(w10_ints.calls kj31 _ _ t413 _ _ t422 false _ ?side1 ?side2 ?side3 ?side4 A41.out).mono ?_);(case side1=>repeat(first | exact(Kd.R_reads' HO_8.out).2.2 |(with_reducible refine Kd.C_alloc ?_ _) |(with_reducible refine Kd.C_drewN ?_ _) |(with_reducible refine Kd.C_drew ?_)));(case side2=>exact(Kd.R_reads' HO_8.out).2.1);(case side3=>repeat(first | exact(Kd.R_reads' HO424.out).2.2 |(with_reducible refine Kd.C_alloc ?_ _) |(with_reducible refine Kd.C_drewN ?_ _) |(with_reducible refine Kd.C_drew ?_)));(case side4=>exact(Kd.R_reads' HO424.out).2.1);rintro e w' ⟨rfl,⟨nd,rfl⟩⟩;refine⟨_,rfl,?_⟩))
         go_ret
         exact⟨by first | rfl |(simp [errW_none,errW_some] <;> rfl) |(simp [*,errW_none,errW_some] <;> rfl),by repeat(first |(with_reducible first | exact HB.out | apply bwA | apply bwN | apply bw1) | exact HB.out)⟩
        subst c42
        have H1 :(if t414 = 0 then(w10_TurnsGroups.j3 kj31 t410 t417 t418) else(some false)) = some r:=by rw [if_pos rfl] at H;exact H
        clear H
        have H:=H1
        clear H1
        by_cases c43 : t414 = 0
        rotate_left
        ·rw [if_neg c43] at H
         have c43b0 :(t414 == 0) = false:=beq_eq_false_iff_ne.mpr c43
         have c43b1 :(t414 != 0) = true:=bne_iff_ne.mpr c43
         obtain rfl:=Option.some.inj H
         go_wp2_with (first |((with_reducible refine gate_callee (f:=42) rfl ?_);refine goesL_ (some 78) rfl rfl Try.func42 (by kernel_rfl) rfl #[.int .i64 a0,.int .i64 a1] rfl (by(try simp only [List.map_toArray,List.map_cons,List.map_nil]);first | done | rfl |(simp only [List.length_drop,List.length_take];rfl)) ?_;(with_reducible refine(q10_Grouping.calls kj31 a0 a1 t422 _ A40.out).mono ?_);rintro e w47 ⟨v423,rfl,ho0,hb⟩;refine⟨_,rfl,?_⟩;have n0_:=Aside0.mk (Kd.R_elder' (by(with_reducible repeat(first | apply Kd.R_alloc | apply Kd.R_drewN | apply Kd.R_drew));exact HO_7.out) (Kd.R_base ho0) hb);have n1_:=Aside0.mk (Kd.R_elder' (by(with_reducible repeat(first | apply Kd.R_alloc | apply Kd.R_drewN | apply Kd.R_drew));exact HO_8.out) (Kd.R_base ho0) hb);have n2_:=Aside0.mk (Kd.R_lower (Kd.R_new' (Kd.R_new' ho0 (Kd.R_lt (by(with_reducible repeat(first | apply Kd.R_alloc | apply Kd.R_drewN | apply Kd.R_drew));exact HO_7.out))) (Kd.R_lt (by(with_reducible repeat(first | apply Kd.R_alloc | apply Kd.R_drewN | apply Kd.R_drew));exact HO_8.out))) (bwZ (by repeat(first |(with_reducible first | exact HB.out | apply bwA | apply bwN | apply bw1) | exact HB.out))));have n3_:=Aside0.mk (bwT (by repeat(first |(with_reducible first | exact HB.out | apply bwA | apply bwN | apply bw1) | exact HB.out)) hb);clear HO_7;clear HO_8;clear HB;have HO_7:=n0_;have HO_8:=n1_;have HO424:=n2_;have HB:=n3_;clear n0_ n1_ n2_ n3_;(try clear hb);(try clear hb2);(try clear hk);(try clear hi);(try clear ho0);obtain ⟨Ao48,co48,eo48⟩:=Kd.R_slice HO_8.out;subst eo48;obtain ⟨Ao49,co49,eo49⟩:=Kd.R_slice HO424.out;subst eo49) |((with_reducible refine gate_callee (f:=22) rfl ?_);refine goesL_ (some 79) rfl rfl Try.func22 (by kernel_rfl) rfl #[.slice Ao48 t413.length co48,.slice Ao49 t422.length co49] rfl (by(try simp only [List.map_toArray,List.map_cons,List.map_nil]);first | done | rfl |(simp only [List.length_drop,List.length_take];rfl)) ?_;(with_reducible refine(w10_ints.calls kj31 _ _ t413 _ _ t422 true _ ?side1 ?side2 ?side3 ?side4 A41.out).mono ?_);(case side1=>repeat(first | exact(Kd.R_reads' HO_8.out).2.2 |(with_reducible refine Kd.C_alloc ?_ _) |(with_reducible refine Kd.C_drewN ?_ _) |(with_reducible refine Kd.C_drew ?_)));(case side2=>exact(Kd.R_reads' HO_8.out).2.1);(case side3=>repeat(first | exact(Kd.R_reads' HO424.out).2.2 |(with_reducible refine Kd.C_alloc ?_ _) |(with_reducible refine Kd.C_drewN ?_ _) |(with_reducible refine Kd.C_drew ?_)));(case side4=>exact(Kd.R_reads' HO424.out).2.1);rintro e w' ⟨rfl,⟨nd,rfl⟩⟩;refine⟨_,rfl,?_⟩))
         go_ret
         exact⟨by first | rfl |(simp [errW_none,errW_some] <;> rfl) |(simp [*,errW_none,errW_some] <;> rfl),by repeat(first |(with_reducible first | exact HB.out | apply bwA | apply bwN | apply bw1) | exact HB.out)⟩
        rw [if_pos c43] at H
        have c43b0 :(t414 == 0) = true:=beq_iff_eq.mpr c43
        have c43b1 :(t414 != 0) = false:=bne_eq_false_iff_eq.mpr c43
        clear c43
        have H':=Aside0.mk H
        clear H
        go_wp2_with (first |((with_reducible refine gate_callee (f:=42) rfl ?_);refine goesL_ (some 78) rfl rfl Try.func42 (by kernel_rfl) rfl #[.int .i64 a0,.int .i64 a1] rfl (by(try simp only [List.map_toArray,List.map_cons,List.map_nil]);first | done | rfl |(simp only [List.length_drop,List.length_take];rfl)) ?_;(with_reducible refine(q10_Grouping.calls kj31 a0 a1 t422 _ A40.out).mono ?_);rintro e w44 ⟨v423,rfl,ho0,hb⟩;refine⟨_,rfl,?_⟩;have n0_:=Aside0.mk (Kd.R_elder' (by(with_reducible repeat(first | apply Kd.R_alloc | apply Kd.R_drewN | apply Kd.R_drew));exact HO_7.out) (Kd.R_base ho0) hb);have n1_:=Aside0.mk (Kd.R_elder' (by(with_reducible repeat(first | apply Kd.R_alloc | apply Kd.R_drewN | apply Kd.R_drew));exact HO_8.out) (Kd.R_base ho0) hb);have n2_:=Aside0.mk (Kd.R_lower (Kd.R_new' (Kd.R_new' ho0 (Kd.R_lt (by(with_reducible repeat(first | apply Kd.R_alloc | apply Kd.R_drewN | apply Kd.R_drew));exact HO_7.out))) (Kd.R_lt (by(with_reducible repeat(first | apply Kd.R_alloc | apply Kd.R_drewN | apply Kd.R_drew));exact HO_8.out))) (bwZ (by repeat(first |(with_reducible first | exact HB.out | apply bwA | apply bwN | apply bw1) | exact HB.out))));have n3_:=Aside0.mk (bwT (by repeat(first |(with_reducible first | exact HB.out | apply bwA | apply bwN | apply bw1) | exact HB.out)) hb);clear HO_7;clear HO_8;clear HB;have HO_7:=n0_;have HO_8:=n1_;have HO424:=n2_;have HB:=n3_;clear n0_ n1_ n2_ n3_;(try clear hb);(try clear hb2);(try clear hk);(try clear hi);(try clear ho0);obtain ⟨Ao45,co45,eo45⟩:=Kd.R_slice HO_8.out;subst eo45;obtain ⟨Ao46,co46,eo46⟩:=Kd.R_slice HO424.out;subst eo46) |((with_reducible refine gate_callee (f:=22) rfl ?_);refine goesL_ (some 79) rfl rfl Try.func22 (by kernel_rfl) rfl #[.slice Ao45 t413.length co45,.slice Ao46 t422.length co46] rfl (by(try simp only [List.map_toArray,List.map_cons,List.map_nil]);first | done | rfl |(simp only [List.length_drop,List.length_take];rfl)) ?_;(with_reducible refine(w10_ints.calls kj31 _ _ t413 _ _ t422 true _ ?side1 ?side2 ?side3 ?side4 A41.out).mono ?_);(case side1=>repeat(first | exact(Kd.R_reads' HO_8.out).2.2 |(with_reducible refine Kd.C_alloc ?_ _) |(with_reducible refine Kd.C_drewN ?_ _) |(with_reducible refine Kd.C_drew ?_)));(case side2=>exact(Kd.R_reads' HO_8.out).2.1);(case side3=>repeat(first | exact(Kd.R_reads' HO424.out).2.2 |(with_reducible refine Kd.C_alloc ?_ _) |(with_reducible refine Kd.C_drewN ?_ _) |(with_reducible refine Kd.C_drew ?_)));(case side4=>exact(Kd.R_reads' HO424.out).2.1);rintro e w' ⟨rfl,⟨nd,rfl⟩⟩;refine⟨_,rfl,?_⟩))
        go_meet
        exact⟨_,H',⟨by have:=HJ7.out;have:=HJ25.out;have:=HJ31.out;first | omega | exact Nat.le_refl _⟩,⟨by(with_reducible repeat(first | apply Kd.R_alloc | apply Kd.R_drewN | apply Kd.R_drew));exact Kd.R_mono HO_7.out (fun _ hk=>trivial)⟩,⟨by repeat(first |(with_reducible first | exact HB.out | apply bwA | apply bwN | apply bw1) | exact HB.out)⟩⟩
   case rest =>
    clear HC15
    try clear c1
    try clear c2
    try clear p2
    try clear c3
    try clear c4
    try clear c9
    try clear c14
    try clear c14b0
    try clear c16
    try clear c17
    try clear c17b0
    try clear c17b1
    try clear c17b2
    try clear c18
    try clear c18b0
    try clear c18b1
    try clear c19
    try clear c19b0
    try clear c19b1
    try clear c20
    try clear c20b0
    try clear c20b1
    try clear c22
    try clear c28
    try clear c28b0
    try clear c28b1
    try clear c31
    try clear c33
    try clear c33b0
    try clear c34
    try clear c35
    try clear c35b0
    try clear c35b1
    try clear c35b2
    try clear c36
    try clear c36b0
    try clear c36b1
    try clear c39
    try clear c40
    try clear c41
    try clear c42
    try clear c43
    try clear c43b0
    try clear c43b1
    try clear p2
    obtain ⟨kq,HA,HJ14,HO_7,HB⟩:=hcut
    cases kq with
    | zero=>exact absurd HA.out (by simp [w10_TurnsGroups.j3])
    | succ kj14 =>
     have H:=HA.out
     clear HA
     simp only [w10_TurnsGroups.j3] at H
     replace H:=Option.bind_eq_some_iff.mp H
     obtain ⟨t426,A530,H⟩:=H
     replace H :(if t426 = true then((q10_GroupingAt.f kj14 t410).bind fun t427=>(if t417 = t427 then(if t418 = 0 then((w10_awake.f kj14).bind fun t428=>(some t428)) else(some false)) else(some false))) else(if t417 = 0 then(if t418 = 2 then((w10_awake.f kj14).bind fun t429=>(some t429)) else(some false)) else(some false))) = some r:=H
     have A53:=Aside0.mk A530
     clear A530
     by_cases c54 : t426 = true
     rotate_left
     ·replace c54 := Bool.eq_false_iff.mpr c54
      subst c54
      have H1 :(if t417 = 0 then(if t418 = 2 then((w10_awake.f kj14).bind fun t429=>(some t429)) else(some false)) else(some false)) = some r:=by rw [if_neg (show ¬ (false = true) by decide)] at H;exact H
      clear H
      have H:=H1
      clear H1
      by_cases c66 : t417 = 0
      rotate_left
      ·rw [if_neg c66] at H
       have c66b0 :(t417 == 0) = false:=beq_eq_false_iff_ne.mpr c66
       have c66b1 :(t417 != 0) = true:=bne_iff_ne.mpr c66
       obtain rfl:=Option.some.inj H
       go_wp2_with (first |((with_reducible refine gate_callee (f:=43) rfl ?_);refine goesL_ (some 86) rfl rfl Try.func43 (by kernel_rfl) rfl #[.slice Ao11 t410.length co11] rfl (by(try simp only [List.map_toArray,List.map_cons,List.map_nil]);first | done | rfl |(simp only [List.length_drop,List.length_take];rfl)) ?_;(with_reducible refine(q10_Groupings.calls kj14 _ _ t410 false _ ?side1 ?side2 A53.out).mono ?_);(case side1=>repeat(first | exact(Kd.R_reads' HO_7.out).2.2 |(with_reducible refine Kd.C_alloc ?_ _) |(with_reducible refine Kd.C_drewN ?_ _) |(with_reducible refine Kd.C_drew ?_)));(case side2=>exact(Kd.R_reads' HO_7.out).2.1);rintro e w72 ⟨rfl,hb⟩;refine⟨_,rfl,?_⟩;have n0_:=Aside0.mk (Kd.R_below (by(with_reducible repeat(first | apply Kd.R_alloc | apply Kd.R_drewN | apply Kd.R_drew));exact HO_7.out) hb);have n1_:=Aside0.mk (bwT (by repeat(first |(with_reducible first | exact HB.out | apply bwA | apply bwN | apply bw1) | exact HB.out)) hb);clear HO_7;clear HB;have HO_7:=n0_;have HB:=n1_;clear n0_ n1_;(try clear hb);(try clear hb2);(try clear hk);(try clear hi)))
       go_ret
       exact⟨by first | rfl |(simp [errW_none,errW_some] <;> rfl) |(simp [*,errW_none,errW_some] <;> rfl),by repeat(first |(with_reducible first | exact HB.out | apply bwA | apply bwN | apply bw1) | exact HB.out)⟩
      rw [if_pos c66] at H
      have c66b0 :(t417 == 0) = true:=beq_iff_eq.mpr c66
      have c66b1 :(t417 != 0) = false:=bne_eq_false_iff_eq.mpr c66
      clear c66
      by_cases c67 : t418 = 2
      rotate_left
      ·rw [if_neg c67] at H
       have c67b0 :(t418 == 2) = false:=beq_eq_false_iff_ne.mpr c67
       have c67b1 :(t418 != 2) = true:=bne_iff_ne.mpr c67
       obtain rfl:=Option.some.inj H
       go_wp2_with (first |((with_reducible refine gate_callee (f:=43) rfl ?_);refine goesL_ (some 86) rfl rfl Try.func43 (by kernel_rfl) rfl #[.slice Ao11 t410.length co11] rfl (by(try simp only [List.map_toArray,List.map_cons,List.map_nil]);first | done | rfl |(simp only [List.length_drop,List.length_take];rfl)) ?_;(with_reducible refine(q10_Groupings.calls kj14 _ _ t410 false _ ?side1 ?side2 A53.out).mono ?_);(case side1=>repeat(first | exact(Kd.R_reads' HO_7.out).2.2 |(with_reducible refine Kd.C_alloc ?_ _) |(with_reducible refine Kd.C_drewN ?_ _) |(with_reducible refine Kd.C_drew ?_)));(case side2=>exact(Kd.R_reads' HO_7.out).2.1);rintro e w71 ⟨rfl,hb⟩;refine⟨_,rfl,?_⟩;have n0_:=Aside0.mk (Kd.R_below (by(with_reducible repeat(first | apply Kd.R_alloc | apply Kd.R_drewN | apply Kd.R_drew));exact HO_7.out) hb);have n1_:=Aside0.mk (bwT (by repeat(first |(with_reducible first | exact HB.out | apply bwA | apply bwN | apply bw1) | exact HB.out)) hb);clear HO_7;clear HB;have HO_7:=n0_;have HB:=n1_;clear n0_ n1_;(try clear hb);(try clear hb2);(try clear hk);(try clear hi)))
       go_ret
       exact⟨by first | rfl |(simp [errW_none,errW_some] <;> rfl) |(simp [*,errW_none,errW_some] <;> rfl),by repeat(first |(with_reducible first | exact HB.out | apply bwA | apply bwN | apply bw1) | exact HB.out)⟩
      rw [if_pos c67] at H
      have c67b0 :(t418 == 2) = true:=beq_iff_eq.mpr c67
      have c67b1 :(t418 != 2) = false:=bne_eq_false_iff_eq.mpr c67
      clear c67
      replace H:=Option.bind_eq_some_iff.mp H
      obtain ⟨t429,A680,H⟩:=H
      replace H :(some t429) = some r:=H
      have A68:=Aside0.mk A680
      clear A680
      obtain rfl:=Option.some.inj H
      go_wp2_with (first |((with_reducible refine gate_callee (f:=43) rfl ?_);refine goesL_ (some 86) rfl rfl Try.func43 (by kernel_rfl) rfl #[.slice Ao11 t410.length co11] rfl (by(try simp only [List.map_toArray,List.map_cons,List.map_nil]);first | done | rfl |(simp only [List.length_drop,List.length_take];rfl)) ?_;(with_reducible refine(q10_Groupings.calls kj14 _ _ t410 false _ ?side1 ?side2 A53.out).mono ?_);(case side1=>repeat(first | exact(Kd.R_reads' HO_7.out).2.2 |(with_reducible refine Kd.C_alloc ?_ _) |(with_reducible refine Kd.C_drewN ?_ _) |(with_reducible refine Kd.C_drew ?_)));(case side2=>exact(Kd.R_reads' HO_7.out).2.1);rintro e w69 ⟨rfl,hb⟩;refine⟨_,rfl,?_⟩;have n0_:=Aside0.mk (Kd.R_below (by(with_reducible repeat(first | apply Kd.R_alloc | apply Kd.R_drewN | apply Kd.R_drew));exact HO_7.out) hb);have n1_:=Aside0.mk (bwT (by repeat(first |(with_reducible first | exact HB.out | apply bwA | apply bwN | apply bw1) | exact HB.out)) hb);clear HO_7;clear HB;have HO_7:=n0_;have HB:=n1_;clear n0_ n1_;(try clear hb);(try clear hb2);(try clear hk);(try clear hi)) |(go_at_call 20;(with_reducible refine(w10_awake.calls kj14  t429 _ A68.out).mono ?_);rintro e w70 ⟨rfl,hb⟩;have n0_:=Aside0.mk (Kd.R_below (by(with_reducible repeat(first | apply Kd.R_alloc | apply Kd.R_drewN | apply Kd.R_drew));exact HO_7.out) hb);have n1_:=Aside0.mk (bwT (by repeat(first |(with_reducible first | exact HB.out | apply bwA | apply bwN | apply bw1) | exact HB.out)) hb);clear HO_7;clear HB;have HO_7:=n0_;have HB:=n1_;clear n0_ n1_;(try clear hb);(try clear hb2);(try clear hk);(try clear hi)))
      go_ret
      exact⟨by first | rfl |(simp [errW_none,errW_some] <;> rfl) |(simp [*,errW_none,errW_some] <;> rfl),by repeat(first |(with_reducible first | exact HB.out | apply bwA | apply bwN | apply bw1) | exact HB.out)⟩
     subst c54
     have H1 :((q10_GroupingAt.f kj14 t410).bind fun t427=>(if t417 = t427 then(if t418 = 0 then((w10_awake.f kj14).bind fun t428=>(some t428)) else(some false)) else(some false))) = some r:=by rw [if_pos rfl] at H;exact H
     clear H
     have H:=H1
     clear H1
     replace H:=Option.bind_eq_some_iff.mp H
     obtain ⟨t427,A550,H⟩:=H
     replace H :(if t417 = t427 then(if t418 = 0 then((w10_awake.f kj14).bind fun t428=>(some t428)) else(some false)) else(some false)) = some r:=H
     have A55:=Aside0.mk A550
     clear A550
     by_cases c56 : t417 = t427
     rotate_left
     ·rw [if_neg c56] at H
      have c56b0 :(t417 == t427) = false:=beq_eq_false_iff_ne.mpr c56
      have c56b1 :(t417 != t427) = true:=bne_iff_ne.mpr c56
      obtain rfl:=Option.some.inj H
      go_wp2_with (first |((with_reducible refine gate_callee (f:=43) rfl ?_);refine goesL_ (some 86) rfl rfl Try.func43 (by kernel_rfl) rfl #[.slice Ao11 t410.length co11] rfl (by(try simp only [List.map_toArray,List.map_cons,List.map_nil]);first | done | rfl |(simp only [List.length_drop,List.length_take];rfl)) ?_;(with_reducible refine(q10_Groupings.calls kj14 _ _ t410 true _ ?side1 ?side2 A53.out).mono ?_);(case side1=>repeat(first | exact(Kd.R_reads' HO_7.out).2.2 |(with_reducible refine Kd.C_alloc ?_ _) |(with_reducible refine Kd.C_drewN ?_ _) |(with_reducible refine Kd.C_drew ?_)));(case side2=>exact(Kd.R_reads' HO_7.out).2.1);rintro e w64 ⟨rfl,hb⟩;refine⟨_,rfl,?_⟩;have n0_:=Aside0.mk (Kd.R_below (by(with_reducible repeat(first | apply Kd.R_alloc | apply Kd.R_drewN | apply Kd.R_drew));exact HO_7.out) hb);have n1_:=Aside0.mk (bwT (by repeat(first |(with_reducible first | exact HB.out | apply bwA | apply bwN | apply bw1) | exact HB.out)) hb);clear HO_7;clear HB;have HO_7:=n0_;have HB:=n1_;clear n0_ n1_;(try clear hb);(try clear hb2);(try clear hk);(try clear hi)) |((with_reducible refine gate_callee (f:=44) rfl ?_);refine goesL_ (some 99) rfl rfl Try.func44 (by kernel_rfl) rfl #[.slice Ao11 t410.length co11] rfl (by(try simp only [List.map_toArray,List.map_cons,List.map_nil]);first | done | rfl |(simp only [List.length_drop,List.length_take];rfl)) ?_;(with_reducible refine(q10_GroupingAt.calls kj14 _ _ t410 t427 _ ?side1 ?side2 A55.out).mono ?_);(case side1=>repeat(first | exact(Kd.R_reads' HO_7.out).2.2 |(with_reducible refine Kd.C_alloc ?_ _) |(with_reducible refine Kd.C_drewN ?_ _) |(with_reducible refine Kd.C_drew ?_)));(case side2=>exact(Kd.R_reads' HO_7.out).2.1);rintro e w65 ⟨rfl,hb⟩;refine⟨_,rfl,?_⟩;have n0_:=Aside0.mk (Kd.R_below (by(with_reducible repeat(first | apply Kd.R_alloc | apply Kd.R_drewN | apply Kd.R_drew));exact HO_7.out) hb);have n1_:=Aside0.mk (bwT (by repeat(first |(with_reducible first | exact HB.out | apply bwA | apply bwN | apply bw1) | exact HB.out)) hb);clear HO_7;clear HB;have HO_7:=n0_;have HB:=n1_;clear n0_ n1_;(try clear hb);(try clear hb2);(try clear hk);(try clear hi)))
      go_ret
      exact⟨by first | rfl |(simp [errW_none,errW_some] <;> rfl) |(simp [*,errW_none,errW_some] <;> rfl),by repeat(first |(with_reducible first | exact HB.out | apply bwA | apply bwN | apply bw1) | exact HB.out)⟩
     rw [if_pos c56] at H
     have c56b0 :(t417 == t427) = true:=beq_iff_eq.mpr c56
     have c56b1 :(t417 != t427) = false:=bne_eq_false_iff_eq.mpr c56
     clear c56
     by_cases c57 : t418 = 0
     rotate_left
     ·rw [if_neg c57] at H
      have c57b0 :(t418 == 0) = false:=beq_eq_false_iff_ne.mpr c57
      have c57b1 :(t418 != 0) = true:=bne_iff_ne.mpr c57
      obtain rfl:=Option.some.inj H
      go_wp2_with (first |((with_reducible refine gate_callee (f:=43) rfl ?_);refine goesL_ (some 86) rfl rfl Try.func43 (by kernel_rfl) rfl #[.slice Ao11 t410.length co11] rfl (by(try simp only [List.map_toArray,List.map_cons,List.map_nil]);first | done | rfl |(simp only [List.length_drop,List.length_take];rfl)) ?_;(with_reducible refine(q10_Groupings.calls kj14 _ _ t410 true _ ?side1 ?side2 A53.out).mono ?_);(case side1=>repeat(first | exact(Kd.R_reads' HO_7.out).2.2 |(with_reducible refine Kd.C_alloc ?_ _) |(with_reducible refine Kd.C_drewN ?_ _) |(with_reducible refine Kd.C_drew ?_)));(case side2=>exact(Kd.R_reads' HO_7.out).2.1);rintro e w62 ⟨rfl,hb⟩;refine⟨_,rfl,?_⟩;have n0_:=Aside0.mk (Kd.R_below (by(with_reducible repeat(first | apply Kd.R_alloc | apply Kd.R_drewN | apply Kd.R_drew));exact HO_7.out) hb);have n1_:=Aside0.mk (bwT (by repeat(first |(with_reducible first | exact HB.out | apply bwA | apply bwN | apply bw1) | exact HB.out)) hb);clear HO_7;clear HB;have HO_7:=n0_;have HB:=n1_;clear n0_ n1_;(try clear hb);(try clear hb2);(try clear hk);(try clear hi)) |((with_reducible refine gate_callee (f:=44) rfl ?_);refine goesL_ (some 99) rfl rfl Try.func44 (by kernel_rfl) rfl #[.slice Ao11 t410.length co11] rfl (by(try simp only [List.map_toArray,List.map_cons,List.map_nil]);first | done | rfl |(simp only [List.length_drop,List.length_take];rfl)) ?_;(with_reducible refine(q10_GroupingAt.calls kj14 _ _ t410 t427 _ ?side1 ?side2 A55.out).mono ?_);(case side1=>repeat(first | exact(Kd.R_reads' HO_7.out).2.2 |(with_reducible refine Kd.C_alloc ?_ _) |(with_reducible refine Kd.C_drewN ?_ _) |(with_reducible refine Kd.C_drew ?_)));(case side2=>exact(Kd.R_reads' HO_7.out).2.1);rintro e w63 ⟨rfl,hb⟩;refine⟨_,rfl,?_⟩;have n0_:=Aside0.mk (Kd.R_below (by(with_reducible repeat(first | apply Kd.R_alloc | apply Kd.R_drewN | apply Kd.R_drew));exact HO_7.out) hb);have n1_:=Aside0.mk (bwT (by repeat(first |(with_reducible first | exact HB.out | apply bwA | apply bwN | apply bw1) | exact HB.out)) hb);clear HO_7;clear HB;have HO_7:=n0_;have HB:=n1_;clear n0_ n1_;(try clear hb);(try clear hb2);(try clear hk);(try clear hi)))
      go_ret
      exact⟨by first | rfl |(simp [errW_none,errW_some] <;> rfl) |(simp [*,errW_none,errW_some] <;> rfl),by repeat(first |(with_reducible first | exact HB.out | apply bwA | apply bwN | apply bw1) | exact HB.out)⟩
     rw [if_pos c57] at H
     have c57b0 :(t418 == 0) = true:=beq_iff_eq.mpr c57
     have c57b1 :(t418 != 0) = false:=bne_eq_false_iff_eq.mpr c57
     clear c57
     replace H:=Option.bind_eq_some_iff.mp H
     obtain ⟨t428,A580,H⟩:=H
     replace H :(some t428) = some r:=H
     have A58:=Aside0.mk A580
     clear A580
     obtain rfl:=Option.some.inj H
     go_wp2_with (first |((with_reducible refine gate_callee (f:=43) rfl ?_);refine goesL_ (some 86) rfl rfl Try.func43 (by kernel_rfl) rfl #[.slice Ao11 t410.length co11] rfl (by(try simp only [List.map_toArray,List.map_cons,List.map_nil]);first | done | rfl |(simp only [List.length_drop,List.length_take];rfl)) ?_;(with_reducible refine(q10_Groupings.calls kj14 _ _ t410 true _ ?side1 ?side2 A53.out).mono ?_);(case side1=>repeat(first | exact(Kd.R_reads' HO_7.out).2.2 |(with_reducible refine Kd.C_alloc ?_ _) |(with_reducible refine Kd.C_drewN ?_ _) |(with_reducible refine Kd.C_drew ?_)));(case side2=>exact(Kd.R_reads' HO_7.out).2.1);rintro e w59 ⟨rfl,hb⟩;refine⟨_,rfl,?_⟩;have n0_:=Aside0.mk (Kd.R_below (by(with_reducible repeat(first | apply Kd.R_alloc | apply Kd.R_drewN | apply Kd.R_drew));exact HO_7.out) hb);have n1_:=Aside0.mk (bwT (by repeat(first |(with_reducible first | exact HB.out | apply bwA | apply bwN | apply bw1) | exact HB.out)) hb);clear HO_7;clear HB;have HO_7:=n0_;have HB:=n1_;clear n0_ n1_;(try clear hb);(try clear hb2);(try clear hk);(try clear hi)) |((with_reducible refine gate_callee (f:=44) rfl ?_);refine goesL_ (some 99) rfl rfl Try.func44 (by kernel_rfl) rfl #[.slice Ao11 t410.length co11] rfl (by(try simp only [List.map_toArray,List.map_cons,List.map_nil]);first | done | rfl |(simp only [List.length_drop,List.length_take];rfl)) ?_;(with_reducible refine(q10_GroupingAt.calls kj14 _ _ t410 t427 _ ?side1 ?side2 A55.out).mono ?_);(case side1=>repeat(first | exact(Kd.R_reads' HO_7.out).2.2 |(with_reducible refine Kd.C_alloc ?_ _) |(with_reducible refine Kd.C_drewN ?_ _) |(with_reducible refine Kd.C_drew ?_)));(case side2=>exact(Kd.R_reads' HO_7.out).2.1);rintro e w60 ⟨rfl,hb⟩;refine⟨_,rfl,?_⟩;have n0_:=Aside0.mk (Kd.R_below (by(with_reducible repeat(first | apply Kd.R_alloc | apply Kd.R_drewN | apply Kd.R_drew));exact HO_7.out) hb);have n1_:=Aside0.mk (bwT (by repeat(first |(with_reducible first | exact HB.out | apply bwA | apply bwN | apply bw1) | exact HB.out)) hb);clear HO_7;clear HB;have HO_7:=n0_;have HB:=n1_;clear n0_ n1_;(try clear hb);(try clear hb2);(try clear hk);(try clear hi)) |(go_at_call 20;(with_reducible refine(w10_awake.calls kj14  t428 _ A58.out).mono ?_);rintro e w61 ⟨rfl,hb⟩;have n0_:=Aside0.mk (Kd.R_below (by(with_reducible repeat(first | apply Kd.R_alloc | apply Kd.R_drewN | apply Kd.R_drew));exact HO_7.out) hb);have n1_:=Aside0.mk (bwT (by repeat(first |(with_reducible first | exact HB.out | apply bwA | apply bwN | apply bw1) | exact HB.out)) hb);clear HO_7;clear HB;have HO_7:=n0_;have HB:=n1_;clear n0_ n1_;(try clear hb);(try clear hb2);(try clear hk);(try clear hi)))
     go_ret
     exact⟨by first | rfl |(simp [errW_none,errW_some] <;> rfl) |(simp [*,errW_none,errW_some] <;> rfl),by repeat(first |(with_reducible first | exact HB.out | apply bwA | apply bwN | apply bw1) | exact HB.out)⟩
/-- THE ONE PURE STATEMENT of w10_TurnsGroups: yours. -/
def w10_TurnsGroups.Pure : Prop:=∀ (a0 : Int) (a1 : Int) (l2 : List Int),(Lit.int .i64 a0).wf = true →(Lit.int .i64 a1).wf = true→l2.length≤maxLen→l2.length * 8≤140737488351232 →(∀ x ∈ l2,(Lit.int .i64 x).wf = true)→∃ k,w10_TurnsGroups.f k a0 a1 l2 = some true
theorem w10_TurnsGroups.walk (P : w10_TurnsGroups.Pure) (a0 : Int) (a1 : Int) (a2 : Option Addr) (len2 cap2 : Nat) (z2 : List Int) (w : World) (w0 : (Lit.int .i64 a0).wf = true) (w1 : (Lit.int .i64 a1).wf = true) (w2 : (a2 = none ∧ len2 = 0 ∧ cap2 = 0 ∧ z2 = []) ∨ ∃ x, a2 = some x ∧ len2 ≤ cap2 ∧ cap2 ≤ maxLen ∧ z2.length = cap2 ∧ (∀ i, i < z2.length → w.cell? (x.add i) = some (.int .i64 (z2.getD i 0))) ∧ ∀ n ∈ z2, (Lit.int .i64 n).wf = true) (y2 : len2 * 8 ≤ 140737488351232) :
  Calls Try.prog 9 #[.int .i64 a0,.int .i64 a1,.slice a2 len2 cap2] w fun e w'=>e = .returned (.bool true)∧Below w.heap.size w w':=by
 obtain ⟨l2,rfl,hr2,hm2,hw2,hc2⟩:=ReadsInt.ofRowC w2
 obtain ⟨k,h⟩:=P a0 a1 l2 w0 w1 hm2 y2 hw2
 refine(w10_TurnsGroups.calls k a0 a1 _ _ l2 true w (Kd.C_of_reads (d:=(0 : Int)) (h1:=fun _=>rfl) hr2) hc2 h).mono ?_
 rintro e w' ⟨rfl,hd⟩
 exact⟨rfl,hd⟩
end Go.Proofs.Ytbfhlaggllofdaa.S

namespace Go.Proofs.Ytbfhlaggllofdaa.P
open Go.RowKit Go.Proofs.Ytbfhlaggllofdaa.S Go.Proofs.YtbfhlaggllofdaaW.PrintWords Go.Proofs.YtbfhlaggllofdaaW.PrintLast Go.Proofs.YtbfhlaggllofdaaW.PrintMore
set_option linter.unusedVariables false
theorem ints_loop (a b : List Int) (he : a.length = b.length) (hl : a.length≤1000) : ∀ d i : Nat,i + d = a.length→Ev (fun k=>w10_ints.l0 k a b (i : Int)) (decide (a.drop i = b.drop i)):=by
 intro d
 induction d with
 | zero =>
  intro i h
  rw [List.drop_eq_nil_of_le (by omega),List.drop_eq_nil_of_le (by omega),decide_eq_true rfl]
  refine Ev.step (f:=fun _=>some true) (fun k=>?_) (Ev.now _)
  simp only [w10_ints.l0]
  rw [if_neg (by omega)]
 | succ d ih =>
  intro i h
  have w : wrap64 ((i : Int) + 1) =((i + 1 : Nat) : Int):=by rw [w64 (by omega) (by omega)];rfl
  have ea:=drop_cons a i (by omega)
  have eb:=drop_cons b i (by omega)
  by_cases c : rd a (i : Int) = rd b (i : Int)
  rotate_left
  ·have e : decide (a.drop i = b.drop i) = false := decide_eq_false (by rw [ea, eb]; simp [c])
   rw [e]
   refine Ev.step (f:=fun _=>some false) (fun k=>?_) (Ev.now _)
   simp only [w10_ints.l0]
   rw [if_pos (by omega),if_pos (by omega),if_pos (by omega),if_neg c]
  have e : decide (a.drop i = b.drop i) = decide (a.drop (i + 1) = b.drop (i + 1)):=by rw [ea,eb,c];simp
  rw [e]
  refine Ev.step (fun k=>?_) (ih (i + 1) (by omega))
  simp only [w10_ints.l0]
  rw [if_pos (by omega),if_pos (by omega),if_pos (by omega),if_pos c,w]
theorem ints_ev (a b : List Int) (hl : a.length≤1000) : Ev (fun k=>w10_ints.f k a b) (decide (a = b)):=by
 by_cases c : a.length = b.length
 ·refine Ev.congr (fun k => ?_) (ints_loop a b c hl a.length 0 (by omega))
  unfold w10_ints.f
  rw [if_pos (by omega)]
  rfl
 rw [decide_eq_false (fun h=>c (by rw [h]))]
 refine Ev.congr (fun k=>?_) (Ev.now _)
 unfold w10_ints.f
 rw [if_neg (by omega)]
end Go.Proofs.Ytbfhlaggllofdaa.P

namespace Go.Proofs.Ytbfhlaggllofdaa.P
open Go.RowKit Go.Proofs.Ytbfhlaggllofdaa.S Go.Proofs.Ytbfhlaggllofdaa.G Go.Proofs.Ytbfhlaggllofdaa.T Go.Proofs.YtbfhlaggllofdaaW.PrintWords Go.Proofs.YtbfhlaggllofdaaW.PrintLast Go.Proofs.YtbfhlaggllofdaaW.PrintMore
set_option linter.unusedVariables false
theorem awake_ev : Ev (fun k=>w10_awake.f k) true:=by
 have e1 : turns_Set.f 2 2 = some ([1,2],0):=by kernel_rfl
 have e2 : turns_Choice.f 3 2 1 = some ([2,3],0):=by kernel_rfl
 have e3 : turns_Order.f 3 3 = some ([3,2,1],0):=by kernel_rfl
 have e4 : turns_Groupings.f 5 = some (52,0):=by kernel_rfl
 have e5 : turns_Setting.f [2,3] 3 = some ([1,2],0):=by kernel_rfl
 have i1:=ints_ev [1,2] [1,2] (by decide)
 have i2:=ints_ev [2,3] [2,3] (by decide)
 have i3:=ints_ev [3,2,1] [3,2,1] (by decide)
 rw [decide_eq_true rfl] at i1 i2 i3
 have hj : Ev (fun k=>w10_awake.j0 k false) true:=by
  refine Ev.step (f:=fun _=>some true) (fun k=>?_) (Ev.now _)
  simp only [w10_awake.j0]
  rw [if_neg (by decide)]
 refine Ev.congr (f:=fun k=>(w10_ints.f k [1,2] [1,2]).bind fun t=>(if t = true then((w10_ints.f k [2,3] [2,3]).bind fun t=>(if t = true then((w10_ints.f k [3,2,1] [3,2,1]).bind fun t=>(if t = true then((w10_ints.f k [1,2] [1,2]).bind fun t=>w10_awake.j0 k (!t)) else w10_awake.j0 k true)) else w10_awake.j0 k true)) else w10_awake.j0 k true)) (fun k=>?_) ?_
 ·unfold w10_awake.f
  rw [e1,e2,e3,e4,e5]
  rfl
 refine Ev.bind (f:=fun k (t : Bool)=>_) i1 ?_
 refine Ev.congr (fun k=>if_pos rfl) ?_
 refine Ev.bind (f:=fun k (t : Bool)=>_) i2 ?_
 refine Ev.congr (fun k=>if_pos rfl) ?_
 refine Ev.bind (f:=fun k (t : Bool)=>_) i3 ?_
 refine Ev.congr (fun k=>if_pos rfl) ?_
 exact Ev.bind (f:=fun k (t : Bool)=>_) i1 hj
theorem awake_some : Ev (fun k=>(w10_awake.f k).bind fun z=>some z) true:=Ev.congr (fun k=>by cases w10_awake.f k <;> rfl) awake_ev
def tab (N : Nat) (f : Nat→Int) : List Int:=(List.range N).map f
theorem tab_len (N : Nat) (f : Nat→Int) :(tab N f).length = N:=by unfold tab;simp
theorem tab_get {N i : Nat} (f : Nat→Int) (h : i < (tab N f).length) :(tab N f)[i] = f i:=by simp [tab]
theorem tab_rd {N i : Nat} (f : Nat→Int) (h : i < N) : rd (tab N f) (i : Int) = f i:=by
 rw [rd_lt _ _ (by rw [tab_len];exact h),tab_get]
theorem tab_ext {N : Nat} {f g : Nat→Int} (h : ∀ i,i < N→f i = g i) : tab N f = tab N g:=by
 unfold tab
 exact List.map_congr_left (fun i hi=>h i (List.mem_range.1 hi))
theorem tab_set {N t : Nat} {f g : Nat→Int} {v : Int} (h : ∀ i,i < N→g i = if i = t then v else f i) :(tab N f).set t v = tab N g:=by
 apply List.ext_getElem
 ·rw [List.length_set,tab_len,tab_len]
 intro i h1 h2
 have:=h i (by rw [tab_len] at h2;exact h2)
 rw [List.getElem_set,tab_get g,this]
 by_cases c : i = t
 ·subst c;rw [if_pos rfl,if_pos rfl]
 rw [if_neg (fun e=>c e.symm),if_neg c,tab_get]
theorem tab_rep (N : Nat) : List.replicate N (0 : Int) = tab N (fun _=>0):=by
 apply List.ext_getElem
 ·rw [List.length_replicate,tab_len]
 intro i h1 h2
 rw [tab_get,List.getElem_replicate]
theorem succ64 (i : Nat) (h : i≤1000) : wrap64 ((i : Int) + 1) =((i + 1 : Nat) : Int):=by rw [w64 (by omega) (by omega)];rfl
theorem groups_step {N i t : Nat} (hN : N≤22) (ht : t + 1 < N - i) : wrap64 ((wrap64 ((t : Int) * bw i t)) + bw i (t + 1)) = bw (i + 1) t:=by
 have h1:=bw_le64 (m:=i + 1) (j:=t) (by omega)
 have h2:=bw_le64 (m:=i) (j:=t) (by omega)
 have h3:=bw_le64 (m:=i) (j:=t + 1) (by omega)
 have e : bw (i + 1) t =(t : Int) * bw i t + bw i (t + 1):=rfl
 have h4 : 0 ≤(t : Int) * bw i t:=Int.mul_nonneg (by omega) (by omega)
 rw [e] at h1 ⊢
 rw [w64 (x:=(t : Int) * bw i t) (by omega) (by omega),w64 (by omega) (by omega)]
def rowG (N i : Nat) : List Int:=tab N (fun u=>if u < N - i then bw i u else 0)
def rowP (N i t : Nat) : List Int:=tab N (fun u=>if u < t then bw (i + 1) u else 0)
theorem groups_l2 {a m N i : Nat} (hN : N≤22) {r : Int} (hi : i < N) (hr : Ev (fun k=>q10_Groups.l1 k (a : Int) (m : Int) (rowG N (i + 1)) (wrap64 ((i : Int) + 1))) r) : ∀ e t : Nat,t + e = N - i - 1→Ev (fun k=>q10_Groups.l2 k (a : Int) (m : Int) (rowG N i) (i : Int) (rowP N i t) (t : Int)) r:=by
 intro e
 have hl :(rowG N i).length = N:=tab_len _ _
 have w2 : wrap64 ((N : Int) - (i : Int)) =(N : Int) - (i : Int):=w64 (by omega) (by omega)
 induction e with
 | zero =>
  intro t h
  have w1:=succ64 t (by omega)
  have er : rowP N i t = rowG N (i + 1):=tab_ext (fun u hu=>by
   by_cases c : u < t
   ·rw [if_pos c,if_pos (by omega)]
   ·rw [if_neg c,if_neg (by omega)])
  refine Ev.step (fun k=>?_) hr
  simp only [q10_Groups.l2]
  rw [hl,w1,w2,if_neg (by omega),er]
 | succ e ih =>
  intro t h
  have w1:=succ64 t (by omega)
  have hs:=groups_step (N:=N) (i:=i) (t:=t) hN (by omega)
  have e1 : rd (rowG N i) (t : Int) = bw i t:=by unfold rowG;rw [tab_rd _ (by omega),if_pos (by omega)]
  have e2 : rd (rowG N i) ((t + 1 : Nat) : Int) = bw i (t + 1):=by unfold rowG;rw [tab_rd _ (by omega),if_pos (by omega)]
  have hp :(rowP N i t).length = N:=tab_len _ _
  have es :(rowP N i t).set t (bw (i + 1) t) = rowP N i (t + 1):=tab_set (fun u hu=>by
   by_cases c : u = t
   ·rw [if_pos c,if_pos (by omega),c]
   ·rw [if_neg c]
    by_cases c2 : u < t
    ·rw [if_pos c2,if_pos (by omega)]
    ·rw [if_neg c2,if_neg (by omega)])
  refine Ev.step (fun k=>?_) (ih (t + 1) (by omega))
  simp only [q10_Groups.l2]
  rw [hl,w1,w2,hp,if_pos (by omega),if_pos (by omega),if_pos (by omega),if_pos (by omega),if_pos (by omega),if_pos (by omega),e1,e2,hs,show((t : Int)).toNat = t by omega,es]
theorem groups_l1 {a m N : Nat} (hN : N≤22) (hm : a + m + 2 = N) : ∀ e i : Nat,i + e = m→Ev (fun k=>q10_Groups.l1 k (a : Int) (m : Int) (rowG N i) (i : Int)) (bw m a):=by
 intro e
 induction e with
 | zero =>
  intro i h
  obtain rfl : i = m:=by omega
  have hl :(rowG N i).length = N:=tab_len _ _
  have e1 : rd (rowG N i) (a : Int) = bw i a:=by unfold rowG;rw [tab_rd _ (by omega),if_pos (by omega)]
  refine Ev.step (f:=fun _=>some (bw i a)) (fun k=>?_) (Ev.now _)
  simp only [q10_Groups.l1]
  rw [if_neg (by omega),hl,if_pos (by omega),if_pos (by omega),e1]
 | succ e ih =>
  intro i h
  have hl :(rowG N i).length = N:=tab_len _ _
  have hr:=ih (i + 1) (by omega)
  rw [← succ64 i (by omega)] at hr
  refine Ev.step (fun k=>?_) (groups_l2 (a:=a) (m:=m) hN (by omega) hr (N - i - 1) 0 (by omega))
  simp only [q10_Groups.l1]
  rw [hl,if_pos (by omega),if_pos (by omega),show((N : Int)).toNat = N by omega,if_pos (by omega),tab_rep]
  unfold rowP
  rw [tab_ext (N:=N) (g:=fun u=>if u < 0 then bw (i + 1) u else 0) (fun u hu=>by rw [if_neg (by omega)])]
  rfl
theorem groups_l0 {a m N : Nat} (hN : N≤22) (hm : a + m + 2 = N) : ∀ e i : Nat,i + e = N→Ev (fun k=>q10_Groups.l0 k (a : Int) (m : Int) (tab N (fun u=>if u < i then 1 else 0)) (i : Int)) (bw m a):=by
 intro e
 induction e with
 | zero =>
  intro i h
  obtain rfl : i = N:=by omega
  refine Ev.step (fun k=>?_) (groups_l1 (a:=a) (m:=m) hN hm m 0 (by omega))
  simp only [q10_Groups.l0]
  rw [tab_len,if_neg (by omega)]
  unfold rowG
  rw [tab_ext (N:=i) (g:=fun u=>if u < i - 0 then bw 0 u else 0) (fun u hu=>by rw [if_pos hu,if_pos (by omega)];rfl)]
  rfl
 | succ e ih =>
  intro i h
  have w1:=succ64 i (by omega)
  refine Ev.step (fun k=>?_) (ih (i + 1) (by omega))
  simp only [q10_Groups.l0]
  rw [tab_len,if_pos (by omega),if_pos (by omega),w1,show((i : Int)).toNat = i by omega]
  rw [tab_set (g:=fun u=>if u < i + 1 then 1 else 0) (fun u hu=>by
   by_cases c : u = i
   ·rw [if_pos c,if_pos (by omega)]
   ·rw [if_neg c]
    by_cases c2 : u < i
    ·rw [if_pos c2,if_pos (by omega)]
    ·rw [if_neg c2,if_neg (by omega)])]
theorem groups_ev {a m : Nat} (h : a + m≤20) : Ev (fun k=>q10_Groups.f k (a : Int) (m : Int)) (bw m a):=by
 have w : wrap64 ((wrap64 ((a : Int) + (m : Int))) + 2) =((a + m + 2 : Nat) : Int):=by rw [w64 (x:=(a : Int) + (m : Int)) (by omega) (by omega),w64 (by omega) (by omega)];rfl
 refine Ev.congr (fun k=>?_) (groups_l0 (a:=a) (m:=m) (N:=a + m + 2) (by omega) rfl (a + m + 2) 0 (by omega))
 unfold q10_Groups.f
 rw [w,if_pos (by omega),show(((a + m + 2 : Nat) : Int)).toNat = a + m + 2 by omega,if_pos (by omega),tab_rep]
 rw [tab_ext (N:=a + m + 2) (g:=fun u=>if u < 0 then 1 else 0) (fun u hu=>by rw [if_neg (by omega)])]
 rfl
theorem mxm (a b : Int) : mx a b = max a b:=by
 unfold mx
 omega
theorem mx_nat (u x : Nat) (h : x≤1000) : mx (u : Int) (wrap64 ((x : Int) + 1)) =((max u (x + 1) : Nat) : Int):=by
 rw [succ64 x h,mxm]
 omega
theorem rest64 {n i m : Nat} (h : n = i + 1 + m) (hn : n≤20) : wrap64 ((wrap64 ((n : Int) - 1)) - (i : Int)) =(m : Int):=by
 rw [w64 (x:=(n : Int) - 1) (by omega) (by omega),w64 (by omega) (by omega)]
 omega
theorem groupings_loop {l : List Int} (hl : l.length≤42) : ∀ e i u : Nat,i + e = l.length→u≤i→Ev (fun k=>q10_Groupings.l0 k l (u : Int) (i : Int)) (isGrpB (l.drop i) u && decide (l.length≤20)):=by
 intro e
 induction e with
 | zero =>
  intro i u h hu
  rw [List.drop_eq_nil_of_le (by omega)]
  refine Ev.step (f:=fun _=>some (decide (l.length≤20))) (fun k=>?_) (by show Ev _ (true && _);rw [Bool.true_and];exact Ev.now _)
  simp only [q10_Groupings.l0]
  rw [if_neg (by omega)]
  congr 1
  exact decide_eq_decide.2 ⟨fun h=>by omega,fun h=>by omega⟩
 | succ e ih =>
  intro i u h hu
  have ea:=drop_cons l i (by omega)
  have w1:=succ64 i (by omega)
  by_cases c : 0≤rd l (i : Int)∧rd l (i : Int) ≤(u : Int)
  rotate_left
  ·have hg : isGrpB (l.drop i) u = false:=by
    rw [ea];show(decide _ && _) = _;rw [decide_eq_false c,Bool.false_and]
   rw [hg,Bool.false_and]
   refine Ev.step (f:=fun _=>some false) (fun k=>?_) (Ev.now _)
   simp only [q10_Groupings.l0]
   rw [if_pos (by omega),if_pos (by omega)]
   by_cases c1 : rd l (i : Int) < 0
   ·rw [if_pos c1]
   rw [if_neg c1,if_pos (by omega)]
  have hg : isGrpB (l.drop i) u = isGrpB (l.drop (i + 1)) (max u ((rd l (i : Int)).toNat + 1)):=by
   rw [ea];show(decide _ && _) = _;rw [decide_eq_true c,Bool.true_and]
  rw [hg]
  have hx : mx (u : Int) (wrap64 (rd l (i : Int) + 1)) =((max u ((rd l (i : Int)).toNat + 1) : Nat) : Int):=by
   rw [w64 (by omega) (by omega),mxm]
   omega
  refine Ev.step (fun k=>?_) (ih (i + 1) (max u ((rd l (i : Int)).toNat + 1)) (by omega) (by omega))
  simp only [q10_Groupings.l0]
  rw [if_pos (by omega),if_pos (by omega),if_neg (by omega),if_neg (by omega),hx,w1]
theorem groupings_ev {l : List Int} (hl : l.length≤42) : Ev (fun k=>q10_Groupings.f k l) (decide (l.length≤20∧isGrpB l 0 = true)):=by
 have e : decide (l.length≤20∧isGrpB l 0 = true) =(isGrpB (l.drop 0) 0 && decide (l.length≤20)):=by
  rw [List.drop_zero]
  apply Bool.eq_iff_iff.2
  simp [and_comm]
 rw [e]
 exact groupings_loop hl l.length 0 0 (by omega) (by omega)
theorem groupingAt_loop {l : List Int} (hl : l.length≤20) : ∀ e i u : Nat,∀ t : Int,i + e = l.length→u≤i→isGrpB (l.drop i) u = true→0≤t→t + bw (l.length - i) u≤bw l.length 0→Ev (fun k=>q10_GroupingAt.l0 k l t (u : Int) (i : Int)) (t + grpAt (l.drop i) u):=by
 intro e
 induction e with
 | zero =>
  intro i u t h hu hg h0 h1
  rw [List.drop_eq_nil_of_le (by omega)]
  refine Ev.step (f:=fun _=>some t) (fun k=>?_) (by show Ev _ (t + 0);rw [Int.add_zero];exact Ev.now _)
  simp only [q10_GroupingAt.l0]
  rw [if_neg (by omega)]
 | succ e ih =>
  intro i u t h hu hg h0 h1
  have ea:=drop_cons l i (by omega)
  have w1:=succ64 i (by omega)
  have wr:=rest64 (n:=l.length) (i:=i) (m:=e) (by omega) hl
  rw [ea] at hg
  have hg':=Bool.and_eq_true_iff.1 hg
  have c:=of_decide_eq_true hg'.1
  obtain ⟨x,hx⟩ : ∃ x,rd l (i : Int) = x:=⟨_,rfl⟩
  rw [hx] at c ea hg'
  obtain ⟨⟨_,_,s1⟩,⟨s2,s3⟩,⟨_,s4,s5,s6⟩,_,_,_⟩:=ga_step (n:=l.length) (i:=i) (u:=u) (m:=e) (t:=t) (x:=x) (by omega) hl hu h0 h1 c.1 c.2
  have hm : mx (u : Int) (x + 1) =((max u (x.toNat + 1) : Nat) : Int):=by rw [mxm];omega
  have hlen :(l.drop (i + 1)).length = e:=by rw [List.length_drop];omega
  have hv : t + grpAt (l.drop i) u =(t + x * bw e u) + grpAt (l.drop (i + 1)) (max u (x.toNat + 1)):=by
   rw [ea]
   show t + (x * bw (l.drop (i + 1)).length u + _) = _
   rw [hlen,Int.add_assoc]
  rw [hv]
  refine Ev.step (f:=fun k=>(q10_Groups.f k (u : Int) (e : Int)).bind fun t408=>(q10_GroupingAt.l0 k l (wrap64 (t + (wrap64 (x * t408)))) (mx (u : Int) (wrap64 (x + 1))) (wrap64 ((i : Int) + 1)))) (fun k=>?_) ?_
  ·simp only [q10_GroupingAt.l0]
   rw [if_pos (by omega),if_pos (by omega),wr,hx]
  refine Ev.bind (f:=fun k (z : Int)=>_) (groups_ev (a:=u) (m:=e) (by omega)) ?_
  rw [s1,s2,s3,hm,w1]
  exact ih (i + 1) (max u (x.toNat + 1)) (t + x * bw e u) (by omega) s4 hg'.2 s5 s6
theorem groupingAt_ev {l : List Int} (hl : l.length≤20) (hg : isGrpB l 0 = true) : Ev (fun k=>q10_GroupingAt.f k l) (grpAt l 0):=by
 have h:=groupingAt_loop hl l.length 0 0 0 (by omega) (by omega) (by rw [List.drop_zero];exact hg) (by omega) (by rw [Int.zero_add];exact Int.le_refl _)
 rw [List.drop_zero,Int.zero_add] at h
 exact h
theorem grouping_l1 {n i u m g : Nat} {a : Int} {out r : List Int} (hm : n = i + 1 + m) (hn : n ≤ 20) (hu : u ≤ i) (hout : out.length = i) (h0 : 0 ≤ a) (ha : a < bw (m + 1) u) (hg : gOf m u a = g)
  (hr : Ev (fun k=>q10_Grouping.l0 k (n : Int) (a - (g : Int) * bw m u) (out ++ [(g : Int)]) ((max u (g + 1) : Nat) : Int) ((i + 1 : Nat) : Int)) r) :
  ∀ e x : Nat,x + e = g→Ev (fun k=>q10_Grouping.l1 k (n : Int) (a - (x : Int) * bw m u) out (u : Int) (i : Int) (x : Int)) r:=by
 have hb:=bw_le64 (m:=m) (j:=u) (by omega)
 have hb1:=bw_le64 (m:=m + 1) (j:=u) (by omega)
 have hcs:=gOf_cases m u a h0 ha
 obtain ⟨d0,d1,d2⟩:=div_bw m u a h0
 rw [hg] at hcs
 have gu : g≤u:=by rcases hcs with h | h <;> omega
 have hga :(g : Int) * bw m u≤a:=by
  rcases hcs with h | h
  ·rw [h.1];omega
  ·rw [h.2.2.2.2];omega
 have hlt' : g < u→a - (g : Int) * bw m u < bw m u:=by rcases hcs with h | h <;> omega
 have hum : u + m≤20:=by omega
 have hi20 : i≤1000:=by omega
 have hg20 : g≤1000:=by omega
 clear hcs d0 d1 d2 hg
 intro e
 induction e with
 | zero =>
  intro x h
  obtain rfl : x = g:=by omega
  by_cases c : x < u
  rotate_left
  ·refine Ev.step (fun k => ?_) hr
   simp only [q10_Grouping.l1]
   rw [if_neg (by omega),if_pos (by omega),mx_nat u x hg20,succ64 i hi20]
  have hlt:=hlt' c
  refine Ev.step (f:=fun k=>(q10_Groups.f k (u : Int) (m : Int)).bind fun t396=>(if a - (x : Int) * bw m u ≥ t396 then((q10_Groups.f k (u : Int) (m : Int)).bind fun t397=>(q10_Grouping.l1 k (n : Int) (wrap64 (a - (x : Int) * bw m u - t397)) out (u : Int) (i : Int) (wrap64 ((x : Int) + 1)))) else(if out.length < 17592186044416 then(q10_Grouping.l0 k (n : Int) (a - (x : Int) * bw m u) (out ++ [(x : Int)]) (mx (u : Int) (wrap64 ((x : Int) + 1))) (wrap64 ((i : Int) + 1))) else(none)))) (fun k=>?_) ?_
  ·simp only [q10_Grouping.l1]
   rw [if_pos (by omega),rest64 hm hn]
  refine Ev.bind (f:=fun k (z : Int)=>_) (groups_ev (a:=u) (m:=m) hum) ?_
  refine Ev.congr (fun k=>?_) hr
  rw [if_neg (by omega),if_pos (by omega),mx_nat u x hg20,succ64 i hi20]
 | succ e ih =>
  intro x h
  have hmul :((x : Int) + 1) * bw m u ≤(g : Int) * bw m u:=Int.mul_le_mul_of_nonneg_right (by omega) (by omega)
  rw [Int.add_mul,Int.one_mul] at hmul
  have hx0 : 0 ≤(x : Int) * bw m u:=Int.mul_nonneg (by omega) (by omega)
  have hx1 : x≤1000:=by omega
  have hge : a - (x : Int) * bw m u ≥ bw m u:=by omega
  have hxu :(x : Int) < (u : Int):=by omega
  have wa : wrap64 (a - (x : Int) * bw m u - bw m u) = a - ((x + 1 : Nat) : Int) * bw m u:=by
   rw [w64 (by omega) (by omega),show((x + 1 : Nat) : Int) =(x : Int) + 1 by omega,Int.add_mul,Int.one_mul]
   omega
  have hih:=ih (x + 1) (by omega)
  refine Ev.step (f:=fun k=>(q10_Groups.f k (u : Int) (m : Int)).bind fun t396=>(if a - (x : Int) * bw m u ≥ t396 then((q10_Groups.f k (u : Int) (m : Int)).bind fun t397=>(q10_Grouping.l1 k (n : Int) (wrap64 (a - (x : Int) * bw m u - t397)) out (u : Int) (i : Int) (wrap64 ((x : Int) + 1)))) else(if out.length < 17592186044416 then(q10_Grouping.l0 k (n : Int) (a - (x : Int) * bw m u) (out ++ [(x : Int)]) (mx (u : Int) (wrap64 ((x : Int) + 1))) (wrap64 ((i : Int) + 1))) else(none)))) (fun k=>?_) ?_
  ·simp only [q10_Grouping.l1]
   rw [if_pos hxu,rest64 hm hn]
  have hG:=groups_ev (a:=u) (m:=m) hum
  refine Ev.bind (f:=fun k (z : Int)=>_) hG ?_
  refine Ev.congr (fun k=>if_pos hge) ?_
  refine Ev.bind (f:=fun k (z : Int)=>_) hG ?_
  rw [wa,succ64 x hx1]
  exact hih
theorem grouping_l0 {n : Nat} (hn : n≤20) : ∀ m i u : Nat,∀ (a : Int) (out : List Int),i + m = n→u≤i→out.length = i→0≤a→a < bw m u→Ev (fun k=>q10_Grouping.l0 k (n : Int) a out (u : Int) (i : Int)) (out ++ grp m u a):=by
 intro m
 induction m with
 | zero =>
  intro i u a out h hu ho h0 h1
  refine Ev.step (f:=fun _=>some out) (fun k=>?_) (by show Ev _ (out ++ []);rw [List.append_nil];exact Ev.now _)
  simp only [q10_Grouping.l0]
  rw [if_neg (by omega)]
 | succ m ih =>
  intro i u a out h hu ho h0 h1
  obtain ⟨r0,r1⟩:=gOf_rest m u a h0 h1
  have hcs:=gOf_cases m u a h0 h1
  have hgu : gOf m u a≤u:=by rcases hcs with h | h <;> omega
  have hr:=ih (i + 1) (max u (gOf m u a + 1)) (a - (gOf m u a : Int) * bw m u) (out ++ [(gOf m u a : Int)]) (by omega) (by omega) (by simp [ho]) r0 r1
  have hl:=grouping_l1 (n:=n) (i:=i) (u:=u) (m:=m) (g:=gOf m u a) (a:=a) (out:=out) (by omega) hn hu ho h0 h1 rfl hr (gOf m u a) 0 (by omega)
  have e : out ++ grp (m + 1) u a = out ++ [(gOf m u a : Int)] ++ grp m (max u (gOf m u a + 1)) (a - (gOf m u a : Int) * bw m u):=by
   rw [List.append_assoc];rfl
  rw [e]
  refine Ev.step (fun k=>?_) hl
  simp only [q10_Grouping.l0]
  rw [if_pos (by omega)]
  simp
theorem grouping_ev {n : Nat} (hn : n≤20) {a : Int} (h0 : 0≤a) (h1 : a < bw n 0) : Ev (fun k=>q10_Grouping.f k (n : Int) a) (grp n 0 a):=by
 have h:=grouping_l0 hn n 0 0 a [] (by omega) (by omega) rfl h0 h1
 rw [List.nil_append] at h
 exact h
theorem groups_j3 (s : List Int) (hs : s.length≤42) : ∀ p q : Int,(if(s.length≤20∧isGrpB s 0 = true) then(grpAt s 0,(0 : Int)) else(0,2)) =(p,q)→Ev (fun k=>w10_TurnsGroups.j3 k s p q) true:=by
 intro p q e
 have h1:=groupings_ev hs
 by_cases c : s.length≤20∧isGrpB s 0 = true
 rotate_left
 ·rw [if_neg c] at e
  injection e with e1 e2
  subst e1;subst e2
  rw [decide_eq_false c] at h1
  refine Ev.step (fun k=>rfl) ?_
  refine Ev.bind (f:=fun k (t : Bool)=>_) h1 ?_
  refine Ev.congr (fun k=>if_neg (by decide)) ?_
  refine Ev.congr (fun k=>if_pos rfl) ?_
  refine Ev.congr (fun k=>if_pos rfl) ?_
  exact awake_some
 rw [if_pos c] at e
 injection e with e1 e2
 subst e1;subst e2
 rw [decide_eq_true c] at h1
 refine Ev.step (fun k=>rfl) ?_
 refine Ev.bind (f:=fun k (t : Bool)=>_) h1 ?_
 refine Ev.congr (fun k=>if_pos rfl) ?_
 refine Ev.bind (f:=fun k (t : Int)=>_) (groupingAt_ev c.1 c.2) ?_
 refine Ev.congr (fun k=>if_pos rfl) ?_
 refine Ev.congr (fun k=>if_pos rfl) ?_
 exact awake_some
theorem turnsGroups_law (n a : Int) (l2 : List Int) : ∃ k,w10_TurnsGroups.f k n a l2 = some true:=by
 refine Ev.rounds ?_
 have hl :(l2.take 42).length≤42:=by rw [List.length_take];omega
 obtain ⟨s,es⟩ : ∃ d,l2.take 42 = d:=⟨_,rfl⟩
 rw [es] at hl
 unfold w10_TurnsGroups.f w10_list.f turns_Grouping.f turns_GroupingAt.f turns_Groupings.f
 rw [es]
 simp only [Option.bind_some]
 obtain ⟨p,q,e⟩ : ∃ p q,(if(s.length≤20∧isGrpB s 0 = true) then(grpAt s 0,(0 : Int)) else(0,2)) =(p,q):=⟨_,_,rfl⟩
 have h2:=groups_j3 s hl p q e
 rw [e]
 by_cases c : 0≤n∧n≤20
 rotate_left
 ·rw [if_neg (fun h => c ⟨h.1, h.2.1⟩), if_neg c]
  have hj : Ev (fun k=>w10_TurnsGroups.j0 k n a s [] 2 p q 0 2 true) true:=by
   refine Ev.step (f:=fun k=>w10_TurnsGroups.j3 k s p q) (fun k=>?_) h2
   simp only [w10_TurnsGroups.j0]
   rw [if_pos trivial,if_pos (by rfl),if_pos trivial,if_pos trivial,if_pos trivial]
  by_cases c1 : n < 0
  ·exact Ev.congr (fun k=>if_pos c1) hj
  refine Ev.congr (fun k=>if_neg c1) ?_
  rw [decide_eq_true (show n > 20 by omega)]
  exact hj
 obtain ⟨m,rfl⟩ : ∃ m : Nat,n = m:=⟨n.toNat,by omega⟩
 rw [show((m : Int)).toNat = m by omega,if_pos c]
 have c0 : ¬ (m : Int) < 0:=by omega
 have c40 : decide ((m : Int) > 20) = false:=decide_eq_false (by omega)
 have hG:=groups_ev (a:=0) (m:=m) (by omega)
 refine Ev.congr (fun k=>if_neg c0) ?_
 rw [c40]
 have hm20 : m≤20:=by omega
 by_cases ca : 0≤a∧a≤bw m 0 - 1
 rotate_left
 ·rw [if_neg (fun h => ca ⟨h.2.2.1, h.2.2.2⟩)]
  refine Ev.step (f:=fun k=>(q10_Groups.f k 0 (m : Int)).bind fun t421=>(if bw m 0 = t421 then(w10_TurnsGroups.j1 k (m : Int) a s [] 2 p q (bw m 0) false) else(w10_TurnsGroups.j1 k (m : Int) a s [] 2 p q (bw m 0) true))) (fun k=>by simp only [w10_TurnsGroups.j0];rw [if_neg (by decide)];rfl) ?_
  refine Ev.bind (f:=fun k (t : Int)=>_) hG ?_
  refine Ev.congr (fun k=>if_pos rfl) ?_
  refine Ev.step (f:=fun k=>w10_TurnsGroups.j2 k (m : Int) a s [] 2 p q true) (fun k=>?_) ?_
  ·simp only [w10_TurnsGroups.j1]
   by_cases c1 : a < 0
   ·rw [if_neg (by decide),if_pos c1]
   rw [if_neg (by decide),if_neg c1,decide_eq_true (by omega)]
  refine Ev.step (f:=fun k=>w10_TurnsGroups.j3 k s p q) (fun k=>?_) h2
  simp only [w10_TurnsGroups.j2]
  rw [if_pos trivial,if_pos (by rfl),if_pos trivial]
 rw [if_pos ⟨c.1,c.2,ca.1,ca.2⟩]
 refine Ev.step (f:=fun k=>(q10_Groups.f k 0 (m : Int)).bind fun t421=>(if bw m 0 = t421 then(w10_TurnsGroups.j1 k (m : Int) a s (grp m 0 a) 0 p q (bw m 0) false) else(w10_TurnsGroups.j1 k (m : Int) a s (grp m 0 a) 0 p q (bw m 0) true))) (fun k=>by simp only [w10_TurnsGroups.j0];rw [if_neg (by decide)];rfl) ?_
 refine Ev.bind (f:=fun k (t : Int)=>_) hG ?_
 refine Ev.congr (fun k=>if_pos rfl) ?_
 refine Ev.step (f:=fun k=>w10_TurnsGroups.j2 k (m : Int) a s (grp m 0 a) 0 p q false) (fun k=>?_) ?_
 ·simp only [w10_TurnsGroups.j1]
  rw [if_neg (by decide),if_neg (by omega),decide_eq_false (by omega)]
 refine Ev.step (f:=fun k=>(q10_Grouping.f k (m : Int) a).bind fun t422=>((w10_ints.f k (grp m 0 a) t422).bind fun t425=>(if t425 = true then(if(0 : Int) = 0 then(w10_TurnsGroups.j3 k s p q) else(some false)) else(some false)))) (fun k=>?_) ?_
 ·simp only [w10_TurnsGroups.j2]
  rw [if_neg (by decide)]
 refine Ev.bind (f:=fun k (t : List Int)=>_) (grouping_ev hm20 ca.1 (by omega)) ?_
 have hi:=ints_ev (grp m 0 a) (grp m 0 a) (by rw [grp_len];omega)
 rw [decide_eq_true rfl] at hi
 refine Ev.bind (f:=fun k (t : Bool)=>_) hi ?_
 refine Ev.congr (fun k=>if_pos rfl) ?_
 exact Ev.congr (fun k=>if_pos rfl) h2
end Go.Proofs.Ytbfhlaggllofdaa.P

namespace Go.Proofs.Ytbfhlaggllofdaa.Pure
open Go.RowKit Go.Proofs.Ytbfhlaggllofdaa.S Go.Proofs.YtbfhlaggllofdaaW.PrintWords Go.Proofs.YtbfhlaggllofdaaW.PrintLast
theorem TurnsGroups : w10_TurnsGroups.Pure:=fun a0 a1 l2 _ _ _ _ _=>P.turnsGroups_law a0 a1 l2
end Go.Proofs.Ytbfhlaggllofdaa.Pure
