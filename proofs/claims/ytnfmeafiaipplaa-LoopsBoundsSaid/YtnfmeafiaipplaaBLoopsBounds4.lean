-- Written by wip/bundle2.py: texts of this claim, one behind the other.
import Derived.Test.YtnfmeafiaipplaaBLoopsBounds3
import Derived.RowKit
import Derived.Test.YtnfmeafiaipplaaVLoopsBoundsWords
set_option linter.unusedVariables false
set_option linter.unusedSimpArgs false

namespace Go.Proofs.Ytnfmeafiaipplaa.S
open Go.Proofs.Ytnfmeafiaipplaa.Lib
open Go.Maps (Keyed)
open Go.RowKit Go.Proofs.YtnfmeafiaipplaaW.PrintWords Go.Proofs.YtnfmeafiaipplaaW.PrintLast Go.Proofs.YtnfmeafiaipplaaW.PrintMore
attribute [local go_sem] max2_int min2_int max_two min_two max_three min_three max_four min_four
set_option linter.unusedVariables false
set_option linter.unusedSimpArgs false

mutual
def q06_Bound.l0 : Nat → List (S39) → List (S89) → List (S39) → Int → Option ((List (S39)))
 | 0,_,_,_,_=>none
 | k + 1,x0,x9,x10,x11=>if x11 < (x9.length : Int) then(if 0≤x11 then(if 0 ≤((rd_T89 x9 x11).f0) then(if((rd_T89 x9 x11).f0) < (x0.length : Int) then(if 0 ≤((rd_T89 x9 x11).f1) then(if((rd_T89 x9 x11).f1) < (x0.length : Int) then(if((rd_T89 x9 x11).f2 = true) then(q06_Bound.j1 k x0 x9 x10 x11 0 1 ((rd_T89 x9 x11).f0) ((rd_T89 x9 x11).f1) ((rd_T89 x9 x11).f2) ((rd_T39 x0 ((rd_T89 x9 x11).f0)).f0) ((rd_T39 x0 ((rd_T89 x9 x11).f0)).f1) ((rd_T39 x0 ((rd_T89 x9 x11).f0)).f2) ((rd_T39 x0 ((rd_T89 x9 x11).f1)).f0) ((rd_T39 x0 ((rd_T89 x9 x11).f1)).f1) ((rd_T39 x0 ((rd_T89 x9 x11).f1)).f2)) else(q06_Bound.j1 k x0 x9 x10 x11 1 0 ((rd_T89 x9 x11).f0) ((rd_T89 x9 x11).f1) ((rd_T89 x9 x11).f2) ((rd_T39 x0 ((rd_T89 x9 x11).f0)).f0) ((rd_T39 x0 ((rd_T89 x9 x11).f0)).f1) ((rd_T39 x0 ((rd_T89 x9 x11).f0)).f2) ((rd_T39 x0 ((rd_T89 x9 x11).f1)).f0) ((rd_T39 x0 ((rd_T89 x9 x11).f1)).f1) ((rd_T39 x0 ((rd_T89 x9 x11).f1)).f2))) else(none)) else(none)) else(none)) else(none)) else(none)) else((q06_Canonical.f k x10 0).bind fun t627=>(some t627))
def q06_Bound.j1 : Nat → List (S39) → List (S89) → List (S39) → Int → Int → Int → Int → Int → Bool → Int → Int → Int → Int → Int → Int → Option ((List (S39)))
 | 0,_,_,_,_,_,_,_,_,_,_,_,_,_,_,_=>none
 | k + 1,x0,x9,x10,x11,x15,x16,x632000,x632001,x632002,x635000,x635001,x635002,x636000,x636001,x636002=>if x635000 = x16 then(q06_Bound.j2 k x0 x9 x10 x11 x15 x16 true x632000 x632001 x632002 x635000 x635001 x635002 x636000 x636001 x636002) else(q06_Bound.j2 k x0 x9 x10 x11 x15 x16 (x636000 == x16) x632000 x632001 x632002 x635000 x635001 x635002 x636000 x636001 x636002)
def q06_Bound.j3 : Nat → List (S39) → List (S89) → List (S39) → Int → Int → Int → Int → Bool → Int → Int → Int → Int → Int → Int → Option ((List (S39)))
 | 0,_,_,_,_,_,_,_,_,_,_,_,_,_,_=>none
 | k + 1,x0,x9,x10,x11,x16,x632000,x632001,x632002,x635000,x635001,x635002,x636000,x636001,x636002=>if x635000 = x636000 then(if x635000 ≥ 4 then((q06_asked.f k x9 x635001 x636001 (x632002 ==(x635000 == 4))).bind fun bt644=>((q06_asked.f k bt644.1 x635002 x636002 x632002).bind fun bt648=>(if x10.length < 5864062014805 then(q06_Bound.l0 k x0 bt648.1 (x10 ++ [(⟨x635000,bt644.2,bt648.2⟩ : S39)]) (wrap64 (x11 + 1))) else(none)))) else(if x10.length < 5864062014805 then(q06_Bound.l0 k x0 x9 (x10 ++ [(⟨x635000,0,0⟩ : S39)]) (wrap64 (x11 + 1))) else(none))) else(if x10.length < 5864062014805 then(q06_Bound.l0 k x0 x9 (x10 ++ [(⟨x16,0,0⟩ : S39)]) (wrap64 (x11 + 1))) else(none))
def q06_Bound.j2 : Nat → List (S39) → List (S89) → List (S39) → Int → Int → Int → Bool → Int → Int → Bool → Int → Int → Int → Int → Int → Int → Option ((List (S39)))
 | 0,_,_,_,_,_,_,_,_,_,_,_,_,_,_,_,_=>none
 | k + 1,x0,x9,x10,x11,x15,x16,x49,x632000,x632001,x632002,x635000,x635001,x635002,x636000,x636001,x636002=>if x49 = true then(if x10.length < 5864062014805 then(q06_Bound.l0 k x0 x9 (x10 ++ [(⟨x16,0,0⟩ : S39)]) (wrap64 (x11 + 1))) else(none)) else(if x635000 = x15 then(q06_Bound.j3 k x0 x9 x10 x11 x16 x632001 x632001 x632002 x636000 x636001 x636002 x636000 x636001 x636002) else(if x636000 = x15 then(q06_Bound.j3 k x0 x9 x10 x11 x16 x632000 x632000 x632002 x635000 x635001 x635002 x635000 x635001 x635002) else(q06_Bound.j3 k x0 x9 x10 x11 x16 x632000 x632001 x632002 x635000 x635001 x635002 x636000 x636001 x636002)))
end
def q06_Bound.f (k : Nat) (l0 : List (S39)) (a1 : Int) (a2 : Int) (a3 : Bool) : Option ((List (S39))):=q06_Bound.l0 k l0 (([(⟨a1,a2,a3⟩ : S89)] : List (S89))) ([] : List (S39)) 0
def q06_Bound.T7 : Bool×List (List Nat×List Nat):=(true,[([],[]),([],[]),([1],[1]),([0,2],[0,2]),([3],[3]),([],[]),([],[]),([6],[6]),([5,7],[5,7]),([8],[8]),([],[]),([],[]),([10,4,0,1,2,3,4,10,11],[4,10]),([11,9,12,0,1,2,3,4,5,6,7,8,9,10,11,12],[9,11])])
def q06_Bound.B7 : List Nat:=[0,0,2,7,15,0,0,64,224,480,0,0,3103,8191]
theorem q06_Bound.tab7 : rtab .any (opsOf Try.f39 7) = q06_Bound.T7:=by kernel_rfl
theorem q06_Bound.bits7 : waitsOk q06_Bound.T7.2 q06_Bound.B7 = true:=by kernel_rfl
set_option maxHeartbeats 8000000 in
set_option maxRecDepth 100000 in
theorem q06_Bound.calls (k : Nat) (A0 : Option Addr) (c0 : Nat) (l0 : List (S39)) (a1 : Int) (a2 : Int) (a3 : Bool) (r : List (S39)) (w : World) (hr0 : Kd.C k39 w A0 l0.length l0) (hc0 : l0.length ≤ c0) (h : q06_Bound.f k l0 a1 a2 a3 = some r) :
  Calls Try.prog 39 #[.slice A0 l0.length c0,.int .i64 a1,.int .i64 a2,.bool a3] w fun e w'=>∃ v0_ : Value,e = .returned (v0_)∧Kd.R k39 39 w' w.heap.size (fun _=>True) v0_ r∧Below w.heap.size w w':=by
 have hu89:=Try.underlying89
 have hu39:=Try.underlying39
 have HR0:=Aside0.mk hr0
 have HC0:=Aside0.mk hc0
 clear hr0 hc0
 have HB:=Aside0.mk (Below.refl w.heap.size w)
 have H :(q06_Bound.l0 k l0 (([(⟨a1,a2,a3⟩ : S89)] : List (S89))) ([] : List (S39)) 0) = some r:=h
 clear h
 obtain ⟨y624,hy624⟩ : ∃ y_ : List (S89),y_ =(([(⟨a1,a2,a3⟩ : S89)] : List (S89))):=⟨_,rfl⟩
 replace H :(q06_Bound.l0 k l0 y624 ([] : List (S39)) 0) = some r:=by first |(rw [hy624];with_reducible exact H) |(have H2_:=(Option.bind_some _ _).symm.trans H;rw [hy624];with_reducible exact H2_) |(have H2_:=(Option.bind_some _ _).symm.trans H;with_reducible exact H2_) | with_reducible exact H |(rw [hy624];exact H) | exact H
 have Ny624:=Aside0.mk hy624
 clear hy624
 have H':=Aside0.mk H
 clear H
 go_enter Try.func39,Try.ntmps39
 go_wp2_with (first |((with_reducible refine gate_dst (N:=25) rfl ?_);refine Kd.R_lit k89 _ 89 ?hg (N:=25) ?hd (xs:=([(⟨a1,a2,a3⟩ : S89)] : List (S89))) (inner:=[.int .i64 a1,.int .i64 a2,.bool a3]) (ok:=fun _=>True) (okp:=fun _=>True) ?hr ?hp (fun _ hk=>hk) trivial (Below.refl _ _) (Nat.le_refl _) (by simp) ?_;(case hd=>rfl);(case hg=>rfl);(case hr=>first |(go_simp;done) |(go_simp;rfl));(case hp=>exact(Reps.c3 (show Kd.M k89 _ _ _ (⟨a1,a2,a3⟩ : S89) [.int .i64 a1,.int .i64 a2,.bool a3] from(k89_mkM _ _ _ (⟨a1,a2,a3⟩ : S89) )) (Reps.none _ _)));intro v625 w5 ho6 hb hg_ hnew_;clear hg_ hnew_;(first | rw [← Ny624.out] at ho6 |(simp only [Int.reduceToNat] at ho6;rw [← Ny624.out] at ho6));have n0_:=Aside0.mk (Kd.R_lower ho6 (bwZ (by repeat(first |(with_reducible first | exact HB.out | apply bwA | apply bwN | apply bw1) | exact HB.out))));have n1_:=Aside0.mk (bwT (by repeat(first |(with_reducible first | exact HB.out | apply bwA | apply bwN | apply bw1) | exact HB.out)) hb);clear HB;have HO626:=n0_;have HB:=n1_;clear n0_ n1_;clear hb ho6))
 go_loopg [9,10,11] k (fun kq v9 v10 v11 w'=>∃ (x9_1 : List (S89)) (x10_1 : List (S39)) (x11_1 : Int),v11 = .int .i64 x11_1∧Aside0 (q06_Bound.l0 kq l0 x9_1 x10_1 x11_1 = some r)∧Aside0 (kq≤k)∧Aside0 (Kd.R k89 89 w' w.heap.size (fun _=>True) v9 x9_1)∧Aside0 (Kd.R k39 39 w' w.heap.size (fun _=>True) v10 x10_1)∧Aside0 (Below w.heap.size w w'))
 case atStart=>exact⟨(y624),(([] : List (S39))),(0),(by first | rfl |(simp;done) |(simp [*];done)),H',⟨Nat.le_refl _⟩,⟨by(with_reducible repeat(first | apply Kd.R_alloc | apply Kd.R_drewN | apply Kd.R_drew));exact HO626.out⟩,⟨by first | exact Kd.R_nil _ _ _ _ _ | exact Kd.N_nil _ _ _ _ _ | exact Kd.V_nil _ _ _ _ _ | exact Kd.Q_nil _ _ _ _ _ | exact Kd.S_nil _ _ _ _ _⟩,⟨by repeat(first |(with_reducible first | exact HB.out | apply bwA | apply bwN | apply bw1) | exact HB.out)⟩⟩
 clear H'
 try clear p2
 try clear c3
 obtain ⟨x9_1,x10_1,x11_1,rfl,HA,HK1,HO_9,HO_10,HB⟩:=hrel
 cases gk with
 | zero=>exact absurd HA.out (by simp [q06_Bound.l0])
 | succ k1 =>
  have H:=HA.out
  clear HA
  simp only [q06_Bound.l0] at H
  by_cases c7 : x11_1 < (x9_1.length : Int)
  rotate_left
  ·rw [if_neg c7] at H
   have c7b0 : decide (x11_1 < (x9_1.length : Int)) = false:=decide_eq_false c7
   clear c7
   replace H:=Option.bind_eq_some_iff.mp H
   obtain ⟨t627,A1200,H⟩:=H
   replace H :(some t627) = some r:=H
   have A120:=Aside0.mk A1200
   clear A1200
   obtain rfl:=Option.some.inj H
   obtain ⟨Ao121,co121,eo121⟩:=Kd.R_slice HO_9.out
   subst eo121
   obtain ⟨Ao122,co122,eo122⟩:=Kd.R_slice HO_10.out
   subst eo122
   go_wp2_with (first |((with_reducible refine gate_callee (f:=21) rfl ?_);refine goesL_ (some 137) rfl rfl Try.func21 (by kernel_rfl) rfl #[.slice Ao122 x10_1.length co122,.int .i64 0] rfl (by(try simp only [List.map_toArray,List.map_cons,List.map_nil]);first | done | rfl |(simp only [List.length_drop,List.length_take];rfl)) ?_;(with_reducible refine(q06_Canonical.calls k1 _ _ x10_1 0 t627 _ ?side1 ?side2 A120.out).mono ?_);(case side1=>repeat(first | exact(Kd.R_reads' HO_10.out).2.2 |(with_reducible refine Kd.C_alloc ?_ _) |(with_reducible refine Kd.C_drewN ?_ _) |(with_reducible refine Kd.C_drew ?_)));(case side2=>exact(Kd.R_reads' HO_10.out).2.1);rintro e w123 ⟨v628,rfl,ho0,hb⟩;refine⟨_,rfl,?_⟩;have n0_:=Aside0.mk (Kd.R_below (by(with_reducible repeat(first | apply Kd.R_alloc | apply Kd.R_drewN | apply Kd.R_drew));exact HO_9.out) hb);have n1_:=Aside0.mk (Kd.R_elder' (by(with_reducible repeat(first | apply Kd.R_alloc | apply Kd.R_drewN | apply Kd.R_drew));exact HO_10.out) (Kd.R_base ho0) hb);have n2_:=Aside0.mk (Kd.R_lower (Kd.R_new' ho0 (Kd.R_lt (by(with_reducible repeat(first | apply Kd.R_alloc | apply Kd.R_drewN | apply Kd.R_drew));exact HO_10.out))) (bwZ (by repeat(first |(with_reducible first | exact HB.out | apply bwA | apply bwN | apply bw1) | exact HB.out))));have n3_:=Aside0.mk (bwT (by repeat(first |(with_reducible first | exact HB.out | apply bwA | apply bwN | apply bw1) | exact HB.out)) hb);clear HO_9;clear HO_10;clear HB;have HO_9:=n0_;have HO_10:=n1_;have HO629:=n2_;have HB:=n3_;clear n0_ n1_ n2_ n3_;(try clear hb);(try clear hb2);(try clear hk);(try clear hi);(try clear ho0)))
   go_ret
   exact⟨_,by first | rfl |(simp [errW_none,errW_some] <;> rfl) |(simp [*,errW_none,errW_some] <;> rfl),by(with_reducible repeat(first | apply Kd.R_alloc | apply Kd.R_drewN | apply Kd.R_drew));exact Kd.R_mono HO629.out (fun _ hk=>trivial),by repeat(first |(with_reducible first | exact HB.out | apply bwA | apply bwN | apply bw1) | exact HB.out)⟩
  rw [if_pos c7] at H
  have c7b0 : decide (x11_1 < (x9_1.length : Int)) = true:=decide_eq_true c7
  clear c7
  by_cases c8 : 0≤x11_1
  rotate_left
  ·rw [if_neg c8] at H
   exact absurd H (by simp)
  rw [if_pos c8] at H
  have c8b0 : decide (0≤x11_1) = true:=decide_eq_true c8
  clear c8
  by_cases c9 : 0 ≤((rd_T89 x9_1 x11_1).f0)
  rotate_left
  ·rw [if_neg c9] at H
   exact absurd H (by simp)
  rw [if_pos c9] at H
  have c9b0 : decide (0 ≤((rd_T89 x9_1 x11_1).f0)) = true:=decide_eq_true c9
  clear c9
  by_cases c10 :((rd_T89 x9_1 x11_1).f0) < (l0.length : Int)
  rotate_left
  ·rw [if_neg c10] at H
   exact absurd H (by simp)
  rw [if_pos c10] at H
  have c10b0 : decide (((rd_T89 x9_1 x11_1).f0) < (l0.length : Int)) = true:=decide_eq_true c10
  clear c10
  by_cases c11 : 0 ≤((rd_T89 x9_1 x11_1).f1)
  rotate_left
  ·rw [if_neg c11] at H
   exact absurd H (by simp)
  rw [if_pos c11] at H
  have c11b0 : decide (0 ≤((rd_T89 x9_1 x11_1).f1)) = true:=decide_eq_true c11
  clear c11
  by_cases c12 :((rd_T89 x9_1 x11_1).f1) < (l0.length : Int)
  rotate_left
  ·rw [if_neg c12] at H
   exact absurd H (by simp)
  rw [if_pos c12] at H
  have c12b0 : decide (((rd_T89 x9_1 x11_1).f1) < (l0.length : Int)) = true:=decide_eq_true c12
  clear c12
  have HC13:=Aside0.mk H
  clear H
  obtain ⟨Ao14,co14,eo14⟩:=Kd.R_slice HO_9.out
  subst eo14
  have p630 : 0 ≤(x11_1 : Int):=of_decide_eq_true (by first |(with_reducible assumption) | assumption)
  have q630 : x11_1 < (x9_1.length : Int):=of_decide_eq_true (by first |(with_reducible assumption) | assumption)
  obtain ⟨ad630,e630,hx630_0,hx630_1,hx630_2⟩:=at_T89 (Kd.R_reads' HO_9.out).2.2 x11_1 p630 q630
  cases e630
  replace p630:=eq_true p630
  replace q630:=eq_true q630
  try go_wp2_with (first |((with_reducible refine gate_dst (N:=12) rfl ?_);refine box_event ?hg (N:=12) ?hd (cs:=#[.int .i64 0,.int .i64 0,.bool false]) (t:=89) ?hr ?_;(case hd=>rfl);(case hg=>rfl);(case hr=>first |(go_simp;done) |(go_simp;rfl));intro gb631 hg w15 hbox hb;have n0_:=Aside0.mk (Kd.R_below (Kd.R_elderB (by(with_reducible repeat(first | apply Kd.R_alloc | apply Kd.R_drewN | apply Kd.R_drew));exact HO_9.out) gb631 (Nat.le_of_eq hg.symm)) hb);have n1_:=Aside0.mk (Kd.R_below (by(with_reducible repeat(first | apply Kd.R_alloc | apply Kd.R_drewN | apply Kd.R_drew));exact HO_10.out) hb);have n2_:=Aside0.mk (bwT (by repeat(first |(with_reducible first | exact HB.out | apply bwA | apply bwN | apply bw1) | exact HB.out)) hb);have n3_:=Aside0.mk (hbox);have n4_:=Aside0.mk ((by rw [hg];exact(bwZ (by repeat(first |(with_reducible first | exact HB.out | apply bwA | apply bwN | apply bw1) | exact HB.out))) : w.heap.size≤gb631));have n5_:=Aside0.mk ((by rw [hg];exact(bwZ (by repeat(first |(with_reducible first | exact HB.out | apply bwA | apply bwN | apply bw1) | exact HB.out))) : w.heap.size≤gb631));clear HO_9;clear HO_10;clear HB;have HO_9:=n0_;have HO_10:=n1_;have HB:=n2_;have BK631:=n3_;have GW631:=n4_;have GE631:=n5_;clear n0_ n1_ n2_ n3_ n4_ n5_;clear hb hbox hg;have hcz16_0 : w15.cell? ⟨gb631,0,none⟩ = some (.int .i64 0):=(bkC BK631.out 0).trans rfl;have hcz16_1 : w15.cell? ⟨gb631,1,none⟩ = some (.int .i64 0):=(bkC BK631.out 1).trans rfl;have hcz16_2 : w15.cell? ⟨gb631,2,none⟩ = some (.bool false):=(bkC BK631.out 2).trans rfl;have hfz16_0:=bkF BK631.out 0;have hfz16_1:=bkF BK631.out 1;have hfz16_2:=bkF BK631.out 2))
  have n0_ : Aside0 (Kd.R k89 89 (((w15.setCell ⟨gb631,0,none⟩ (.int .i64 ((rd_T89 x9_1 x11_1).f0))).setCell ⟨gb631,1,none⟩ (.int .i64 ((rd_T89 x9_1 x11_1).f1))).setCell ⟨gb631,2,none⟩ (.bool ((rd_T89 x9_1 x11_1).f2))) w.heap.size (fun k_=>k_≠gb631) (.slice (some ad630) x9_1.length co14) x9_1):=⟨by(with_reducible repeat(first | apply Kd.R_alloc | apply Kd.R_drewN | apply Kd.R_drew));exact Kd.R_mono (Kd.R_far (p:=⟨gb631,2,none⟩) (Kd.R_far (p:=⟨gb631,1,none⟩) (Kd.R_far (p:=⟨gb631,0,none⟩) (Kd.R_mono HO_9.out (fun k_ hk=>(⟨hk,hk.2⟩ : _∧k_≠gb631))) (fun _ hk=>hk.2) (.int .i64 ((rd_T89 x9_1 x11_1).f0))) (fun _ hk=>hk.2) (.int .i64 ((rd_T89 x9_1 x11_1).f1))) (fun _ hk=>hk.2) (.bool ((rd_T89 x9_1 x11_1).f2))) (fun _ hk=>hk.1.2)⟩
  have n1_ : Aside0 (Kd.R k39 39 (((w15.setCell ⟨gb631,0,none⟩ (.int .i64 ((rd_T89 x9_1 x11_1).f0))).setCell ⟨gb631,1,none⟩ (.int .i64 ((rd_T89 x9_1 x11_1).f1))).setCell ⟨gb631,2,none⟩ (.bool ((rd_T89 x9_1 x11_1).f2))) w.heap.size (fun _=>True) u10 x10_1):=⟨by(with_reducible repeat(first | apply Kd.R_alloc | apply Kd.R_drewN | apply Kd.R_drew));exact Kd.R_mono (Kd.R_far (p:=⟨gb631,2,none⟩) (Kd.R_far (p:=⟨gb631,1,none⟩) (Kd.R_far (p:=⟨gb631,0,none⟩) (Kd.R_types HO_10.out BK631.out (by decide)) (fun _ hk=>hk.2) (.int .i64 ((rd_T89 x9_1 x11_1).f0))) (fun _ hk=>hk.2) (.int .i64 ((rd_T89 x9_1 x11_1).f1))) (fun _ hk=>hk.2) (.bool ((rd_T89 x9_1 x11_1).f2))) (fun _ hk=>trivial)⟩
  have n2_ : Aside0 ((((w15.setCell ⟨gb631,0,none⟩ (.int .i64 ((rd_T89 x9_1 x11_1).f0))).setCell ⟨gb631,1,none⟩ (.int .i64 ((rd_T89 x9_1 x11_1).f1))).setCell ⟨gb631,2,none⟩ (.bool ((rd_T89 x9_1 x11_1).f2))).heap[gb631]? = some (.cells #[.int .i64 ((rd_T89 x9_1 x11_1).f0),.int .i64 ((rd_T89 x9_1 x11_1).f1),.bool ((rd_T89 x9_1 x11_1).f2)] 89 (0,0))):=⟨by(with_reducible repeat(first | refine bkN ?_ _ | refine bkD ?_ | refine bkA ?_ _));refine blk_put (cs:=#[.int .i64 ((rd_T89 x9_1 x11_1).f0),.int .i64 ((rd_T89 x9_1 x11_1).f1),.bool false]) ?_ 2 _ rfl;(with_reducible repeat(first | refine bkN ?_ _ | refine bkD ?_ | refine bkA ?_ _));refine blk_put (cs:=#[.int .i64 ((rd_T89 x9_1 x11_1).f0),.int .i64 0,.bool false]) ?_ 1 _ rfl;(with_reducible repeat(first | refine bkN ?_ _ | refine bkD ?_ | refine bkA ?_ _));refine blk_put (cs:=#[.int .i64 0,.int .i64 0,.bool false]) ?_ 0 _ rfl;(with_reducible repeat(first | refine bkN ?_ _ | refine bkD ?_ | refine bkA ?_ _));exact BK631.out⟩
  have n3_ : Aside0 (Below w.heap.size w (((w15.setCell ⟨gb631,0,none⟩ (.int .i64 ((rd_T89 x9_1 x11_1).f0))).setCell ⟨gb631,1,none⟩ (.int .i64 ((rd_T89 x9_1 x11_1).f1))).setCell ⟨gb631,2,none⟩ (.bool ((rd_T89 x9_1 x11_1).f2)))):=⟨by repeat(first |(with_reducible first | exact HB.out | apply bwA | apply bwN | apply bw1 | refine bwS ?_ GE631.out) | exact HB.out)⟩
  (try clear HO_9)
  (try clear HO_10)
  (try clear BK631)
  (try clear HB)
  generalize (((w15.setCell ⟨gb631,0,none⟩ (.int .i64 ((rd_T89 x9_1 x11_1).f0))).setCell ⟨gb631,1,none⟩ (.int .i64 ((rd_T89 x9_1 x11_1).f1))).setCell ⟨gb631,2,none⟩ (.bool ((rd_T89 x9_1 x11_1).f2))) = w17 at n0_ n1_ n2_ n3_ ⊢
  have HO_9:=n0_
  have HO_10:=n1_
  have BK631:=n2_
  have HB:=n3_
  clear n0_ n1_ n2_ n3_
  have n0_:=Aside0.mk (Kd.R_drew HO_9.out)
  have n1_:=Aside0.mk (Kd.R_drew HO_10.out)
  have n2_:=Aside0.mk (bkD BK631.out)
  have n3_:=Aside0.mk (bw1 HB.out)
  clear HO_9
  clear HO_10
  clear BK631
  clear HB
  have HO_9:=n0_
  have HO_10:=n1_
  have BK631:=n2_
  have HB:=n3_
  clear n0_ n1_ n2_ n3_
  have p632 : 0 ≤(((rd_T89 x9_1 x11_1).f0) : Int):=of_decide_eq_true (by first |(with_reducible assumption) | assumption)
  have q632 :((rd_T89 x9_1 x11_1).f0) < (l0.length : Int):=of_decide_eq_true (by first |(with_reducible assumption) | assumption)
  obtain ⟨ad632,e632,hx632_0,hx632_1,hx632_2⟩:=at_T39 HR0.out ((rd_T89 x9_1 x11_1).f0) p632 q632
  have hw632_2:=hx632_2
  have hw632_1:=hx632_1
  have hw632_0:=hx632_0
  cases e632
  replace hx632_0:=(HB.out.cell (World.block_lt_of_cell? w _ hx632_0)).trans hx632_0
  replace hx632_1:=(HB.out.cell (World.block_lt_of_cell? w _ hx632_1)).trans hx632_1
  replace hx632_2:=(HB.out.cell (World.block_lt_of_cell? w _ hx632_2)).trans hx632_2
  replace p632:=eq_true p632
  replace q632:=eq_true q632
  have p633 : 0 ≤(((rd_T89 x9_1 x11_1).f1) : Int):=of_decide_eq_true (by first |(with_reducible assumption) | assumption)
  have q633 :((rd_T89 x9_1 x11_1).f1) < (l0.length : Int):=of_decide_eq_true (by first |(with_reducible assumption) | assumption)
  obtain ⟨ad633,e633,hx633_0,hx633_1,hx633_2⟩:=at_T39 HR0.out ((rd_T89 x9_1 x11_1).f1) p633 q633
  have hw633_2:=hx633_2
  have hw633_1:=hx633_1
  have hw633_0:=hx633_0
  obtain rfl : ad632 = ad633:=(by injection e633)
  replace hx633_0:=(HB.out.cell (World.block_lt_of_cell? w _ hx633_0)).trans hx633_0
  replace hx633_1:=(HB.out.cell (World.block_lt_of_cell? w _ hx633_1)).trans hx633_1
  replace hx633_2:=(HB.out.cell (World.block_lt_of_cell? w _ hx633_2)).trans hx633_2
  replace p633:=eq_true p633
  replace q633:=eq_true q633
  refine start_ (n:=14) (S:=fun w'=>w'.cell? ⟨gb631,0,none⟩ = some (.int .i64 ((rd_T89 x9_1 x11_1).f0))∧w'.cell? ⟨gb631,1,none⟩ = some (.int .i64 ((rd_T89 x9_1 x11_1).f1))∧w'.cell? ⟨gb631,2,none⟩ = some (.bool ((rd_T89 x9_1 x11_1).f2))∧w'.cell? (ad632.add ((((rd_T89 x9_1 x11_1).f0)).toNat * 3)) = some (.int .i64 ((rd_T39 l0 ((rd_T89 x9_1 x11_1).f0)).f0))∧w'.cell? ⟨(ad632.add ((((rd_T89 x9_1 x11_1).f0)).toNat * 3)).block,(ad632.add ((((rd_T89 x9_1 x11_1).f0)).toNat * 3)).off + 1,none⟩ = some (.int .i64 ((rd_T39 l0 ((rd_T89 x9_1 x11_1).f0)).f1))∧w'.cell? ⟨(ad632.add ((((rd_T89 x9_1 x11_1).f0)).toNat * 3)).block,(ad632.add ((((rd_T89 x9_1 x11_1).f0)).toNat * 3)).off + 2,none⟩ = some (.int .i64 ((rd_T39 l0 ((rd_T89 x9_1 x11_1).f0)).f2))∧w'.cell? (ad632.add ((((rd_T89 x9_1 x11_1).f1)).toNat * 3)) = some (.int .i64 ((rd_T39 l0 ((rd_T89 x9_1 x11_1).f1)).f0))∧w'.cell? ⟨(ad632.add ((((rd_T89 x9_1 x11_1).f1)).toNat * 3)).block,(ad632.add ((((rd_T89 x9_1 x11_1).f1)).toNat * 3)).off + 1,none⟩ = some (.int .i64 ((rd_T39 l0 ((rd_T89 x9_1 x11_1).f1)).f1))∧w'.cell? ⟨(ad632.add ((((rd_T89 x9_1 x11_1).f1)).toNat * 3)).block,(ad632.add ((((rd_T89 x9_1 x11_1).f1)).toNat * 3)).off + 2,none⟩ = some (.int .i64 ((rd_T39 l0 ((rd_T89 x9_1 x11_1).f1)).f2))) (ds:=[]) #[false,false,false,false,false,false,false,false,false,false,false,false,false,false] (by kernel_rfl) rfl rfl ⟨(bkC BK631.out 0).trans rfl,(bkC BK631.out 1).trans rfl,(bkC BK631.out 2).trans rfl,((HB.out.cell (World.block_lt_of_cell? w _ hw632_0)).trans hw632_0),((HB.out.cell (World.block_lt_of_cell? w _ hw632_1)).trans hw632_1),((HB.out.cell (World.block_lt_of_cell? w _ hw632_2)).trans hw632_2),((HB.out.cell (World.block_lt_of_cell? w _ hw633_0)).trans hw633_0),((HB.out.cell (World.block_lt_of_cell? w _ hw633_1)).trans hw633_1),((HB.out.cell (World.block_lt_of_cell? w _ hw633_2)).trans hw633_2)⟩ (fun hHeld=>?_);refine with_tabW q06_Bound.tab7 q06_Bound.bits7 (fun HT_ HW_=>?_)
  generalize w17.drew = w18 at HO_9 HO_10 BK631 HB hx632_0 hx632_1 hx632_2 hx633_0 hx633_1 hx633_2 hHeld ⊢
  refine pure_ (i:=0) (N:=some 36) (v:=?_) (a':=?_) #[true,false,false,false,false,false,false,false,false,false,false,false,false,false] rfl rfl (any_of HT_.out (by kernel_rfl)) (fun _ _ _ h=>h) (Or.inl ⟨by rfl,?_⟩) ?_ ?_
  rotate_left
  ·intro w'
   go_simp
   with_reducible rfl
  rotate_left
  ·simp only [Act.put, List.setIfInBounds_toArray, List.set_cons_zero, List.set_cons_succ, i64_w, i32_w]
   rfl
  refine pure_ (i:=1) (N:=some 37) (v:=?_) (a':=?_) #[true,true,false,false,false,false,false,false,false,false,false,false,false,false] rfl rfl (any_of HT_.out (by kernel_rfl)) (fun _ _ _ h=>h) (Or.inl ⟨by rfl,?_⟩) ?_ ?_
  rotate_left
  ·intro w'
   go_simp
   with_reducible rfl
  rotate_left
  ·simp only [Act.put, List.setIfInBounds_toArray, List.set_cons_zero, List.set_cons_succ, i64_w, i32_w]
   rfl
  refine pure_ (i:=5) (N:=some 41) (v:=?_) (a':=?_) #[true,true,false,false,false,true,false,false,false,false,false,false,false,false] rfl rfl (any_of HT_.out (by kernel_rfl)) (fun _ _ _ h=>h) (Or.inl ⟨by rfl,?_⟩) ?_ ?_
  rotate_left
  ·intro w'
   go_simp
   with_reducible rfl
  rotate_left
  ·simp only [Act.put, List.setIfInBounds_toArray, List.set_cons_zero, List.set_cons_succ, i64_w, i32_w]
   rfl
  refine pure_ (i:=6) (N:=some 42) (v:=?_) (a':=?_) #[true,true,false,false,false,true,true,false,false,false,false,false,false,false] rfl rfl (any_of HT_.out (by kernel_rfl)) (fun _ _ _ h=>h) (Or.inl ⟨by rfl,?_⟩) ?_ ?_
  rotate_left
  ·intro w'
   go_simp
   with_reducible rfl
  rotate_left
  ·simp only [Act.put, List.setIfInBounds_toArray, List.set_cons_zero, List.set_cons_succ, i64_w, i32_w]
   rfl
  refine take_ (i:=2) (N:=some 38) (v:=?_) (a':=?_) #[true,true,true,false,false,true,true,false,false,false,false,false,false,false] rfl rfl (take_ofW HT_.out HW_.out (by kernel_rfl)) (fun _ _ _ h=>h) (Or.inl ⟨by rfl,?_⟩) hHeld ?_ ?_
  rotate_left
  ·rintro w' ⟨s0, s1, s2, s3, s4, s5, s6, s7, s8⟩
   go_simp
   with_reducible rfl
  rotate_left
  ·simp only [Act.put, List.setIfInBounds_toArray, List.set_cons_zero, List.set_cons_succ, i64_w, i32_w]
   rfl
  refine pure_ (i:=3) (N:=some 39) (v:=?_) (a':=?_) #[true,true,true,true,false,true,true,false,false,false,false,false,false,false] rfl rfl (any_of HT_.out (by kernel_rfl)) (fun _ _ _ h=>h) (Or.inl ⟨by rfl,?_⟩) ?_ ?_
  rotate_left
  ·intro w'
   go_simp
   with_reducible rfl
  rotate_left
  ·simp only [Act.put, List.setIfInBounds_toArray, List.set_cons_zero, List.set_cons_succ, i64_w, i32_w]
   rfl
  refine take_ (i:=4) (N:=some 40) (v:=?_) (a':=?_) #[true,true,true,true,true,true,true,false,false,false,false,false,false,false] rfl rfl (take_ofW HT_.out HW_.out (by kernel_rfl)) (fun _ _ _ h=>h) (Or.inl ⟨by rfl,?_⟩) hHeld ?_ ?_
  rotate_left
  ·rintro w' ⟨s0, s1, s2, s3, s4, s5, s6, s7, s8⟩
   go_simp
   with_reducible rfl
  rotate_left
  ·simp only [Act.put, List.setIfInBounds_toArray, List.set_cons_zero, List.set_cons_succ, i64_w, i32_w]
   rfl
  refine take_ (i:=7) (N:=some 43) (v:=?_) (a':=?_) #[true,true,true,true,true,true,true,true,false,false,false,false,false,false] rfl rfl (take_ofW HT_.out HW_.out (by kernel_rfl)) (fun _ _ _ h=>h) (Or.inl ⟨by rfl,?_⟩) hHeld ?_ ?_
  rotate_left
  ·rintro w' ⟨s0, s1, s2, s3, s4, s5, s6, s7, s8⟩
   go_simp
   with_reducible rfl
  rotate_left
  ·simp only [Act.put, List.setIfInBounds_toArray, List.set_cons_zero, List.set_cons_succ, i64_w, i32_w]
   rfl
  refine pure_ (i:=8) (N:=some 44) (v:=?_) (a':=?_) #[true,true,true,true,true,true,true,true,true,false,false,false,false,false] rfl rfl (any_of HT_.out (by kernel_rfl)) (fun _ _ _ h=>h) (Or.inl ⟨by rfl,?_⟩) ?_ ?_
  rotate_left
  ·intro w'
   go_simp
   with_reducible rfl
  rotate_left
  ·simp only [Act.put, List.setIfInBounds_toArray, List.set_cons_zero, List.set_cons_succ, i64_w, i32_w]
   rfl
  refine take_ (i:=9) (N:=some 45) (v:=?_) (a':=?_) #[true,true,true,true,true,true,true,true,true,true,false,false,false,false] rfl rfl (take_ofW HT_.out HW_.out (by kernel_rfl)) (fun _ _ _ h=>h) (Or.inl ⟨by rfl,?_⟩) hHeld ?_ ?_
  rotate_left
  ·rintro w' ⟨s0, s1, s2, s3, s4, s5, s6, s7, s8⟩
   go_simp
   with_reducible rfl
  rotate_left
  ·simp only [Act.put, List.setIfInBounds_toArray, List.set_cons_zero, List.set_cons_succ, i64_w, i32_w]
   rfl
  refine join_ (σ:=Nat×Nat) 2 #[true,true,true,true,true,true,true,true,true,true,true,true,false,false] (fun s_=>[(13,.pointer (some ⟨s_.1,0,none⟩)),(14,.pointer (some ⟨s_.2,0,none⟩))]) (fun s_ w'=>(w'.cell? ⟨gb631,0,none⟩ = some (.int .i64 ((rd_T89 x9_1 x11_1).f0))∧w'.cell? ⟨gb631,1,none⟩ = some (.int .i64 ((rd_T89 x9_1 x11_1).f1))∧w'.cell? ⟨gb631,2,none⟩ = some (.bool ((rd_T89 x9_1 x11_1).f2))∧w'.cell? (ad632.add ((((rd_T89 x9_1 x11_1).f0)).toNat * 3)) = some (.int .i64 ((rd_T39 l0 ((rd_T89 x9_1 x11_1).f0)).f0))∧w'.cell? ⟨(ad632.add ((((rd_T89 x9_1 x11_1).f0)).toNat * 3)).block,(ad632.add ((((rd_T89 x9_1 x11_1).f0)).toNat * 3)).off + 1,none⟩ = some (.int .i64 ((rd_T39 l0 ((rd_T89 x9_1 x11_1).f0)).f1))∧w'.cell? ⟨(ad632.add ((((rd_T89 x9_1 x11_1).f0)).toNat * 3)).block,(ad632.add ((((rd_T89 x9_1 x11_1).f0)).toNat * 3)).off + 2,none⟩ = some (.int .i64 ((rd_T39 l0 ((rd_T89 x9_1 x11_1).f0)).f2))∧w'.cell? (ad632.add ((((rd_T89 x9_1 x11_1).f1)).toNat * 3)) = some (.int .i64 ((rd_T39 l0 ((rd_T89 x9_1 x11_1).f1)).f0))∧w'.cell? ⟨(ad632.add ((((rd_T89 x9_1 x11_1).f1)).toNat * 3)).block,(ad632.add ((((rd_T89 x9_1 x11_1).f1)).toNat * 3)).off + 1,none⟩ = some (.int .i64 ((rd_T39 l0 ((rd_T89 x9_1 x11_1).f1)).f1))∧w'.cell? ⟨(ad632.add ((((rd_T89 x9_1 x11_1).f1)).toNat * 3)).block,(ad632.add ((((rd_T89 x9_1 x11_1).f1)).toNat * 3)).off + 2,none⟩ = some (.int .i64 ((rd_T39 l0 ((rd_T89 x9_1 x11_1).f1)).f2))) ∧(Kd.R k39 39 w' w.heap.size (fun k_=>k_≠s_.1∧k_≠s_.2) u10 x10_1) ∧(Kd.R k89 89 w' w.heap.size (fun k_=>k_≠gb631) (.slice (some ad630) x9_1.length co14) x9_1) ∧(w'.heap[gb631]? = some (.cells #[.int .i64 ((rd_T89 x9_1 x11_1).f0),.int .i64 ((rd_T89 x9_1 x11_1).f1),.bool ((rd_T89 x9_1 x11_1).f2)] 89 (0,0))) ∧(w'.heap[s_.1]? = some (.cells #[.int .i64 0,.int .i64 0,.int .i64 0] 39 (0,0))) ∧(w'.heap[s_.2]? = some (.cells #[.int .i64 0,.int .i64 0,.int .i64 0] 39 (0,0))) ∧(w.heap.size≤s_.1) ∧(w.heap.size≤s_.1) ∧(gb631≠s_.1) ∧(s_.1≠gb631) ∧(s_.2≠s_.1) ∧(s_.1≠s_.2) ∧(w.heap.size≤s_.2) ∧(w.heap.size≤s_.2) ∧(gb631≠s_.2) ∧(s_.2≠gb631) ∧(Below w.heap.size w w')) ?_ ?_
  rotate_left
  ·intro hCont
   refine two_ (i:=10) (j:=11) (Ni:=some 13) (Nj:=some 14) #[true,true,true,true,true,true,true,true,true,true,true,false,false,false] #[true,true,true,true,true,true,true,true,true,true,false,true,false,false] rfl rfl rfl rfl (two_of HT_.out (by kernel_rfl)) (by decide) (by decide) (fun K hK=>?_) (fun K hK=>?_)
   ·skip
    refine box_step ?hg (N:=13) ?hd (cs:=#[.int .i64 0,.int .i64 0,.int .i64 0]) (t:=39) ?hr ?_;(case hd=>rfl);(case hg=>rfl);(case hr=>first |(go_simp;done) |(go_simp;rfl))
    intro gb634 hg w19 hbox hb
    have n0_:=Aside0.mk (Kd.R_below (by(with_reducible repeat(first | apply Kd.R_alloc | apply Kd.R_drewN | apply Kd.R_drew));exact HO_9.out) hb)
    have n1_:=Aside0.mk (Kd.R_below (Kd.R_elderB (by(with_reducible repeat(first | apply Kd.R_alloc | apply Kd.R_drewN | apply Kd.R_drew));exact HO_10.out) gb634 (Nat.le_of_eq hg.symm)) hb)
    have n2_:=Aside0.mk (bkB (g:=gb631) (o:=.cells #[.int .i64 ((rd_T89 x9_1 x11_1).f0),.int .i64 ((rd_T89 x9_1 x11_1).f1),.bool ((rd_T89 x9_1 x11_1).f2)] 89 (0,0)) (by(with_reducible repeat(first | refine bkN ?_ _ | refine bkD ?_ | refine bkA ?_ _));exact BK631.out) hb)
    have n3_:=Aside0.mk (bwT (by repeat(first |(with_reducible first | exact HB.out | apply bwA | apply bwN | apply bw1 | refine bwS ?_ GE631.out) | exact HB.out)) hb)
    have n4_:=Aside0.mk (hbox)
    have n5_:=Aside0.mk ((by rw [hg];exact(bwZ (by repeat(first |(with_reducible first | exact HB.out | apply bwA | apply bwN | apply bw1 | refine bwS ?_ GE631.out) | exact HB.out))) : w.heap.size≤gb634))
    have n6_:=Aside0.mk ((by rw [hg];exact(bwZ (by repeat(first |(with_reducible first | exact HB.out | apply bwA | apply bwN | apply bw1 | refine bwS ?_ GE631.out) | exact HB.out))) : w.heap.size≤gb634))
    have n7_:=Aside0.mk ((by rw [hg];exact Nat.ne_of_lt (blk_lt (g:=gb631) (o:=.cells #[.int .i64 ((rd_T89 x9_1 x11_1).f0),.int .i64 ((rd_T89 x9_1 x11_1).f1),.bool ((rd_T89 x9_1 x11_1).f2)] 89 (0,0)) (by(with_reducible repeat(first | refine bkN ?_ _ | refine bkD ?_ | refine bkA ?_ _));exact BK631.out)) : gb631≠gb634))
    have n8_:=Aside0.mk ((by rw [hg];exact Nat.ne_of_gt (blk_lt (g:=gb631) (o:=.cells #[.int .i64 ((rd_T89 x9_1 x11_1).f0),.int .i64 ((rd_T89 x9_1 x11_1).f1),.bool ((rd_T89 x9_1 x11_1).f2)] 89 (0,0)) (by(with_reducible repeat(first | refine bkN ?_ _ | refine bkD ?_ | refine bkA ?_ _));exact BK631.out)) : gb634≠gb631))
    clear HO_9
    clear HO_10
    clear BK631
    clear HB
    have HO_9:=n0_
    have HO_10:=n1_
    have BK631:=n2_
    have HB:=n3_
    have BK634:=n4_
    have GW634:=n5_
    have GE634:=n6_
    have NB631_634:=n7_
    have NB634_631:=n8_
    clear n0_ n1_ n2_ n3_ n4_ n5_ n6_ n7_ n8_
    clear hb hbox hg
    refine hK.out _ _ ⟨(bkC BK631.out 0).trans rfl,(bkC BK631.out 1).trans rfl,(bkC BK631.out 2).trans rfl,((HB.out.cell (World.block_lt_of_cell? w _ hw632_0)).trans hw632_0),((HB.out.cell (World.block_lt_of_cell? w _ hw632_1)).trans hw632_1),((HB.out.cell (World.block_lt_of_cell? w _ hw632_2)).trans hw632_2),((HB.out.cell (World.block_lt_of_cell? w _ hw633_0)).trans hw633_0),((HB.out.cell (World.block_lt_of_cell? w _ hw633_1)).trans hw633_1),((HB.out.cell (World.block_lt_of_cell? w _ hw633_2)).trans hw633_2)⟩ (fun hHeld=>?_)
    clear hK K
    refine norm_ (a':=?_) ?_ ?_
    rotate_left
    ·show Act.put _ (some 13) _ = _
     simp only [Act.put,List.setIfInBounds_toArray,List.set_cons_zero,List.set_cons_succ,i64_w,i32_w]
     rfl
    refine one_ (i:=11) (N:=some 14) #[true,true,true,true,true,true,true,true,true,true,true,true,false,false] rfl rfl (one_of HT_.out (by kernel_rfl)) (by decide) (fun K hK=>?_)
    refine box_step ?hg (N:=14) ?hd (cs:=#[.int .i64 0,.int .i64 0,.int .i64 0]) (t:=39) ?hr ?_;(case hd=>rfl);(case hg=>rfl);(case hr=>first |(go_simp;done) |(go_simp;rfl))
    intro gb635 hg w20 hbox hb
    have n0_:=Aside0.mk (Kd.R_below (by(with_reducible repeat(first | apply Kd.R_alloc | apply Kd.R_drewN | apply Kd.R_drew));exact HO_9.out) hb)
    have n1_:=Aside0.mk (Kd.R_below (Kd.R_elderB (by(with_reducible repeat(first | apply Kd.R_alloc | apply Kd.R_drewN | apply Kd.R_drew));exact HO_10.out) gb635 (Nat.le_of_eq hg.symm)) hb)
    have n2_:=Aside0.mk (bkB (g:=gb631) (o:=.cells #[.int .i64 ((rd_T89 x9_1 x11_1).f0),.int .i64 ((rd_T89 x9_1 x11_1).f1),.bool ((rd_T89 x9_1 x11_1).f2)] 89 (0,0)) (by(with_reducible repeat(first | refine bkN ?_ _ | refine bkD ?_ | refine bkA ?_ _));exact BK631.out) hb)
    have n3_:=Aside0.mk (bkB (g:=gb634) (o:=.cells #[.int .i64 0,.int .i64 0,.int .i64 0] 39 (0,0)) (by(with_reducible repeat(first | refine bkN ?_ _ | refine bkD ?_ | refine bkA ?_ _));exact BK634.out) hb)
    have n4_:=Aside0.mk (bwT (by repeat(first |(with_reducible first | exact HB.out | apply bwA | apply bwN | apply bw1 | refine bwS ?_ GE631.out | refine bwS ?_ GE634.out) | exact HB.out)) hb)
    have n5_:=Aside0.mk (hbox)
    have n6_:=Aside0.mk ((by rw [hg];exact(bwZ (by repeat(first |(with_reducible first | exact HB.out | apply bwA | apply bwN | apply bw1 | refine bwS ?_ GE631.out | refine bwS ?_ GE634.out) | exact HB.out))) : w.heap.size≤gb635))
    have n7_:=Aside0.mk ((by rw [hg];exact(bwZ (by repeat(first |(with_reducible first | exact HB.out | apply bwA | apply bwN | apply bw1 | refine bwS ?_ GE631.out | refine bwS ?_ GE634.out) | exact HB.out))) : w.heap.size≤gb635))
    have n8_:=Aside0.mk ((by rw [hg];exact Nat.ne_of_lt (blk_lt (g:=gb631) (o:=.cells #[.int .i64 ((rd_T89 x9_1 x11_1).f0),.int .i64 ((rd_T89 x9_1 x11_1).f1),.bool ((rd_T89 x9_1 x11_1).f2)] 89 (0,0)) (by(with_reducible repeat(first | refine bkN ?_ _ | refine bkD ?_ | refine bkA ?_ _));exact BK631.out)) : gb631≠gb635))
    have n9_:=Aside0.mk ((by rw [hg];exact Nat.ne_of_gt (blk_lt (g:=gb631) (o:=.cells #[.int .i64 ((rd_T89 x9_1 x11_1).f0),.int .i64 ((rd_T89 x9_1 x11_1).f1),.bool ((rd_T89 x9_1 x11_1).f2)] 89 (0,0)) (by(with_reducible repeat(first | refine bkN ?_ _ | refine bkD ?_ | refine bkA ?_ _));exact BK631.out)) : gb635≠gb631))
    have n10_:=Aside0.mk ((by rw [hg];exact Nat.ne_of_lt (blk_lt (g:=gb634) (o:=.cells #[.int .i64 0,.int .i64 0,.int .i64 0] 39 (0,0)) (by(with_reducible repeat(first | refine bkN ?_ _ | refine bkD ?_ | refine bkA ?_ _));exact BK634.out)) : gb634≠gb635))
    have n11_:=Aside0.mk ((by rw [hg];exact Nat.ne_of_gt (blk_lt (g:=gb634) (o:=.cells #[.int .i64 0,.int .i64 0,.int .i64 0] 39 (0,0)) (by(with_reducible repeat(first | refine bkN ?_ _ | refine bkD ?_ | refine bkA ?_ _));exact BK634.out)) : gb635≠gb634))
    clear HO_9
    clear HO_10
    clear BK631
    clear BK634
    clear HB
    have HO_9:=n0_
    have HO_10:=n1_
    have BK631:=n2_
    have BK634:=n3_
    have HB:=n4_
    have BK635:=n5_
    have GW635:=n6_
    have GE635:=n7_
    have NB631_635:=n8_
    have NB635_631:=n9_
    have NB634_635:=n10_
    have NB635_634:=n11_
    clear n0_ n1_ n2_ n3_ n4_ n5_ n6_ n7_ n8_ n9_ n10_ n11_
    clear hb hbox hg
    refine hK.out _ _ ⟨(bkC BK631.out 0).trans rfl,(bkC BK631.out 1).trans rfl,(bkC BK631.out 2).trans rfl,((HB.out.cell (World.block_lt_of_cell? w _ hw632_0)).trans hw632_0),((HB.out.cell (World.block_lt_of_cell? w _ hw632_1)).trans hw632_1),((HB.out.cell (World.block_lt_of_cell? w _ hw632_2)).trans hw632_2),((HB.out.cell (World.block_lt_of_cell? w _ hw633_0)).trans hw633_0),((HB.out.cell (World.block_lt_of_cell? w _ hw633_1)).trans hw633_1),((HB.out.cell (World.block_lt_of_cell? w _ hw633_2)).trans hw633_2)⟩ (fun hHeld=>?_)
    clear hK K
    refine norm_ (a':=?_) ?_ ?_
    rotate_left
    ·show Act.put _ (some 14) _ = _
     simp only [Act.put,List.setIfInBounds_toArray,List.set_cons_zero,List.set_cons_succ,i64_w,i32_w]
     rfl
    exact norm_ (by simp only [putAll,Act.put,List.setIfInBounds_toArray,List.set_cons_zero,List.set_cons_succ]) (hCont (gb634,gb635) _ ⟨hHeld,(by(with_reducible repeat(first | apply Kd.R_alloc | apply Kd.R_drewN | apply Kd.R_drew));exact Kd.R_mono HO_10.out (fun _ hk=>⟨hk.1.2,hk.2⟩)),(by(with_reducible repeat(first | apply Kd.R_alloc | apply Kd.R_drewN | apply Kd.R_drew));exact HO_9.out),(by(with_reducible repeat(first | refine bkN ?_ _ | refine bkD ?_ | refine bkA ?_ _));exact BK631.out),(by(with_reducible repeat(first | refine bkN ?_ _ | refine bkD ?_ | refine bkA ?_ _));exact BK634.out),(by(with_reducible repeat(first | refine bkN ?_ _ | refine bkD ?_ | refine bkA ?_ _));exact BK635.out),GW634.out,GE634.out,NB631_634.out,NB634_631.out,NB635_634.out,NB634_635.out,GW635.out,GE635.out,NB631_635.out,NB635_631.out,(by repeat(first |(with_reducible first | exact HB.out | apply bwA | apply bwN | apply bw1 | refine bwS ?_ GE631.out | refine bwS ?_ GE634.out | refine bwS ?_ GE635.out) | exact HB.out))⟩)
   skip
   refine box_step ?hg (N:=14) ?hd (cs:=#[.int .i64 0,.int .i64 0,.int .i64 0]) (t:=39) ?hr ?_;(case hd=>rfl);(case hg=>rfl);(case hr=>first |(go_simp;done) |(go_simp;rfl))
   intro gb635 hg w19 hbox hb
   have n0_:=Aside0.mk (Kd.R_below (by(with_reducible repeat(first | apply Kd.R_alloc | apply Kd.R_drewN | apply Kd.R_drew));exact HO_9.out) hb)
   have n1_:=Aside0.mk (Kd.R_below (Kd.R_elderB (by(with_reducible repeat(first | apply Kd.R_alloc | apply Kd.R_drewN | apply Kd.R_drew));exact HO_10.out) gb635 (Nat.le_of_eq hg.symm)) hb)
   have n2_:=Aside0.mk (bkB (g:=gb631) (o:=.cells #[.int .i64 ((rd_T89 x9_1 x11_1).f0),.int .i64 ((rd_T89 x9_1 x11_1).f1),.bool ((rd_T89 x9_1 x11_1).f2)] 89 (0,0)) (by(with_reducible repeat(first | refine bkN ?_ _ | refine bkD ?_ | refine bkA ?_ _));exact BK631.out) hb)
   have n3_:=Aside0.mk (bwT (by repeat(first |(with_reducible first | exact HB.out | apply bwA | apply bwN | apply bw1 | refine bwS ?_ GE631.out) | exact HB.out)) hb)
   have n4_:=Aside0.mk (hbox)
   have n5_:=Aside0.mk ((by rw [hg];exact(bwZ (by repeat(first |(with_reducible first | exact HB.out | apply bwA | apply bwN | apply bw1 | refine bwS ?_ GE631.out) | exact HB.out))) : w.heap.size≤gb635))
   have n6_:=Aside0.mk ((by rw [hg];exact(bwZ (by repeat(first |(with_reducible first | exact HB.out | apply bwA | apply bwN | apply bw1 | refine bwS ?_ GE631.out) | exact HB.out))) : w.heap.size≤gb635))
   have n7_:=Aside0.mk ((by rw [hg];exact Nat.ne_of_lt (blk_lt (g:=gb631) (o:=.cells #[.int .i64 ((rd_T89 x9_1 x11_1).f0),.int .i64 ((rd_T89 x9_1 x11_1).f1),.bool ((rd_T89 x9_1 x11_1).f2)] 89 (0,0)) (by(with_reducible repeat(first | refine bkN ?_ _ | refine bkD ?_ | refine bkA ?_ _));exact BK631.out)) : gb631≠gb635))
   have n8_:=Aside0.mk ((by rw [hg];exact Nat.ne_of_gt (blk_lt (g:=gb631) (o:=.cells #[.int .i64 ((rd_T89 x9_1 x11_1).f0),.int .i64 ((rd_T89 x9_1 x11_1).f1),.bool ((rd_T89 x9_1 x11_1).f2)] 89 (0,0)) (by(with_reducible repeat(first | refine bkN ?_ _ | refine bkD ?_ | refine bkA ?_ _));exact BK631.out)) : gb635≠gb631))
   clear HO_9
   clear HO_10
   clear BK631
   clear HB
   have HO_9:=n0_
   have HO_10:=n1_
   have BK631:=n2_
   have HB:=n3_
   have BK635:=n4_
   have GW635:=n5_
   have GE635:=n6_
   have NB631_635:=n7_
   have NB635_631:=n8_
   clear n0_ n1_ n2_ n3_ n4_ n5_ n6_ n7_ n8_
   clear hb hbox hg
   refine hK.out _ _ ⟨(bkC BK631.out 0).trans rfl,(bkC BK631.out 1).trans rfl,(bkC BK631.out 2).trans rfl,((HB.out.cell (World.block_lt_of_cell? w _ hw632_0)).trans hw632_0),((HB.out.cell (World.block_lt_of_cell? w _ hw632_1)).trans hw632_1),((HB.out.cell (World.block_lt_of_cell? w _ hw632_2)).trans hw632_2),((HB.out.cell (World.block_lt_of_cell? w _ hw633_0)).trans hw633_0),((HB.out.cell (World.block_lt_of_cell? w _ hw633_1)).trans hw633_1),((HB.out.cell (World.block_lt_of_cell? w _ hw633_2)).trans hw633_2)⟩ (fun hHeld=>?_)
   clear hK K
   refine norm_ (a':=?_) ?_ ?_
   rotate_left
   ·show Act.put _ (some 14) _ = _
    simp only [Act.put,List.setIfInBounds_toArray,List.set_cons_zero,List.set_cons_succ,i64_w,i32_w]
    rfl
   refine one_ (i:=10) (N:=some 13) #[true,true,true,true,true,true,true,true,true,true,true,true,false,false] rfl rfl (one_of HT_.out (by kernel_rfl)) (by decide) (fun K hK=>?_)
   refine box_step ?hg (N:=13) ?hd (cs:=#[.int .i64 0,.int .i64 0,.int .i64 0]) (t:=39) ?hr ?_;(case hd=>rfl);(case hg=>rfl);(case hr=>first |(go_simp;done) |(go_simp;rfl))
   intro gb634 hg w20 hbox hb
   have n0_:=Aside0.mk (Kd.R_below (by(with_reducible repeat(first | apply Kd.R_alloc | apply Kd.R_drewN | apply Kd.R_drew));exact HO_9.out) hb)
   have n1_:=Aside0.mk (Kd.R_below (Kd.R_elderB (by(with_reducible repeat(first | apply Kd.R_alloc | apply Kd.R_drewN | apply Kd.R_drew));exact HO_10.out) gb634 (Nat.le_of_eq hg.symm)) hb)
   have n2_:=Aside0.mk (bkB (g:=gb631) (o:=.cells #[.int .i64 ((rd_T89 x9_1 x11_1).f0),.int .i64 ((rd_T89 x9_1 x11_1).f1),.bool ((rd_T89 x9_1 x11_1).f2)] 89 (0,0)) (by(with_reducible repeat(first | refine bkN ?_ _ | refine bkD ?_ | refine bkA ?_ _));exact BK631.out) hb)
   have n3_:=Aside0.mk (bkB (g:=gb635) (o:=.cells #[.int .i64 0,.int .i64 0,.int .i64 0] 39 (0,0)) (by(with_reducible repeat(first | refine bkN ?_ _ | refine bkD ?_ | refine bkA ?_ _));exact BK635.out) hb)
   have n4_:=Aside0.mk (bwT (by repeat(first |(with_reducible first | exact HB.out | apply bwA | apply bwN | apply bw1 | refine bwS ?_ GE631.out | refine bwS ?_ GE635.out) | exact HB.out)) hb)
   have n5_:=Aside0.mk (hbox)
   have n6_:=Aside0.mk ((by rw [hg];exact(bwZ (by repeat(first |(with_reducible first | exact HB.out | apply bwA | apply bwN | apply bw1 | refine bwS ?_ GE631.out | refine bwS ?_ GE635.out) | exact HB.out))) : w.heap.size≤gb634))
   have n7_:=Aside0.mk ((by rw [hg];exact(bwZ (by repeat(first |(with_reducible first | exact HB.out | apply bwA | apply bwN | apply bw1 | refine bwS ?_ GE631.out | refine bwS ?_ GE635.out) | exact HB.out))) : w.heap.size≤gb634))
   have n8_:=Aside0.mk ((by rw [hg];exact Nat.ne_of_lt (blk_lt (g:=gb631) (o:=.cells #[.int .i64 ((rd_T89 x9_1 x11_1).f0),.int .i64 ((rd_T89 x9_1 x11_1).f1),.bool ((rd_T89 x9_1 x11_1).f2)] 89 (0,0)) (by(with_reducible repeat(first | refine bkN ?_ _ | refine bkD ?_ | refine bkA ?_ _));exact BK631.out)) : gb631≠gb634))
   have n9_:=Aside0.mk ((by rw [hg];exact Nat.ne_of_gt (blk_lt (g:=gb631) (o:=.cells #[.int .i64 ((rd_T89 x9_1 x11_1).f0),.int .i64 ((rd_T89 x9_1 x11_1).f1),.bool ((rd_T89 x9_1 x11_1).f2)] 89 (0,0)) (by(with_reducible repeat(first | refine bkN ?_ _ | refine bkD ?_ | refine bkA ?_ _));exact BK631.out)) : gb634≠gb631))
   have n10_:=Aside0.mk ((by rw [hg];exact Nat.ne_of_lt (blk_lt (g:=gb635) (o:=.cells #[.int .i64 0,.int .i64 0,.int .i64 0] 39 (0,0)) (by(with_reducible repeat(first | refine bkN ?_ _ | refine bkD ?_ | refine bkA ?_ _));exact BK635.out)) : gb635≠gb634))
   have n11_:=Aside0.mk ((by rw [hg];exact Nat.ne_of_gt (blk_lt (g:=gb635) (o:=.cells #[.int .i64 0,.int .i64 0,.int .i64 0] 39 (0,0)) (by(with_reducible repeat(first | refine bkN ?_ _ | refine bkD ?_ | refine bkA ?_ _));exact BK635.out)) : gb634≠gb635))
   clear HO_9
   clear HO_10
   clear BK631
   clear BK635
   clear HB
   have HO_9:=n0_
   have HO_10:=n1_
   have BK631:=n2_
   have BK635:=n3_
   have HB:=n4_
   have BK634:=n5_
   have GW634:=n6_
   have GE634:=n7_
   have NB631_634:=n8_
   have NB634_631:=n9_
   have NB635_634:=n10_
   have NB634_635:=n11_
   clear n0_ n1_ n2_ n3_ n4_ n5_ n6_ n7_ n8_ n9_ n10_ n11_
   clear hb hbox hg
   refine hK.out _ _ ⟨(bkC BK631.out 0).trans rfl,(bkC BK631.out 1).trans rfl,(bkC BK631.out 2).trans rfl,((HB.out.cell (World.block_lt_of_cell? w _ hw632_0)).trans hw632_0),((HB.out.cell (World.block_lt_of_cell? w _ hw632_1)).trans hw632_1),((HB.out.cell (World.block_lt_of_cell? w _ hw632_2)).trans hw632_2),((HB.out.cell (World.block_lt_of_cell? w _ hw633_0)).trans hw633_0),((HB.out.cell (World.block_lt_of_cell? w _ hw633_1)).trans hw633_1),((HB.out.cell (World.block_lt_of_cell? w _ hw633_2)).trans hw633_2)⟩ (fun hHeld=>?_)
   clear hK K
   refine norm_ (a':=?_) ?_ ?_
   rotate_left
   ·show Act.put _ (some 13) _ = _
    simp only [Act.put,List.setIfInBounds_toArray,List.set_cons_zero,List.set_cons_succ,i64_w,i32_w]
    rfl
   exact norm_ (by simp only [putAll,Act.put,List.setIfInBounds_toArray,List.set_cons_zero,List.set_cons_succ]) (hCont (gb634,gb635) _ ⟨hHeld,(by(with_reducible repeat(first | apply Kd.R_alloc | apply Kd.R_drewN | apply Kd.R_drew));exact Kd.R_mono HO_10.out (fun _ hk=>⟨hk.2,hk.1.2⟩)),(by(with_reducible repeat(first | apply Kd.R_alloc | apply Kd.R_drewN | apply Kd.R_drew));exact HO_9.out),(by(with_reducible repeat(first | refine bkN ?_ _ | refine bkD ?_ | refine bkA ?_ _));exact BK631.out),(by(with_reducible repeat(first | refine bkN ?_ _ | refine bkD ?_ | refine bkA ?_ _));exact BK634.out),(by(with_reducible repeat(first | refine bkN ?_ _ | refine bkD ?_ | refine bkA ?_ _));exact BK635.out),GW634.out,GE634.out,NB631_634.out,NB634_631.out,NB635_634.out,NB634_635.out,GW635.out,GE635.out,NB631_635.out,NB635_631.out,(by repeat(first |(with_reducible first | exact HB.out | apply bwA | apply bwN | apply bw1 | refine bwS ?_ GE631.out | refine bwS ?_ GE635.out | refine bwS ?_ GE634.out) | exact HB.out))⟩)
  rintro⟨gb634,gb635⟩ w21 ⟨hS_,h0_,h1_,h2_,h3_,h4_,h5_,h6_,h7_,h8_,h9_,h10_,h11_,h12_,h13_,h14_,h15_⟩
  have n0_ : Aside0 (Kd.R k39 39 w21 w.heap.size (fun k_=>k_≠gb634∧k_≠gb635) u10 x10_1):=⟨h0_⟩
  have n1_ : Aside0 (Kd.R k89 89 w21 w.heap.size (fun k_=>k_≠gb631) (.slice (some ad630) x9_1.length co14) x9_1):=⟨h1_⟩
  have n2_ : Aside0 (w21.heap[gb631]? = some (.cells #[.int .i64 ((rd_T89 x9_1 x11_1).f0),.int .i64 ((rd_T89 x9_1 x11_1).f1),.bool ((rd_T89 x9_1 x11_1).f2)] 89 (0,0))):=⟨h2_⟩
  have n3_ : Aside0 (w21.heap[gb634]? = some (.cells #[.int .i64 0,.int .i64 0,.int .i64 0] 39 (0,0))):=⟨h3_⟩
  have n4_ : Aside0 (w21.heap[gb635]? = some (.cells #[.int .i64 0,.int .i64 0,.int .i64 0] 39 (0,0))):=⟨h4_⟩
  have n5_ : Aside0 (w.heap.size≤gb634):=⟨h5_⟩
  have n6_ : Aside0 (w.heap.size≤gb634):=⟨h6_⟩
  have n7_ : Aside0 (gb631≠gb634):=⟨h7_⟩
  have n8_ : Aside0 (gb634≠gb631):=⟨h8_⟩
  have n9_ : Aside0 (gb635≠gb634):=⟨h9_⟩
  have n10_ : Aside0 (gb634≠gb635):=⟨h10_⟩
  have n11_ : Aside0 (w.heap.size≤gb635):=⟨h11_⟩
  have n12_ : Aside0 (w.heap.size≤gb635):=⟨h12_⟩
  have n13_ : Aside0 (gb631≠gb635):=⟨h13_⟩
  have n14_ : Aside0 (gb635≠gb631):=⟨h14_⟩
  have n15_ : Aside0 (Below w.heap.size w w21):=⟨h15_⟩
  clear HO_9
  clear HO_10
  clear BK631
  clear HB
  clear h0_ h1_ h2_ h3_ h4_ h5_ h6_ h7_ h8_ h9_ h10_ h11_ h12_ h13_ h14_ h15_
  have HO_10:=n0_
  have HO_9:=n1_
  have BK631:=n2_
  have BK634:=n3_
  have BK635:=n4_
  have GW634:=n5_
  have GE634:=n6_
  have NB631_634:=n7_
  have NB634_631:=n8_
  have NB635_634:=n9_
  have NB634_635:=n10_
  have GW635:=n11_
  have GE635:=n12_
  have NB631_635:=n13_
  have NB635_631:=n14_
  have HB:=n15_
  clear n0_ n1_ n2_ n3_ n4_ n5_ n6_ n7_ n8_ n9_ n10_ n11_ n12_ n13_ n14_ n15_
  have hHeld : w21.cell? ⟨gb631,0,none⟩ = some (.int .i64 ((rd_T89 x9_1 x11_1).f0))∧w21.cell? ⟨gb631,1,none⟩ = some (.int .i64 ((rd_T89 x9_1 x11_1).f1))∧w21.cell? ⟨gb631,2,none⟩ = some (.bool ((rd_T89 x9_1 x11_1).f2))∧w21.cell? (ad632.add ((((rd_T89 x9_1 x11_1).f0)).toNat * 3)) = some (.int .i64 ((rd_T39 l0 ((rd_T89 x9_1 x11_1).f0)).f0))∧w21.cell? ⟨(ad632.add ((((rd_T89 x9_1 x11_1).f0)).toNat * 3)).block,(ad632.add ((((rd_T89 x9_1 x11_1).f0)).toNat * 3)).off + 1,none⟩ = some (.int .i64 ((rd_T39 l0 ((rd_T89 x9_1 x11_1).f0)).f1))∧w21.cell? ⟨(ad632.add ((((rd_T89 x9_1 x11_1).f0)).toNat * 3)).block,(ad632.add ((((rd_T89 x9_1 x11_1).f0)).toNat * 3)).off + 2,none⟩ = some (.int .i64 ((rd_T39 l0 ((rd_T89 x9_1 x11_1).f0)).f2))∧w21.cell? (ad632.add ((((rd_T89 x9_1 x11_1).f1)).toNat * 3)) = some (.int .i64 ((rd_T39 l0 ((rd_T89 x9_1 x11_1).f1)).f0))∧w21.cell? ⟨(ad632.add ((((rd_T89 x9_1 x11_1).f1)).toNat * 3)).block,(ad632.add ((((rd_T89 x9_1 x11_1).f1)).toNat * 3)).off + 1,none⟩ = some (.int .i64 ((rd_T39 l0 ((rd_T89 x9_1 x11_1).f1)).f1))∧w21.cell? ⟨(ad632.add ((((rd_T89 x9_1 x11_1).f1)).toNat * 3)).block,(ad632.add ((((rd_T89 x9_1 x11_1).f1)).toNat * 3)).off + 2,none⟩ = some (.int .i64 ((rd_T39 l0 ((rd_T89 x9_1 x11_1).f1)).f2)):=hS_
  refine norm_ (a':=?_) ?_ ?_
  rotate_left
  ·simp only [putAll, Act.put, List.setIfInBounds_toArray, List.set_cons_zero, List.set_cons_succ]
   rfl
  refine one_ (i:=12) (N:=none) #[true,true,true,true,true,true,true,true,true,true,true,true,true,false] rfl rfl (one_of HT_.out (by kernel_rfl)) (by decide) (fun K hK=>?_)
  have hs22 : w21.cell? ⟨gb634,0,none⟩ = some (.int .i64 0):=(bkC BK634.out 0).trans rfl
  have hfs22:=bkF BK634.out 0
  have hns22_0:=NB631_634.out
  have hns22_2:=NB635_634.out
  have hms22_0:=NB634_631.out
  have hms22_2:=NB634_635.out
  have hs23 : w21.cell? ⟨gb634,1,none⟩ = some (.int .i64 0):=(bkC BK634.out 1).trans rfl
  have hfs23:=bkF BK634.out 1
  have hns23_0:=NB631_634.out
  have hns23_2:=NB635_634.out
  have hms23_0:=NB634_631.out
  have hms23_2:=NB634_635.out
  have hs24 : w21.cell? ⟨gb634,2,none⟩ = some (.int .i64 0):=(bkC BK634.out 2).trans rfl
  have hfs24:=bkF BK634.out 2
  have hns24_0:=NB631_634.out
  have hns24_2:=NB635_634.out
  have hms24_0:=NB634_631.out
  have hms24_2:=NB634_635.out
  refine skip_ (w1:=?_) (by rfl) rfl ?_ ?_
  rotate_left
  ·go_simp
   rfl
  refine hK.out _ _ ⟨((cell_far (p:=⟨gb634,_,none⟩) NB631_634.out _).trans (((cell_far (p:=⟨gb634,_,none⟩) NB631_634.out _).trans (((cell_far (p:=⟨gb634,_,none⟩) NB631_634.out _).trans (hHeld.1)))))),((cell_far (p:=⟨gb634,_,none⟩) NB631_634.out _).trans (((cell_far (p:=⟨gb634,_,none⟩) NB631_634.out _).trans (((cell_far (p:=⟨gb634,_,none⟩) NB631_634.out _).trans (hHeld.2.1)))))),((cell_far (p:=⟨gb634,_,none⟩) NB631_634.out _).trans (((cell_far (p:=⟨gb634,_,none⟩) NB631_634.out _).trans (((cell_far (p:=⟨gb634,_,none⟩) NB631_634.out _).trans (hHeld.2.2.1)))))),((cell_far (p:=⟨gb634,_,none⟩) (by first | exact Nat.ne_of_lt (Nat.lt_of_lt_of_le (by have:=World.block_lt_of_cell? _ _ hw632_0;first | rwa [add_block] at this | exact this) GW634.out) |(rw [add_block];exact Nat.ne_of_lt (Nat.lt_of_lt_of_le (by have:=World.block_lt_of_cell? _ _ hw632_0;first | rwa [add_block] at this | exact this) GW634.out)) |(show(Addr.add _ _).block≠_;rw [add_block];exact Nat.ne_of_lt (Nat.lt_of_lt_of_le (by have:=World.block_lt_of_cell? _ _ hw632_0;first | rwa [add_block] at this | exact this) GW634.out)) |(dsimp only;exact Nat.ne_of_lt (Nat.lt_of_lt_of_le (by have:=World.block_lt_of_cell? _ _ hw632_0;first | rwa [add_block] at this | exact this) GW634.out))) _).trans (((cell_far (p:=⟨gb634,_,none⟩) (by first | exact Nat.ne_of_lt (Nat.lt_of_lt_of_le (by have:=World.block_lt_of_cell? _ _ hw632_0;first | rwa [add_block] at this | exact this) GW634.out) |(rw [add_block];exact Nat.ne_of_lt (Nat.lt_of_lt_of_le (by have:=World.block_lt_of_cell? _ _ hw632_0;first | rwa [add_block] at this | exact this) GW634.out)) |(show(Addr.add _ _).block≠_;rw [add_block];exact Nat.ne_of_lt (Nat.lt_of_lt_of_le (by have:=World.block_lt_of_cell? _ _ hw632_0;first | rwa [add_block] at this | exact this) GW634.out)) |(dsimp only;exact Nat.ne_of_lt (Nat.lt_of_lt_of_le (by have:=World.block_lt_of_cell? _ _ hw632_0;first | rwa [add_block] at this | exact this) GW634.out))) _).trans (((cell_far (p:=⟨gb634,_,none⟩) (by first | exact Nat.ne_of_lt (Nat.lt_of_lt_of_le (by have:=World.block_lt_of_cell? _ _ hw632_0;first | rwa [add_block] at this | exact this) GW634.out) |(rw [add_block];exact Nat.ne_of_lt (Nat.lt_of_lt_of_le (by have:=World.block_lt_of_cell? _ _ hw632_0;first | rwa [add_block] at this | exact this) GW634.out)) |(show(Addr.add _ _).block≠_;rw [add_block];exact Nat.ne_of_lt (Nat.lt_of_lt_of_le (by have:=World.block_lt_of_cell? _ _ hw632_0;first | rwa [add_block] at this | exact this) GW634.out)) |(dsimp only;exact Nat.ne_of_lt (Nat.lt_of_lt_of_le (by have:=World.block_lt_of_cell? _ _ hw632_0;first | rwa [add_block] at this | exact this) GW634.out))) _).trans (hHeld.2.2.2.1)))))),((cell_far (p:=⟨gb634,_,none⟩) (by first | exact Nat.ne_of_lt (Nat.lt_of_lt_of_le (by have:=World.block_lt_of_cell? _ _ hw632_1;first | rwa [add_block] at this | exact this) GW634.out) |(rw [add_block];exact Nat.ne_of_lt (Nat.lt_of_lt_of_le (by have:=World.block_lt_of_cell? _ _ hw632_1;first | rwa [add_block] at this | exact this) GW634.out)) |(show(Addr.add _ _).block≠_;rw [add_block];exact Nat.ne_of_lt (Nat.lt_of_lt_of_le (by have:=World.block_lt_of_cell? _ _ hw632_1;first | rwa [add_block] at this | exact this) GW634.out)) |(dsimp only;exact Nat.ne_of_lt (Nat.lt_of_lt_of_le (by have:=World.block_lt_of_cell? _ _ hw632_1;first | rwa [add_block] at this | exact this) GW634.out))) _).trans (((cell_far (p:=⟨gb634,_,none⟩) (by first | exact Nat.ne_of_lt (Nat.lt_of_lt_of_le (by have:=World.block_lt_of_cell? _ _ hw632_1;first | rwa [add_block] at this | exact this) GW634.out) |(rw [add_block];exact Nat.ne_of_lt (Nat.lt_of_lt_of_le (by have:=World.block_lt_of_cell? _ _ hw632_1;first | rwa [add_block] at this | exact this) GW634.out)) |(show(Addr.add _ _).block≠_;rw [add_block];exact Nat.ne_of_lt (Nat.lt_of_lt_of_le (by have:=World.block_lt_of_cell? _ _ hw632_1;first | rwa [add_block] at this | exact this) GW634.out)) |(dsimp only;exact Nat.ne_of_lt (Nat.lt_of_lt_of_le (by have:=World.block_lt_of_cell? _ _ hw632_1;first | rwa [add_block] at this | exact this) GW634.out))) _).trans (((cell_far (p:=⟨gb634,_,none⟩) (by first | exact Nat.ne_of_lt (Nat.lt_of_lt_of_le (by have:=World.block_lt_of_cell? _ _ hw632_1;first | rwa [add_block] at this | exact this) GW634.out) |(rw [add_block];exact Nat.ne_of_lt (Nat.lt_of_lt_of_le (by have:=World.block_lt_of_cell? _ _ hw632_1;first | rwa [add_block] at this | exact this) GW634.out)) |(show(Addr.add _ _).block≠_;rw [add_block];exact Nat.ne_of_lt (Nat.lt_of_lt_of_le (by have:=World.block_lt_of_cell? _ _ hw632_1;first | rwa [add_block] at this | exact this) GW634.out)) |(dsimp only;exact Nat.ne_of_lt (Nat.lt_of_lt_of_le (by have:=World.block_lt_of_cell? _ _ hw632_1;first | rwa [add_block] at this | exact this) GW634.out))) _).trans (hHeld.2.2.2.2.1)))))),((cell_far (p:=⟨gb634,_,none⟩) (by first | exact Nat.ne_of_lt (Nat.lt_of_lt_of_le (by have:=World.block_lt_of_cell? _ _ hw632_2;first | rwa [add_block] at this | exact this) GW634.out) |(rw [add_block];exact Nat.ne_of_lt (Nat.lt_of_lt_of_le (by have:=World.block_lt_of_cell? _ _ hw632_2;first | rwa [add_block] at this | exact this) GW634.out)) |(show(Addr.add _ _).block≠_;rw [add_block];exact Nat.ne_of_lt (Nat.lt_of_lt_of_le (by have:=World.block_lt_of_cell? _ _ hw632_2;first | rwa [add_block] at this | exact this) GW634.out)) |(dsimp only;exact Nat.ne_of_lt (Nat.lt_of_lt_of_le (by have:=World.block_lt_of_cell? _ _ hw632_2;first | rwa [add_block] at this | exact this) GW634.out))) _).trans (((cell_far (p:=⟨gb634,_,none⟩) (by first | exact Nat.ne_of_lt (Nat.lt_of_lt_of_le (by have:=World.block_lt_of_cell? _ _ hw632_2;first | rwa [add_block] at this | exact this) GW634.out) |(rw [add_block];exact Nat.ne_of_lt (Nat.lt_of_lt_of_le (by have:=World.block_lt_of_cell? _ _ hw632_2;first | rwa [add_block] at this | exact this) GW634.out)) |(show(Addr.add _ _).block≠_;rw [add_block];exact Nat.ne_of_lt (Nat.lt_of_lt_of_le (by have:=World.block_lt_of_cell? _ _ hw632_2;first | rwa [add_block] at this | exact this) GW634.out)) |(dsimp only;exact Nat.ne_of_lt (Nat.lt_of_lt_of_le (by have:=World.block_lt_of_cell? _ _ hw632_2;first | rwa [add_block] at this | exact this) GW634.out))) _).trans (((cell_far (p:=⟨gb634,_,none⟩) (by first | exact Nat.ne_of_lt (Nat.lt_of_lt_of_le (by have:=World.block_lt_of_cell? _ _ hw632_2;first | rwa [add_block] at this | exact this) GW634.out) |(rw [add_block];exact Nat.ne_of_lt (Nat.lt_of_lt_of_le (by have:=World.block_lt_of_cell? _ _ hw632_2;first | rwa [add_block] at this | exact this) GW634.out)) |(show(Addr.add _ _).block≠_;rw [add_block];exact Nat.ne_of_lt (Nat.lt_of_lt_of_le (by have:=World.block_lt_of_cell? _ _ hw632_2;first | rwa [add_block] at this | exact this) GW634.out)) |(dsimp only;exact Nat.ne_of_lt (Nat.lt_of_lt_of_le (by have:=World.block_lt_of_cell? _ _ hw632_2;first | rwa [add_block] at this | exact this) GW634.out))) _).trans (hHeld.2.2.2.2.2.1)))))),((cell_far (p:=⟨gb634,_,none⟩) (by first | exact Nat.ne_of_lt (Nat.lt_of_lt_of_le (by have:=World.block_lt_of_cell? _ _ hw633_0;first | rwa [add_block] at this | exact this) GW634.out) |(rw [add_block];exact Nat.ne_of_lt (Nat.lt_of_lt_of_le (by have:=World.block_lt_of_cell? _ _ hw633_0;first | rwa [add_block] at this | exact this) GW634.out)) |(show(Addr.add _ _).block≠_;rw [add_block];exact Nat.ne_of_lt (Nat.lt_of_lt_of_le (by have:=World.block_lt_of_cell? _ _ hw633_0;first | rwa [add_block] at this | exact this) GW634.out)) |(dsimp only;exact Nat.ne_of_lt (Nat.lt_of_lt_of_le (by have:=World.block_lt_of_cell? _ _ hw633_0;first | rwa [add_block] at this | exact this) GW634.out))) _).trans (((cell_far (p:=⟨gb634,_,none⟩) (by first | exact Nat.ne_of_lt (Nat.lt_of_lt_of_le (by have:=World.block_lt_of_cell? _ _ hw633_0;first | rwa [add_block] at this | exact this) GW634.out) |(rw [add_block];exact Nat.ne_of_lt (Nat.lt_of_lt_of_le (by have:=World.block_lt_of_cell? _ _ hw633_0;first | rwa [add_block] at this | exact this) GW634.out)) |(show(Addr.add _ _).block≠_;rw [add_block];exact Nat.ne_of_lt (Nat.lt_of_lt_of_le (by have:=World.block_lt_of_cell? _ _ hw633_0;first | rwa [add_block] at this | exact this) GW634.out)) |(dsimp only;exact Nat.ne_of_lt (Nat.lt_of_lt_of_le (by have:=World.block_lt_of_cell? _ _ hw633_0;first | rwa [add_block] at this | exact this) GW634.out))) _).trans (((cell_far (p:=⟨gb634,_,none⟩) (by first | exact Nat.ne_of_lt (Nat.lt_of_lt_of_le (by have:=World.block_lt_of_cell? _ _ hw633_0;first | rwa [add_block] at this | exact this) GW634.out) |(rw [add_block];exact Nat.ne_of_lt (Nat.lt_of_lt_of_le (by have:=World.block_lt_of_cell? _ _ hw633_0;first | rwa [add_block] at this | exact this) GW634.out)) |(show(Addr.add _ _).block≠_;rw [add_block];exact Nat.ne_of_lt (Nat.lt_of_lt_of_le (by have:=World.block_lt_of_cell? _ _ hw633_0;first | rwa [add_block] at this | exact this) GW634.out)) |(dsimp only;exact Nat.ne_of_lt (Nat.lt_of_lt_of_le (by have:=World.block_lt_of_cell? _ _ hw633_0;first | rwa [add_block] at this | exact this) GW634.out))) _).trans (hHeld.2.2.2.2.2.2.1)))))),((cell_far (p:=⟨gb634,_,none⟩) (by first | exact Nat.ne_of_lt (Nat.lt_of_lt_of_le (by have:=World.block_lt_of_cell? _ _ hw633_1;first | rwa [add_block] at this | exact this) GW634.out) |(rw [add_block];exact Nat.ne_of_lt (Nat.lt_of_lt_of_le (by have:=World.block_lt_of_cell? _ _ hw633_1;first | rwa [add_block] at this | exact this) GW634.out)) |(show(Addr.add _ _).block≠_;rw [add_block];exact Nat.ne_of_lt (Nat.lt_of_lt_of_le (by have:=World.block_lt_of_cell? _ _ hw633_1;first | rwa [add_block] at this | exact this) GW634.out)) |(dsimp only;exact Nat.ne_of_lt (Nat.lt_of_lt_of_le (by have:=World.block_lt_of_cell? _ _ hw633_1;first | rwa [add_block] at this | exact this) GW634.out))) _).trans (((cell_far (p:=⟨gb634,_,none⟩) (by first | exact Nat.ne_of_lt (Nat.lt_of_lt_of_le (by have:=World.block_lt_of_cell? _ _ hw633_1;first | rwa [add_block] at this | exact this) GW634.out) |(rw [add_block];exact Nat.ne_of_lt (Nat.lt_of_lt_of_le (by have:=World.block_lt_of_cell? _ _ hw633_1;first | rwa [add_block] at this | exact this) GW634.out)) |(show(Addr.add _ _).block≠_;rw [add_block];exact Nat.ne_of_lt (Nat.lt_of_lt_of_le (by have:=World.block_lt_of_cell? _ _ hw633_1;first | rwa [add_block] at this | exact this) GW634.out)) |(dsimp only;exact Nat.ne_of_lt (Nat.lt_of_lt_of_le (by have:=World.block_lt_of_cell? _ _ hw633_1;first | rwa [add_block] at this | exact this) GW634.out))) _).trans (((cell_far (p:=⟨gb634,_,none⟩) (by first | exact Nat.ne_of_lt (Nat.lt_of_lt_of_le (by have:=World.block_lt_of_cell? _ _ hw633_1;first | rwa [add_block] at this | exact this) GW634.out) |(rw [add_block];exact Nat.ne_of_lt (Nat.lt_of_lt_of_le (by have:=World.block_lt_of_cell? _ _ hw633_1;first | rwa [add_block] at this | exact this) GW634.out)) |(show(Addr.add _ _).block≠_;rw [add_block];exact Nat.ne_of_lt (Nat.lt_of_lt_of_le (by have:=World.block_lt_of_cell? _ _ hw633_1;first | rwa [add_block] at this | exact this) GW634.out)) |(dsimp only;exact Nat.ne_of_lt (Nat.lt_of_lt_of_le (by have:=World.block_lt_of_cell? _ _ hw633_1;first | rwa [add_block] at this | exact this) GW634.out))) _).trans (hHeld.2.2.2.2.2.2.2.1)))))),((cell_far (p:=⟨gb634,_,none⟩) (by first | exact Nat.ne_of_lt (Nat.lt_of_lt_of_le (by have:=World.block_lt_of_cell? _ _ hw633_2;first | rwa [add_block] at this | exact this) GW634.out) |(rw [add_block];exact Nat.ne_of_lt (Nat.lt_of_lt_of_le (by have:=World.block_lt_of_cell? _ _ hw633_2;first | rwa [add_block] at this | exact this) GW634.out)) |(show(Addr.add _ _).block≠_;rw [add_block];exact Nat.ne_of_lt (Nat.lt_of_lt_of_le (by have:=World.block_lt_of_cell? _ _ hw633_2;first | rwa [add_block] at this | exact this) GW634.out)) |(dsimp only;exact Nat.ne_of_lt (Nat.lt_of_lt_of_le (by have:=World.block_lt_of_cell? _ _ hw633_2;first | rwa [add_block] at this | exact this) GW634.out))) _).trans (((cell_far (p:=⟨gb634,_,none⟩) (by first | exact Nat.ne_of_lt (Nat.lt_of_lt_of_le (by have:=World.block_lt_of_cell? _ _ hw633_2;first | rwa [add_block] at this | exact this) GW634.out) |(rw [add_block];exact Nat.ne_of_lt (Nat.lt_of_lt_of_le (by have:=World.block_lt_of_cell? _ _ hw633_2;first | rwa [add_block] at this | exact this) GW634.out)) |(show(Addr.add _ _).block≠_;rw [add_block];exact Nat.ne_of_lt (Nat.lt_of_lt_of_le (by have:=World.block_lt_of_cell? _ _ hw633_2;first | rwa [add_block] at this | exact this) GW634.out)) |(dsimp only;exact Nat.ne_of_lt (Nat.lt_of_lt_of_le (by have:=World.block_lt_of_cell? _ _ hw633_2;first | rwa [add_block] at this | exact this) GW634.out))) _).trans (((cell_far (p:=⟨gb634,_,none⟩) (by first | exact Nat.ne_of_lt (Nat.lt_of_lt_of_le (by have:=World.block_lt_of_cell? _ _ hw633_2;first | rwa [add_block] at this | exact this) GW634.out) |(rw [add_block];exact Nat.ne_of_lt (Nat.lt_of_lt_of_le (by have:=World.block_lt_of_cell? _ _ hw633_2;first | rwa [add_block] at this | exact this) GW634.out)) |(show(Addr.add _ _).block≠_;rw [add_block];exact Nat.ne_of_lt (Nat.lt_of_lt_of_le (by have:=World.block_lt_of_cell? _ _ hw633_2;first | rwa [add_block] at this | exact this) GW634.out)) |(dsimp only;exact Nat.ne_of_lt (Nat.lt_of_lt_of_le (by have:=World.block_lt_of_cell? _ _ hw633_2;first | rwa [add_block] at this | exact this) GW634.out))) _).trans (hHeld.2.2.2.2.2.2.2.2))))))⟩ (fun hHeld=>?_)
  clear hK K
  refine one_ (i:=13) (N:=none) #[true,true,true,true,true,true,true,true,true,true,true,true,true,true] rfl rfl (one_of HT_.out (by kernel_rfl)) (by decide) (fun K hK=>?_)
  have hs25 : w21.cell? ⟨gb635,0,none⟩ = some (.int .i64 0):=(bkC BK635.out 0).trans rfl
  have hfs25:=bkF BK635.out 0
  have hns25_0:=NB631_635.out
  have hns25_1:=NB634_635.out
  have hms25_0:=NB635_631.out
  have hms25_1:=NB635_634.out
  have hs26 : w21.cell? ⟨gb635,1,none⟩ = some (.int .i64 0):=(bkC BK635.out 1).trans rfl
  have hfs26:=bkF BK635.out 1
  have hns26_0:=NB631_635.out
  have hns26_1:=NB634_635.out
  have hms26_0:=NB635_631.out
  have hms26_1:=NB635_634.out
  have hs27 : w21.cell? ⟨gb635,2,none⟩ = some (.int .i64 0):=(bkC BK635.out 2).trans rfl
  have hfs27:=bkF BK635.out 2
  have hns27_0:=NB631_635.out
  have hns27_1:=NB634_635.out
  have hms27_0:=NB635_631.out
  have hms27_1:=NB635_634.out
  refine skip_ (w1:=?_) (by rfl) rfl ?_ ?_
  rotate_left
  ·go_simp
   rfl
  refine hK.out _ _ ⟨((cell_far (p:=⟨gb635,_,none⟩) NB631_635.out _).trans (((cell_far (p:=⟨gb635,_,none⟩) NB631_635.out _).trans (((cell_far (p:=⟨gb635,_,none⟩) NB631_635.out _).trans (hHeld.1)))))),((cell_far (p:=⟨gb635,_,none⟩) NB631_635.out _).trans (((cell_far (p:=⟨gb635,_,none⟩) NB631_635.out _).trans (((cell_far (p:=⟨gb635,_,none⟩) NB631_635.out _).trans (hHeld.2.1)))))),((cell_far (p:=⟨gb635,_,none⟩) NB631_635.out _).trans (((cell_far (p:=⟨gb635,_,none⟩) NB631_635.out _).trans (((cell_far (p:=⟨gb635,_,none⟩) NB631_635.out _).trans (hHeld.2.2.1)))))),((cell_far (p:=⟨gb635,_,none⟩) (by first | exact Nat.ne_of_lt (Nat.lt_of_lt_of_le (by have:=World.block_lt_of_cell? _ _ hw632_0;first | rwa [add_block] at this | exact this) GW635.out) |(rw [add_block];exact Nat.ne_of_lt (Nat.lt_of_lt_of_le (by have:=World.block_lt_of_cell? _ _ hw632_0;first | rwa [add_block] at this | exact this) GW635.out)) |(show(Addr.add _ _).block≠_;rw [add_block];exact Nat.ne_of_lt (Nat.lt_of_lt_of_le (by have:=World.block_lt_of_cell? _ _ hw632_0;first | rwa [add_block] at this | exact this) GW635.out)) |(dsimp only;exact Nat.ne_of_lt (Nat.lt_of_lt_of_le (by have:=World.block_lt_of_cell? _ _ hw632_0;first | rwa [add_block] at this | exact this) GW635.out))) _).trans (((cell_far (p:=⟨gb635,_,none⟩) (by first | exact Nat.ne_of_lt (Nat.lt_of_lt_of_le (by have:=World.block_lt_of_cell? _ _ hw632_0;first | rwa [add_block] at this | exact this) GW635.out) |(rw [add_block];exact Nat.ne_of_lt (Nat.lt_of_lt_of_le (by have:=World.block_lt_of_cell? _ _ hw632_0;first | rwa [add_block] at this | exact this) GW635.out)) |(show(Addr.add _ _).block≠_;rw [add_block];exact Nat.ne_of_lt (Nat.lt_of_lt_of_le (by have:=World.block_lt_of_cell? _ _ hw632_0;first | rwa [add_block] at this | exact this) GW635.out)) |(dsimp only;exact Nat.ne_of_lt (Nat.lt_of_lt_of_le (by have:=World.block_lt_of_cell? _ _ hw632_0;first | rwa [add_block] at this | exact this) GW635.out))) _).trans (((cell_far (p:=⟨gb635,_,none⟩) (by first | exact Nat.ne_of_lt (Nat.lt_of_lt_of_le (by have:=World.block_lt_of_cell? _ _ hw632_0;first | rwa [add_block] at this | exact this) GW635.out) |(rw [add_block];exact Nat.ne_of_lt (Nat.lt_of_lt_of_le (by have:=World.block_lt_of_cell? _ _ hw632_0;first | rwa [add_block] at this | exact this) GW635.out)) |(show(Addr.add _ _).block≠_;rw [add_block];exact Nat.ne_of_lt (Nat.lt_of_lt_of_le (by have:=World.block_lt_of_cell? _ _ hw632_0;first | rwa [add_block] at this | exact this) GW635.out)) |(dsimp only;exact Nat.ne_of_lt (Nat.lt_of_lt_of_le (by have:=World.block_lt_of_cell? _ _ hw632_0;first | rwa [add_block] at this | exact this) GW635.out))) _).trans (hHeld.2.2.2.1)))))),((cell_far (p:=⟨gb635,_,none⟩) (by first | exact Nat.ne_of_lt (Nat.lt_of_lt_of_le (by have:=World.block_lt_of_cell? _ _ hw632_1;first | rwa [add_block] at this | exact this) GW635.out) |(rw [add_block];exact Nat.ne_of_lt (Nat.lt_of_lt_of_le (by have:=World.block_lt_of_cell? _ _ hw632_1;first | rwa [add_block] at this | exact this) GW635.out)) |(show(Addr.add _ _).block≠_;rw [add_block];exact Nat.ne_of_lt (Nat.lt_of_lt_of_le (by have:=World.block_lt_of_cell? _ _ hw632_1;first | rwa [add_block] at this | exact this) GW635.out)) |(dsimp only;exact Nat.ne_of_lt (Nat.lt_of_lt_of_le (by have:=World.block_lt_of_cell? _ _ hw632_1;first | rwa [add_block] at this | exact this) GW635.out))) _).trans (((cell_far (p:=⟨gb635,_,none⟩) (by first | exact Nat.ne_of_lt (Nat.lt_of_lt_of_le (by have:=World.block_lt_of_cell? _ _ hw632_1;first | rwa [add_block] at this | exact this) GW635.out) |(rw [add_block];exact Nat.ne_of_lt (Nat.lt_of_lt_of_le (by have:=World.block_lt_of_cell? _ _ hw632_1;first | rwa [add_block] at this | exact this) GW635.out)) |(show(Addr.add _ _).block≠_;rw [add_block];exact Nat.ne_of_lt (Nat.lt_of_lt_of_le (by have:=World.block_lt_of_cell? _ _ hw632_1;first | rwa [add_block] at this | exact this) GW635.out)) |(dsimp only;exact Nat.ne_of_lt (Nat.lt_of_lt_of_le (by have:=World.block_lt_of_cell? _ _ hw632_1;first | rwa [add_block] at this | exact this) GW635.out))) _).trans (((cell_far (p:=⟨gb635,_,none⟩) (by first | exact Nat.ne_of_lt (Nat.lt_of_lt_of_le (by have:=World.block_lt_of_cell? _ _ hw632_1;first | rwa [add_block] at this | exact this) GW635.out) |(rw [add_block];exact Nat.ne_of_lt (Nat.lt_of_lt_of_le (by have:=World.block_lt_of_cell? _ _ hw632_1;first | rwa [add_block] at this | exact this) GW635.out)) |(show(Addr.add _ _).block≠_;rw [add_block];exact Nat.ne_of_lt (Nat.lt_of_lt_of_le (by have:=World.block_lt_of_cell? _ _ hw632_1;first | rwa [add_block] at this | exact this) GW635.out)) |(dsimp only;exact Nat.ne_of_lt (Nat.lt_of_lt_of_le (by have:=World.block_lt_of_cell? _ _ hw632_1;first | rwa [add_block] at this | exact this) GW635.out))) _).trans (hHeld.2.2.2.2.1)))))),((cell_far (p:=⟨gb635,_,none⟩) (by first | exact Nat.ne_of_lt (Nat.lt_of_lt_of_le (by have:=World.block_lt_of_cell? _ _ hw632_2;first | rwa [add_block] at this | exact this) GW635.out) |(rw [add_block];exact Nat.ne_of_lt (Nat.lt_of_lt_of_le (by have:=World.block_lt_of_cell? _ _ hw632_2;first | rwa [add_block] at this | exact this) GW635.out)) |(show(Addr.add _ _).block≠_;rw [add_block];exact Nat.ne_of_lt (Nat.lt_of_lt_of_le (by have:=World.block_lt_of_cell? _ _ hw632_2;first | rwa [add_block] at this | exact this) GW635.out)) |(dsimp only;exact Nat.ne_of_lt (Nat.lt_of_lt_of_le (by have:=World.block_lt_of_cell? _ _ hw632_2;first | rwa [add_block] at this | exact this) GW635.out))) _).trans (((cell_far (p:=⟨gb635,_,none⟩) (by first | exact Nat.ne_of_lt (Nat.lt_of_lt_of_le (by have:=World.block_lt_of_cell? _ _ hw632_2;first | rwa [add_block] at this | exact this) GW635.out) |(rw [add_block];exact Nat.ne_of_lt (Nat.lt_of_lt_of_le (by have:=World.block_lt_of_cell? _ _ hw632_2;first | rwa [add_block] at this | exact this) GW635.out)) |(show(Addr.add _ _).block≠_;rw [add_block];exact Nat.ne_of_lt (Nat.lt_of_lt_of_le (by have:=World.block_lt_of_cell? _ _ hw632_2;first | rwa [add_block] at this | exact this) GW635.out)) |(dsimp only;exact Nat.ne_of_lt (Nat.lt_of_lt_of_le (by have:=World.block_lt_of_cell? _ _ hw632_2;first | rwa [add_block] at this | exact this) GW635.out))) _).trans (((cell_far (p:=⟨gb635,_,none⟩) (by first | exact Nat.ne_of_lt (Nat.lt_of_lt_of_le (by have:=World.block_lt_of_cell? _ _ hw632_2;first | rwa [add_block] at this | exact this) GW635.out) |(rw [add_block];exact Nat.ne_of_lt (Nat.lt_of_lt_of_le (by have:=World.block_lt_of_cell? _ _ hw632_2;first | rwa [add_block] at this | exact this) GW635.out)) |(show(Addr.add _ _).block≠_;rw [add_block];exact Nat.ne_of_lt (Nat.lt_of_lt_of_le (by have:=World.block_lt_of_cell? _ _ hw632_2;first | rwa [add_block] at this | exact this) GW635.out)) |(dsimp only;exact Nat.ne_of_lt (Nat.lt_of_lt_of_le (by have:=World.block_lt_of_cell? _ _ hw632_2;first | rwa [add_block] at this | exact this) GW635.out))) _).trans (hHeld.2.2.2.2.2.1)))))),((cell_far (p:=⟨gb635,_,none⟩) (by first | exact Nat.ne_of_lt (Nat.lt_of_lt_of_le (by have:=World.block_lt_of_cell? _ _ hw633_0;first | rwa [add_block] at this | exact this) GW635.out) |(rw [add_block];exact Nat.ne_of_lt (Nat.lt_of_lt_of_le (by have:=World.block_lt_of_cell? _ _ hw633_0;first | rwa [add_block] at this | exact this) GW635.out)) |(show(Addr.add _ _).block≠_;rw [add_block];exact Nat.ne_of_lt (Nat.lt_of_lt_of_le (by have:=World.block_lt_of_cell? _ _ hw633_0;first | rwa [add_block] at this | exact this) GW635.out)) |(dsimp only;exact Nat.ne_of_lt (Nat.lt_of_lt_of_le (by have:=World.block_lt_of_cell? _ _ hw633_0;first | rwa [add_block] at this | exact this) GW635.out))) _).trans (((cell_far (p:=⟨gb635,_,none⟩) (by first | exact Nat.ne_of_lt (Nat.lt_of_lt_of_le (by have:=World.block_lt_of_cell? _ _ hw633_0;first | rwa [add_block] at this | exact this) GW635.out) |(rw [add_block];exact Nat.ne_of_lt (Nat.lt_of_lt_of_le (by have:=World.block_lt_of_cell? _ _ hw633_0;first | rwa [add_block] at this | exact this) GW635.out)) |(show(Addr.add _ _).block≠_;rw [add_block];exact Nat.ne_of_lt (Nat.lt_of_lt_of_le (by have:=World.block_lt_of_cell? _ _ hw633_0;first | rwa [add_block] at this | exact this) GW635.out)) |(dsimp only;exact Nat.ne_of_lt (Nat.lt_of_lt_of_le (by have:=World.block_lt_of_cell? _ _ hw633_0;first | rwa [add_block] at this | exact this) GW635.out))) _).trans (((cell_far (p:=⟨gb635,_,none⟩) (by first | exact Nat.ne_of_lt (Nat.lt_of_lt_of_le (by have:=World.block_lt_of_cell? _ _ hw633_0;first | rwa [add_block] at this | exact this) GW635.out) |(rw [add_block];exact Nat.ne_of_lt (Nat.lt_of_lt_of_le (by have:=World.block_lt_of_cell? _ _ hw633_0;first | rwa [add_block] at this | exact this) GW635.out)) |(show(Addr.add _ _).block≠_;rw [add_block];exact Nat.ne_of_lt (Nat.lt_of_lt_of_le (by have:=World.block_lt_of_cell? _ _ hw633_0;first | rwa [add_block] at this | exact this) GW635.out)) |(dsimp only;exact Nat.ne_of_lt (Nat.lt_of_lt_of_le (by have:=World.block_lt_of_cell? _ _ hw633_0;first | rwa [add_block] at this | exact this) GW635.out))) _).trans (hHeld.2.2.2.2.2.2.1)))))),((cell_far (p:=⟨gb635,_,none⟩) (by first | exact Nat.ne_of_lt (Nat.lt_of_lt_of_le (by have:=World.block_lt_of_cell? _ _ hw633_1;first | rwa [add_block] at this | exact this) GW635.out) |(rw [add_block];exact Nat.ne_of_lt (Nat.lt_of_lt_of_le (by have:=World.block_lt_of_cell? _ _ hw633_1;first | rwa [add_block] at this | exact this) GW635.out)) |(show(Addr.add _ _).block≠_;rw [add_block];exact Nat.ne_of_lt (Nat.lt_of_lt_of_le (by have:=World.block_lt_of_cell? _ _ hw633_1;first | rwa [add_block] at this | exact this) GW635.out)) |(dsimp only;exact Nat.ne_of_lt (Nat.lt_of_lt_of_le (by have:=World.block_lt_of_cell? _ _ hw633_1;first | rwa [add_block] at this | exact this) GW635.out))) _).trans (((cell_far (p:=⟨gb635,_,none⟩) (by first | exact Nat.ne_of_lt (Nat.lt_of_lt_of_le (by have:=World.block_lt_of_cell? _ _ hw633_1;first | rwa [add_block] at this | exact this) GW635.out) |(rw [add_block];exact Nat.ne_of_lt (Nat.lt_of_lt_of_le (by have:=World.block_lt_of_cell? _ _ hw633_1;first | rwa [add_block] at this | exact this) GW635.out)) |(show(Addr.add _ _).block≠_;rw [add_block];exact Nat.ne_of_lt (Nat.lt_of_lt_of_le (by have:=World.block_lt_of_cell? _ _ hw633_1;first | rwa [add_block] at this | exact this) GW635.out)) |(dsimp only;exact Nat.ne_of_lt (Nat.lt_of_lt_of_le (by have:=World.block_lt_of_cell? _ _ hw633_1;first | rwa [add_block] at this | exact this) GW635.out))) _).trans (((cell_far (p:=⟨gb635,_,none⟩) (by first | exact Nat.ne_of_lt (Nat.lt_of_lt_of_le (by have:=World.block_lt_of_cell? _ _ hw633_1;first | rwa [add_block] at this | exact this) GW635.out) |(rw [add_block];exact Nat.ne_of_lt (Nat.lt_of_lt_of_le (by have:=World.block_lt_of_cell? _ _ hw633_1;first | rwa [add_block] at this | exact this) GW635.out)) |(show(Addr.add _ _).block≠_;rw [add_block];exact Nat.ne_of_lt (Nat.lt_of_lt_of_le (by have:=World.block_lt_of_cell? _ _ hw633_1;first | rwa [add_block] at this | exact this) GW635.out)) |(dsimp only;exact Nat.ne_of_lt (Nat.lt_of_lt_of_le (by have:=World.block_lt_of_cell? _ _ hw633_1;first | rwa [add_block] at this | exact this) GW635.out))) _).trans (hHeld.2.2.2.2.2.2.2.1)))))),((cell_far (p:=⟨gb635,_,none⟩) (by first | exact Nat.ne_of_lt (Nat.lt_of_lt_of_le (by have:=World.block_lt_of_cell? _ _ hw633_2;first | rwa [add_block] at this | exact this) GW635.out) |(rw [add_block];exact Nat.ne_of_lt (Nat.lt_of_lt_of_le (by have:=World.block_lt_of_cell? _ _ hw633_2;first | rwa [add_block] at this | exact this) GW635.out)) |(show(Addr.add _ _).block≠_;rw [add_block];exact Nat.ne_of_lt (Nat.lt_of_lt_of_le (by have:=World.block_lt_of_cell? _ _ hw633_2;first | rwa [add_block] at this | exact this) GW635.out)) |(dsimp only;exact Nat.ne_of_lt (Nat.lt_of_lt_of_le (by have:=World.block_lt_of_cell? _ _ hw633_2;first | rwa [add_block] at this | exact this) GW635.out))) _).trans (((cell_far (p:=⟨gb635,_,none⟩) (by first | exact Nat.ne_of_lt (Nat.lt_of_lt_of_le (by have:=World.block_lt_of_cell? _ _ hw633_2;first | rwa [add_block] at this | exact this) GW635.out) |(rw [add_block];exact Nat.ne_of_lt (Nat.lt_of_lt_of_le (by have:=World.block_lt_of_cell? _ _ hw633_2;first | rwa [add_block] at this | exact this) GW635.out)) |(show(Addr.add _ _).block≠_;rw [add_block];exact Nat.ne_of_lt (Nat.lt_of_lt_of_le (by have:=World.block_lt_of_cell? _ _ hw633_2;first | rwa [add_block] at this | exact this) GW635.out)) |(dsimp only;exact Nat.ne_of_lt (Nat.lt_of_lt_of_le (by have:=World.block_lt_of_cell? _ _ hw633_2;first | rwa [add_block] at this | exact this) GW635.out))) _).trans (((cell_far (p:=⟨gb635,_,none⟩) (by first | exact Nat.ne_of_lt (Nat.lt_of_lt_of_le (by have:=World.block_lt_of_cell? _ _ hw633_2;first | rwa [add_block] at this | exact this) GW635.out) |(rw [add_block];exact Nat.ne_of_lt (Nat.lt_of_lt_of_le (by have:=World.block_lt_of_cell? _ _ hw633_2;first | rwa [add_block] at this | exact this) GW635.out)) |(show(Addr.add _ _).block≠_;rw [add_block];exact Nat.ne_of_lt (Nat.lt_of_lt_of_le (by have:=World.block_lt_of_cell? _ _ hw633_2;first | rwa [add_block] at this | exact this) GW635.out)) |(dsimp only;exact Nat.ne_of_lt (Nat.lt_of_lt_of_le (by have:=World.block_lt_of_cell? _ _ hw633_2;first | rwa [add_block] at this | exact this) GW635.out))) _).trans (hHeld.2.2.2.2.2.2.2.2))))))⟩ (fun hHeld=>?_)
  clear hK K
  refine done_ (done_of HT_.out (by kernel_rfl)) ?_
  have hnb28:=NB631_634.out
  have hnc28:=NB634_631.out
  have hnb29:=NB631_635.out
  have hnc29:=NB635_631.out
  have hcz30_0 : w21.cell? ⟨gb631,0,none⟩ = some (.int .i64 ((rd_T89 x9_1 x11_1).f0)):=(bkC BK631.out 0).trans rfl
  have hcz30_1 : w21.cell? ⟨gb631,1,none⟩ = some (.int .i64 ((rd_T89 x9_1 x11_1).f1)):=(bkC BK631.out 1).trans rfl
  have hcz30_2 : w21.cell? ⟨gb631,2,none⟩ = some (.bool ((rd_T89 x9_1 x11_1).f2)):=(bkC BK631.out 2).trans rfl
  have hfz30_0:=bkF BK631.out 0
  have hfz30_1:=bkF BK631.out 1
  have hfz30_2:=bkF BK631.out 2
  go_upto_if 48 with (fail)
  go_cut [15,16] (fun v15 v16 wc=>∃ (kq : Nat) (x15_12 : Int) (x16_12 : Int),v15 = .int .i64 x15_12∧v16 = .int .i64 x16_12∧Aside0 (q06_Bound.j1 kq l0 x9_1 x10_1 x11_1 x15_12 x16_12 ((rd_T89 x9_1 x11_1).f0) ((rd_T89 x9_1 x11_1).f1) ((rd_T89 x9_1 x11_1).f2) ((rd_T39 l0 ((rd_T89 x9_1 x11_1).f0)).f0) ((rd_T39 l0 ((rd_T89 x9_1 x11_1).f0)).f1) ((rd_T39 l0 ((rd_T89 x9_1 x11_1).f0)).f2) ((rd_T39 l0 ((rd_T89 x9_1 x11_1).f1)).f0) ((rd_T39 l0 ((rd_T89 x9_1 x11_1).f1)).f1) ((rd_T39 l0 ((rd_T89 x9_1 x11_1).f1)).f2) = some r)∧Aside0 (kq≤k1)∧Aside0 (Kd.R k89 89 wc w.heap.size (fun k_=>k_≠gb631) (.slice (some ad630) x9_1.length co14) x9_1)∧Aside0 (Kd.R k39 39 wc w.heap.size (fun k_=>k_≠gb634∧k_≠gb635) u10 x10_1)∧Aside0 (wc.heap[gb631]? = some (.cells #[.int .i64 ((rd_T89 x9_1 x11_1).f0),.int .i64 ((rd_T89 x9_1 x11_1).f1),.bool ((rd_T89 x9_1 x11_1).f2)] 89 (0,0)))∧Aside0 (wc.heap[gb634]? = some (.cells #[.int .i64 ((rd_T39 l0 ((rd_T89 x9_1 x11_1).f0)).f0),.int .i64 ((rd_T39 l0 ((rd_T89 x9_1 x11_1).f0)).f1),.int .i64 ((rd_T39 l0 ((rd_T89 x9_1 x11_1).f0)).f2)] 39 (0,0)))∧Aside0 (wc.heap[gb635]? = some (.cells #[.int .i64 ((rd_T39 l0 ((rd_T89 x9_1 x11_1).f1)).f0),.int .i64 ((rd_T39 l0 ((rd_T89 x9_1 x11_1).f1)).f1),.int .i64 ((rd_T39 l0 ((rd_T89 x9_1 x11_1).f1)).f2)] 39 (0,0)))∧Aside0 (Below w.heap.size w wc))
  case first =>
   have H:=HC13.out
   clear HC13
   obtain ⟨bq31,hbq31⟩ : ∃ b_ : Bool,b_ =((rd_T89 x9_1 x11_1).f2):=⟨_,rfl⟩
   replace H :(if(bq31 = true) then(q06_Bound.j1 k1 l0 x9_1 x10_1 x11_1 0 1 ((rd_T89 x9_1 x11_1).f0) ((rd_T89 x9_1 x11_1).f1) bq31 ((rd_T39 l0 ((rd_T89 x9_1 x11_1).f0)).f0) ((rd_T39 l0 ((rd_T89 x9_1 x11_1).f0)).f1) ((rd_T39 l0 ((rd_T89 x9_1 x11_1).f0)).f2) ((rd_T39 l0 ((rd_T89 x9_1 x11_1).f1)).f0) ((rd_T39 l0 ((rd_T89 x9_1 x11_1).f1)).f1) ((rd_T39 l0 ((rd_T89 x9_1 x11_1).f1)).f2)) else(q06_Bound.j1 k1 l0 x9_1 x10_1 x11_1 1 0 ((rd_T89 x9_1 x11_1).f0) ((rd_T89 x9_1 x11_1).f1) bq31 ((rd_T39 l0 ((rd_T89 x9_1 x11_1).f0)).f0) ((rd_T39 l0 ((rd_T89 x9_1 x11_1).f0)).f1) ((rd_T39 l0 ((rd_T89 x9_1 x11_1).f0)).f2) ((rd_T39 l0 ((rd_T89 x9_1 x11_1).f1)).f0) ((rd_T39 l0 ((rd_T89 x9_1 x11_1).f1)).f1) ((rd_T39 l0 ((rd_T89 x9_1 x11_1).f1)).f2))) = some r:=by rw [← hbq31] at H;exact H
   have Nbq31:=Aside0.mk hbq31
   clear hbq31
   (try rw [← Nbq31.out])
   by_cases c32 :(bq31 = true)
   ·subst c32
    have H1 :(q06_Bound.j1 k1 l0 x9_1 x10_1 x11_1 0 1 ((rd_T89 x9_1 x11_1).f0) ((rd_T89 x9_1 x11_1).f1) true ((rd_T39 l0 ((rd_T89 x9_1 x11_1).f0)).f0) ((rd_T39 l0 ((rd_T89 x9_1 x11_1).f0)).f1) ((rd_T39 l0 ((rd_T89 x9_1 x11_1).f0)).f2) ((rd_T39 l0 ((rd_T89 x9_1 x11_1).f1)).f0) ((rd_T39 l0 ((rd_T89 x9_1 x11_1).f1)).f1) ((rd_T39 l0 ((rd_T89 x9_1 x11_1).f1)).f2)) = some r:=by rw [if_pos rfl] at H;exact H
    clear H
    rw [Nbq31.out] at H1
    have H:=H1
    clear H1
    have H':=Aside0.mk H
    clear H
    go_wp2
    go_meet
    exact⟨_,(0),(1),(by first | rfl |(simp;done) |(simp [*];done)),(by first | rfl |(simp;done) |(simp [*];done)),H',⟨by have:=HK1.out;first | omega | exact Nat.le_refl _⟩,⟨by(with_reducible repeat(first | apply Kd.R_alloc | apply Kd.R_drewN | apply Kd.R_drew));exact Kd.R_mono (Kd.R_far (p:=⟨gb635,2,none⟩) (Kd.R_far (p:=⟨gb635,1,none⟩) (Kd.R_far (p:=⟨gb635,0,none⟩) (Kd.R_far (p:=⟨gb634,2,none⟩) (Kd.R_far (p:=⟨gb634,1,none⟩) (Kd.R_far (p:=⟨gb634,0,none⟩) (Kd.R_types (Kd.R_types HO_9.out BK634.out (by decide)) BK635.out (by decide)) (fun _ hk=>hk.1.2) (.int .i64 ((rd_T39 l0 ((rd_T89 x9_1 x11_1).f0)).f0))) (fun _ hk=>hk.1.2) (.int .i64 ((rd_T39 l0 ((rd_T89 x9_1 x11_1).f0)).f1))) (fun _ hk=>hk.1.2) (.int .i64 ((rd_T39 l0 ((rd_T89 x9_1 x11_1).f0)).f2))) (fun _ hk=>hk.2) (.int .i64 ((rd_T39 l0 ((rd_T89 x9_1 x11_1).f1)).f0))) (fun _ hk=>hk.2) (.int .i64 ((rd_T39 l0 ((rd_T89 x9_1 x11_1).f1)).f1))) (fun _ hk=>hk.2) (.int .i64 ((rd_T39 l0 ((rd_T89 x9_1 x11_1).f1)).f2))) (fun _ hk=>hk.1.1)⟩,⟨by(with_reducible repeat(first | apply Kd.R_alloc | apply Kd.R_drewN | apply Kd.R_drew));exact Kd.R_mono (Kd.R_far (p:=⟨gb635,2,none⟩) (Kd.R_far (p:=⟨gb635,1,none⟩) (Kd.R_far (p:=⟨gb635,0,none⟩) (Kd.R_far (p:=⟨gb634,2,none⟩) (Kd.R_far (p:=⟨gb634,1,none⟩) (Kd.R_far (p:=⟨gb634,0,none⟩) (Kd.R_mono (Kd.R_mono HO_10.out (fun k_ hk=>(⟨hk,hk.1⟩ : _∧k_≠gb634))) (fun k_ hk=>(⟨hk,hk.1.2⟩ : _∧k_≠gb635))) (fun _ hk=>hk.1.2) (.int .i64 ((rd_T39 l0 ((rd_T89 x9_1 x11_1).f0)).f0))) (fun _ hk=>hk.1.2) (.int .i64 ((rd_T39 l0 ((rd_T89 x9_1 x11_1).f0)).f1))) (fun _ hk=>hk.1.2) (.int .i64 ((rd_T39 l0 ((rd_T89 x9_1 x11_1).f0)).f2))) (fun _ hk=>hk.2) (.int .i64 ((rd_T39 l0 ((rd_T89 x9_1 x11_1).f1)).f0))) (fun _ hk=>hk.2) (.int .i64 ((rd_T39 l0 ((rd_T89 x9_1 x11_1).f1)).f1))) (fun _ hk=>hk.2) (.int .i64 ((rd_T39 l0 ((rd_T89 x9_1 x11_1).f1)).f2))) (fun _ hk=>⟨hk.1.1.1,hk.1.1.2⟩)⟩,⟨by(with_reducible repeat(first | refine bkN ?_ _ | refine bkD ?_ | refine bkA ?_ _));refine blk_far ?_ NB631_635.out _;(with_reducible repeat(first | refine bkN ?_ _ | refine bkD ?_ | refine bkA ?_ _));refine blk_far ?_ NB631_635.out _;(with_reducible repeat(first | refine bkN ?_ _ | refine bkD ?_ | refine bkA ?_ _));refine blk_far ?_ NB631_635.out _;(with_reducible repeat(first | refine bkN ?_ _ | refine bkD ?_ | refine bkA ?_ _));refine blk_far ?_ NB631_634.out _;(with_reducible repeat(first | refine bkN ?_ _ | refine bkD ?_ | refine bkA ?_ _));refine blk_far ?_ NB631_634.out _;(with_reducible repeat(first | refine bkN ?_ _ | refine bkD ?_ | refine bkA ?_ _));refine blk_far ?_ NB631_634.out _;(with_reducible repeat(first | refine bkN ?_ _ | refine bkD ?_ | refine bkA ?_ _));exact BK631.out⟩,⟨by(with_reducible repeat(first | refine bkN ?_ _ | refine bkD ?_ | refine bkA ?_ _));refine blk_far ?_ NB634_635.out _;(with_reducible repeat(first | refine bkN ?_ _ | refine bkD ?_ | refine bkA ?_ _));refine blk_far ?_ NB634_635.out _;(with_reducible repeat(first | refine bkN ?_ _ | refine bkD ?_ | refine bkA ?_ _));refine blk_far ?_ NB634_635.out _;(with_reducible repeat(first | refine bkN ?_ _ | refine bkD ?_ | refine bkA ?_ _));refine blk_put (cs:=#[.int .i64 ((rd_T39 l0 ((rd_T89 x9_1 x11_1).f0)).f0),.int .i64 ((rd_T39 l0 ((rd_T89 x9_1 x11_1).f0)).f1),.int .i64 0]) ?_ 2 _ rfl;(with_reducible repeat(first | refine bkN ?_ _ | refine bkD ?_ | refine bkA ?_ _));refine blk_put (cs:=#[.int .i64 ((rd_T39 l0 ((rd_T89 x9_1 x11_1).f0)).f0),.int .i64 0,.int .i64 0]) ?_ 1 _ rfl;(with_reducible repeat(first | refine bkN ?_ _ | refine bkD ?_ | refine bkA ?_ _));refine blk_put (cs:=#[.int .i64 0,.int .i64 0,.int .i64 0]) ?_ 0 _ rfl;(with_reducible repeat(first | refine bkN ?_ _ | refine bkD ?_ | refine bkA ?_ _));exact BK634.out⟩,⟨by(with_reducible repeat(first | refine bkN ?_ _ | refine bkD ?_ | refine bkA ?_ _));refine blk_put (cs:=#[.int .i64 ((rd_T39 l0 ((rd_T89 x9_1 x11_1).f1)).f0),.int .i64 ((rd_T39 l0 ((rd_T89 x9_1 x11_1).f1)).f1),.int .i64 0]) ?_ 2 _ rfl;(with_reducible repeat(first | refine bkN ?_ _ | refine bkD ?_ | refine bkA ?_ _));refine blk_put (cs:=#[.int .i64 ((rd_T39 l0 ((rd_T89 x9_1 x11_1).f1)).f0),.int .i64 0,.int .i64 0]) ?_ 1 _ rfl;(with_reducible repeat(first | refine bkN ?_ _ | refine bkD ?_ | refine bkA ?_ _));refine blk_put (cs:=#[.int .i64 0,.int .i64 0,.int .i64 0]) ?_ 0 _ rfl;(with_reducible repeat(first | refine bkN ?_ _ | refine bkD ?_ | refine bkA ?_ _));refine blk_far ?_ NB635_634.out _;(with_reducible repeat(first | refine bkN ?_ _ | refine bkD ?_ | refine bkA ?_ _));refine blk_far ?_ NB635_634.out _;(with_reducible repeat(first | refine bkN ?_ _ | refine bkD ?_ | refine bkA ?_ _));refine blk_far ?_ NB635_634.out _;(with_reducible repeat(first | refine bkN ?_ _ | refine bkD ?_ | refine bkA ?_ _));exact BK635.out⟩,⟨by repeat(first |(with_reducible first | exact HB.out | apply bwA | apply bwN | apply bw1 | refine bwS ?_ GE631.out | refine bwS ?_ GE634.out | refine bwS ?_ GE635.out) | exact HB.out)⟩⟩
   replace c32:=Bool.eq_false_iff.mpr c32
   subst c32
   have H1 :(q06_Bound.j1 k1 l0 x9_1 x10_1 x11_1 1 0 ((rd_T89 x9_1 x11_1).f0) ((rd_T89 x9_1 x11_1).f1) false ((rd_T39 l0 ((rd_T89 x9_1 x11_1).f0)).f0) ((rd_T39 l0 ((rd_T89 x9_1 x11_1).f0)).f1) ((rd_T39 l0 ((rd_T89 x9_1 x11_1).f0)).f2) ((rd_T39 l0 ((rd_T89 x9_1 x11_1).f1)).f0) ((rd_T39 l0 ((rd_T89 x9_1 x11_1).f1)).f1) ((rd_T39 l0 ((rd_T89 x9_1 x11_1).f1)).f2)) = some r:=by rw [if_neg (show ¬ (false = true) by decide)] at H;exact H
   clear H
   rw [Nbq31.out] at H1
   have H:=H1
   clear H1
   have H':=Aside0.mk H
   clear H
   go_wp2
   go_meet
   exact⟨_,(1),(0),(by first | rfl |(simp;done) |(simp [*];done)),(by first | rfl |(simp;done) |(simp [*];done)),H',⟨by have:=HK1.out;first | omega | exact Nat.le_refl _⟩,⟨by(with_reducible repeat(first | apply Kd.R_alloc | apply Kd.R_drewN | apply Kd.R_drew));exact Kd.R_mono (Kd.R_far (p:=⟨gb635,2,none⟩) (Kd.R_far (p:=⟨gb635,1,none⟩) (Kd.R_far (p:=⟨gb635,0,none⟩) (Kd.R_far (p:=⟨gb634,2,none⟩) (Kd.R_far (p:=⟨gb634,1,none⟩) (Kd.R_far (p:=⟨gb634,0,none⟩) (Kd.R_types (Kd.R_types HO_9.out BK634.out (by decide)) BK635.out (by decide)) (fun _ hk=>hk.1.2) (.int .i64 ((rd_T39 l0 ((rd_T89 x9_1 x11_1).f0)).f0))) (fun _ hk=>hk.1.2) (.int .i64 ((rd_T39 l0 ((rd_T89 x9_1 x11_1).f0)).f1))) (fun _ hk=>hk.1.2) (.int .i64 ((rd_T39 l0 ((rd_T89 x9_1 x11_1).f0)).f2))) (fun _ hk=>hk.2) (.int .i64 ((rd_T39 l0 ((rd_T89 x9_1 x11_1).f1)).f0))) (fun _ hk=>hk.2) (.int .i64 ((rd_T39 l0 ((rd_T89 x9_1 x11_1).f1)).f1))) (fun _ hk=>hk.2) (.int .i64 ((rd_T39 l0 ((rd_T89 x9_1 x11_1).f1)).f2))) (fun _ hk=>hk.1.1)⟩,⟨by(with_reducible repeat(first | apply Kd.R_alloc | apply Kd.R_drewN | apply Kd.R_drew));exact Kd.R_mono (Kd.R_far (p:=⟨gb635,2,none⟩) (Kd.R_far (p:=⟨gb635,1,none⟩) (Kd.R_far (p:=⟨gb635,0,none⟩) (Kd.R_far (p:=⟨gb634,2,none⟩) (Kd.R_far (p:=⟨gb634,1,none⟩) (Kd.R_far (p:=⟨gb634,0,none⟩) (Kd.R_mono (Kd.R_mono HO_10.out (fun k_ hk=>(⟨hk,hk.1⟩ : _∧k_≠gb634))) (fun k_ hk=>(⟨hk,hk.1.2⟩ : _∧k_≠gb635))) (fun _ hk=>hk.1.2) (.int .i64 ((rd_T39 l0 ((rd_T89 x9_1 x11_1).f0)).f0))) (fun _ hk=>hk.1.2) (.int .i64 ((rd_T39 l0 ((rd_T89 x9_1 x11_1).f0)).f1))) (fun _ hk=>hk.1.2) (.int .i64 ((rd_T39 l0 ((rd_T89 x9_1 x11_1).f0)).f2))) (fun _ hk=>hk.2) (.int .i64 ((rd_T39 l0 ((rd_T89 x9_1 x11_1).f1)).f0))) (fun _ hk=>hk.2) (.int .i64 ((rd_T39 l0 ((rd_T89 x9_1 x11_1).f1)).f1))) (fun _ hk=>hk.2) (.int .i64 ((rd_T39 l0 ((rd_T89 x9_1 x11_1).f1)).f2))) (fun _ hk=>⟨hk.1.1.1,hk.1.1.2⟩)⟩,⟨by(with_reducible repeat(first | refine bkN ?_ _ | refine bkD ?_ | refine bkA ?_ _));refine blk_far ?_ NB631_635.out _;(with_reducible repeat(first | refine bkN ?_ _ | refine bkD ?_ | refine bkA ?_ _));refine blk_far ?_ NB631_635.out _;(with_reducible repeat(first | refine bkN ?_ _ | refine bkD ?_ | refine bkA ?_ _));refine blk_far ?_ NB631_635.out _;(with_reducible repeat(first | refine bkN ?_ _ | refine bkD ?_ | refine bkA ?_ _));refine blk_far ?_ NB631_634.out _;(with_reducible repeat(first | refine bkN ?_ _ | refine bkD ?_ | refine bkA ?_ _));refine blk_far ?_ NB631_634.out _;(with_reducible repeat(first | refine bkN ?_ _ | refine bkD ?_ | refine bkA ?_ _));refine blk_far ?_ NB631_634.out _;(with_reducible repeat(first | refine bkN ?_ _ | refine bkD ?_ | refine bkA ?_ _));exact BK631.out⟩,⟨by(with_reducible repeat(first | refine bkN ?_ _ | refine bkD ?_ | refine bkA ?_ _));refine blk_far ?_ NB634_635.out _;(with_reducible repeat(first | refine bkN ?_ _ | refine bkD ?_ | refine bkA ?_ _));refine blk_far ?_ NB634_635.out _;(with_reducible repeat(first | refine bkN ?_ _ | refine bkD ?_ | refine bkA ?_ _));refine blk_far ?_ NB634_635.out _;(with_reducible repeat(first | refine bkN ?_ _ | refine bkD ?_ | refine bkA ?_ _));refine blk_put (cs:=#[.int .i64 ((rd_T39 l0 ((rd_T89 x9_1 x11_1).f0)).f0),.int .i64 ((rd_T39 l0 ((rd_T89 x9_1 x11_1).f0)).f1),.int .i64 0]) ?_ 2 _ rfl;(with_reducible repeat(first | refine bkN ?_ _ | refine bkD ?_ | refine bkA ?_ _));refine blk_put (cs:=#[.int .i64 ((rd_T39 l0 ((rd_T89 x9_1 x11_1).f0)).f0),.int .i64 0,.int .i64 0]) ?_ 1 _ rfl;(with_reducible repeat(first | refine bkN ?_ _ | refine bkD ?_ | refine bkA ?_ _));refine blk_put (cs:=#[.int .i64 0,.int .i64 0,.int .i64 0]) ?_ 0 _ rfl;(with_reducible repeat(first | refine bkN ?_ _ | refine bkD ?_ | refine bkA ?_ _));exact BK634.out⟩,⟨by(with_reducible repeat(first | refine bkN ?_ _ | refine bkD ?_ | refine bkA ?_ _));refine blk_put (cs:=#[.int .i64 ((rd_T39 l0 ((rd_T89 x9_1 x11_1).f1)).f0),.int .i64 ((rd_T39 l0 ((rd_T89 x9_1 x11_1).f1)).f1),.int .i64 0]) ?_ 2 _ rfl;(with_reducible repeat(first | refine bkN ?_ _ | refine bkD ?_ | refine bkA ?_ _));refine blk_put (cs:=#[.int .i64 ((rd_T39 l0 ((rd_T89 x9_1 x11_1).f1)).f0),.int .i64 0,.int .i64 0]) ?_ 1 _ rfl;(with_reducible repeat(first | refine bkN ?_ _ | refine bkD ?_ | refine bkA ?_ _));refine blk_put (cs:=#[.int .i64 0,.int .i64 0,.int .i64 0]) ?_ 0 _ rfl;(with_reducible repeat(first | refine bkN ?_ _ | refine bkD ?_ | refine bkA ?_ _));refine blk_far ?_ NB635_634.out _;(with_reducible repeat(first | refine bkN ?_ _ | refine bkD ?_ | refine bkA ?_ _));refine blk_far ?_ NB635_634.out _;(with_reducible repeat(first | refine bkN ?_ _ | refine bkD ?_ | refine bkA ?_ _));refine blk_far ?_ NB635_634.out _;(with_reducible repeat(first | refine bkN ?_ _ | refine bkD ?_ | refine bkA ?_ _));exact BK635.out⟩,⟨by repeat(first |(with_reducible first | exact HB.out | apply bwA | apply bwN | apply bw1 | refine bwS ?_ GE631.out | refine bwS ?_ GE634.out | refine bwS ?_ GE635.out) | exact HB.out)⟩⟩
  case rest =>
   clear HC13
   try clear c1
   try clear c2
   try clear p2
   try clear c3
   try clear q3
   try clear p6
   try clear q6
   try clear hx6
   try clear c7
   try clear c7b0
   try clear c8
   try clear c8b0
   try clear c9
   try clear c9b0
   try clear c10
   try clear c10b0
   try clear c11
   try clear c11b0
   try clear c12
   try clear c12b0
   try clear c28
   try clear c29
   try clear q31
   try clear c32
   try clear hcz16_0
   try clear hcz16_1
   try clear hcz16_2
   try clear hcz30_0
   try clear hcz30_1
   try clear hcz30_2
   try clear hfz16_0
   try clear hfz16_1
   try clear hfz16_2
   try clear hfz30_0
   try clear hfz30_1
   try clear hfz30_2
   try clear hx630_0
   try clear hx630_1
   try clear hx630_2
   try clear hx632_0
   try clear hx632_1
   try clear hx632_2
   try clear hx633_0
   try clear hx633_1
   try clear hx633_2
   try clear p2
   try clear p630
   try clear p632
   try clear p633
   try clear q630
   try clear q632
   try clear q633
   obtain ⟨kq,x15_12,x16_12,rfl,rfl,HA,HJ12,HO_9,HO_10,BK631,BK634,BK635,HB⟩:=hcut
   cases kq with
   | zero=>exact absurd HA.out (by simp [q06_Bound.j1])
   | succ kj12 =>
    have H:=HA.out
    clear HA
    simp only [q06_Bound.j1] at H
    have HC33:=Aside0.mk H
    clear H
    go_upto_block 2 with (fail)
    go_cut [10] (fun v10 wc=>∃ (kq : Nat) (x10_32 : List (S39)) (x632000_32 : Int) (x632001_32 : Int) (x635000_32 : Int) (x635001_32 : Int) (x635002_32 : Int) (x636000_32 : Int) (x636001_32 : Int) (x636002_32 : Int),Aside0 (q06_Bound.j3 kq l0 x9_1 x10_32 x11_1 x16_12 x632000_32 x632001_32 ((rd_T89 x9_1 x11_1).f2) x635000_32 x635001_32 x635002_32 x636000_32 x636001_32 x636002_32 = some r)∧Aside0 (kq≤kj12)∧Aside0 (Kd.R k89 89 wc w.heap.size (fun k_=>k_≠gb631) (.slice (some ad630) x9_1.length co14) x9_1)∧Aside0 (Kd.R k39 39 wc w.heap.size (fun k_=>k_≠gb634∧k_≠gb635) v10 x10_32)∧Aside0 (wc.heap[gb631]? = some (.cells #[.int .i64 x632000_32,.int .i64 x632001_32,.bool ((rd_T89 x9_1 x11_1).f2)] 89 (0,0)))∧Aside0 (wc.heap[gb634]? = some (.cells #[.int .i64 x635000_32,.int .i64 x635001_32,.int .i64 x635002_32] 39 (0,0)))∧Aside0 (wc.heap[gb635]? = some (.cells #[.int .i64 x636000_32,.int .i64 x636001_32,.int .i64 x636002_32] 39 (0,0)))∧Aside0 (Below w.heap.size w wc))
    case first =>
     have H:=HC33.out
     clear HC33
     have HC34:=Aside0.mk H
     clear H
     go_upto_region 12 with (fail)
     go_cut [49] (fun v49 wc=>∃ (kq : Nat) (x49_33 : Bool),v49 = .bool x49_33∧Aside0 (q06_Bound.j2 kq l0 x9_1 x10_1 x11_1 x15_12 x16_12 x49_33 ((rd_T89 x9_1 x11_1).f0) ((rd_T89 x9_1 x11_1).f1) ((rd_T89 x9_1 x11_1).f2) ((rd_T39 l0 ((rd_T89 x9_1 x11_1).f0)).f0) ((rd_T39 l0 ((rd_T89 x9_1 x11_1).f0)).f1) ((rd_T39 l0 ((rd_T89 x9_1 x11_1).f0)).f2) ((rd_T39 l0 ((rd_T89 x9_1 x11_1).f1)).f0) ((rd_T39 l0 ((rd_T89 x9_1 x11_1).f1)).f1) ((rd_T39 l0 ((rd_T89 x9_1 x11_1).f1)).f2) = some r)∧Aside0 (kq≤kj12)∧Aside0 (Kd.R k89 89 wc w.heap.size (fun k_=>k_≠gb631) (.slice (some ad630) x9_1.length co14) x9_1)∧Aside0 (Kd.R k39 39 wc w.heap.size (fun k_=>k_≠gb634∧k_≠gb635) u10 x10_1)∧Aside0 (wc.heap[gb631]? = some (.cells #[.int .i64 ((rd_T89 x9_1 x11_1).f0),.int .i64 ((rd_T89 x9_1 x11_1).f1),.bool ((rd_T89 x9_1 x11_1).f2)] 89 (0,0)))∧Aside0 (wc.heap[gb634]? = some (.cells #[.int .i64 ((rd_T39 l0 ((rd_T89 x9_1 x11_1).f0)).f0),.int .i64 ((rd_T39 l0 ((rd_T89 x9_1 x11_1).f0)).f1),.int .i64 ((rd_T39 l0 ((rd_T89 x9_1 x11_1).f0)).f2)] 39 (0,0)))∧Aside0 (wc.heap[gb635]? = some (.cells #[.int .i64 ((rd_T39 l0 ((rd_T89 x9_1 x11_1).f1)).f0),.int .i64 ((rd_T39 l0 ((rd_T89 x9_1 x11_1).f1)).f1),.int .i64 ((rd_T39 l0 ((rd_T89 x9_1 x11_1).f1)).f2)] 39 (0,0)))∧Aside0 (Below w.heap.size w wc))
     case first =>
      have H:=HC34.out
      clear HC34
      by_cases c35 :((rd_T39 l0 ((rd_T89 x9_1 x11_1).f0)).f0) = x16_12
      ·rw [if_pos c35] at H
       have c35b0 :(((rd_T39 l0 ((rd_T89 x9_1 x11_1).f0)).f0) == x16_12) = true:=beq_iff_eq.mpr c35
       have c35b1 :(((rd_T39 l0 ((rd_T89 x9_1 x11_1).f0)).f0) != x16_12) = false:=bne_eq_false_iff_eq.mpr c35
       clear c35
       (first | rw [c35b0] |(simp only [i64_w,i32_w];rw [c35b0]) | skip)
       have H':=Aside0.mk H
       clear H
       have hnb36:=NB634_631.out
       have hnc36:=NB631_634.out
       have hnb37:=NB634_635.out
       have hnc37:=NB635_634.out
       have hcz38_0 : wc.cell? ⟨gb634,0,none⟩ = some (.int .i64 ((rd_T39 l0 ((rd_T89 x9_1 x11_1).f0)).f0)):=(bkC BK634.out 0).trans rfl
       have hcz38_1 : wc.cell? ⟨gb634,1,none⟩ = some (.int .i64 ((rd_T39 l0 ((rd_T89 x9_1 x11_1).f0)).f1)):=(bkC BK634.out 1).trans rfl
       have hcz38_2 : wc.cell? ⟨gb634,2,none⟩ = some (.int .i64 ((rd_T39 l0 ((rd_T89 x9_1 x11_1).f0)).f2)):=(bkC BK634.out 2).trans rfl
       have hfz38_0:=bkF BK634.out 0
       have hfz38_1:=bkF BK634.out 1
       have hfz38_2:=bkF BK634.out 2
       go_wp2
       go_meet
       exact⟨_,(true),(by first | rfl |(simp;done) |(simp [*];done)),H',⟨by have:=HK1.out;have:=HJ12.out;first | omega | exact Nat.le_refl _⟩,⟨by(with_reducible repeat(first | apply Kd.R_alloc | apply Kd.R_drewN | apply Kd.R_drew));exact HO_9.out⟩,⟨by(with_reducible repeat(first | apply Kd.R_alloc | apply Kd.R_drewN | apply Kd.R_drew));exact HO_10.out⟩,⟨by(with_reducible repeat(first | refine bkN ?_ _ | refine bkD ?_ | refine bkA ?_ _));exact BK631.out⟩,⟨by(with_reducible repeat(first | refine bkN ?_ _ | refine bkD ?_ | refine bkA ?_ _));exact BK634.out⟩,⟨by(with_reducible repeat(first | refine bkN ?_ _ | refine bkD ?_ | refine bkA ?_ _));exact BK635.out⟩,⟨by repeat(first |(with_reducible first | exact HB.out | apply bwA | apply bwN | apply bw1 | refine bwS ?_ GE631.out | refine bwS ?_ GE634.out | refine bwS ?_ GE635.out) | exact HB.out)⟩⟩
      rw [if_neg c35] at H
      have c35b0 :(((rd_T39 l0 ((rd_T89 x9_1 x11_1).f0)).f0) == x16_12) = false:=beq_eq_false_iff_ne.mpr c35
      have c35b1 :(((rd_T39 l0 ((rd_T89 x9_1 x11_1).f0)).f0) != x16_12) = true:=bne_iff_ne.mpr c35
      (first | rw [c35b0] |(simp only [i64_w,i32_w];rw [c35b0]) | skip)
      have H':=Aside0.mk H
      clear H
      have hnb39:=NB634_631.out
      have hnc39:=NB631_634.out
      have hnb40:=NB634_635.out
      have hnc40:=NB635_634.out
      have hcz41_0 : wc.cell? ⟨gb634,0,none⟩ = some (.int .i64 ((rd_T39 l0 ((rd_T89 x9_1 x11_1).f0)).f0)):=(bkC BK634.out 0).trans rfl
      have hcz41_1 : wc.cell? ⟨gb634,1,none⟩ = some (.int .i64 ((rd_T39 l0 ((rd_T89 x9_1 x11_1).f0)).f1)):=(bkC BK634.out 1).trans rfl
      have hcz41_2 : wc.cell? ⟨gb634,2,none⟩ = some (.int .i64 ((rd_T39 l0 ((rd_T89 x9_1 x11_1).f0)).f2)):=(bkC BK634.out 2).trans rfl
      have hfz41_0:=bkF BK634.out 0
      have hfz41_1:=bkF BK634.out 1
      have hfz41_2:=bkF BK634.out 2
      have hnb42:=NB635_631.out
      have hnc42:=NB631_635.out
      have hcz43_0 : wc.cell? ⟨gb635,0,none⟩ = some (.int .i64 ((rd_T39 l0 ((rd_T89 x9_1 x11_1).f1)).f0)):=(bkC BK635.out 0).trans rfl
      have hcz43_1 : wc.cell? ⟨gb635,1,none⟩ = some (.int .i64 ((rd_T39 l0 ((rd_T89 x9_1 x11_1).f1)).f1)):=(bkC BK635.out 1).trans rfl
      have hcz43_2 : wc.cell? ⟨gb635,2,none⟩ = some (.int .i64 ((rd_T39 l0 ((rd_T89 x9_1 x11_1).f1)).f2)):=(bkC BK635.out 2).trans rfl
      have hfz43_0:=bkF BK635.out 0
      have hfz43_1:=bkF BK635.out 1
      have hfz43_2:=bkF BK635.out 2
      go_wp2
      go_meet
      exact⟨_,((((rd_T39 l0 ((rd_T89 x9_1 x11_1).f1)).f0) == x16_12)),(by first | rfl |(simp;done) |(simp [*];done)),H',⟨by have:=HK1.out;have:=HJ12.out;first | omega | exact Nat.le_refl _⟩,⟨by(with_reducible repeat(first | apply Kd.R_alloc | apply Kd.R_drewN | apply Kd.R_drew));exact HO_9.out⟩,⟨by(with_reducible repeat(first | apply Kd.R_alloc | apply Kd.R_drewN | apply Kd.R_drew));exact HO_10.out⟩,⟨by(with_reducible repeat(first | refine bkN ?_ _ | refine bkD ?_ | refine bkA ?_ _));exact BK631.out⟩,⟨by(with_reducible repeat(first | refine bkN ?_ _ | refine bkD ?_ | refine bkA ?_ _));exact BK634.out⟩,⟨by(with_reducible repeat(first | refine bkN ?_ _ | refine bkD ?_ | refine bkA ?_ _));exact BK635.out⟩,⟨by repeat(first |(with_reducible first | exact HB.out | apply bwA | apply bwN | apply bw1 | refine bwS ?_ GE631.out | refine bwS ?_ GE634.out | refine bwS ?_ GE635.out) | exact HB.out)⟩⟩
     case rest =>
      clear HC34
      try clear c1
      try clear c2
      try clear p2
      try clear c3
      try clear q3
      try clear c4
      try clear p6
      try clear q6
      try clear hx6
      try clear c7
      try clear c7b0
      try clear c8
      try clear c8b0
      try clear c9
      try clear c9b0
      try clear c10
      try clear c10b0
      try clear c11
      try clear c11b0
      try clear c12
      try clear c12b0
      try clear c28
      try clear c29
      try clear q31
      try clear c32
      try clear c35
      try clear c35b0
      try clear c35b1
      try clear c36
      try clear c37
      try clear c39
      try clear c40
      try clear c42
      try clear hcz16_0
      try clear hcz16_1
      try clear hcz16_2
      try clear hcz30_0
      try clear hcz30_1
      try clear hcz30_2
      try clear hcz38_0
      try clear hcz38_1
      try clear hcz38_2
      try clear hcz41_0
      try clear hcz41_1
      try clear hcz41_2
      try clear hcz43_0
      try clear hcz43_1
      try clear hcz43_2
      try clear hfz16_0
      try clear hfz16_1
      try clear hfz16_2
      try clear hfz30_0
      try clear hfz30_1
      try clear hfz30_2
      try clear hfz38_0
      try clear hfz38_1
      try clear hfz38_2
      try clear hfz41_0
      try clear hfz41_1
      try clear hfz41_2
      try clear hfz43_0
      try clear hfz43_1
      try clear hfz43_2
      try clear hx630_0
      try clear hx630_1
      try clear hx630_2
      try clear hx632_0
      try clear hx632_1
      try clear hx632_2
      try clear hx633_0
      try clear hx633_1
      try clear hx633_2
      try clear p2
      try clear p6
      try clear p630
      try clear p632
      try clear p633
      try clear q3
      try clear q31
      try clear q6
      try clear q630
      try clear q632
      try clear q633
      obtain ⟨kq,x49_33,rfl,HA,HJ33,HO_9,HO_10,BK631,BK634,BK635,HB⟩:=hcut
      cases kq with
      | zero=>exact absurd HA.out (by simp [q06_Bound.j2])
      | succ kj33 =>
       have H:=HA.out
       clear HA
       simp only [q06_Bound.j2] at H
       by_cases c44 : x49_33 = true
       ·subst c44
        have H1 :(if x10_1.length < 5864062014805 then(q06_Bound.l0 kj33 l0 x9_1 (x10_1 ++ [(⟨x16_12,0,0⟩ : S39)]) (wrap64 (x11_1 + 1))) else(none)) = some r:=by rw [if_pos rfl] at H;exact H
        clear H
        have H:=H1
        clear H1
        by_cases c45 : x10_1.length < 5864062014805
        rotate_left
        ·rw [if_neg c45] at H
         exact absurd H (by simp)
        rw [if_pos c45] at H
        have LMc45:=Aside0.mk c45
        clear c45
        obtain ⟨y636,hy636⟩ : ∃ y_ : List (S39),y_ =(x10_1 ++ [(⟨x16_12,0,0⟩ : S39)]):=⟨_,rfl⟩
        replace H :(q06_Bound.l0 kj33 l0 x9_1 y636 (wrap64 (x11_1 + 1))) = some r:=by first |(rw [hy636];with_reducible exact H) |(have H2_:=(Option.bind_some _ _).symm.trans H;rw [hy636];with_reducible exact H2_) |(have H2_:=(Option.bind_some _ _).symm.trans H;with_reducible exact H2_) | with_reducible exact H |(rw [hy636];exact H) | exact H
        have Ny636:=Aside0.mk hy636
        clear hy636
        have H':=Aside0.mk H
        clear H
        go_wp2_with (first |((with_reducible refine gate_builtin (b:=.append) (xs:=#[.tmp 60,.tmp 63]) rfl ?_);at_builtin;refine Kd.R_append k39 (w0:=w) w.heap.size rfl (.tmp 60) (.tmp 63) 22 39 (.agg #[(.int .i64 0),(.int .i64 0),(.int .i64 0)]) 24 rfl Try.underlying22 info39 rfl (by decide) (by omega) u10 x10_1 (⟨x16_12,0,0⟩ : S39) [.int .i64 x16_12,.int .i64 0,.int .i64 0] (fun k_=>k_≠gb634∧k_≠gb635) (fun _=>False) rfl rfl ?aP (fun _ hk=>hk.elim) ?aF ?aO ?aB ?aS ?aL ?_;(case aP=>exact k39_mkM _ _ _ (⟨x16_12,0,0⟩ : S39));(case aB=>exact(by repeat(first |(with_reducible first | exact HB.out | apply bwA | apply bwN | apply bw1 | refine bwS ?_ GE631.out | refine bwS ?_ GE634.out | refine bwS ?_ GE635.out) | exact HB.out)));(case aF=>exact(fun k_ hk=>⟨Kd.freshB (g:=gb634) (o:=.cells #[.int .i64 ((rd_T39 l0 ((rd_T89 x9_1 x11_1).f0)).f0),.int .i64 ((rd_T39 l0 ((rd_T89 x9_1 x11_1).f0)).f1),.int .i64 ((rd_T39 l0 ((rd_T89 x9_1 x11_1).f0)).f2)] 39 (0,0)) (by(with_reducible repeat(first | refine bkN ?_ _ | refine bkD ?_ | refine bkA ?_ _));exact BK634.out) k_ hk,Kd.freshB (g:=gb635) (o:=.cells #[.int .i64 ((rd_T39 l0 ((rd_T89 x9_1 x11_1).f1)).f0),.int .i64 ((rd_T39 l0 ((rd_T89 x9_1 x11_1).f1)).f1),.int .i64 ((rd_T39 l0 ((rd_T89 x9_1 x11_1).f1)).f2)] 39 (0,0)) (by(with_reducible repeat(first | refine bkN ?_ _ | refine bkD ?_ | refine bkA ?_ _));exact BK635.out) k_ hk⟩));(case aO=>exact(by(with_reducible repeat(first | apply Kd.R_alloc | apply Kd.R_drewN | apply Kd.R_drew));exact HO_10.out));(case aS=>exact(bwZ (by repeat(first |(with_reducible first | exact HB.out | apply bwA | apply bwN | apply bw1 | refine bwS ?_ GE631.out | refine bwS ?_ GE634.out | refine bwS ?_ GE635.out) | exact HB.out))));(case aL=>have:=LMc45.out;omega);intro v637 w46 ho hb hg hat;rw [← Ny636.out] at ho;have n0_:=Aside0.mk (Kd.R_over' (by(with_reducible repeat(first | apply Kd.R_alloc | apply Kd.R_drewN | apply Kd.R_drew));exact HO_9.out) (Kd.R_typed (by(with_reducible repeat(first | apply Kd.R_alloc | apply Kd.R_drewN | apply Kd.R_drew));exact HO_10.out)) (by decide) hg);have n1_:=Aside0.mk (blk_grown (g:=gb631) (o:=.cells #[.int .i64 ((rd_T89 x9_1 x11_1).f0),.int .i64 ((rd_T89 x9_1 x11_1).f1),.bool ((rd_T89 x9_1 x11_1).f2)] 89 (0,0)) (by(with_reducible repeat(first | refine bkN ?_ _ | refine bkD ?_ | refine bkA ?_ _));exact BK631.out) hg (Kd.R_ne HO_10.out BK631.out (by decide)));have n2_:=Aside0.mk (blk_grown (g:=gb634) (o:=.cells #[.int .i64 ((rd_T39 l0 ((rd_T89 x9_1 x11_1).f0)).f0),.int .i64 ((rd_T39 l0 ((rd_T89 x9_1 x11_1).f0)).f1),.int .i64 ((rd_T39 l0 ((rd_T89 x9_1 x11_1).f0)).f2)] 39 (0,0)) (by(with_reducible repeat(first | refine bkN ?_ _ | refine bkD ?_ | refine bkA ?_ _));exact BK634.out) hg (Kd.R_away HO_10.out (fun _ hk=>hk.1)));have n3_:=Aside0.mk (blk_grown (g:=gb635) (o:=.cells #[.int .i64 ((rd_T39 l0 ((rd_T89 x9_1 x11_1).f1)).f0),.int .i64 ((rd_T39 l0 ((rd_T89 x9_1 x11_1).f1)).f1),.int .i64 ((rd_T39 l0 ((rd_T89 x9_1 x11_1).f1)).f2)] 39 (0,0)) (by(with_reducible repeat(first | refine bkN ?_ _ | refine bkD ?_ | refine bkA ?_ _));exact BK635.out) hg (Kd.R_away HO_10.out (fun _ hk=>hk.2)));have n4_:=Aside0.mk (hb);have n5_:=Aside0.mk (ho);clear HO_9;clear BK631;clear BK634;clear BK635;clear HB;clear HO_10;have HO_9:=n0_;have BK631:=n1_;have BK634:=n2_;have BK635:=n3_;have HB:=n4_;have HO638:=n5_;clear n0_ n1_ n2_ n3_ n4_ n5_;clear ho hb hg hat))
        go_roundg kj33
        case measure=>have:=HK1.out;have:=HJ12.out;have:=HJ33.out;omega
        exact⟨(x9_1),(y636),(wrap64 (x11_1 + 1)),(by first | rfl |(simp;done) |(simp [*];done)),H',⟨by have:=HK1.out;have:=HJ12.out;have:=HJ33.out;omega⟩,⟨by(with_reducible repeat(first | apply Kd.R_alloc | apply Kd.R_drewN | apply Kd.R_drew));exact Kd.R_mono HO_9.out (fun _ hk=>trivial)⟩,⟨by(with_reducible repeat(first | apply Kd.R_alloc | apply Kd.R_drewN | apply Kd.R_drew));exact Kd.R_mono HO638.out (fun _ hk=>trivial)⟩,⟨by repeat(first |(with_reducible first | exact HB.out | apply bwA | apply bwN | apply bw1 | refine bwS ?_ GE631.out | refine bwS ?_ GE634.out | refine bwS ?_ GE635.out) | exact HB.out)⟩⟩
       replace c44:=Bool.eq_false_iff.mpr c44
       subst c44
       have H1 :(if((rd_T39 l0 ((rd_T89 x9_1 x11_1).f0)).f0) = x15_12 then(q06_Bound.j3 kj33 l0 x9_1 x10_1 x11_1 x16_12 ((rd_T89 x9_1 x11_1).f1) ((rd_T89 x9_1 x11_1).f1) ((rd_T89 x9_1 x11_1).f2) ((rd_T39 l0 ((rd_T89 x9_1 x11_1).f1)).f0) ((rd_T39 l0 ((rd_T89 x9_1 x11_1).f1)).f1) ((rd_T39 l0 ((rd_T89 x9_1 x11_1).f1)).f2) ((rd_T39 l0 ((rd_T89 x9_1 x11_1).f1)).f0) ((rd_T39 l0 ((rd_T89 x9_1 x11_1).f1)).f1) ((rd_T39 l0 ((rd_T89 x9_1 x11_1).f1)).f2)) else(if((rd_T39 l0 ((rd_T89 x9_1 x11_1).f1)).f0) = x15_12 then(q06_Bound.j3 kj33 l0 x9_1 x10_1 x11_1 x16_12 ((rd_T89 x9_1 x11_1).f0) ((rd_T89 x9_1 x11_1).f0) ((rd_T89 x9_1 x11_1).f2) ((rd_T39 l0 ((rd_T89 x9_1 x11_1).f0)).f0) ((rd_T39 l0 ((rd_T89 x9_1 x11_1).f0)).f1) ((rd_T39 l0 ((rd_T89 x9_1 x11_1).f0)).f2) ((rd_T39 l0 ((rd_T89 x9_1 x11_1).f0)).f0) ((rd_T39 l0 ((rd_T89 x9_1 x11_1).f0)).f1) ((rd_T39 l0 ((rd_T89 x9_1 x11_1).f0)).f2)) else(q06_Bound.j3 kj33 l0 x9_1 x10_1 x11_1 x16_12 ((rd_T89 x9_1 x11_1).f0) ((rd_T89 x9_1 x11_1).f1) ((rd_T89 x9_1 x11_1).f2) ((rd_T39 l0 ((rd_T89 x9_1 x11_1).f0)).f0) ((rd_T39 l0 ((rd_T89 x9_1 x11_1).f0)).f1) ((rd_T39 l0 ((rd_T89 x9_1 x11_1).f0)).f2) ((rd_T39 l0 ((rd_T89 x9_1 x11_1).f1)).f0) ((rd_T39 l0 ((rd_T89 x9_1 x11_1).f1)).f1) ((rd_T39 l0 ((rd_T89 x9_1 x11_1).f1)).f2)))) = some r:=by rw [if_neg (show ¬ (false = true) by decide)] at H;exact H
       clear H
       have H:=H1
       clear H1
       by_cases c47 :((rd_T39 l0 ((rd_T89 x9_1 x11_1).f0)).f0) = x15_12
       ·rw [if_pos c47] at H
        have c47b0 :(((rd_T39 l0 ((rd_T89 x9_1 x11_1).f0)).f0) == x15_12) = true:=beq_iff_eq.mpr c47
        have c47b1 :(((rd_T39 l0 ((rd_T89 x9_1 x11_1).f0)).f0) != x15_12) = false:=bne_eq_false_iff_eq.mpr c47
        clear c47
        have H':=Aside0.mk H
        clear H
        have hnb48:=NB634_631.out
        have hnc48:=NB631_634.out
        have hnb49:=NB634_635.out
        have hnc49:=NB635_634.out
        have hcz50_0 : wc.cell? ⟨gb634,0,none⟩ = some (.int .i64 ((rd_T39 l0 ((rd_T89 x9_1 x11_1).f0)).f0)):=(bkC BK634.out 0).trans rfl
        have hcz50_1 : wc.cell? ⟨gb634,1,none⟩ = some (.int .i64 ((rd_T39 l0 ((rd_T89 x9_1 x11_1).f0)).f1)):=(bkC BK634.out 1).trans rfl
        have hcz50_2 : wc.cell? ⟨gb634,2,none⟩ = some (.int .i64 ((rd_T39 l0 ((rd_T89 x9_1 x11_1).f0)).f2)):=(bkC BK634.out 2).trans rfl
        have hfz50_0:=bkF BK634.out 0
        have hfz50_1:=bkF BK634.out 1
        have hfz50_2:=bkF BK634.out 2
        have hnb51:=NB631_635.out
        have hnc51:=NB635_631.out
        have hcz52_0 : wc.cell? ⟨gb631,0,none⟩ = some (.int .i64 ((rd_T89 x9_1 x11_1).f0)):=(bkC BK631.out 0).trans rfl
        have hcz52_1 : wc.cell? ⟨gb631,1,none⟩ = some (.int .i64 ((rd_T89 x9_1 x11_1).f1)):=(bkC BK631.out 1).trans rfl
        have hcz52_2 : wc.cell? ⟨gb631,2,none⟩ = some (.bool ((rd_T89 x9_1 x11_1).f2)):=(bkC BK631.out 2).trans rfl
        have hfz52_0:=bkF BK631.out 0
        have hfz52_1:=bkF BK631.out 1
        have hfz52_2:=bkF BK631.out 2
        have hcz53_0 : wc.cell? ⟨gb635,0,none⟩ = some (.int .i64 ((rd_T39 l0 ((rd_T89 x9_1 x11_1).f1)).f0)):=(bkC BK635.out 0).trans rfl
        have hcz53_1 : wc.cell? ⟨gb635,1,none⟩ = some (.int .i64 ((rd_T39 l0 ((rd_T89 x9_1 x11_1).f1)).f1)):=(bkC BK635.out 1).trans rfl
        have hcz53_2 : wc.cell? ⟨gb635,2,none⟩ = some (.int .i64 ((rd_T39 l0 ((rd_T89 x9_1 x11_1).f1)).f2)):=(bkC BK635.out 2).trans rfl
        have hfz53_0:=bkF BK635.out 0
        have hfz53_1:=bkF BK635.out 1
        have hfz53_2:=bkF BK635.out 2
        go_wp2
        go_meet
        exact⟨_,(x10_1),(((rd_T89 x9_1 x11_1).f1)),(((rd_T89 x9_1 x11_1).f1)),(((rd_T39 l0 ((rd_T89 x9_1 x11_1).f1)).f0)),(((rd_T39 l0 ((rd_T89 x9_1 x11_1).f1)).f1)),(((rd_T39 l0 ((rd_T89 x9_1 x11_1).f1)).f2)),(((rd_T39 l0 ((rd_T89 x9_1 x11_1).f1)).f0)),(((rd_T39 l0 ((rd_T89 x9_1 x11_1).f1)).f1)),(((rd_T39 l0 ((rd_T89 x9_1 x11_1).f1)).f2)),H',⟨by have:=HK1.out;have:=HJ12.out;have:=HJ33.out;first | omega | exact Nat.le_refl _⟩,⟨by(with_reducible repeat(first | apply Kd.R_alloc | apply Kd.R_drewN | apply Kd.R_drew));exact Kd.R_mono (Kd.R_far (p:=⟨gb634,2,none⟩) (Kd.R_far (p:=⟨gb634,1,none⟩) (Kd.R_far (p:=⟨gb634,0,none⟩) (Kd.R_far (p:=⟨gb631,0,none⟩) (Kd.R_types (Kd.R_mono HO_9.out (fun k_ hk=>(⟨hk,hk⟩ : _∧k_≠gb631))) BK634.out (by decide)) (fun _ hk=>hk.1.2) (.int .i64 ((rd_T89 x9_1 x11_1).f1))) (fun _ hk=>hk.2) (.int .i64 ((rd_T39 l0 ((rd_T89 x9_1 x11_1).f1)).f0))) (fun _ hk=>hk.2) (.int .i64 ((rd_T39 l0 ((rd_T89 x9_1 x11_1).f1)).f1))) (fun _ hk=>hk.2) (.int .i64 ((rd_T39 l0 ((rd_T89 x9_1 x11_1).f1)).f2))) (fun _ hk=>hk.1.1)⟩,⟨by(with_reducible repeat(first | apply Kd.R_alloc | apply Kd.R_drewN | apply Kd.R_drew));exact Kd.R_mono (Kd.R_far (p:=⟨gb634,2,none⟩) (Kd.R_far (p:=⟨gb634,1,none⟩) (Kd.R_far (p:=⟨gb634,0,none⟩) (Kd.R_far (p:=⟨gb631,0,none⟩) (Kd.R_mono (Kd.R_types HO_10.out BK631.out (by decide)) (fun k_ hk=>(⟨hk,hk.1.1⟩ : _∧k_≠gb634))) (fun _ hk=>hk.1.2) (.int .i64 ((rd_T89 x9_1 x11_1).f1))) (fun _ hk=>hk.2) (.int .i64 ((rd_T39 l0 ((rd_T89 x9_1 x11_1).f1)).f0))) (fun _ hk=>hk.2) (.int .i64 ((rd_T39 l0 ((rd_T89 x9_1 x11_1).f1)).f1))) (fun _ hk=>hk.2) (.int .i64 ((rd_T39 l0 ((rd_T89 x9_1 x11_1).f1)).f2))) (fun _ hk=>⟨hk.1.1.1,hk.1.1.2⟩)⟩,⟨by(with_reducible repeat(first | refine bkN ?_ _ | refine bkD ?_ | refine bkA ?_ _));refine blk_far ?_ NB631_634.out _;(with_reducible repeat(first | refine bkN ?_ _ | refine bkD ?_ | refine bkA ?_ _));refine blk_far ?_ NB631_634.out _;(with_reducible repeat(first | refine bkN ?_ _ | refine bkD ?_ | refine bkA ?_ _));refine blk_far ?_ NB631_634.out _;(with_reducible repeat(first | refine bkN ?_ _ | refine bkD ?_ | refine bkA ?_ _));refine blk_put (cs:=#[.int .i64 ((rd_T89 x9_1 x11_1).f0),.int .i64 ((rd_T89 x9_1 x11_1).f1),.bool ((rd_T89 x9_1 x11_1).f2)]) ?_ 0 _ rfl;(with_reducible repeat(first | refine bkN ?_ _ | refine bkD ?_ | refine bkA ?_ _));exact BK631.out⟩,⟨by(with_reducible repeat(first | refine bkN ?_ _ | refine bkD ?_ | refine bkA ?_ _));refine blk_put (cs:=#[.int .i64 ((rd_T39 l0 ((rd_T89 x9_1 x11_1).f1)).f0),.int .i64 ((rd_T39 l0 ((rd_T89 x9_1 x11_1).f1)).f1),.int .i64 ((rd_T39 l0 ((rd_T89 x9_1 x11_1).f0)).f2)]) ?_ 2 _ rfl;(with_reducible repeat(first | refine bkN ?_ _ | refine bkD ?_ | refine bkA ?_ _));refine blk_put (cs:=#[.int .i64 ((rd_T39 l0 ((rd_T89 x9_1 x11_1).f1)).f0),.int .i64 ((rd_T39 l0 ((rd_T89 x9_1 x11_1).f0)).f1),.int .i64 ((rd_T39 l0 ((rd_T89 x9_1 x11_1).f0)).f2)]) ?_ 1 _ rfl;(with_reducible repeat(first | refine bkN ?_ _ | refine bkD ?_ | refine bkA ?_ _));refine blk_put (cs:=#[.int .i64 ((rd_T39 l0 ((rd_T89 x9_1 x11_1).f0)).f0),.int .i64 ((rd_T39 l0 ((rd_T89 x9_1 x11_1).f0)).f1),.int .i64 ((rd_T39 l0 ((rd_T89 x9_1 x11_1).f0)).f2)]) ?_ 0 _ rfl;(with_reducible repeat(first | refine bkN ?_ _ | refine bkD ?_ | refine bkA ?_ _));refine blk_far ?_ NB634_631.out _;(with_reducible repeat(first | refine bkN ?_ _ | refine bkD ?_ | refine bkA ?_ _));exact BK634.out⟩,⟨by(with_reducible repeat(first | refine bkN ?_ _ | refine bkD ?_ | refine bkA ?_ _));refine blk_far ?_ NB635_634.out _;(with_reducible repeat(first | refine bkN ?_ _ | refine bkD ?_ | refine bkA ?_ _));refine blk_far ?_ NB635_634.out _;(with_reducible repeat(first | refine bkN ?_ _ | refine bkD ?_ | refine bkA ?_ _));refine blk_far ?_ NB635_634.out _;(with_reducible repeat(first | refine bkN ?_ _ | refine bkD ?_ | refine bkA ?_ _));refine blk_far ?_ NB635_631.out _;(with_reducible repeat(first | refine bkN ?_ _ | refine bkD ?_ | refine bkA ?_ _));exact BK635.out⟩,⟨by repeat(first |(with_reducible first | exact HB.out | apply bwA | apply bwN | apply bw1 | refine bwS ?_ GE631.out | refine bwS ?_ GE634.out | refine bwS ?_ GE635.out) | exact HB.out)⟩⟩
       rw [if_neg c47] at H
       have c47b0 :(((rd_T39 l0 ((rd_T89 x9_1 x11_1).f0)).f0) == x15_12) = false:=beq_eq_false_iff_ne.mpr c47
       have c47b1 :(((rd_T39 l0 ((rd_T89 x9_1 x11_1).f0)).f0) != x15_12) = true:=bne_iff_ne.mpr c47
       by_cases c54 :((rd_T39 l0 ((rd_T89 x9_1 x11_1).f1)).f0) = x15_12
       rotate_left
       ·rw [if_neg c54] at H
        have c54b0 :(((rd_T39 l0 ((rd_T89 x9_1 x11_1).f1)).f0) == x15_12) = false:=beq_eq_false_iff_ne.mpr c54
        have c54b1 :(((rd_T39 l0 ((rd_T89 x9_1 x11_1).f1)).f0) != x15_12) = true:=bne_iff_ne.mpr c54
        have H':=Aside0.mk H
        clear H
        have hnb61:=NB634_631.out
        have hnc61:=NB631_634.out
        have hnb62:=NB634_635.out
        have hnc62:=NB635_634.out
        have hcz63_0 : wc.cell? ⟨gb634,0,none⟩ = some (.int .i64 ((rd_T39 l0 ((rd_T89 x9_1 x11_1).f0)).f0)):=(bkC BK634.out 0).trans rfl
        have hcz63_1 : wc.cell? ⟨gb634,1,none⟩ = some (.int .i64 ((rd_T39 l0 ((rd_T89 x9_1 x11_1).f0)).f1)):=(bkC BK634.out 1).trans rfl
        have hcz63_2 : wc.cell? ⟨gb634,2,none⟩ = some (.int .i64 ((rd_T39 l0 ((rd_T89 x9_1 x11_1).f0)).f2)):=(bkC BK634.out 2).trans rfl
        have hfz63_0:=bkF BK634.out 0
        have hfz63_1:=bkF BK634.out 1
        have hfz63_2:=bkF BK634.out 2
        have hnb64:=NB635_631.out
        have hnc64:=NB631_635.out
        have hcz65_0 : wc.cell? ⟨gb635,0,none⟩ = some (.int .i64 ((rd_T39 l0 ((rd_T89 x9_1 x11_1).f1)).f0)):=(bkC BK635.out 0).trans rfl
        have hcz65_1 : wc.cell? ⟨gb635,1,none⟩ = some (.int .i64 ((rd_T39 l0 ((rd_T89 x9_1 x11_1).f1)).f1)):=(bkC BK635.out 1).trans rfl
        have hcz65_2 : wc.cell? ⟨gb635,2,none⟩ = some (.int .i64 ((rd_T39 l0 ((rd_T89 x9_1 x11_1).f1)).f2)):=(bkC BK635.out 2).trans rfl
        have hfz65_0:=bkF BK635.out 0
        have hfz65_1:=bkF BK635.out 1
        have hfz65_2:=bkF BK635.out 2
        go_wp2
        go_meet
        exact⟨_,(x10_1),(((rd_T89 x9_1 x11_1).f0)),(((rd_T89 x9_1 x11_1).f1)),(((rd_T39 l0 ((rd_T89 x9_1 x11_1).f0)).f0)),(((rd_T39 l0 ((rd_T89 x9_1 x11_1).f0)).f1)),(((rd_T39 l0 ((rd_T89 x9_1 x11_1).f0)).f2)),(((rd_T39 l0 ((rd_T89 x9_1 x11_1).f1)).f0)),(((rd_T39 l0 ((rd_T89 x9_1 x11_1).f1)).f1)),(((rd_T39 l0 ((rd_T89 x9_1 x11_1).f1)).f2)),H',⟨by have:=HK1.out;have:=HJ12.out;have:=HJ33.out;first | omega | exact Nat.le_refl _⟩,⟨by(with_reducible repeat(first | apply Kd.R_alloc | apply Kd.R_drewN | apply Kd.R_drew));exact HO_9.out⟩,⟨by(with_reducible repeat(first | apply Kd.R_alloc | apply Kd.R_drewN | apply Kd.R_drew));exact HO_10.out⟩,⟨by(with_reducible repeat(first | refine bkN ?_ _ | refine bkD ?_ | refine bkA ?_ _));exact BK631.out⟩,⟨by(with_reducible repeat(first | refine bkN ?_ _ | refine bkD ?_ | refine bkA ?_ _));exact BK634.out⟩,⟨by(with_reducible repeat(first | refine bkN ?_ _ | refine bkD ?_ | refine bkA ?_ _));exact BK635.out⟩,⟨by repeat(first |(with_reducible first | exact HB.out | apply bwA | apply bwN | apply bw1 | refine bwS ?_ GE631.out | refine bwS ?_ GE634.out | refine bwS ?_ GE635.out) | exact HB.out)⟩⟩
       rw [if_pos c54] at H
       have c54b0 :(((rd_T39 l0 ((rd_T89 x9_1 x11_1).f1)).f0) == x15_12) = true:=beq_iff_eq.mpr c54
       have c54b1 :(((rd_T39 l0 ((rd_T89 x9_1 x11_1).f1)).f0) != x15_12) = false:=bne_eq_false_iff_eq.mpr c54
       clear c54
       have H':=Aside0.mk H
       clear H
       have hnb55:=NB634_631.out
       have hnc55:=NB631_634.out
       have hnb56:=NB634_635.out
       have hnc56:=NB635_634.out
       have hcz57_0 : wc.cell? ⟨gb634,0,none⟩ = some (.int .i64 ((rd_T39 l0 ((rd_T89 x9_1 x11_1).f0)).f0)):=(bkC BK634.out 0).trans rfl
       have hcz57_1 : wc.cell? ⟨gb634,1,none⟩ = some (.int .i64 ((rd_T39 l0 ((rd_T89 x9_1 x11_1).f0)).f1)):=(bkC BK634.out 1).trans rfl
       have hcz57_2 : wc.cell? ⟨gb634,2,none⟩ = some (.int .i64 ((rd_T39 l0 ((rd_T89 x9_1 x11_1).f0)).f2)):=(bkC BK634.out 2).trans rfl
       have hfz57_0:=bkF BK634.out 0
       have hfz57_1:=bkF BK634.out 1
       have hfz57_2:=bkF BK634.out 2
       have hnb58:=NB635_631.out
       have hnc58:=NB631_635.out
       have hcz59_0 : wc.cell? ⟨gb635,0,none⟩ = some (.int .i64 ((rd_T39 l0 ((rd_T89 x9_1 x11_1).f1)).f0)):=(bkC BK635.out 0).trans rfl
       have hcz59_1 : wc.cell? ⟨gb635,1,none⟩ = some (.int .i64 ((rd_T39 l0 ((rd_T89 x9_1 x11_1).f1)).f1)):=(bkC BK635.out 1).trans rfl
       have hcz59_2 : wc.cell? ⟨gb635,2,none⟩ = some (.int .i64 ((rd_T39 l0 ((rd_T89 x9_1 x11_1).f1)).f2)):=(bkC BK635.out 2).trans rfl
       have hfz59_0:=bkF BK635.out 0
       have hfz59_1:=bkF BK635.out 1
       have hfz59_2:=bkF BK635.out 2
       have hcz60_0 : wc.cell? ⟨gb631,0,none⟩ = some (.int .i64 ((rd_T89 x9_1 x11_1).f0)):=(bkC BK631.out 0).trans rfl
       have hcz60_1 : wc.cell? ⟨gb631,1,none⟩ = some (.int .i64 ((rd_T89 x9_1 x11_1).f1)):=(bkC BK631.out 1).trans rfl
       have hcz60_2 : wc.cell? ⟨gb631,2,none⟩ = some (.bool ((rd_T89 x9_1 x11_1).f2)):=(bkC BK631.out 2).trans rfl
       have hfz60_0:=bkF BK631.out 0
       have hfz60_1:=bkF BK631.out 1
       have hfz60_2:=bkF BK631.out 2
       go_wp2
       go_meet
       exact⟨_,(x10_1),(((rd_T89 x9_1 x11_1).f0)),(((rd_T89 x9_1 x11_1).f0)),(((rd_T39 l0 ((rd_T89 x9_1 x11_1).f0)).f0)),(((rd_T39 l0 ((rd_T89 x9_1 x11_1).f0)).f1)),(((rd_T39 l0 ((rd_T89 x9_1 x11_1).f0)).f2)),(((rd_T39 l0 ((rd_T89 x9_1 x11_1).f0)).f0)),(((rd_T39 l0 ((rd_T89 x9_1 x11_1).f0)).f1)),(((rd_T39 l0 ((rd_T89 x9_1 x11_1).f0)).f2)),H',⟨by have:=HK1.out;have:=HJ12.out;have:=HJ33.out;first | omega | exact Nat.le_refl _⟩,⟨by(with_reducible repeat(first | apply Kd.R_alloc | apply Kd.R_drewN | apply Kd.R_drew));exact Kd.R_mono (Kd.R_far (p:=⟨gb635,2,none⟩) (Kd.R_far (p:=⟨gb635,1,none⟩) (Kd.R_far (p:=⟨gb635,0,none⟩) (Kd.R_far (p:=⟨gb631,1,none⟩) (Kd.R_types (Kd.R_mono HO_9.out (fun k_ hk=>(⟨hk,hk⟩ : _∧k_≠gb631))) BK635.out (by decide)) (fun _ hk=>hk.1.2) (.int .i64 ((rd_T89 x9_1 x11_1).f0))) (fun _ hk=>hk.2) (.int .i64 ((rd_T39 l0 ((rd_T89 x9_1 x11_1).f0)).f0))) (fun _ hk=>hk.2) (.int .i64 ((rd_T39 l0 ((rd_T89 x9_1 x11_1).f0)).f1))) (fun _ hk=>hk.2) (.int .i64 ((rd_T39 l0 ((rd_T89 x9_1 x11_1).f0)).f2))) (fun _ hk=>hk.1.1)⟩,⟨by(with_reducible repeat(first | apply Kd.R_alloc | apply Kd.R_drewN | apply Kd.R_drew));exact Kd.R_mono (Kd.R_far (p:=⟨gb635,2,none⟩) (Kd.R_far (p:=⟨gb635,1,none⟩) (Kd.R_far (p:=⟨gb635,0,none⟩) (Kd.R_far (p:=⟨gb631,1,none⟩) (Kd.R_mono (Kd.R_types HO_10.out BK631.out (by decide)) (fun k_ hk=>(⟨hk,hk.1.2⟩ : _∧k_≠gb635))) (fun _ hk=>hk.1.2) (.int .i64 ((rd_T89 x9_1 x11_1).f0))) (fun _ hk=>hk.2) (.int .i64 ((rd_T39 l0 ((rd_T89 x9_1 x11_1).f0)).f0))) (fun _ hk=>hk.2) (.int .i64 ((rd_T39 l0 ((rd_T89 x9_1 x11_1).f0)).f1))) (fun _ hk=>hk.2) (.int .i64 ((rd_T39 l0 ((rd_T89 x9_1 x11_1).f0)).f2))) (fun _ hk=>⟨hk.1.1.1,hk.1.1.2⟩)⟩,⟨by(with_reducible repeat(first | refine bkN ?_ _ | refine bkD ?_ | refine bkA ?_ _));refine blk_far ?_ NB631_635.out _;(with_reducible repeat(first | refine bkN ?_ _ | refine bkD ?_ | refine bkA ?_ _));refine blk_far ?_ NB631_635.out _;(with_reducible repeat(first | refine bkN ?_ _ | refine bkD ?_ | refine bkA ?_ _));refine blk_far ?_ NB631_635.out _;(with_reducible repeat(first | refine bkN ?_ _ | refine bkD ?_ | refine bkA ?_ _));refine blk_put (cs:=#[.int .i64 ((rd_T89 x9_1 x11_1).f0),.int .i64 ((rd_T89 x9_1 x11_1).f1),.bool ((rd_T89 x9_1 x11_1).f2)]) ?_ 1 _ rfl;(with_reducible repeat(first | refine bkN ?_ _ | refine bkD ?_ | refine bkA ?_ _));exact BK631.out⟩,⟨by(with_reducible repeat(first | refine bkN ?_ _ | refine bkD ?_ | refine bkA ?_ _));refine blk_far ?_ NB634_635.out _;(with_reducible repeat(first | refine bkN ?_ _ | refine bkD ?_ | refine bkA ?_ _));refine blk_far ?_ NB634_635.out _;(with_reducible repeat(first | refine bkN ?_ _ | refine bkD ?_ | refine bkA ?_ _));refine blk_far ?_ NB634_635.out _;(with_reducible repeat(first | refine bkN ?_ _ | refine bkD ?_ | refine bkA ?_ _));refine blk_far ?_ NB634_631.out _;(with_reducible repeat(first | refine bkN ?_ _ | refine bkD ?_ | refine bkA ?_ _));exact BK634.out⟩,⟨by(with_reducible repeat(first | refine bkN ?_ _ | refine bkD ?_ | refine bkA ?_ _));refine blk_put (cs:=#[.int .i64 ((rd_T39 l0 ((rd_T89 x9_1 x11_1).f0)).f0),.int .i64 ((rd_T39 l0 ((rd_T89 x9_1 x11_1).f0)).f1),.int .i64 ((rd_T39 l0 ((rd_T89 x9_1 x11_1).f1)).f2)]) ?_ 2 _ rfl;(with_reducible repeat(first | refine bkN ?_ _ | refine bkD ?_ | refine bkA ?_ _));refine blk_put (cs:=#[.int .i64 ((rd_T39 l0 ((rd_T89 x9_1 x11_1).f0)).f0),.int .i64 ((rd_T39 l0 ((rd_T89 x9_1 x11_1).f1)).f1),.int .i64 ((rd_T39 l0 ((rd_T89 x9_1 x11_1).f1)).f2)]) ?_ 1 _ rfl;(with_reducible repeat(first | refine bkN ?_ _ | refine bkD ?_ | refine bkA ?_ _));refine blk_put (cs:=#[.int .i64 ((rd_T39 l0 ((rd_T89 x9_1 x11_1).f1)).f0),.int .i64 ((rd_T39 l0 ((rd_T89 x9_1 x11_1).f1)).f1),.int .i64 ((rd_T39 l0 ((rd_T89 x9_1 x11_1).f1)).f2)]) ?_ 0 _ rfl;(with_reducible repeat(first | refine bkN ?_ _ | refine bkD ?_ | refine bkA ?_ _));refine blk_far ?_ NB635_631.out _;(with_reducible repeat(first | refine bkN ?_ _ | refine bkD ?_ | refine bkA ?_ _));exact BK635.out⟩,⟨by repeat(first |(with_reducible first | exact HB.out | apply bwA | apply bwN | apply bw1 | refine bwS ?_ GE631.out | refine bwS ?_ GE634.out | refine bwS ?_ GE635.out) | exact HB.out)⟩⟩
    case rest =>
     clear HC33
     try clear c1
     try clear c2
     try clear p2
     try clear c3
     try clear q3
     try clear c4
     try clear c5
     try clear c6
     try clear p6
     try clear q6
     try clear hx6
     try clear c7
     try clear c7b0
     try clear c8
     try clear c8b0
     try clear c9
     try clear c9b0
     try clear c10
     try clear c10b0
     try clear c11
     try clear c11b0
     try clear c12
     try clear c12b0
     try clear c28
     try clear c29
     try clear q31
     try clear c32
     try clear c35
     try clear c35b0
     try clear c35b1
     try clear c36
     try clear c37
     try clear c39
     try clear c40
     try clear c42
     try clear c44
     try clear c45
     try clear c47
     try clear c47b0
     try clear c47b1
     try clear c48
     try clear c49
     try clear c51
     try clear c54
     try clear c54b0
     try clear c54b1
     try clear c55
     try clear c56
     try clear c58
     try clear c61
     try clear c62
     try clear p63
     try clear q63
     try clear hx63
     try clear c64
     try clear p64
     try clear hcz16_0
     try clear hcz16_1
     try clear hcz16_2
     try clear hcz30_0
     try clear hcz30_1
     try clear hcz30_2
     try clear hcz38_0
     try clear hcz38_1
     try clear hcz38_2
     try clear hcz41_0
     try clear hcz41_1
     try clear hcz41_2
     try clear hcz43_0
     try clear hcz43_1
     try clear hcz43_2
     try clear hcz50_0
     try clear hcz50_1
     try clear hcz50_2
     try clear hcz52_0
     try clear hcz52_1
     try clear hcz52_2
     try clear hcz53_0
     try clear hcz53_1
     try clear hcz53_2
     try clear hcz57_0
     try clear hcz57_1
     try clear hcz57_2
     try clear hcz59_0
     try clear hcz59_1
     try clear hcz59_2
     try clear hcz60_0
     try clear hcz60_1
     try clear hcz60_2
     try clear hcz63_0
     try clear hcz63_1
     try clear hcz63_2
     try clear hcz65_0
     try clear hcz65_1
     try clear hcz65_2
     try clear hfz16_0
     try clear hfz16_1
     try clear hfz16_2
     try clear hfz30_0
     try clear hfz30_1
     try clear hfz30_2
     try clear hfz38_0
     try clear hfz38_1
     try clear hfz38_2
     try clear hfz41_0
     try clear hfz41_1
     try clear hfz41_2
     try clear hfz43_0
     try clear hfz43_1
     try clear hfz43_2
     try clear hfz50_0
     try clear hfz50_1
     try clear hfz50_2
     try clear hfz52_0
     try clear hfz52_1
     try clear hfz52_2
     try clear hfz53_0
     try clear hfz53_1
     try clear hfz53_2
     try clear hfz57_0
     try clear hfz57_1
     try clear hfz57_2
     try clear hfz59_0
     try clear hfz59_1
     try clear hfz59_2
     try clear hfz60_0
     try clear hfz60_1
     try clear hfz60_2
     try clear hfz63_0
     try clear hfz63_1
     try clear hfz63_2
     try clear hfz65_0
     try clear hfz65_1
     try clear hfz65_2
     try clear hx630_0
     try clear hx630_1
     try clear hx630_2
     try clear hx632_0
     try clear hx632_1
     try clear hx632_2
     try clear hx633_0
     try clear hx633_1
     try clear hx633_2
     try clear p2
     try clear p6
     try clear p630
     try clear p632
     try clear p633
     try clear q3
     try clear q31
     try clear q6
     try clear q630
     try clear q632
     try clear q633
     obtain ⟨kq,x10_32,x632000_32,x632001_32,x635000_32,x635001_32,x635002_32,x636000_32,x636001_32,x636002_32,HA,HJ32,HO_9,HO_10,BK631,BK634,BK635,HB⟩:=hcut
     cases kq with
     | zero=>exact absurd HA.out (by simp [q06_Bound.j3])
     | succ kj32 =>
      have H:=HA.out
      clear HA
      simp only [q06_Bound.j3] at H
      by_cases c66 : x635000_32 = x636000_32
      rotate_left
      ·rw [if_neg c66] at H
       have c66b0 :(x635000_32 == x636000_32) = false:=beq_eq_false_iff_ne.mpr c66
       have c66b1 :(x635000_32 != x636000_32) = true:=bne_iff_ne.mpr c66
       by_cases c113 : x10_32.length < 5864062014805
       rotate_left
       ·rw [if_neg c113] at H
        exact absurd H (by simp)
       rw [if_pos c113] at H
       have LMc113:=Aside0.mk c113
       clear c113
       obtain ⟨y639,hy639⟩ : ∃ y_ : List (S39),y_ =(x10_32 ++ [(⟨x16_12,0,0⟩ : S39)]):=⟨_,rfl⟩
       replace H :(q06_Bound.l0 kj32 l0 x9_1 y639 (wrap64 (x11_1 + 1))) = some r:=by first |(rw [hy639];with_reducible exact H) |(have H2_:=(Option.bind_some _ _).symm.trans H;rw [hy639];with_reducible exact H2_) |(have H2_:=(Option.bind_some _ _).symm.trans H;with_reducible exact H2_) | with_reducible exact H |(rw [hy639];exact H) | exact H
       have Ny639:=Aside0.mk hy639
       clear hy639
       have H':=Aside0.mk H
       clear H
       have hnb114:=NB634_631.out
       have hnc114:=NB631_634.out
       have hnb115:=NB634_635.out
       have hnc115:=NB635_634.out
       have hcz116_0 : wc.cell? ⟨gb634,0,none⟩ = some (.int .i64 x635000_32):=(bkC BK634.out 0).trans rfl
       have hcz116_1 : wc.cell? ⟨gb634,1,none⟩ = some (.int .i64 x635001_32):=(bkC BK634.out 1).trans rfl
       have hcz116_2 : wc.cell? ⟨gb634,2,none⟩ = some (.int .i64 x635002_32):=(bkC BK634.out 2).trans rfl
       have hfz116_0:=bkF BK634.out 0
       have hfz116_1:=bkF BK634.out 1
       have hfz116_2:=bkF BK634.out 2
       have hnb117:=NB635_631.out
       have hnc117:=NB631_635.out
       have hcz118_0 : wc.cell? ⟨gb635,0,none⟩ = some (.int .i64 x636000_32):=(bkC BK635.out 0).trans rfl
       have hcz118_1 : wc.cell? ⟨gb635,1,none⟩ = some (.int .i64 x636001_32):=(bkC BK635.out 1).trans rfl
       have hcz118_2 : wc.cell? ⟨gb635,2,none⟩ = some (.int .i64 x636002_32):=(bkC BK635.out 2).trans rfl
       have hfz118_0:=bkF BK635.out 0
       have hfz118_1:=bkF BK635.out 1
       have hfz118_2:=bkF BK635.out 2
       go_wp2_with (first |((with_reducible refine gate_builtin (b:=.append) (xs:=#[.tmp 88,.tmp 91]) rfl ?_);at_builtin;refine Kd.R_append k39 (w0:=w) w.heap.size rfl (.tmp 88) (.tmp 91) 22 39 (.agg #[(.int .i64 0),(.int .i64 0),(.int .i64 0)]) 24 rfl Try.underlying22 info39 rfl (by decide) (by omega) u10 x10_32 (⟨x16_12,0,0⟩ : S39) [.int .i64 x16_12,.int .i64 0,.int .i64 0] (fun k_=>k_≠gb634∧k_≠gb635) (fun _=>False) rfl rfl ?aP (fun _ hk=>hk.elim) ?aF ?aO ?aB ?aS ?aL ?_;(case aP=>exact k39_mkM _ _ _ (⟨x16_12,0,0⟩ : S39));(case aB=>exact(by repeat(first |(with_reducible first | exact HB.out | apply bwA | apply bwN | apply bw1 | refine bwS ?_ GE631.out | refine bwS ?_ GE634.out | refine bwS ?_ GE635.out) | exact HB.out)));(case aF=>exact(fun k_ hk=>⟨Kd.freshB (g:=gb634) (o:=.cells #[.int .i64 x635000_32,.int .i64 x635001_32,.int .i64 x635002_32] 39 (0,0)) (by(with_reducible repeat(first | refine bkN ?_ _ | refine bkD ?_ | refine bkA ?_ _));exact BK634.out) k_ hk,Kd.freshB (g:=gb635) (o:=.cells #[.int .i64 x636000_32,.int .i64 x636001_32,.int .i64 x636002_32] 39 (0,0)) (by(with_reducible repeat(first | refine bkN ?_ _ | refine bkD ?_ | refine bkA ?_ _));exact BK635.out) k_ hk⟩));(case aO=>exact(by(with_reducible repeat(first | apply Kd.R_alloc | apply Kd.R_drewN | apply Kd.R_drew));exact HO_10.out));(case aS=>exact(bwZ (by repeat(first |(with_reducible first | exact HB.out | apply bwA | apply bwN | apply bw1 | refine bwS ?_ GE631.out | refine bwS ?_ GE634.out | refine bwS ?_ GE635.out) | exact HB.out))));(case aL=>have:=LMc113.out;omega);intro v640 w119 ho hb hg hat;rw [← Ny639.out] at ho;have n0_:=Aside0.mk (Kd.R_over' (by(with_reducible repeat(first | apply Kd.R_alloc | apply Kd.R_drewN | apply Kd.R_drew));exact HO_9.out) (Kd.R_typed (by(with_reducible repeat(first | apply Kd.R_alloc | apply Kd.R_drewN | apply Kd.R_drew));exact HO_10.out)) (by decide) hg);have n1_:=Aside0.mk (blk_grown (g:=gb631) (o:=.cells #[.int .i64 x632000_32,.int .i64 x632001_32,.bool ((rd_T89 x9_1 x11_1).f2)] 89 (0,0)) (by(with_reducible repeat(first | refine bkN ?_ _ | refine bkD ?_ | refine bkA ?_ _));exact BK631.out) hg (Kd.R_ne HO_10.out BK631.out (by decide)));have n2_:=Aside0.mk (blk_grown (g:=gb634) (o:=.cells #[.int .i64 x635000_32,.int .i64 x635001_32,.int .i64 x635002_32] 39 (0,0)) (by(with_reducible repeat(first | refine bkN ?_ _ | refine bkD ?_ | refine bkA ?_ _));exact BK634.out) hg (Kd.R_away HO_10.out (fun _ hk=>hk.1)));have n3_:=Aside0.mk (blk_grown (g:=gb635) (o:=.cells #[.int .i64 x636000_32,.int .i64 x636001_32,.int .i64 x636002_32] 39 (0,0)) (by(with_reducible repeat(first | refine bkN ?_ _ | refine bkD ?_ | refine bkA ?_ _));exact BK635.out) hg (Kd.R_away HO_10.out (fun _ hk=>hk.2)));have n4_:=Aside0.mk (hb);have n5_:=Aside0.mk (ho);clear HO_9;clear BK631;clear BK634;clear BK635;clear HB;clear HO_10;have HO_9:=n0_;have BK631:=n1_;have BK634:=n2_;have BK635:=n3_;have HB:=n4_;have HO641:=n5_;clear n0_ n1_ n2_ n3_ n4_ n5_;clear ho hb hg hat))
       go_roundg kj32
       case measure=>have:=HK1.out;have:=HJ12.out;have:=HJ32.out;omega
       exact⟨(x9_1),(y639),(wrap64 (x11_1 + 1)),(by first | rfl |(simp;done) |(simp [*];done)),H',⟨by have:=HK1.out;have:=HJ12.out;have:=HJ32.out;omega⟩,⟨by(with_reducible repeat(first | apply Kd.R_alloc | apply Kd.R_drewN | apply Kd.R_drew));exact Kd.R_mono HO_9.out (fun _ hk=>trivial)⟩,⟨by(with_reducible repeat(first | apply Kd.R_alloc | apply Kd.R_drewN | apply Kd.R_drew));exact Kd.R_mono HO641.out (fun _ hk=>trivial)⟩,⟨by repeat(first |(with_reducible first | exact HB.out | apply bwA | apply bwN | apply bw1 | refine bwS ?_ GE631.out | refine bwS ?_ GE634.out | refine bwS ?_ GE635.out) | exact HB.out)⟩⟩
      rw [if_pos c66] at H
      have c66b0 :(x635000_32 == x636000_32) = true:=beq_iff_eq.mpr c66
      have c66b1 :(x635000_32 != x636000_32) = false:=bne_eq_false_iff_eq.mpr c66
      clear c66
      by_cases c67 : x635000_32 ≥ 4
      rotate_left
      ·rw [if_neg c67] at H
       have c67b0 : decide (4≤x635000_32) = false:=decide_eq_false c67
       clear c67
       by_cases c100 : x10_32.length < 5864062014805
       rotate_left
       ·rw [if_neg c100] at H
        exact absurd H (by simp)
       rw [if_pos c100] at H
       have LMc100:=Aside0.mk c100
       clear c100
       obtain ⟨y655,hy655⟩ : ∃ y_ : List (S39),y_ =(x10_32 ++ [(⟨x635000_32,0,0⟩ : S39)]):=⟨_,rfl⟩
       replace H :(q06_Bound.l0 kj32 l0 x9_1 y655 (wrap64 (x11_1 + 1))) = some r:=by first |(rw [hy655];with_reducible exact H) |(have H2_:=(Option.bind_some _ _).symm.trans H;rw [hy655];with_reducible exact H2_) |(have H2_:=(Option.bind_some _ _).symm.trans H;with_reducible exact H2_) | with_reducible exact H |(rw [hy655];exact H) | exact H
       have Ny655:=Aside0.mk hy655
       clear hy655
       have H':=Aside0.mk H
       clear H
       have hnb101:=NB634_631.out
       have hnc101:=NB631_634.out
       have hnb102:=NB634_635.out
       have hnc102:=NB635_634.out
       have hcz103_0 : wc.cell? ⟨gb634,0,none⟩ = some (.int .i64 x635000_32):=(bkC BK634.out 0).trans rfl
       have hcz103_1 : wc.cell? ⟨gb634,1,none⟩ = some (.int .i64 x635001_32):=(bkC BK634.out 1).trans rfl
       have hcz103_2 : wc.cell? ⟨gb634,2,none⟩ = some (.int .i64 x635002_32):=(bkC BK634.out 2).trans rfl
       have hfz103_0:=bkF BK634.out 0
       have hfz103_1:=bkF BK634.out 1
       have hfz103_2:=bkF BK634.out 2
       have hnb104:=NB635_631.out
       have hnc104:=NB631_635.out
       have hcz105_0 : wc.cell? ⟨gb635,0,none⟩ = some (.int .i64 x636000_32):=(bkC BK635.out 0).trans rfl
       have hcz105_1 : wc.cell? ⟨gb635,1,none⟩ = some (.int .i64 x636001_32):=(bkC BK635.out 1).trans rfl
       have hcz105_2 : wc.cell? ⟨gb635,2,none⟩ = some (.int .i64 x636002_32):=(bkC BK635.out 2).trans rfl
       have hfz105_0:=bkF BK635.out 0
       have hfz105_1:=bkF BK635.out 1
       have hfz105_2:=bkF BK635.out 2
       go_wp2_with (first |((with_reducible refine gate_dst (N:=17) rfl ?_);refine box_event ?hg (N:=17) ?hd (cs:=#[.int .i64 0,.int .i64 0,.int .i64 0]) (t:=39) ?hr ?_;(case hd=>rfl);(case hg=>rfl);(case hr=>first |(go_simp;done) |(go_simp;rfl));intro gb642 hg w106 hbox hb;have n0_:=Aside0.mk (Kd.R_below (by(with_reducible repeat(first | apply Kd.R_alloc | apply Kd.R_drewN | apply Kd.R_drew));exact HO_9.out) hb);have n1_:=Aside0.mk (Kd.R_below (Kd.R_elderB (by(with_reducible repeat(first | apply Kd.R_alloc | apply Kd.R_drewN | apply Kd.R_drew));exact HO_10.out) gb642 (Nat.le_of_eq hg.symm)) hb);have n2_:=Aside0.mk (bkB (g:=gb631) (o:=.cells #[.int .i64 x632000_32,.int .i64 x632001_32,.bool ((rd_T89 x9_1 x11_1).f2)] 89 (0,0)) (by(with_reducible repeat(first | refine bkN ?_ _ | refine bkD ?_ | refine bkA ?_ _));exact BK631.out) hb);have n3_:=Aside0.mk (bkB (g:=gb634) (o:=.cells #[.int .i64 x635000_32,.int .i64 x635001_32,.int .i64 x635002_32] 39 (0,0)) (by(with_reducible repeat(first | refine bkN ?_ _ | refine bkD ?_ | refine bkA ?_ _));exact BK634.out) hb);have n4_:=Aside0.mk (bkB (g:=gb635) (o:=.cells #[.int .i64 x636000_32,.int .i64 x636001_32,.int .i64 x636002_32] 39 (0,0)) (by(with_reducible repeat(first | refine bkN ?_ _ | refine bkD ?_ | refine bkA ?_ _));exact BK635.out) hb);have n5_:=Aside0.mk (bwT (by repeat(first |(with_reducible first | exact HB.out | apply bwA | apply bwN | apply bw1 | refine bwS ?_ GE631.out | refine bwS ?_ GE634.out | refine bwS ?_ GE635.out) | exact HB.out)) hb);have n6_:=Aside0.mk (hbox);have n7_:=Aside0.mk ((by rw [hg];exact(bwZ (by repeat(first |(with_reducible first | exact HB.out | apply bwA | apply bwN | apply bw1 | refine bwS ?_ GE631.out | refine bwS ?_ GE634.out | refine bwS ?_ GE635.out) | exact HB.out))) : w.heap.size≤gb642));have n8_:=Aside0.mk ((by rw [hg];exact(bwZ (by repeat(first |(with_reducible first | exact HB.out | apply bwA | apply bwN | apply bw1 | refine bwS ?_ GE631.out | refine bwS ?_ GE634.out | refine bwS ?_ GE635.out) | exact HB.out))) : w.heap.size≤gb642));have n9_:=Aside0.mk ((by rw [hg];exact Nat.ne_of_lt (blk_lt (g:=gb631) (o:=.cells #[.int .i64 x632000_32,.int .i64 x632001_32,.bool ((rd_T89 x9_1 x11_1).f2)] 89 (0,0)) (by(with_reducible repeat(first | refine bkN ?_ _ | refine bkD ?_ | refine bkA ?_ _));exact BK631.out)) : gb631≠gb642));have n10_:=Aside0.mk ((by rw [hg];exact Nat.ne_of_gt (blk_lt (g:=gb631) (o:=.cells #[.int .i64 x632000_32,.int .i64 x632001_32,.bool ((rd_T89 x9_1 x11_1).f2)] 89 (0,0)) (by(with_reducible repeat(first | refine bkN ?_ _ | refine bkD ?_ | refine bkA ?_ _));exact BK631.out)) : gb642≠gb631));have n11_:=Aside0.mk ((by rw [hg];exact Nat.ne_of_lt (blk_lt (g:=gb634) (o:=.cells #[.int .i64 x635000_32,.int .i64 x635001_32,.int .i64 x635002_32] 39 (0,0)) (by(with_reducible repeat(first | refine bkN ?_ _ | refine bkD ?_ | refine bkA ?_ _));exact BK634.out)) : gb634≠gb642));have n12_:=Aside0.mk ((by rw [hg];exact Nat.ne_of_gt (blk_lt (g:=gb634) (o:=.cells #[.int .i64 x635000_32,.int .i64 x635001_32,.int .i64 x635002_32] 39 (0,0)) (by(with_reducible repeat(first | refine bkN ?_ _ | refine bkD ?_ | refine bkA ?_ _));exact BK634.out)) : gb642≠gb634));have n13_:=Aside0.mk ((by rw [hg];exact Nat.ne_of_lt (blk_lt (g:=gb635) (o:=.cells #[.int .i64 x636000_32,.int .i64 x636001_32,.int .i64 x636002_32] 39 (0,0)) (by(with_reducible repeat(first | refine bkN ?_ _ | refine bkD ?_ | refine bkA ?_ _));exact BK635.out)) : gb635≠gb642));have n14_:=Aside0.mk ((by rw [hg];exact Nat.ne_of_gt (blk_lt (g:=gb635) (o:=.cells #[.int .i64 x636000_32,.int .i64 x636001_32,.int .i64 x636002_32] 39 (0,0)) (by(with_reducible repeat(first | refine bkN ?_ _ | refine bkD ?_ | refine bkA ?_ _));exact BK635.out)) : gb642≠gb635));clear HO_9;clear HO_10;clear BK631;clear BK634;clear BK635;clear HB;have HO_9:=n0_;have HO_10:=n1_;have BK631:=n2_;have BK634:=n3_;have BK635:=n4_;have HB:=n5_;have BK642:=n6_;have GW642:=n7_;have GE642:=n8_;have NB631_642:=n9_;have NB642_631:=n10_;have NB634_642:=n11_;have NB642_634:=n12_;have NB635_642:=n13_;have NB642_635:=n14_;clear n0_ n1_ n2_ n3_ n4_ n5_ n6_ n7_ n8_ n9_ n10_ n11_ n12_ n13_ n14_;clear hb hbox hg;have hnb107:=NB642_631.out;have hnc107:=NB631_642.out;have hnb108:=NB642_634.out;have hnc108:=NB634_642.out;have hnb109:=NB642_635.out;have hnc109:=NB635_642.out;have hcz110_0 : w106.cell? ⟨gb642,0,none⟩ = some (.int .i64 0):=(bkC BK642.out 0).trans rfl;have hcz110_1 : w106.cell? ⟨gb642,1,none⟩ = some (.int .i64 0):=(bkC BK642.out 1).trans rfl;have hcz110_2 : w106.cell? ⟨gb642,2,none⟩ = some (.int .i64 0):=(bkC BK642.out 2).trans rfl;have hfz110_0:=bkF BK642.out 0;have hfz110_1:=bkF BK642.out 1;have hfz110_2:=bkF BK642.out 2;have hcz111_0 : w106.cell? ⟨gb634,0,none⟩ = some (.int .i64 x635000_32):=(bkC BK634.out 0).trans rfl;have hcz111_1 : w106.cell? ⟨gb634,1,none⟩ = some (.int .i64 x635001_32):=(bkC BK634.out 1).trans rfl;have hcz111_2 : w106.cell? ⟨gb634,2,none⟩ = some (.int .i64 x635002_32):=(bkC BK634.out 2).trans rfl;have hfz111_0:=bkF BK634.out 0;have hfz111_1:=bkF BK634.out 1;have hfz111_2:=bkF BK634.out 2) |((with_reducible refine gate_builtin (b:=.append) (xs:=#[.tmp 132,.tmp 134]) rfl ?_);at_builtin;refine Kd.R_append k39 (w0:=w) w.heap.size rfl (.tmp 132) (.tmp 134) 22 39 (.agg #[(.int .i64 0),(.int .i64 0),(.int .i64 0)]) 24 rfl Try.underlying22 info39 rfl (by decide) (by omega) u10 x10_32 (⟨x635000_32,0,0⟩ : S39) [.int .i64 x635000_32,.int .i64 0,.int .i64 0] (fun k_=>k_≠gb634∧k_≠gb635∧k_≠gb642) (fun _=>False) rfl (by first |(go_simp;done) |(go_simp;rfl)) ?aP (fun _ hk=>hk.elim) ?aF ?aO ?aB ?aS ?aL ?_;(case aP=>exact k39_mkM _ _ _ (⟨x635000_32,0,0⟩ : S39));(case aB=>exact(by repeat(first |(with_reducible first | exact HB.out | apply bwA | apply bwN | apply bw1 | refine bwS ?_ GE631.out | refine bwS ?_ GE634.out | refine bwS ?_ GE635.out | refine bwS ?_ GE642.out) | exact HB.out)));(case aF=>exact(fun k_ hk=>⟨Kd.freshB (g:=gb634) (o:=.cells #[.int .i64 x635000_32,.int .i64 x635001_32,.int .i64 x635002_32] 39 (0,0)) (by(with_reducible repeat(first | refine bkN ?_ _ | refine bkD ?_ | refine bkA ?_ _));refine blk_far ?_ NB634_642.out _;(with_reducible repeat(first | refine bkN ?_ _ | refine bkD ?_ | refine bkA ?_ _));refine blk_far ?_ NB634_642.out _;(with_reducible repeat(first | refine bkN ?_ _ | refine bkD ?_ | refine bkA ?_ _));refine blk_far ?_ NB634_642.out _;(with_reducible repeat(first | refine bkN ?_ _ | refine bkD ?_ | refine bkA ?_ _));exact BK634.out) k_ hk,Kd.freshB (g:=gb635) (o:=.cells #[.int .i64 x636000_32,.int .i64 x636001_32,.int .i64 x636002_32] 39 (0,0)) (by(with_reducible repeat(first | refine bkN ?_ _ | refine bkD ?_ | refine bkA ?_ _));refine blk_far ?_ NB635_642.out _;(with_reducible repeat(first | refine bkN ?_ _ | refine bkD ?_ | refine bkA ?_ _));refine blk_far ?_ NB635_642.out _;(with_reducible repeat(first | refine bkN ?_ _ | refine bkD ?_ | refine bkA ?_ _));refine blk_far ?_ NB635_642.out _;(with_reducible repeat(first | refine bkN ?_ _ | refine bkD ?_ | refine bkA ?_ _));exact BK635.out) k_ hk,Kd.freshB (g:=gb642) (o:=.cells #[.int .i64 x635000_32,.int .i64 0,.int .i64 0] 39 (0,0)) (by(with_reducible repeat(first | refine bkN ?_ _ | refine bkD ?_ | refine bkA ?_ _));refine blk_put (cs:=#[.int .i64 x635000_32,.int .i64 0,.int .i64 0]) ?_ 2 _ rfl;(with_reducible repeat(first | refine bkN ?_ _ | refine bkD ?_ | refine bkA ?_ _));refine blk_put (cs:=#[.int .i64 x635000_32,.int .i64 0,.int .i64 0]) ?_ 1 _ rfl;(with_reducible repeat(first | refine bkN ?_ _ | refine bkD ?_ | refine bkA ?_ _));refine blk_put (cs:=#[.int .i64 0,.int .i64 0,.int .i64 0]) ?_ 0 _ rfl;(with_reducible repeat(first | refine bkN ?_ _ | refine bkD ?_ | refine bkA ?_ _));exact BK642.out) k_ hk⟩));(case aO=>exact(by(with_reducible repeat(first | apply Kd.R_alloc | apply Kd.R_drewN | apply Kd.R_drew));exact Kd.R_mono (Kd.R_far (p:=⟨gb642,2,none⟩) (Kd.R_far (p:=⟨gb642,1,none⟩) (Kd.R_far (p:=⟨gb642,0,none⟩) (Kd.R_mono HO_10.out (fun k_ hk=>(⟨hk,hk.2⟩ : _∧k_≠gb642))) (fun _ hk=>hk.2) (.int .i64 x635000_32)) (fun _ hk=>hk.2) (.int .i64 0)) (fun _ hk=>hk.2) (.int .i64 0)) (fun _ hk=>⟨hk.1.1.1,⟨hk.1.1.2,hk.1.2⟩⟩)));(case aS=>exact(bwZ (by repeat(first |(with_reducible first | exact HB.out | apply bwA | apply bwN | apply bw1 | refine bwS ?_ GE631.out | refine bwS ?_ GE634.out | refine bwS ?_ GE635.out | refine bwS ?_ GE642.out) | exact HB.out))));(case aL=>have:=LMc100.out;omega);intro v656 w112 ho hb hg hat;rw [← Ny655.out] at ho;have n0_:=Aside0.mk (Kd.R_over' (by(with_reducible repeat(first | apply Kd.R_alloc | apply Kd.R_drewN | apply Kd.R_drew));exact(Kd.R_mono (Kd.R_far (p:=⟨gb642,2,none⟩) (Kd.R_far (p:=⟨gb642,1,none⟩) (Kd.R_far (p:=⟨gb642,0,none⟩) (Kd.R_types HO_9.out BK642.out (by decide)) (fun _ hk=>hk.2) (.int .i64 x635000_32)) (fun _ hk=>hk.2) (.int .i64 0)) (fun _ hk=>hk.2) (.int .i64 0)) (fun _ h_=>h_.1))) (Kd.R_typed (by(with_reducible repeat(first | apply Kd.R_alloc | apply Kd.R_drewN | apply Kd.R_drew));exact(Kd.R_mono (Kd.R_far (p:=⟨gb642,2,none⟩) (Kd.R_far (p:=⟨gb642,1,none⟩) (Kd.R_far (p:=⟨gb642,0,none⟩) (Kd.R_mono HO_10.out (fun k_ hk=>(⟨hk,hk.2⟩ : _∧k_≠gb642))) (fun _ hk=>hk.2) (.int .i64 x635000_32)) (fun _ hk=>hk.2) (.int .i64 0)) (fun _ hk=>hk.2) (.int .i64 0)) (fun _ h_=>h_.1)))) (by decide) hg);have n1_:=Aside0.mk (blk_grown (g:=gb631) (o:=.cells #[.int .i64 x632000_32,.int .i64 x632001_32,.bool ((rd_T89 x9_1 x11_1).f2)] 89 (0,0)) (by(with_reducible repeat(first | refine bkN ?_ _ | refine bkD ?_ | refine bkA ?_ _));refine blk_far ?_ NB631_642.out _;(with_reducible repeat(first | refine bkN ?_ _ | refine bkD ?_ | refine bkA ?_ _));refine blk_far ?_ NB631_642.out _;(with_reducible repeat(first | refine bkN ?_ _ | refine bkD ?_ | refine bkA ?_ _));refine blk_far ?_ NB631_642.out _;(with_reducible repeat(first | refine bkN ?_ _ | refine bkD ?_ | refine bkA ?_ _));exact BK631.out) hg (Kd.R_ne HO_10.out BK631.out (by decide)));have n2_:=Aside0.mk (blk_grown (g:=gb634) (o:=.cells #[.int .i64 x635000_32,.int .i64 x635001_32,.int .i64 x635002_32] 39 (0,0)) (by(with_reducible repeat(first | refine bkN ?_ _ | refine bkD ?_ | refine bkA ?_ _));refine blk_far ?_ NB634_642.out _;(with_reducible repeat(first | refine bkN ?_ _ | refine bkD ?_ | refine bkA ?_ _));refine blk_far ?_ NB634_642.out _;(with_reducible repeat(first | refine bkN ?_ _ | refine bkD ?_ | refine bkA ?_ _));refine blk_far ?_ NB634_642.out _;(with_reducible repeat(first | refine bkN ?_ _ | refine bkD ?_ | refine bkA ?_ _));exact BK634.out) hg (Kd.R_away HO_10.out (fun _ hk=>hk.1.1)));have n3_:=Aside0.mk (blk_grown (g:=gb635) (o:=.cells #[.int .i64 x636000_32,.int .i64 x636001_32,.int .i64 x636002_32] 39 (0,0)) (by(with_reducible repeat(first | refine bkN ?_ _ | refine bkD ?_ | refine bkA ?_ _));refine blk_far ?_ NB635_642.out _;(with_reducible repeat(first | refine bkN ?_ _ | refine bkD ?_ | refine bkA ?_ _));refine blk_far ?_ NB635_642.out _;(with_reducible repeat(first | refine bkN ?_ _ | refine bkD ?_ | refine bkA ?_ _));refine blk_far ?_ NB635_642.out _;(with_reducible repeat(first | refine bkN ?_ _ | refine bkD ?_ | refine bkA ?_ _));exact BK635.out) hg (Kd.R_away HO_10.out (fun _ hk=>hk.1.2)));have n4_:=Aside0.mk (blk_grown (g:=gb642) (o:=.cells #[.int .i64 x635000_32,.int .i64 0,.int .i64 0] 39 (0,0)) (by(with_reducible repeat(first | refine bkN ?_ _ | refine bkD ?_ | refine bkA ?_ _));refine blk_put (cs:=#[.int .i64 x635000_32,.int .i64 0,.int .i64 0]) ?_ 2 _ rfl;(with_reducible repeat(first | refine bkN ?_ _ | refine bkD ?_ | refine bkA ?_ _));refine blk_put (cs:=#[.int .i64 x635000_32,.int .i64 0,.int .i64 0]) ?_ 1 _ rfl;(with_reducible repeat(first | refine bkN ?_ _ | refine bkD ?_ | refine bkA ?_ _));refine blk_put (cs:=#[.int .i64 0,.int .i64 0,.int .i64 0]) ?_ 0 _ rfl;(with_reducible repeat(first | refine bkN ?_ _ | refine bkD ?_ | refine bkA ?_ _));exact BK642.out) hg (Kd.R_away HO_10.out (fun _ hk=>hk.2)));have n5_:=Aside0.mk (hb);have n6_:=Aside0.mk (ho);clear HO_9;clear BK631;clear BK634;clear BK635;clear BK642;clear HB;clear HO_10;have HO_9:=n0_;have BK631:=n1_;have BK634:=n2_;have BK635:=n3_;have BK642:=n4_;have HB:=n5_;have HO657:=n6_;clear n0_ n1_ n2_ n3_ n4_ n5_ n6_;clear ho hb hg hat))
       go_roundg kj32
       case measure=>have:=HK1.out;have:=HJ12.out;have:=HJ32.out;omega
       exact⟨(x9_1),(y655),(wrap64 (x11_1 + 1)),(by first | rfl |(simp;done) |(simp [*];done)),H',⟨by have:=HK1.out;have:=HJ12.out;have:=HJ32.out;omega⟩,⟨by(with_reducible repeat(first | apply Kd.R_alloc | apply Kd.R_drewN | apply Kd.R_drew));exact Kd.R_mono HO_9.out (fun _ hk=>trivial)⟩,⟨by(with_reducible repeat(first | apply Kd.R_alloc | apply Kd.R_drewN | apply Kd.R_drew));exact Kd.R_mono HO657.out (fun _ hk=>trivial)⟩,⟨by repeat(first |(with_reducible first | exact HB.out | apply bwA | apply bwN | apply bw1 | refine bwS ?_ GE631.out | refine bwS ?_ GE634.out | refine bwS ?_ GE635.out | refine bwS ?_ GE642.out) | exact HB.out)⟩⟩
      rw [if_pos c67] at H
      have c67b0 : decide (4≤x635000_32) = true:=decide_eq_true c67
      clear c67
      replace H:=Option.bind_eq_some_iff.mp H
      obtain ⟨⟨t644,t647⟩,A680,H⟩:=H
      replace H :((q06_asked.f kj32 t644 x635002_32 x636002_32 ((rd_T89 x9_1 x11_1).f2)).bind fun bt648=>(if x10_32.length < 5864062014805 then(q06_Bound.l0 kj32 l0 bt648.1 (x10_32 ++ [(⟨x635000_32,t647,bt648.2⟩ : S39)]) (wrap64 (x11_1 + 1))) else(none))) = some r:=H
      have A68:=Aside0.mk A680
      clear A680
      replace H:=Option.bind_eq_some_iff.mp H
      obtain ⟨⟨t648,t651⟩,A690,H⟩:=H
      replace H :(if x10_32.length < 5864062014805 then(q06_Bound.l0 kj32 l0 t648 (x10_32 ++ [(⟨x635000_32,t647,t651⟩ : S39)]) (wrap64 (x11_1 + 1))) else(none)) = some r:=H
      have A69:=Aside0.mk A690
      clear A690
      by_cases c70 : x10_32.length < 5864062014805
      rotate_left
      ·rw [if_neg c70] at H
       exact absurd H (by simp)
      rw [if_pos c70] at H
      have LMc70:=Aside0.mk c70
      clear c70
      obtain ⟨y652,hy652⟩ : ∃ y_ : List (S39),y_ =(x10_32 ++ [(⟨x635000_32,t647,t651⟩ : S39)]):=⟨_,rfl⟩
      replace H :(q06_Bound.l0 kj32 l0 t648 y652 (wrap64 (x11_1 + 1))) = some r:=by first |(rw [hy652];with_reducible exact H) |(have H2_:=(Option.bind_some _ _).symm.trans H;rw [hy652];with_reducible exact H2_) |(have H2_:=(Option.bind_some _ _).symm.trans H;with_reducible exact H2_) | with_reducible exact H |(rw [hy652];exact H) | exact H
      have Ny652:=Aside0.mk hy652
      clear hy652
      have H':=Aside0.mk H
      clear H
      have hnb71:=NB634_631.out
      have hnc71:=NB631_634.out
      have hnb72:=NB634_635.out
      have hnc72:=NB635_634.out
      have hcz73_0 : wc.cell? ⟨gb634,0,none⟩ = some (.int .i64 x635000_32):=(bkC BK634.out 0).trans rfl
      have hcz73_1 : wc.cell? ⟨gb634,1,none⟩ = some (.int .i64 x635001_32):=(bkC BK634.out 1).trans rfl
      have hcz73_2 : wc.cell? ⟨gb634,2,none⟩ = some (.int .i64 x635002_32):=(bkC BK634.out 2).trans rfl
      have hfz73_0:=bkF BK634.out 0
      have hfz73_1:=bkF BK634.out 1
      have hfz73_2:=bkF BK634.out 2
      have hnb74:=NB635_631.out
      have hnc74:=NB631_635.out
      have hcz75_0 : wc.cell? ⟨gb635,0,none⟩ = some (.int .i64 x636000_32):=(bkC BK635.out 0).trans rfl
      have hcz75_1 : wc.cell? ⟨gb635,1,none⟩ = some (.int .i64 x636001_32):=(bkC BK635.out 1).trans rfl
      have hcz75_2 : wc.cell? ⟨gb635,2,none⟩ = some (.int .i64 x636002_32):=(bkC BK635.out 2).trans rfl
      have hfz75_0:=bkF BK635.out 0
      have hfz75_1:=bkF BK635.out 1
      have hfz75_2:=bkF BK635.out 2
      go_wp2_with (first |((with_reducible refine gate_dst (N:=17) rfl ?_);refine box_event ?hg (N:=17) ?hd (cs:=#[.int .i64 0,.int .i64 0,.int .i64 0]) (t:=39) ?hr ?_;(case hd=>rfl);(case hg=>rfl);(case hr=>first |(go_simp;done) |(go_simp;rfl));intro gb642 hg w76 hbox hb;have n0_:=Aside0.mk (Kd.R_below (by(with_reducible repeat(first | apply Kd.R_alloc | apply Kd.R_drewN | apply Kd.R_drew));exact HO_9.out) hb);have n1_:=Aside0.mk (Kd.R_below (Kd.R_elderB (by(with_reducible repeat(first | apply Kd.R_alloc | apply Kd.R_drewN | apply Kd.R_drew));exact HO_10.out) gb642 (Nat.le_of_eq hg.symm)) hb);have n2_:=Aside0.mk (bkB (g:=gb631) (o:=.cells #[.int .i64 x632000_32,.int .i64 x632001_32,.bool ((rd_T89 x9_1 x11_1).f2)] 89 (0,0)) (by(with_reducible repeat(first | refine bkN ?_ _ | refine bkD ?_ | refine bkA ?_ _));exact BK631.out) hb);have n3_:=Aside0.mk (bkB (g:=gb634) (o:=.cells #[.int .i64 x635000_32,.int .i64 x635001_32,.int .i64 x635002_32] 39 (0,0)) (by(with_reducible repeat(first | refine bkN ?_ _ | refine bkD ?_ | refine bkA ?_ _));exact BK634.out) hb);have n4_:=Aside0.mk (bkB (g:=gb635) (o:=.cells #[.int .i64 x636000_32,.int .i64 x636001_32,.int .i64 x636002_32] 39 (0,0)) (by(with_reducible repeat(first | refine bkN ?_ _ | refine bkD ?_ | refine bkA ?_ _));exact BK635.out) hb);have n5_:=Aside0.mk (bwT (by repeat(first |(with_reducible first | exact HB.out | apply bwA | apply bwN | apply bw1 | refine bwS ?_ GE631.out | refine bwS ?_ GE634.out | refine bwS ?_ GE635.out) | exact HB.out)) hb);have n6_:=Aside0.mk (hbox);have n7_:=Aside0.mk ((by rw [hg];exact(bwZ (by repeat(first |(with_reducible first | exact HB.out | apply bwA | apply bwN | apply bw1 | refine bwS ?_ GE631.out | refine bwS ?_ GE634.out | refine bwS ?_ GE635.out) | exact HB.out))) : w.heap.size≤gb642));have n8_:=Aside0.mk ((by rw [hg];exact(bwZ (by repeat(first |(with_reducible first | exact HB.out | apply bwA | apply bwN | apply bw1 | refine bwS ?_ GE631.out | refine bwS ?_ GE634.out | refine bwS ?_ GE635.out) | exact HB.out))) : w.heap.size≤gb642));have n9_:=Aside0.mk ((by rw [hg];exact Nat.ne_of_lt (blk_lt (g:=gb631) (o:=.cells #[.int .i64 x632000_32,.int .i64 x632001_32,.bool ((rd_T89 x9_1 x11_1).f2)] 89 (0,0)) (by(with_reducible repeat(first | refine bkN ?_ _ | refine bkD ?_ | refine bkA ?_ _));exact BK631.out)) : gb631≠gb642));have n10_:=Aside0.mk ((by rw [hg];exact Nat.ne_of_gt (blk_lt (g:=gb631) (o:=.cells #[.int .i64 x632000_32,.int .i64 x632001_32,.bool ((rd_T89 x9_1 x11_1).f2)] 89 (0,0)) (by(with_reducible repeat(first | refine bkN ?_ _ | refine bkD ?_ | refine bkA ?_ _));exact BK631.out)) : gb642≠gb631));have n11_:=Aside0.mk ((by rw [hg];exact Nat.ne_of_lt (blk_lt (g:=gb634) (o:=.cells #[.int .i64 x635000_32,.int .i64 x635001_32,.int .i64 x635002_32] 39 (0,0)) (by(with_reducible repeat(first | refine bkN ?_ _ | refine bkD ?_ | refine bkA ?_ _));exact BK634.out)) : gb634≠gb642));have n12_:=Aside0.mk ((by rw [hg];exact Nat.ne_of_gt (blk_lt (g:=gb634) (o:=.cells #[.int .i64 x635000_32,.int .i64 x635001_32,.int .i64 x635002_32] 39 (0,0)) (by(with_reducible repeat(first | refine bkN ?_ _ | refine bkD ?_ | refine bkA ?_ _));exact BK634.out)) : gb642≠gb634));have n13_:=Aside0.mk ((by rw [hg];exact Nat.ne_of_lt (blk_lt (g:=gb635) (o:=.cells #[.int .i64 x636000_32,.int .i64 x636001_32,.int .i64 x636002_32] 39 (0,0)) (by(with_reducible repeat(first | refine bkN ?_ _ | refine bkD ?_ | refine bkA ?_ _));exact BK635.out)) : gb635≠gb642));have n14_:=Aside0.mk ((by rw [hg];exact Nat.ne_of_gt (blk_lt (g:=gb635) (o:=.cells #[.int .i64 x636000_32,.int .i64 x636001_32,.int .i64 x636002_32] 39 (0,0)) (by(with_reducible repeat(first | refine bkN ?_ _ | refine bkD ?_ | refine bkA ?_ _));exact BK635.out)) : gb642≠gb635));clear HO_9;clear HO_10;clear BK631;clear BK634;clear BK635;clear HB;have HO_9:=n0_;have HO_10:=n1_;have BK631:=n2_;have BK634:=n3_;have BK635:=n4_;have HB:=n5_;have BK642:=n6_;have GW642:=n7_;have GE642:=n8_;have NB631_642:=n9_;have NB642_631:=n10_;have NB634_642:=n11_;have NB642_634:=n12_;have NB635_642:=n13_;have NB642_635:=n14_;clear n0_ n1_ n2_ n3_ n4_ n5_ n6_ n7_ n8_ n9_ n10_ n11_ n12_ n13_ n14_;clear hb hbox hg;have hnb77:=NB642_631.out;have hnc77:=NB631_642.out;have hnb78:=NB642_634.out;have hnc78:=NB634_642.out;have hnb79:=NB642_635.out;have hnc79:=NB635_642.out;have hcz80_0 : w76.cell? ⟨gb642,0,none⟩ = some (.int .i64 0):=(bkC BK642.out 0).trans rfl;have hcz80_1 : w76.cell? ⟨gb642,1,none⟩ = some (.int .i64 0):=(bkC BK642.out 1).trans rfl;have hcz80_2 : w76.cell? ⟨gb642,2,none⟩ = some (.int .i64 0):=(bkC BK642.out 2).trans rfl;have hfz80_0:=bkF BK642.out 0;have hfz80_1:=bkF BK642.out 1;have hfz80_2:=bkF BK642.out 2;have hcz81_0 : w76.cell? ⟨gb634,0,none⟩ = some (.int .i64 x635000_32):=(bkC BK634.out 0).trans rfl;have hcz81_1 : w76.cell? ⟨gb634,1,none⟩ = some (.int .i64 x635001_32):=(bkC BK634.out 1).trans rfl;have hcz81_2 : w76.cell? ⟨gb634,2,none⟩ = some (.int .i64 x635002_32):=(bkC BK634.out 2).trans rfl;have hfz81_0:=bkF BK634.out 0;have hfz81_1:=bkF BK634.out 1;have hfz81_2:=bkF BK634.out 2;have hcz82_0 : w76.cell? ⟨gb635,0,none⟩ = some (.int .i64 x636000_32):=(bkC BK635.out 0).trans rfl;have hcz82_1 : w76.cell? ⟨gb635,1,none⟩ = some (.int .i64 x636001_32):=(bkC BK635.out 1).trans rfl;have hcz82_2 : w76.cell? ⟨gb635,2,none⟩ = some (.int .i64 x636002_32):=(bkC BK635.out 2).trans rfl;have hfz82_0:=bkF BK635.out 0;have hfz82_1:=bkF BK635.out 1;have hfz82_2:=bkF BK635.out 2;have hcz83_0 : w76.cell? ⟨gb631,0,none⟩ = some (.int .i64 x632000_32):=(bkC BK631.out 0).trans rfl;have hcz83_1 : w76.cell? ⟨gb631,1,none⟩ = some (.int .i64 x632001_32):=(bkC BK631.out 1).trans rfl;have hcz83_2 : w76.cell? ⟨gb631,2,none⟩ = some (.bool ((rd_T89 x9_1 x11_1).f2)):=(bkC BK631.out 2).trans rfl;have hfz83_0:=bkF BK631.out 0;have hfz83_1:=bkF BK631.out 1;have hfz83_2:=bkF BK631.out 2) |((with_reducible refine gate_dst (N:=18) rfl ?_);refine box_event ?hg (N:=18) ?hd (cs:=#[.int .i64 0,.int .i64 0,.bool false]) (t:=89) ?hr ?_;(case hd=>rfl);(case hg=>rfl);(case hr=>first |(go_simp;done) |(go_simp;rfl));intro gb643 hg w84 hbox hb;have n0_:=Aside0.mk (Kd.R_below (Kd.R_elderB (by(with_reducible repeat(first | apply Kd.R_alloc | apply Kd.R_drewN | apply Kd.R_drew));exact(Kd.R_mono (Kd.R_far (p:=⟨gb642,2,none⟩) (Kd.R_far (p:=⟨gb642,1,none⟩) (Kd.R_far (p:=⟨gb642,0,none⟩) (Kd.R_types HO_9.out BK642.out (by decide)) (fun _ hk=>hk.2) (.int .i64 x635000_32)) (fun _ hk=>hk.2) (.int .i64 0)) (fun _ hk=>hk.2) (.int .i64 0)) (fun _ h_=>h_.1))) gb643 (Nat.le_of_eq hg.symm)) hb);have n1_:=Aside0.mk (Kd.R_below (by(with_reducible repeat(first | apply Kd.R_alloc | apply Kd.R_drewN | apply Kd.R_drew));exact(Kd.R_mono (Kd.R_far (p:=⟨gb642,2,none⟩) (Kd.R_far (p:=⟨gb642,1,none⟩) (Kd.R_far (p:=⟨gb642,0,none⟩) (Kd.R_mono HO_10.out (fun k_ hk=>(⟨hk,hk.2⟩ : _∧k_≠gb642))) (fun _ hk=>hk.2) (.int .i64 x635000_32)) (fun _ hk=>hk.2) (.int .i64 0)) (fun _ hk=>hk.2) (.int .i64 0)) (fun _ h_=>h_.1))) hb);have n2_:=Aside0.mk (bkB (g:=gb631) (o:=.cells #[.int .i64 x632000_32,.int .i64 x632001_32,.bool ((rd_T89 x9_1 x11_1).f2)] 89 (0,0)) (by(with_reducible repeat(first | refine bkN ?_ _ | refine bkD ?_ | refine bkA ?_ _));refine blk_far ?_ NB631_642.out _;(with_reducible repeat(first | refine bkN ?_ _ | refine bkD ?_ | refine bkA ?_ _));refine blk_far ?_ NB631_642.out _;(with_reducible repeat(first | refine bkN ?_ _ | refine bkD ?_ | refine bkA ?_ _));refine blk_far ?_ NB631_642.out _;(with_reducible repeat(first | refine bkN ?_ _ | refine bkD ?_ | refine bkA ?_ _));exact BK631.out) hb);have n3_:=Aside0.mk (bkB (g:=gb634) (o:=.cells #[.int .i64 x635000_32,.int .i64 x635001_32,.int .i64 x635002_32] 39 (0,0)) (by(with_reducible repeat(first | refine bkN ?_ _ | refine bkD ?_ | refine bkA ?_ _));refine blk_far ?_ NB634_642.out _;(with_reducible repeat(first | refine bkN ?_ _ | refine bkD ?_ | refine bkA ?_ _));refine blk_far ?_ NB634_642.out _;(with_reducible repeat(first | refine bkN ?_ _ | refine bkD ?_ | refine bkA ?_ _));refine blk_far ?_ NB634_642.out _;(with_reducible repeat(first | refine bkN ?_ _ | refine bkD ?_ | refine bkA ?_ _));exact BK634.out) hb);have n4_:=Aside0.mk (bkB (g:=gb635) (o:=.cells #[.int .i64 x636000_32,.int .i64 x636001_32,.int .i64 x636002_32] 39 (0,0)) (by(with_reducible repeat(first | refine bkN ?_ _ | refine bkD ?_ | refine bkA ?_ _));refine blk_far ?_ NB635_642.out _;(with_reducible repeat(first | refine bkN ?_ _ | refine bkD ?_ | refine bkA ?_ _));refine blk_far ?_ NB635_642.out _;(with_reducible repeat(first | refine bkN ?_ _ | refine bkD ?_ | refine bkA ?_ _));refine blk_far ?_ NB635_642.out _;(with_reducible repeat(first | refine bkN ?_ _ | refine bkD ?_ | refine bkA ?_ _));exact BK635.out) hb);have n5_:=Aside0.mk (bkB (g:=gb642) (o:=.cells #[.int .i64 x635000_32,.int .i64 0,.int .i64 0] 39 (0,0)) (by(with_reducible repeat(first | refine bkN ?_ _ | refine bkD ?_ | refine bkA ?_ _));refine blk_put (cs:=#[.int .i64 x635000_32,.int .i64 0,.int .i64 0]) ?_ 2 _ rfl;(with_reducible repeat(first | refine bkN ?_ _ | refine bkD ?_ | refine bkA ?_ _));refine blk_put (cs:=#[.int .i64 x635000_32,.int .i64 0,.int .i64 0]) ?_ 1 _ rfl;(with_reducible repeat(first | refine bkN ?_ _ | refine bkD ?_ | refine bkA ?_ _));refine blk_put (cs:=#[.int .i64 0,.int .i64 0,.int .i64 0]) ?_ 0 _ rfl;(with_reducible repeat(first | refine bkN ?_ _ | refine bkD ?_ | refine bkA ?_ _));exact BK642.out) hb);have n6_:=Aside0.mk (bwT (by repeat(first |(with_reducible first | exact HB.out | apply bwA | apply bwN | apply bw1 | refine bwS ?_ GE631.out | refine bwS ?_ GE634.out | refine bwS ?_ GE635.out | refine bwS ?_ GE642.out) | exact HB.out)) hb);have n7_:=Aside0.mk (hbox);have n8_:=Aside0.mk ((by rw [hg];exact(bwZ (by repeat(first |(with_reducible first | exact HB.out | apply bwA | apply bwN | apply bw1 | refine bwS ?_ GE631.out | refine bwS ?_ GE634.out | refine bwS ?_ GE635.out | refine bwS ?_ GE642.out) | exact HB.out))) : w.heap.size≤gb643));have n9_:=Aside0.mk ((by rw [hg];exact(bwZ (by repeat(first |(with_reducible first | exact HB.out | apply bwA | apply bwN | apply bw1 | refine bwS ?_ GE631.out | refine bwS ?_ GE634.out | refine bwS ?_ GE635.out | refine bwS ?_ GE642.out) | exact HB.out))) : w.heap.size≤gb643));have n10_:=Aside0.mk ((by rw [hg];exact Nat.ne_of_lt (blk_lt (g:=gb631) (o:=.cells #[.int .i64 x632000_32,.int .i64 x632001_32,.bool ((rd_T89 x9_1 x11_1).f2)] 89 (0,0)) (by(with_reducible repeat(first | refine bkN ?_ _ | refine bkD ?_ | refine bkA ?_ _));refine blk_far ?_ NB631_642.out _;(with_reducible repeat(first | refine bkN ?_ _ | refine bkD ?_ | refine bkA ?_ _));refine blk_far ?_ NB631_642.out _;(with_reducible repeat(first | refine bkN ?_ _ | refine bkD ?_ | refine bkA ?_ _));refine blk_far ?_ NB631_642.out _;(with_reducible repeat(first | refine bkN ?_ _ | refine bkD ?_ | refine bkA ?_ _));exact BK631.out)) : gb631≠gb643));have n11_:=Aside0.mk ((by rw [hg];exact Nat.ne_of_gt (blk_lt (g:=gb631) (o:=.cells #[.int .i64 x632000_32,.int .i64 x632001_32,.bool ((rd_T89 x9_1 x11_1).f2)] 89 (0,0)) (by(with_reducible repeat(first | refine bkN ?_ _ | refine bkD ?_ | refine bkA ?_ _));refine blk_far ?_ NB631_642.out _;(with_reducible repeat(first | refine bkN ?_ _ | refine bkD ?_ | refine bkA ?_ _));refine blk_far ?_ NB631_642.out _;(with_reducible repeat(first | refine bkN ?_ _ | refine bkD ?_ | refine bkA ?_ _));refine blk_far ?_ NB631_642.out _;(with_reducible repeat(first | refine bkN ?_ _ | refine bkD ?_ | refine bkA ?_ _));exact BK631.out)) : gb643≠gb631));have n12_:=Aside0.mk ((by rw [hg];exact Nat.ne_of_lt (blk_lt (g:=gb634) (o:=.cells #[.int .i64 x635000_32,.int .i64 x635001_32,.int .i64 x635002_32] 39 (0,0)) (by(with_reducible repeat(first | refine bkN ?_ _ | refine bkD ?_ | refine bkA ?_ _));refine blk_far ?_ NB634_642.out _;(with_reducible repeat(first | refine bkN ?_ _ | refine bkD ?_ | refine bkA ?_ _));refine blk_far ?_ NB634_642.out _;(with_reducible repeat(first | refine bkN ?_ _ | refine bkD ?_ | refine bkA ?_ _));refine blk_far ?_ NB634_642.out _;(with_reducible repeat(first | refine bkN ?_ _ | refine bkD ?_ | refine bkA ?_ _));exact BK634.out)) : gb634≠gb643));have n13_:=Aside0.mk ((by rw [hg];exact Nat.ne_of_gt (blk_lt (g:=gb634) (o:=.cells #[.int .i64 x635000_32,.int .i64 x635001_32,.int .i64 x635002_32] 39 (0,0)) (by(with_reducible repeat(first | refine bkN ?_ _ | refine bkD ?_ | refine bkA ?_ _));refine blk_far ?_ NB634_642.out _;(with_reducible repeat(first | refine bkN ?_ _ | refine bkD ?_ | refine bkA ?_ _));refine blk_far ?_ NB634_642.out _;(with_reducible repeat(first | refine bkN ?_ _ | refine bkD ?_ | refine bkA ?_ _));refine blk_far ?_ NB634_642.out _;(with_reducible repeat(first | refine bkN ?_ _ | refine bkD ?_ | refine bkA ?_ _));exact BK634.out)) : gb643≠gb634));have n14_:=Aside0.mk ((by rw [hg];exact Nat.ne_of_lt (blk_lt (g:=gb635) (o:=.cells #[.int .i64 x636000_32,.int .i64 x636001_32,.int .i64 x636002_32] 39 (0,0)) (by(with_reducible repeat(first | refine bkN ?_ _ | refine bkD ?_ | refine bkA ?_ _));refine blk_far ?_ NB635_642.out _;(with_reducible repeat(first | refine bkN ?_ _ | refine bkD ?_ | refine bkA ?_ _));refine blk_far ?_ NB635_642.out _;(with_reducible repeat(first | refine bkN ?_ _ | refine bkD ?_ | refine bkA ?_ _));refine blk_far ?_ NB635_642.out _;(with_reducible repeat(first | refine bkN ?_ _ | refine bkD ?_ | refine bkA ?_ _));exact BK635.out)) : gb635≠gb643));have n15_:=Aside0.mk ((by rw [hg];exact Nat.ne_of_gt (blk_lt (g:=gb635) (o:=.cells #[.int .i64 x636000_32,.int .i64 x636001_32,.int .i64 x636002_32] 39 (0,0)) (by(with_reducible repeat(first | refine bkN ?_ _ | refine bkD ?_ | refine bkA ?_ _));refine blk_far ?_ NB635_642.out _;(with_reducible repeat(first | refine bkN ?_ _ | refine bkD ?_ | refine bkA ?_ _));refine blk_far ?_ NB635_642.out _;(with_reducible repeat(first | refine bkN ?_ _ | refine bkD ?_ | refine bkA ?_ _));refine blk_far ?_ NB635_642.out _;(with_reducible repeat(first | refine bkN ?_ _ | refine bkD ?_ | refine bkA ?_ _));exact BK635.out)) : gb643≠gb635));have n16_:=Aside0.mk ((by rw [hg];exact Nat.ne_of_lt (blk_lt (g:=gb642) (o:=.cells #[.int .i64 x635000_32,.int .i64 0,.int .i64 0] 39 (0,0)) (by(with_reducible repeat(first | refine bkN ?_ _ | refine bkD ?_ | refine bkA ?_ _));refine blk_put (cs:=#[.int .i64 x635000_32,.int .i64 0,.int .i64 0]) ?_ 2 _ rfl;(with_reducible repeat(first | refine bkN ?_ _ | refine bkD ?_ | refine bkA ?_ _));refine blk_put (cs:=#[.int .i64 x635000_32,.int .i64 0,.int .i64 0]) ?_ 1 _ rfl;(with_reducible repeat(first | refine bkN ?_ _ | refine bkD ?_ | refine bkA ?_ _));refine blk_put (cs:=#[.int .i64 0,.int .i64 0,.int .i64 0]) ?_ 0 _ rfl;(with_reducible repeat(first | refine bkN ?_ _ | refine bkD ?_ | refine bkA ?_ _));exact BK642.out)) : gb642≠gb643));have n17_:=Aside0.mk ((by rw [hg];exact Nat.ne_of_gt (blk_lt (g:=gb642) (o:=.cells #[.int .i64 x635000_32,.int .i64 0,.int .i64 0] 39 (0,0)) (by(with_reducible repeat(first | refine bkN ?_ _ | refine bkD ?_ | refine bkA ?_ _));refine blk_put (cs:=#[.int .i64 x635000_32,.int .i64 0,.int .i64 0]) ?_ 2 _ rfl;(with_reducible repeat(first | refine bkN ?_ _ | refine bkD ?_ | refine bkA ?_ _));refine blk_put (cs:=#[.int .i64 x635000_32,.int .i64 0,.int .i64 0]) ?_ 1 _ rfl;(with_reducible repeat(first | refine bkN ?_ _ | refine bkD ?_ | refine bkA ?_ _));refine blk_put (cs:=#[.int .i64 0,.int .i64 0,.int .i64 0]) ?_ 0 _ rfl;(with_reducible repeat(first | refine bkN ?_ _ | refine bkD ?_ | refine bkA ?_ _));exact BK642.out)) : gb643≠gb642));clear HO_9;clear HO_10;clear BK631;clear BK634;clear BK635;clear BK642;clear HB;have HO_9:=n0_;have HO_10:=n1_;have BK631:=n2_;have BK634:=n3_;have BK635:=n4_;have BK642:=n5_;have HB:=n6_;have BK643:=n7_;have GW643:=n8_;have GE643:=n9_;have NB631_643:=n10_;have NB643_631:=n11_;have NB634_643:=n12_;have NB643_634:=n13_;have NB635_643:=n14_;have NB643_635:=n15_;have NB642_643:=n16_;have NB643_642:=n17_;clear n0_ n1_ n2_ n3_ n4_ n5_ n6_ n7_ n8_ n9_ n10_ n11_ n12_ n13_ n14_ n15_ n16_ n17_;clear hb hbox hg;have hnb85:=NB643_631.out;have hnc85:=NB631_643.out;have hnb86:=NB643_634.out;have hnc86:=NB634_643.out;have hnb87:=NB643_635.out;have hnc87:=NB635_643.out;have hnb88:=NB643_642.out;have hnc88:=NB642_643.out;have hcz89_0 : w84.cell? ⟨gb643,0,none⟩ = some (.int .i64 0):=(bkC BK643.out 0).trans rfl;have hcz89_1 : w84.cell? ⟨gb643,1,none⟩ = some (.int .i64 0):=(bkC BK643.out 1).trans rfl;have hcz89_2 : w84.cell? ⟨gb643,2,none⟩ = some (.bool false):=(bkC BK643.out 2).trans rfl;have hfz89_0:=bkF BK643.out 0;have hfz89_1:=bkF BK643.out 1;have hfz89_2:=bkF BK643.out 2) |((with_reducible refine gate_store (t:=89) (p:=18) rfl ?_);refine store_event (t:=89) (p:=18) (v:=?vo_w90) (w1:=(((w84.setCell ⟨gb643,0,none⟩ (.int .i64 x635001_32)).setCell ⟨gb643,1,none⟩ (.int .i64 x636001_32)).setCell ⟨gb643,2,none⟩ (.bool (((rd_T89 x9_1 x11_1).f2) ==(x635000_32 == 4))))) ?hg ?ho ?hn ?hr ?_;(case ho=>rfl);(case hg=>rfl);(case hn=>rfl);(case hr=>first |(go_simp;done) |(go_simp;rfl));intro w90 hw;have n0_ : Aside0 (Kd.R k89 89 w90 w.heap.size (fun k_=>k_≠gb631∧k_≠gb643) (.slice (some ad630) x9_1.length co14) x9_1):=⟨(by rw [hw];exact(by(with_reducible repeat(first | apply Kd.R_alloc | apply Kd.R_drewN | apply Kd.R_drew));exact Kd.R_mono (Kd.R_far (p:=⟨gb643,2,none⟩) (Kd.R_far (p:=⟨gb643,1,none⟩) (Kd.R_far (p:=⟨gb643,0,none⟩) (Kd.R_mono HO_9.out (fun k_ hk=>(⟨hk,hk.2⟩ : _∧k_≠gb643))) (fun _ hk=>hk.2) (.int .i64 x635001_32)) (fun _ hk=>hk.2) (.int .i64 x636001_32)) (fun _ hk=>hk.2) (.bool (((rd_T89 x9_1 x11_1).f2) ==(x635000_32 == 4)))) (fun _ hk=>⟨hk.1.1,hk.1.2⟩)))⟩;have n1_ : Aside0 (Kd.R k39 39 w90 w.heap.size (fun k_=>k_≠gb634∧k_≠gb635∧k_≠gb642) u10 x10_32):=⟨(by rw [hw];exact(by(with_reducible repeat(first | apply Kd.R_alloc | apply Kd.R_drewN | apply Kd.R_drew));exact Kd.R_mono (Kd.R_far (p:=⟨gb643,2,none⟩) (Kd.R_far (p:=⟨gb643,1,none⟩) (Kd.R_far (p:=⟨gb643,0,none⟩) (Kd.R_types HO_10.out BK643.out (by decide)) (fun _ hk=>hk.2) (.int .i64 x635001_32)) (fun _ hk=>hk.2) (.int .i64 x636001_32)) (fun _ hk=>hk.2) (.bool (((rd_T89 x9_1 x11_1).f2) ==(x635000_32 == 4)))) (fun _ hk=>⟨hk.1.1.1,⟨hk.1.1.2,hk.1.2⟩⟩)))⟩;have n2_ : Aside0 (w90.heap[gb631]? = some (.cells #[.int .i64 x632000_32,.int .i64 x632001_32,.bool ((rd_T89 x9_1 x11_1).f2)] 89 (0,0))):=⟨(by rw [hw];exact(by(with_reducible repeat(first | refine bkN ?_ _ | refine bkD ?_ | refine bkA ?_ _));refine blk_far ?_ NB631_643.out _;(with_reducible repeat(first | refine bkN ?_ _ | refine bkD ?_ | refine bkA ?_ _));refine blk_far ?_ NB631_643.out _;(with_reducible repeat(first | refine bkN ?_ _ | refine bkD ?_ | refine bkA ?_ _));refine blk_far ?_ NB631_643.out _;(with_reducible repeat(first | refine bkN ?_ _ | refine bkD ?_ | refine bkA ?_ _));exact BK631.out))⟩;have n3_ : Aside0 (w90.heap[gb634]? = some (.cells #[.int .i64 x635000_32,.int .i64 x635001_32,.int .i64 x635002_32] 39 (0,0))):=⟨(by rw [hw];exact(by(with_reducible repeat(first | refine bkN ?_ _ | refine bkD ?_ | refine bkA ?_ _));refine blk_far ?_ NB634_643.out _;(with_reducible repeat(first | refine bkN ?_ _ | refine bkD ?_ | refine bkA ?_ _));refine blk_far ?_ NB634_643.out _;(with_reducible repeat(first | refine bkN ?_ _ | refine bkD ?_ | refine bkA ?_ _));refine blk_far ?_ NB634_643.out _;(with_reducible repeat(first | refine bkN ?_ _ | refine bkD ?_ | refine bkA ?_ _));exact BK634.out))⟩;have n4_ : Aside0 (w90.heap[gb635]? = some (.cells #[.int .i64 x636000_32,.int .i64 x636001_32,.int .i64 x636002_32] 39 (0,0))):=⟨(by rw [hw];exact(by(with_reducible repeat(first | refine bkN ?_ _ | refine bkD ?_ | refine bkA ?_ _));refine blk_far ?_ NB635_643.out _;(with_reducible repeat(first | refine bkN ?_ _ | refine bkD ?_ | refine bkA ?_ _));refine blk_far ?_ NB635_643.out _;(with_reducible repeat(first | refine bkN ?_ _ | refine bkD ?_ | refine bkA ?_ _));refine blk_far ?_ NB635_643.out _;(with_reducible repeat(first | refine bkN ?_ _ | refine bkD ?_ | refine bkA ?_ _));exact BK635.out))⟩;have n5_ : Aside0 (w90.heap[gb642]? = some (.cells #[.int .i64 x635000_32,.int .i64 0,.int .i64 0] 39 (0,0))):=⟨(by rw [hw];exact(by(with_reducible repeat(first | refine bkN ?_ _ | refine bkD ?_ | refine bkA ?_ _));refine blk_far ?_ NB642_643.out _;(with_reducible repeat(first | refine bkN ?_ _ | refine bkD ?_ | refine bkA ?_ _));refine blk_far ?_ NB642_643.out _;(with_reducible repeat(first | refine bkN ?_ _ | refine bkD ?_ | refine bkA ?_ _));refine blk_far ?_ NB642_643.out _;(with_reducible repeat(first | refine bkN ?_ _ | refine bkD ?_ | refine bkA ?_ _));exact BK642.out))⟩;have n6_ : Aside0 (w90.heap[gb643]? = some (.cells #[.int .i64 x635001_32,.int .i64 x636001_32,.bool (((rd_T89 x9_1 x11_1).f2) ==(x635000_32 == 4))] 89 (0,0))):=⟨(by rw [hw];exact(by(with_reducible repeat(first | refine bkN ?_ _ | refine bkD ?_ | refine bkA ?_ _));refine blk_put (cs:=#[.int .i64 x635001_32,.int .i64 x636001_32,.bool false]) ?_ 2 _ rfl;(with_reducible repeat(first | refine bkN ?_ _ | refine bkD ?_ | refine bkA ?_ _));refine blk_put (cs:=#[.int .i64 x635001_32,.int .i64 0,.bool false]) ?_ 1 _ rfl;(with_reducible repeat(first | refine bkN ?_ _ | refine bkD ?_ | refine bkA ?_ _));refine blk_put (cs:=#[.int .i64 0,.int .i64 0,.bool false]) ?_ 0 _ rfl;(with_reducible repeat(first | refine bkN ?_ _ | refine bkD ?_ | refine bkA ?_ _));exact BK643.out))⟩;have n7_ : Aside0 (Below w.heap.size w w90):=⟨(by rw [hw];exact(by repeat(first |(with_reducible first | exact HB.out | apply bwA | apply bwN | apply bw1 | refine bwS ?_ GE631.out | refine bwS ?_ GE634.out | refine bwS ?_ GE635.out | refine bwS ?_ GE642.out | refine bwS ?_ GE643.out) | exact HB.out)))⟩;clear hw;clear HO_9;clear HO_10;clear BK631;clear BK634;clear BK635;clear BK642;clear BK643;clear HB;have HO_9:=n0_;have HO_10:=n1_;have BK631:=n2_;have BK634:=n3_;have BK635:=n4_;have BK642:=n5_;have BK643:=n6_;have HB:=n7_;clear n0_ n1_ n2_ n3_ n4_ n5_ n6_ n7_;have hcz91_0 : w90.cell? ⟨gb643,0,none⟩ = some (.int .i64 x635001_32):=(bkC BK643.out 0).trans rfl;have hcz91_1 : w90.cell? ⟨gb643,1,none⟩ = some (.int .i64 x636001_32):=(bkC BK643.out 1).trans rfl;have hcz91_2 : w90.cell? ⟨gb643,2,none⟩ = some (.bool (((rd_T89 x9_1 x11_1).f2) ==(x635000_32 == 4))):=(bkC BK643.out 2).trans rfl;have hfz91_0:=bkF BK643.out 0;have hfz91_1:=bkF BK643.out 1;have hfz91_2:=bkF BK643.out 2) |((with_reducible refine gate_callee (f:=58) rfl ?_);refine goesL_ (some 113) rfl rfl Try.func58 (by kernel_rfl) rfl #[.slice (some ad630) x9_1.length co14,.agg #[.int .i64 x635001_32,.int .i64 x636001_32,.bool (((rd_T89 x9_1 x11_1).f2) ==(x635000_32 == 4))]] rfl (by(try simp only [List.map_toArray,List.map_cons,List.map_nil]);first | done | rfl |(simp only [List.length_drop,List.length_take];rfl)) ?_;(with_reducible refine(q06_asked.calls kj32 (fun k_=>some k_ =(.slice (some ad630) x9_1.length co14 : Value).ownBlock) (.slice (some ad630) x9_1.length co14) x9_1 x635001_32 x636001_32 (((rd_T89 x9_1 x11_1).f2) ==(x635000_32 == 4)) t644 t647 w _ ?side1 ?side2 A68.out).mono ?_);(case side1=>repeat(first |(with_reducible first | exact HB.out | apply bwA | apply bwN | apply bw1 | refine bwS ?_ GE631.out | refine bwS ?_ GE634.out | refine bwS ?_ GE635.out | refine bwS ?_ GE642.out | refine bwS ?_ GE643.out) | exact HB.out));(case side2=>exact Kd.R_tight rfl HO_9.out);rintro e w92 ⟨v645,rfl,ho0,hb,hkp⟩;refine⟨_,rfl,?_⟩;have n0_:=Aside0.mk (Kd.R_mono (ok':=fun k_=>k_≠gb634∧k_≠gb635∧k_≠gb642) (Kd.R_keptB ((Kd.R_apart' HO_10.out (Kd.R_typed HO_9.out) (by decide))) hkp (fun k_ hk_ hs_=>(hk_.2) hs_)) (fun k_ hk_=>⟨hk_.1.1.1,hk_.1.1.2.1,hk_.1.1.2.2⟩));have n1_:=Aside0.mk (blk_kept (by(with_reducible repeat(first | refine bkN ?_ _ | refine bkD ?_ | refine bkA ?_ _));exact BK631.out) hkp (fun hs_=>(fun e_=>(Kd.R_away HO_9.out (fun _ hk=>hk.1)) e_) hs_));have n2_:=Aside0.mk (blk_kept (by(with_reducible repeat(first | refine bkN ?_ _ | refine bkD ?_ | refine bkA ?_ _));exact BK634.out) hkp (fun hs_=>(fun e_=>(Kd.R_ne HO_9.out BK634.out (by decide)) e_) hs_));have n3_:=Aside0.mk (blk_kept (by(with_reducible repeat(first | refine bkN ?_ _ | refine bkD ?_ | refine bkA ?_ _));exact BK635.out) hkp (fun hs_=>(fun e_=>(Kd.R_ne HO_9.out BK635.out (by decide)) e_) hs_));have n4_:=Aside0.mk (blk_kept (by(with_reducible repeat(first | refine bkN ?_ _ | refine bkD ?_ | refine bkA ?_ _));exact BK642.out) hkp (fun hs_=>(fun e_=>(Kd.R_ne HO_9.out BK642.out (by decide)) e_) hs_));have n5_:=Aside0.mk (blk_kept (by(with_reducible repeat(first | refine bkN ?_ _ | refine bkD ?_ | refine bkA ?_ _));exact BK643.out) hkp (fun hs_=>(fun e_=>(Kd.R_away HO_9.out (fun _ hk=>hk.2)) e_) hs_));have n6_:=Aside0.mk (Kd.R_mono (ok':=fun k_=>k_≠gb631∧k_≠gb643) ho0 (fun k_ hk_=>⟨Or.elim hk_ (fun hs_=>fun e_=>(Kd.R_away HO_9.out (fun _ hk=>hk.1)) (by rw [← e_];exact hs_)) (fun hn_=>(Kd.freshB (g:=gb631) (o:=.cells #[.int .i64 x632000_32,.int .i64 x632001_32,.bool ((rd_T89 x9_1 x11_1).f2)] 89 (0,0)) (by(with_reducible repeat(first | refine bkN ?_ _ | refine bkD ?_ | refine bkA ?_ _));exact BK631.out) k_ hn_)),Or.elim hk_ (fun hs_=>fun e_=>(Kd.R_away HO_9.out (fun _ hk=>hk.2)) (by rw [← e_];exact hs_)) (fun hn_=>(Kd.freshB (g:=gb643) (o:=.cells #[.int .i64 x635001_32,.int .i64 x636001_32,.bool (((rd_T89 x9_1 x11_1).f2) ==(x635000_32 == 4))] 89 (0,0)) (by(with_reducible repeat(first | refine bkN ?_ _ | refine bkD ?_ | refine bkA ?_ _));exact BK643.out) k_ hn_))⟩));have n7_:=Aside0.mk (hb);clear HO_10;clear BK631;clear BK634;clear BK635;clear BK642;clear BK643;clear HB;clear HO_9;have HO_10:=n0_;have BK631:=n1_;have BK634:=n2_;have BK635:=n3_;have BK642:=n4_;have BK643:=n5_;have HO646:=n6_;have HB:=n7_;clear n0_ n1_ n2_ n3_ n4_ n5_ n6_ n7_;(try clear hb);(try clear hkp);(try clear ho0);have hcz93_0 : w92.cell? ⟨gb634,0,none⟩ = some (.int .i64 x635000_32):=(bkC BK634.out 0).trans rfl;have hcz93_1 : w92.cell? ⟨gb634,1,none⟩ = some (.int .i64 x635001_32):=(bkC BK634.out 1).trans rfl;have hcz93_2 : w92.cell? ⟨gb634,2,none⟩ = some (.int .i64 x635002_32):=(bkC BK634.out 2).trans rfl;have hfz93_0:=bkF BK634.out 0;have hfz93_1:=bkF BK634.out 1;have hfz93_2:=bkF BK634.out 2;have hcz94_0 : w92.cell? ⟨gb635,0,none⟩ = some (.int .i64 x636000_32):=(bkC BK635.out 0).trans rfl;have hcz94_1 : w92.cell? ⟨gb635,1,none⟩ = some (.int .i64 x636001_32):=(bkC BK635.out 1).trans rfl;have hcz94_2 : w92.cell? ⟨gb635,2,none⟩ = some (.int .i64 x636002_32):=(bkC BK635.out 2).trans rfl;have hfz94_0:=bkF BK635.out 0;have hfz94_1:=bkF BK635.out 1;have hfz94_2:=bkF BK635.out 2;have hcz95_0 : w92.cell? ⟨gb631,0,none⟩ = some (.int .i64 x632000_32):=(bkC BK631.out 0).trans rfl;have hcz95_1 : w92.cell? ⟨gb631,1,none⟩ = some (.int .i64 x632001_32):=(bkC BK631.out 1).trans rfl;have hcz95_2 : w92.cell? ⟨gb631,2,none⟩ = some (.bool ((rd_T89 x9_1 x11_1).f2)):=(bkC BK631.out 2).trans rfl;have hfz95_0:=bkF BK631.out 0;have hfz95_1:=bkF BK631.out 1;have hfz95_2:=bkF BK631.out 2;obtain ⟨Ao96,co96,eo96⟩:=Kd.R_slice HO646.out;subst eo96) |((with_reducible refine gate_callee (f:=58) rfl ?_);refine goesL_ (some 125) rfl rfl Try.func58 (by kernel_rfl) rfl #[.slice Ao96 t644.length co96,.agg #[.int .i64 x635002_32,.int .i64 x636002_32,.bool ((rd_T89 x9_1 x11_1).f2)]] rfl (by(try simp only [List.map_toArray,List.map_cons,List.map_nil]);first | done | rfl |(simp only [List.length_drop,List.length_take];rfl)) ?_;(with_reducible refine(q06_asked.calls kj32 (fun k_=>some k_ =(.slice Ao96 t644.length co96 : Value).ownBlock) (.slice Ao96 t644.length co96) t644 x635002_32 x636002_32 ((rd_T89 x9_1 x11_1).f2) t648 t651 w _ ?side1 ?side2 A69.out).mono ?_);(case side1=>repeat(first |(with_reducible first | exact HB.out | apply bwA | apply bwN | apply bw1 | refine bwS ?_ GE631.out | refine bwS ?_ GE634.out | refine bwS ?_ GE635.out | refine bwS ?_ GE642.out | refine bwS ?_ GE643.out) | exact HB.out));(case side2=>exact Kd.R_tight rfl HO646.out);rintro e w97 ⟨v649,rfl,ho0,hb,hkp⟩;refine⟨_,rfl,?_⟩;have n0_:=Aside0.mk (Kd.R_mono (ok':=fun k_=>k_≠gb634∧k_≠gb635∧k_≠gb642) (Kd.R_keptB ((Kd.R_apart' HO_10.out (Kd.R_typed HO646.out) (by decide))) hkp (fun k_ hk_ hs_=>(hk_.2) hs_)) (fun k_ hk_=>⟨hk_.1.1.1,hk_.1.1.2.1,hk_.1.1.2.2⟩));have n1_:=Aside0.mk (blk_kept (by(with_reducible repeat(first | refine bkN ?_ _ | refine bkD ?_ | refine bkA ?_ _));exact BK631.out) hkp (fun hs_=>(fun e_=>(Kd.R_away HO646.out (fun _ hk=>hk.1)) e_) hs_));have n2_:=Aside0.mk (blk_kept (by(with_reducible repeat(first | refine bkN ?_ _ | refine bkD ?_ | refine bkA ?_ _));exact BK634.out) hkp (fun hs_=>(fun e_=>(Kd.R_ne HO646.out BK634.out (by decide)) e_) hs_));have n3_:=Aside0.mk (blk_kept (by(with_reducible repeat(first | refine bkN ?_ _ | refine bkD ?_ | refine bkA ?_ _));exact BK635.out) hkp (fun hs_=>(fun e_=>(Kd.R_ne HO646.out BK635.out (by decide)) e_) hs_));have n4_:=Aside0.mk (blk_kept (by(with_reducible repeat(first | refine bkN ?_ _ | refine bkD ?_ | refine bkA ?_ _));exact BK642.out) hkp (fun hs_=>(fun e_=>(Kd.R_ne HO646.out BK642.out (by decide)) e_) hs_));have n5_:=Aside0.mk (blk_kept (by(with_reducible repeat(first | refine bkN ?_ _ | refine bkD ?_ | refine bkA ?_ _));exact BK643.out) hkp (fun hs_=>(fun e_=>(Kd.R_away HO646.out (fun _ hk=>hk.2)) e_) hs_));have n6_:=Aside0.mk (Kd.R_mono (ok':=fun k_=>k_≠gb631∧k_≠gb643) ho0 (fun k_ hk_=>⟨Or.elim hk_ (fun hs_=>fun e_=>(Kd.R_away HO646.out (fun _ hk=>hk.1)) (by rw [← e_];exact hs_)) (fun hn_=>(Kd.freshB (g:=gb631) (o:=.cells #[.int .i64 x632000_32,.int .i64 x632001_32,.bool ((rd_T89 x9_1 x11_1).f2)] 89 (0,0)) (by(with_reducible repeat(first | refine bkN ?_ _ | refine bkD ?_ | refine bkA ?_ _));exact BK631.out) k_ hn_)),Or.elim hk_ (fun hs_=>fun e_=>(Kd.R_away HO646.out (fun _ hk=>hk.2)) (by rw [← e_];exact hs_)) (fun hn_=>(Kd.freshB (g:=gb643) (o:=.cells #[.int .i64 x635001_32,.int .i64 x636001_32,.bool (((rd_T89 x9_1 x11_1).f2) ==(x635000_32 == 4))] 89 (0,0)) (by(with_reducible repeat(first | refine bkN ?_ _ | refine bkD ?_ | refine bkA ?_ _));exact BK643.out) k_ hn_))⟩));have n7_:=Aside0.mk (hb);clear HO_10;clear BK631;clear BK634;clear BK635;clear BK642;clear BK643;clear HB;clear HO646;have HO_10:=n0_;have BK631:=n1_;have BK634:=n2_;have BK635:=n3_;have BK642:=n4_;have BK643:=n5_;have HO650:=n6_;have HB:=n7_;clear n0_ n1_ n2_ n3_ n4_ n5_ n6_ n7_;(try clear hb);(try clear hkp);(try clear ho0);have hcz98_0 : w97.cell? ⟨gb642,0,none⟩ = some (.int .i64 x635000_32):=(bkC BK642.out 0).trans rfl;have hcz98_1 : w97.cell? ⟨gb642,1,none⟩ = some (.int .i64 0):=(bkC BK642.out 1).trans rfl;have hcz98_2 : w97.cell? ⟨gb642,2,none⟩ = some (.int .i64 0):=(bkC BK642.out 2).trans rfl;have hfz98_0:=bkF BK642.out 0;have hfz98_1:=bkF BK642.out 1;have hfz98_2:=bkF BK642.out 2) |((with_reducible refine gate_builtin (b:=.append) (xs:=#[.tmp 132,.tmp 134]) rfl ?_);at_builtin;refine Kd.R_append k39 (w0:=w) w.heap.size rfl (.tmp 132) (.tmp 134) 22 39 (.agg #[(.int .i64 0),(.int .i64 0),(.int .i64 0)]) 24 rfl Try.underlying22 info39 rfl (by decide) (by omega) u10 x10_32 (⟨x635000_32,t647,t651⟩ : S39) [.int .i64 x635000_32,.int .i64 t647,.int .i64 t651] (fun k_=>k_≠gb634∧k_≠gb635∧k_≠gb642) (fun _=>False) rfl (by first |(go_simp;done) |(go_simp;rfl)) ?aP (fun _ hk=>hk.elim) ?aF ?aO ?aB ?aS ?aL ?_;(case aP=>exact k39_mkM _ _ _ (⟨x635000_32,t647,t651⟩ : S39));(case aB=>exact(by repeat(first |(with_reducible first | exact HB.out | apply bwA | apply bwN | apply bw1 | refine bwS ?_ GE631.out | refine bwS ?_ GE634.out | refine bwS ?_ GE635.out | refine bwS ?_ GE642.out | refine bwS ?_ GE643.out) | exact HB.out)));(case aF=>exact(fun k_ hk=>⟨Kd.freshB (g:=gb634) (o:=.cells #[.int .i64 x635000_32,.int .i64 x635001_32,.int .i64 x635002_32] 39 (0,0)) (by(with_reducible repeat(first | refine bkN ?_ _ | refine bkD ?_ | refine bkA ?_ _));refine blk_far ?_ NB634_642.out _;(with_reducible repeat(first | refine bkN ?_ _ | refine bkD ?_ | refine bkA ?_ _));refine blk_far ?_ NB634_642.out _;(with_reducible repeat(first | refine bkN ?_ _ | refine bkD ?_ | refine bkA ?_ _));exact BK634.out) k_ hk,Kd.freshB (g:=gb635) (o:=.cells #[.int .i64 x636000_32,.int .i64 x636001_32,.int .i64 x636002_32] 39 (0,0)) (by(with_reducible repeat(first | refine bkN ?_ _ | refine bkD ?_ | refine bkA ?_ _));refine blk_far ?_ NB635_642.out _;(with_reducible repeat(first | refine bkN ?_ _ | refine bkD ?_ | refine bkA ?_ _));refine blk_far ?_ NB635_642.out _;(with_reducible repeat(first | refine bkN ?_ _ | refine bkD ?_ | refine bkA ?_ _));exact BK635.out) k_ hk,Kd.freshB (g:=gb642) (o:=.cells #[.int .i64 x635000_32,.int .i64 t647,.int .i64 t651] 39 (0,0)) (by(with_reducible repeat(first | refine bkN ?_ _ | refine bkD ?_ | refine bkA ?_ _));refine blk_put (cs:=#[.int .i64 x635000_32,.int .i64 t647,.int .i64 0]) ?_ 2 _ rfl;(with_reducible repeat(first | refine bkN ?_ _ | refine bkD ?_ | refine bkA ?_ _));refine blk_put (cs:=#[.int .i64 x635000_32,.int .i64 0,.int .i64 0]) ?_ 1 _ rfl;(with_reducible repeat(first | refine bkN ?_ _ | refine bkD ?_ | refine bkA ?_ _));exact BK642.out) k_ hk⟩));(case aO=>exact(by(with_reducible repeat(first | apply Kd.R_alloc | apply Kd.R_drewN | apply Kd.R_drew));exact Kd.R_mono (Kd.R_far (p:=⟨gb642,2,none⟩) (Kd.R_far (p:=⟨gb642,1,none⟩) (Kd.R_mono HO_10.out (fun k_ hk=>(⟨hk,hk.2.2⟩ : _∧k_≠gb642))) (fun _ hk=>hk.2) (.int .i64 t647)) (fun _ hk=>hk.2) (.int .i64 t651)) (fun _ hk=>⟨hk.1.1,⟨hk.1.2.1,hk.1.2.2⟩⟩)));(case aS=>exact(bwZ (by repeat(first |(with_reducible first | exact HB.out | apply bwA | apply bwN | apply bw1 | refine bwS ?_ GE631.out | refine bwS ?_ GE634.out | refine bwS ?_ GE635.out | refine bwS ?_ GE642.out | refine bwS ?_ GE643.out) | exact HB.out))));(case aL=>have:=LMc70.out;omega);intro v653 w99 ho hb hg hat;rw [← Ny652.out] at ho;have n0_:=Aside0.mk (blk_grown (g:=gb631) (o:=.cells #[.int .i64 x632000_32,.int .i64 x632001_32,.bool ((rd_T89 x9_1 x11_1).f2)] 89 (0,0)) (by(with_reducible repeat(first | refine bkN ?_ _ | refine bkD ?_ | refine bkA ?_ _));refine blk_far ?_ NB631_642.out _;(with_reducible repeat(first | refine bkN ?_ _ | refine bkD ?_ | refine bkA ?_ _));refine blk_far ?_ NB631_642.out _;(with_reducible repeat(first | refine bkN ?_ _ | refine bkD ?_ | refine bkA ?_ _));exact BK631.out) hg (Kd.R_ne HO_10.out BK631.out (by decide)));have n1_:=Aside0.mk (blk_grown (g:=gb634) (o:=.cells #[.int .i64 x635000_32,.int .i64 x635001_32,.int .i64 x635002_32] 39 (0,0)) (by(with_reducible repeat(first | refine bkN ?_ _ | refine bkD ?_ | refine bkA ?_ _));refine blk_far ?_ NB634_642.out _;(with_reducible repeat(first | refine bkN ?_ _ | refine bkD ?_ | refine bkA ?_ _));refine blk_far ?_ NB634_642.out _;(with_reducible repeat(first | refine bkN ?_ _ | refine bkD ?_ | refine bkA ?_ _));exact BK634.out) hg (Kd.R_away HO_10.out (fun _ hk=>hk.1)));have n2_:=Aside0.mk (blk_grown (g:=gb635) (o:=.cells #[.int .i64 x636000_32,.int .i64 x636001_32,.int .i64 x636002_32] 39 (0,0)) (by(with_reducible repeat(first | refine bkN ?_ _ | refine bkD ?_ | refine bkA ?_ _));refine blk_far ?_ NB635_642.out _;(with_reducible repeat(first | refine bkN ?_ _ | refine bkD ?_ | refine bkA ?_ _));refine blk_far ?_ NB635_642.out _;(with_reducible repeat(first | refine bkN ?_ _ | refine bkD ?_ | refine bkA ?_ _));exact BK635.out) hg (Kd.R_away HO_10.out (fun _ hk=>hk.2.1)));have n3_:=Aside0.mk (blk_grown (g:=gb642) (o:=.cells #[.int .i64 x635000_32,.int .i64 t647,.int .i64 t651] 39 (0,0)) (by(with_reducible repeat(first | refine bkN ?_ _ | refine bkD ?_ | refine bkA ?_ _));refine blk_put (cs:=#[.int .i64 x635000_32,.int .i64 t647,.int .i64 0]) ?_ 2 _ rfl;(with_reducible repeat(first | refine bkN ?_ _ | refine bkD ?_ | refine bkA ?_ _));refine blk_put (cs:=#[.int .i64 x635000_32,.int .i64 0,.int .i64 0]) ?_ 1 _ rfl;(with_reducible repeat(first | refine bkN ?_ _ | refine bkD ?_ | refine bkA ?_ _));exact BK642.out) hg (Kd.R_away HO_10.out (fun _ hk=>hk.2.2)));have n4_:=Aside0.mk (blk_grown (g:=gb643) (o:=.cells #[.int .i64 x635001_32,.int .i64 x636001_32,.bool (((rd_T89 x9_1 x11_1).f2) ==(x635000_32 == 4))] 89 (0,0)) (by(with_reducible repeat(first | refine bkN ?_ _ | refine bkD ?_ | refine bkA ?_ _));refine blk_far ?_ NB643_642.out _;(with_reducible repeat(first | refine bkN ?_ _ | refine bkD ?_ | refine bkA ?_ _));refine blk_far ?_ NB643_642.out _;(with_reducible repeat(first | refine bkN ?_ _ | refine bkD ?_ | refine bkA ?_ _));exact BK643.out) hg (Kd.R_ne HO_10.out BK643.out (by decide)));have n5_:=Aside0.mk (Kd.R_over' (by(with_reducible repeat(first | apply Kd.R_alloc | apply Kd.R_drewN | apply Kd.R_drew));exact(Kd.R_mono (Kd.R_far (p:=⟨gb642,2,none⟩) (Kd.R_far (p:=⟨gb642,1,none⟩) (Kd.R_types HO650.out BK642.out (by decide)) (fun _ hk=>hk.2) (.int .i64 t647)) (fun _ hk=>hk.2) (.int .i64 t651)) (fun _ h_=>h_.1))) (Kd.R_typed (by(with_reducible repeat(first | apply Kd.R_alloc | apply Kd.R_drewN | apply Kd.R_drew));exact(Kd.R_mono (Kd.R_far (p:=⟨gb642,2,none⟩) (Kd.R_far (p:=⟨gb642,1,none⟩) (Kd.R_mono HO_10.out (fun k_ hk=>(⟨hk,hk.2.2⟩ : _∧k_≠gb642))) (fun _ hk=>hk.2) (.int .i64 t647)) (fun _ hk=>hk.2) (.int .i64 t651)) (fun _ h_=>h_.1)))) (by decide) hg);have n6_:=Aside0.mk (hb);have n7_:=Aside0.mk (ho);clear BK631;clear BK634;clear BK635;clear BK642;clear BK643;clear HO650;clear HB;clear HO_10;have BK631:=n0_;have BK634:=n1_;have BK635:=n2_;have BK642:=n3_;have BK643:=n4_;have HO650:=n5_;have HB:=n6_;have HO654:=n7_;clear n0_ n1_ n2_ n3_ n4_ n5_ n6_ n7_;clear ho hb hg hat))
      go_roundg kj32
      case measure=>have:=HK1.out;have:=HJ12.out;have:=HJ32.out;omega
      exact⟨(t648),(y652),(wrap64 (x11_1 + 1)),(by first | rfl |(simp;done) |(simp [*];done)),H',⟨by have:=HK1.out;have:=HJ12.out;have:=HJ32.out;omega⟩,⟨by(with_reducible repeat(first | apply Kd.R_alloc | apply Kd.R_drewN | apply Kd.R_drew));exact Kd.R_mono HO650.out (fun _ hk=>trivial)⟩,⟨by(with_reducible repeat(first | apply Kd.R_alloc | apply Kd.R_drewN | apply Kd.R_drew));exact Kd.R_mono HO654.out (fun _ hk=>trivial)⟩,⟨by repeat(first |(with_reducible first | exact HB.out | apply bwA | apply bwN | apply bw1 | refine bwS ?_ GE631.out | refine bwS ?_ GE634.out | refine bwS ?_ GE635.out | refine bwS ?_ GE642.out | refine bwS ?_ GE643.out) | exact HB.out)⟩⟩

def w06_LoopsBounds.f (k : Nat) (l0 : List (S39)) (a1_0 : Int) (a1_1 : Int) : Option (Bool):=(w06_own.f l0).bind fun t659=>((loops_Join.f k t659 a1_0 a1_1).bind fun bt662=>((loops_Meet.f k t659 a1_0 a1_1).bind fun bt666=>((w06_bad.f k t659 a1_0 a1_1).bind fun t670=>(if t670 = true then(if(bt662.1.length : Int) = 0 then(if bt662.2 = 2 then(if(bt666.1.length : Int) = 0 then(if bt666.2 = 2 then((w06_awake.f k).bind fun t671=>(some t671)) else(some false)) else(some false)) else(some false)) else(some false)) else((q06_Bound.f k t659 a1_0 a1_1 true).bind fun t672=>((w06_types.f k bt662.1 t672).bind fun t675=>(if t675 = true then(if bt662.2 = 0 then((q06_Bound.f k t659 a1_0 a1_1 false).bind fun t676=>((w06_types.f k bt666.1 t676).bind fun t679=>(if t679 = true then(if bt666.2 = 0 then((w06_awake.f k).bind fun t680=>(some t680)) else(some false)) else(some false)))) else(some false)) else(some false))))))))
set_option maxHeartbeats 8000000 in
set_option maxRecDepth 100000 in
theorem w06_LoopsBounds.calls (k : Nat) (A0 : Option Addr) (c0 : Nat) (l0 : List (S39)) (a1_0 : Int) (a1_1 : Int) (r : Bool) (w : World) (hr0 : Kd.C k39 w A0 l0.length l0) (hc0 : l0.length ≤ c0) (h : w06_LoopsBounds.f k l0 a1_0 a1_1 = some r) (htrue : r = true) :
  Calls Try.prog 12 #[.slice A0 l0.length c0,.agg #[.int .i64 a1_0,.int .i64 a1_1]] w fun e w'=>e = .returned (.bool r)∧Below w.heap.size w w':=by
 have HTR:=Aside0.mk htrue
 clear htrue
 have hu23:=Try.underlying23
 have HR0:=Aside0.mk hr0
 have HC0:=Aside0.mk hc0
 clear hr0 hc0
 have HB:=Aside0.mk (Below.refl w.heap.size w)
 have H :((w06_own.f l0).bind fun t659=>((loops_Join.f k t659 a1_0 a1_1).bind fun bt662=>((loops_Meet.f k t659 a1_0 a1_1).bind fun bt666=>((w06_bad.f k t659 a1_0 a1_1).bind fun t670=>(if t670 = true then(if(bt662.1.length : Int) = 0 then(if bt662.2 = 2 then(if(bt666.1.length : Int) = 0 then(if bt666.2 = 2 then((w06_awake.f k).bind fun t671=>(some t671)) else(some false)) else(some false)) else(some false)) else(some false)) else((q06_Bound.f k t659 a1_0 a1_1 true).bind fun t672=>((w06_types.f k bt662.1 t672).bind fun t675=>(if t675 = true then(if bt662.2 = 0 then((q06_Bound.f k t659 a1_0 a1_1 false).bind fun t676=>((w06_types.f k bt666.1 t676).bind fun t679=>(if t679 = true then(if bt666.2 = 0 then((w06_awake.f k).bind fun t680=>(some t680)) else(some false)) else(some false)))) else(some false)) else(some false))))))))) = some r:=h
 clear h
 replace H:=Option.bind_eq_some_iff.mp H
 obtain ⟨t659,A30,H⟩:=H
 replace H :((loops_Join.f k t659 a1_0 a1_1).bind fun bt662=>((loops_Meet.f k t659 a1_0 a1_1).bind fun bt666=>((w06_bad.f k t659 a1_0 a1_1).bind fun t670=>(if t670 = true then(if(bt662.1.length : Int) = 0 then(if bt662.2 = 2 then(if(bt666.1.length : Int) = 0 then(if bt666.2 = 2 then((w06_awake.f k).bind fun t671=>(some t671)) else(some false)) else(some false)) else(some false)) else(some false)) else((q06_Bound.f k t659 a1_0 a1_1 true).bind fun t672=>((w06_types.f k bt662.1 t672).bind fun t675=>(if t675 = true then(if bt662.2 = 0 then((q06_Bound.f k t659 a1_0 a1_1 false).bind fun t676=>((w06_types.f k bt666.1 t676).bind fun t679=>(if t679 = true then(if bt666.2 = 0 then((w06_awake.f k).bind fun t680=>(some t680)) else(some false)) else(some false)))) else(some false)) else(some false)))))))) = some r:=H
 have A3:=Aside0.mk A30
 clear A30
 replace H:=Option.bind_eq_some_iff.mp H
 obtain ⟨⟨t662,t663⟩,A40,H⟩:=H
 replace H :((loops_Meet.f k t659 a1_0 a1_1).bind fun bt666=>((w06_bad.f k t659 a1_0 a1_1).bind fun t670=>(if t670 = true then(if(t662.length : Int) = 0 then(if t663 = 2 then(if(bt666.1.length : Int) = 0 then(if bt666.2 = 2 then((w06_awake.f k).bind fun t671=>(some t671)) else(some false)) else(some false)) else(some false)) else(some false)) else((q06_Bound.f k t659 a1_0 a1_1 true).bind fun t672=>((w06_types.f k t662 t672).bind fun t675=>(if t675 = true then(if t663 = 0 then((q06_Bound.f k t659 a1_0 a1_1 false).bind fun t676=>((w06_types.f k bt666.1 t676).bind fun t679=>(if t679 = true then(if bt666.2 = 0 then((w06_awake.f k).bind fun t680=>(some t680)) else(some false)) else(some false)))) else(some false)) else(some false))))))) = some r:=H
 have A4:=Aside0.mk A40
 clear A40
 replace H:=Option.bind_eq_some_iff.mp H
 obtain ⟨⟨t666,t667⟩,A50,H⟩:=H
 replace H :((w06_bad.f k t659 a1_0 a1_1).bind fun t670=>(if t670 = true then(if(t662.length : Int) = 0 then(if t663 = 2 then(if(t666.length : Int) = 0 then(if t667 = 2 then((w06_awake.f k).bind fun t671=>(some t671)) else(some false)) else(some false)) else(some false)) else(some false)) else((q06_Bound.f k t659 a1_0 a1_1 true).bind fun t672=>((w06_types.f k t662 t672).bind fun t675=>(if t675 = true then(if t663 = 0 then((q06_Bound.f k t659 a1_0 a1_1 false).bind fun t676=>((w06_types.f k t666 t676).bind fun t679=>(if t679 = true then(if t667 = 0 then((w06_awake.f k).bind fun t680=>(some t680)) else(some false)) else(some false)))) else(some false)) else(some false)))))) = some r:=H
 have A5:=Aside0.mk A50
 clear A50
 replace H:=Option.bind_eq_some_iff.mp H
 obtain ⟨t670,A60,H⟩:=H
 replace H :(if t670 = true then(if(t662.length : Int) = 0 then(if t663 = 2 then(if(t666.length : Int) = 0 then(if t667 = 2 then((w06_awake.f k).bind fun t671=>(some t671)) else(some false)) else(some false)) else(some false)) else(some false)) else((q06_Bound.f k t659 a1_0 a1_1 true).bind fun t672=>((w06_types.f k t662 t672).bind fun t675=>(if t675 = true then(if t663 = 0 then((q06_Bound.f k t659 a1_0 a1_1 false).bind fun t676=>((w06_types.f k t666 t676).bind fun t679=>(if t679 = true then(if t667 = 0 then((w06_awake.f k).bind fun t680=>(some t680)) else(some false)) else(some false)))) else(some false)) else(some false))))) = some r:=H
 have A6:=Aside0.mk A60
 clear A60
 by_cases c7 : t670 = true
 ·subst c7
  have H1 :(if(t662.length : Int) = 0 then(if t663 = 2 then(if(t666.length : Int) = 0 then(if t667 = 2 then((w06_awake.f k).bind fun t671=>(some t671)) else(some false)) else(some false)) else(some false)) else(some false)) = some r:=by rw [if_pos rfl] at H;exact H
  clear H
  have H:=H1
  clear H1
  by_cases c8 :(t662.length : Int) = 0
  rotate_left
  ·rw [if_neg c8] at H
   have c8b0 :((t662.length : Int) == 0) = false:=beq_eq_false_iff_ne.mpr c8
   have c8b1 :((t662.length : Int) != 0) = true:=bne_iff_ne.mpr c8
   have c8b2 : ¬ (t662 = []):=fun h_=>c8 (by rw [h_];rfl)
   exact absurd ((Option.some.inj H).trans HTR.out) (by decide)
  rw [if_pos c8] at H
  have c8b0 :((t662.length : Int) == 0) = true:=beq_iff_eq.mpr c8
  have c8b1 :((t662.length : Int) != 0) = false:=bne_eq_false_iff_eq.mpr c8
  clear c8
  by_cases c9 : t663 = 2
  rotate_left
  ·rw [if_neg c9] at H
   have c9b0 :(t663 == 2) = false:=beq_eq_false_iff_ne.mpr c9
   have c9b1 :(t663 != 2) = true:=bne_iff_ne.mpr c9
   exact absurd ((Option.some.inj H).trans HTR.out) (by decide)
  rw [if_pos c9] at H
  have c9b0 :(t663 == 2) = true:=beq_iff_eq.mpr c9
  have c9b1 :(t663 != 2) = false:=bne_eq_false_iff_eq.mpr c9
  clear c9
  by_cases c10 :(t666.length : Int) = 0
  rotate_left
  ·rw [if_neg c10] at H
   have c10b0 :((t666.length : Int) == 0) = false:=beq_eq_false_iff_ne.mpr c10
   have c10b1 :((t666.length : Int) != 0) = true:=bne_iff_ne.mpr c10
   have c10b2 : ¬ (t666 = []):=fun h_=>c10 (by rw [h_];rfl)
   exact absurd ((Option.some.inj H).trans HTR.out) (by decide)
  rw [if_pos c10] at H
  have c10b0 :((t666.length : Int) == 0) = true:=beq_iff_eq.mpr c10
  have c10b1 :((t666.length : Int) != 0) = false:=bne_eq_false_iff_eq.mpr c10
  clear c10
  by_cases c11 : t667 = 2
  rotate_left
  ·rw [if_neg c11] at H
   have c11b0 :(t667 == 2) = false:=beq_eq_false_iff_ne.mpr c11
   have c11b1 :(t667 != 2) = true:=bne_iff_ne.mpr c11
   exact absurd ((Option.some.inj H).trans HTR.out) (by decide)
  rw [if_pos c11] at H
  have c11b0 :(t667 == 2) = true:=beq_iff_eq.mpr c11
  have c11b1 :(t667 != 2) = false:=bne_eq_false_iff_eq.mpr c11
  clear c11
  replace H:=Option.bind_eq_some_iff.mp H
  obtain ⟨t671,A120,H⟩:=H
  replace H :(some t671) = some r:=H
  have A12:=Aside0.mk A120
  clear A120
  obtain rfl:=Option.some.inj H
  go_enter Try.func12,Try.ntmps12
  go_wp2_with (first |((with_reducible refine gate_dst (N:=3) rfl ?_);(try(refine gate_guard (by rfl) ?_;dsimp only));refine box_event ?hg (N:=3) ?hd (cs:=#[.int .i64 a1_0,.int .i64 a1_1]) (t:=23) ?hr ?_;(case hd=>rfl);(case hg=>rfl);(case hr=>first |(go_simp;done) |(go_simp;rfl));intro gb658 hg w13 hbox hb;have n0_:=Aside0.mk (bwT (by repeat(first |(with_reducible first | exact HB.out | apply bwA | apply bwN | apply bw1) | exact HB.out)) hb);have n1_:=Aside0.mk (hbox);have n2_:=Aside0.mk ((by rw [hg];exact(bwZ (by repeat(first |(with_reducible first | exact HB.out | apply bwA | apply bwN | apply bw1) | exact HB.out))) : w.heap.size≤gb658));have n3_:=Aside0.mk ((by rw [hg];exact(bwZ (by repeat(first |(with_reducible first | exact HB.out | apply bwA | apply bwN | apply bw1) | exact HB.out))) : w.heap.size≤gb658));clear HB;have HB:=n0_;have BK658:=n1_;have GW658:=n2_;have GE658:=n3_;clear n0_ n1_ n2_ n3_;clear hb hbox hg) |(go_at_call 15;(with_reducible refine(w06_own.calls _ _ l0 t659 _ ?side1 ?side2 A3.out).mono ?_);(case side1=>repeat(first | exact(Kd.C_below HR0.out HB.out) |(with_reducible refine Kd.C_alloc ?_ _) |(with_reducible refine Kd.C_drewN ?_ _) |(with_reducible refine Kd.C_drew ?_)));(case side2=>exact HC0.out);rintro e w14 ⟨v660,rfl,ho0,hb⟩;have n0_:=Aside0.mk (Kd.R_lower ho0 (bwZ (by repeat(first |(with_reducible first | exact HB.out | apply bwA | apply bwN | apply bw1 | refine bwS ?_ GE658.out) | exact HB.out))));have n1_:=Aside0.mk (bkB (g:=gb658) (o:=.cells #[.int .i64 a1_0,.int .i64 a1_1] 23 (0,0)) (by(with_reducible repeat(first | refine bkN ?_ _ | refine bkD ?_ | refine bkA ?_ _));exact BK658.out) hb);have n2_:=Aside0.mk (bwT (by repeat(first |(with_reducible first | exact HB.out | apply bwA | apply bwN | apply bw1 | refine bwS ?_ GE658.out) | exact HB.out)) hb);clear BK658;clear HB;have HO661:=n0_;have BK658:=n1_;have HB:=n2_;clear n0_ n1_ n2_;(try clear hb);(try clear hb2);(try clear hk);(try clear hi);(try clear ho0);have hcz15_0 : w14.cell? ⟨gb658,0,none⟩ = some (.int .i64 a1_0):=(bkC BK658.out 0).trans rfl;have hcz15_1 : w14.cell? ⟨gb658,1,none⟩ = some (.int .i64 a1_1):=(bkC BK658.out 1).trans rfl;have hfz15_0:=bkF BK658.out 0;have hfz15_1:=bkF BK658.out 1;obtain ⟨Ao16,co16,eo16⟩:=Kd.R_slice HO661.out;subst eo16) )
  repeat(go_quiet (fail);try go_wp2_with (first |(go_at_call 37;(with_reducible refine(loops_Join.calls k _ _ t659 a1_0 a1_1 t662 t663 _ ?side1 ?side2 A4.out).mono ?_);(case side1=>repeat(first | exact(Kd.R_reads' HO661.out).2.2 |(with_reducible refine Kd.C_alloc ?_ _) |(with_reducible refine Kd.C_drewN ?_ _) |(with_reducible refine Kd.C_drew ?_)));(case side2=>exact(Kd.R_reads' HO661.out).2.1);rintro e w17 ⟨v664,rfl,ho0,hb⟩;have n0_:=Aside0.mk (Kd.R_elder' (by(with_reducible repeat(first | apply Kd.R_alloc | apply Kd.R_drewN | apply Kd.R_drew));exact HO661.out) (Kd.R_base ho0) hb);have n1_:=Aside0.mk (Kd.R_lower (Kd.R_new' ho0 (Kd.R_lt (by(with_reducible repeat(first | apply Kd.R_alloc | apply Kd.R_drewN | apply Kd.R_drew));exact HO661.out))) (bwZ (by repeat(first |(with_reducible first | exact HB.out | apply bwA | apply bwN | apply bw1 | refine bwS ?_ GE658.out) | exact HB.out))));have n2_:=Aside0.mk (bkB (g:=gb658) (o:=.cells #[.int .i64 a1_0,.int .i64 a1_1] 23 (0,0)) (by(with_reducible repeat(first | refine bkN ?_ _ | refine bkD ?_ | refine bkA ?_ _));exact BK658.out) hb);have n3_:=Aside0.mk (bwT (by repeat(first |(with_reducible first | exact HB.out | apply bwA | apply bwN | apply bw1 | refine bwS ?_ GE658.out) | exact HB.out)) hb);clear HO661;clear BK658;clear HB;have HO661:=n0_;have HO665:=n1_;have BK658:=n2_;have HB:=n3_;clear n0_ n1_ n2_ n3_;(try clear hb);(try clear hb2);(try clear hk);(try clear hi);(try clear ho0)) |(go_at_call 38;(with_reducible refine(loops_Meet.calls k _ _ t659 a1_0 a1_1 t666 t667 _ ?side1 ?side2 A5.out).mono ?_);(case side1=>repeat(first | exact(Kd.R_reads' HO661.out).2.2 |(with_reducible refine Kd.C_alloc ?_ _) |(with_reducible refine Kd.C_drewN ?_ _) |(with_reducible refine Kd.C_drew ?_)));(case side2=>exact(Kd.R_reads' HO661.out).2.1);rintro e w18 ⟨v668,rfl,ho0,hb⟩;have n0_:=Aside0.mk (Kd.R_elder' (by(with_reducible repeat(first | apply Kd.R_alloc | apply Kd.R_drewN | apply Kd.R_drew));exact HO661.out) (Kd.R_base ho0) hb);have n1_:=Aside0.mk (Kd.R_elder' (by(with_reducible repeat(first | apply Kd.R_alloc | apply Kd.R_drewN | apply Kd.R_drew));exact HO665.out) (Kd.R_base ho0) hb);have n2_:=Aside0.mk (Kd.R_lower (Kd.R_new' (Kd.R_new' ho0 (Kd.R_lt (by(with_reducible repeat(first | apply Kd.R_alloc | apply Kd.R_drewN | apply Kd.R_drew));exact HO661.out))) (Kd.R_lt (by(with_reducible repeat(first | apply Kd.R_alloc | apply Kd.R_drewN | apply Kd.R_drew));exact HO665.out))) (bwZ (by repeat(first |(with_reducible first | exact HB.out | apply bwA | apply bwN | apply bw1 | refine bwS ?_ GE658.out) | exact HB.out))));have n3_:=Aside0.mk (bkB (g:=gb658) (o:=.cells #[.int .i64 a1_0,.int .i64 a1_1] 23 (0,0)) (by(with_reducible repeat(first | refine bkN ?_ _ | refine bkD ?_ | refine bkA ?_ _));exact BK658.out) hb);have n4_:=Aside0.mk (bwT (by repeat(first |(with_reducible first | exact HB.out | apply bwA | apply bwN | apply bw1 | refine bwS ?_ GE658.out) | exact HB.out)) hb);clear HO661;clear HO665;clear BK658;clear HB;have HO661:=n0_;have HO665:=n1_;have HO669:=n2_;have BK658:=n3_;have HB:=n4_;clear n0_ n1_ n2_ n3_ n4_;(try clear hb);(try clear hb2);(try clear hk);(try clear hi);(try clear ho0)) |(go_at_call 18;(with_reducible refine(w06_bad.calls k _ _ t659 a1_0 a1_1 true _ ?side1 ?side2 A6.out).mono ?_);(case side1=>repeat(first | exact(Kd.R_reads' HO661.out).2.2 |(with_reducible refine Kd.C_alloc ?_ _) |(with_reducible refine Kd.C_drewN ?_ _) |(with_reducible refine Kd.C_drew ?_)));(case side2=>exact(Kd.R_reads' HO661.out).2.1);rintro e w19 ⟨rfl,hb⟩;have n0_:=Aside0.mk (Kd.R_below (by(with_reducible repeat(first | apply Kd.R_alloc | apply Kd.R_drewN | apply Kd.R_drew));exact HO661.out) hb);have n1_:=Aside0.mk (Kd.R_below (by(with_reducible repeat(first | apply Kd.R_alloc | apply Kd.R_drewN | apply Kd.R_drew));exact HO665.out) hb);have n2_:=Aside0.mk (Kd.R_below (by(with_reducible repeat(first | apply Kd.R_alloc | apply Kd.R_drewN | apply Kd.R_drew));exact HO669.out) hb);have n3_:=Aside0.mk (bkB (g:=gb658) (o:=.cells #[.int .i64 a1_0,.int .i64 a1_1] 23 (0,0)) (by(with_reducible repeat(first | refine bkN ?_ _ | refine bkD ?_ | refine bkA ?_ _));exact BK658.out) hb);have n4_:=Aside0.mk (bwT (by repeat(first |(with_reducible first | exact HB.out | apply bwA | apply bwN | apply bw1 | refine bwS ?_ GE658.out) | exact HB.out)) hb);clear HO661;clear HO665;clear HO669;clear BK658;clear HB;have HO661:=n0_;have HO665:=n1_;have HO669:=n2_;have BK658:=n3_;have HB:=n4_;clear n0_ n1_ n2_ n3_ n4_;(try clear hb);(try clear hb2);(try clear hk);(try clear hi);obtain ⟨Ao20,co20,eo20⟩:=Kd.R_slice HO665.out;subst eo20;obtain ⟨Ao21,co21,eo21⟩:=Kd.R_slice HO669.out;subst eo21) |(go_at_call 19;(with_reducible refine(w06_awake.calls k  t671 _ A12.out).mono ?_);rintro e w22 ⟨rfl,hb⟩;have n0_:=Aside0.mk (Kd.R_below (by(with_reducible repeat(first | apply Kd.R_alloc | apply Kd.R_drewN | apply Kd.R_drew));exact HO661.out) hb);have n1_:=Aside0.mk (Kd.R_below (by(with_reducible repeat(first | apply Kd.R_alloc | apply Kd.R_drewN | apply Kd.R_drew));exact HO665.out) hb);have n2_:=Aside0.mk (Kd.R_below (by(with_reducible repeat(first | apply Kd.R_alloc | apply Kd.R_drewN | apply Kd.R_drew));exact HO669.out) hb);have n3_:=Aside0.mk (bkB (g:=gb658) (o:=.cells #[.int .i64 a1_0,.int .i64 a1_1] 23 (0,0)) (by(with_reducible repeat(first | refine bkN ?_ _ | refine bkD ?_ | refine bkA ?_ _));exact BK658.out) hb);have n4_:=Aside0.mk (bwT (by repeat(first |(with_reducible first | exact HB.out | apply bwA | apply bwN | apply bw1 | refine bwS ?_ GE658.out) | exact HB.out)) hb);clear HO661;clear HO665;clear HO669;clear BK658;clear HB;have HO661:=n0_;have HO665:=n1_;have HO669:=n2_;have BK658:=n3_;have HB:=n4_;clear n0_ n1_ n2_ n3_ n4_;(try clear hb);(try clear hb2);(try clear hk);(try clear hi))))
  go_ret
  exact⟨by first | rfl |(simp [errW_none,errW_some] <;> rfl) |(simp [*,errW_none,errW_some] <;> rfl),by repeat(first |(with_reducible first | exact HB.out | apply bwA | apply bwN | apply bw1 | refine bwS ?_ GE658.out) | exact HB.out)⟩
 replace c7:=Bool.eq_false_iff.mpr c7
 subst c7
 have H1 :((q06_Bound.f k t659 a1_0 a1_1 true).bind fun t672=>((w06_types.f k t662 t672).bind fun t675=>(if t675 = true then(if t663 = 0 then((q06_Bound.f k t659 a1_0 a1_1 false).bind fun t676=>((w06_types.f k t666 t676).bind fun t679=>(if t679 = true then(if t667 = 0 then((w06_awake.f k).bind fun t680=>(some t680)) else(some false)) else(some false)))) else(some false)) else(some false)))) = some r:=by rw [if_neg (show ¬ (false = true) by decide)] at H;exact H
 clear H
 have H:=H1
 clear H1
 replace H:=Option.bind_eq_some_iff.mp H
 obtain ⟨t672,A570,H⟩:=H
 replace H :((w06_types.f k t662 t672).bind fun t675=>(if t675 = true then(if t663 = 0 then((q06_Bound.f k t659 a1_0 a1_1 false).bind fun t676=>((w06_types.f k t666 t676).bind fun t679=>(if t679 = true then(if t667 = 0 then((w06_awake.f k).bind fun t680=>(some t680)) else(some false)) else(some false)))) else(some false)) else(some false))) = some r:=H
 have A57:=Aside0.mk A570
 clear A570
 replace H:=Option.bind_eq_some_iff.mp H
 obtain ⟨t675,A580,H⟩:=H
 replace H :(if t675 = true then(if t663 = 0 then((q06_Bound.f k t659 a1_0 a1_1 false).bind fun t676=>((w06_types.f k t666 t676).bind fun t679=>(if t679 = true then(if t667 = 0 then((w06_awake.f k).bind fun t680=>(some t680)) else(some false)) else(some false)))) else(some false)) else(some false)) = some r:=H
 have A58:=Aside0.mk A580
 clear A580
 by_cases c59 : t675 = true
 rotate_left
 ·replace c59 := Bool.eq_false_iff.mpr c59
  subst c59
  have H1 :(some false) = some r:=by rw [if_neg (show ¬ (false = true) by decide)] at H;exact H
  clear H
  have H:=H1
  clear H1
  exact absurd ((Option.some.inj H).trans HTR.out) (by decide)
 subst c59
 have H1 :(if t663 = 0 then((q06_Bound.f k t659 a1_0 a1_1 false).bind fun t676=>((w06_types.f k t666 t676).bind fun t679=>(if t679 = true then(if t667 = 0 then((w06_awake.f k).bind fun t680=>(some t680)) else(some false)) else(some false)))) else(some false)) = some r:=by rw [if_pos rfl] at H;exact H
 clear H
 have H:=H1
 clear H1
 by_cases c60 : t663 = 0
 rotate_left
 ·rw [if_neg c60] at H
  have c60b0 :(t663 == 0) = false:=beq_eq_false_iff_ne.mpr c60
  have c60b1 :(t663 != 0) = true:=bne_iff_ne.mpr c60
  exact absurd ((Option.some.inj H).trans HTR.out) (by decide)
 rw [if_pos c60] at H
 have c60b0 :(t663 == 0) = true:=beq_iff_eq.mpr c60
 have c60b1 :(t663 != 0) = false:=bne_eq_false_iff_eq.mpr c60
 clear c60
 replace H:=Option.bind_eq_some_iff.mp H
 obtain ⟨t676,A610,H⟩:=H
 replace H :((w06_types.f k t666 t676).bind fun t679=>(if t679 = true then(if t667 = 0 then((w06_awake.f k).bind fun t680=>(some t680)) else(some false)) else(some false))) = some r:=H
 have A61:=Aside0.mk A610
 clear A610
 replace H:=Option.bind_eq_some_iff.mp H
 obtain ⟨t679,A620,H⟩:=H
 replace H :(if t679 = true then(if t667 = 0 then((w06_awake.f k).bind fun t680=>(some t680)) else(some false)) else(some false)) = some r:=H
 have A62:=Aside0.mk A620
 clear A620
 by_cases c63 : t679 = true
 rotate_left
 ·replace c63 := Bool.eq_false_iff.mpr c63
  subst c63
  have H1 :(some false) = some r:=by rw [if_neg (show ¬ (false = true) by decide)] at H;exact H
  clear H
  have H:=H1
  clear H1
  exact absurd ((Option.some.inj H).trans HTR.out) (by decide)
 subst c63
 have H1 :(if t667 = 0 then((w06_awake.f k).bind fun t680=>(some t680)) else(some false)) = some r:=by rw [if_pos rfl] at H;exact H
 clear H
 have H:=H1
 clear H1
 by_cases c64 : t667 = 0
 rotate_left
 ·rw [if_neg c64] at H
  have c64b0 :(t667 == 0) = false:=beq_eq_false_iff_ne.mpr c64
  have c64b1 :(t667 != 0) = true:=bne_iff_ne.mpr c64
  exact absurd ((Option.some.inj H).trans HTR.out) (by decide)
 rw [if_pos c64] at H
 have c64b0 :(t667 == 0) = true:=beq_iff_eq.mpr c64
 have c64b1 :(t667 != 0) = false:=bne_eq_false_iff_eq.mpr c64
 clear c64
 replace H:=Option.bind_eq_some_iff.mp H
 obtain ⟨t680,A650,H⟩:=H
 replace H :(some t680) = some r:=H
 have A65:=Aside0.mk A650
 clear A650
 obtain rfl:=Option.some.inj H
 go_enter Try.func12,Try.ntmps12
 go_wp2_with (first |((with_reducible refine gate_dst (N:=3) rfl ?_);(try(refine gate_guard (by rfl) ?_;dsimp only));refine box_event ?hg (N:=3) ?hd (cs:=#[.int .i64 a1_0,.int .i64 a1_1]) (t:=23) ?hr ?_;(case hd=>rfl);(case hg=>rfl);(case hr=>first |(go_simp;done) |(go_simp;rfl));intro gb658 hg w66 hbox hb;have n0_:=Aside0.mk (bwT (by repeat(first |(with_reducible first | exact HB.out | apply bwA | apply bwN | apply bw1) | exact HB.out)) hb);have n1_:=Aside0.mk (hbox);have n2_:=Aside0.mk ((by rw [hg];exact(bwZ (by repeat(first |(with_reducible first | exact HB.out | apply bwA | apply bwN | apply bw1) | exact HB.out))) : w.heap.size≤gb658));have n3_:=Aside0.mk ((by rw [hg];exact(bwZ (by repeat(first |(with_reducible first | exact HB.out | apply bwA | apply bwN | apply bw1) | exact HB.out))) : w.heap.size≤gb658));clear HB;have HB:=n0_;have BK658:=n1_;have GW658:=n2_;have GE658:=n3_;clear n0_ n1_ n2_ n3_;clear hb hbox hg) |(go_at_call 15;(with_reducible refine(w06_own.calls _ _ l0 t659 _ ?side1 ?side2 A3.out).mono ?_);(case side1=>repeat(first | exact(Kd.C_below HR0.out HB.out) |(with_reducible refine Kd.C_alloc ?_ _) |(with_reducible refine Kd.C_drewN ?_ _) |(with_reducible refine Kd.C_drew ?_)));(case side2=>exact HC0.out);rintro e w67 ⟨v660,rfl,ho0,hb⟩;have n0_:=Aside0.mk (Kd.R_lower ho0 (bwZ (by repeat(first |(with_reducible first | exact HB.out | apply bwA | apply bwN | apply bw1 | refine bwS ?_ GE658.out) | exact HB.out))));have n1_:=Aside0.mk (bkB (g:=gb658) (o:=.cells #[.int .i64 a1_0,.int .i64 a1_1] 23 (0,0)) (by(with_reducible repeat(first | refine bkN ?_ _ | refine bkD ?_ | refine bkA ?_ _));exact BK658.out) hb);have n2_:=Aside0.mk (bwT (by repeat(first |(with_reducible first | exact HB.out | apply bwA | apply bwN | apply bw1 | refine bwS ?_ GE658.out) | exact HB.out)) hb);clear BK658;clear HB;have HO661:=n0_;have BK658:=n1_;have HB:=n2_;clear n0_ n1_ n2_;(try clear hb);(try clear hb2);(try clear hk);(try clear hi);(try clear ho0);have hcz68_0 : w67.cell? ⟨gb658,0,none⟩ = some (.int .i64 a1_0):=(bkC BK658.out 0).trans rfl;have hcz68_1 : w67.cell? ⟨gb658,1,none⟩ = some (.int .i64 a1_1):=(bkC BK658.out 1).trans rfl;have hfz68_0:=bkF BK658.out 0;have hfz68_1:=bkF BK658.out 1;obtain ⟨Ao69,co69,eo69⟩:=Kd.R_slice HO661.out;subst eo69) )
 repeat(go_quiet (fail);try go_wp2_with (first |(go_at_call 37;(with_reducible refine(loops_Join.calls k _ _ t659 a1_0 a1_1 t662 t663 _ ?side1 ?side2 A4.out).mono ?_);(case side1=>repeat(first | exact(Kd.R_reads' HO661.out).2.2 |(with_reducible refine Kd.C_alloc ?_ _) |(with_reducible refine Kd.C_drewN ?_ _) |(with_reducible refine Kd.C_drew ?_)));(case side2=>exact(Kd.R_reads' HO661.out).2.1);rintro e w70 ⟨v664,rfl,ho0,hb⟩;have n0_:=Aside0.mk (Kd.R_elder' (by(with_reducible repeat(first | apply Kd.R_alloc | apply Kd.R_drewN | apply Kd.R_drew));exact HO661.out) (Kd.R_base ho0) hb);have n1_:=Aside0.mk (Kd.R_lower (Kd.R_new' ho0 (Kd.R_lt (by(with_reducible repeat(first | apply Kd.R_alloc | apply Kd.R_drewN | apply Kd.R_drew));exact HO661.out))) (bwZ (by repeat(first |(with_reducible first | exact HB.out | apply bwA | apply bwN | apply bw1 | refine bwS ?_ GE658.out) | exact HB.out))));have n2_:=Aside0.mk (bkB (g:=gb658) (o:=.cells #[.int .i64 a1_0,.int .i64 a1_1] 23 (0,0)) (by(with_reducible repeat(first | refine bkN ?_ _ | refine bkD ?_ | refine bkA ?_ _));exact BK658.out) hb);have n3_:=Aside0.mk (bwT (by repeat(first |(with_reducible first | exact HB.out | apply bwA | apply bwN | apply bw1 | refine bwS ?_ GE658.out) | exact HB.out)) hb);clear HO661;clear BK658;clear HB;have HO661:=n0_;have HO665:=n1_;have BK658:=n2_;have HB:=n3_;clear n0_ n1_ n2_ n3_;(try clear hb);(try clear hb2);(try clear hk);(try clear hi);(try clear ho0)) |(go_at_call 38;(with_reducible refine(loops_Meet.calls k _ _ t659 a1_0 a1_1 t666 t667 _ ?side1 ?side2 A5.out).mono ?_);(case side1=>repeat(first | exact(Kd.R_reads' HO661.out).2.2 |(with_reducible refine Kd.C_alloc ?_ _) |(with_reducible refine Kd.C_drewN ?_ _) |(with_reducible refine Kd.C_drew ?_)));(case side2=>exact(Kd.R_reads' HO661.out).2.1);rintro e w71 ⟨v668,rfl,ho0,hb⟩;have n0_:=Aside0.mk (Kd.R_elder' (by(with_reducible repeat(first | apply Kd.R_alloc | apply Kd.R_drewN | apply Kd.R_drew));exact HO661.out) (Kd.R_base ho0) hb);have n1_:=Aside0.mk (Kd.R_elder' (by(with_reducible repeat(first | apply Kd.R_alloc | apply Kd.R_drewN | apply Kd.R_drew));exact HO665.out) (Kd.R_base ho0) hb);have n2_:=Aside0.mk (Kd.R_lower (Kd.R_new' (Kd.R_new' ho0 (Kd.R_lt (by(with_reducible repeat(first | apply Kd.R_alloc | apply Kd.R_drewN | apply Kd.R_drew));exact HO661.out))) (Kd.R_lt (by(with_reducible repeat(first | apply Kd.R_alloc | apply Kd.R_drewN | apply Kd.R_drew));exact HO665.out))) (bwZ (by repeat(first |(with_reducible first | exact HB.out | apply bwA | apply bwN | apply bw1 | refine bwS ?_ GE658.out) | exact HB.out))));have n3_:=Aside0.mk (bkB (g:=gb658) (o:=.cells #[.int .i64 a1_0,.int .i64 a1_1] 23 (0,0)) (by(with_reducible repeat(first | refine bkN ?_ _ | refine bkD ?_ | refine bkA ?_ _));exact BK658.out) hb);have n4_:=Aside0.mk (bwT (by repeat(first |(with_reducible first | exact HB.out | apply bwA | apply bwN | apply bw1 | refine bwS ?_ GE658.out) | exact HB.out)) hb);clear HO661;clear HO665;clear BK658;clear HB;have HO661:=n0_;have HO665:=n1_;have HO669:=n2_;have BK658:=n3_;have HB:=n4_;clear n0_ n1_ n2_ n3_ n4_;(try clear hb);(try clear hb2);(try clear hk);(try clear hi);(try clear ho0)) |(go_at_call 18;(with_reducible refine(w06_bad.calls k _ _ t659 a1_0 a1_1 false _ ?side1 ?side2 A6.out).mono ?_);(case side1=>repeat(first | exact(Kd.R_reads' HO661.out).2.2 |(with_reducible refine Kd.C_alloc ?_ _) |(with_reducible refine Kd.C_drewN ?_ _) |(with_reducible refine Kd.C_drew ?_)));(case side2=>exact(Kd.R_reads' HO661.out).2.1);rintro e w72 ⟨rfl,hb⟩;have n0_:=Aside0.mk (Kd.R_below (by(with_reducible repeat(first | apply Kd.R_alloc | apply Kd.R_drewN | apply Kd.R_drew));exact HO661.out) hb);have n1_:=Aside0.mk (Kd.R_below (by(with_reducible repeat(first | apply Kd.R_alloc | apply Kd.R_drewN | apply Kd.R_drew));exact HO665.out) hb);have n2_:=Aside0.mk (Kd.R_below (by(with_reducible repeat(first | apply Kd.R_alloc | apply Kd.R_drewN | apply Kd.R_drew));exact HO669.out) hb);have n3_:=Aside0.mk (bkB (g:=gb658) (o:=.cells #[.int .i64 a1_0,.int .i64 a1_1] 23 (0,0)) (by(with_reducible repeat(first | refine bkN ?_ _ | refine bkD ?_ | refine bkA ?_ _));exact BK658.out) hb);have n4_:=Aside0.mk (bwT (by repeat(first |(with_reducible first | exact HB.out | apply bwA | apply bwN | apply bw1 | refine bwS ?_ GE658.out) | exact HB.out)) hb);clear HO661;clear HO665;clear HO669;clear BK658;clear HB;have HO661:=n0_;have HO665:=n1_;have HO669:=n2_;have BK658:=n3_;have HB:=n4_;clear n0_ n1_ n2_ n3_ n4_;(try clear hb);(try clear hb2);(try clear hk);(try clear hi)) |(go_at_call 39;(with_reducible refine(q06_Bound.calls k _ _ t659 a1_0 a1_1 true t672 _ ?side1 ?side2 A57.out).mono ?_);(case side1=>repeat(first | exact(Kd.R_reads' HO661.out).2.2 |(with_reducible refine Kd.C_alloc ?_ _) |(with_reducible refine Kd.C_drewN ?_ _) |(with_reducible refine Kd.C_drew ?_)));(case side2=>exact(Kd.R_reads' HO661.out).2.1);rintro e w73 ⟨v673,rfl,ho0,hb⟩;have n0_:=Aside0.mk (Kd.R_elder' (by(with_reducible repeat(first | apply Kd.R_alloc | apply Kd.R_drewN | apply Kd.R_drew));exact HO661.out) (Kd.R_base ho0) hb);have n1_:=Aside0.mk (Kd.R_elder' (by(with_reducible repeat(first | apply Kd.R_alloc | apply Kd.R_drewN | apply Kd.R_drew));exact HO665.out) (Kd.R_base ho0) hb);have n2_:=Aside0.mk (Kd.R_elder' (by(with_reducible repeat(first | apply Kd.R_alloc | apply Kd.R_drewN | apply Kd.R_drew));exact HO669.out) (Kd.R_base ho0) hb);have n3_:=Aside0.mk (Kd.R_lower (Kd.R_new' (Kd.R_new' (Kd.R_new' ho0 (Kd.R_lt (by(with_reducible repeat(first | apply Kd.R_alloc | apply Kd.R_drewN | apply Kd.R_drew));exact HO661.out))) (Kd.R_lt (by(with_reducible repeat(first | apply Kd.R_alloc | apply Kd.R_drewN | apply Kd.R_drew));exact HO665.out))) (Kd.R_lt (by(with_reducible repeat(first | apply Kd.R_alloc | apply Kd.R_drewN | apply Kd.R_drew));exact HO669.out))) (bwZ (by repeat(first |(with_reducible first | exact HB.out | apply bwA | apply bwN | apply bw1 | refine bwS ?_ GE658.out) | exact HB.out))));have n4_:=Aside0.mk (bkB (g:=gb658) (o:=.cells #[.int .i64 a1_0,.int .i64 a1_1] 23 (0,0)) (by(with_reducible repeat(first | refine bkN ?_ _ | refine bkD ?_ | refine bkA ?_ _));exact BK658.out) hb);have n5_:=Aside0.mk (bwT (by repeat(first |(with_reducible first | exact HB.out | apply bwA | apply bwN | apply bw1 | refine bwS ?_ GE658.out) | exact HB.out)) hb);clear HO661;clear HO665;clear HO669;clear BK658;clear HB;have HO661:=n0_;have HO665:=n1_;have HO669:=n2_;have HO674:=n3_;have BK658:=n4_;have HB:=n5_;clear n0_ n1_ n2_ n3_ n4_ n5_;(try clear hb);(try clear hb2);(try clear hk);(try clear hi);(try clear ho0);obtain ⟨Ao74,co74,eo74⟩:=Kd.R_slice HO665.out;subst eo74;obtain ⟨Ao75,co75,eo75⟩:=Kd.R_slice HO674.out;subst eo75) |(go_at_call 20;(with_reducible refine(w06_types.calls k _ _ t662 _ _ t672 true _ ?side1 ?side2 ?side3 ?side4 A58.out).mono ?_);(case side1=>repeat(first | exact(Kd.R_reads' HO665.out).2.2 |(with_reducible refine Kd.C_alloc ?_ _) |(with_reducible refine Kd.C_drewN ?_ _) |(with_reducible refine Kd.C_drew ?_)));(case side2=>exact(Kd.R_reads' HO665.out).2.1);(case side3=>repeat(first | exact(Kd.R_reads' HO674.out).2.2 |(with_reducible refine Kd.C_alloc ?_ _) |(with_reducible refine Kd.C_drewN ?_ _) |(with_reducible refine Kd.C_drew ?_)));(case side4=>exact(Kd.R_reads' HO674.out).2.1);rintro e w' ⟨rfl,⟨nd,rfl⟩⟩;(try first | exact⟨rfl,_,World.drewN_drewN _ _ _⟩ | exact⟨rfl,_,Eq.trans (World.drewN_drewN _ _ _) (congrArg (World.drewN _) (Nat.add_assoc _ _ _))⟩)) |(go_at_call 39;(with_reducible refine(q06_Bound.calls k _ _ t659 a1_0 a1_1 false t676 _ ?side1 ?side2 A61.out).mono ?_);(case side1=>repeat(first | exact(Kd.R_reads' HO661.out).2.2 |(with_reducible refine Kd.C_alloc ?_ _) |(with_reducible refine Kd.C_drewN ?_ _) |(with_reducible refine Kd.C_drew ?_)));(case side2=>exact(Kd.R_reads' HO661.out).2.1);rintro e w76 ⟨v677,rfl,ho0,hb⟩;have n0_:=Aside0.mk (Kd.R_elder' (by(with_reducible repeat(first | apply Kd.R_alloc | apply Kd.R_drewN | apply Kd.R_drew));exact HO661.out) (Kd.R_base ho0) hb);have n1_:=Aside0.mk (Kd.R_elder' (by(with_reducible repeat(first | apply Kd.R_alloc | apply Kd.R_drewN | apply Kd.R_drew));exact HO665.out) (Kd.R_base ho0) hb);have n2_:=Aside0.mk (Kd.R_elder' (by(with_reducible repeat(first | apply Kd.R_alloc | apply Kd.R_drewN | apply Kd.R_drew));exact HO669.out) (Kd.R_base ho0) hb);have n3_:=Aside0.mk (Kd.R_elder' (by(with_reducible repeat(first | apply Kd.R_alloc | apply Kd.R_drewN | apply Kd.R_drew));exact HO674.out) (Kd.R_base ho0) hb);have n4_:=Aside0.mk (Kd.R_lower (Kd.R_new' (Kd.R_new' (Kd.R_new' (Kd.R_new' ho0 (Kd.R_lt (by(with_reducible repeat(first | apply Kd.R_alloc | apply Kd.R_drewN | apply Kd.R_drew));exact HO661.out))) (Kd.R_lt (by(with_reducible repeat(first | apply Kd.R_alloc | apply Kd.R_drewN | apply Kd.R_drew));exact HO665.out))) (Kd.R_lt (by(with_reducible repeat(first | apply Kd.R_alloc | apply Kd.R_drewN | apply Kd.R_drew));exact HO669.out))) (Kd.R_lt (by(with_reducible repeat(first | apply Kd.R_alloc | apply Kd.R_drewN | apply Kd.R_drew));exact HO674.out))) (bwZ (by repeat(first |(with_reducible first | exact HB.out | apply bwA | apply bwN | apply bw1 | refine bwS ?_ GE658.out) | exact HB.out))));have n5_:=Aside0.mk (bkB (g:=gb658) (o:=.cells #[.int .i64 a1_0,.int .i64 a1_1] 23 (0,0)) (by(with_reducible repeat(first | refine bkN ?_ _ | refine bkD ?_ | refine bkA ?_ _));exact BK658.out) hb);have n6_:=Aside0.mk (bwT (by repeat(first |(with_reducible first | exact HB.out | apply bwA | apply bwN | apply bw1 | refine bwS ?_ GE658.out) | exact HB.out)) hb);clear HO661;clear HO665;clear HO669;clear HO674;clear BK658;clear HB;have HO661:=n0_;have HO665:=n1_;have HO669:=n2_;have HO674:=n3_;have HO678:=n4_;have BK658:=n5_;have HB:=n6_;clear n0_ n1_ n2_ n3_ n4_ n5_ n6_;(try clear hb);(try clear hb2);(try clear hk);(try clear hi);(try clear ho0);obtain ⟨Ao77,co77,eo77⟩:=Kd.R_slice HO669.out;subst eo77;obtain ⟨Ao78,co78,eo78⟩:=Kd.R_slice HO678.out;subst eo78) |(go_at_call 20;(with_reducible refine(w06_types.calls k _ _ t666 _ _ t676 true _ ?side1 ?side2 ?side3 ?side4 A62.out).mono ?_);(case side1=>repeat(first | exact(Kd.R_reads' HO669.out).2.2 |(with_reducible refine Kd.C_alloc ?_ _) |(with_reducible refine Kd.C_drewN ?_ _) |(with_reducible refine Kd.C_drew ?_)));(case side2=>exact(Kd.R_reads' HO669.out).2.1);(case side3=>repeat(first | exact(Kd.R_reads' HO678.out).2.2 |(with_reducible refine Kd.C_alloc ?_ _) |(with_reducible refine Kd.C_drewN ?_ _) |(with_reducible refine Kd.C_drew ?_)));(case side4=>exact(Kd.R_reads' HO678.out).2.1);rintro e w' ⟨rfl,⟨nd,rfl⟩⟩;(try first | exact⟨rfl,_,World.drewN_drewN _ _ _⟩ | exact⟨rfl,_,Eq.trans (World.drewN_drewN _ _ _) (congrArg (World.drewN _) (Nat.add_assoc _ _ _))⟩)) |(go_at_call 19;(with_reducible refine(w06_awake.calls k  t680 _ A65.out).mono ?_);rintro e w79 ⟨rfl,hb⟩;have n0_:=Aside0.mk (Kd.R_below (by(with_reducible repeat(first | apply Kd.R_alloc | apply Kd.R_drewN | apply Kd.R_drew));exact HO661.out) hb);have n1_:=Aside0.mk (Kd.R_below (by(with_reducible repeat(first | apply Kd.R_alloc | apply Kd.R_drewN | apply Kd.R_drew));exact HO665.out) hb);have n2_:=Aside0.mk (Kd.R_below (by(with_reducible repeat(first | apply Kd.R_alloc | apply Kd.R_drewN | apply Kd.R_drew));exact HO669.out) hb);have n3_:=Aside0.mk (Kd.R_below (by(with_reducible repeat(first | apply Kd.R_alloc | apply Kd.R_drewN | apply Kd.R_drew));exact HO674.out) hb);have n4_:=Aside0.mk (Kd.R_below (by(with_reducible repeat(first | apply Kd.R_alloc | apply Kd.R_drewN | apply Kd.R_drew));exact HO678.out) hb);have n5_:=Aside0.mk (bkB (g:=gb658) (o:=.cells #[.int .i64 a1_0,.int .i64 a1_1] 23 (0,0)) (by(with_reducible repeat(first | refine bkN ?_ _ | refine bkD ?_ | refine bkA ?_ _));exact BK658.out) hb);have n6_:=Aside0.mk (bwT (by repeat(first |(with_reducible first | exact HB.out | apply bwA | apply bwN | apply bw1 | refine bwS ?_ GE658.out) | exact HB.out)) hb);clear HO661;clear HO665;clear HO669;clear HO674;clear HO678;clear BK658;clear HB;have HO661:=n0_;have HO665:=n1_;have HO669:=n2_;have HO674:=n3_;have HO678:=n4_;have BK658:=n5_;have HB:=n6_;clear n0_ n1_ n2_ n3_ n4_ n5_ n6_;(try clear hb);(try clear hb2);(try clear hk);(try clear hi))))
 go_ret
 exact⟨by first | rfl |(simp [errW_none,errW_some] <;> rfl) |(simp [*,errW_none,errW_some] <;> rfl),by repeat(first |(with_reducible first | exact HB.out | apply bwA | apply bwN | apply bw1 | refine bwS ?_ GE658.out) | exact HB.out)⟩
end Go.Proofs.Ytnfmeafiaipplaa.S

namespace Go.Proofs.Ytnfmeafiaipplaa.P
open Go.RowKit Go.Proofs.YtnfmeafiaipplaaW.PrintWords

theorem w64 {x : Int} (h0 : -9223372036854775808≤x) (h1 : x≤9223372036854775807) : wrap64 x = x:=by
 unfold wrap64
 omega
theorem rd_nat (l : List Int) (i : Nat) : rd l (i : Int) = l.getD i 0:=by
 unfold rd
 rw [show((i : Int)).toNat = i by omega]
theorem rd_lt (l : List Int) (i : Nat) (h : i < l.length) : rd l (i : Int) = l[i]:=by
 rw [rd_nat,List.getD_eq_getElem?_getD,List.getElem?_eq_getElem h,Option.getD_some]
theorem nodup_len : ∀ (n : Nat) (l : List Int) (lo : Int), l.Nodup → (∀ a ∈ l, lo < a ∧ a ≤ lo + n) → l.length ≤ n
 | 0,l,lo,_,h=>by
  cases l with
  | nil=>simp
  | cons a t=>have:=h a (by simp);omega
 | n + 1,l,lo,hd,h=>by
  have h1:=nodup_len n (l.erase (lo + 1)) (lo + 1) (hd.erase _) (fun a ha=>by
   have hm:=List.mem_of_mem_erase ha
   have hne : a≠lo + 1:=fun e=>by
    subst e
    exact(List.Nodup.not_mem_erase hd) ha
   have:=h a hm
   omega)
  have h2 : l.length ≤(l.erase (lo + 1)).length + 1:=by
   rw [List.length_erase]
   split <;> omega
  omega
end Go.Proofs.Ytnfmeafiaipplaa.P

namespace Go.Proofs.Ytnfmeafiaipplaa.P
open Go.RowKit Go.Proofs.Ytnfmeafiaipplaa.S Go.Proofs.YtnfmeafiaipplaaW.PrintWords
set_option linter.unusedVariables false

/-- A node of a list, by its position. -/
abbrev nd (t : List S39) (i : Int) : S39:=rd_T39 t i
inductive T where
 | leaf (k : Int)
 | node (k : Int) (a b : T)
 deriving DecidableEq
/-- What a node shows down to a depth. -/
def tr (t : List S39) : Nat → Int → T
 | 0,i=>.leaf (nd t i).f0
 | d + 1,i=>if 4 ≤(nd t i).f0 then .node (nd t i).f0 (tr t d (nd t i).f1) (tr t d (nd t i).f2) else .leaf (nd t i).f0
def okN (t : List S39) (i : Int) : Prop :=
 (0 ≤(nd t i).f0 ∧(nd t i).f0≤5) ∧((nd t i).f0 < 4 →(nd t i).f1 = 0 ∧(nd t i).f2 = 0) ∧(0 ≤(nd t i).f1 ∧(nd t i).f1 < t.length) ∧(0 ≤(nd t i).f2 ∧(nd t i).f2 < t.length)
instance (t : List S39) (i : Int) : Decidable (okN t i):=by unfold okN;infer_instance
/-- Types: not empty, every node in order. -/
def IsTy (t : List S39) : Prop:=1≤t.length∧∀ i : Int,0≤i→i < t.length→okN t i
theorem T.kind_node {k k' : Int} {a b a' b' : T} (h : T.node k a b = T.node k' a' b') : k = k'∧a = a'∧b = b':=by
 injection h with h1 h2 h3
 exact⟨h1,h2,h3⟩
theorem tr_kind {t t' : List S39} {d : Nat} {i j : Int} (h : tr t d i = tr t' d j) :(nd t i).f0 =(nd t' j).f0:=by
 cases d with
 | zero=>injection h
 | succ d =>
  unfold tr at h
  split at h <;> split at h
  ·exact(T.kind_node h).1
  ·cases h
  ·cases h
  injection h
/-- Two nodes stand for the same tree. -/
def Same (t : List S39) (i : Int) (t' : List S39) (j : Int) : Prop:=∀ d,tr t d i = tr t' d j
theorem Same.refl (t : List S39) (i : Int) : Same t i t i:=fun _=>rfl
theorem Same.symm {t t' : List S39} {i j : Int} (h : Same t i t' j) : Same t' j t i:=fun d=>(h d).symm
theorem Same.trans {t t' t'' : List S39} {i j k : Int} (h : Same t i t' j) (h' : Same t' j t'' k) : Same t i t'' k:=fun d=>(h d).trans (h' d)
theorem same_iff {t t' : List S39} {i j : Int} : Same t i t' j ↔(nd t i).f0 =(nd t' j).f0 ∧(4 ≤(nd t i).f0→Same t (nd t i).f1 t' (nd t' j).f1∧Same t (nd t i).f2 t' (nd t' j).f2):=by
 constructor
 ·intro h
  have hk:=tr_kind (h 0)
  refine⟨hk,fun c=>?_⟩
  have hh : ∀ d,tr t d (nd t i).f1 = tr t' d (nd t' j).f1∧tr t d (nd t i).f2 = tr t' d (nd t' j).f2:=fun d=>by
   have:=h (d + 1)
   rw [show tr t (d + 1) i = .node (nd t i).f0 (tr t d (nd t i).f1) (tr t d (nd t i).f2) from if_pos c,show tr t' (d + 1) j = .node (nd t' j).f0 (tr t' d (nd t' j).f1) (tr t' d (nd t' j).f2) from if_pos (by rw [← hk];exact c)] at this
   exact(T.kind_node this).2
  exact⟨fun d=>(hh d).1,fun d=>(hh d).2⟩
 rintro⟨hk,h⟩ d
 cases d with
 | zero=>unfold tr;rw [hk]
 | succ d =>
  unfold tr
  by_cases c : 4 ≤(nd t i).f0
  rotate_left
  ·rw [if_neg c,if_neg (by rw [← hk];exact c),hk]
  rw [if_pos c,if_pos (by rw [← hk];exact c),hk,(h c).1 d,(h c).2 d]
/-- Whatever is closed holds of the same trees alone. -/
theorem same_closed {t t' : List S39} (R : Int→Int→Prop) (hR : ∀ i j,R i j →(nd t i).f0 =(nd t' j).f0 ∧(4 ≤(nd t i).f0→R (nd t i).f1 (nd t' j).f1∧R (nd t i).f2 (nd t' j).f2)) : ∀ i j,R i j→Same t i t' j:=by
 intro i j h d
 induction d generalizing i j with
 | zero=>unfold tr;rw [(hR i j h).1]
 | succ d ih =>
  obtain ⟨hk,hp⟩:=hR i j h
  unfold tr
  by_cases c : 4 ≤(nd t i).f0
  rotate_left
  ·rw [if_neg c,if_neg (by rw [← hk];exact c),hk]
  rw [if_pos c,if_pos (by rw [← hk];exact c),hk,ih _ _ (hp c).1,ih _ _ (hp c).2]
noncomputable def sameB (t : List S39) (i j : Int) : Bool:=@decide (Same t i t j) (Classical.propDecidable _)
theorem sameB_iff {t : List S39} {i j : Int} : sameB t i j = true↔Same t i t j:=by
 unfold sameB
 exact @decide_eq_true_iff _ (Classical.propDecidable _)
theorem idx_lt {n i j : Nat} (hi : i < n) (hj : j < n) : n * i + j < n * n:=by
 have h1 : n * i + n≤n * n:=by
  have : n * (i + 1)≤n * n:=Nat.mul_le_mul_left n hi
  rwa [Nat.mul_add,Nat.mul_one] at this
 omega
theorem idx_inj {n i j i' j' : Nat} (hj : j < n) (hj' : j' < n) (h : n * i + j = n * i' + j') : i = i'∧j = j':=by
 have h1 :(n * i + j) / n = i:=by rw [Nat.add_comm,Nat.add_mul_div_left _ _ (by omega),Nat.div_eq_of_lt hj,Nat.zero_add]
 have h2 :(n * i' + j') / n = i':=by rw [Nat.add_comm,Nat.add_mul_div_left _ _ (by omega),Nat.div_eq_of_lt hj',Nat.zero_add]
 rw [h] at h1
 have : i = i':=h1.symm.trans h2
 subst this
 exact⟨rfl,by omega⟩
/-- What a table tells of a pair. -/
def tb (n : Nat) (x : List Bool) (i j : Nat) : Bool:=x.getD (n * i + j) false
theorem tb_set {n i j i' j' : Nat} {x : List Bool} (hx : x.length = n * n) (hi : i < n) (hj : j < n) (hj' : j' < n) (v : Bool) : tb n (x.set (n * i + j) v) i' j' = if i' = i∧j' = j then v else tb n x i' j':=by
 unfold tb
 have hlt:=idx_lt hi hj
 by_cases h : i' = i∧j' = j
 ·rw [if_pos h, h.1, h.2, List.getD_eq_getElem?_getD, List.getElem?_set_self (by omega)]
  rfl
 rw [if_neg h,List.getD_eq_getElem?_getD,List.getD_eq_getElem?_getD,List.getElem?_set_ne (fun e=>h ?_)]
 have:=idx_inj hj hj' e
 exact⟨this.1.symm,this.2.symm⟩
theorem count_set {x : List Bool} : ∀ {k : Nat},x.getD k false = true →(x.set k false).count true + 1 = x.count true:=by
 induction x with
 | nil=>intro k h;simp at h
 | cons a x ih =>
  intro k h
  cases k with
  | zero =>
   have : a = true:=by simpa using h
   subst this
   simp
  | succ k =>
   have:=ih (k:=k) (by simpa using h)
   simp only [List.set_cons_succ,List.count_cons]
   omega

theorem ixw {n i j : Nat} (hn : n≤5000) (hi : i < n) (hj : j < n) : wrap64 (wrap64 ((n : Int) * (i : Int)) + (j : Int)) =((n * i + j : Nat) : Int):=by
 have h1 : n * i≤5000 * 5000:=Nat.mul_le_mul hn (by omega)
 have h2 :((n : Int) * (i : Int)) =((n * i : Nat) : Int):=by push_cast;rfl
 have h3 : wrap64 ((n * i : Nat) : Int) =((n * i : Nat) : Int):=w64 (by omega) (by omega)
 rw [h2,h3,w64 (by omega) (by omega)]
 push_cast
 rfl
theorem w64s {j : Nat} (h : j≤1000000) : wrap64 ((j : Int) + 1) =((j + 1 : Nat) : Int):=by
 rw [w64 (by omega) (by omega)]
 rfl
/-- A node's parts as indexes of a table. -/
theorem ixp {n : Nat} {a b : Int} (hn : n≤5000) (a0 : 0≤a) (a1 : a < n) (b0 : 0≤b) (b1 : b < n) : wrap64 (wrap64 ((n : Int) * a) + b) =((n * a.toNat + b.toNat : Nat) : Int):=by
 have:=ixw hn (i:=a.toNat) (j:=b.toNat) (by omega) (by omega)
 rwa [Int.toNat_of_nonneg a0,Int.toNat_of_nonneg b0] at this
theorem cast0 (k : Nat) :(0 : Int) ≤(k : Int):=Int.natCast_nonneg k
theorem castlt {a b : Nat} (h : a < b) :(a : Int) < (b : Int):=Int.ofNat_lt.2 h
theorem rdOf_tb (n i j : Nat) (x : List Bool) : rdOf false x ((n * i + j : Nat) : Int) = tb n x i j:=by
 unfold rdOf tb
 rw [show(((n * i + j : Nat) : Int)).toNat = n * i + j by omega]
section
variable {t : List S39} (hv : ∀ i : Int, 0 ≤ i → i < t.length → okN t i) (hn : t.length ≤ 5000)
include hv hn

/-- The table says nothing false, and tells kinds apart. -/
def EqI (t : List S39) (x : List Bool) : Prop:=x.length = t.length * t.length ∧(∀ i j : Nat,i < t.length→j < t.length→Same t i t j→tb t.length x i j = true) ∧(∀ i j : Nat,i < t.length→j < t.length→tb t.length x i j = true →(nd t i).f0 =(nd t j).f0)
def EqC (t : List S39) (x : List Bool) (i j : Nat) : Prop:=tb t.length x i j = true→4 ≤(nd t i).f0→tb t.length x (nd t i).f1.toNat (nd t j).f1.toNat = true∧tb t.length x (nd t i).f2.toNat (nd t j).f2.toNat = true
omit hv hn in
theorem eqI_clear {x : List Bool} (h : EqI t x) {i j : Nat} (hi : i < t.length) (hj : j < t.length) (hs : ¬ Same t i t j) : EqI t (x.set (t.length * i + j) false):=by
 obtain ⟨h1,h2,h3⟩:=h
 refine⟨by rw [List.length_set];exact h1,fun a b ha hb hab=>?_,fun a b ha hb hab=>?_⟩
 ·rw [tb_set h1 hi hj hb]
  by_cases e : a = i∧b = j
  rotate_left
  ·rw [if_neg e]
   exact h2 a b ha hb hab
  rw [e.1,e.2] at hab
  exact absurd hab hs
 rw [tb_set h1 hi hj hb] at hab
 by_cases e : a = i∧b = j
 ·rw [if_pos e] at hab;cases hab
 rw [if_neg e] at hab
 exact h3 a b ha hb hab
def EqL4 (t : List S39) (x : List Bool) (again : Bool) (i j : Nat) : Prop :=
  ∃ (x' : List Bool) (again' : Bool), EqI t x' ∧ (again' = false → again = false ∧ x' = x ∧ ∀ b, j ≤ b → b < t.length → EqC t x i b) ∧ x'.count true ≤ x.count true ∧ (again = false → again' = true → x'.count true < x.count true) ∧
   ∀ r,Ev (fun k=>q06_Equals.l3 k t t.length x' again' ((i + 1 : Nat) : Int)) r→Ev (fun k=>q06_Equals.l4 k t t.length x again (i : Int) (j : Int)) r
theorem eq_l4 : ∀ (d j : Nat) (i : Nat) (x : List Bool) (again : Bool), j + d = t.length → i < t.length → EqI t x → EqL4 t x again i j
 | 0,j,i,x,again,h,hi,hI=>by
  refine⟨x,again,hI,fun h'=>⟨h',rfl,fun b hb1 hb2=>by omega⟩,Nat.le_refl _,(fun h1 h2=>by rw [h1] at h2;cases h2),fun r hr=>?_⟩
  refine Ev.step (fun k=>?_) hr
  simp only [q06_Equals.l4]
  rw [if_neg (by omega),w64 (by omega) (by omega)]
  rfl
 | d + 1,j,i,x,again,h,hi,hI=>by
  have hj : j < t.length:=by omega
  have hlen:=hI.1
  have hlt:=idx_lt hi hj
  have hoi:=hv i (by omega) (by omega)
  have hoj:=hv j (by omega) (by omega)
  obtain ⟨_,_,⟨a0,a1⟩,⟨a2,a3⟩⟩:=hoi
  obtain ⟨_,_,⟨b0,b1⟩,⟨b2,b3⟩⟩:=hoj
  have goOn : EqC t x i j →(∀ k,q06_Equals.l4 (k + 1) t t.length x again (i : Int) (j : Int) = q06_Equals.l4 k t t.length x again (i : Int) ((j + 1 : Nat) : Int))→EqL4 t x again i j:=fun hc hk=>by
   obtain ⟨x',again',r1,r2,r3,r4,r5⟩:=eq_l4 d (j + 1) i x again (by omega) hi hI
   refine⟨x',again',r1,fun h'=>?_,r3,r4,fun r hr=>Ev.step hk (r5 r hr)⟩
   obtain ⟨s1,s2,s3⟩:=r2 h'
   refine⟨s1,s2,fun b hb1 hb2=>?_⟩
   by_cases e : b = j
   ·rw [e];exact hc
   ·exact s3 b (by omega) hb2
  have clr : tb t.length x i j = true→¬ Same t i t j →(∀ k,q06_Equals.l4 (k + 1) t t.length x again (i : Int) (j : Int) = q06_Equals.l4 k t t.length (x.set (t.length * i + j) false) true (i : Int) ((j + 1 : Nat) : Int))→EqL4 t x again i j:=fun ht hs hk=>by
   obtain ⟨x',again',r1,r2,r3,r4,r5⟩:=eq_l4 d (j + 1) i (x.set (t.length * i + j) false) true (by omega) hi (eqI_clear hI hi hj hs)
   have hcnt :(x.set (t.length * i + j) false).count true + 1 = x.count true:=count_set ht
   refine⟨x',again',r1,fun h'=>?_,by omega,fun _ _=>by omega,fun r hr=>Ev.step hk (r5 r hr)⟩
   have:=(r2 h').1
   cases this
  have l3:=castlt (idx_lt (n:=t.length) (i:=(nd t i).f1.toNat) (j:=(nd t j).f1.toNat) (by omega) (by omega))
  have l4:=castlt (idx_lt (n:=t.length) (i:=(nd t i).f2.toNat) (j:=(nd t j).f2.toNat) (by omega) (by omega))
  have a4 :(nd t i).f1.toNat < t.length:=by omega
  have a5 :(nd t i).f2.toNat < t.length:=by omega
  have b4 :(nd t j).f1.toNat < t.length:=by omega
  have b5 :(nd t j).f2.toNat < t.length:=by omega
  have c1 :(j : Int) < (t.length : Int):=castlt hj
  have c2 :(i : Int) < (t.length : Int):=castlt hi
  have l1:=castlt hlt
  rw [← hlen] at l1 l3 l4
  have e2:=w64s (j:=j) (by omega)
  have e1:=ixw hn hi hj
  have e3:=ixp hn a0 a1 b0 b1
  have e4:=ixp hn a2 a3 b2 b3
  have z:=cast0
  cases ht : tb t.length x i j with
  | false =>
   refine goOn (fun h=>by rw [ht] at h;cases h) (fun k=>?_)
   simp only [q06_Equals.l4]
   rw [if_pos c1,e1,if_pos (z _),if_pos l1,rdOf_tb,ht,if_neg (by decide),e2]
  | true =>
   by_cases hk : 4 ≤(nd t i).f0
   case neg =>
    refine goOn (fun _ h=>absurd h hk) (fun k=>?_)
    simp only [q06_Equals.l4]
    rw [if_pos c1,e1,if_pos (z _),if_pos l1,rdOf_tb,ht,if_pos rfl,if_pos (z _),if_pos c2,if_neg hk,e2]
   case pos =>
    cases hA : tb t.length x (nd t i).f1.toNat (nd t j).f1.toNat with
    | false =>
     refine clr ht (fun hs=>?_) (fun k=>?_)
     ·have:=hI.2.1 (nd t i).f1.toNat (nd t j).f1.toNat a4 b4 (by
       rw [Int.toNat_of_nonneg a0,Int.toNat_of_nonneg b0]
       exact((same_iff.1 hs).2 hk).1)
      rw [hA] at this
      cases this
     ·simp only [q06_Equals.l4]
      rw [if_pos c1,e1,if_pos (z _),if_pos l1,rdOf_tb,ht,if_pos rfl,if_pos (z _),if_pos c2,if_pos hk,if_pos (z _),if_pos c1,e3,if_pos (z _),if_pos l3,rdOf_tb,hA,if_neg (by decide),e2]
      rfl
    | true =>
     cases hB : tb t.length x (nd t i).f2.toNat (nd t j).f2.toNat with
     | false =>
      refine clr ht (fun hs=>?_) (fun k=>?_)
      ·have:=hI.2.1 (nd t i).f2.toNat (nd t j).f2.toNat a5 b5 (by
        rw [Int.toNat_of_nonneg a2,Int.toNat_of_nonneg b2]
        exact((same_iff.1 hs).2 hk).2)
       rw [hB] at this
       cases this
      ·simp only [q06_Equals.l4]
       rw [if_pos c1,e1,if_pos (z _),if_pos l1,rdOf_tb,ht,if_pos rfl,if_pos (z _),if_pos c2,if_pos hk,if_pos (z _),if_pos c1,e3,if_pos (z _),if_pos l3,rdOf_tb,hA,if_pos rfl,e4,if_pos (z _),if_pos l4,rdOf_tb,hB,if_neg (by decide),e2]
       rfl
     | true =>
      refine goOn (fun _ _=>⟨hA,hB⟩) (fun k=>?_)
      simp only [q06_Equals.l4]
      rw [if_pos c1,e1,if_pos (z _),if_pos l1,rdOf_tb,ht,if_pos rfl,if_pos (z _),if_pos c2,if_pos hk,if_pos (z _),if_pos c1,e3,if_pos (z _),if_pos l3,rdOf_tb,hA,if_pos rfl,e4,if_pos (z _),if_pos l4,rdOf_tb,hB,if_pos rfl,e2]
theorem eq_l3 : ∀ (d i : Nat) (x : List Bool) (again : Bool),i + d = t.length→EqI t x →
  ∃ (x' : List Bool) (again' : Bool), EqI t x' ∧ (again' = false → again = false ∧ x' = x ∧ ∀ a b, i ≤ a → a < t.length → b < t.length → EqC t x a b) ∧ x'.count true ≤ x.count true ∧ (again = false → again' = true → x'.count true < x.count true) ∧
   ∀ r,Ev (fun k=>q06_Equals.l2 k t t.length x' again') r→Ev (fun k=>q06_Equals.l3 k t t.length x again (i : Int)) r
 | 0,i,x,again,h,hI=>by
  refine⟨x,again,hI,fun h'=>⟨h',rfl,fun a b hb1 hb2=>by omega⟩,Nat.le_refl _,(fun h1 h2=>by rw [h1] at h2;cases h2),fun r hr=>?_⟩
  refine Ev.step (fun k=>?_) hr
  simp only [q06_Equals.l3]
  rw [if_neg (by omega)]
 | d + 1,i,x,again,h,hI=>by
  have hi : i < t.length:=by omega
  obtain ⟨x1,again1,r1,r2,r3,r4,r5⟩:=eq_l4 hv hn t.length 0 i x again (by omega) hi hI
  obtain ⟨x2,again2,s1,s2,s3,s4,s5⟩:=eq_l3 d (i + 1) x1 again1 (by omega) r1
  refine⟨x2,again2,s1,fun h'=>?_,by omega,fun h1 h2=>?_,fun r hr=>?_⟩
  ·obtain ⟨q1, q2, q3⟩ := s2 h'
   obtain ⟨p1,p2,p3⟩:=r2 q1
   refine⟨p1,q2.trans p2,fun a b ha1 ha2 hb=>?_⟩
   by_cases e : a = i
   ·rw [e];exact p3 b (by omega) hb
   ·have := q3 a b (by omega) ha2 hb
    rwa [p2] at this
  ·cases e : again1 with
   | true=>have:=r4 h1 e;omega
   | false=>have:=s4 e h2;omega
  ·refine Ev.step (f := fun k => q06_Equals.l4 k t t.length x again (i : Int) ((0 : Nat) : Int)) (fun k => ?_) (r5 r (s5 r hr))
   simp only [q06_Equals.l3]
   rw [if_pos (castlt hi)]
   rfl
theorem eq_l2 : ∀ (c : Nat) (x : List Bool),x.count true = c→EqI t x →
  ∃ r,Ev (fun k=>q06_Equals.l2 k t t.length x true) r∧EqI t r∧∀ a b,a < t.length→b < t.length→EqC t r a b:=by
 intro c
 induction c using Nat.strongRecOn with
 | _ c ih =>
  intro x hc hI
  obtain ⟨x1,again1,r1,r2,r3,r4,r5⟩:=eq_l3 hv hn t.length 0 x false (by omega) hI
  cases e : again1 with
  | false =>
   obtain ⟨_,q2,q3⟩:=r2 e
   subst q2
   refine⟨x1,?_,hI,fun a b ha hb=>q3 a b (by omega) ha hb⟩
   refine Ev.step (f:=fun k=>q06_Equals.l3 k t t.length x1 false ((0 : Nat) : Int)) (fun k=>?_) (r5 x1 ?_)
   ·simp only [q06_Equals.l2]
    rfl
   rw [e]
   refine Ev.step (fun k=>?_) (Ev.now _)
   simp only [q06_Equals.l2]
   rfl
  | true =>
   obtain ⟨r,s1,s2,s3⟩:=ih (x1.count true) (by have:=r4 rfl e;omega) x1 rfl r1
   refine⟨r,?_,s2,s3⟩
   refine Ev.step (f:=fun k=>q06_Equals.l3 k t t.length x false ((0 : Nat) : Int)) (fun k=>?_) (r5 r (by rw [e];exact s1))
   simp only [q06_Equals.l2]
   rfl
/-- While the table is laid. -/
def EqZ (t : List S39) (x : List Bool) (i j : Nat) : Prop:=x.length = t.length * t.length∧∀ a b : Nat,a < t.length→b < t.length →(a < i ∨(a = i∧b < j))→tb t.length x a b =((nd t a).f0 ==(nd t b).f0)
omit hv in
theorem eq_l1 : ∀ (d j i : Nat) (x : List Bool),j + d = t.length→i < t.length→EqZ t x i j →
  ∃ x',EqZ t x' (i + 1) 0∧∀ r,Ev (fun k=>q06_Equals.l0 k t t.length x' ((i + 1 : Nat) : Int)) r→Ev (fun k=>q06_Equals.l1 k t t.length x (i : Int) (j : Int)) r
 | 0,j,i,x,h,hi,hZ=>by
  refine⟨x,⟨hZ.1,fun a b ha hb hab=>hZ.2 a b ha hb (by omega)⟩,fun r hr=>Ev.step (fun k=>?_) hr⟩
  simp only [q06_Equals.l1]
  rw [if_neg (by omega),w64s (by omega)]
 | d + 1,j,i,x,h,hi,hZ=>by
  have hj : j < t.length:=by omega
  have hlt:=castlt (idx_lt hi hj)
  have hlen:=hZ.1
  obtain ⟨x',r1,r2⟩:=eq_l1 d (j + 1) i (x.set (t.length * i + j) ((nd t i).f0 ==(nd t j).f0)) (by omega) hi ⟨by rw [List.length_set];exact hZ.1,fun a b ha hb hab=>by
   rw [tb_set hZ.1 hi hj hb]
   by_cases e : a = i∧b = j
   ·rw [if_pos e,e.1,e.2]
   ·rw [if_neg e]
    exact hZ.2 a b ha hb (by omega)⟩
  refine⟨x',r1,fun r hr=>Ev.step (fun k=>?_) (r2 r hr)⟩
  have c1:=castlt hi
  have c2:=castlt hj
  rw [← hlen] at hlt
  have e2:=w64s (j:=j) (by omega)
  have e1:=ixw hn hi hj
  have z:=cast0
  simp only [q06_Equals.l1]
  rw [if_pos c2,if_pos (z _),if_pos c1,if_pos (z _),if_pos c2,e1,if_pos (z _),if_pos hlt,e2,show(((t.length * i + j : Nat) : Int)).toNat = t.length * i + j from Int.toNat_natCast _]
omit hv in
theorem eq_l0 : ∀ (d i : Nat) (x : List Bool),i + d = t.length→EqZ t x i 0 →
  ∃ x',EqZ t x' t.length 0∧∀ r,Ev (fun k=>q06_Equals.l2 k t t.length x' true) r→Ev (fun k=>q06_Equals.l0 k t t.length x (i : Int)) r
 | 0,i,x,h,hZ=>by
  have : i = t.length:=by omega
  subst this
  refine⟨x,hZ,fun r hr=>Ev.step (fun k=>?_) hr⟩
  simp only [q06_Equals.l0]
  rw [if_neg (by omega)]
 | d + 1,i,x,h,hZ=>by
  obtain ⟨x1,r1,r2⟩:=eq_l1 hn t.length 0 i x (by omega) (by omega) hZ
  obtain ⟨x2,s1,s2⟩:=eq_l0 d (i + 1) x1 (by omega) r1
  refine⟨x2,s1,fun r hr=>Ev.step (f:=fun k=>q06_Equals.l1 k t t.length x (i : Int) ((0 : Nat) : Int)) (fun k=>?_) (r2 r (s2 r hr))⟩
  simp only [q06_Equals.l0]
  rw [if_pos (castlt (by omega))]
  rfl
/-- The reference's table of equal nodes. -/
theorem Equals_ev : ∃ r,Ev (fun k=>q06_Equals.f k t) r∧r.length = t.length * t.length∧∀ i j : Nat,i < t.length→j < t.length →(tb t.length r i j = true↔Same t i t j):=by
 have hnn : t.length * t.length≤5000 * 5000:=Nat.mul_le_mul hn hn
 have hw : wrap64 ((t.length : Int) * (t.length : Int)) =((t.length * t.length : Nat) : Int):=by
  rw [show((t.length : Int) * (t.length : Int)) =((t.length * t.length : Nat) : Int) by push_cast;rfl,w64 (by omega) (by omega)]
 obtain ⟨x1,r1,r2⟩:=eq_l0 hn t.length 0 (List.replicate (t.length * t.length) false) (by omega) ⟨by simp,fun a b ha hb hab=>by omega⟩
 have hI : EqI t x1:=⟨r1.1,fun i j hi hj hs=>by
  rw [r1.2 i j hi hj (.inl hi)]
  exact beq_iff_eq.2 (same_iff.1 hs).1,fun i j hi hj hb=>by
  rw [r1.2 i j hi hj (.inl hi)] at hb
  exact beq_iff_eq.1 hb⟩
 obtain ⟨r,s1,s2,s3⟩:=eq_l2 hv hn _ x1 rfl hI
 refine⟨r,?_,s2.1,fun i j hi hj=>⟨fun hb=>?_,s2.2.1 i j hi hj⟩⟩
 ·refine Ev.congr (f := fun k => q06_Equals.l0 k t t.length (List.replicate (t.length * t.length) false) ((0 : Nat) : Int)) (fun k => ?_) (r2 r s1)
  unfold q06_Equals.f
  rw [hw,if_pos (cast0 _),show(((t.length * t.length : Nat) : Int)).toNat = t.length * t.length from Int.toNat_natCast _,if_pos (by omega)]
  rfl
 refine same_closed (t:=t) (t':=t) (fun a b=>∃ i j : Nat,a = i∧b = j∧i < t.length∧j < t.length∧tb t.length r i j = true) ?_ i j ⟨i,j,rfl,rfl,hi,hj,hb⟩
 rintro a b ⟨i,j,rfl,rfl,hi,hj,hb⟩
 refine⟨s2.2.2 i j hi hj hb,fun hk=>?_⟩
 obtain ⟨h1,h2⟩:=s3 i j hi hj hb hk
 obtain ⟨_,_,⟨a0,a1⟩,⟨a2,a3⟩⟩:=hv i (by omega) (by omega)
 obtain ⟨_,_,⟨b0,b1⟩,⟨b2,b3⟩⟩:=hv j (by omega) (by omega)
 exact⟨⟨_,_,(Int.toNat_of_nonneg a0).symm,(Int.toNat_of_nonneg b0).symm,by omega,by omega,h1⟩,⟨_,_,(Int.toNat_of_nonneg a2).symm,(Int.toNat_of_nonneg b2).symm,by omega,by omega,h2⟩⟩
end
end Go.Proofs.Ytnfmeafiaipplaa.P

namespace Go.Proofs.Ytnfmeafiaipplaa.P
open Go.RowKit Go.Proofs.Ytnfmeafiaipplaa.S Go.Proofs.Ytnfmeafiaipplaa.Lib Go.Proofs.YtnfmeafiaipplaaW.PrintWords
set_option linter.unusedVariables false
set_option linter.unusedSectionVars false

section
variable {α : Type} [DecidableEq α]
theorem numIx_lt {fs : List α} {x : α} (h : x ∈ fs) : numIx fs x < fs.length:=List.idxOf_lt_length_of_mem h
theorem numIx_get {fs : List α} {x : α} (h : x ∈ fs) : fs[numIx fs x]'(numIx_lt h) = x:=List.getElem_idxOf (numIx_lt h)
theorem numIx_inj {fs : List α} {x y : α} (hx : x ∈ fs) (hy : y ∈ fs) (h : numIx fs x = numIx fs y) : x = y:=by
 have h1:=numIx_get hx
 have h2:=numIx_get hy
 rw [← h1,← h2]
 simp [h]
theorem numGo_spec : ∀ (ks ds : List α) (out : List Int), ds.Nodup → ∃ fs : List α, fs.Nodup ∧ (∀ x ∈ ds, x ∈ fs ∧ numIx fs x = numIx ds x) ∧ (∀ x ∈ ks, x ∈ fs) ∧ (∀ x ∈ fs, x ∈ ds ∨ x ∈ ks) ∧ numGo ks ds out = (out ++ ks.map (fun x => (numIx fs x : Int)), (fs.length : Int))
 | [],ds,out,h=>⟨ds,h,fun x hx=>⟨hx,rfl⟩,fun x hx=>by simp at hx,fun x hx=>.inl hx,by simp [numGo]⟩
 | k :: ks,ds,out,h=>by
  have hd :(numStep ds k).Nodup:=by
   unfold numStep
   split
   ·exact h
   ·rename_i hk
    exact List.nodup_append.2 ⟨h,by simp,fun a ha b hb=>by simp at hb;subst hb;exact fun e=>hk (e ▸ ha)⟩
  have hk : k ∈ numStep ds k:=by
   unfold numStep
   split
   ·assumption
   ·simp
  have hold : ∀ x ∈ ds,x ∈ numStep ds k∧numIx (numStep ds k) x = numIx ds x:=fun x hx=>by
   unfold numStep
   split
   ·exact⟨hx,rfl⟩
   ·exact⟨by simp [hx],numIx_old k hx⟩
  obtain ⟨fs,f1,f2,f3,f4,f5⟩:=numGo_spec ks (numStep ds k) (out ++ [(numIx (numStep ds k) k : Int)]) hd
  refine⟨fs,f1,fun x hx=>?_,fun x hx=>?_,fun x hx=>?_,?_⟩
  ·obtain ⟨g1, g2⟩ := hold x hx
   exact⟨(f2 x g1).1,(f2 x g1).2.trans g2⟩
  ·rcases List.mem_cons.1 hx with rfl | hx
   ·exact(f2 x hk).1
   exact f3 x hx
  ·rcases f4 x hx with h' | h'
   ·unfold numStep at h'
    split at h'
    ·exact .inl h'
    rcases List.mem_append.1 h' with h' | h'
    ·exact .inl h'
    simp at h'
    exact .inr (by simp [h'])
   exact .inr (by simp [h'])
  unfold numGo
  rw [f5,List.map_cons,(f2 k hk).2]
  simp
theorem dup_exists {L : List α} (h : ¬ L.Nodup) : ∃ x,x ∈ L.erase x:=by
 induction L with
 | nil=>exact absurd List.nodup_nil h
 | cons a L ih =>
  by_cases ha : a ∈ L
  ·exact⟨a,by rw [List.erase_cons_head];exact ha⟩
  have : ¬ L.Nodup:=fun hn=>h (List.nodup_cons.2 ⟨ha,hn⟩)
  obtain ⟨x,hx⟩:=ih this
  have hxa : x≠a:=fun e=>ha (e ▸ List.mem_of_mem_erase hx)
  refine⟨x,?_⟩
  rw [List.erase_cons_tail (by simpa using Ne.symm hxa)]
  exact List.mem_cons_of_mem _ hx
theorem nodup_sub_len : ∀ {R L : List α}, R.Nodup → (∀ x ∈ R, x ∈ L) → R.length ≤ L.length
 | [],_,_,_=>by simp
 | a :: R,L,hn,hs=>by
  have ha : a ∈ L:=hs a (by simp)
  have h1:=nodup_sub_len (R:=R) (L:=L.erase a) (List.nodup_cons.1 hn).2 (fun x hx=>by
   have hxa : x≠a:=fun e=>(List.nodup_cons.1 hn).1 (e ▸ hx)
   exact(List.mem_erase_of_ne hxa).2 (hs x (by simp [hx])))
  rw [List.length_erase_of_mem ha] at h1
  have : 0 < L.length:=List.length_pos_of_mem ha
  simp
  omega
end
theorem nodup_range_int (m : Nat) :((List.range m).map (fun c : Nat=>(c : Int))).Nodup:=by
 rw [List.Nodup,List.pairwise_map]
 exact List.nodup_range.imp (fun h e=>h (by omega))
/-- A list of m that has all the numbers below m has none twice. -/
theorem full_nodup {L : List Int} {m : Nat} (hl : L.length = m) (hf : ∀ c : Nat,c < m →(c : Int) ∈ L) : L.Nodup:=by
 apply Classical.byContradiction
 intro hn
 obtain ⟨x,hx⟩:=dup_exists hn
 have hxL:=List.mem_of_mem_erase hx
 have:=nodup_sub_len (R:=(List.range m).map (fun c : Nat=>(c : Int))) (L:=L.erase x) (nodup_range_int m) (fun y hy=>by
  obtain ⟨c,hc,rfl⟩:=List.mem_map.1 hy
  have:=hf c (List.mem_range.1 hc)
  by_cases e :(c : Int) = x
  ·rw [e];exact hx
  ·exact(List.mem_erase_of_ne e).2 this)
 rw [List.length_erase_of_mem hxL] at this
 have h0 : 0 < L.length:=List.length_pos_of_mem hxL
 simp at this
 omega
theorem full_len {L : List Int} {m : Nat} (hf : ∀ c : Nat,c < m →(c : Int) ∈ L) : m≤L.length:=by
 have:=nodup_sub_len (R:=(List.range m).map (fun c : Nat=>(c : Int))) (L:=L) (nodup_range_int m) (fun y hy=>by
  obtain ⟨c,hc,rfl⟩:=List.mem_map.1 hy
  exact hf c (List.mem_range.1 hc))
 simpa using this
theorem map_nodup_inj {α : Type} {f : α → Int} : ∀ {l : List α}, (l.map f).Nodup → ∀ x ∈ l, ∀ y ∈ l, f x = f y → x = y
 | [],_,x,hx,_,_,_=>by simp at hx
 | a :: l,h,x,hx,y,hy,e=>by
  rw [List.map_cons,List.nodup_cons] at h
  rcases List.mem_cons.1 hx with hx1 | hx1 <;> rcases List.mem_cons.1 hy with hy1 | hy1
  ·rw [hx1,hy1]
  ·exact absurd (List.mem_map.2 ⟨y,hy1,by rw [← e,hx1]⟩) h.1
  ·exact absurd (List.mem_map.2 ⟨x,hx1,by rw [e,hy1]⟩) h.1
  ·exact map_nodup_inj h.2 x hx1 y hy1 e
section
variable {t : List S39} (hv : ∀ i : Int, 0 ≤ i → i < t.length → okN t i) (hn : t.length ≤ 5000)
include hv hn

/-- Numbers of nodes, as far as they have come. -/
structure ClsI (t : List S39) (out : List Int) (m : Nat) : Prop where
 len : out.length = t.length
 rng : ∀ i : Nat,i < t.length→0≤rd out i∧rd out i < m
 onto : ∀ c : Nat,c < m→∃ i : Nat,i < t.length∧rd out i = c
 same : ∀ i j : Nat,i < t.length→j < t.length→Same t i t j→rd out i = rd out j
 kind : ∀ i j : Nat,i < t.length→j < t.length→rd out i = rd out j →(nd t i).f0 =(nd t j).f0
omit hv hn in
/-- Numbers by keys. -/
theorem rd_map {α : Type} (ks : List α) (f : α→Int) (d : α) (i : Nat) (h : i < ks.length) : rd (ks.map f) (i : Int) = f (ks.getD i d):=by
 rw [rd_lt _ i (by simpa using h),List.getElem_map,List.getD_eq_getElem?_getD,List.getElem?_eq_getElem h,Option.getD_some]
def keyC (t : List S39) (out : List Int) (i : Int) : S98:=if 4 ≤(nd t i).f0 then⟨rd out i,(nd t i).f0,rd out (nd t i).f1,rd out (nd t i).f2⟩ else⟨rd out i,(nd t i).f0,0,0⟩
def keysC (t : List S39) (out : List Int) : List S98:=(List.range t.length).map (fun i : Nat=>keyC t out i)
omit hn in
theorem l98_key {out : List Int} {i j : Nat} (hi : i < t.length) (hj : j < t.length) : l98 (keyC t out i) = l98 (keyC t out j) ↔(rd out i = rd out j ∧(nd t i).f0 =(nd t j).f0 ∧(4 ≤(nd t i).f0→rd out (nd t i).f1 = rd out (nd t j).f1∧rd out (nd t i).f2 = rd out (nd t j).f2)):=by
 unfold keyC l98
 by_cases c : 4 ≤(nd t i).f0 <;> by_cases c' : 4 ≤(nd t j).f0
 ·simp [c,c']
 ·simp only [if_pos c, if_neg c']
  constructor
  ·intro h;simp at h;omega
  rintro⟨_,h,_⟩;omega
 ·simp only [if_neg c, if_pos c']
  constructor
  ·intro h;simp at h;omega
  rintro⟨_,h,_⟩;omega
 simp [c,c']
theorem key_i98 {out : List Int} {m : Nat} (hm : m≤5000) (h : ClsI t out m) {i : Nat} (hi : i < t.length) : i98B (keyC t out i) = true:=by
 have h1:=h.rng i hi
 obtain ⟨⟨k0,k1⟩,_,⟨a0,a1⟩,⟨b0,b1⟩⟩:=hv i (by omega) (by omega)
 have h2:=h.rng (nd t i).f1.toNat (by omega)
 have h3:=h.rng (nd t i).f2.toNat (by omega)
 rw [Int.toNat_of_nonneg a0] at h2
 rw [Int.toNat_of_nonneg b0] at h3
 unfold i98B keyC l98 i64B
 split
 ·simp only [List.all_cons, List.all_nil, Bool.and_true, Bool.and_eq_true, decide_eq_true_eq]
  refine⟨by omega,by omega,by omega,by omega⟩
 simp only [List.all_cons,List.all_nil,Bool.and_true,Bool.and_eq_true,decide_eq_true_eq]
 refine⟨by omega,by omega,by omega,by omega⟩
/-- One refinement. -/
theorem cls_next {out : List Int} {m : Nat} (h : ClsI t out m) : ∃ (nx : List Int) (m' : Nat), numGo ((keysC t out).map l98) [] [] = (nx, (m' : Int)) ∧ ClsI t nx m' ∧ m ≤ m' ∧ m' ≤ t.length ∧
  (m' = m→∀ i j : Nat,i < t.length→j < t.length →(rd nx i = rd nx j↔Same t i t j)):=by
 obtain ⟨fs,f1,_,f3,f4,f5⟩:=numGo_spec ((keysC t out).map l98) [] [] List.nodup_nil
 have hkl :((keysC t out).map l98).length = t.length:=by simp [keysC]
 have hkg : ∀ i : Nat,i < t.length →((keysC t out).map l98).getD i [] = l98 (keyC t out i):=fun i hi=>by
  rw [List.getD_eq_getElem?_getD,List.getElem?_eq_getElem (by simpa [keysC] using hi)]
  simp [keysC]
 have hmem : ∀ i : Nat,i < t.length→l98 (keyC t out i) ∈ fs:=fun i hi=>f3 _ (List.mem_map.2 ⟨_,List.mem_map.2 ⟨i,List.mem_range.2 hi,rfl⟩,rfl⟩)
 have hfs : ∀ x ∈ fs,∃ i : Nat,i < t.length∧x = l98 (keyC t out i):=fun x hx=>by
  rcases f4 x hx with h' | h'
  ·simp at h'
  ·obtain ⟨y, hy, rfl⟩ := List.mem_map.1 h'
   obtain ⟨i,hi,rfl⟩:=List.mem_map.1 hy
   exact⟨i,List.mem_range.1 hi,rfl⟩
 have hrd : ∀ i : Nat,i < t.length→rd (((keysC t out).map l98).map (fun x=>(numIx fs x : Int))) (i : Int) =(numIx fs (l98 (keyC t out i)) : Int):=fun i hi=>by
  rw [rd_map _ _ [] i (by rw [hkl];exact hi),hkg i hi]
 have hker : ∀ i j : Nat,i < t.length→j < t.length →((numIx fs (l98 (keyC t out i)) : Int) =(numIx fs (l98 (keyC t out j)) : Int)↔l98 (keyC t out i) = l98 (keyC t out j)):=fun i j hi hj =>
  ⟨fun e=>numIx_inj (hmem i hi) (hmem j hj) (by omega),fun e=>by rw [e]⟩
 have hsame : ∀ i j : Nat,i < t.length→j < t.length→Same t i t j→l98 (keyC t out i) = l98 (keyC t out j):=fun i j hi hj hs=>by
  rw [l98_key hv hi hj]
  refine⟨h.same i j hi hj hs,(same_iff.1 hs).1,fun c=>?_⟩
  obtain ⟨_,_,⟨a0,a1⟩,⟨a2,a3⟩⟩:=hv i (by omega) (by omega)
  obtain ⟨_,_,⟨b0,b1⟩,⟨b2,b3⟩⟩:=hv j (by omega) (by omega)
  have h1:=h.same (nd t i).f1.toNat (nd t j).f1.toNat (by omega) (by omega) (by rw [Int.toNat_of_nonneg a0,Int.toNat_of_nonneg b0];exact((same_iff.1 hs).2 c).1)
  have h2:=h.same (nd t i).f2.toNat (nd t j).f2.toNat (by omega) (by omega) (by rw [Int.toNat_of_nonneg a2,Int.toNat_of_nonneg b2];exact((same_iff.1 hs).2 c).2)
  rw [Int.toNat_of_nonneg a0,Int.toNat_of_nonneg b0] at h1
  rw [Int.toNat_of_nonneg a2,Int.toNat_of_nonneg b2] at h2
  exact⟨h1,h2⟩
 have hL : ∀ c : Nat,c < m →(c : Int) ∈ fs.map (fun x=>x.getD 0 0):=fun c hc=>by
  obtain ⟨i,hi,e⟩:=h.onto c hc
  refine List.mem_map.2 ⟨_,hmem i hi,?_⟩
  rw [← e]
  unfold keyC l98
  split <;> rfl
 have hfl : fs.length≤t.length:=by
  have:=nodup_sub_len f1 (fun x hx=>(f4 x hx).resolve_left (by simp))
  rwa [hkl] at this
 refine⟨_,fs.length,by rw [f5],⟨?_,fun i hi=>?_,fun c hc=>?_,fun i j hi hj hs=>?_,fun i j hi hj e=>?_⟩,by simpa using full_len hL,hfl,fun hm i j hi hj=>?_⟩
 ·simp [keysC]
 ·simp only [List.nil_append]
  rw [hrd i hi]
  have:=numIx_lt (hmem i hi)
  omega
 ·have hx : fs[c] ∈ fs := List.getElem_mem hc
  obtain ⟨i,hi,e⟩:=hfs _ hx
  refine⟨i,hi,?_⟩
  simp only [List.nil_append]
  rw [hrd i hi,← e]
  have h1:=numIx_get hx
  have h2 : numIx fs fs[c] = c:=(List.getElem_inj f1).1 h1
  rw [h2]
 ·simp only [List.nil_append]
  rw [hrd i hi,hrd j hj,hsame i j hi hj hs]
 ·simp only [List.nil_append] at e
  rw [hrd i hi,hrd j hj,hker i j hi hj,l98_key hv hi hj] at e
  exact e.2.1
 simp only [List.nil_append]
 rw [hrd i hi,hrd j hj,hker i j hi hj]
 refine⟨fun e=>?_,hsame i j hi hj⟩
 have hnd:=full_nodup (L:=fs.map (fun x=>x.getD 0 0)) (m:=m) (by simpa using hm) hL
 have hclosed : ∀ a b : Nat,a < t.length→b < t.length→rd out a = rd out b→l98 (keyC t out a) = l98 (keyC t out b):=fun a b ha hb hab =>
  map_nodup_inj hnd _ (hmem a ha) _ (hmem b hb) (by
   have g : ∀ i : Nat,(l98 (keyC t out i)).getD 0 0 = rd out i:=fun i=>by unfold keyC l98;split <;> rfl
   rw [g a,g b,hab])
 refine same_closed (t:=t) (t':=t) (fun x y=>∃ a b : Nat,x = a∧y = b∧a < t.length∧b < t.length∧rd out a = rd out b) ?_ i j ⟨i,j,rfl,rfl,hi,hj,((l98_key hv hi hj).1 e).1⟩
 rintro x y ⟨a,b,rfl,rfl,ha,hb,hab⟩
 have hk:=(l98_key hv ha hb).1 (hclosed a b ha hb hab)
 refine⟨hk.2.1,fun c=>?_⟩
 obtain ⟨_,_,⟨a0,a1⟩,⟨a2,a3⟩⟩:=hv a (by omega) (by omega)
 obtain ⟨_,_,⟨b0,b1⟩,⟨b2,b3⟩⟩:=hv b (by omega) (by omega)
 have:=hk.2.2 c
 exact⟨⟨_,_,(Int.toNat_of_nonneg a0).symm,(Int.toNat_of_nonneg b0).symm,by omega,by omega,by rw [Int.toNat_of_nonneg a0,Int.toNat_of_nonneg b0];exact this.1⟩,⟨_,_,(Int.toNat_of_nonneg a2).symm,(Int.toNat_of_nonneg b2).symm,by omega,by omega,by rw [Int.toNat_of_nonneg a2,Int.toNat_of_nonneg b2];exact this.2⟩⟩
omit hn in
theorem hasParts_v {i : Nat} (hi : i < t.length) : loops_hasParts.f (nd t i).f0 (nd t i).f1 (nd t i).f2 = some (decide (4 ≤(nd t i).f0)):=by
 obtain ⟨⟨k0,k1⟩,_⟩:=hv i (by omega) (by omega)
 unfold loops_hasParts.f
 by_cases c :(nd t i).f0 = 4
 ·rw [if_pos c,decide_eq_true (by omega)]
 rw [if_neg c]
 by_cases c5 :(nd t i).f0 = 5
 ·rw [decide_eq_true (by omega),beq_iff_eq.2 c5]
 rw [decide_eq_false (by omega),beq_eq_false_iff_ne.2 c5]
theorem cls_l2 {out : List Int} {m : Nat} (hI : ClsI t out m) (M : Int) : ∀ (d i : Nat),i + d = t.length→∀ r,Ev (fun k=>(loops_numbered_4_int.f (keysC t out)).bind fun b=>if b.2 = M then some b.1 else loops_classes.l1 k t b.1 b.2) r →
  Ev (fun k=>loops_classes.l2 k t out M ((List.range i).map (fun a : Nat=>keyC t out a)) t t.length (i : Int)) r
 | 0,i,h,r,hr=>by
  have : i = t.length:=by omega
  subst this
  refine Ev.step (fun k=>?_) hr
  simp only [loops_classes.l2]
  rw [if_neg (by omega)]
  rfl
 | d + 1,i,h,r,hr=>by
  have hi : i < t.length:=by omega
  have ih:=cls_l2 hI M d (i + 1) (by omega) r hr
  have hlen:=hI.len
  obtain ⟨_,_,⟨a0,a1⟩,⟨b0,b1⟩⟩:=hv i (by omega) (by omega)
  have hp:=hasParts_v hv hi
  refine Ev.step (f:=fun k=>loops_classes.l2 k t out M ((List.range (i + 1)).map (fun a : Nat=>keyC t out a)) t t.length ((i + 1 : Nat) : Int)) (fun k=>?_) ih
  have c1:=castlt hi
  have c2 :(i : Int) < (out.length : Int):=by omega
  have c3 :(nd t i).f1 < (out.length : Int):=by omega
  have c4 :(nd t i).f2 < (out.length : Int):=by omega
  have hl :((List.range i).map (fun a : Nat=>keyC t out a)).length = i:=by simp
  have e2:=w64s (j:=i) (by omega)
  simp only [loops_classes.l2]
  rw [if_pos c1,if_pos (cast0 _),if_pos c1,if_pos c2,hp,Option.bind_some,e2,List.range_succ,List.map_append,List.map_singleton]
  by_cases c : 4 ≤(nd t i).f0
  ·rw [if_pos (decide_eq_true c), if_pos a0, if_pos c3, if_pos b0, if_pos c4, if_pos (by rw [hl]; omega)]
   unfold keyC
   rw [if_pos c]
  ·rw [if_neg (by rw [decide_eq_false c]; decide), if_pos (by rw [hl]; omega)]
   rw [show keyC t out i =⟨rd out i,(nd t i).f0,0,0⟩ from if_neg c]
theorem num4_some {out : List Int} {m : Nat} (hm : m≤5000) (h : ClsI t out m) : loops_numbered_4_int.f (keysC t out) = some (numGo ((keysC t out).map l98) [] []):=by
 unfold loops_numbered_4_int.f
 rw [if_pos]
 refine⟨by simp [keysC];omega,List.all_eq_true.2 (fun x hx=>?_)⟩
 obtain ⟨i,hi,rfl⟩:=List.mem_map.1 hx
 exact key_i98 hv hn hm h (List.mem_range.1 hi)
theorem cls_l1 : ∀ (d : Nat) (out : List Int) (m : Nat),m + d = t.length→ClsI t out m→∃ r,Ev (fun k=>loops_classes.l1 k t out m) r∧r.length = t.length ∧(∀ i : Nat,i < t.length→0≤rd r i∧rd r i < t.length)∧∀ i j : Nat,i < t.length→j < t.length →(rd r i = rd r j↔Same t i t j):=by
 intro d
 induction d using Nat.strongRecOn with
 | _ d ih =>
  intro out m h hI
  obtain ⟨nx,m',e,hI',hle,hle',hfin⟩:=cls_next hv hn hI
  have hnum:=num4_some hv hn (by omega) hI
  rw [e] at hnum
  have go : ∀ r,Ev (fun k=>if(m' : Int) =(m : Int) then some nx else loops_classes.l1 k t nx m') r→Ev (fun k=>loops_classes.l1 k t out m) r:=fun r hr=>by
   refine Ev.step (f:=fun k=>loops_classes.l2 k t out (m : Int) ((List.range 0).map (fun a : Nat=>keyC t out a)) t t.length ((0 : Nat) : Int)) (fun k=>?_) (cls_l2 hv hn hI (m : Int) t.length 0 (by omega) r ?_)
   ·simp only [loops_classes.l1]
    rfl
   ·refine Ev.congr (fun k => ?_) hr
    rw [hnum,Option.bind_some]
  by_cases hm : m' = m
  ·refine ⟨nx, go nx ?_, hI'.len, fun i hi => ?_, hfin hm⟩
   ·refine Ev.congr (fun k => ?_) (Ev.now nx)
    rw [if_pos (by omega)]
   have:=hI'.rng i hi
   omega
  obtain ⟨r,r1,r2,r3,r4⟩:=ih (t.length - m') (by omega) nx m' (by omega) hI'
  refine⟨r,go r ?_,r2,r3,r4⟩
  refine Ev.congr (fun k=>?_) r1
  rw [if_neg (by omega)]
omit hv in
theorem cls_l0 : ∀ (d i : Nat),i + d = t.length→∀ r,Ev (fun k=>(loops_numbered_int.f ((List.range t.length).map (fun a : Nat=>(nd t a).f0))).bind fun b=>loops_classes.l1 k t b.1 b.2) r →
  Ev (fun k=>loops_classes.l0 k t ((List.range i).map (fun a : Nat=>(nd t a).f0)) t t.length (i : Int)) r
 | 0,i,h,r,hr=>by
  have : i = t.length:=by omega
  subst this
  refine Ev.step (fun k=>?_) hr
  simp only [loops_classes.l0]
  rw [if_neg (by omega)]
 | d + 1,i,h,r,hr=>by
  have hi : i < t.length:=by omega
  have ih:=cls_l0 d (i + 1) (by omega) r hr
  refine Ev.step (f:=fun k=>loops_classes.l0 k t ((List.range (i + 1)).map (fun a : Nat=>(nd t a).f0)) t t.length ((i + 1 : Nat) : Int)) (fun k=>?_) ih
  have hl :((List.range i).map (fun a : Nat=>(nd t a).f0)).length = i:=by simp
  have c1:=castlt hi
  have e2:=w64s (j:=i) (by omega)
  simp only [loops_classes.l0]
  rw [if_pos c1,if_pos (cast0 _),if_pos c1,if_pos (by rw [hl];omega),e2,List.range_succ,List.map_append,List.map_singleton]
/-- The program's classes. -/
theorem classes_ev : ∃ r,Ev (fun k=>loops_classes.f k t) r∧r.length = t.length ∧(∀ i : Nat,i < t.length→0≤rd r i∧rd r i < t.length)∧∀ i j : Nat,i < t.length→j < t.length →(rd r i = rd r j↔Same t i t j):=by
 obtain ⟨fs,f1,_,f3,f4,f5⟩:=numGo_spec ((List.range t.length).map (fun a : Nat=>(nd t a).f0)) [] [] List.nodup_nil
 have hkl :((List.range t.length).map (fun a : Nat=>(nd t a).f0)).length = t.length:=by simp
 have hkg : ∀ i : Nat,i < t.length →((List.range t.length).map (fun a : Nat=>(nd t a).f0)).getD i 0 =(nd t i).f0:=fun i hi=>by
  rw [List.getD_eq_getElem?_getD,List.getElem?_eq_getElem (by simpa using hi)]
  simp
 have hmem : ∀ i : Nat,i < t.length →(nd t i).f0 ∈ fs:=fun i hi=>f3 _ (List.mem_map.2 ⟨i,List.mem_range.2 hi,rfl⟩)
 have hfs : ∀ x ∈ fs,∃ i : Nat,i < t.length∧x =(nd t i).f0:=fun x hx=>by
  rcases f4 x hx with h' | h'
  ·simp at h'
  ·obtain ⟨i, hi, rfl⟩ := List.mem_map.1 h'
   exact⟨i,List.mem_range.1 hi,rfl⟩
 have hrd : ∀ i : Nat,i < t.length→rd (((List.range t.length).map (fun a : Nat=>(nd t a).f0)).map (fun x=>(numIx fs x : Int))) (i : Int) =(numIx fs (nd t i).f0 : Int):=fun i hi=>by
  rw [rd_map _ _ 0 i (by rw [hkl];exact hi),hkg i hi]
 have hfl : fs.length≤t.length:=by
  have:=nodup_sub_len f1 (fun x hx=>(f4 x hx).resolve_left (by simp))
  rwa [hkl] at this
 have hker : ∀ i j : Nat,i < t.length→j < t.length →((numIx fs (nd t i).f0 : Int) =(numIx fs (nd t j).f0 : Int) ↔(nd t i).f0 =(nd t j).f0):=fun i j hi hj =>
  ⟨fun e=>numIx_inj (hmem i hi) (hmem j hj) (by omega),fun e=>by rw [e]⟩
 have hI : ClsI t (((List.range t.length).map (fun a : Nat=>(nd t a).f0)).map (fun x=>(numIx fs x : Int))) fs.length:=by
  refine⟨by simp,fun i hi=>?_,fun c hc=>?_,fun i j hi hj hs=>?_,fun i j hi hj e=>?_⟩
  ·rw [hrd i hi]
   have:=numIx_lt (hmem i hi)
   omega
  ·obtain ⟨i, hi, e⟩ := hfs _ (List.getElem_mem hc)
   refine⟨i,hi,?_⟩
   rw [hrd i hi,← e]
   have h2 : numIx fs fs[c] = c:=(List.getElem_inj f1).1 (numIx_get (List.getElem_mem hc))
   rw [h2]
  ·rw [hrd i hi,hrd j hj,(same_iff.1 hs).1]
  ·rw [hrd i hi, hrd j hj, hker i j hi hj] at e
   exact e
 obtain ⟨r,r1,r2,r3,r4⟩:=cls_l1 hv hn (t.length - fs.length) _ fs.length (by omega) hI
 refine⟨r,?_,r2,r3,r4⟩
 have hnum : loops_numbered_int.f ((List.range t.length).map (fun a : Nat=>(nd t a).f0)) = some (((List.range t.length).map (fun a : Nat=>(nd t a).f0)).map (fun x=>(numIx fs x : Int)),(fs.length : Int)):=by
  unfold loops_numbered_int.f
  rw [if_pos,f5]
  ·simp
  ·refine ⟨by simp; omega, List.all_eq_true.2 (fun x hx => ?_)⟩
   obtain ⟨i,hi,rfl⟩:=List.mem_map.1 hx
   obtain ⟨⟨k0,k1⟩,_⟩:=hv i (by omega) (by have:=List.mem_range.1 hi;omega)
   unfold i64B
   exact decide_eq_true ⟨by omega,by omega⟩
 refine Ev.congr (f:=fun k=>loops_classes.l0 k t ((List.range 0).map (fun a : Nat=>(nd t a).f0)) t t.length ((0 : Nat) : Int)) (fun k=>rfl) (cls_l0 hn t.length 0 (by omega) r ?_)
 refine Ev.congr (fun k=>?_) r1
 rw [hnum,Option.bind_some]
end
end Go.Proofs.Ytnfmeafiaipplaa.P
