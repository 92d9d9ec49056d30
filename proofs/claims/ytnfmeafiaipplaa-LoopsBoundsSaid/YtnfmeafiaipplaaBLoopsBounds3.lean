-- Written by wip/bundle2.py: texts of this claim, one behind the other.
import Derived.Test.YtnfmeafiaipplaaBLoopsBounds2
set_option linter.unusedVariables false
set_option linter.unusedSimpArgs false

namespace Go.Proofs.Ytnfmeafiaipplaa.S
open Go.Proofs.Ytnfmeafiaipplaa.Lib
open Go.Maps (Keyed)
open Go.RowKit Go.Proofs.YtnfmeafiaipplaaW.PrintWords Go.Proofs.YtnfmeafiaipplaaW.PrintLast Go.Proofs.YtnfmeafiaipplaaW.PrintMore
attribute [local go_sem] max2_int min2_int max_two min_two max_three min_three max_four min_four
set_option linter.unusedVariables false
set_option linter.unusedSimpArgs false

/-- Runs of what has been done, and of what has not. -/
def q06_Equals.tf (rs : List Nat) : Array Bool:=(rs.foldl (fun(x : List Bool×Bool) n=>(x.1 ++ List.replicate n x.2,!x.2)) ([],true)).1.toArray
mutual
def q06_Equals.l0 : Nat → List (S39) → Int → List Bool → Int → Option (List Bool)
 | 0,_,_,_,_=>none
 | k + 1,x0,x3,x4,x5=>if x5 < x3 then(q06_Equals.l1 k x0 x3 x4 x5 0) else(q06_Equals.l2 k x0 x3 x4 true)
def q06_Equals.l1 : Nat → List (S39) → Int → List Bool → Int → Int → Option (List Bool)
 | 0,_,_,_,_,_=>none
 | k + 1,x0,x3,x4,x5,x6=>if x6 < x3 then(if 0≤x5 then(if x5 < (x0.length : Int) then(if 0≤x6 then(if x6 < (x0.length : Int) then(if 0 ≤(wrap64 ((wrap64 (x3 * x5)) + x6)) then(if(wrap64 ((wrap64 (x3 * x5)) + x6)) < (x4.length : Int) then(q06_Equals.l1 k x0 x3 (x4.set ((wrap64 ((wrap64 (x3 * x5)) + x6)) : Int).toNat (((rd_T39 x0 x5).f0) ==((rd_T39 x0 x6).f0))) x5 (wrap64 (x6 + 1))) else(none)) else(none)) else(none)) else(none)) else(none)) else(none)) else(q06_Equals.l0 k x0 x3 x4 (wrap64 (x5 + 1)))
def q06_Equals.l2 : Nat → List (S39) → Int → List Bool → Bool → Option (List Bool)
 | 0,_,_,_,_=>none
 | k + 1,x0,x3,x4,x7=>if x7 = true then(q06_Equals.l3 k x0 x3 x4 false 0) else(some x4)
def q06_Equals.l3 : Nat → List (S39) → Int → List Bool → Bool → Int → Option (List Bool)
 | 0,_,_,_,_,_=>none
 | k + 1,x0,x3,x4,x7,x8=>if x8 < x3 then(q06_Equals.l4 k x0 x3 x4 x7 x8 0) else(q06_Equals.l2 k x0 x3 x4 x7)
def q06_Equals.l4 : Nat → List (S39) → Int → List Bool → Bool → Int → Int → Option (List Bool)
 | 0,_,_,_,_,_,_=>none
 | k + 1,x0,x3,x4,x7,x8,x9=>if x9 < x3 then(if 0 ≤(wrap64 ((wrap64 (x3 * x8)) + x9)) then(if(wrap64 ((wrap64 (x3 * x8)) + x9)) < (x4.length : Int) then(if rdOf false x4 (wrap64 ((wrap64 (x3 * x8)) + x9)) = true then(if 0≤x8 then(if x8 < (x0.length : Int) then(if((rd_T39 x0 x8).f0) ≥ 4 then(if 0≤x9 then(if x9 < (x0.length : Int) then(if 0 ≤(wrap64 ((wrap64 (x3 * ((rd_T39 x0 x8).f1))) + ((rd_T39 x0 x9).f1))) then(if(wrap64 ((wrap64 (x3 * ((rd_T39 x0 x8).f1))) + ((rd_T39 x0 x9).f1))) < (x4.length : Int) then(if(rdOf false x4 (wrap64 ((wrap64 (x3 * ((rd_T39 x0 x8).f1))) + ((rd_T39 x0 x9).f1))) = true) then(if 0 ≤(wrap64 ((wrap64 (x3 * ((rd_T39 x0 x8).f2))) + ((rd_T39 x0 x9).f2))) then(if(wrap64 ((wrap64 (x3 * ((rd_T39 x0 x8).f2))) + ((rd_T39 x0 x9).f2))) < (x4.length : Int) then(if(rdOf false x4 (wrap64 ((wrap64 (x3 * ((rd_T39 x0 x8).f2))) + ((rd_T39 x0 x9).f2))) = true) then(q06_Equals.l4 k x0 x3 x4 x7 x8 (wrap64 (x9 + 1))) else(q06_Equals.l4 k x0 x3 (x4.set ((wrap64 ((wrap64 (x3 * x8)) + x9)) : Int).toNat false) true x8 (wrap64 (x9 + 1)))) else(none)) else(none)) else(q06_Equals.l4 k x0 x3 (x4.set ((wrap64 ((wrap64 (x3 * x8)) + x9)) : Int).toNat false) true x8 (wrap64 (x9 + 1)))) else(none)) else(none)) else(none)) else(none)) else(q06_Equals.l4 k x0 x3 x4 x7 x8 (wrap64 (x9 + 1)))) else(none)) else(none)) else(q06_Equals.l4 k x0 x3 x4 x7 x8 (wrap64 (x9 + 1)))) else(none)) else(none)) else(q06_Equals.l3 k x0 x3 x4 x7 (wrap64 (x8 + 1)))
end
def q06_Equals.f (k : Nat) (l0 : List (S39)) : Option (List Bool):=if 0 ≤(wrap64 ((l0.length : Int) * (l0.length : Int))) then(if(wrap64 ((l0.length : Int) * (l0.length : Int)) : Int).toNat≤281474976710656 then(q06_Equals.l0 k l0 (l0.length : Int) (List.replicate (wrap64 ((l0.length : Int) * (l0.length : Int)) : Int).toNat false) 0) else(none)) else(none)
def q06_Equals.T9 : Bool×List (List Nat×List Nat):=(true,[([],[]),([],[]),([],[]),([1,2],[1,2]),([],[]),([3,4],[3,4]),([],[]),([],[]),([6,7],[6,7]),([8],[8]),([9],[9]),([],[]),([],[]),([11,12],[11,12]),([13],[13]),([14],[14]),([10,15],[10,15]),([0,5,0,1,2,3,4,5,6,7,8,9,10,11,12,13,14,15,16],[0,5]),([17,16,0,1,2,3,4,5,6,7,8,9,10,11,12,13,14,15,16],[16,17])])
def q06_Equals.B9 : List Nat:=[0,0,0,6,0,30,0,0,192,448,960,0,0,6144,14336,30720,65472,131071,262143]
theorem q06_Equals.tab9 : rtab .any (opsOf Try.f22 9) = q06_Equals.T9:=by kernel_rfl
theorem q06_Equals.bits9 : waitsOk q06_Equals.T9.2 q06_Equals.B9 = true:=by kernel_rfl
def q06_Equals.T19 : Bool×List (List Nat×List Nat):=(true,[([],[]),([],[]),([],[]),([1,2],[1,2]),([],[]),([3,4],[3,4]),([0,5],[0,5]),([6],[6]),([7],[7]),([8],[8]),([8],[8]),([9,10,8],[8,9,10]),([11,8],[8,11]),([12,8],[8,12]),([13,8],[8,13]),([8,14],[8,14]),([15,8],[15]),([16],[16]),([16],[16]),([16],[16]),([16],[16]),([19,20,16],[16,19,20]),([21,16],[16,21]),([22,16],[16,22]),([18,23,16],[16,18,23]),([16],[16]),([16],[16]),([25,26,16],[16,25,26]),([27,16],[16,27]),([28,16],[16,28]),([24,29,16],[16,24,29]),([17,30,16],[16,17,30]),([31,16],[16,31]),([32,16],[16,32]),([33,16,16],[16,33]),([34],[34]),([34],[34]),([34],[34]),([34],[34]),([37,38,34],[34,37,38]),([39,34],[34,39]),([40,34],[34,40]),([36,41,34],[34,36,41]),([34],[34]),([34],[34]),([43,44,34],[34,43,44]),([45,34],[34,45]),([46,34],[34,46]),([42,47,34],[34,42,47]),([35,48,34],[34,35,48]),([49,34],[34,49]),([50,34],[34,50]),([34,51,16],[16,34,51]),([16,52],[16,52])])
def q06_Equals.B19 : List Nat:=[0,0,0,6,0,30,63,127,255,511,511,2047,4095,8191,16383,32767,65535,131071,131071,131071,131071,1703935,3801087,7995391,16646143,131071,131071,100794367,235012095,503447551,1073610751,2147483647,4294967295,8589934591,17179869183,34359738367,34359738367,34359738367,34359738367,446676598783,996432412671,2095944040447,4363686772735,34359738367,34359738367,26422638804991,61607010893823,131975755071487,281440616972287,562949953421311,1125899906842623,2251799813685247,4503599627370495,9007199254740991]
theorem q06_Equals.tab19 : rtab .any (opsOf Try.f22 19) = q06_Equals.T19:=by kernel_rfl
theorem q06_Equals.bits19 : waitsOk q06_Equals.T19.2 q06_Equals.B19 = true:=by kernel_rfl
set_option maxHeartbeats 8000000 in
set_option maxRecDepth 100000 in
theorem q06_Equals.calls (k : Nat) (A0 : Option Addr) (c0 : Nat) (l0 : List (S39)) (r : List Bool) (w : World) (hr0 : Kd.C k39 w A0 l0.length l0) (hc0 : l0.length ≤ c0) (h : q06_Equals.f k l0 = some r) :
  Calls Try.prog 22 #[.slice A0 l0.length c0] w fun e w'=>∃ v0_ : Value,e = .returned (v0_)∧Kd.R Kd.bool 4 w' w.heap.size (fun _=>True) v0_ r∧Below w.heap.size w w':=by
 have HR0:=Aside0.mk hr0
 have HC0:=Aside0.mk hc0
 clear hr0 hc0
 have HB:=Aside0.mk (Below.refl w.heap.size w)
 have H :(if 0 ≤(wrap64 ((l0.length : Int) * (l0.length : Int))) then(if(wrap64 ((l0.length : Int) * (l0.length : Int)) : Int).toNat≤281474976710656 then(q06_Equals.l0 k l0 (l0.length : Int) (List.replicate (wrap64 ((l0.length : Int) * (l0.length : Int)) : Int).toNat false) 0) else(none)) else(none)) = some r:=h
 clear h
 obtain ⟨ji2,hji2⟩ : ∃ j_ : Int,(wrap64 ((l0.length : Int) * (l0.length : Int))) = j_:=⟨_,rfl⟩
 replace H :(if 0 ≤(ji2) then(if(ji2 : Int).toNat≤281474976710656 then(q06_Equals.l0 k l0 (l0.length : Int) (List.replicate (ji2 : Int).toNat false) 0) else(none)) else(none)) = some r:=by first |(rw [hji2] at H;exact H) |(simp only [hji2] at H ⊢;exact H)
 have hji2w :(IntKind.i64.wrap ((l0.length : Int) * (l0.length : Int))) = ji2:=(i64_w _).trans hji2
 by_cases c3 : 0 ≤(ji2)
 rotate_left
 ·rw [if_neg c3] at H
  exact absurd H (by simp)
 rw [if_pos c3] at H
 have c3b0:=eq_true c3
 have c3b1 : decide (0 ≤(ji2)) = true:=decide_eq_true c3
 clear c3
 by_cases c4 :(ji2 : Int).toNat≤281474976710656
 rotate_left
 ·rw [if_neg c4] at H
  exact absurd H (by simp)
 rw [if_pos c4] at H
 have c4b0:=eq_true c4
 have c4b1 : decide ((ji2 : Int).toNat≤281474976710656) = true:=decide_eq_true c4
 clear c4
 obtain ⟨y196,hy196⟩ : ∃ y_ : List Bool,y_ =(List.replicate (ji2 : Int).toNat false):=⟨_,rfl⟩
 replace H :(q06_Equals.l0 k l0 (l0.length : Int) y196 0) = some r:=by first |(rw [hy196];with_reducible exact H) |(have H2_:=(Option.bind_some _ _).symm.trans H;rw [hy196];with_reducible exact H2_) |(have H2_:=(Option.bind_some _ _).symm.trans H;with_reducible exact H2_) | with_reducible exact H |(rw [hy196];exact H) | exact H
 have Ny196:=Aside0.mk hy196
 clear hy196
 have H':=Aside0.mk H
 clear H
 go_enter Try.func22,Try.ntmps22
 go_wp2_with (first |((with_reducible refine gate_dst (N:=15) rfl ?_);refine Kd.R_make Kd.bool _ 4 rfl (N:=15) rfl 34 _ _ rfl ji2 rfl rfl Try.underlying34 (.bool false) 1 info4 rfl (by decide) (by omega) false (ok:=fun _=>True) (okp:=fun _=>True) rfl (fun _ hk=>hk) trivial (of_decide_eq_true (by first |(with_reducible assumption) | assumption)) (Nat.le_trans (Nat.mul_le_mul_right _ (of_decide_eq_true (by first |(with_reducible assumption) | assumption) : ji2.toNat≤281474976710656)) (by omega)) (Below.refl _ _) (Nat.le_refl _) ?_;intro v197 w5 ho6 hb hg_ hnew_;clear hg_ hnew_;(first | rw [← Ny196.out] at ho6 |(simp only [Int.reduceToNat] at ho6;rw [← Ny196.out] at ho6));have n0_:=Aside0.mk (Kd.R_lower ho6 (bwZ (by repeat(first |(with_reducible first | exact HB.out | apply bwA | apply bwN | apply bw1) | exact HB.out))));have n1_:=Aside0.mk (bwT (by repeat(first |(with_reducible first | exact HB.out | apply bwA | apply bwN | apply bw1) | exact HB.out)) hb);clear HB;have HO198:=n0_;have HB:=n1_;clear n0_ n1_;clear hb ho6))
 go_loopg [5] k (fun kq v5 w'=>∃ (x4_1 : List Bool) (x5_1 : Int),v5 = .int .i64 x5_1∧Aside0 (q06_Equals.l0 kq l0 (l0.length : Int) x4_1 x5_1 = some r)∧Aside0 (kq≤k)∧Aside0 (Kd.R Kd.bool 4 w' w.heap.size (fun _=>True) v197 x4_1)∧Aside0 (Below w.heap.size w w'))
 case atStart=>exact⟨(y196),(0),(by first | rfl |(simp;done) |(simp [*];done)),H',⟨Nat.le_refl _⟩,⟨by(with_reducible repeat(first | apply Kd.R_alloc | apply Kd.R_drewN | apply Kd.R_drew));exact HO198.out⟩,⟨by repeat(first |(with_reducible first | exact HB.out | apply bwA | apply bwN | apply bw1) | exact HB.out)⟩⟩
 clear H'
 try clear c2
 try clear p2
 try clear c3
 try clear c3b0
 try clear c3b1
 try clear c4
 try clear c4b0
 try clear c4b1
 try clear p6
 obtain ⟨x4_1,x5_1,rfl,HA,HK1,HO_4,HB⟩:=hrel
 cases gk with
 | zero=>exact absurd HA.out (by simp [q06_Equals.l0])
 | succ k1 =>
  have H:=HA.out
  clear HA
  simp only [q06_Equals.l0] at H
  by_cases c7 : x5_1 < (l0.length : Int)
  ·rw [if_pos c7] at H
   have c7b0 : decide (x5_1 < (l0.length : Int)) = true:=decide_eq_true c7
   clear c7
   have H':=Aside0.mk H
   clear H
   go_wp2
   go_loopg [6] k1 (fun kq v6 w'=>∃ (x4_2 : List Bool) (x6_2 : Int),v6 = .int .i64 x6_2∧Aside0 (q06_Equals.l1 kq l0 (l0.length : Int) x4_2 x5_1 x6_2 = some r)∧Aside0 (kq≤k1)∧Aside0 (Kd.R Kd.bool 4 w' w.heap.size (fun _=>True) v197 x4_2)∧Aside0 (Below w.heap.size w w'))
   case atStart=>exact⟨(x4_1),(0),(by first | rfl |(simp;done) |(simp [*];done)),H',⟨Nat.le_refl _⟩,⟨by(with_reducible repeat(first | apply Kd.R_alloc | apply Kd.R_drewN | apply Kd.R_drew));exact HO_4.out⟩,⟨by repeat(first |(with_reducible first | exact HB.out | apply bwA | apply bwN | apply bw1) | exact HB.out)⟩⟩
   clear H'
   try clear c2
   try clear p2
   try clear c3
   try clear c3b0
   try clear c3b1
   try clear c4
   try clear c4b0
   try clear c4b1
   try clear p6
   try clear c7
   try clear c7b0
   try clear p2
   try clear p6
   obtain ⟨x4_2,x6_2,rfl,HA,HK2,HO_4,HB⟩:=hrel
   cases gk with
   | zero=>exact absurd HA.out (by simp [q06_Equals.l1])
   | succ k2 =>
    have H:=HA.out
    clear HA
    simp only [q06_Equals.l1] at H
    by_cases c8 : x6_2 < (l0.length : Int)
    rotate_left
    ·rw [if_neg c8] at H
     have c8b0 : decide (x6_2 < (l0.length : Int)) = false:=decide_eq_false c8
     clear c8
     have H':=Aside0.mk H
     clear H
     go_wp2
     go_roundg k2
     case measure=>have:=HK1.out;have:=HK2.out;omega
     exact⟨(x4_2),(wrap64 (x5_1 + 1)),(by first | rfl |(simp;done) |(simp [*];done)),H',⟨by have:=HK1.out;have:=HK2.out;omega⟩,⟨by(with_reducible repeat(first | apply Kd.R_alloc | apply Kd.R_drewN | apply Kd.R_drew));exact HO_4.out⟩,⟨by repeat(first |(with_reducible first | exact HB.out | apply bwA | apply bwN | apply bw1) | exact HB.out)⟩⟩
    rw [if_pos c8] at H
    have c8b0 : decide (x6_2 < (l0.length : Int)) = true:=decide_eq_true c8
    clear c8
    by_cases c9 : 0≤x5_1
    rotate_left
    ·rw [if_neg c9] at H
     exact absurd H (by simp)
    rw [if_pos c9] at H
    have c9b0 : decide (0≤x5_1) = true:=decide_eq_true c9
    clear c9
    by_cases c10 : x5_1 < (l0.length : Int)
    rotate_left
    ·rw [if_neg c10] at H
     exact absurd H (by simp)
    rw [if_pos c10] at H
    have c10b0 : decide (x5_1 < (l0.length : Int)) = true:=decide_eq_true c10
    clear c10
    by_cases c11 : 0≤x6_2
    rotate_left
    ·rw [if_neg c11] at H
     exact absurd H (by simp)
    rw [if_pos c11] at H
    have c11b0 : decide (0≤x6_2) = true:=decide_eq_true c11
    clear c11
    by_cases c12 : x6_2 < (l0.length : Int)
    rotate_left
    ·rw [if_neg c12] at H
     exact absurd H (by simp)
    rw [if_pos c12] at H
    have c12b0 : decide (x6_2 < (l0.length : Int)) = true:=decide_eq_true c12
    clear c12
    obtain ⟨ji13,hji13⟩ : ∃ j_ : Int,(wrap64 ((wrap64 ((l0.length : Int) * x5_1)) + x6_2)) = j_:=⟨_,rfl⟩
    replace H :(if 0 ≤(ji13) then(if(ji13) < (x4_2.length : Int) then(q06_Equals.l1 k2 l0 (l0.length : Int) (x4_2.set ((ji13) : Int).toNat (((rd_T39 l0 x5_1).f0) ==((rd_T39 l0 x6_2).f0))) x5_1 (wrap64 (x6_2 + 1))) else(none)) else(none)) = some r:=by first |(rw [hji13] at H;exact H) |(simp only [hji13] at H ⊢;exact H)
    have hji13w :(IntKind.i64.wrap ((wrap64 ((l0.length : Int) * x5_1)) + x6_2)) = ji13:=(i64_w _).trans hji13
    by_cases c14 : 0 ≤(ji13)
    rotate_left
    ·rw [if_neg c14] at H
     exact absurd H (by simp)
    rw [if_pos c14] at H
    have c14b0 : decide (0 ≤(ji13)) = true:=decide_eq_true c14
    clear c14
    by_cases c15 :(ji13) < (x4_2.length : Int)
    rotate_left
    ·rw [if_neg c15] at H
     exact absurd H (by simp)
    rw [if_pos c15] at H
    have c15b0 : decide ((ji13) < (x4_2.length : Int)) = true:=decide_eq_true c15
    clear c15
    obtain ⟨y201,hy201⟩ : ∃ y_ : List Bool,y_ =(x4_2.set ((ji13) : Int).toNat (((rd_T39 l0 x5_1).f0) ==((rd_T39 l0 x6_2).f0))):=⟨_,rfl⟩
    replace H :(q06_Equals.l1 k2 l0 (l0.length : Int) y201 x5_1 (wrap64 (x6_2 + 1))) = some r:=by first |(rw [hy201];with_reducible exact H) |(have H2_:=(Option.bind_some _ _).symm.trans H;rw [hy201];with_reducible exact H2_) |(have H2_:=(Option.bind_some _ _).symm.trans H;with_reducible exact H2_) | with_reducible exact H |(rw [hy201];exact H) | exact H
    have Ny201:=Aside0.mk hy201
    clear hy201
    have H':=Aside0.mk H
    clear H
    try go_wp2
    have n0_:=Aside0.mk (Kd.R_drew HO_4.out)
    have n1_:=Aside0.mk (bw1 HB.out)
    clear HO_4
    clear HB
    have HO_4:=n0_
    have HB:=n1_
    clear n0_ n1_
    have p199 : 0 ≤(x5_1 : Int):=of_decide_eq_true (by first |(with_reducible assumption) | assumption)
    have q199 : x5_1 < (l0.length : Int):=of_decide_eq_true (by first |(with_reducible assumption) | assumption)
    obtain ⟨ad199,e199,hx199_0,hx199_1,hx199_2⟩:=at_T39 HR0.out x5_1 p199 q199
    have hw199_2:=hx199_2
    have hw199_1:=hx199_1
    have hw199_0:=hx199_0
    cases e199
    replace hx199_0:=(HB.out.cell (World.block_lt_of_cell? w _ hx199_0)).trans hx199_0
    replace hx199_1:=(HB.out.cell (World.block_lt_of_cell? w _ hx199_1)).trans hx199_1
    replace hx199_2:=(HB.out.cell (World.block_lt_of_cell? w _ hx199_2)).trans hx199_2
    replace p199:=eq_true p199
    replace q199:=eq_true q199
    have p200 : 0 ≤(x6_2 : Int):=of_decide_eq_true (by first |(with_reducible assumption) | assumption)
    have q200 : x6_2 < (l0.length : Int):=of_decide_eq_true (by first |(with_reducible assumption) | assumption)
    obtain ⟨ad200,e200,hx200_0,hx200_1,hx200_2⟩:=at_T39 HR0.out x6_2 p200 q200
    have hw200_2:=hx200_2
    have hw200_1:=hx200_1
    have hw200_0:=hx200_0
    obtain rfl : ad199 = ad200:=(by injection e200)
    replace hx200_0:=(HB.out.cell (World.block_lt_of_cell? w _ hx200_0)).trans hx200_0
    replace hx200_1:=(HB.out.cell (World.block_lt_of_cell? w _ hx200_1)).trans hx200_1
    replace hx200_2:=(HB.out.cell (World.block_lt_of_cell? w _ hx200_2)).trans hx200_2
    replace p200:=eq_true p200
    replace q200:=eq_true q200
    have p16 : 0 ≤((ji13) : Int):=of_decide_eq_true (by first |(with_reducible assumption) | assumption)
    have q16 :((ji13) : Int) < ((x4_2.length : Int) : Int):=of_decide_eq_true (by first |(with_reducible assumption) | assumption)
    obtain ⟨go16,co16,eo16,gb16,gl16,cl16,HG16⟩:=Kd.R_form HO_4.out (by omega)
    (first | cases eo16 |(injection eo16 with ea_ en_ ec_;(first | subst ea_ |(injection ea_ with ea_;subst ea_));subst ec_;clear en_))
    have GB16:=Aside0.mk gb16
    have GG16:=Aside0.mk HG16
    clear gb16 gl16 HG16
    obtain ⟨hx16_0,hf16_0⟩:=Kd.R_celln false HO_4.out ((ji13) : Int) p16 q16
    replace p16:=eq_true p16
    replace q16:=eq_true q16
    have HP18:=Kd.R_putn HO_4.out ((ji13) : Int) (((rd_T39 l0 x5_1).f0) ==((rd_T39 l0 x6_2).f0))
    rw [← Ny201.out] at HP18
    have HQ18:=Aside0.mk HP18
    clear HP18
    refine start_ (n:=19) (S:=fun w'=>w'.cell? (ad199.add ((x5_1).toNat * 3)) = some (.int .i64 ((rd_T39 l0 x5_1).f0))∧w'.cell? ⟨(ad199.add ((x5_1).toNat * 3)).block,(ad199.add ((x5_1).toNat * 3)).off + 1,none⟩ = some (.int .i64 ((rd_T39 l0 x5_1).f1))∧w'.cell? ⟨(ad199.add ((x5_1).toNat * 3)).block,(ad199.add ((x5_1).toNat * 3)).off + 2,none⟩ = some (.int .i64 ((rd_T39 l0 x5_1).f2))∧w'.cell? (ad199.add ((x6_2).toNat * 3)) = some (.int .i64 ((rd_T39 l0 x6_2).f0))∧w'.cell? ⟨(ad199.add ((x6_2).toNat * 3)).block,(ad199.add ((x6_2).toNat * 3)).off + 1,none⟩ = some (.int .i64 ((rd_T39 l0 x6_2).f1))∧w'.cell? ⟨(ad199.add ((x6_2).toNat * 3)).block,(ad199.add ((x6_2).toNat * 3)).off + 2,none⟩ = some (.int .i64 ((rd_T39 l0 x6_2).f2))) (ds:=[18]) (q06_Equals.tf [0,19]) (by kernel_rfl) rfl rfl ⟨((HB.out.cell (World.block_lt_of_cell? w _ hw199_0)).trans hw199_0),((HB.out.cell (World.block_lt_of_cell? w _ hw199_1)).trans hw199_1),((HB.out.cell (World.block_lt_of_cell? w _ hw199_2)).trans hw199_2),((HB.out.cell (World.block_lt_of_cell? w _ hw200_0)).trans hw200_0),((HB.out.cell (World.block_lt_of_cell? w _ hw200_1)).trans hw200_1),((HB.out.cell (World.block_lt_of_cell? w _ hw200_2)).trans hw200_2)⟩ (fun hHeld=>?_);refine with_tabW q06_Equals.tab9 q06_Equals.bits9 (fun HT_ HW_=>?_)
    generalize wr.drew = w17 at HO_4 HB GG16 HQ18 hf16_0 hx16_0 hx199_0 hx199_1 hx199_2 hx200_0 hx200_1 hx200_2 hHeld ⊢
    refine pure_ (i:=0) (N:=some 26) (v:=?_) (a':=?_) (q06_Equals.tf [1,18]) rfl rfl (any_of HT_.out (by kernel_rfl)) (fun _ _ _ h=>h) (Or.inl ⟨by rfl,?_⟩) ?_ ?_
    rotate_left
    ·intro w'
     go_simp
     with_reducible rfl
    rotate_left
    ·simp only [Act.put, List.setIfInBounds_toArray, List.set_cons_zero, List.set_cons_succ, i64_w, i32_w]
     rfl
    refine pure_ (i:=1) (N:=some 27) (v:=?_) (a':=?_) (q06_Equals.tf [2,17]) rfl rfl (any_of HT_.out (by kernel_rfl)) (fun _ _ _ h=>h) (Or.inl ⟨by rfl,?_⟩) ?_ ?_
    rotate_left
    ·intro w'
     go_simp
     with_reducible rfl
    rotate_left
    ·simp only [Act.put, List.setIfInBounds_toArray, List.set_cons_zero, List.set_cons_succ, i64_w, i32_w]
     rfl
    refine pure_ (i:=2) (N:=some 28) (v:=?_) (a':=?_) (q06_Equals.tf [3,16]) rfl rfl (any_of HT_.out (by kernel_rfl)) (fun _ _ _ h=>h) (Or.inl ⟨by rfl,?_⟩) ?_ ?_
    rotate_left
    ·intro w'
     go_simp
     with_reducible rfl
    rotate_left
    ·simp only [Act.put, List.setIfInBounds_toArray, List.set_cons_zero, List.set_cons_succ, i64_w, i32_w]
     rfl
    refine pure_ (i:=3) (N:=some 29) (v:=?_) (a':=?_) (q06_Equals.tf [4,15]) rfl rfl (any_of HT_.out (by kernel_rfl)) (fun _ _ _ h=>h) (Or.inl ⟨by rfl,?_⟩) ?_ ?_
    rotate_left
    ·intro w'
     go_simp
     with_reducible rfl
    rotate_left
    ·simp only [Act.put, List.setIfInBounds_toArray, List.set_cons_zero, List.set_cons_succ, i64_w, i32_w]
     rfl
    refine pure_ (i:=4) (N:=some 30) (v:=?_) (a':=?_) (q06_Equals.tf [5,14]) rfl rfl (any_of HT_.out (by kernel_rfl)) (fun _ _ _ h=>h) (Or.inl ⟨by rfl,?_⟩) ?_ ?_
    rotate_left
    ·intro w'
     go_simp
     with_reducible rfl
    rotate_left
    ·simp only [Act.put, List.setIfInBounds_toArray, List.set_cons_zero, List.set_cons_succ, i64_w, i32_w]
     rfl
    refine pure_ (i:=5) (N:=some 31) (v:=?_) (a':=?_) (q06_Equals.tf [6,13]) rfl rfl (any_of HT_.out (by kernel_rfl)) (fun _ _ _ h=>h) (Or.inl ⟨by rfl,?_⟩) ?_ ?_
    rotate_left
    ·intro w'
     go_simp
     with_reducible rfl
    rotate_left
    ·simp only [Act.put, List.setIfInBounds_toArray, List.set_cons_zero, List.set_cons_succ, i64_w, i32_w]
     rfl
    refine pure_ (i:=6) (N:=some 32) (v:=?_) (a':=?_) (q06_Equals.tf [7,12]) rfl rfl (any_of HT_.out (by kernel_rfl)) (fun _ _ _ h=>h) (Or.inl ⟨by rfl,?_⟩) ?_ ?_
    rotate_left
    ·intro w'
     go_simp
     with_reducible rfl
    rotate_left
    ·simp only [Act.put, List.setIfInBounds_toArray, List.set_cons_zero, List.set_cons_succ, i64_w, i32_w]
     rfl
    refine pure_ (i:=7) (N:=some 33) (v:=?_) (a':=?_) (q06_Equals.tf [8,11]) rfl rfl (any_of HT_.out (by kernel_rfl)) (fun _ _ _ h=>h) (Or.inl ⟨by rfl,?_⟩) ?_ ?_
    rotate_left
    ·intro w'
     go_simp
     with_reducible rfl
    rotate_left
    ·simp only [Act.put, List.setIfInBounds_toArray, List.set_cons_zero, List.set_cons_succ, i64_w, i32_w]
     rfl
    refine pure_ (i:=8) (N:=some 34) (v:=?_) (a':=?_) (q06_Equals.tf [9,10]) rfl rfl (any_of HT_.out (by kernel_rfl)) (fun _ _ _ h=>h) (Or.inl ⟨by rfl,?_⟩) ?_ ?_
    rotate_left
    ·intro w'
     go_simp
     with_reducible rfl
    rotate_left
    ·simp only [Act.put, List.setIfInBounds_toArray, List.set_cons_zero, List.set_cons_succ, i64_w, i32_w]
     rfl
    refine pure_ (i:=9) (N:=some 35) (v:=?_) (a':=?_) (q06_Equals.tf [10,9]) rfl rfl (any_of HT_.out (by kernel_rfl)) (fun _ _ _ h=>h) (Or.inl ⟨by rfl,?_⟩) ?_ ?_
    rotate_left
    ·intro w'
     go_simp
     with_reducible rfl
    rotate_left
    ·simp only [Act.put, List.setIfInBounds_toArray, List.set_cons_zero, List.set_cons_succ, i64_w, i32_w]
     rfl
    refine pure_ (i:=11) (N:=some 37) (v:=?_) (a':=?_) (q06_Equals.tf [10,1,1,7]) rfl rfl (any_of HT_.out (by kernel_rfl)) (fun _ _ _ h=>h) (Or.inl ⟨by rfl,?_⟩) ?_ ?_
    rotate_left
    ·intro w'
     go_simp
     with_reducible rfl
    rotate_left
    ·simp only [Act.put, List.setIfInBounds_toArray, List.set_cons_zero, List.set_cons_succ, i64_w, i32_w]
     rfl
    refine pure_ (i:=12) (N:=some 38) (v:=?_) (a':=?_) (q06_Equals.tf [10,1,2,6]) rfl rfl (any_of HT_.out (by kernel_rfl)) (fun _ _ _ h=>h) (Or.inl ⟨by rfl,?_⟩) ?_ ?_
    rotate_left
    ·intro w'
     go_simp
     with_reducible rfl
    rotate_left
    ·simp only [Act.put, List.setIfInBounds_toArray, List.set_cons_zero, List.set_cons_succ, i64_w, i32_w]
     rfl
    refine pure_ (i:=13) (N:=some 39) (v:=?_) (a':=?_) (q06_Equals.tf [10,1,3,5]) rfl rfl (any_of HT_.out (by kernel_rfl)) (fun _ _ _ h=>h) (Or.inl ⟨by rfl,?_⟩) ?_ ?_
    rotate_left
    ·intro w'
     go_simp
     with_reducible rfl
    rotate_left
    ·simp only [Act.put, List.setIfInBounds_toArray, List.set_cons_zero, List.set_cons_succ, i64_w, i32_w]
     rfl
    refine pure_ (i:=14) (N:=some 40) (v:=?_) (a':=?_) (q06_Equals.tf [10,1,4,4]) rfl rfl (any_of HT_.out (by kernel_rfl)) (fun _ _ _ h=>h) (Or.inl ⟨by rfl,?_⟩) ?_ ?_
    rotate_left
    ·intro w'
     go_simp
     with_reducible rfl
    rotate_left
    ·simp only [Act.put, List.setIfInBounds_toArray, List.set_cons_zero, List.set_cons_succ, i64_w, i32_w]
     rfl
    refine take_ (i:=10) (N:=some 36) (v:=?_) (a':=?_) (q06_Equals.tf [15,4]) rfl rfl (take_ofW HT_.out HW_.out (by kernel_rfl)) (fun _ _ _ h=>h) (Or.inl ⟨by rfl,?_⟩) hHeld ?_ ?_
    rotate_left
    ·rintro w' ⟨s0, s1, s2, s3, s4, s5⟩
     go_simp
     with_reducible rfl
    rotate_left
    ·simp only [Act.put, List.setIfInBounds_toArray, List.set_cons_zero, List.set_cons_succ, i64_w, i32_w]
     rfl
    refine take_ (i:=15) (N:=some 41) (v:=?_) (a':=?_) (q06_Equals.tf [16,3]) rfl rfl (take_ofW HT_.out HW_.out (by kernel_rfl)) (fun _ _ _ h=>h) (Or.inl ⟨by rfl,?_⟩) hHeld ?_ ?_
    rotate_left
    ·rintro w' ⟨s0, s1, s2, s3, s4, s5⟩
     go_simp
     with_reducible rfl
    rotate_left
    ·simp only [Act.put, List.setIfInBounds_toArray, List.set_cons_zero, List.set_cons_succ, i64_w, i32_w]
     rfl
    refine pure_ (i:=16) (N:=some 42) (v:=?_) (a':=?_) (q06_Equals.tf [17,2]) rfl rfl (any_of HT_.out (by kernel_rfl)) (fun _ _ _ h=>h) (Or.inl ⟨by rfl,?_⟩) ?_ ?_
    rotate_left
    ·intro w'
     go_simp
     with_reducible rfl
    rotate_left
    ·simp only [Act.put, List.setIfInBounds_toArray, List.set_cons_zero, List.set_cons_succ, i64_w, i32_w]
     rfl
    refine pure_ (i:=17) (N:=some 43) (v:=?_) (a':=?_) (q06_Equals.tf [18,1]) rfl rfl (any_of HT_.out (by kernel_rfl)) (fun _ _ _ h=>h) (Or.inl ⟨by rfl,?_⟩) ?_ ?_
    rotate_left
    ·intro w'
     go_simp
     with_reducible rfl
    rotate_left
    ·simp only [Act.put, List.setIfInBounds_toArray, List.set_cons_zero, List.set_cons_succ, i64_w, i32_w]
     rfl
    refine last_ (i:=18) (N:=none) (q06_Equals.tf [19]) rfl rfl (one_of HT_.out (by kernel_rfl)) (by decide) (fun K hK=>?_)
    refine skip_ (w1:=?_) (by rfl) rfl ?_ ?_
    rotate_left
    ·go_simp
     rfl
    refine hK.out _ _ ?_
    clear hK K
    refine done_ (done_of HT_.out (by kernel_rfl)) ?_
    try go_wp2
    go_roundg k2
    case measure=>have:=HK1.out;have:=HK2.out;omega
    exact⟨(y201),(wrap64 (x6_2 + 1)),(by first | rfl |(simp;done) |(simp [*];done)),H',⟨by have:=HK1.out;have:=HK2.out;omega⟩,⟨by(with_reducible repeat(first | apply Kd.R_alloc | apply Kd.R_drewN | apply Kd.R_drew));exact HQ18.out⟩,⟨by repeat(first |(with_reducible first | exact HB.out | apply bwA | apply bwN | apply bw1 | refine bwS ?_ GB16.out) | exact HB.out)⟩⟩
  rw [if_neg c7] at H
  have c7b0 : decide (x5_1 < (l0.length : Int)) = false:=decide_eq_false c7
  clear c7
  have H':=Aside0.mk H
  clear H
  go_wp2
  go_loopg [7] k1 (fun kq v7 w'=>∃ (x4_2 : List Bool) (x7_2 : Bool),v7 = .bool x7_2∧Aside0 (q06_Equals.l2 kq l0 (l0.length : Int) x4_2 x7_2 = some r)∧Aside0 (kq≤k1)∧Aside0 (Kd.R Kd.bool 4 w' w.heap.size (fun _=>True) v197 x4_2)∧Aside0 (Below w.heap.size w w'))
  case atStart=>exact⟨(x4_1),(true),(by first | rfl |(simp;done) |(simp [*];done)),H',⟨Nat.le_refl _⟩,⟨by(with_reducible repeat(first | apply Kd.R_alloc | apply Kd.R_drewN | apply Kd.R_drew));exact HO_4.out⟩,⟨by repeat(first |(with_reducible first | exact HB.out | apply bwA | apply bwN | apply bw1) | exact HB.out)⟩⟩
  clear H'
  try clear c1
  try clear p1
  try clear q1
  try clear hx1
  try clear hf1
  try clear c2
  try clear p2
  try clear q2
  try clear hx2
  try clear c3
  try clear c3b0
  try clear c3b1
  try clear c4
  try clear c4b0
  try clear c4b1
  try clear p6
  try clear c7
  try clear c7b0
  try clear c8
  try clear c8b0
  try clear c9
  try clear c9b0
  try clear c10
  try clear c10b0
  try clear c11
  try clear c11b0
  try clear c12
  try clear c12b0
  try clear c14
  try clear c14b0
  try clear c15
  try clear c15b0
  try clear p16
  try clear q16
  try clear hx16
  try clear hf16
  try clear hx16_0
  try clear hx199_0
  try clear hx199_1
  try clear hx199_2
  try clear hx200_0
  try clear hx200_1
  try clear hx200_2
  try clear p16
  try clear p199
  try clear p2
  try clear p200
  try clear p6
  try clear q16
  try clear q199
  try clear q200
  obtain ⟨x4_2,x7_2,rfl,HA,HK2,HO_4,HB⟩:=hrel
  cases gk with
  | zero=>exact absurd HA.out (by simp [q06_Equals.l2])
  | succ k2 =>
   have H:=HA.out
   clear HA
   simp only [q06_Equals.l2] at H
   by_cases c19 : x7_2 = true
   rotate_left
   ·replace c19 := Bool.eq_false_iff.mpr c19
    subst c19
    have H1 :(some x4_2) = some r:=by rw [if_neg (show ¬ (false = true) by decide)] at H;exact H
    clear H
    have H:=H1
    clear H1
    obtain rfl:=Option.some.inj H
    go_wp2
    go_ret
    exact⟨_,by first | rfl |(simp [errW_none,errW_some] <;> rfl) |(simp only [← hji2];first | rfl |(simp [errW_none,errW_some] <;> rfl)) |(simp [*,errW_none,errW_some] <;> rfl),by(with_reducible repeat(first | apply Kd.R_alloc | apply Kd.R_drewN | apply Kd.R_drew));exact HO_4.out,by repeat(first |(with_reducible first | exact HB.out | apply bwA | apply bwN | apply bw1) | exact HB.out)⟩
   subst c19
   have H1 :(q06_Equals.l3 k2 l0 (l0.length : Int) x4_2 false 0) = some r:=by rw [if_pos rfl] at H;exact H
   clear H
   have H:=H1
   clear H1
   have H':=Aside0.mk H
   clear H
   go_wp2
   go_loopg [7,8] k2 (fun kq v7 v8 w'=>∃ (x4_3 : List Bool) (x7_3 : Bool) (x8_3 : Int),v7 = .bool x7_3∧v8 = .int .i64 x8_3∧Aside0 (q06_Equals.l3 kq l0 (l0.length : Int) x4_3 x7_3 x8_3 = some r)∧Aside0 (kq≤k2)∧Aside0 (Kd.R Kd.bool 4 w' w.heap.size (fun _=>True) v197 x4_3)∧Aside0 (Below w.heap.size w w'))
   case atStart=>exact⟨(x4_2),(false),(0),(by first | rfl |(simp;done) |(simp [*];done)),(by first | rfl |(simp;done) |(simp [*];done)),H',⟨Nat.le_refl _⟩,⟨by(with_reducible repeat(first | apply Kd.R_alloc | apply Kd.R_drewN | apply Kd.R_drew));exact HO_4.out⟩,⟨by repeat(first |(with_reducible first | exact HB.out | apply bwA | apply bwN | apply bw1) | exact HB.out)⟩⟩
   clear H'
   try clear c1
   try clear p1
   try clear q1
   try clear hx1
   try clear hf1
   try clear c2
   try clear p2
   try clear q2
   try clear hx2
   try clear c3
   try clear c3b0
   try clear c3b1
   try clear c4
   try clear c4b0
   try clear c4b1
   try clear p6
   try clear c7
   try clear c7b0
   try clear c8
   try clear c8b0
   try clear c9
   try clear c9b0
   try clear c10
   try clear c10b0
   try clear c11
   try clear c11b0
   try clear c12
   try clear c12b0
   try clear c14
   try clear c14b0
   try clear c15
   try clear c15b0
   try clear p16
   try clear q16
   try clear hx16
   try clear hf16
   try clear c19
   try clear p19
   try clear q19
   try clear hx19
   try clear hx16_0
   try clear hx199_0
   try clear hx199_1
   try clear hx199_2
   try clear hx200_0
   try clear hx200_1
   try clear hx200_2
   try clear p1
   try clear p16
   try clear p199
   try clear p2
   try clear p200
   try clear p6
   try clear q1
   try clear q16
   try clear q199
   try clear q2
   try clear q200
   obtain ⟨x4_3,x7_3,x8_3,rfl,rfl,HA,HK3,HO_4,HB⟩:=hrel
   cases gk with
   | zero=>exact absurd HA.out (by simp [q06_Equals.l3])
   | succ k3 =>
    have H:=HA.out
    clear HA
    simp only [q06_Equals.l3] at H
    by_cases c20 : x8_3 < (l0.length : Int)
    rotate_left
    ·rw [if_neg c20] at H
     have c20b0 : decide (x8_3 < (l0.length : Int)) = false:=decide_eq_false c20
     clear c20
     have H':=Aside0.mk H
     clear H
     go_wp2
     go_roundg k3
     case measure=>have:=HK1.out;have:=HK2.out;have:=HK3.out;omega
     exact⟨(x4_3),(x7_3),(by first | rfl |(simp;done) |(simp [*];done)),H',⟨by have:=HK1.out;have:=HK2.out;have:=HK3.out;omega⟩,⟨by(with_reducible repeat(first | apply Kd.R_alloc | apply Kd.R_drewN | apply Kd.R_drew));exact HO_4.out⟩,⟨by repeat(first |(with_reducible first | exact HB.out | apply bwA | apply bwN | apply bw1) | exact HB.out)⟩⟩
    rw [if_pos c20] at H
    have c20b0 : decide (x8_3 < (l0.length : Int)) = true:=decide_eq_true c20
    clear c20
    have H':=Aside0.mk H
    clear H
    go_wp2
    go_loopg [7,9] k3 (fun kq v7 v9 w'=>∃ (x4_4 : List Bool) (x7_4 : Bool) (x9_4 : Int),v7 = .bool x7_4∧v9 = .int .i64 x9_4∧Aside0 (q06_Equals.l4 kq l0 (l0.length : Int) x4_4 x7_4 x8_3 x9_4 = some r)∧Aside0 (kq≤k3)∧Aside0 (Kd.R Kd.bool 4 w' w.heap.size (fun _=>True) v197 x4_4)∧Aside0 (Below w.heap.size w w'))
    case atStart=>exact⟨(x4_3),(x7_3),(0),(by first | rfl |(simp;done) |(simp [*];done)),(by first | rfl |(simp;done) |(simp [*];done)),H',⟨Nat.le_refl _⟩,⟨by(with_reducible repeat(first | apply Kd.R_alloc | apply Kd.R_drewN | apply Kd.R_drew));exact HO_4.out⟩,⟨by repeat(first |(with_reducible first | exact HB.out | apply bwA | apply bwN | apply bw1) | exact HB.out)⟩⟩
    clear H'
    try clear c1
    try clear p1
    try clear q1
    try clear hx1
    try clear hf1
    try clear c2
    try clear p2
    try clear q2
    try clear hx2
    try clear c3
    try clear c3b0
    try clear c3b1
    try clear c4
    try clear c4b0
    try clear c4b1
    try clear p6
    try clear c7
    try clear c7b0
    try clear c8
    try clear c8b0
    try clear c9
    try clear c9b0
    try clear c10
    try clear c10b0
    try clear c11
    try clear c11b0
    try clear c12
    try clear c12b0
    try clear c14
    try clear c14b0
    try clear c15
    try clear c15b0
    try clear p16
    try clear q16
    try clear hx16
    try clear hf16
    try clear c19
    try clear p19
    try clear q19
    try clear hx19
    try clear c20
    try clear c20b0
    try clear p20
    try clear q20
    try clear hx20
    try clear hx16_0
    try clear hx199_0
    try clear hx199_1
    try clear hx199_2
    try clear hx200_0
    try clear hx200_1
    try clear hx200_2
    try clear p1
    try clear p16
    try clear p19
    try clear p199
    try clear p2
    try clear p200
    try clear p6
    try clear q1
    try clear q16
    try clear q19
    try clear q199
    try clear q2
    try clear q200
    obtain ⟨x4_4,x7_4,x9_4,rfl,rfl,HA,HK4,HO_4,HB⟩:=hrel
    cases gk with
    | zero=>exact absurd HA.out (by simp [q06_Equals.l4])
    | succ k4 =>
     have H:=HA.out
     clear HA
     simp only [q06_Equals.l4] at H
     by_cases c21 : x9_4 < (l0.length : Int)
     rotate_left
     ·rw [if_neg c21] at H
      have c21b0 : decide (x9_4 < (l0.length : Int)) = false:=decide_eq_false c21
      clear c21
      have H':=Aside0.mk H
      clear H
      go_wp2
      go_roundg k4
      case measure=>have:=HK1.out;have:=HK2.out;have:=HK3.out;have:=HK4.out;omega
      exact⟨(x4_4),(x7_4),(wrap64 (x8_3 + 1)),(by first | rfl |(simp;done) |(simp [*];done)),(by first | rfl |(simp;done) |(simp [*];done)),H',⟨by have:=HK1.out;have:=HK2.out;have:=HK3.out;have:=HK4.out;omega⟩,⟨by(with_reducible repeat(first | apply Kd.R_alloc | apply Kd.R_drewN | apply Kd.R_drew));exact HO_4.out⟩,⟨by repeat(first |(with_reducible first | exact HB.out | apply bwA | apply bwN | apply bw1) | exact HB.out)⟩⟩
     rw [if_pos c21] at H
     have c21b0 : decide (x9_4 < (l0.length : Int)) = true:=decide_eq_true c21
     clear c21
     obtain ⟨ji22,hji22⟩ : ∃ j_ : Int,(wrap64 ((wrap64 ((l0.length : Int) * x8_3)) + x9_4)) = j_:=⟨_,rfl⟩
     replace H :(if 0 ≤(ji22) then(if(ji22) < (x4_4.length : Int) then(if rdOf false x4_4 (ji22) = true then(if 0≤x8_3 then(if x8_3 < (l0.length : Int) then(if((rd_T39 l0 x8_3).f0) ≥ 4 then(if 0≤x9_4 then(if x9_4 < (l0.length : Int) then(if 0 ≤(wrap64 ((wrap64 ((l0.length : Int) * ((rd_T39 l0 x8_3).f1))) + ((rd_T39 l0 x9_4).f1))) then(if(wrap64 ((wrap64 ((l0.length : Int) * ((rd_T39 l0 x8_3).f1))) + ((rd_T39 l0 x9_4).f1))) < (x4_4.length : Int) then(if(rdOf false x4_4 (wrap64 ((wrap64 ((l0.length : Int) * ((rd_T39 l0 x8_3).f1))) + ((rd_T39 l0 x9_4).f1))) = true) then(if 0 ≤(wrap64 ((wrap64 ((l0.length : Int) * ((rd_T39 l0 x8_3).f2))) + ((rd_T39 l0 x9_4).f2))) then(if(wrap64 ((wrap64 ((l0.length : Int) * ((rd_T39 l0 x8_3).f2))) + ((rd_T39 l0 x9_4).f2))) < (x4_4.length : Int) then(if(rdOf false x4_4 (wrap64 ((wrap64 ((l0.length : Int) * ((rd_T39 l0 x8_3).f2))) + ((rd_T39 l0 x9_4).f2))) = true) then(q06_Equals.l4 k4 l0 (l0.length : Int) x4_4 x7_4 x8_3 (wrap64 (x9_4 + 1))) else(q06_Equals.l4 k4 l0 (l0.length : Int) (x4_4.set ((ji22) : Int).toNat false) true x8_3 (wrap64 (x9_4 + 1)))) else(none)) else(none)) else(q06_Equals.l4 k4 l0 (l0.length : Int) (x4_4.set ((ji22) : Int).toNat false) true x8_3 (wrap64 (x9_4 + 1)))) else(none)) else(none)) else(none)) else(none)) else(q06_Equals.l4 k4 l0 (l0.length : Int) x4_4 x7_4 x8_3 (wrap64 (x9_4 + 1)))) else(none)) else(none)) else(q06_Equals.l4 k4 l0 (l0.length : Int) x4_4 x7_4 x8_3 (wrap64 (x9_4 + 1)))) else(none)) else(none)) = some r:=by first |(rw [hji22] at H;exact H) |(simp only [hji22] at H ⊢;exact H)
     have hji22w :(IntKind.i64.wrap ((wrap64 ((l0.length : Int) * x8_3)) + x9_4)) = ji22:=(i64_w _).trans hji22
     by_cases c23 : 0 ≤(ji22)
     rotate_left
     ·rw [if_neg c23] at H
      exact absurd H (by simp)
     rw [if_pos c23] at H
     have c23b0 : decide (0 ≤(ji22)) = true:=decide_eq_true c23
     clear c23
     by_cases c24 :(ji22) < (x4_4.length : Int)
     rotate_left
     ·rw [if_neg c24] at H
      exact absurd H (by simp)
     rw [if_pos c24] at H
     have c24b0 : decide ((ji22) < (x4_4.length : Int)) = true:=decide_eq_true c24
     clear c24
     obtain ⟨bq25,hbq25⟩ : ∃ b_ : Bool,b_ =(rdOf false x4_4 (ji22)):=⟨_,rfl⟩
     replace H :(if bq25 = true then(if 0≤x8_3 then(if x8_3 < (l0.length : Int) then(if((rd_T39 l0 x8_3).f0) ≥ 4 then(if 0≤x9_4 then(if x9_4 < (l0.length : Int) then(if 0 ≤(wrap64 ((wrap64 ((l0.length : Int) * ((rd_T39 l0 x8_3).f1))) + ((rd_T39 l0 x9_4).f1))) then(if(wrap64 ((wrap64 ((l0.length : Int) * ((rd_T39 l0 x8_3).f1))) + ((rd_T39 l0 x9_4).f1))) < (x4_4.length : Int) then(if(rdOf false x4_4 (wrap64 ((wrap64 ((l0.length : Int) * ((rd_T39 l0 x8_3).f1))) + ((rd_T39 l0 x9_4).f1))) = true) then(if 0 ≤(wrap64 ((wrap64 ((l0.length : Int) * ((rd_T39 l0 x8_3).f2))) + ((rd_T39 l0 x9_4).f2))) then(if(wrap64 ((wrap64 ((l0.length : Int) * ((rd_T39 l0 x8_3).f2))) + ((rd_T39 l0 x9_4).f2))) < (x4_4.length : Int) then(if(rdOf false x4_4 (wrap64 ((wrap64 ((l0.length : Int) * ((rd_T39 l0 x8_3).f2))) + ((rd_T39 l0 x9_4).f2))) = true) then(q06_Equals.l4 k4 l0 (l0.length : Int) x4_4 x7_4 x8_3 (wrap64 (x9_4 + 1))) else(q06_Equals.l4 k4 l0 (l0.length : Int) (x4_4.set ((ji22) : Int).toNat false) true x8_3 (wrap64 (x9_4 + 1)))) else(none)) else(none)) else(q06_Equals.l4 k4 l0 (l0.length : Int) (x4_4.set ((ji22) : Int).toNat false) true x8_3 (wrap64 (x9_4 + 1)))) else(none)) else(none)) else(none)) else(none)) else(q06_Equals.l4 k4 l0 (l0.length : Int) x4_4 x7_4 x8_3 (wrap64 (x9_4 + 1)))) else(none)) else(none)) else(q06_Equals.l4 k4 l0 (l0.length : Int) x4_4 x7_4 x8_3 (wrap64 (x9_4 + 1)))) = some r:=by rw [← hbq25] at H;exact H
     have Nbq25:=Aside0.mk hbq25
     clear hbq25
     by_cases c26 : bq25 = true
     rotate_left
     ·replace c26 := Bool.eq_false_iff.mpr c26
      subst c26
      have H1 :(q06_Equals.l4 k4 l0 (l0.length : Int) x4_4 x7_4 x8_3 (wrap64 (x9_4 + 1))) = some r:=by rw [if_neg (show ¬ (false = true) by decide)] at H;exact H
      clear H
      have H:=H1
      clear H1
      have H':=Aside0.mk H
      clear H
      try go_wp2
      have n0_:=Aside0.mk (Kd.R_drew HO_4.out)
      have n1_:=Aside0.mk (bw1 HB.out)
      clear HO_4
      clear HB
      have HO_4:=n0_
      have HB:=n1_
      clear n0_ n1_
      obtain ⟨Ao57,co57,eo57⟩:=Kd.R_slice HO_4.out
      (first | subst eo57 |(injection eo57 with f1_ f2_ f3_;have f4_:=f1_.symm;have f5_:=f3_.symm;clear f1_ f2_ f3_;subst f4_;subst f5_))
      have p202 : 0 ≤((ji22) : Int):=of_decide_eq_true (by first |(with_reducible assumption) | assumption)
      have q202 :(ji22) < (x4_4.length : Int):=of_decide_eq_true (by first |(with_reducible assumption) | assumption)
      obtain ⟨ad202,e202,hx202_0⟩:=Kd.at_bool (Kd.R_reads' HO_4.out).2.2 (ji22) p202 q202
      (try rw [← Nbq25.out] at hx202_0)
      cases e202
      replace p202:=eq_true p202
      replace q202:=eq_true q202
      refine start_ (n:=54) (S:=fun w'=>w'.cell? (ad202.add ((ji22)).toNat) = some (.bool false)) (ds:=[]) (q06_Equals.tf [0,54]) (by kernel_rfl) rfl rfl (hx202_0) (fun hHeld=>?_);refine with_tabW q06_Equals.tab19 q06_Equals.bits19 (fun HT_ HW_=>?_)
      generalize wr.drew = w56 at HO_4 HB hx202_0 hHeld ⊢
      refine pure_ (i:=0) (N:=some 55) (v:=?_) (a':=?_) (q06_Equals.tf [1,53]) rfl rfl (any_of HT_.out (by kernel_rfl)) (fun _ _ _ h=>h) (Or.inl ⟨by rfl,?_⟩) ?_ ?_
      rotate_left
      ·intro w'
       go_simp
       with_reducible rfl
      rotate_left
      ·simp only [Act.put, List.setIfInBounds_toArray, List.set_cons_zero, List.set_cons_succ, i64_w, i32_w]
       rfl
      refine pure_ (i:=1) (N:=some 56) (v:=?_) (a':=?_) (q06_Equals.tf [2,52]) rfl rfl (any_of HT_.out (by kernel_rfl)) (fun _ _ _ h=>h) (Or.inl ⟨by rfl,?_⟩) ?_ ?_
      rotate_left
      ·intro w'
       go_simp
       with_reducible rfl
      rotate_left
      ·simp only [Act.put, List.setIfInBounds_toArray, List.set_cons_zero, List.set_cons_succ, i64_w, i32_w]
       rfl
      refine pure_ (i:=2) (N:=some 57) (v:=?_) (a':=?_) (q06_Equals.tf [3,51]) rfl rfl (any_of HT_.out (by kernel_rfl)) (fun _ _ _ h=>h) (Or.inl ⟨by rfl,?_⟩) ?_ ?_
      rotate_left
      ·intro w'
       go_simp
       with_reducible rfl
      rotate_left
      ·simp only [Act.put, List.setIfInBounds_toArray, List.set_cons_zero, List.set_cons_succ, i64_w, i32_w]
       rfl
      refine pure_ (i:=3) (N:=some 58) (v:=?_) (a':=?_) (q06_Equals.tf [4,50]) rfl rfl (any_of HT_.out (by kernel_rfl)) (fun _ _ _ h=>h) (Or.inl ⟨by rfl,?_⟩) ?_ ?_
      rotate_left
      ·intro w'
       go_simp
       with_reducible rfl
      rotate_left
      ·simp only [Act.put, List.setIfInBounds_toArray, List.set_cons_zero, List.set_cons_succ, i64_w, i32_w]
       rfl
      refine pure_ (i:=4) (N:=some 59) (v:=?_) (a':=?_) (q06_Equals.tf [5,49]) rfl rfl (any_of HT_.out (by kernel_rfl)) (fun _ _ _ h=>h) (Or.inl ⟨by rfl,?_⟩) ?_ ?_
      rotate_left
      ·intro w'
       go_simp
       with_reducible rfl
      rotate_left
      ·simp only [Act.put, List.setIfInBounds_toArray, List.set_cons_zero, List.set_cons_succ, i64_w, i32_w]
       rfl
      refine pure_ (i:=5) (N:=some 60) (v:=?_) (a':=?_) (q06_Equals.tf [6,48]) rfl rfl (any_of HT_.out (by kernel_rfl)) (fun _ _ _ h=>h) (Or.inl ⟨by rfl,?_⟩) ?_ ?_
      rotate_left
      ·intro w'
       go_simp
       with_reducible rfl
      rotate_left
      ·simp only [Act.put, List.setIfInBounds_toArray, List.set_cons_zero, List.set_cons_succ, i64_w, i32_w]
       rfl
      refine pure_ (i:=6) (N:=some 61) (v:=?_) (a':=?_) (q06_Equals.tf [7,47]) rfl rfl (any_of HT_.out (by kernel_rfl)) (fun _ _ _ h=>h) (Or.inl ⟨by rfl,?_⟩) ?_ ?_
      rotate_left
      ·intro w'
       go_simp
       with_reducible rfl
      rotate_left
      ·simp only [Act.put, List.setIfInBounds_toArray, List.set_cons_zero, List.set_cons_succ, i64_w, i32_w]
       rfl
      refine take_ (i:=7) (N:=some 62) (v:=?_) (a':=?_) (q06_Equals.tf [8,46]) rfl rfl (take_ofW HT_.out HW_.out (by kernel_rfl)) (fun _ _ _ h=>h) (Or.inl ⟨by rfl,?_⟩) hHeld ?_ ?_
      rotate_left
      ·intro w' s0
       go_simp
       with_reducible rfl
      rotate_left
      ·simp only [Act.put, List.setIfInBounds_toArray, List.set_cons_zero, List.set_cons_succ, i64_w, i32_w]
       rfl
      refine pure_ (i:=8) (N:=some 63) (v:=?_) (a':=?_) (q06_Equals.tf [9,45]) rfl rfl (any_of HT_.out (by kernel_rfl)) (fun _ _ _ h=>h) (Or.inl ⟨by rfl,?_⟩) ?_ ?_
      rotate_left
      ·intro w'
       go_simp
       with_reducible rfl
      rotate_left
      ·simp only [Act.put, List.setIfInBounds_toArray, List.set_cons_zero, List.set_cons_succ, i64_w, i32_w]
       rfl
      refine pure_ (i:=9) (N:=some 64) (v:=undef) (a':=?_) (q06_Equals.tf [10,44]) rfl rfl (any_of HT_.out (by kernel_rfl)) (fun _ _ _ h=>h) (Or.inr ⟨by rfl,rfl⟩) ?_ ?_
      rotate_left
      ·simp only [Act.put, List.setIfInBounds_toArray, List.set_cons_zero, List.set_cons_succ, i64_w, i32_w]
       rfl
      refine pure_ (i:=10) (N:=some 65) (v:=undef) (a':=?_) (q06_Equals.tf [11,43]) rfl rfl (any_of HT_.out (by kernel_rfl)) (fun _ _ _ h=>h) (Or.inr ⟨by rfl,rfl⟩) ?_ ?_
      rotate_left
      ·simp only [Act.put, List.setIfInBounds_toArray, List.set_cons_zero, List.set_cons_succ, i64_w, i32_w]
       rfl
      refine pure_ (i:=11) (N:=some 66) (v:=undef) (a':=?_) (q06_Equals.tf [12,42]) rfl rfl (any_of HT_.out (by kernel_rfl)) (fun _ _ _ h=>h) (Or.inr ⟨by rfl,rfl⟩) ?_ ?_
      rotate_left
      ·simp only [Act.put, List.setIfInBounds_toArray, List.set_cons_zero, List.set_cons_succ, i64_w, i32_w]
       rfl
      refine pure_ (i:=12) (N:=some 67) (v:=undef) (a':=?_) (q06_Equals.tf [13,41]) rfl rfl (any_of HT_.out (by kernel_rfl)) (fun _ _ _ h=>h) (Or.inr ⟨by rfl,rfl⟩) ?_ ?_
      rotate_left
      ·simp only [Act.put, List.setIfInBounds_toArray, List.set_cons_zero, List.set_cons_succ, i64_w, i32_w]
       rfl
      refine pure_ (i:=13) (N:=some 68) (v:=undef) (a':=?_) (q06_Equals.tf [14,40]) rfl rfl (any_of HT_.out (by kernel_rfl)) (fun _ _ _ h=>h) (Or.inr ⟨by rfl,rfl⟩) ?_ ?_
      rotate_left
      ·simp only [Act.put, List.setIfInBounds_toArray, List.set_cons_zero, List.set_cons_succ, i64_w, i32_w]
       rfl
      refine pure_ (i:=14) (N:=some 69) (v:=undef) (a':=?_) (q06_Equals.tf [15,39]) rfl rfl (any_of HT_.out (by kernel_rfl)) (fun _ _ _ h=>h) (Or.inr ⟨by rfl,rfl⟩) ?_ ?_
      rotate_left
      ·simp only [Act.put, List.setIfInBounds_toArray, List.set_cons_zero, List.set_cons_succ, i64_w, i32_w]
       rfl
      refine pure_ (i:=15) (N:=some 70) (v:=?_) (a':=?_) (q06_Equals.tf [16,38]) rfl rfl (any_of HT_.out (by kernel_rfl)) (fun _ _ _ h=>h) (Or.inl ⟨by rfl,?_⟩) ?_ ?_
      rotate_left
      ·intro w'
       go_simp
       with_reducible rfl
      rotate_left
      ·simp only [Act.put, List.setIfInBounds_toArray, List.set_cons_zero, List.set_cons_succ, i64_w, i32_w]
       rfl
      refine pure_ (i:=16) (N:=some 71) (v:=?_) (a':=?_) (q06_Equals.tf [17,37]) rfl rfl (any_of HT_.out (by kernel_rfl)) (fun _ _ _ h=>h) (Or.inl ⟨by rfl,?_⟩) ?_ ?_
      rotate_left
      ·intro w'
       go_simp
       with_reducible rfl
      rotate_left
      ·simp only [Act.put, List.setIfInBounds_toArray, List.set_cons_zero, List.set_cons_succ, i64_w, i32_w]
       rfl
      refine pure_ (i:=17) (N:=some 72) (v:=undef) (a':=?_) (q06_Equals.tf [18,36]) rfl rfl (any_of HT_.out (by kernel_rfl)) (fun _ _ _ h=>h) (Or.inr ⟨by rfl,rfl⟩) ?_ ?_
      rotate_left
      ·simp only [Act.put, List.setIfInBounds_toArray, List.set_cons_zero, List.set_cons_succ, i64_w, i32_w]
       rfl
      refine pure_ (i:=18) (N:=some 73) (v:=undef) (a':=?_) (q06_Equals.tf [19,35]) rfl rfl (any_of HT_.out (by kernel_rfl)) (fun _ _ _ h=>h) (Or.inr ⟨by rfl,rfl⟩) ?_ ?_
      rotate_left
      ·simp only [Act.put, List.setIfInBounds_toArray, List.set_cons_zero, List.set_cons_succ, i64_w, i32_w]
       rfl
      refine pure_ (i:=19) (N:=some 74) (v:=undef) (a':=?_) (q06_Equals.tf [20,34]) rfl rfl (any_of HT_.out (by kernel_rfl)) (fun _ _ _ h=>h) (Or.inr ⟨by rfl,rfl⟩) ?_ ?_
      rotate_left
      ·simp only [Act.put, List.setIfInBounds_toArray, List.set_cons_zero, List.set_cons_succ, i64_w, i32_w]
       rfl
      refine pure_ (i:=20) (N:=some 75) (v:=undef) (a':=?_) (q06_Equals.tf [21,33]) rfl rfl (any_of HT_.out (by kernel_rfl)) (fun _ _ _ h=>h) (Or.inr ⟨by rfl,rfl⟩) ?_ ?_
      rotate_left
      ·simp only [Act.put, List.setIfInBounds_toArray, List.set_cons_zero, List.set_cons_succ, i64_w, i32_w]
       rfl
      refine pure_ (i:=21) (N:=some 76) (v:=undef) (a':=?_) (q06_Equals.tf [22,32]) rfl rfl (any_of HT_.out (by kernel_rfl)) (fun _ _ _ h=>h) (Or.inr ⟨by rfl,rfl⟩) ?_ ?_
      rotate_left
      ·simp only [Act.put, List.setIfInBounds_toArray, List.set_cons_zero, List.set_cons_succ, i64_w, i32_w]
       rfl
      refine pure_ (i:=22) (N:=some 77) (v:=undef) (a':=?_) (q06_Equals.tf [23,31]) rfl rfl (any_of HT_.out (by kernel_rfl)) (fun _ _ _ h=>h) (Or.inr ⟨by rfl,rfl⟩) ?_ ?_
      rotate_left
      ·simp only [Act.put, List.setIfInBounds_toArray, List.set_cons_zero, List.set_cons_succ, i64_w, i32_w]
       rfl
      refine pure_ (i:=23) (N:=some 78) (v:=undef) (a':=?_) (q06_Equals.tf [24,30]) rfl rfl (any_of HT_.out (by kernel_rfl)) (fun _ _ _ h=>h) (Or.inr ⟨by rfl,rfl⟩) ?_ ?_
      rotate_left
      ·simp only [Act.put, List.setIfInBounds_toArray, List.set_cons_zero, List.set_cons_succ, i64_w, i32_w]
       rfl
      refine pure_ (i:=24) (N:=some 79) (v:=undef) (a':=?_) (q06_Equals.tf [25,29]) rfl rfl (any_of HT_.out (by kernel_rfl)) (fun _ _ _ h=>h) (Or.inr ⟨by rfl,rfl⟩) ?_ ?_
      rotate_left
      ·simp only [Act.put, List.setIfInBounds_toArray, List.set_cons_zero, List.set_cons_succ, i64_w, i32_w]
       rfl
      refine pure_ (i:=25) (N:=some 80) (v:=undef) (a':=?_) (q06_Equals.tf [26,28]) rfl rfl (any_of HT_.out (by kernel_rfl)) (fun _ _ _ h=>h) (Or.inr ⟨by rfl,rfl⟩) ?_ ?_
      rotate_left
      ·simp only [Act.put, List.setIfInBounds_toArray, List.set_cons_zero, List.set_cons_succ, i64_w, i32_w]
       rfl
      refine pure_ (i:=26) (N:=some 81) (v:=undef) (a':=?_) (q06_Equals.tf [27,27]) rfl rfl (any_of HT_.out (by kernel_rfl)) (fun _ _ _ h=>h) (Or.inr ⟨by rfl,rfl⟩) ?_ ?_
      rotate_left
      ·simp only [Act.put, List.setIfInBounds_toArray, List.set_cons_zero, List.set_cons_succ, i64_w, i32_w]
       rfl
      refine pure_ (i:=27) (N:=some 82) (v:=undef) (a':=?_) (q06_Equals.tf [28,26]) rfl rfl (any_of HT_.out (by kernel_rfl)) (fun _ _ _ h=>h) (Or.inr ⟨by rfl,rfl⟩) ?_ ?_
      rotate_left
      ·simp only [Act.put, List.setIfInBounds_toArray, List.set_cons_zero, List.set_cons_succ, i64_w, i32_w]
       rfl
      refine pure_ (i:=28) (N:=some 83) (v:=undef) (a':=?_) (q06_Equals.tf [29,25]) rfl rfl (any_of HT_.out (by kernel_rfl)) (fun _ _ _ h=>h) (Or.inr ⟨by rfl,rfl⟩) ?_ ?_
      rotate_left
      ·simp only [Act.put, List.setIfInBounds_toArray, List.set_cons_zero, List.set_cons_succ, i64_w, i32_w]
       rfl
      refine pure_ (i:=29) (N:=some 84) (v:=undef) (a':=?_) (q06_Equals.tf [30,24]) rfl rfl (any_of HT_.out (by kernel_rfl)) (fun _ _ _ h=>h) (Or.inr ⟨by rfl,rfl⟩) ?_ ?_
      rotate_left
      ·simp only [Act.put, List.setIfInBounds_toArray, List.set_cons_zero, List.set_cons_succ, i64_w, i32_w]
       rfl
      refine pure_ (i:=30) (N:=some 85) (v:=undef) (a':=?_) (q06_Equals.tf [31,23]) rfl rfl (any_of HT_.out (by kernel_rfl)) (fun _ _ _ h=>h) (Or.inr ⟨by rfl,rfl⟩) ?_ ?_
      rotate_left
      ·simp only [Act.put, List.setIfInBounds_toArray, List.set_cons_zero, List.set_cons_succ, i64_w, i32_w]
       rfl
      refine pure_ (i:=31) (N:=some 86) (v:=undef) (a':=?_) (q06_Equals.tf [32,22]) rfl rfl (any_of HT_.out (by kernel_rfl)) (fun _ _ _ h=>h) (Or.inr ⟨by rfl,rfl⟩) ?_ ?_
      rotate_left
      ·simp only [Act.put, List.setIfInBounds_toArray, List.set_cons_zero, List.set_cons_succ, i64_w, i32_w]
       rfl
      refine pure_ (i:=32) (N:=some 87) (v:=undef) (a':=?_) (q06_Equals.tf [33,21]) rfl rfl (any_of HT_.out (by kernel_rfl)) (fun _ _ _ h=>h) (Or.inr ⟨by rfl,rfl⟩) ?_ ?_
      rotate_left
      ·simp only [Act.put, List.setIfInBounds_toArray, List.set_cons_zero, List.set_cons_succ, i64_w, i32_w]
       rfl
      refine pure_ (i:=33) (N:=some 88) (v:=undef) (a':=?_) (q06_Equals.tf [34,20]) rfl rfl (any_of HT_.out (by kernel_rfl)) (fun _ _ _ h=>h) (Or.inr ⟨by rfl,rfl⟩) ?_ ?_
      rotate_left
      ·simp only [Act.put, List.setIfInBounds_toArray, List.set_cons_zero, List.set_cons_succ, i64_w, i32_w]
       rfl
      refine pure_ (i:=34) (N:=some 89) (v:=undef) (a':=?_) (q06_Equals.tf [35,19]) rfl rfl (any_of HT_.out (by kernel_rfl)) (fun _ _ _ h=>h) (Or.inr ⟨by rfl,rfl⟩) ?_ ?_
      rotate_left
      ·simp only [Act.put, List.setIfInBounds_toArray, List.set_cons_zero, List.set_cons_succ, i64_w, i32_w]
       rfl
      refine pure_ (i:=35) (N:=some 90) (v:=undef) (a':=?_) (q06_Equals.tf [36,18]) rfl rfl (any_of HT_.out (by kernel_rfl)) (fun _ _ _ h=>h) (Or.inr ⟨by rfl,rfl⟩) ?_ ?_
      rotate_left
      ·simp only [Act.put, List.setIfInBounds_toArray, List.set_cons_zero, List.set_cons_succ, i64_w, i32_w]
       rfl
      refine pure_ (i:=36) (N:=some 91) (v:=undef) (a':=?_) (q06_Equals.tf [37,17]) rfl rfl (any_of HT_.out (by kernel_rfl)) (fun _ _ _ h=>h) (Or.inr ⟨by rfl,rfl⟩) ?_ ?_
      rotate_left
      ·simp only [Act.put, List.setIfInBounds_toArray, List.set_cons_zero, List.set_cons_succ, i64_w, i32_w]
       rfl
      refine pure_ (i:=37) (N:=some 92) (v:=undef) (a':=?_) (q06_Equals.tf [38,16]) rfl rfl (any_of HT_.out (by kernel_rfl)) (fun _ _ _ h=>h) (Or.inr ⟨by rfl,rfl⟩) ?_ ?_
      rotate_left
      ·simp only [Act.put, List.setIfInBounds_toArray, List.set_cons_zero, List.set_cons_succ, i64_w, i32_w]
       rfl
      refine pure_ (i:=38) (N:=some 93) (v:=undef) (a':=?_) (q06_Equals.tf [39,15]) rfl rfl (any_of HT_.out (by kernel_rfl)) (fun _ _ _ h=>h) (Or.inr ⟨by rfl,rfl⟩) ?_ ?_
      rotate_left
      ·simp only [Act.put, List.setIfInBounds_toArray, List.set_cons_zero, List.set_cons_succ, i64_w, i32_w]
       rfl
      refine pure_ (i:=39) (N:=some 94) (v:=undef) (a':=?_) (q06_Equals.tf [40,14]) rfl rfl (any_of HT_.out (by kernel_rfl)) (fun _ _ _ h=>h) (Or.inr ⟨by rfl,rfl⟩) ?_ ?_
      rotate_left
      ·simp only [Act.put, List.setIfInBounds_toArray, List.set_cons_zero, List.set_cons_succ, i64_w, i32_w]
       rfl
      refine pure_ (i:=40) (N:=some 95) (v:=undef) (a':=?_) (q06_Equals.tf [41,13]) rfl rfl (any_of HT_.out (by kernel_rfl)) (fun _ _ _ h=>h) (Or.inr ⟨by rfl,rfl⟩) ?_ ?_
      rotate_left
      ·simp only [Act.put, List.setIfInBounds_toArray, List.set_cons_zero, List.set_cons_succ, i64_w, i32_w]
       rfl
      refine pure_ (i:=41) (N:=some 96) (v:=undef) (a':=?_) (q06_Equals.tf [42,12]) rfl rfl (any_of HT_.out (by kernel_rfl)) (fun _ _ _ h=>h) (Or.inr ⟨by rfl,rfl⟩) ?_ ?_
      rotate_left
      ·simp only [Act.put, List.setIfInBounds_toArray, List.set_cons_zero, List.set_cons_succ, i64_w, i32_w]
       rfl
      refine pure_ (i:=42) (N:=some 97) (v:=undef) (a':=?_) (q06_Equals.tf [43,11]) rfl rfl (any_of HT_.out (by kernel_rfl)) (fun _ _ _ h=>h) (Or.inr ⟨by rfl,rfl⟩) ?_ ?_
      rotate_left
      ·simp only [Act.put, List.setIfInBounds_toArray, List.set_cons_zero, List.set_cons_succ, i64_w, i32_w]
       rfl
      refine pure_ (i:=43) (N:=some 98) (v:=undef) (a':=?_) (q06_Equals.tf [44,10]) rfl rfl (any_of HT_.out (by kernel_rfl)) (fun _ _ _ h=>h) (Or.inr ⟨by rfl,rfl⟩) ?_ ?_
      rotate_left
      ·simp only [Act.put, List.setIfInBounds_toArray, List.set_cons_zero, List.set_cons_succ, i64_w, i32_w]
       rfl
      refine pure_ (i:=44) (N:=some 99) (v:=undef) (a':=?_) (q06_Equals.tf [45,9]) rfl rfl (any_of HT_.out (by kernel_rfl)) (fun _ _ _ h=>h) (Or.inr ⟨by rfl,rfl⟩) ?_ ?_
      rotate_left
      ·simp only [Act.put, List.setIfInBounds_toArray, List.set_cons_zero, List.set_cons_succ, i64_w, i32_w]
       rfl
      refine pure_ (i:=45) (N:=some 100) (v:=undef) (a':=?_) (q06_Equals.tf [46,8]) rfl rfl (any_of HT_.out (by kernel_rfl)) (fun _ _ _ h=>h) (Or.inr ⟨by rfl,rfl⟩) ?_ ?_
      rotate_left
      ·simp only [Act.put, List.setIfInBounds_toArray, List.set_cons_zero, List.set_cons_succ, i64_w, i32_w]
       rfl
      refine pure_ (i:=46) (N:=some 101) (v:=undef) (a':=?_) (q06_Equals.tf [47,7]) rfl rfl (any_of HT_.out (by kernel_rfl)) (fun _ _ _ h=>h) (Or.inr ⟨by rfl,rfl⟩) ?_ ?_
      rotate_left
      ·simp only [Act.put, List.setIfInBounds_toArray, List.set_cons_zero, List.set_cons_succ, i64_w, i32_w]
       rfl
      refine pure_ (i:=47) (N:=some 102) (v:=undef) (a':=?_) (q06_Equals.tf [48,6]) rfl rfl (any_of HT_.out (by kernel_rfl)) (fun _ _ _ h=>h) (Or.inr ⟨by rfl,rfl⟩) ?_ ?_
      rotate_left
      ·simp only [Act.put, List.setIfInBounds_toArray, List.set_cons_zero, List.set_cons_succ, i64_w, i32_w]
       rfl
      refine pure_ (i:=48) (N:=some 103) (v:=undef) (a':=?_) (q06_Equals.tf [49,5]) rfl rfl (any_of HT_.out (by kernel_rfl)) (fun _ _ _ h=>h) (Or.inr ⟨by rfl,rfl⟩) ?_ ?_
      rotate_left
      ·simp only [Act.put, List.setIfInBounds_toArray, List.set_cons_zero, List.set_cons_succ, i64_w, i32_w]
       rfl
      refine pure_ (i:=49) (N:=some 104) (v:=undef) (a':=?_) (q06_Equals.tf [50,4]) rfl rfl (any_of HT_.out (by kernel_rfl)) (fun _ _ _ h=>h) (Or.inr ⟨by rfl,rfl⟩) ?_ ?_
      rotate_left
      ·simp only [Act.put, List.setIfInBounds_toArray, List.set_cons_zero, List.set_cons_succ, i64_w, i32_w]
       rfl
      refine pure_ (i:=50) (N:=some 105) (v:=undef) (a':=?_) (q06_Equals.tf [51,3]) rfl rfl (any_of HT_.out (by kernel_rfl)) (fun _ _ _ h=>h) (Or.inr ⟨by rfl,rfl⟩) ?_ ?_
      rotate_left
      ·simp only [Act.put, List.setIfInBounds_toArray, List.set_cons_zero, List.set_cons_succ, i64_w, i32_w]
       rfl
      refine pure_ (i:=51) (N:=some 106) (v:=undef) (a':=?_) (q06_Equals.tf [52,2]) rfl rfl (any_of HT_.out (by kernel_rfl)) (fun _ _ _ h=>h) (Or.inr ⟨by rfl,rfl⟩) ?_ ?_
      rotate_left
      ·simp only [Act.put, List.setIfInBounds_toArray, List.set_cons_zero, List.set_cons_succ, i64_w, i32_w]
       rfl
      refine pure_ (i:=52) (N:=some 107) (v:=undef) (a':=?_) (q06_Equals.tf [53,1]) rfl rfl (any_of HT_.out (by kernel_rfl)) (fun _ _ _ h=>h) (Or.inr ⟨by rfl,rfl⟩) ?_ ?_
      rotate_left
      ·simp only [Act.put, List.setIfInBounds_toArray, List.set_cons_zero, List.set_cons_succ, i64_w, i32_w]
       rfl
      refine pure_ (i:=53) (N:=some 108) (v:=?_) (a':=?_) (q06_Equals.tf [54]) rfl rfl (any_of HT_.out (by kernel_rfl)) (fun _ _ _ h=>h) (Or.inl ⟨by rfl,?_⟩) ?_ ?_
      rotate_left
      ·intro w'
       go_simp
       with_reducible rfl
      rotate_left
      ·simp only [Act.put, List.setIfInBounds_toArray, List.set_cons_zero, List.set_cons_succ, i64_w, i32_w]
       rfl
      refine done_ (done_of HT_.out (by kernel_rfl)) ?_
      try go_wp2
      go_roundg k4
      case measure=>have:=HK1.out;have:=HK2.out;have:=HK3.out;have:=HK4.out;omega
      exact⟨(x4_4),(x7_4),(wrap64 (x9_4 + 1)),(by first | rfl |(simp;done) |(simp [*];done)),(by first | rfl |(simp;done) |(simp [*];done)),H',⟨by have:=HK1.out;have:=HK2.out;have:=HK3.out;have:=HK4.out;omega⟩,⟨by(with_reducible repeat(first | apply Kd.R_alloc | apply Kd.R_drewN | apply Kd.R_drew));exact HO_4.out⟩,⟨by repeat(first |(with_reducible first | exact HB.out | apply bwA | apply bwN | apply bw1) | exact HB.out)⟩⟩
     subst c26
     have H1 :(if 0≤x8_3 then(if x8_3 < (l0.length : Int) then(if((rd_T39 l0 x8_3).f0) ≥ 4 then(if 0≤x9_4 then(if x9_4 < (l0.length : Int) then(if 0 ≤(wrap64 ((wrap64 ((l0.length : Int) * ((rd_T39 l0 x8_3).f1))) + ((rd_T39 l0 x9_4).f1))) then(if(wrap64 ((wrap64 ((l0.length : Int) * ((rd_T39 l0 x8_3).f1))) + ((rd_T39 l0 x9_4).f1))) < (x4_4.length : Int) then(if(rdOf false x4_4 (wrap64 ((wrap64 ((l0.length : Int) * ((rd_T39 l0 x8_3).f1))) + ((rd_T39 l0 x9_4).f1))) = true) then(if 0 ≤(wrap64 ((wrap64 ((l0.length : Int) * ((rd_T39 l0 x8_3).f2))) + ((rd_T39 l0 x9_4).f2))) then(if(wrap64 ((wrap64 ((l0.length : Int) * ((rd_T39 l0 x8_3).f2))) + ((rd_T39 l0 x9_4).f2))) < (x4_4.length : Int) then(if(rdOf false x4_4 (wrap64 ((wrap64 ((l0.length : Int) * ((rd_T39 l0 x8_3).f2))) + ((rd_T39 l0 x9_4).f2))) = true) then(q06_Equals.l4 k4 l0 (l0.length : Int) x4_4 x7_4 x8_3 (wrap64 (x9_4 + 1))) else(q06_Equals.l4 k4 l0 (l0.length : Int) (x4_4.set ((ji22) : Int).toNat false) true x8_3 (wrap64 (x9_4 + 1)))) else(none)) else(none)) else(q06_Equals.l4 k4 l0 (l0.length : Int) (x4_4.set ((ji22) : Int).toNat false) true x8_3 (wrap64 (x9_4 + 1)))) else(none)) else(none)) else(none)) else(none)) else(q06_Equals.l4 k4 l0 (l0.length : Int) x4_4 x7_4 x8_3 (wrap64 (x9_4 + 1)))) else(none)) else(none)) = some r:=by rw [if_pos rfl] at H;exact H
     clear H
     have H:=H1
     clear H1
     by_cases c27 : 0≤x8_3
     rotate_left
     ·rw [if_neg c27] at H
      exact absurd H (by simp)
     rw [if_pos c27] at H
     have c27b0 : decide (0≤x8_3) = true:=decide_eq_true c27
     clear c27
     by_cases c28 : x8_3 < (l0.length : Int)
     rotate_left
     ·rw [if_neg c28] at H
      exact absurd H (by simp)
     rw [if_pos c28] at H
     have c28b0 : decide (x8_3 < (l0.length : Int)) = true:=decide_eq_true c28
     clear c28
     by_cases c29 :((rd_T39 l0 x8_3).f0) ≥ 4
     rotate_left
     ·rw [if_neg c29] at H
      have c29b0 : decide (4 ≤((rd_T39 l0 x8_3).f0)) = false:=decide_eq_false c29
      clear c29
      have H':=Aside0.mk H
      clear H
      try go_wp2
      have n0_:=Aside0.mk (Kd.R_drew HO_4.out)
      have n1_:=Aside0.mk (bw1 HB.out)
      clear HO_4
      clear HB
      have HO_4:=n0_
      have HB:=n1_
      clear n0_ n1_
      obtain ⟨Ao55,co55,eo55⟩:=Kd.R_slice HO_4.out
      (first | subst eo55 |(injection eo55 with f1_ f2_ f3_;have f4_:=f1_.symm;have f5_:=f3_.symm;clear f1_ f2_ f3_;subst f4_;subst f5_))
      have p202 : 0 ≤((ji22) : Int):=of_decide_eq_true (by first |(with_reducible assumption) | assumption)
      have q202 :(ji22) < (x4_4.length : Int):=of_decide_eq_true (by first |(with_reducible assumption) | assumption)
      obtain ⟨ad202,e202,hx202_0⟩:=Kd.at_bool (Kd.R_reads' HO_4.out).2.2 (ji22) p202 q202
      (try rw [← Nbq25.out] at hx202_0)
      cases e202
      replace p202:=eq_true p202
      replace q202:=eq_true q202
      have p203 : 0 ≤(x8_3 : Int):=of_decide_eq_true (by first |(with_reducible assumption) | assumption)
      have q203 : x8_3 < (l0.length : Int):=of_decide_eq_true (by first |(with_reducible assumption) | assumption)
      obtain ⟨ad203,e203,hx203_0,hx203_1,hx203_2⟩:=at_T39 HR0.out x8_3 p203 q203
      have hw203_2:=hx203_2
      have hw203_1:=hx203_1
      have hw203_0:=hx203_0
      cases e203
      replace hx203_0:=(HB.out.cell (World.block_lt_of_cell? w _ hx203_0)).trans hx203_0
      replace hx203_1:=(HB.out.cell (World.block_lt_of_cell? w _ hx203_1)).trans hx203_1
      replace hx203_2:=(HB.out.cell (World.block_lt_of_cell? w _ hx203_2)).trans hx203_2
      replace p203:=eq_true p203
      replace q203:=eq_true q203
      refine start_ (n:=54) (S:=fun w'=>w'.cell? (ad202.add ((ji22)).toNat) = some (.bool true)∧w'.cell? (ad203.add ((x8_3).toNat * 3)) = some (.int .i64 ((rd_T39 l0 x8_3).f0))∧w'.cell? ⟨(ad203.add ((x8_3).toNat * 3)).block,(ad203.add ((x8_3).toNat * 3)).off + 1,none⟩ = some (.int .i64 ((rd_T39 l0 x8_3).f1))∧w'.cell? ⟨(ad203.add ((x8_3).toNat * 3)).block,(ad203.add ((x8_3).toNat * 3)).off + 2,none⟩ = some (.int .i64 ((rd_T39 l0 x8_3).f2))) (ds:=[]) (q06_Equals.tf [0,54]) (by kernel_rfl) rfl rfl ⟨hx202_0,((HB.out.cell (World.block_lt_of_cell? w _ hw203_0)).trans hw203_0),((HB.out.cell (World.block_lt_of_cell? w _ hw203_1)).trans hw203_1),((HB.out.cell (World.block_lt_of_cell? w _ hw203_2)).trans hw203_2)⟩ (fun hHeld=>?_);refine with_tabW q06_Equals.tab19 q06_Equals.bits19 (fun HT_ HW_=>?_)
      generalize wr.drew = w54 at HO_4 HB hx202_0 hx203_0 hx203_1 hx203_2 hHeld ⊢
      refine pure_ (i:=0) (N:=some 55) (v:=?_) (a':=?_) (q06_Equals.tf [1,53]) rfl rfl (any_of HT_.out (by kernel_rfl)) (fun _ _ _ h=>h) (Or.inl ⟨by rfl,?_⟩) ?_ ?_
      rotate_left
      ·intro w'
       go_simp
       with_reducible rfl
      rotate_left
      ·simp only [Act.put, List.setIfInBounds_toArray, List.set_cons_zero, List.set_cons_succ, i64_w, i32_w]
       rfl
      refine pure_ (i:=1) (N:=some 56) (v:=?_) (a':=?_) (q06_Equals.tf [2,52]) rfl rfl (any_of HT_.out (by kernel_rfl)) (fun _ _ _ h=>h) (Or.inl ⟨by rfl,?_⟩) ?_ ?_
      rotate_left
      ·intro w'
       go_simp
       with_reducible rfl
      rotate_left
      ·simp only [Act.put, List.setIfInBounds_toArray, List.set_cons_zero, List.set_cons_succ, i64_w, i32_w]
       rfl
      refine pure_ (i:=2) (N:=some 57) (v:=?_) (a':=?_) (q06_Equals.tf [3,51]) rfl rfl (any_of HT_.out (by kernel_rfl)) (fun _ _ _ h=>h) (Or.inl ⟨by rfl,?_⟩) ?_ ?_
      rotate_left
      ·intro w'
       go_simp
       with_reducible rfl
      rotate_left
      ·simp only [Act.put, List.setIfInBounds_toArray, List.set_cons_zero, List.set_cons_succ, i64_w, i32_w]
       rfl
      refine pure_ (i:=3) (N:=some 58) (v:=?_) (a':=?_) (q06_Equals.tf [4,50]) rfl rfl (any_of HT_.out (by kernel_rfl)) (fun _ _ _ h=>h) (Or.inl ⟨by rfl,?_⟩) ?_ ?_
      rotate_left
      ·intro w'
       go_simp
       with_reducible rfl
      rotate_left
      ·simp only [Act.put, List.setIfInBounds_toArray, List.set_cons_zero, List.set_cons_succ, i64_w, i32_w]
       rfl
      refine pure_ (i:=4) (N:=some 59) (v:=?_) (a':=?_) (q06_Equals.tf [5,49]) rfl rfl (any_of HT_.out (by kernel_rfl)) (fun _ _ _ h=>h) (Or.inl ⟨by rfl,?_⟩) ?_ ?_
      rotate_left
      ·intro w'
       go_simp
       with_reducible rfl
      rotate_left
      ·simp only [Act.put, List.setIfInBounds_toArray, List.set_cons_zero, List.set_cons_succ, i64_w, i32_w]
       rfl
      refine pure_ (i:=5) (N:=some 60) (v:=?_) (a':=?_) (q06_Equals.tf [6,48]) rfl rfl (any_of HT_.out (by kernel_rfl)) (fun _ _ _ h=>h) (Or.inl ⟨by rfl,?_⟩) ?_ ?_
      rotate_left
      ·intro w'
       go_simp
       with_reducible rfl
      rotate_left
      ·simp only [Act.put, List.setIfInBounds_toArray, List.set_cons_zero, List.set_cons_succ, i64_w, i32_w]
       rfl
      refine pure_ (i:=6) (N:=some 61) (v:=?_) (a':=?_) (q06_Equals.tf [7,47]) rfl rfl (any_of HT_.out (by kernel_rfl)) (fun _ _ _ h=>h) (Or.inl ⟨by rfl,?_⟩) ?_ ?_
      rotate_left
      ·intro w'
       go_simp
       with_reducible rfl
      rotate_left
      ·simp only [Act.put, List.setIfInBounds_toArray, List.set_cons_zero, List.set_cons_succ, i64_w, i32_w]
       rfl
      refine take_ (i:=7) (N:=some 62) (v:=?_) (a':=?_) (q06_Equals.tf [8,46]) rfl rfl (take_ofW HT_.out HW_.out (by kernel_rfl)) (fun _ _ _ h=>h) (Or.inl ⟨by rfl,?_⟩) hHeld ?_ ?_
      rotate_left
      ·rintro w' ⟨s0, s1, s2, s3⟩
       go_simp
       with_reducible rfl
      rotate_left
      ·simp only [Act.put, List.setIfInBounds_toArray, List.set_cons_zero, List.set_cons_succ, i64_w, i32_w]
       rfl
      refine pure_ (i:=8) (N:=some 63) (v:=?_) (a':=?_) (q06_Equals.tf [9,45]) rfl rfl (any_of HT_.out (by kernel_rfl)) (fun _ _ _ h=>h) (Or.inl ⟨by rfl,?_⟩) ?_ ?_
      rotate_left
      ·intro w'
       go_simp
       with_reducible rfl
      rotate_left
      ·simp only [Act.put, List.setIfInBounds_toArray, List.set_cons_zero, List.set_cons_succ, i64_w, i32_w]
       rfl
      refine pure_ (i:=9) (N:=some 64) (v:=?_) (a':=?_) (q06_Equals.tf [10,44]) rfl rfl (any_of HT_.out (by kernel_rfl)) (fun _ _ _ h=>h) (Or.inl ⟨by rfl,?_⟩) ?_ ?_
      rotate_left
      ·intro w'
       go_simp
       with_reducible rfl
      rotate_left
      ·simp only [Act.put, List.setIfInBounds_toArray, List.set_cons_zero, List.set_cons_succ, i64_w, i32_w]
       rfl
      refine pure_ (i:=10) (N:=some 65) (v:=?_) (a':=?_) (q06_Equals.tf [11,43]) rfl rfl (any_of HT_.out (by kernel_rfl)) (fun _ _ _ h=>h) (Or.inl ⟨by rfl,?_⟩) ?_ ?_
      rotate_left
      ·intro w'
       go_simp
       with_reducible rfl
      rotate_left
      ·simp only [Act.put, List.setIfInBounds_toArray, List.set_cons_zero, List.set_cons_succ, i64_w, i32_w]
       rfl
      refine pure_ (i:=11) (N:=some 66) (v:=?_) (a':=?_) (q06_Equals.tf [12,42]) rfl rfl (any_of HT_.out (by kernel_rfl)) (fun _ _ _ h=>h) (Or.inl ⟨by rfl,?_⟩) ?_ ?_
      rotate_left
      ·intro w'
       go_simp
       with_reducible rfl
      rotate_left
      ·simp only [Act.put, List.setIfInBounds_toArray, List.set_cons_zero, List.set_cons_succ, i64_w, i32_w]
       rfl
      refine pure_ (i:=12) (N:=some 67) (v:=?_) (a':=?_) (q06_Equals.tf [13,41]) rfl rfl (any_of HT_.out (by kernel_rfl)) (fun _ _ _ h=>h) (Or.inl ⟨by rfl,?_⟩) ?_ ?_
      rotate_left
      ·intro w'
       go_simp
       with_reducible rfl
      rotate_left
      ·simp only [Act.put, List.setIfInBounds_toArray, List.set_cons_zero, List.set_cons_succ, i64_w, i32_w]
       rfl
      refine take_ (i:=13) (N:=some 68) (v:=?_) (a':=?_) (q06_Equals.tf [14,40]) rfl rfl (take_ofW HT_.out HW_.out (by kernel_rfl)) (fun _ _ _ h=>h) (Or.inl ⟨by rfl,?_⟩) hHeld ?_ ?_
      rotate_left
      ·rintro w' ⟨s0, s1, s2, s3⟩
       go_simp
       with_reducible rfl
      rotate_left
      ·simp only [Act.put, List.setIfInBounds_toArray, List.set_cons_zero, List.set_cons_succ, i64_w, i32_w]
       rfl
      refine pure_ (i:=14) (N:=some 69) (v:=?_) (a':=?_) (q06_Equals.tf [15,39]) rfl rfl (any_of HT_.out (by kernel_rfl)) (fun _ _ _ h=>h) (Or.inl ⟨by rfl,?_⟩) ?_ ?_
      rotate_left
      ·intro w'
       go_simp
       with_reducible rfl
      rotate_left
      ·simp only [Act.put, List.setIfInBounds_toArray, List.set_cons_zero, List.set_cons_succ, i64_w, i32_w]
       rfl
      refine pure_ (i:=15) (N:=some 70) (v:=?_) (a':=?_) (q06_Equals.tf [16,38]) rfl rfl (any_of HT_.out (by kernel_rfl)) (fun _ _ _ h=>h) (Or.inl ⟨by rfl,?_⟩) ?_ ?_
      rotate_left
      ·intro w'
       go_simp
       with_reducible rfl
      rotate_left
      ·simp only [Act.put, List.setIfInBounds_toArray, List.set_cons_zero, List.set_cons_succ, i64_w, i32_w]
       rfl
      refine pure_ (i:=16) (N:=some 71) (v:=?_) (a':=?_) (q06_Equals.tf [17,37]) rfl rfl (any_of HT_.out (by kernel_rfl)) (fun _ _ _ h=>h) (Or.inl ⟨by rfl,?_⟩) ?_ ?_
      rotate_left
      ·intro w'
       go_simp
       with_reducible rfl
      rotate_left
      ·simp only [Act.put, List.setIfInBounds_toArray, List.set_cons_zero, List.set_cons_succ, i64_w, i32_w]
       rfl
      refine pure_ (i:=17) (N:=some 72) (v:=undef) (a':=?_) (q06_Equals.tf [18,36]) rfl rfl (any_of HT_.out (by kernel_rfl)) (fun _ _ _ h=>h) (Or.inr ⟨by rfl,rfl⟩) ?_ ?_
      rotate_left
      ·simp only [Act.put, List.setIfInBounds_toArray, List.set_cons_zero, List.set_cons_succ, i64_w, i32_w]
       rfl
      refine pure_ (i:=18) (N:=some 73) (v:=undef) (a':=?_) (q06_Equals.tf [19,35]) rfl rfl (any_of HT_.out (by kernel_rfl)) (fun _ _ _ h=>h) (Or.inr ⟨by rfl,rfl⟩) ?_ ?_
      rotate_left
      ·simp only [Act.put, List.setIfInBounds_toArray, List.set_cons_zero, List.set_cons_succ, i64_w, i32_w]
       rfl
      refine pure_ (i:=19) (N:=some 74) (v:=undef) (a':=?_) (q06_Equals.tf [20,34]) rfl rfl (any_of HT_.out (by kernel_rfl)) (fun _ _ _ h=>h) (Or.inr ⟨by rfl,rfl⟩) ?_ ?_
      rotate_left
      ·simp only [Act.put, List.setIfInBounds_toArray, List.set_cons_zero, List.set_cons_succ, i64_w, i32_w]
       rfl
      refine pure_ (i:=20) (N:=some 75) (v:=undef) (a':=?_) (q06_Equals.tf [21,33]) rfl rfl (any_of HT_.out (by kernel_rfl)) (fun _ _ _ h=>h) (Or.inr ⟨by rfl,rfl⟩) ?_ ?_
      rotate_left
      ·simp only [Act.put, List.setIfInBounds_toArray, List.set_cons_zero, List.set_cons_succ, i64_w, i32_w]
       rfl
      refine pure_ (i:=21) (N:=some 76) (v:=undef) (a':=?_) (q06_Equals.tf [22,32]) rfl rfl (any_of HT_.out (by kernel_rfl)) (fun _ _ _ h=>h) (Or.inr ⟨by rfl,rfl⟩) ?_ ?_
      rotate_left
      ·simp only [Act.put, List.setIfInBounds_toArray, List.set_cons_zero, List.set_cons_succ, i64_w, i32_w]
       rfl
      refine pure_ (i:=22) (N:=some 77) (v:=undef) (a':=?_) (q06_Equals.tf [23,31]) rfl rfl (any_of HT_.out (by kernel_rfl)) (fun _ _ _ h=>h) (Or.inr ⟨by rfl,rfl⟩) ?_ ?_
      rotate_left
      ·simp only [Act.put, List.setIfInBounds_toArray, List.set_cons_zero, List.set_cons_succ, i64_w, i32_w]
       rfl
      refine pure_ (i:=23) (N:=some 78) (v:=undef) (a':=?_) (q06_Equals.tf [24,30]) rfl rfl (any_of HT_.out (by kernel_rfl)) (fun _ _ _ h=>h) (Or.inr ⟨by rfl,rfl⟩) ?_ ?_
      rotate_left
      ·simp only [Act.put, List.setIfInBounds_toArray, List.set_cons_zero, List.set_cons_succ, i64_w, i32_w]
       rfl
      refine pure_ (i:=24) (N:=some 79) (v:=undef) (a':=?_) (q06_Equals.tf [25,29]) rfl rfl (any_of HT_.out (by kernel_rfl)) (fun _ _ _ h=>h) (Or.inr ⟨by rfl,rfl⟩) ?_ ?_
      rotate_left
      ·simp only [Act.put, List.setIfInBounds_toArray, List.set_cons_zero, List.set_cons_succ, i64_w, i32_w]
       rfl
      refine pure_ (i:=25) (N:=some 80) (v:=undef) (a':=?_) (q06_Equals.tf [26,28]) rfl rfl (any_of HT_.out (by kernel_rfl)) (fun _ _ _ h=>h) (Or.inr ⟨by rfl,rfl⟩) ?_ ?_
      rotate_left
      ·simp only [Act.put, List.setIfInBounds_toArray, List.set_cons_zero, List.set_cons_succ, i64_w, i32_w]
       rfl
      refine pure_ (i:=26) (N:=some 81) (v:=undef) (a':=?_) (q06_Equals.tf [27,27]) rfl rfl (any_of HT_.out (by kernel_rfl)) (fun _ _ _ h=>h) (Or.inr ⟨by rfl,rfl⟩) ?_ ?_
      rotate_left
      ·simp only [Act.put, List.setIfInBounds_toArray, List.set_cons_zero, List.set_cons_succ, i64_w, i32_w]
       rfl
      refine pure_ (i:=27) (N:=some 82) (v:=undef) (a':=?_) (q06_Equals.tf [28,26]) rfl rfl (any_of HT_.out (by kernel_rfl)) (fun _ _ _ h=>h) (Or.inr ⟨by rfl,rfl⟩) ?_ ?_
      rotate_left
      ·simp only [Act.put, List.setIfInBounds_toArray, List.set_cons_zero, List.set_cons_succ, i64_w, i32_w]
       rfl
      refine pure_ (i:=28) (N:=some 83) (v:=undef) (a':=?_) (q06_Equals.tf [29,25]) rfl rfl (any_of HT_.out (by kernel_rfl)) (fun _ _ _ h=>h) (Or.inr ⟨by rfl,rfl⟩) ?_ ?_
      rotate_left
      ·simp only [Act.put, List.setIfInBounds_toArray, List.set_cons_zero, List.set_cons_succ, i64_w, i32_w]
       rfl
      refine pure_ (i:=29) (N:=some 84) (v:=undef) (a':=?_) (q06_Equals.tf [30,24]) rfl rfl (any_of HT_.out (by kernel_rfl)) (fun _ _ _ h=>h) (Or.inr ⟨by rfl,rfl⟩) ?_ ?_
      rotate_left
      ·simp only [Act.put, List.setIfInBounds_toArray, List.set_cons_zero, List.set_cons_succ, i64_w, i32_w]
       rfl
      refine pure_ (i:=30) (N:=some 85) (v:=undef) (a':=?_) (q06_Equals.tf [31,23]) rfl rfl (any_of HT_.out (by kernel_rfl)) (fun _ _ _ h=>h) (Or.inr ⟨by rfl,rfl⟩) ?_ ?_
      rotate_left
      ·simp only [Act.put, List.setIfInBounds_toArray, List.set_cons_zero, List.set_cons_succ, i64_w, i32_w]
       rfl
      refine pure_ (i:=31) (N:=some 86) (v:=undef) (a':=?_) (q06_Equals.tf [32,22]) rfl rfl (any_of HT_.out (by kernel_rfl)) (fun _ _ _ h=>h) (Or.inr ⟨by rfl,rfl⟩) ?_ ?_
      rotate_left
      ·simp only [Act.put, List.setIfInBounds_toArray, List.set_cons_zero, List.set_cons_succ, i64_w, i32_w]
       rfl
      refine pure_ (i:=32) (N:=some 87) (v:=undef) (a':=?_) (q06_Equals.tf [33,21]) rfl rfl (any_of HT_.out (by kernel_rfl)) (fun _ _ _ h=>h) (Or.inr ⟨by rfl,rfl⟩) ?_ ?_
      rotate_left
      ·simp only [Act.put, List.setIfInBounds_toArray, List.set_cons_zero, List.set_cons_succ, i64_w, i32_w]
       rfl
      refine pure_ (i:=33) (N:=some 88) (v:=undef) (a':=?_) (q06_Equals.tf [34,20]) rfl rfl (any_of HT_.out (by kernel_rfl)) (fun _ _ _ h=>h) (Or.inr ⟨by rfl,rfl⟩) ?_ ?_
      rotate_left
      ·simp only [Act.put, List.setIfInBounds_toArray, List.set_cons_zero, List.set_cons_succ, i64_w, i32_w]
       rfl
      refine pure_ (i:=34) (N:=some 89) (v:=undef) (a':=?_) (q06_Equals.tf [35,19]) rfl rfl (any_of HT_.out (by kernel_rfl)) (fun _ _ _ h=>h) (Or.inr ⟨by rfl,rfl⟩) ?_ ?_
      rotate_left
      ·simp only [Act.put, List.setIfInBounds_toArray, List.set_cons_zero, List.set_cons_succ, i64_w, i32_w]
       rfl
      refine pure_ (i:=35) (N:=some 90) (v:=undef) (a':=?_) (q06_Equals.tf [36,18]) rfl rfl (any_of HT_.out (by kernel_rfl)) (fun _ _ _ h=>h) (Or.inr ⟨by rfl,rfl⟩) ?_ ?_
      rotate_left
      ·simp only [Act.put, List.setIfInBounds_toArray, List.set_cons_zero, List.set_cons_succ, i64_w, i32_w]
       rfl
      refine pure_ (i:=36) (N:=some 91) (v:=undef) (a':=?_) (q06_Equals.tf [37,17]) rfl rfl (any_of HT_.out (by kernel_rfl)) (fun _ _ _ h=>h) (Or.inr ⟨by rfl,rfl⟩) ?_ ?_
      rotate_left
      ·simp only [Act.put, List.setIfInBounds_toArray, List.set_cons_zero, List.set_cons_succ, i64_w, i32_w]
       rfl
      refine pure_ (i:=37) (N:=some 92) (v:=undef) (a':=?_) (q06_Equals.tf [38,16]) rfl rfl (any_of HT_.out (by kernel_rfl)) (fun _ _ _ h=>h) (Or.inr ⟨by rfl,rfl⟩) ?_ ?_
      rotate_left
      ·simp only [Act.put, List.setIfInBounds_toArray, List.set_cons_zero, List.set_cons_succ, i64_w, i32_w]
       rfl
      refine pure_ (i:=38) (N:=some 93) (v:=undef) (a':=?_) (q06_Equals.tf [39,15]) rfl rfl (any_of HT_.out (by kernel_rfl)) (fun _ _ _ h=>h) (Or.inr ⟨by rfl,rfl⟩) ?_ ?_
      rotate_left
      ·simp only [Act.put, List.setIfInBounds_toArray, List.set_cons_zero, List.set_cons_succ, i64_w, i32_w]
       rfl
      refine pure_ (i:=39) (N:=some 94) (v:=undef) (a':=?_) (q06_Equals.tf [40,14]) rfl rfl (any_of HT_.out (by kernel_rfl)) (fun _ _ _ h=>h) (Or.inr ⟨by rfl,rfl⟩) ?_ ?_
      rotate_left
      ·simp only [Act.put, List.setIfInBounds_toArray, List.set_cons_zero, List.set_cons_succ, i64_w, i32_w]
       rfl
      refine pure_ (i:=40) (N:=some 95) (v:=undef) (a':=?_) (q06_Equals.tf [41,13]) rfl rfl (any_of HT_.out (by kernel_rfl)) (fun _ _ _ h=>h) (Or.inr ⟨by rfl,rfl⟩) ?_ ?_
      rotate_left
      ·simp only [Act.put, List.setIfInBounds_toArray, List.set_cons_zero, List.set_cons_succ, i64_w, i32_w]
       rfl
      refine pure_ (i:=41) (N:=some 96) (v:=undef) (a':=?_) (q06_Equals.tf [42,12]) rfl rfl (any_of HT_.out (by kernel_rfl)) (fun _ _ _ h=>h) (Or.inr ⟨by rfl,rfl⟩) ?_ ?_
      rotate_left
      ·simp only [Act.put, List.setIfInBounds_toArray, List.set_cons_zero, List.set_cons_succ, i64_w, i32_w]
       rfl
      refine pure_ (i:=42) (N:=some 97) (v:=undef) (a':=?_) (q06_Equals.tf [43,11]) rfl rfl (any_of HT_.out (by kernel_rfl)) (fun _ _ _ h=>h) (Or.inr ⟨by rfl,rfl⟩) ?_ ?_
      rotate_left
      ·simp only [Act.put, List.setIfInBounds_toArray, List.set_cons_zero, List.set_cons_succ, i64_w, i32_w]
       rfl
      refine pure_ (i:=43) (N:=some 98) (v:=undef) (a':=?_) (q06_Equals.tf [44,10]) rfl rfl (any_of HT_.out (by kernel_rfl)) (fun _ _ _ h=>h) (Or.inr ⟨by rfl,rfl⟩) ?_ ?_
      rotate_left
      ·simp only [Act.put, List.setIfInBounds_toArray, List.set_cons_zero, List.set_cons_succ, i64_w, i32_w]
       rfl
      refine pure_ (i:=44) (N:=some 99) (v:=undef) (a':=?_) (q06_Equals.tf [45,9]) rfl rfl (any_of HT_.out (by kernel_rfl)) (fun _ _ _ h=>h) (Or.inr ⟨by rfl,rfl⟩) ?_ ?_
      rotate_left
      ·simp only [Act.put, List.setIfInBounds_toArray, List.set_cons_zero, List.set_cons_succ, i64_w, i32_w]
       rfl
      refine pure_ (i:=45) (N:=some 100) (v:=undef) (a':=?_) (q06_Equals.tf [46,8]) rfl rfl (any_of HT_.out (by kernel_rfl)) (fun _ _ _ h=>h) (Or.inr ⟨by rfl,rfl⟩) ?_ ?_
      rotate_left
      ·simp only [Act.put, List.setIfInBounds_toArray, List.set_cons_zero, List.set_cons_succ, i64_w, i32_w]
       rfl
      refine pure_ (i:=46) (N:=some 101) (v:=undef) (a':=?_) (q06_Equals.tf [47,7]) rfl rfl (any_of HT_.out (by kernel_rfl)) (fun _ _ _ h=>h) (Or.inr ⟨by rfl,rfl⟩) ?_ ?_
      rotate_left
      ·simp only [Act.put, List.setIfInBounds_toArray, List.set_cons_zero, List.set_cons_succ, i64_w, i32_w]
       rfl
      refine pure_ (i:=47) (N:=some 102) (v:=undef) (a':=?_) (q06_Equals.tf [48,6]) rfl rfl (any_of HT_.out (by kernel_rfl)) (fun _ _ _ h=>h) (Or.inr ⟨by rfl,rfl⟩) ?_ ?_
      rotate_left
      ·simp only [Act.put, List.setIfInBounds_toArray, List.set_cons_zero, List.set_cons_succ, i64_w, i32_w]
       rfl
      refine pure_ (i:=48) (N:=some 103) (v:=undef) (a':=?_) (q06_Equals.tf [49,5]) rfl rfl (any_of HT_.out (by kernel_rfl)) (fun _ _ _ h=>h) (Or.inr ⟨by rfl,rfl⟩) ?_ ?_
      rotate_left
      ·simp only [Act.put, List.setIfInBounds_toArray, List.set_cons_zero, List.set_cons_succ, i64_w, i32_w]
       rfl
      refine pure_ (i:=49) (N:=some 104) (v:=undef) (a':=?_) (q06_Equals.tf [50,4]) rfl rfl (any_of HT_.out (by kernel_rfl)) (fun _ _ _ h=>h) (Or.inr ⟨by rfl,rfl⟩) ?_ ?_
      rotate_left
      ·simp only [Act.put, List.setIfInBounds_toArray, List.set_cons_zero, List.set_cons_succ, i64_w, i32_w]
       rfl
      refine pure_ (i:=50) (N:=some 105) (v:=undef) (a':=?_) (q06_Equals.tf [51,3]) rfl rfl (any_of HT_.out (by kernel_rfl)) (fun _ _ _ h=>h) (Or.inr ⟨by rfl,rfl⟩) ?_ ?_
      rotate_left
      ·simp only [Act.put, List.setIfInBounds_toArray, List.set_cons_zero, List.set_cons_succ, i64_w, i32_w]
       rfl
      refine pure_ (i:=51) (N:=some 106) (v:=undef) (a':=?_) (q06_Equals.tf [52,2]) rfl rfl (any_of HT_.out (by kernel_rfl)) (fun _ _ _ h=>h) (Or.inr ⟨by rfl,rfl⟩) ?_ ?_
      rotate_left
      ·simp only [Act.put, List.setIfInBounds_toArray, List.set_cons_zero, List.set_cons_succ, i64_w, i32_w]
       rfl
      refine pure_ (i:=52) (N:=some 107) (v:=undef) (a':=?_) (q06_Equals.tf [53,1]) rfl rfl (any_of HT_.out (by kernel_rfl)) (fun _ _ _ h=>h) (Or.inr ⟨by rfl,rfl⟩) ?_ ?_
      rotate_left
      ·simp only [Act.put, List.setIfInBounds_toArray, List.set_cons_zero, List.set_cons_succ, i64_w, i32_w]
       rfl
      refine pure_ (i:=53) (N:=some 108) (v:=?_) (a':=?_) (q06_Equals.tf [54]) rfl rfl (any_of HT_.out (by kernel_rfl)) (fun _ _ _ h=>h) (Or.inl ⟨by rfl,?_⟩) ?_ ?_
      rotate_left
      ·intro w'
       go_simp
       with_reducible rfl
      rotate_left
      ·simp only [Act.put, List.setIfInBounds_toArray, List.set_cons_zero, List.set_cons_succ, i64_w, i32_w]
       rfl
      refine done_ (done_of HT_.out (by kernel_rfl)) ?_
      try go_wp2
      go_roundg k4
      case measure=>have:=HK1.out;have:=HK2.out;have:=HK3.out;have:=HK4.out;omega
      exact⟨(x4_4),(x7_4),(wrap64 (x9_4 + 1)),(by first | rfl |(simp;done) |(simp [*];done)),(by first | rfl |(simp;done) |(simp [*];done)),H',⟨by have:=HK1.out;have:=HK2.out;have:=HK3.out;have:=HK4.out;omega⟩,⟨by(with_reducible repeat(first | apply Kd.R_alloc | apply Kd.R_drewN | apply Kd.R_drew));exact HO_4.out⟩,⟨by repeat(first |(with_reducible first | exact HB.out | apply bwA | apply bwN | apply bw1) | exact HB.out)⟩⟩
     rw [if_pos c29] at H
     have c29b0 : decide (4 ≤((rd_T39 l0 x8_3).f0)) = true:=decide_eq_true c29
     clear c29
     by_cases c30 : 0≤x9_4
     rotate_left
     ·rw [if_neg c30] at H
      exact absurd H (by simp)
     rw [if_pos c30] at H
     have c30b0 : decide (0≤x9_4) = true:=decide_eq_true c30
     clear c30
     by_cases c31 : x9_4 < (l0.length : Int)
     rotate_left
     ·rw [if_neg c31] at H
      exact absurd H (by simp)
     rw [if_pos c31] at H
     have c31b0 : decide (x9_4 < (l0.length : Int)) = true:=decide_eq_true c31
     clear c31
     obtain ⟨ji32,hji32⟩ : ∃ j_ : Int,(wrap64 ((wrap64 ((l0.length : Int) * ((rd_T39 l0 x8_3).f1))) + ((rd_T39 l0 x9_4).f1))) = j_:=⟨_,rfl⟩
     replace H :(if 0 ≤(ji32) then(if(ji32) < (x4_4.length : Int) then(if(rdOf false x4_4 (ji32) = true) then(if 0 ≤(wrap64 ((wrap64 ((l0.length : Int) * ((rd_T39 l0 x8_3).f2))) + ((rd_T39 l0 x9_4).f2))) then(if(wrap64 ((wrap64 ((l0.length : Int) * ((rd_T39 l0 x8_3).f2))) + ((rd_T39 l0 x9_4).f2))) < (x4_4.length : Int) then(if(rdOf false x4_4 (wrap64 ((wrap64 ((l0.length : Int) * ((rd_T39 l0 x8_3).f2))) + ((rd_T39 l0 x9_4).f2))) = true) then(q06_Equals.l4 k4 l0 (l0.length : Int) x4_4 x7_4 x8_3 (wrap64 (x9_4 + 1))) else(q06_Equals.l4 k4 l0 (l0.length : Int) (x4_4.set ((ji22) : Int).toNat false) true x8_3 (wrap64 (x9_4 + 1)))) else(none)) else(none)) else(q06_Equals.l4 k4 l0 (l0.length : Int) (x4_4.set ((ji22) : Int).toNat false) true x8_3 (wrap64 (x9_4 + 1)))) else(none)) else(none)) = some r:=by first |(rw [hji32] at H;exact H) |(simp only [hji32] at H ⊢;exact H)
     have hji32w :(IntKind.i64.wrap ((wrap64 ((l0.length : Int) * ((rd_T39 l0 x8_3).f1))) + ((rd_T39 l0 x9_4).f1))) = ji32:=(i64_w _).trans hji32
     by_cases c33 : 0 ≤(ji32)
     rotate_left
     ·rw [if_neg c33] at H
      exact absurd H (by simp)
     rw [if_pos c33] at H
     have c33b0 : decide (0 ≤(ji32)) = true:=decide_eq_true c33
     clear c33
     by_cases c34 :(ji32) < (x4_4.length : Int)
     rotate_left
     ·rw [if_neg c34] at H
      exact absurd H (by simp)
     rw [if_pos c34] at H
     have c34b0 : decide ((ji32) < (x4_4.length : Int)) = true:=decide_eq_true c34
     clear c34
     obtain ⟨bq35,hbq35⟩ : ∃ b_ : Bool,b_ =(rdOf false x4_4 (ji32)):=⟨_,rfl⟩
     replace H :(if(bq35 = true) then(if 0 ≤(wrap64 ((wrap64 ((l0.length : Int) * ((rd_T39 l0 x8_3).f2))) + ((rd_T39 l0 x9_4).f2))) then(if(wrap64 ((wrap64 ((l0.length : Int) * ((rd_T39 l0 x8_3).f2))) + ((rd_T39 l0 x9_4).f2))) < (x4_4.length : Int) then(if(rdOf false x4_4 (wrap64 ((wrap64 ((l0.length : Int) * ((rd_T39 l0 x8_3).f2))) + ((rd_T39 l0 x9_4).f2))) = true) then(q06_Equals.l4 k4 l0 (l0.length : Int) x4_4 x7_4 x8_3 (wrap64 (x9_4 + 1))) else(q06_Equals.l4 k4 l0 (l0.length : Int) (x4_4.set ((ji22) : Int).toNat false) true x8_3 (wrap64 (x9_4 + 1)))) else(none)) else(none)) else(q06_Equals.l4 k4 l0 (l0.length : Int) (x4_4.set ((ji22) : Int).toNat false) true x8_3 (wrap64 (x9_4 + 1)))) = some r:=by rw [← hbq35] at H;exact H
     have Nbq35:=Aside0.mk hbq35
     clear hbq35
     by_cases c36 :(bq35 = true)
     rotate_left
     ·replace c36 := Bool.eq_false_iff.mpr c36
      subst c36
      have H1 :(q06_Equals.l4 k4 l0 (l0.length : Int) (x4_4.set ((ji22) : Int).toNat false) true x8_3 (wrap64 (x9_4 + 1))) = some r:=by rw [if_neg (show ¬ (false = true) by decide)] at H;exact H
      clear H
      have H:=H1
      clear H1
      obtain ⟨y211,hy211⟩ : ∃ y_ : List Bool,y_ =(x4_4.set ((ji22) : Int).toNat false):=⟨_,rfl⟩
      replace H :(q06_Equals.l4 k4 l0 (l0.length : Int) y211 true x8_3 (wrap64 (x9_4 + 1))) = some r:=by first |(rw [hy211];with_reducible exact H) |(have H2_:=(Option.bind_some _ _).symm.trans H;rw [hy211];with_reducible exact H2_) |(have H2_:=(Option.bind_some _ _).symm.trans H;with_reducible exact H2_) | with_reducible exact H |(rw [hy211];exact H) | exact H
      have Ny211:=Aside0.mk hy211
      clear hy211
      have H':=Aside0.mk H
      clear H
      try go_wp2
      have n0_:=Aside0.mk (Kd.R_drew HO_4.out)
      have n1_:=Aside0.mk (bw1 HB.out)
      clear HO_4
      clear HB
      have HO_4:=n0_
      have HB:=n1_
      clear n0_ n1_
      obtain ⟨Ao51,co51,eo51⟩:=Kd.R_slice HO_4.out
      (first | subst eo51 |(injection eo51 with f1_ f2_ f3_;have f4_:=f1_.symm;have f5_:=f3_.symm;clear f1_ f2_ f3_;subst f4_;subst f5_))
      have p202 : 0 ≤((ji22) : Int):=of_decide_eq_true (by first |(with_reducible assumption) | assumption)
      have q202 :(ji22) < (x4_4.length : Int):=of_decide_eq_true (by first |(with_reducible assumption) | assumption)
      obtain ⟨ad202,e202,hx202_0⟩:=Kd.at_bool (Kd.R_reads' HO_4.out).2.2 (ji22) p202 q202
      (try rw [← Nbq25.out] at hx202_0)
      (try rw [← Nbq35.out] at hx202_0)
      cases e202
      replace p202:=eq_true p202
      replace q202:=eq_true q202
      have p203 : 0 ≤(x8_3 : Int):=of_decide_eq_true (by first |(with_reducible assumption) | assumption)
      have q203 : x8_3 < (l0.length : Int):=of_decide_eq_true (by first |(with_reducible assumption) | assumption)
      obtain ⟨ad203,e203,hx203_0,hx203_1,hx203_2⟩:=at_T39 HR0.out x8_3 p203 q203
      have hw203_2:=hx203_2
      have hw203_1:=hx203_1
      have hw203_0:=hx203_0
      cases e203
      replace hx203_0:=(HB.out.cell (World.block_lt_of_cell? w _ hx203_0)).trans hx203_0
      replace hx203_1:=(HB.out.cell (World.block_lt_of_cell? w _ hx203_1)).trans hx203_1
      replace hx203_2:=(HB.out.cell (World.block_lt_of_cell? w _ hx203_2)).trans hx203_2
      replace p203:=eq_true p203
      replace q203:=eq_true q203
      have p204 : 0 ≤(x8_3 : Int):=of_decide_eq_true (by first |(with_reducible assumption) | assumption)
      have q204 : x8_3 < (l0.length : Int):=of_decide_eq_true (by first |(with_reducible assumption) | assumption)
      obtain ⟨ad204,e204,hx204_0,hx204_1,hx204_2⟩:=at_T39 HR0.out x8_3 p204 q204
      have hw204_2:=hx204_2
      have hw204_1:=hx204_1
      have hw204_0:=hx204_0
      obtain rfl : ad203 = ad204:=(by injection e204)
      replace hx204_0:=(HB.out.cell (World.block_lt_of_cell? w _ hx204_0)).trans hx204_0
      replace hx204_1:=(HB.out.cell (World.block_lt_of_cell? w _ hx204_1)).trans hx204_1
      replace hx204_2:=(HB.out.cell (World.block_lt_of_cell? w _ hx204_2)).trans hx204_2
      replace p204:=eq_true p204
      replace q204:=eq_true q204
      have p205 : 0 ≤(x9_4 : Int):=of_decide_eq_true (by first |(with_reducible assumption) | assumption)
      have q205 : x9_4 < (l0.length : Int):=of_decide_eq_true (by first |(with_reducible assumption) | assumption)
      obtain ⟨ad205,e205,hx205_0,hx205_1,hx205_2⟩:=at_T39 HR0.out x9_4 p205 q205
      have hw205_2:=hx205_2
      have hw205_1:=hx205_1
      have hw205_0:=hx205_0
      obtain rfl : ad203 = ad205:=(by injection e205)
      replace hx205_0:=(HB.out.cell (World.block_lt_of_cell? w _ hx205_0)).trans hx205_0
      replace hx205_1:=(HB.out.cell (World.block_lt_of_cell? w _ hx205_1)).trans hx205_1
      replace hx205_2:=(HB.out.cell (World.block_lt_of_cell? w _ hx205_2)).trans hx205_2
      replace p205:=eq_true p205
      replace q205:=eq_true q205
      have p206 : 0 ≤((ji32) : Int):=of_decide_eq_true (by first |(with_reducible assumption) | assumption)
      have q206 :(ji32) < (x4_4.length : Int):=of_decide_eq_true (by first |(with_reducible assumption) | assumption)
      obtain ⟨ad206,e206,hx206_0⟩:=Kd.at_bool (Kd.R_reads' HO_4.out).2.2 (ji32) p206 q206
      (try rw [← Nbq25.out] at hx206_0)
      (try rw [← Nbq35.out] at hx206_0)
      obtain rfl : ad202 = ad206:=(by injection e206)
      replace p206:=eq_true p206
      replace q206:=eq_true q206
      refine start_ (n:=54) (S:=fun w'=>w'.cell? (ad202.add ((ji22)).toNat) = some (.bool true)∧w'.cell? (ad203.add ((x8_3).toNat * 3)) = some (.int .i64 ((rd_T39 l0 x8_3).f0))∧w'.cell? ⟨(ad203.add ((x8_3).toNat * 3)).block,(ad203.add ((x8_3).toNat * 3)).off + 1,none⟩ = some (.int .i64 ((rd_T39 l0 x8_3).f1))∧w'.cell? ⟨(ad203.add ((x8_3).toNat * 3)).block,(ad203.add ((x8_3).toNat * 3)).off + 2,none⟩ = some (.int .i64 ((rd_T39 l0 x8_3).f2))∧w'.cell? (ad203.add ((x8_3).toNat * 3)) = some (.int .i64 ((rd_T39 l0 x8_3).f0))∧w'.cell? ⟨(ad203.add ((x8_3).toNat * 3)).block,(ad203.add ((x8_3).toNat * 3)).off + 1,none⟩ = some (.int .i64 ((rd_T39 l0 x8_3).f1))∧w'.cell? ⟨(ad203.add ((x8_3).toNat * 3)).block,(ad203.add ((x8_3).toNat * 3)).off + 2,none⟩ = some (.int .i64 ((rd_T39 l0 x8_3).f2))∧w'.cell? (ad203.add ((x9_4).toNat * 3)) = some (.int .i64 ((rd_T39 l0 x9_4).f0))∧w'.cell? ⟨(ad203.add ((x9_4).toNat * 3)).block,(ad203.add ((x9_4).toNat * 3)).off + 1,none⟩ = some (.int .i64 ((rd_T39 l0 x9_4).f1))∧w'.cell? ⟨(ad203.add ((x9_4).toNat * 3)).block,(ad203.add ((x9_4).toNat * 3)).off + 2,none⟩ = some (.int .i64 ((rd_T39 l0 x9_4).f2))∧w'.cell? (ad202.add ((ji32)).toNat) = some (.bool false)) (ds:=[]) (q06_Equals.tf [0,54]) (by kernel_rfl) rfl rfl ⟨hx202_0,((HB.out.cell (World.block_lt_of_cell? w _ hw203_0)).trans hw203_0),((HB.out.cell (World.block_lt_of_cell? w _ hw203_1)).trans hw203_1),((HB.out.cell (World.block_lt_of_cell? w _ hw203_2)).trans hw203_2),((HB.out.cell (World.block_lt_of_cell? w _ hw204_0)).trans hw204_0),((HB.out.cell (World.block_lt_of_cell? w _ hw204_1)).trans hw204_1),((HB.out.cell (World.block_lt_of_cell? w _ hw204_2)).trans hw204_2),((HB.out.cell (World.block_lt_of_cell? w _ hw205_0)).trans hw205_0),((HB.out.cell (World.block_lt_of_cell? w _ hw205_1)).trans hw205_1),((HB.out.cell (World.block_lt_of_cell? w _ hw205_2)).trans hw205_2),hx206_0⟩ (fun hHeld=>?_);refine with_tabW q06_Equals.tab19 q06_Equals.bits19 (fun HT_ HW_=>?_)
      generalize wr.drew = w50 at HO_4 HB hx202_0 hx203_0 hx203_1 hx203_2 hx204_0 hx204_1 hx204_2 hx205_0 hx205_1 hx205_2 hx206_0 hHeld ⊢
      refine pure_ (i:=0) (N:=some 55) (v:=?_) (a':=?_) (q06_Equals.tf [1,53]) rfl rfl (any_of HT_.out (by kernel_rfl)) (fun _ _ _ h=>h) (Or.inl ⟨by rfl,?_⟩) ?_ ?_
      rotate_left
      ·intro w'
       go_simp
       with_reducible rfl
      rotate_left
      ·simp only [Act.put, List.setIfInBounds_toArray, List.set_cons_zero, List.set_cons_succ, i64_w, i32_w]
       rfl
      refine pure_ (i:=1) (N:=some 56) (v:=?_) (a':=?_) (q06_Equals.tf [2,52]) rfl rfl (any_of HT_.out (by kernel_rfl)) (fun _ _ _ h=>h) (Or.inl ⟨by rfl,?_⟩) ?_ ?_
      rotate_left
      ·intro w'
       go_simp
       with_reducible rfl
      rotate_left
      ·simp only [Act.put, List.setIfInBounds_toArray, List.set_cons_zero, List.set_cons_succ, i64_w, i32_w]
       rfl
      refine pure_ (i:=2) (N:=some 57) (v:=?_) (a':=?_) (q06_Equals.tf [3,51]) rfl rfl (any_of HT_.out (by kernel_rfl)) (fun _ _ _ h=>h) (Or.inl ⟨by rfl,?_⟩) ?_ ?_
      rotate_left
      ·intro w'
       go_simp
       with_reducible rfl
      rotate_left
      ·simp only [Act.put, List.setIfInBounds_toArray, List.set_cons_zero, List.set_cons_succ, i64_w, i32_w]
       rfl
      refine pure_ (i:=3) (N:=some 58) (v:=?_) (a':=?_) (q06_Equals.tf [4,50]) rfl rfl (any_of HT_.out (by kernel_rfl)) (fun _ _ _ h=>h) (Or.inl ⟨by rfl,?_⟩) ?_ ?_
      rotate_left
      ·intro w'
       go_simp
       with_reducible rfl
      rotate_left
      ·simp only [Act.put, List.setIfInBounds_toArray, List.set_cons_zero, List.set_cons_succ, i64_w, i32_w]
       rfl
      refine pure_ (i:=4) (N:=some 59) (v:=?_) (a':=?_) (q06_Equals.tf [5,49]) rfl rfl (any_of HT_.out (by kernel_rfl)) (fun _ _ _ h=>h) (Or.inl ⟨by rfl,?_⟩) ?_ ?_
      rotate_left
      ·intro w'
       go_simp
       with_reducible rfl
      rotate_left
      ·simp only [Act.put, List.setIfInBounds_toArray, List.set_cons_zero, List.set_cons_succ, i64_w, i32_w]
       rfl
      refine pure_ (i:=5) (N:=some 60) (v:=?_) (a':=?_) (q06_Equals.tf [6,48]) rfl rfl (any_of HT_.out (by kernel_rfl)) (fun _ _ _ h=>h) (Or.inl ⟨by rfl,?_⟩) ?_ ?_
      rotate_left
      ·intro w'
       go_simp
       with_reducible rfl
      rotate_left
      ·simp only [Act.put, List.setIfInBounds_toArray, List.set_cons_zero, List.set_cons_succ, i64_w, i32_w]
       rfl
      refine pure_ (i:=6) (N:=some 61) (v:=?_) (a':=?_) (q06_Equals.tf [7,47]) rfl rfl (any_of HT_.out (by kernel_rfl)) (fun _ _ _ h=>h) (Or.inl ⟨by rfl,?_⟩) ?_ ?_
      rotate_left
      ·intro w'
       go_simp
       with_reducible rfl
      rotate_left
      ·simp only [Act.put, List.setIfInBounds_toArray, List.set_cons_zero, List.set_cons_succ, i64_w, i32_w]
       rfl
      refine take_ (i:=7) (N:=some 62) (v:=?_) (a':=?_) (q06_Equals.tf [8,46]) rfl rfl (take_ofW HT_.out HW_.out (by kernel_rfl)) (fun _ _ _ h=>h) (Or.inl ⟨by rfl,?_⟩) hHeld ?_ ?_
      rotate_left
      ·rintro w' ⟨s0, s1, s2, s3, s4, s5, s6, s7, s8, s9, s10⟩
       go_simp
       with_reducible rfl
      rotate_left
      ·simp only [Act.put, List.setIfInBounds_toArray, List.set_cons_zero, List.set_cons_succ, i64_w, i32_w]
       rfl
      refine pure_ (i:=8) (N:=some 63) (v:=?_) (a':=?_) (q06_Equals.tf [9,45]) rfl rfl (any_of HT_.out (by kernel_rfl)) (fun _ _ _ h=>h) (Or.inl ⟨by rfl,?_⟩) ?_ ?_
      rotate_left
      ·intro w'
       go_simp
       with_reducible rfl
      rotate_left
      ·simp only [Act.put, List.setIfInBounds_toArray, List.set_cons_zero, List.set_cons_succ, i64_w, i32_w]
       rfl
      refine pure_ (i:=9) (N:=some 64) (v:=?_) (a':=?_) (q06_Equals.tf [10,44]) rfl rfl (any_of HT_.out (by kernel_rfl)) (fun _ _ _ h=>h) (Or.inl ⟨by rfl,?_⟩) ?_ ?_
      rotate_left
      ·intro w'
       go_simp
       with_reducible rfl
      rotate_left
      ·simp only [Act.put, List.setIfInBounds_toArray, List.set_cons_zero, List.set_cons_succ, i64_w, i32_w]
       rfl
      refine pure_ (i:=10) (N:=some 65) (v:=?_) (a':=?_) (q06_Equals.tf [11,43]) rfl rfl (any_of HT_.out (by kernel_rfl)) (fun _ _ _ h=>h) (Or.inl ⟨by rfl,?_⟩) ?_ ?_
      rotate_left
      ·intro w'
       go_simp
       with_reducible rfl
      rotate_left
      ·simp only [Act.put, List.setIfInBounds_toArray, List.set_cons_zero, List.set_cons_succ, i64_w, i32_w]
       rfl
      refine pure_ (i:=11) (N:=some 66) (v:=?_) (a':=?_) (q06_Equals.tf [12,42]) rfl rfl (any_of HT_.out (by kernel_rfl)) (fun _ _ _ h=>h) (Or.inl ⟨by rfl,?_⟩) ?_ ?_
      rotate_left
      ·intro w'
       go_simp
       with_reducible rfl
      rotate_left
      ·simp only [Act.put, List.setIfInBounds_toArray, List.set_cons_zero, List.set_cons_succ, i64_w, i32_w]
       rfl
      refine pure_ (i:=12) (N:=some 67) (v:=?_) (a':=?_) (q06_Equals.tf [13,41]) rfl rfl (any_of HT_.out (by kernel_rfl)) (fun _ _ _ h=>h) (Or.inl ⟨by rfl,?_⟩) ?_ ?_
      rotate_left
      ·intro w'
       go_simp
       with_reducible rfl
      rotate_left
      ·simp only [Act.put, List.setIfInBounds_toArray, List.set_cons_zero, List.set_cons_succ, i64_w, i32_w]
       rfl
      refine take_ (i:=13) (N:=some 68) (v:=?_) (a':=?_) (q06_Equals.tf [14,40]) rfl rfl (take_ofW HT_.out HW_.out (by kernel_rfl)) (fun _ _ _ h=>h) (Or.inl ⟨by rfl,?_⟩) hHeld ?_ ?_
      rotate_left
      ·rintro w' ⟨s0, s1, s2, s3, s4, s5, s6, s7, s8, s9, s10⟩
       go_simp
       with_reducible rfl
      rotate_left
      ·simp only [Act.put, List.setIfInBounds_toArray, List.set_cons_zero, List.set_cons_succ, i64_w, i32_w]
       rfl
      refine pure_ (i:=14) (N:=some 69) (v:=?_) (a':=?_) (q06_Equals.tf [15,39]) rfl rfl (any_of HT_.out (by kernel_rfl)) (fun _ _ _ h=>h) (Or.inl ⟨by rfl,?_⟩) ?_ ?_
      rotate_left
      ·intro w'
       go_simp
       with_reducible rfl
      rotate_left
      ·simp only [Act.put, List.setIfInBounds_toArray, List.set_cons_zero, List.set_cons_succ, i64_w, i32_w]
       rfl
      refine pure_ (i:=15) (N:=some 70) (v:=?_) (a':=?_) (q06_Equals.tf [16,38]) rfl rfl (any_of HT_.out (by kernel_rfl)) (fun _ _ _ h=>h) (Or.inl ⟨by rfl,?_⟩) ?_ ?_
      rotate_left
      ·intro w'
       go_simp
       with_reducible rfl
      rotate_left
      ·simp only [Act.put, List.setIfInBounds_toArray, List.set_cons_zero, List.set_cons_succ, i64_w, i32_w]
       rfl
      refine pure_ (i:=16) (N:=some 71) (v:=?_) (a':=?_) (q06_Equals.tf [17,37]) rfl rfl (any_of HT_.out (by kernel_rfl)) (fun _ _ _ h=>h) (Or.inl ⟨by rfl,?_⟩) ?_ ?_
      rotate_left
      ·intro w'
       go_simp
       with_reducible rfl
      rotate_left
      ·simp only [Act.put, List.setIfInBounds_toArray, List.set_cons_zero, List.set_cons_succ, i64_w, i32_w]
       rfl
      refine pure_ (i:=17) (N:=some 72) (v:=?_) (a':=?_) (q06_Equals.tf [18,36]) rfl rfl (any_of HT_.out (by kernel_rfl)) (fun _ _ _ h=>h) (Or.inl ⟨by rfl,?_⟩) ?_ ?_
      rotate_left
      ·intro w'
       go_simp
       with_reducible rfl
      rotate_left
      ·simp only [Act.put, List.setIfInBounds_toArray, List.set_cons_zero, List.set_cons_succ, i64_w, i32_w]
       rfl
      refine pure_ (i:=18) (N:=some 73) (v:=?_) (a':=?_) (q06_Equals.tf [19,35]) rfl rfl (any_of HT_.out (by kernel_rfl)) (fun _ _ _ h=>h) (Or.inl ⟨by rfl,?_⟩) ?_ ?_
      rotate_left
      ·intro w'
       go_simp
       with_reducible rfl
      rotate_left
      ·simp only [Act.put, List.setIfInBounds_toArray, List.set_cons_zero, List.set_cons_succ, i64_w, i32_w]
       rfl
      refine pure_ (i:=19) (N:=some 74) (v:=?_) (a':=?_) (q06_Equals.tf [20,34]) rfl rfl (any_of HT_.out (by kernel_rfl)) (fun _ _ _ h=>h) (Or.inl ⟨by rfl,?_⟩) ?_ ?_
      rotate_left
      ·intro w'
       go_simp
       with_reducible rfl
      rotate_left
      ·simp only [Act.put, List.setIfInBounds_toArray, List.set_cons_zero, List.set_cons_succ, i64_w, i32_w]
       rfl
      refine pure_ (i:=20) (N:=some 75) (v:=?_) (a':=?_) (q06_Equals.tf [21,33]) rfl rfl (any_of HT_.out (by kernel_rfl)) (fun _ _ _ h=>h) (Or.inl ⟨by rfl,?_⟩) ?_ ?_
      rotate_left
      ·intro w'
       go_simp
       with_reducible rfl
      rotate_left
      ·simp only [Act.put, List.setIfInBounds_toArray, List.set_cons_zero, List.set_cons_succ, i64_w, i32_w]
       rfl
      refine pure_ (i:=21) (N:=some 76) (v:=?_) (a':=?_) (q06_Equals.tf [22,32]) rfl rfl (any_of HT_.out (by kernel_rfl)) (fun _ _ _ h=>h) (Or.inl ⟨by rfl,?_⟩) ?_ ?_
      rotate_left
      ·intro w'
       go_simp
       with_reducible rfl
      rotate_left
      ·simp only [Act.put, List.setIfInBounds_toArray, List.set_cons_zero, List.set_cons_succ, i64_w, i32_w]
       rfl
      refine pure_ (i:=22) (N:=some 77) (v:=?_) (a':=?_) (q06_Equals.tf [23,31]) rfl rfl (any_of HT_.out (by kernel_rfl)) (fun _ _ _ h=>h) (Or.inl ⟨by rfl,?_⟩) ?_ ?_
      rotate_left
      ·intro w'
       go_simp
       with_reducible rfl
      rotate_left
      ·simp only [Act.put, List.setIfInBounds_toArray, List.set_cons_zero, List.set_cons_succ, i64_w, i32_w]
       rfl
      refine pure_ (i:=25) (N:=some 80) (v:=?_) (a':=?_) (q06_Equals.tf [23,2,1,28]) rfl rfl (any_of HT_.out (by kernel_rfl)) (fun _ _ _ h=>h) (Or.inl ⟨by rfl,?_⟩) ?_ ?_
      rotate_left
      ·intro w'
       go_simp
       with_reducible rfl
      rotate_left
      ·simp only [Act.put, List.setIfInBounds_toArray, List.set_cons_zero, List.set_cons_succ, i64_w, i32_w]
       rfl
      refine pure_ (i:=26) (N:=some 81) (v:=?_) (a':=?_) (q06_Equals.tf [23,2,2,27]) rfl rfl (any_of HT_.out (by kernel_rfl)) (fun _ _ _ h=>h) (Or.inl ⟨by rfl,?_⟩) ?_ ?_
      rotate_left
      ·intro w'
       go_simp
       with_reducible rfl
      rotate_left
      ·simp only [Act.put, List.setIfInBounds_toArray, List.set_cons_zero, List.set_cons_succ, i64_w, i32_w]
       rfl
      refine pure_ (i:=27) (N:=some 82) (v:=?_) (a':=?_) (q06_Equals.tf [23,2,3,26]) rfl rfl (any_of HT_.out (by kernel_rfl)) (fun _ _ _ h=>h) (Or.inl ⟨by rfl,?_⟩) ?_ ?_
      rotate_left
      ·intro w'
       go_simp
       with_reducible rfl
      rotate_left
      ·simp only [Act.put, List.setIfInBounds_toArray, List.set_cons_zero, List.set_cons_succ, i64_w, i32_w]
       rfl
      refine pure_ (i:=28) (N:=some 83) (v:=?_) (a':=?_) (q06_Equals.tf [23,2,4,25]) rfl rfl (any_of HT_.out (by kernel_rfl)) (fun _ _ _ h=>h) (Or.inl ⟨by rfl,?_⟩) ?_ ?_
      rotate_left
      ·intro w'
       go_simp
       with_reducible rfl
      rotate_left
      ·simp only [Act.put, List.setIfInBounds_toArray, List.set_cons_zero, List.set_cons_succ, i64_w, i32_w]
       rfl
      refine take_ (i:=23) (N:=some 78) (v:=?_) (a':=?_) (q06_Equals.tf [24,1,4,25]) rfl rfl (take_ofW HT_.out HW_.out (by kernel_rfl)) (fun _ _ _ h=>h) (Or.inl ⟨by rfl,?_⟩) hHeld ?_ ?_
      rotate_left
      ·rintro w' ⟨s0, s1, s2, s3, s4, s5, s6, s7, s8, s9, s10⟩
       go_simp
       with_reducible rfl
      rotate_left
      ·simp only [Act.put, List.setIfInBounds_toArray, List.set_cons_zero, List.set_cons_succ, i64_w, i32_w]
       rfl
      refine pure_ (i:=24) (N:=some 79) (v:=?_) (a':=?_) (q06_Equals.tf [29,25]) rfl rfl (any_of HT_.out (by kernel_rfl)) (fun _ _ _ h=>h) (Or.inl ⟨by rfl,?_⟩) ?_ ?_
      rotate_left
      ·intro w'
       go_simp
       with_reducible rfl
      rotate_left
      ·simp only [Act.put, List.setIfInBounds_toArray, List.set_cons_zero, List.set_cons_succ, i64_w, i32_w]
       rfl
      refine take_ (i:=29) (N:=some 84) (v:=?_) (a':=?_) (q06_Equals.tf [30,24]) rfl rfl (take_ofW HT_.out HW_.out (by kernel_rfl)) (fun _ _ _ h=>h) (Or.inl ⟨by rfl,?_⟩) hHeld ?_ ?_
      rotate_left
      ·rintro w' ⟨s0, s1, s2, s3, s4, s5, s6, s7, s8, s9, s10⟩
       go_simp
       with_reducible rfl
      rotate_left
      ·simp only [Act.put, List.setIfInBounds_toArray, List.set_cons_zero, List.set_cons_succ, i64_w, i32_w]
       rfl
      refine pure_ (i:=30) (N:=some 85) (v:=?_) (a':=?_) (q06_Equals.tf [31,23]) rfl rfl (any_of HT_.out (by kernel_rfl)) (fun _ _ _ h=>h) (Or.inl ⟨by rfl,?_⟩) ?_ ?_
      rotate_left
      ·intro w'
       go_simp
       with_reducible rfl
      rotate_left
      ·simp only [Act.put, List.setIfInBounds_toArray, List.set_cons_zero, List.set_cons_succ, i64_w, i32_w]
       rfl
      refine pure_ (i:=31) (N:=some 86) (v:=?_) (a':=?_) (q06_Equals.tf [32,22]) rfl rfl (any_of HT_.out (by kernel_rfl)) (fun _ _ _ h=>h) (Or.inl ⟨by rfl,?_⟩) ?_ ?_
      rotate_left
      ·intro w'
       go_simp
       with_reducible rfl
      rotate_left
      ·simp only [Act.put, List.setIfInBounds_toArray, List.set_cons_zero, List.set_cons_succ, i64_w, i32_w]
       rfl
      refine take_ (i:=32) (N:=some 87) (v:=?_) (a':=?_) (q06_Equals.tf [33,21]) rfl rfl (take_ofW HT_.out HW_.out (by kernel_rfl)) (fun _ _ _ h=>h) (Or.inl ⟨by rfl,?_⟩) hHeld ?_ ?_
      rotate_left
      ·rintro w' ⟨s0, s1, s2, s3, s4, s5, s6, s7, s8, s9, s10⟩
       go_simp
       with_reducible rfl
      rotate_left
      ·simp only [Act.put, List.setIfInBounds_toArray, List.set_cons_zero, List.set_cons_succ, i64_w, i32_w]
       rfl
      refine pure_ (i:=33) (N:=some 88) (v:=?_) (a':=?_) (q06_Equals.tf [34,20]) rfl rfl (any_of HT_.out (by kernel_rfl)) (fun _ _ _ h=>h) (Or.inl ⟨by rfl,?_⟩) ?_ ?_
      rotate_left
      ·intro w'
       go_simp
       with_reducible rfl
      rotate_left
      ·simp only [Act.put, List.setIfInBounds_toArray, List.set_cons_zero, List.set_cons_succ, i64_w, i32_w]
       rfl
      refine pure_ (i:=34) (N:=some 89) (v:=?_) (a':=?_) (q06_Equals.tf [35,19]) rfl rfl (any_of HT_.out (by kernel_rfl)) (fun _ _ _ h=>h) (Or.inl ⟨by rfl,?_⟩) ?_ ?_
      rotate_left
      ·intro w'
       go_simp
       with_reducible rfl
      rotate_left
      ·simp only [Act.put, List.setIfInBounds_toArray, List.set_cons_zero, List.set_cons_succ, i64_w, i32_w]
       rfl
      refine pure_ (i:=35) (N:=some 90) (v:=undef) (a':=?_) (q06_Equals.tf [36,18]) rfl rfl (any_of HT_.out (by kernel_rfl)) (fun _ _ _ h=>h) (Or.inr ⟨by rfl,rfl⟩) ?_ ?_
      rotate_left
      ·simp only [Act.put, List.setIfInBounds_toArray, List.set_cons_zero, List.set_cons_succ, i64_w, i32_w]
       rfl
      refine pure_ (i:=36) (N:=some 91) (v:=undef) (a':=?_) (q06_Equals.tf [37,17]) rfl rfl (any_of HT_.out (by kernel_rfl)) (fun _ _ _ h=>h) (Or.inr ⟨by rfl,rfl⟩) ?_ ?_
      rotate_left
      ·simp only [Act.put, List.setIfInBounds_toArray, List.set_cons_zero, List.set_cons_succ, i64_w, i32_w]
       rfl
      refine pure_ (i:=37) (N:=some 92) (v:=undef) (a':=?_) (q06_Equals.tf [38,16]) rfl rfl (any_of HT_.out (by kernel_rfl)) (fun _ _ _ h=>h) (Or.inr ⟨by rfl,rfl⟩) ?_ ?_
      rotate_left
      ·simp only [Act.put, List.setIfInBounds_toArray, List.set_cons_zero, List.set_cons_succ, i64_w, i32_w]
       rfl
      refine pure_ (i:=38) (N:=some 93) (v:=undef) (a':=?_) (q06_Equals.tf [39,15]) rfl rfl (any_of HT_.out (by kernel_rfl)) (fun _ _ _ h=>h) (Or.inr ⟨by rfl,rfl⟩) ?_ ?_
      rotate_left
      ·simp only [Act.put, List.setIfInBounds_toArray, List.set_cons_zero, List.set_cons_succ, i64_w, i32_w]
       rfl
      refine pure_ (i:=39) (N:=some 94) (v:=undef) (a':=?_) (q06_Equals.tf [40,14]) rfl rfl (any_of HT_.out (by kernel_rfl)) (fun _ _ _ h=>h) (Or.inr ⟨by rfl,rfl⟩) ?_ ?_
      rotate_left
      ·simp only [Act.put, List.setIfInBounds_toArray, List.set_cons_zero, List.set_cons_succ, i64_w, i32_w]
       rfl
      refine pure_ (i:=40) (N:=some 95) (v:=undef) (a':=?_) (q06_Equals.tf [41,13]) rfl rfl (any_of HT_.out (by kernel_rfl)) (fun _ _ _ h=>h) (Or.inr ⟨by rfl,rfl⟩) ?_ ?_
      rotate_left
      ·simp only [Act.put, List.setIfInBounds_toArray, List.set_cons_zero, List.set_cons_succ, i64_w, i32_w]
       rfl
      refine pure_ (i:=41) (N:=some 96) (v:=undef) (a':=?_) (q06_Equals.tf [42,12]) rfl rfl (any_of HT_.out (by kernel_rfl)) (fun _ _ _ h=>h) (Or.inr ⟨by rfl,rfl⟩) ?_ ?_
      rotate_left
      ·simp only [Act.put, List.setIfInBounds_toArray, List.set_cons_zero, List.set_cons_succ, i64_w, i32_w]
       rfl
      refine pure_ (i:=42) (N:=some 97) (v:=undef) (a':=?_) (q06_Equals.tf [43,11]) rfl rfl (any_of HT_.out (by kernel_rfl)) (fun _ _ _ h=>h) (Or.inr ⟨by rfl,rfl⟩) ?_ ?_
      rotate_left
      ·simp only [Act.put, List.setIfInBounds_toArray, List.set_cons_zero, List.set_cons_succ, i64_w, i32_w]
       rfl
      refine pure_ (i:=43) (N:=some 98) (v:=undef) (a':=?_) (q06_Equals.tf [44,10]) rfl rfl (any_of HT_.out (by kernel_rfl)) (fun _ _ _ h=>h) (Or.inr ⟨by rfl,rfl⟩) ?_ ?_
      rotate_left
      ·simp only [Act.put, List.setIfInBounds_toArray, List.set_cons_zero, List.set_cons_succ, i64_w, i32_w]
       rfl
      refine pure_ (i:=44) (N:=some 99) (v:=undef) (a':=?_) (q06_Equals.tf [45,9]) rfl rfl (any_of HT_.out (by kernel_rfl)) (fun _ _ _ h=>h) (Or.inr ⟨by rfl,rfl⟩) ?_ ?_
      rotate_left
      ·simp only [Act.put, List.setIfInBounds_toArray, List.set_cons_zero, List.set_cons_succ, i64_w, i32_w]
       rfl
      refine pure_ (i:=45) (N:=some 100) (v:=undef) (a':=?_) (q06_Equals.tf [46,8]) rfl rfl (any_of HT_.out (by kernel_rfl)) (fun _ _ _ h=>h) (Or.inr ⟨by rfl,rfl⟩) ?_ ?_
      rotate_left
      ·simp only [Act.put, List.setIfInBounds_toArray, List.set_cons_zero, List.set_cons_succ, i64_w, i32_w]
       rfl
      refine pure_ (i:=46) (N:=some 101) (v:=undef) (a':=?_) (q06_Equals.tf [47,7]) rfl rfl (any_of HT_.out (by kernel_rfl)) (fun _ _ _ h=>h) (Or.inr ⟨by rfl,rfl⟩) ?_ ?_
      rotate_left
      ·simp only [Act.put, List.setIfInBounds_toArray, List.set_cons_zero, List.set_cons_succ, i64_w, i32_w]
       rfl
      refine pure_ (i:=47) (N:=some 102) (v:=undef) (a':=?_) (q06_Equals.tf [48,6]) rfl rfl (any_of HT_.out (by kernel_rfl)) (fun _ _ _ h=>h) (Or.inr ⟨by rfl,rfl⟩) ?_ ?_
      rotate_left
      ·simp only [Act.put, List.setIfInBounds_toArray, List.set_cons_zero, List.set_cons_succ, i64_w, i32_w]
       rfl
      refine pure_ (i:=48) (N:=some 103) (v:=undef) (a':=?_) (q06_Equals.tf [49,5]) rfl rfl (any_of HT_.out (by kernel_rfl)) (fun _ _ _ h=>h) (Or.inr ⟨by rfl,rfl⟩) ?_ ?_
      rotate_left
      ·simp only [Act.put, List.setIfInBounds_toArray, List.set_cons_zero, List.set_cons_succ, i64_w, i32_w]
       rfl
      refine pure_ (i:=49) (N:=some 104) (v:=undef) (a':=?_) (q06_Equals.tf [50,4]) rfl rfl (any_of HT_.out (by kernel_rfl)) (fun _ _ _ h=>h) (Or.inr ⟨by rfl,rfl⟩) ?_ ?_
      rotate_left
      ·simp only [Act.put, List.setIfInBounds_toArray, List.set_cons_zero, List.set_cons_succ, i64_w, i32_w]
       rfl
      refine pure_ (i:=50) (N:=some 105) (v:=undef) (a':=?_) (q06_Equals.tf [51,3]) rfl rfl (any_of HT_.out (by kernel_rfl)) (fun _ _ _ h=>h) (Or.inr ⟨by rfl,rfl⟩) ?_ ?_
      rotate_left
      ·simp only [Act.put, List.setIfInBounds_toArray, List.set_cons_zero, List.set_cons_succ, i64_w, i32_w]
       rfl
      refine pure_ (i:=51) (N:=some 106) (v:=undef) (a':=?_) (q06_Equals.tf [52,2]) rfl rfl (any_of HT_.out (by kernel_rfl)) (fun _ _ _ h=>h) (Or.inr ⟨by rfl,rfl⟩) ?_ ?_
      rotate_left
      ·simp only [Act.put, List.setIfInBounds_toArray, List.set_cons_zero, List.set_cons_succ, i64_w, i32_w]
       rfl
      refine pure_ (i:=52) (N:=some 107) (v:=?_) (a':=?_) (q06_Equals.tf [53,1]) rfl rfl (any_of HT_.out (by kernel_rfl)) (fun _ _ _ h=>h) (Or.inl ⟨by rfl,?_⟩) ?_ ?_
      rotate_left
      ·intro w'
       go_simp
       with_reducible rfl
      rotate_left
      ·simp only [Act.put, List.setIfInBounds_toArray, List.set_cons_zero, List.set_cons_succ, i64_w, i32_w]
       rfl
      refine pure_ (i:=53) (N:=some 108) (v:=?_) (a':=?_) (q06_Equals.tf [54]) rfl rfl (any_of HT_.out (by kernel_rfl)) (fun _ _ _ h=>h) (Or.inl ⟨by rfl,?_⟩) ?_ ?_
      rotate_left
      ·intro w'
       go_simp
       with_reducible rfl
      rotate_left
      ·simp only [Act.put, List.setIfInBounds_toArray, List.set_cons_zero, List.set_cons_succ, i64_w, i32_w]
       rfl
      refine done_ (done_of HT_.out (by kernel_rfl)) ?_
      have p49 : 0 ≤((ji22) : Int):=of_decide_eq_true (by first |(with_reducible assumption) | assumption)
      have q49 :((ji22) : Int) < ((x4_4.length : Int) : Int):=of_decide_eq_true (by first |(with_reducible assumption) | assumption)
      obtain ⟨go49,co49,eo49,gb49,gl49,cl49,HG49⟩:=Kd.R_form HO_4.out (by omega)
      (first | cases eo49 |(injection eo49 with ea_ en_ ec_;(first | subst ea_ |(injection ea_ with ea_;subst ea_));subst ec_;clear en_))
      have GB49:=Aside0.mk gb49
      have GG49:=Aside0.mk HG49
      clear gb49 gl49 HG49
      (first | simp only [add_plain] at hx202_0 | skip)
      (first | simp only [add_plain] at hx206_0 | skip)
      obtain ⟨hx49_0,hf49_0⟩:=Kd.R_celln false HO_4.out ((ji22) : Int) p49 q49
      replace p49:=eq_true p49
      replace q49:=eq_true q49
      obtain ⟨hy52_,hz52_⟩:=Kd.R_celln false HO_4.out ((ji22) : Int) (of_decide_eq_true (by first |(with_reducible assumption) | assumption)) (of_decide_eq_true (by first |(with_reducible assumption) | assumption))
      have HP52:=Kd.R_putg HO_4.out ((ji22) : Int) false
      try go_wp2_with (first |((with_reducible refine gate_store (t:=4) (p:=115) rfl ?_);refine store_event (t:=4) (p:=115) (v:=?vo_w53) (w1:=(w50.setCell ⟨go49,((ji22) : Int).toNat,none⟩ (.bool false))) ?hg ?ho ?hn ?hr ?_;(case ho=>rfl);(case hg=>rfl);(case hn=>rfl);(case hr=>first |(go_simp;done) |(go_simp;rfl));intro w53 hw;have hg : w50.grownBy w53 (some go49):=(by rw [hw];exact HP52.2);have hp_ : Kd.R Kd.bool 4 w53 w.heap.size (fun _=>True) (.slice (some ⟨go49,0,none⟩) x4_4.length co51) y211:=(by rw [hw,Ny211.out];exact HP52.1);clear HP52;have n0_:=Aside0.mk (hp_);have n1_:=Aside0.mk ((by rw [hw];exact bwS (HB.out) GB49.out : Below w.heap.size w w53));clear HO_4;clear HB;have HO_4:=n0_;have HB:=n1_;clear n0_ n1_;clear hg hw hp_))
      go_roundg k4
      case measure=>have:=HK1.out;have:=HK2.out;have:=HK3.out;have:=HK4.out;omega
      exact⟨(y211),(true),(wrap64 (x9_4 + 1)),(by first | rfl |(simp;done) |(simp [*];done)),(by first | rfl |(simp;done) |(simp [*];done)),H',⟨by have:=HK1.out;have:=HK2.out;have:=HK3.out;have:=HK4.out;omega⟩,⟨by(with_reducible repeat(first | apply Kd.R_alloc | apply Kd.R_drewN | apply Kd.R_drew));exact HO_4.out⟩,⟨by repeat(first |(with_reducible first | exact HB.out | apply bwA | apply bwN | apply bw1) | exact HB.out)⟩⟩
     subst c36
     have H1 :(if 0 ≤(wrap64 ((wrap64 ((l0.length : Int) * ((rd_T39 l0 x8_3).f2))) + ((rd_T39 l0 x9_4).f2))) then(if(wrap64 ((wrap64 ((l0.length : Int) * ((rd_T39 l0 x8_3).f2))) + ((rd_T39 l0 x9_4).f2))) < (x4_4.length : Int) then(if(rdOf false x4_4 (wrap64 ((wrap64 ((l0.length : Int) * ((rd_T39 l0 x8_3).f2))) + ((rd_T39 l0 x9_4).f2))) = true) then(q06_Equals.l4 k4 l0 (l0.length : Int) x4_4 x7_4 x8_3 (wrap64 (x9_4 + 1))) else(q06_Equals.l4 k4 l0 (l0.length : Int) (x4_4.set ((ji22) : Int).toNat false) true x8_3 (wrap64 (x9_4 + 1)))) else(none)) else(none)) = some r:=by rw [if_pos rfl] at H;exact H
     clear H
     have H:=H1
     clear H1
     obtain ⟨ji37,hji37⟩ : ∃ j_ : Int,(wrap64 ((wrap64 ((l0.length : Int) * ((rd_T39 l0 x8_3).f2))) + ((rd_T39 l0 x9_4).f2))) = j_:=⟨_,rfl⟩
     replace H :(if 0 ≤(ji37) then(if(ji37) < (x4_4.length : Int) then(if(rdOf false x4_4 (ji37) = true) then(q06_Equals.l4 k4 l0 (l0.length : Int) x4_4 x7_4 x8_3 (wrap64 (x9_4 + 1))) else(q06_Equals.l4 k4 l0 (l0.length : Int) (x4_4.set ((ji22) : Int).toNat false) true x8_3 (wrap64 (x9_4 + 1)))) else(none)) else(none)) = some r:=by first |(rw [hji37] at H;exact H) |(simp only [hji37] at H ⊢;exact H)
     have hji37w :(IntKind.i64.wrap ((wrap64 ((l0.length : Int) * ((rd_T39 l0 x8_3).f2))) + ((rd_T39 l0 x9_4).f2))) = ji37:=(i64_w _).trans hji37
     by_cases c38 : 0 ≤(ji37)
     rotate_left
     ·rw [if_neg c38] at H
      exact absurd H (by simp)
     rw [if_pos c38] at H
     have c38b0 : decide (0 ≤(ji37)) = true:=decide_eq_true c38
     clear c38
     by_cases c39 :(ji37) < (x4_4.length : Int)
     rotate_left
     ·rw [if_neg c39] at H
      exact absurd H (by simp)
     rw [if_pos c39] at H
     have c39b0 : decide ((ji37) < (x4_4.length : Int)) = true:=decide_eq_true c39
     clear c39
     obtain ⟨bq40,hbq40⟩ : ∃ b_ : Bool,b_ =(rdOf false x4_4 (ji37)):=⟨_,rfl⟩
     replace H :(if(bq40 = true) then(q06_Equals.l4 k4 l0 (l0.length : Int) x4_4 x7_4 x8_3 (wrap64 (x9_4 + 1))) else(q06_Equals.l4 k4 l0 (l0.length : Int) (x4_4.set ((ji22) : Int).toNat false) true x8_3 (wrap64 (x9_4 + 1)))) = some r:=by rw [← hbq40] at H;exact H
     have Nbq40:=Aside0.mk hbq40
     clear hbq40
     by_cases c41 :(bq40 = true)
     ·subst c41
      have H1 :(q06_Equals.l4 k4 l0 (l0.length : Int) x4_4 x7_4 x8_3 (wrap64 (x9_4 + 1))) = some r:=by rw [if_pos rfl] at H;exact H
      clear H
      have H:=H1
      clear H1
      have H':=Aside0.mk H
      clear H
      try go_wp2
      have n0_:=Aside0.mk (Kd.R_drew HO_4.out)
      have n1_:=Aside0.mk (bw1 HB.out)
      clear HO_4
      clear HB
      have HO_4:=n0_
      have HB:=n1_
      clear n0_ n1_
      obtain ⟨Ao43,co43,eo43⟩:=Kd.R_slice HO_4.out
      (first | subst eo43 |(injection eo43 with f1_ f2_ f3_;have f4_:=f1_.symm;have f5_:=f3_.symm;clear f1_ f2_ f3_;subst f4_;subst f5_))
      have p202 : 0 ≤((ji22) : Int):=of_decide_eq_true (by first |(with_reducible assumption) | assumption)
      have q202 :(ji22) < (x4_4.length : Int):=of_decide_eq_true (by first |(with_reducible assumption) | assumption)
      obtain ⟨ad202,e202,hx202_0⟩:=Kd.at_bool (Kd.R_reads' HO_4.out).2.2 (ji22) p202 q202
      (try rw [← Nbq25.out] at hx202_0)
      (try rw [← Nbq35.out] at hx202_0)
      (try rw [← Nbq40.out] at hx202_0)
      cases e202
      replace p202:=eq_true p202
      replace q202:=eq_true q202
      have p203 : 0 ≤(x8_3 : Int):=of_decide_eq_true (by first |(with_reducible assumption) | assumption)
      have q203 : x8_3 < (l0.length : Int):=of_decide_eq_true (by first |(with_reducible assumption) | assumption)
      obtain ⟨ad203,e203,hx203_0,hx203_1,hx203_2⟩:=at_T39 HR0.out x8_3 p203 q203
      have hw203_2:=hx203_2
      have hw203_1:=hx203_1
      have hw203_0:=hx203_0
      cases e203
      replace hx203_0:=(HB.out.cell (World.block_lt_of_cell? w _ hx203_0)).trans hx203_0
      replace hx203_1:=(HB.out.cell (World.block_lt_of_cell? w _ hx203_1)).trans hx203_1
      replace hx203_2:=(HB.out.cell (World.block_lt_of_cell? w _ hx203_2)).trans hx203_2
      replace p203:=eq_true p203
      replace q203:=eq_true q203
      have p204 : 0 ≤(x8_3 : Int):=of_decide_eq_true (by first |(with_reducible assumption) | assumption)
      have q204 : x8_3 < (l0.length : Int):=of_decide_eq_true (by first |(with_reducible assumption) | assumption)
      obtain ⟨ad204,e204,hx204_0,hx204_1,hx204_2⟩:=at_T39 HR0.out x8_3 p204 q204
      have hw204_2:=hx204_2
      have hw204_1:=hx204_1
      have hw204_0:=hx204_0
      obtain rfl : ad203 = ad204:=(by injection e204)
      replace hx204_0:=(HB.out.cell (World.block_lt_of_cell? w _ hx204_0)).trans hx204_0
      replace hx204_1:=(HB.out.cell (World.block_lt_of_cell? w _ hx204_1)).trans hx204_1
      replace hx204_2:=(HB.out.cell (World.block_lt_of_cell? w _ hx204_2)).trans hx204_2
      replace p204:=eq_true p204
      replace q204:=eq_true q204
      have p205 : 0 ≤(x9_4 : Int):=of_decide_eq_true (by first |(with_reducible assumption) | assumption)
      have q205 : x9_4 < (l0.length : Int):=of_decide_eq_true (by first |(with_reducible assumption) | assumption)
      obtain ⟨ad205,e205,hx205_0,hx205_1,hx205_2⟩:=at_T39 HR0.out x9_4 p205 q205
      have hw205_2:=hx205_2
      have hw205_1:=hx205_1
      have hw205_0:=hx205_0
      obtain rfl : ad203 = ad205:=(by injection e205)
      replace hx205_0:=(HB.out.cell (World.block_lt_of_cell? w _ hx205_0)).trans hx205_0
      replace hx205_1:=(HB.out.cell (World.block_lt_of_cell? w _ hx205_1)).trans hx205_1
      replace hx205_2:=(HB.out.cell (World.block_lt_of_cell? w _ hx205_2)).trans hx205_2
      replace p205:=eq_true p205
      replace q205:=eq_true q205
      have p206 : 0 ≤((ji32) : Int):=of_decide_eq_true (by first |(with_reducible assumption) | assumption)
      have q206 :(ji32) < (x4_4.length : Int):=of_decide_eq_true (by first |(with_reducible assumption) | assumption)
      obtain ⟨ad206,e206,hx206_0⟩:=Kd.at_bool (Kd.R_reads' HO_4.out).2.2 (ji32) p206 q206
      (try rw [← Nbq25.out] at hx206_0)
      (try rw [← Nbq35.out] at hx206_0)
      (try rw [← Nbq40.out] at hx206_0)
      obtain rfl : ad202 = ad206:=(by injection e206)
      replace p206:=eq_true p206
      replace q206:=eq_true q206
      have p207 : 0 ≤(x8_3 : Int):=of_decide_eq_true (by first |(with_reducible assumption) | assumption)
      have q207 : x8_3 < (l0.length : Int):=of_decide_eq_true (by first |(with_reducible assumption) | assumption)
      obtain ⟨ad207,e207,hx207_0,hx207_1,hx207_2⟩:=at_T39 HR0.out x8_3 p207 q207
      have hw207_2:=hx207_2
      have hw207_1:=hx207_1
      have hw207_0:=hx207_0
      obtain rfl : ad203 = ad207:=(by injection e207)
      replace hx207_0:=(HB.out.cell (World.block_lt_of_cell? w _ hx207_0)).trans hx207_0
      replace hx207_1:=(HB.out.cell (World.block_lt_of_cell? w _ hx207_1)).trans hx207_1
      replace hx207_2:=(HB.out.cell (World.block_lt_of_cell? w _ hx207_2)).trans hx207_2
      replace p207:=eq_true p207
      replace q207:=eq_true q207
      have p208 : 0 ≤(x9_4 : Int):=of_decide_eq_true (by first |(with_reducible assumption) | assumption)
      have q208 : x9_4 < (l0.length : Int):=of_decide_eq_true (by first |(with_reducible assumption) | assumption)
      obtain ⟨ad208,e208,hx208_0,hx208_1,hx208_2⟩:=at_T39 HR0.out x9_4 p208 q208
      have hw208_2:=hx208_2
      have hw208_1:=hx208_1
      have hw208_0:=hx208_0
      obtain rfl : ad203 = ad208:=(by injection e208)
      replace hx208_0:=(HB.out.cell (World.block_lt_of_cell? w _ hx208_0)).trans hx208_0
      replace hx208_1:=(HB.out.cell (World.block_lt_of_cell? w _ hx208_1)).trans hx208_1
      replace hx208_2:=(HB.out.cell (World.block_lt_of_cell? w _ hx208_2)).trans hx208_2
      replace p208:=eq_true p208
      replace q208:=eq_true q208
      have p209 : 0 ≤((ji37) : Int):=of_decide_eq_true (by first |(with_reducible assumption) | assumption)
      have q209 :(ji37) < (x4_4.length : Int):=of_decide_eq_true (by first |(with_reducible assumption) | assumption)
      obtain ⟨ad209,e209,hx209_0⟩:=Kd.at_bool (Kd.R_reads' HO_4.out).2.2 (ji37) p209 q209
      (try rw [← Nbq25.out] at hx209_0)
      (try rw [← Nbq35.out] at hx209_0)
      (try rw [← Nbq40.out] at hx209_0)
      obtain rfl : ad202 = ad209:=(by injection e209)
      replace p209:=eq_true p209
      replace q209:=eq_true q209
      refine start_ (n:=54) (S:=fun w'=>w'.cell? (ad202.add ((ji22)).toNat) = some (.bool true)∧w'.cell? (ad203.add ((x8_3).toNat * 3)) = some (.int .i64 ((rd_T39 l0 x8_3).f0))∧w'.cell? ⟨(ad203.add ((x8_3).toNat * 3)).block,(ad203.add ((x8_3).toNat * 3)).off + 1,none⟩ = some (.int .i64 ((rd_T39 l0 x8_3).f1))∧w'.cell? ⟨(ad203.add ((x8_3).toNat * 3)).block,(ad203.add ((x8_3).toNat * 3)).off + 2,none⟩ = some (.int .i64 ((rd_T39 l0 x8_3).f2))∧w'.cell? (ad203.add ((x8_3).toNat * 3)) = some (.int .i64 ((rd_T39 l0 x8_3).f0))∧w'.cell? ⟨(ad203.add ((x8_3).toNat * 3)).block,(ad203.add ((x8_3).toNat * 3)).off + 1,none⟩ = some (.int .i64 ((rd_T39 l0 x8_3).f1))∧w'.cell? ⟨(ad203.add ((x8_3).toNat * 3)).block,(ad203.add ((x8_3).toNat * 3)).off + 2,none⟩ = some (.int .i64 ((rd_T39 l0 x8_3).f2))∧w'.cell? (ad203.add ((x9_4).toNat * 3)) = some (.int .i64 ((rd_T39 l0 x9_4).f0))∧w'.cell? ⟨(ad203.add ((x9_4).toNat * 3)).block,(ad203.add ((x9_4).toNat * 3)).off + 1,none⟩ = some (.int .i64 ((rd_T39 l0 x9_4).f1))∧w'.cell? ⟨(ad203.add ((x9_4).toNat * 3)).block,(ad203.add ((x9_4).toNat * 3)).off + 2,none⟩ = some (.int .i64 ((rd_T39 l0 x9_4).f2))∧w'.cell? (ad202.add ((ji32)).toNat) = some (.bool true)∧w'.cell? (ad203.add ((x8_3).toNat * 3)) = some (.int .i64 ((rd_T39 l0 x8_3).f0))∧w'.cell? ⟨(ad203.add ((x8_3).toNat * 3)).block,(ad203.add ((x8_3).toNat * 3)).off + 1,none⟩ = some (.int .i64 ((rd_T39 l0 x8_3).f1))∧w'.cell? ⟨(ad203.add ((x8_3).toNat * 3)).block,(ad203.add ((x8_3).toNat * 3)).off + 2,none⟩ = some (.int .i64 ((rd_T39 l0 x8_3).f2))∧w'.cell? (ad203.add ((x9_4).toNat * 3)) = some (.int .i64 ((rd_T39 l0 x9_4).f0))∧w'.cell? ⟨(ad203.add ((x9_4).toNat * 3)).block,(ad203.add ((x9_4).toNat * 3)).off + 1,none⟩ = some (.int .i64 ((rd_T39 l0 x9_4).f1))∧w'.cell? ⟨(ad203.add ((x9_4).toNat * 3)).block,(ad203.add ((x9_4).toNat * 3)).off + 2,none⟩ = some (.int .i64 ((rd_T39 l0 x9_4).f2))∧w'.cell? (ad202.add ((ji37)).toNat) = some (.bool true)) (ds:=[]) (q06_Equals.tf [0,54]) (by kernel_rfl) rfl rfl ⟨hx202_0,((HB.out.cell (World.block_lt_of_cell? w _ hw203_0)).trans hw203_0),((HB.out.cell (World.block_lt_of_cell? w _ hw203_1)).trans hw203_1),((HB.out.cell (World.block_lt_of_cell? w _ hw203_2)).trans hw203_2),((HB.out.cell (World.block_lt_of_cell? w _ hw204_0)).trans hw204_0),((HB.out.cell (World.block_lt_of_cell? w _ hw204_1)).trans hw204_1),((HB.out.cell (World.block_lt_of_cell? w _ hw204_2)).trans hw204_2),((HB.out.cell (World.block_lt_of_cell? w _ hw205_0)).trans hw205_0),((HB.out.cell (World.block_lt_of_cell? w _ hw205_1)).trans hw205_1),((HB.out.cell (World.block_lt_of_cell? w _ hw205_2)).trans hw205_2),hx206_0,((HB.out.cell (World.block_lt_of_cell? w _ hw207_0)).trans hw207_0),((HB.out.cell (World.block_lt_of_cell? w _ hw207_1)).trans hw207_1),((HB.out.cell (World.block_lt_of_cell? w _ hw207_2)).trans hw207_2),((HB.out.cell (World.block_lt_of_cell? w _ hw208_0)).trans hw208_0),((HB.out.cell (World.block_lt_of_cell? w _ hw208_1)).trans hw208_1),((HB.out.cell (World.block_lt_of_cell? w _ hw208_2)).trans hw208_2),hx209_0⟩ (fun hHeld=>?_);refine with_tabW q06_Equals.tab19 q06_Equals.bits19 (fun HT_ HW_=>?_)
      generalize wr.drew = w42 at HO_4 HB hx202_0 hx203_0 hx203_1 hx203_2 hx204_0 hx204_1 hx204_2 hx205_0 hx205_1 hx205_2 hx206_0 hx207_0 hx207_1 hx207_2 hx208_0 hx208_1 hx208_2 hx209_0 hHeld ⊢
      refine pure_ (i:=0) (N:=some 55) (v:=?_) (a':=?_) (q06_Equals.tf [1,53]) rfl rfl (any_of HT_.out (by kernel_rfl)) (fun _ _ _ h=>h) (Or.inl ⟨by rfl,?_⟩) ?_ ?_
      rotate_left
      ·intro w'
       go_simp
       with_reducible rfl
      rotate_left
      ·simp only [Act.put, List.setIfInBounds_toArray, List.set_cons_zero, List.set_cons_succ, i64_w, i32_w]
       rfl
      refine pure_ (i:=1) (N:=some 56) (v:=?_) (a':=?_) (q06_Equals.tf [2,52]) rfl rfl (any_of HT_.out (by kernel_rfl)) (fun _ _ _ h=>h) (Or.inl ⟨by rfl,?_⟩) ?_ ?_
      rotate_left
      ·intro w'
       go_simp
       with_reducible rfl
      rotate_left
      ·simp only [Act.put, List.setIfInBounds_toArray, List.set_cons_zero, List.set_cons_succ, i64_w, i32_w]
       rfl
      refine pure_ (i:=2) (N:=some 57) (v:=?_) (a':=?_) (q06_Equals.tf [3,51]) rfl rfl (any_of HT_.out (by kernel_rfl)) (fun _ _ _ h=>h) (Or.inl ⟨by rfl,?_⟩) ?_ ?_
      rotate_left
      ·intro w'
       go_simp
       with_reducible rfl
      rotate_left
      ·simp only [Act.put, List.setIfInBounds_toArray, List.set_cons_zero, List.set_cons_succ, i64_w, i32_w]
       rfl
      refine pure_ (i:=3) (N:=some 58) (v:=?_) (a':=?_) (q06_Equals.tf [4,50]) rfl rfl (any_of HT_.out (by kernel_rfl)) (fun _ _ _ h=>h) (Or.inl ⟨by rfl,?_⟩) ?_ ?_
      rotate_left
      ·intro w'
       go_simp
       with_reducible rfl
      rotate_left
      ·simp only [Act.put, List.setIfInBounds_toArray, List.set_cons_zero, List.set_cons_succ, i64_w, i32_w]
       rfl
      refine pure_ (i:=4) (N:=some 59) (v:=?_) (a':=?_) (q06_Equals.tf [5,49]) rfl rfl (any_of HT_.out (by kernel_rfl)) (fun _ _ _ h=>h) (Or.inl ⟨by rfl,?_⟩) ?_ ?_
      rotate_left
      ·intro w'
       go_simp
       with_reducible rfl
      rotate_left
      ·simp only [Act.put, List.setIfInBounds_toArray, List.set_cons_zero, List.set_cons_succ, i64_w, i32_w]
       rfl
      refine pure_ (i:=5) (N:=some 60) (v:=?_) (a':=?_) (q06_Equals.tf [6,48]) rfl rfl (any_of HT_.out (by kernel_rfl)) (fun _ _ _ h=>h) (Or.inl ⟨by rfl,?_⟩) ?_ ?_
      rotate_left
      ·intro w'
       go_simp
       with_reducible rfl
      rotate_left
      ·simp only [Act.put, List.setIfInBounds_toArray, List.set_cons_zero, List.set_cons_succ, i64_w, i32_w]
       rfl
      refine pure_ (i:=6) (N:=some 61) (v:=?_) (a':=?_) (q06_Equals.tf [7,47]) rfl rfl (any_of HT_.out (by kernel_rfl)) (fun _ _ _ h=>h) (Or.inl ⟨by rfl,?_⟩) ?_ ?_
      rotate_left
      ·intro w'
       go_simp
       with_reducible rfl
      rotate_left
      ·simp only [Act.put, List.setIfInBounds_toArray, List.set_cons_zero, List.set_cons_succ, i64_w, i32_w]
       rfl
      refine take_ (i:=7) (N:=some 62) (v:=?_) (a':=?_) (q06_Equals.tf [8,46]) rfl rfl (take_ofW HT_.out HW_.out (by kernel_rfl)) (fun _ _ _ h=>h) (Or.inl ⟨by rfl,?_⟩) hHeld ?_ ?_
      rotate_left
      ·rintro w' ⟨s0, s1, s2, s3, s4, s5, s6, s7, s8, s9, s10, s11, s12, s13, s14, s15, s16, s17⟩
       go_simp
       with_reducible rfl
      rotate_left
      ·simp only [Act.put, List.setIfInBounds_toArray, List.set_cons_zero, List.set_cons_succ, i64_w, i32_w]
       rfl
      refine pure_ (i:=8) (N:=some 63) (v:=?_) (a':=?_) (q06_Equals.tf [9,45]) rfl rfl (any_of HT_.out (by kernel_rfl)) (fun _ _ _ h=>h) (Or.inl ⟨by rfl,?_⟩) ?_ ?_
      rotate_left
      ·intro w'
       go_simp
       with_reducible rfl
      rotate_left
      ·simp only [Act.put, List.setIfInBounds_toArray, List.set_cons_zero, List.set_cons_succ, i64_w, i32_w]
       rfl
      refine pure_ (i:=9) (N:=some 64) (v:=?_) (a':=?_) (q06_Equals.tf [10,44]) rfl rfl (any_of HT_.out (by kernel_rfl)) (fun _ _ _ h=>h) (Or.inl ⟨by rfl,?_⟩) ?_ ?_
      rotate_left
      ·intro w'
       go_simp
       with_reducible rfl
      rotate_left
      ·simp only [Act.put, List.setIfInBounds_toArray, List.set_cons_zero, List.set_cons_succ, i64_w, i32_w]
       rfl
      refine pure_ (i:=10) (N:=some 65) (v:=?_) (a':=?_) (q06_Equals.tf [11,43]) rfl rfl (any_of HT_.out (by kernel_rfl)) (fun _ _ _ h=>h) (Or.inl ⟨by rfl,?_⟩) ?_ ?_
      rotate_left
      ·intro w'
       go_simp
       with_reducible rfl
      rotate_left
      ·simp only [Act.put, List.setIfInBounds_toArray, List.set_cons_zero, List.set_cons_succ, i64_w, i32_w]
       rfl
      refine pure_ (i:=11) (N:=some 66) (v:=?_) (a':=?_) (q06_Equals.tf [12,42]) rfl rfl (any_of HT_.out (by kernel_rfl)) (fun _ _ _ h=>h) (Or.inl ⟨by rfl,?_⟩) ?_ ?_
      rotate_left
      ·intro w'
       go_simp
       with_reducible rfl
      rotate_left
      ·simp only [Act.put, List.setIfInBounds_toArray, List.set_cons_zero, List.set_cons_succ, i64_w, i32_w]
       rfl
      refine pure_ (i:=12) (N:=some 67) (v:=?_) (a':=?_) (q06_Equals.tf [13,41]) rfl rfl (any_of HT_.out (by kernel_rfl)) (fun _ _ _ h=>h) (Or.inl ⟨by rfl,?_⟩) ?_ ?_
      rotate_left
      ·intro w'
       go_simp
       with_reducible rfl
      rotate_left
      ·simp only [Act.put, List.setIfInBounds_toArray, List.set_cons_zero, List.set_cons_succ, i64_w, i32_w]
       rfl
      refine take_ (i:=13) (N:=some 68) (v:=?_) (a':=?_) (q06_Equals.tf [14,40]) rfl rfl (take_ofW HT_.out HW_.out (by kernel_rfl)) (fun _ _ _ h=>h) (Or.inl ⟨by rfl,?_⟩) hHeld ?_ ?_
      rotate_left
      ·rintro w' ⟨s0, s1, s2, s3, s4, s5, s6, s7, s8, s9, s10, s11, s12, s13, s14, s15, s16, s17⟩
       go_simp
       with_reducible rfl
      rotate_left
      ·simp only [Act.put, List.setIfInBounds_toArray, List.set_cons_zero, List.set_cons_succ, i64_w, i32_w]
       rfl
      refine pure_ (i:=14) (N:=some 69) (v:=?_) (a':=?_) (q06_Equals.tf [15,39]) rfl rfl (any_of HT_.out (by kernel_rfl)) (fun _ _ _ h=>h) (Or.inl ⟨by rfl,?_⟩) ?_ ?_
      rotate_left
      ·intro w'
       go_simp
       with_reducible rfl
      rotate_left
      ·simp only [Act.put, List.setIfInBounds_toArray, List.set_cons_zero, List.set_cons_succ, i64_w, i32_w]
       rfl
      refine pure_ (i:=15) (N:=some 70) (v:=?_) (a':=?_) (q06_Equals.tf [16,38]) rfl rfl (any_of HT_.out (by kernel_rfl)) (fun _ _ _ h=>h) (Or.inl ⟨by rfl,?_⟩) ?_ ?_
      rotate_left
      ·intro w'
       go_simp
       with_reducible rfl
      rotate_left
      ·simp only [Act.put, List.setIfInBounds_toArray, List.set_cons_zero, List.set_cons_succ, i64_w, i32_w]
       rfl
      refine pure_ (i:=16) (N:=some 71) (v:=?_) (a':=?_) (q06_Equals.tf [17,37]) rfl rfl (any_of HT_.out (by kernel_rfl)) (fun _ _ _ h=>h) (Or.inl ⟨by rfl,?_⟩) ?_ ?_
      rotate_left
      ·intro w'
       go_simp
       with_reducible rfl
      rotate_left
      ·simp only [Act.put, List.setIfInBounds_toArray, List.set_cons_zero, List.set_cons_succ, i64_w, i32_w]
       rfl
      refine pure_ (i:=17) (N:=some 72) (v:=?_) (a':=?_) (q06_Equals.tf [18,36]) rfl rfl (any_of HT_.out (by kernel_rfl)) (fun _ _ _ h=>h) (Or.inl ⟨by rfl,?_⟩) ?_ ?_
      rotate_left
      ·intro w'
       go_simp
       with_reducible rfl
      rotate_left
      ·simp only [Act.put, List.setIfInBounds_toArray, List.set_cons_zero, List.set_cons_succ, i64_w, i32_w]
       rfl
      refine pure_ (i:=18) (N:=some 73) (v:=?_) (a':=?_) (q06_Equals.tf [19,35]) rfl rfl (any_of HT_.out (by kernel_rfl)) (fun _ _ _ h=>h) (Or.inl ⟨by rfl,?_⟩) ?_ ?_
      rotate_left
      ·intro w'
       go_simp
       with_reducible rfl
      rotate_left
      ·simp only [Act.put, List.setIfInBounds_toArray, List.set_cons_zero, List.set_cons_succ, i64_w, i32_w]
       rfl
      refine pure_ (i:=19) (N:=some 74) (v:=?_) (a':=?_) (q06_Equals.tf [20,34]) rfl rfl (any_of HT_.out (by kernel_rfl)) (fun _ _ _ h=>h) (Or.inl ⟨by rfl,?_⟩) ?_ ?_
      rotate_left
      ·intro w'
       go_simp
       with_reducible rfl
      rotate_left
      ·simp only [Act.put, List.setIfInBounds_toArray, List.set_cons_zero, List.set_cons_succ, i64_w, i32_w]
       rfl
      refine pure_ (i:=20) (N:=some 75) (v:=?_) (a':=?_) (q06_Equals.tf [21,33]) rfl rfl (any_of HT_.out (by kernel_rfl)) (fun _ _ _ h=>h) (Or.inl ⟨by rfl,?_⟩) ?_ ?_
      rotate_left
      ·intro w'
       go_simp
       with_reducible rfl
      rotate_left
      ·simp only [Act.put, List.setIfInBounds_toArray, List.set_cons_zero, List.set_cons_succ, i64_w, i32_w]
       rfl
      refine pure_ (i:=21) (N:=some 76) (v:=?_) (a':=?_) (q06_Equals.tf [22,32]) rfl rfl (any_of HT_.out (by kernel_rfl)) (fun _ _ _ h=>h) (Or.inl ⟨by rfl,?_⟩) ?_ ?_
      rotate_left
      ·intro w'
       go_simp
       with_reducible rfl
      rotate_left
      ·simp only [Act.put, List.setIfInBounds_toArray, List.set_cons_zero, List.set_cons_succ, i64_w, i32_w]
       rfl
      refine pure_ (i:=22) (N:=some 77) (v:=?_) (a':=?_) (q06_Equals.tf [23,31]) rfl rfl (any_of HT_.out (by kernel_rfl)) (fun _ _ _ h=>h) (Or.inl ⟨by rfl,?_⟩) ?_ ?_
      rotate_left
      ·intro w'
       go_simp
       with_reducible rfl
      rotate_left
      ·simp only [Act.put, List.setIfInBounds_toArray, List.set_cons_zero, List.set_cons_succ, i64_w, i32_w]
       rfl
      refine pure_ (i:=25) (N:=some 80) (v:=?_) (a':=?_) (q06_Equals.tf [23,2,1,28]) rfl rfl (any_of HT_.out (by kernel_rfl)) (fun _ _ _ h=>h) (Or.inl ⟨by rfl,?_⟩) ?_ ?_
      rotate_left
      ·intro w'
       go_simp
       with_reducible rfl
      rotate_left
      ·simp only [Act.put, List.setIfInBounds_toArray, List.set_cons_zero, List.set_cons_succ, i64_w, i32_w]
       rfl
      refine pure_ (i:=26) (N:=some 81) (v:=?_) (a':=?_) (q06_Equals.tf [23,2,2,27]) rfl rfl (any_of HT_.out (by kernel_rfl)) (fun _ _ _ h=>h) (Or.inl ⟨by rfl,?_⟩) ?_ ?_
      rotate_left
      ·intro w'
       go_simp
       with_reducible rfl
      rotate_left
      ·simp only [Act.put, List.setIfInBounds_toArray, List.set_cons_zero, List.set_cons_succ, i64_w, i32_w]
       rfl
      refine pure_ (i:=27) (N:=some 82) (v:=?_) (a':=?_) (q06_Equals.tf [23,2,3,26]) rfl rfl (any_of HT_.out (by kernel_rfl)) (fun _ _ _ h=>h) (Or.inl ⟨by rfl,?_⟩) ?_ ?_
      rotate_left
      ·intro w'
       go_simp
       with_reducible rfl
      rotate_left
      ·simp only [Act.put, List.setIfInBounds_toArray, List.set_cons_zero, List.set_cons_succ, i64_w, i32_w]
       rfl
      refine pure_ (i:=28) (N:=some 83) (v:=?_) (a':=?_) (q06_Equals.tf [23,2,4,25]) rfl rfl (any_of HT_.out (by kernel_rfl)) (fun _ _ _ h=>h) (Or.inl ⟨by rfl,?_⟩) ?_ ?_
      rotate_left
      ·intro w'
       go_simp
       with_reducible rfl
      rotate_left
      ·simp only [Act.put, List.setIfInBounds_toArray, List.set_cons_zero, List.set_cons_succ, i64_w, i32_w]
       rfl
      refine take_ (i:=23) (N:=some 78) (v:=?_) (a':=?_) (q06_Equals.tf [24,1,4,25]) rfl rfl (take_ofW HT_.out HW_.out (by kernel_rfl)) (fun _ _ _ h=>h) (Or.inl ⟨by rfl,?_⟩) hHeld ?_ ?_
      rotate_left
      ·rintro w' ⟨s0, s1, s2, s3, s4, s5, s6, s7, s8, s9, s10, s11, s12, s13, s14, s15, s16, s17⟩
       go_simp
       with_reducible rfl
      rotate_left
      ·simp only [Act.put, List.setIfInBounds_toArray, List.set_cons_zero, List.set_cons_succ, i64_w, i32_w]
       rfl
      refine pure_ (i:=24) (N:=some 79) (v:=?_) (a':=?_) (q06_Equals.tf [29,25]) rfl rfl (any_of HT_.out (by kernel_rfl)) (fun _ _ _ h=>h) (Or.inl ⟨by rfl,?_⟩) ?_ ?_
      rotate_left
      ·intro w'
       go_simp
       with_reducible rfl
      rotate_left
      ·simp only [Act.put, List.setIfInBounds_toArray, List.set_cons_zero, List.set_cons_succ, i64_w, i32_w]
       rfl
      refine take_ (i:=29) (N:=some 84) (v:=?_) (a':=?_) (q06_Equals.tf [30,24]) rfl rfl (take_ofW HT_.out HW_.out (by kernel_rfl)) (fun _ _ _ h=>h) (Or.inl ⟨by rfl,?_⟩) hHeld ?_ ?_
      rotate_left
      ·rintro w' ⟨s0, s1, s2, s3, s4, s5, s6, s7, s8, s9, s10, s11, s12, s13, s14, s15, s16, s17⟩
       go_simp
       with_reducible rfl
      rotate_left
      ·simp only [Act.put, List.setIfInBounds_toArray, List.set_cons_zero, List.set_cons_succ, i64_w, i32_w]
       rfl
      refine pure_ (i:=30) (N:=some 85) (v:=?_) (a':=?_) (q06_Equals.tf [31,23]) rfl rfl (any_of HT_.out (by kernel_rfl)) (fun _ _ _ h=>h) (Or.inl ⟨by rfl,?_⟩) ?_ ?_
      rotate_left
      ·intro w'
       go_simp
       with_reducible rfl
      rotate_left
      ·simp only [Act.put, List.setIfInBounds_toArray, List.set_cons_zero, List.set_cons_succ, i64_w, i32_w]
       rfl
      refine pure_ (i:=31) (N:=some 86) (v:=?_) (a':=?_) (q06_Equals.tf [32,22]) rfl rfl (any_of HT_.out (by kernel_rfl)) (fun _ _ _ h=>h) (Or.inl ⟨by rfl,?_⟩) ?_ ?_
      rotate_left
      ·intro w'
       go_simp
       with_reducible rfl
      rotate_left
      ·simp only [Act.put, List.setIfInBounds_toArray, List.set_cons_zero, List.set_cons_succ, i64_w, i32_w]
       rfl
      refine take_ (i:=32) (N:=some 87) (v:=?_) (a':=?_) (q06_Equals.tf [33,21]) rfl rfl (take_ofW HT_.out HW_.out (by kernel_rfl)) (fun _ _ _ h=>h) (Or.inl ⟨by rfl,?_⟩) hHeld ?_ ?_
      rotate_left
      ·rintro w' ⟨s0, s1, s2, s3, s4, s5, s6, s7, s8, s9, s10, s11, s12, s13, s14, s15, s16, s17⟩
       go_simp
       with_reducible rfl
      rotate_left
      ·simp only [Act.put, List.setIfInBounds_toArray, List.set_cons_zero, List.set_cons_succ, i64_w, i32_w]
       rfl
      refine pure_ (i:=33) (N:=some 88) (v:=?_) (a':=?_) (q06_Equals.tf [34,20]) rfl rfl (any_of HT_.out (by kernel_rfl)) (fun _ _ _ h=>h) (Or.inl ⟨by rfl,?_⟩) ?_ ?_
      rotate_left
      ·intro w'
       go_simp
       with_reducible rfl
      rotate_left
      ·simp only [Act.put, List.setIfInBounds_toArray, List.set_cons_zero, List.set_cons_succ, i64_w, i32_w]
       rfl
      refine pure_ (i:=34) (N:=some 89) (v:=?_) (a':=?_) (q06_Equals.tf [35,19]) rfl rfl (any_of HT_.out (by kernel_rfl)) (fun _ _ _ h=>h) (Or.inl ⟨by rfl,?_⟩) ?_ ?_
      rotate_left
      ·intro w'
       go_simp
       with_reducible rfl
      rotate_left
      ·simp only [Act.put, List.setIfInBounds_toArray, List.set_cons_zero, List.set_cons_succ, i64_w, i32_w]
       rfl
      refine pure_ (i:=35) (N:=some 90) (v:=?_) (a':=?_) (q06_Equals.tf [36,18]) rfl rfl (any_of HT_.out (by kernel_rfl)) (fun _ _ _ h=>h) (Or.inl ⟨by rfl,?_⟩) ?_ ?_
      rotate_left
      ·intro w'
       go_simp
       with_reducible rfl
      rotate_left
      ·simp only [Act.put, List.setIfInBounds_toArray, List.set_cons_zero, List.set_cons_succ, i64_w, i32_w]
       rfl
      refine pure_ (i:=36) (N:=some 91) (v:=?_) (a':=?_) (q06_Equals.tf [37,17]) rfl rfl (any_of HT_.out (by kernel_rfl)) (fun _ _ _ h=>h) (Or.inl ⟨by rfl,?_⟩) ?_ ?_
      rotate_left
      ·intro w'
       go_simp
       with_reducible rfl
      rotate_left
      ·simp only [Act.put, List.setIfInBounds_toArray, List.set_cons_zero, List.set_cons_succ, i64_w, i32_w]
       rfl
      refine pure_ (i:=37) (N:=some 92) (v:=?_) (a':=?_) (q06_Equals.tf [38,16]) rfl rfl (any_of HT_.out (by kernel_rfl)) (fun _ _ _ h=>h) (Or.inl ⟨by rfl,?_⟩) ?_ ?_
      rotate_left
      ·intro w'
       go_simp
       with_reducible rfl
      rotate_left
      ·simp only [Act.put, List.setIfInBounds_toArray, List.set_cons_zero, List.set_cons_succ, i64_w, i32_w]
       rfl
      refine pure_ (i:=38) (N:=some 93) (v:=?_) (a':=?_) (q06_Equals.tf [39,15]) rfl rfl (any_of HT_.out (by kernel_rfl)) (fun _ _ _ h=>h) (Or.inl ⟨by rfl,?_⟩) ?_ ?_
      rotate_left
      ·intro w'
       go_simp
       with_reducible rfl
      rotate_left
      ·simp only [Act.put, List.setIfInBounds_toArray, List.set_cons_zero, List.set_cons_succ, i64_w, i32_w]
       rfl
      refine pure_ (i:=39) (N:=some 94) (v:=?_) (a':=?_) (q06_Equals.tf [40,14]) rfl rfl (any_of HT_.out (by kernel_rfl)) (fun _ _ _ h=>h) (Or.inl ⟨by rfl,?_⟩) ?_ ?_
      rotate_left
      ·intro w'
       go_simp
       with_reducible rfl
      rotate_left
      ·simp only [Act.put, List.setIfInBounds_toArray, List.set_cons_zero, List.set_cons_succ, i64_w, i32_w]
       rfl
      refine pure_ (i:=40) (N:=some 95) (v:=?_) (a':=?_) (q06_Equals.tf [41,13]) rfl rfl (any_of HT_.out (by kernel_rfl)) (fun _ _ _ h=>h) (Or.inl ⟨by rfl,?_⟩) ?_ ?_
      rotate_left
      ·intro w'
       go_simp
       with_reducible rfl
      rotate_left
      ·simp only [Act.put, List.setIfInBounds_toArray, List.set_cons_zero, List.set_cons_succ, i64_w, i32_w]
       rfl
      refine pure_ (i:=43) (N:=some 98) (v:=?_) (a':=?_) (q06_Equals.tf [41,2,1,10]) rfl rfl (any_of HT_.out (by kernel_rfl)) (fun _ _ _ h=>h) (Or.inl ⟨by rfl,?_⟩) ?_ ?_
      rotate_left
      ·intro w'
       go_simp
       with_reducible rfl
      rotate_left
      ·simp only [Act.put, List.setIfInBounds_toArray, List.set_cons_zero, List.set_cons_succ, i64_w, i32_w]
       rfl
      refine pure_ (i:=44) (N:=some 99) (v:=?_) (a':=?_) (q06_Equals.tf [41,2,2,9]) rfl rfl (any_of HT_.out (by kernel_rfl)) (fun _ _ _ h=>h) (Or.inl ⟨by rfl,?_⟩) ?_ ?_
      rotate_left
      ·intro w'
       go_simp
       with_reducible rfl
      rotate_left
      ·simp only [Act.put, List.setIfInBounds_toArray, List.set_cons_zero, List.set_cons_succ, i64_w, i32_w]
       rfl
      refine pure_ (i:=45) (N:=some 100) (v:=?_) (a':=?_) (q06_Equals.tf [41,2,3,8]) rfl rfl (any_of HT_.out (by kernel_rfl)) (fun _ _ _ h=>h) (Or.inl ⟨by rfl,?_⟩) ?_ ?_
      rotate_left
      ·intro w'
       go_simp
       with_reducible rfl
      rotate_left
      ·simp only [Act.put, List.setIfInBounds_toArray, List.set_cons_zero, List.set_cons_succ, i64_w, i32_w]
       rfl
      refine pure_ (i:=46) (N:=some 101) (v:=?_) (a':=?_) (q06_Equals.tf [41,2,4,7]) rfl rfl (any_of HT_.out (by kernel_rfl)) (fun _ _ _ h=>h) (Or.inl ⟨by rfl,?_⟩) ?_ ?_
      rotate_left
      ·intro w'
       go_simp
       with_reducible rfl
      rotate_left
      ·simp only [Act.put, List.setIfInBounds_toArray, List.set_cons_zero, List.set_cons_succ, i64_w, i32_w]
       rfl
      refine take_ (i:=41) (N:=some 96) (v:=?_) (a':=?_) (q06_Equals.tf [42,1,4,7]) rfl rfl (take_ofW HT_.out HW_.out (by kernel_rfl)) (fun _ _ _ h=>h) (Or.inl ⟨by rfl,?_⟩) hHeld ?_ ?_
      rotate_left
      ·rintro w' ⟨s0, s1, s2, s3, s4, s5, s6, s7, s8, s9, s10, s11, s12, s13, s14, s15, s16, s17⟩
       go_simp
       with_reducible rfl
      rotate_left
      ·simp only [Act.put, List.setIfInBounds_toArray, List.set_cons_zero, List.set_cons_succ, i64_w, i32_w]
       rfl
      refine pure_ (i:=42) (N:=some 97) (v:=?_) (a':=?_) (q06_Equals.tf [47,7]) rfl rfl (any_of HT_.out (by kernel_rfl)) (fun _ _ _ h=>h) (Or.inl ⟨by rfl,?_⟩) ?_ ?_
      rotate_left
      ·intro w'
       go_simp
       with_reducible rfl
      rotate_left
      ·simp only [Act.put, List.setIfInBounds_toArray, List.set_cons_zero, List.set_cons_succ, i64_w, i32_w]
       rfl
      refine take_ (i:=47) (N:=some 102) (v:=?_) (a':=?_) (q06_Equals.tf [48,6]) rfl rfl (take_ofW HT_.out HW_.out (by kernel_rfl)) (fun _ _ _ h=>h) (Or.inl ⟨by rfl,?_⟩) hHeld ?_ ?_
      rotate_left
      ·rintro w' ⟨s0, s1, s2, s3, s4, s5, s6, s7, s8, s9, s10, s11, s12, s13, s14, s15, s16, s17⟩
       go_simp
       with_reducible rfl
      rotate_left
      ·simp only [Act.put, List.setIfInBounds_toArray, List.set_cons_zero, List.set_cons_succ, i64_w, i32_w]
       rfl
      refine pure_ (i:=48) (N:=some 103) (v:=?_) (a':=?_) (q06_Equals.tf [49,5]) rfl rfl (any_of HT_.out (by kernel_rfl)) (fun _ _ _ h=>h) (Or.inl ⟨by rfl,?_⟩) ?_ ?_
      rotate_left
      ·intro w'
       go_simp
       with_reducible rfl
      rotate_left
      ·simp only [Act.put, List.setIfInBounds_toArray, List.set_cons_zero, List.set_cons_succ, i64_w, i32_w]
       rfl
      refine pure_ (i:=49) (N:=some 104) (v:=?_) (a':=?_) (q06_Equals.tf [50,4]) rfl rfl (any_of HT_.out (by kernel_rfl)) (fun _ _ _ h=>h) (Or.inl ⟨by rfl,?_⟩) ?_ ?_
      rotate_left
      ·intro w'
       go_simp
       with_reducible rfl
      rotate_left
      ·simp only [Act.put, List.setIfInBounds_toArray, List.set_cons_zero, List.set_cons_succ, i64_w, i32_w]
       rfl
      refine take_ (i:=50) (N:=some 105) (v:=?_) (a':=?_) (q06_Equals.tf [51,3]) rfl rfl (take_ofW HT_.out HW_.out (by kernel_rfl)) (fun _ _ _ h=>h) (Or.inl ⟨by rfl,?_⟩) hHeld ?_ ?_
      rotate_left
      ·rintro w' ⟨s0, s1, s2, s3, s4, s5, s6, s7, s8, s9, s10, s11, s12, s13, s14, s15, s16, s17⟩
       go_simp
       with_reducible rfl
      rotate_left
      ·simp only [Act.put, List.setIfInBounds_toArray, List.set_cons_zero, List.set_cons_succ, i64_w, i32_w]
       rfl
      refine pure_ (i:=51) (N:=some 106) (v:=?_) (a':=?_) (q06_Equals.tf [52,2]) rfl rfl (any_of HT_.out (by kernel_rfl)) (fun _ _ _ h=>h) (Or.inl ⟨by rfl,?_⟩) ?_ ?_
      rotate_left
      ·intro w'
       go_simp
       with_reducible rfl
      rotate_left
      ·simp only [Act.put, List.setIfInBounds_toArray, List.set_cons_zero, List.set_cons_succ, i64_w, i32_w]
       rfl
      refine pure_ (i:=52) (N:=some 107) (v:=?_) (a':=?_) (q06_Equals.tf [53,1]) rfl rfl (any_of HT_.out (by kernel_rfl)) (fun _ _ _ h=>h) (Or.inl ⟨by rfl,?_⟩) ?_ ?_
      rotate_left
      ·intro w'
       go_simp
       with_reducible rfl
      rotate_left
      ·simp only [Act.put, List.setIfInBounds_toArray, List.set_cons_zero, List.set_cons_succ, i64_w, i32_w]
       rfl
      refine pure_ (i:=53) (N:=some 108) (v:=?_) (a':=?_) (q06_Equals.tf [54]) rfl rfl (any_of HT_.out (by kernel_rfl)) (fun _ _ _ h=>h) (Or.inl ⟨by rfl,?_⟩) ?_ ?_
      rotate_left
      ·intro w'
       go_simp
       with_reducible rfl
      rotate_left
      ·simp only [Act.put, List.setIfInBounds_toArray, List.set_cons_zero, List.set_cons_succ, i64_w, i32_w]
       rfl
      refine done_ (done_of HT_.out (by kernel_rfl)) ?_
      try go_wp2
      go_roundg k4
      case measure=>have:=HK1.out;have:=HK2.out;have:=HK3.out;have:=HK4.out;omega
      exact⟨(x4_4),(x7_4),(wrap64 (x9_4 + 1)),(by first | rfl |(simp;done) |(simp [*];done)),(by first | rfl |(simp;done) |(simp [*];done)),H',⟨by have:=HK1.out;have:=HK2.out;have:=HK3.out;have:=HK4.out;omega⟩,⟨by(with_reducible repeat(first | apply Kd.R_alloc | apply Kd.R_drewN | apply Kd.R_drew));exact HO_4.out⟩,⟨by repeat(first |(with_reducible first | exact HB.out | apply bwA | apply bwN | apply bw1) | exact HB.out)⟩⟩
     replace c41:=Bool.eq_false_iff.mpr c41
     subst c41
     have H1 :(q06_Equals.l4 k4 l0 (l0.length : Int) (x4_4.set ((ji22) : Int).toNat false) true x8_3 (wrap64 (x9_4 + 1))) = some r:=by rw [if_neg (show ¬ (false = true) by decide)] at H;exact H
     clear H
     have H:=H1
     clear H1
     obtain ⟨y210,hy210⟩ : ∃ y_ : List Bool,y_ =(x4_4.set ((ji22) : Int).toNat false):=⟨_,rfl⟩
     replace H :(q06_Equals.l4 k4 l0 (l0.length : Int) y210 true x8_3 (wrap64 (x9_4 + 1))) = some r:=by first |(rw [hy210];with_reducible exact H) |(have H2_:=(Option.bind_some _ _).symm.trans H;rw [hy210];with_reducible exact H2_) |(have H2_:=(Option.bind_some _ _).symm.trans H;with_reducible exact H2_) | with_reducible exact H |(rw [hy210];exact H) | exact H
     have Ny210:=Aside0.mk hy210
     clear hy210
     have H':=Aside0.mk H
     clear H
     try go_wp2
     have n0_:=Aside0.mk (Kd.R_drew HO_4.out)
     have n1_:=Aside0.mk (bw1 HB.out)
     clear HO_4
     clear HB
     have HO_4:=n0_
     have HB:=n1_
     clear n0_ n1_
     obtain ⟨Ao46,co46,eo46⟩:=Kd.R_slice HO_4.out
     (first | subst eo46 |(injection eo46 with f1_ f2_ f3_;have f4_:=f1_.symm;have f5_:=f3_.symm;clear f1_ f2_ f3_;subst f4_;subst f5_))
     have p202 : 0 ≤((ji22) : Int):=of_decide_eq_true (by first |(with_reducible assumption) | assumption)
     have q202 :(ji22) < (x4_4.length : Int):=of_decide_eq_true (by first |(with_reducible assumption) | assumption)
     obtain ⟨ad202,e202,hx202_0⟩:=Kd.at_bool (Kd.R_reads' HO_4.out).2.2 (ji22) p202 q202
     (try rw [← Nbq25.out] at hx202_0)
     (try rw [← Nbq35.out] at hx202_0)
     (try rw [← Nbq40.out] at hx202_0)
     cases e202
     replace p202:=eq_true p202
     replace q202:=eq_true q202
     have p203 : 0 ≤(x8_3 : Int):=of_decide_eq_true (by first |(with_reducible assumption) | assumption)
     have q203 : x8_3 < (l0.length : Int):=of_decide_eq_true (by first |(with_reducible assumption) | assumption)
     obtain ⟨ad203,e203,hx203_0,hx203_1,hx203_2⟩:=at_T39 HR0.out x8_3 p203 q203
     have hw203_2:=hx203_2
     have hw203_1:=hx203_1
     have hw203_0:=hx203_0
     cases e203
     replace hx203_0:=(HB.out.cell (World.block_lt_of_cell? w _ hx203_0)).trans hx203_0
     replace hx203_1:=(HB.out.cell (World.block_lt_of_cell? w _ hx203_1)).trans hx203_1
     replace hx203_2:=(HB.out.cell (World.block_lt_of_cell? w _ hx203_2)).trans hx203_2
     replace p203:=eq_true p203
     replace q203:=eq_true q203
     have p204 : 0 ≤(x8_3 : Int):=of_decide_eq_true (by first |(with_reducible assumption) | assumption)
     have q204 : x8_3 < (l0.length : Int):=of_decide_eq_true (by first |(with_reducible assumption) | assumption)
     obtain ⟨ad204,e204,hx204_0,hx204_1,hx204_2⟩:=at_T39 HR0.out x8_3 p204 q204
     have hw204_2:=hx204_2
     have hw204_1:=hx204_1
     have hw204_0:=hx204_0
     obtain rfl : ad203 = ad204:=(by injection e204)
     replace hx204_0:=(HB.out.cell (World.block_lt_of_cell? w _ hx204_0)).trans hx204_0
     replace hx204_1:=(HB.out.cell (World.block_lt_of_cell? w _ hx204_1)).trans hx204_1
     replace hx204_2:=(HB.out.cell (World.block_lt_of_cell? w _ hx204_2)).trans hx204_2
     replace p204:=eq_true p204
     replace q204:=eq_true q204
     have p205 : 0 ≤(x9_4 : Int):=of_decide_eq_true (by first |(with_reducible assumption) | assumption)
     have q205 : x9_4 < (l0.length : Int):=of_decide_eq_true (by first |(with_reducible assumption) | assumption)
     obtain ⟨ad205,e205,hx205_0,hx205_1,hx205_2⟩:=at_T39 HR0.out x9_4 p205 q205
     have hw205_2:=hx205_2
     have hw205_1:=hx205_1
     have hw205_0:=hx205_0
     obtain rfl : ad203 = ad205:=(by injection e205)
     replace hx205_0:=(HB.out.cell (World.block_lt_of_cell? w _ hx205_0)).trans hx205_0
     replace hx205_1:=(HB.out.cell (World.block_lt_of_cell? w _ hx205_1)).trans hx205_1
     replace hx205_2:=(HB.out.cell (World.block_lt_of_cell? w _ hx205_2)).trans hx205_2
     replace p205:=eq_true p205
     replace q205:=eq_true q205
     have p206 : 0 ≤((ji32) : Int):=of_decide_eq_true (by first |(with_reducible assumption) | assumption)
     have q206 :(ji32) < (x4_4.length : Int):=of_decide_eq_true (by first |(with_reducible assumption) | assumption)
     obtain ⟨ad206,e206,hx206_0⟩:=Kd.at_bool (Kd.R_reads' HO_4.out).2.2 (ji32) p206 q206
     (try rw [← Nbq25.out] at hx206_0)
     (try rw [← Nbq35.out] at hx206_0)
     (try rw [← Nbq40.out] at hx206_0)
     obtain rfl : ad202 = ad206:=(by injection e206)
     replace p206:=eq_true p206
     replace q206:=eq_true q206
     have p207 : 0 ≤(x8_3 : Int):=of_decide_eq_true (by first |(with_reducible assumption) | assumption)
     have q207 : x8_3 < (l0.length : Int):=of_decide_eq_true (by first |(with_reducible assumption) | assumption)
     obtain ⟨ad207,e207,hx207_0,hx207_1,hx207_2⟩:=at_T39 HR0.out x8_3 p207 q207
     have hw207_2:=hx207_2
     have hw207_1:=hx207_1
     have hw207_0:=hx207_0
     obtain rfl : ad203 = ad207:=(by injection e207)
     replace hx207_0:=(HB.out.cell (World.block_lt_of_cell? w _ hx207_0)).trans hx207_0
     replace hx207_1:=(HB.out.cell (World.block_lt_of_cell? w _ hx207_1)).trans hx207_1
     replace hx207_2:=(HB.out.cell (World.block_lt_of_cell? w _ hx207_2)).trans hx207_2
     replace p207:=eq_true p207
     replace q207:=eq_true q207
     have p208 : 0 ≤(x9_4 : Int):=of_decide_eq_true (by first |(with_reducible assumption) | assumption)
     have q208 : x9_4 < (l0.length : Int):=of_decide_eq_true (by first |(with_reducible assumption) | assumption)
     obtain ⟨ad208,e208,hx208_0,hx208_1,hx208_2⟩:=at_T39 HR0.out x9_4 p208 q208
     have hw208_2:=hx208_2
     have hw208_1:=hx208_1
     have hw208_0:=hx208_0
     obtain rfl : ad203 = ad208:=(by injection e208)
     replace hx208_0:=(HB.out.cell (World.block_lt_of_cell? w _ hx208_0)).trans hx208_0
     replace hx208_1:=(HB.out.cell (World.block_lt_of_cell? w _ hx208_1)).trans hx208_1
     replace hx208_2:=(HB.out.cell (World.block_lt_of_cell? w _ hx208_2)).trans hx208_2
     replace p208:=eq_true p208
     replace q208:=eq_true q208
     have p209 : 0 ≤((ji37) : Int):=of_decide_eq_true (by first |(with_reducible assumption) | assumption)
     have q209 :(ji37) < (x4_4.length : Int):=of_decide_eq_true (by first |(with_reducible assumption) | assumption)
     obtain ⟨ad209,e209,hx209_0⟩:=Kd.at_bool (Kd.R_reads' HO_4.out).2.2 (ji37) p209 q209
     (try rw [← Nbq25.out] at hx209_0)
     (try rw [← Nbq35.out] at hx209_0)
     (try rw [← Nbq40.out] at hx209_0)
     obtain rfl : ad202 = ad209:=(by injection e209)
     replace p209:=eq_true p209
     replace q209:=eq_true q209
     refine start_ (n:=54) (S:=fun w'=>w'.cell? (ad202.add ((ji22)).toNat) = some (.bool true)∧w'.cell? (ad203.add ((x8_3).toNat * 3)) = some (.int .i64 ((rd_T39 l0 x8_3).f0))∧w'.cell? ⟨(ad203.add ((x8_3).toNat * 3)).block,(ad203.add ((x8_3).toNat * 3)).off + 1,none⟩ = some (.int .i64 ((rd_T39 l0 x8_3).f1))∧w'.cell? ⟨(ad203.add ((x8_3).toNat * 3)).block,(ad203.add ((x8_3).toNat * 3)).off + 2,none⟩ = some (.int .i64 ((rd_T39 l0 x8_3).f2))∧w'.cell? (ad203.add ((x8_3).toNat * 3)) = some (.int .i64 ((rd_T39 l0 x8_3).f0))∧w'.cell? ⟨(ad203.add ((x8_3).toNat * 3)).block,(ad203.add ((x8_3).toNat * 3)).off + 1,none⟩ = some (.int .i64 ((rd_T39 l0 x8_3).f1))∧w'.cell? ⟨(ad203.add ((x8_3).toNat * 3)).block,(ad203.add ((x8_3).toNat * 3)).off + 2,none⟩ = some (.int .i64 ((rd_T39 l0 x8_3).f2))∧w'.cell? (ad203.add ((x9_4).toNat * 3)) = some (.int .i64 ((rd_T39 l0 x9_4).f0))∧w'.cell? ⟨(ad203.add ((x9_4).toNat * 3)).block,(ad203.add ((x9_4).toNat * 3)).off + 1,none⟩ = some (.int .i64 ((rd_T39 l0 x9_4).f1))∧w'.cell? ⟨(ad203.add ((x9_4).toNat * 3)).block,(ad203.add ((x9_4).toNat * 3)).off + 2,none⟩ = some (.int .i64 ((rd_T39 l0 x9_4).f2))∧w'.cell? (ad202.add ((ji32)).toNat) = some (.bool true)∧w'.cell? (ad203.add ((x8_3).toNat * 3)) = some (.int .i64 ((rd_T39 l0 x8_3).f0))∧w'.cell? ⟨(ad203.add ((x8_3).toNat * 3)).block,(ad203.add ((x8_3).toNat * 3)).off + 1,none⟩ = some (.int .i64 ((rd_T39 l0 x8_3).f1))∧w'.cell? ⟨(ad203.add ((x8_3).toNat * 3)).block,(ad203.add ((x8_3).toNat * 3)).off + 2,none⟩ = some (.int .i64 ((rd_T39 l0 x8_3).f2))∧w'.cell? (ad203.add ((x9_4).toNat * 3)) = some (.int .i64 ((rd_T39 l0 x9_4).f0))∧w'.cell? ⟨(ad203.add ((x9_4).toNat * 3)).block,(ad203.add ((x9_4).toNat * 3)).off + 1,none⟩ = some (.int .i64 ((rd_T39 l0 x9_4).f1))∧w'.cell? ⟨(ad203.add ((x9_4).toNat * 3)).block,(ad203.add ((x9_4).toNat * 3)).off + 2,none⟩ = some (.int .i64 ((rd_T39 l0 x9_4).f2))∧w'.cell? (ad202.add ((ji37)).toNat) = some (.bool false)) (ds:=[]) (q06_Equals.tf [0,54]) (by kernel_rfl) rfl rfl ⟨hx202_0,((HB.out.cell (World.block_lt_of_cell? w _ hw203_0)).trans hw203_0),((HB.out.cell (World.block_lt_of_cell? w _ hw203_1)).trans hw203_1),((HB.out.cell (World.block_lt_of_cell? w _ hw203_2)).trans hw203_2),((HB.out.cell (World.block_lt_of_cell? w _ hw204_0)).trans hw204_0),((HB.out.cell (World.block_lt_of_cell? w _ hw204_1)).trans hw204_1),((HB.out.cell (World.block_lt_of_cell? w _ hw204_2)).trans hw204_2),((HB.out.cell (World.block_lt_of_cell? w _ hw205_0)).trans hw205_0),((HB.out.cell (World.block_lt_of_cell? w _ hw205_1)).trans hw205_1),((HB.out.cell (World.block_lt_of_cell? w _ hw205_2)).trans hw205_2),hx206_0,((HB.out.cell (World.block_lt_of_cell? w _ hw207_0)).trans hw207_0),((HB.out.cell (World.block_lt_of_cell? w _ hw207_1)).trans hw207_1),((HB.out.cell (World.block_lt_of_cell? w _ hw207_2)).trans hw207_2),((HB.out.cell (World.block_lt_of_cell? w _ hw208_0)).trans hw208_0),((HB.out.cell (World.block_lt_of_cell? w _ hw208_1)).trans hw208_1),((HB.out.cell (World.block_lt_of_cell? w _ hw208_2)).trans hw208_2),hx209_0⟩ (fun hHeld=>?_);refine with_tabW q06_Equals.tab19 q06_Equals.bits19 (fun HT_ HW_=>?_)
     generalize wr.drew = w45 at HO_4 HB hx202_0 hx203_0 hx203_1 hx203_2 hx204_0 hx204_1 hx204_2 hx205_0 hx205_1 hx205_2 hx206_0 hx207_0 hx207_1 hx207_2 hx208_0 hx208_1 hx208_2 hx209_0 hHeld ⊢
     refine pure_ (i:=0) (N:=some 55) (v:=?_) (a':=?_) (q06_Equals.tf [1,53]) rfl rfl (any_of HT_.out (by kernel_rfl)) (fun _ _ _ h=>h) (Or.inl ⟨by rfl,?_⟩) ?_ ?_
     rotate_left
     ·intro w'
      go_simp
      with_reducible rfl
     rotate_left
     ·simp only [Act.put, List.setIfInBounds_toArray, List.set_cons_zero, List.set_cons_succ, i64_w, i32_w]
      rfl
     refine pure_ (i:=1) (N:=some 56) (v:=?_) (a':=?_) (q06_Equals.tf [2,52]) rfl rfl (any_of HT_.out (by kernel_rfl)) (fun _ _ _ h=>h) (Or.inl ⟨by rfl,?_⟩) ?_ ?_
     rotate_left
     ·intro w'
      go_simp
      with_reducible rfl
     rotate_left
     ·simp only [Act.put, List.setIfInBounds_toArray, List.set_cons_zero, List.set_cons_succ, i64_w, i32_w]
      rfl
     refine pure_ (i:=2) (N:=some 57) (v:=?_) (a':=?_) (q06_Equals.tf [3,51]) rfl rfl (any_of HT_.out (by kernel_rfl)) (fun _ _ _ h=>h) (Or.inl ⟨by rfl,?_⟩) ?_ ?_
     rotate_left
     ·intro w'
      go_simp
      with_reducible rfl
     rotate_left
     ·simp only [Act.put, List.setIfInBounds_toArray, List.set_cons_zero, List.set_cons_succ, i64_w, i32_w]
      rfl
     refine pure_ (i:=3) (N:=some 58) (v:=?_) (a':=?_) (q06_Equals.tf [4,50]) rfl rfl (any_of HT_.out (by kernel_rfl)) (fun _ _ _ h=>h) (Or.inl ⟨by rfl,?_⟩) ?_ ?_
     rotate_left
     ·intro w'
      go_simp
      with_reducible rfl
     rotate_left
     ·simp only [Act.put, List.setIfInBounds_toArray, List.set_cons_zero, List.set_cons_succ, i64_w, i32_w]
      rfl
     refine pure_ (i:=4) (N:=some 59) (v:=?_) (a':=?_) (q06_Equals.tf [5,49]) rfl rfl (any_of HT_.out (by kernel_rfl)) (fun _ _ _ h=>h) (Or.inl ⟨by rfl,?_⟩) ?_ ?_
     rotate_left
     ·intro w'
      go_simp
      with_reducible rfl
     rotate_left
     ·simp only [Act.put, List.setIfInBounds_toArray, List.set_cons_zero, List.set_cons_succ, i64_w, i32_w]
      rfl
     refine pure_ (i:=5) (N:=some 60) (v:=?_) (a':=?_) (q06_Equals.tf [6,48]) rfl rfl (any_of HT_.out (by kernel_rfl)) (fun _ _ _ h=>h) (Or.inl ⟨by rfl,?_⟩) ?_ ?_
     rotate_left
     ·intro w'
      go_simp
      with_reducible rfl
     rotate_left
     ·simp only [Act.put, List.setIfInBounds_toArray, List.set_cons_zero, List.set_cons_succ, i64_w, i32_w]
      rfl
     refine pure_ (i:=6) (N:=some 61) (v:=?_) (a':=?_) (q06_Equals.tf [7,47]) rfl rfl (any_of HT_.out (by kernel_rfl)) (fun _ _ _ h=>h) (Or.inl ⟨by rfl,?_⟩) ?_ ?_
     rotate_left
     ·intro w'
      go_simp
      with_reducible rfl
     rotate_left
     ·simp only [Act.put, List.setIfInBounds_toArray, List.set_cons_zero, List.set_cons_succ, i64_w, i32_w]
      rfl
     refine take_ (i:=7) (N:=some 62) (v:=?_) (a':=?_) (q06_Equals.tf [8,46]) rfl rfl (take_ofW HT_.out HW_.out (by kernel_rfl)) (fun _ _ _ h=>h) (Or.inl ⟨by rfl,?_⟩) hHeld ?_ ?_
     rotate_left
     ·rintro w' ⟨s0, s1, s2, s3, s4, s5, s6, s7, s8, s9, s10, s11, s12, s13, s14, s15, s16, s17⟩
      go_simp
      with_reducible rfl
     rotate_left
     ·simp only [Act.put, List.setIfInBounds_toArray, List.set_cons_zero, List.set_cons_succ, i64_w, i32_w]
      rfl
     refine pure_ (i:=8) (N:=some 63) (v:=?_) (a':=?_) (q06_Equals.tf [9,45]) rfl rfl (any_of HT_.out (by kernel_rfl)) (fun _ _ _ h=>h) (Or.inl ⟨by rfl,?_⟩) ?_ ?_
     rotate_left
     ·intro w'
      go_simp
      with_reducible rfl
     rotate_left
     ·simp only [Act.put, List.setIfInBounds_toArray, List.set_cons_zero, List.set_cons_succ, i64_w, i32_w]
      rfl
     refine pure_ (i:=9) (N:=some 64) (v:=?_) (a':=?_) (q06_Equals.tf [10,44]) rfl rfl (any_of HT_.out (by kernel_rfl)) (fun _ _ _ h=>h) (Or.inl ⟨by rfl,?_⟩) ?_ ?_
     rotate_left
     ·intro w'
      go_simp
      with_reducible rfl
     rotate_left
     ·simp only [Act.put, List.setIfInBounds_toArray, List.set_cons_zero, List.set_cons_succ, i64_w, i32_w]
      rfl
     refine pure_ (i:=10) (N:=some 65) (v:=?_) (a':=?_) (q06_Equals.tf [11,43]) rfl rfl (any_of HT_.out (by kernel_rfl)) (fun _ _ _ h=>h) (Or.inl ⟨by rfl,?_⟩) ?_ ?_
     rotate_left
     ·intro w'
      go_simp
      with_reducible rfl
     rotate_left
     ·simp only [Act.put, List.setIfInBounds_toArray, List.set_cons_zero, List.set_cons_succ, i64_w, i32_w]
      rfl
     refine pure_ (i:=11) (N:=some 66) (v:=?_) (a':=?_) (q06_Equals.tf [12,42]) rfl rfl (any_of HT_.out (by kernel_rfl)) (fun _ _ _ h=>h) (Or.inl ⟨by rfl,?_⟩) ?_ ?_
     rotate_left
     ·intro w'
      go_simp
      with_reducible rfl
     rotate_left
     ·simp only [Act.put, List.setIfInBounds_toArray, List.set_cons_zero, List.set_cons_succ, i64_w, i32_w]
      rfl
     refine pure_ (i:=12) (N:=some 67) (v:=?_) (a':=?_) (q06_Equals.tf [13,41]) rfl rfl (any_of HT_.out (by kernel_rfl)) (fun _ _ _ h=>h) (Or.inl ⟨by rfl,?_⟩) ?_ ?_
     rotate_left
     ·intro w'
      go_simp
      with_reducible rfl
     rotate_left
     ·simp only [Act.put, List.setIfInBounds_toArray, List.set_cons_zero, List.set_cons_succ, i64_w, i32_w]
      rfl
     refine take_ (i:=13) (N:=some 68) (v:=?_) (a':=?_) (q06_Equals.tf [14,40]) rfl rfl (take_ofW HT_.out HW_.out (by kernel_rfl)) (fun _ _ _ h=>h) (Or.inl ⟨by rfl,?_⟩) hHeld ?_ ?_
     rotate_left
     ·rintro w' ⟨s0, s1, s2, s3, s4, s5, s6, s7, s8, s9, s10, s11, s12, s13, s14, s15, s16, s17⟩
      go_simp
      with_reducible rfl
     rotate_left
     ·simp only [Act.put, List.setIfInBounds_toArray, List.set_cons_zero, List.set_cons_succ, i64_w, i32_w]
      rfl
     refine pure_ (i:=14) (N:=some 69) (v:=?_) (a':=?_) (q06_Equals.tf [15,39]) rfl rfl (any_of HT_.out (by kernel_rfl)) (fun _ _ _ h=>h) (Or.inl ⟨by rfl,?_⟩) ?_ ?_
     rotate_left
     ·intro w'
      go_simp
      with_reducible rfl
     rotate_left
     ·simp only [Act.put, List.setIfInBounds_toArray, List.set_cons_zero, List.set_cons_succ, i64_w, i32_w]
      rfl
     refine pure_ (i:=15) (N:=some 70) (v:=?_) (a':=?_) (q06_Equals.tf [16,38]) rfl rfl (any_of HT_.out (by kernel_rfl)) (fun _ _ _ h=>h) (Or.inl ⟨by rfl,?_⟩) ?_ ?_
     rotate_left
     ·intro w'
      go_simp
      with_reducible rfl
     rotate_left
     ·simp only [Act.put, List.setIfInBounds_toArray, List.set_cons_zero, List.set_cons_succ, i64_w, i32_w]
      rfl
     refine pure_ (i:=16) (N:=some 71) (v:=?_) (a':=?_) (q06_Equals.tf [17,37]) rfl rfl (any_of HT_.out (by kernel_rfl)) (fun _ _ _ h=>h) (Or.inl ⟨by rfl,?_⟩) ?_ ?_
     rotate_left
     ·intro w'
      go_simp
      with_reducible rfl
     rotate_left
     ·simp only [Act.put, List.setIfInBounds_toArray, List.set_cons_zero, List.set_cons_succ, i64_w, i32_w]
      rfl
     refine pure_ (i:=17) (N:=some 72) (v:=?_) (a':=?_) (q06_Equals.tf [18,36]) rfl rfl (any_of HT_.out (by kernel_rfl)) (fun _ _ _ h=>h) (Or.inl ⟨by rfl,?_⟩) ?_ ?_
     rotate_left
     ·intro w'
      go_simp
      with_reducible rfl
     rotate_left
     ·simp only [Act.put, List.setIfInBounds_toArray, List.set_cons_zero, List.set_cons_succ, i64_w, i32_w]
      rfl
     refine pure_ (i:=18) (N:=some 73) (v:=?_) (a':=?_) (q06_Equals.tf [19,35]) rfl rfl (any_of HT_.out (by kernel_rfl)) (fun _ _ _ h=>h) (Or.inl ⟨by rfl,?_⟩) ?_ ?_
     rotate_left
     ·intro w'
      go_simp
      with_reducible rfl
     rotate_left
     ·simp only [Act.put, List.setIfInBounds_toArray, List.set_cons_zero, List.set_cons_succ, i64_w, i32_w]
      rfl
     refine pure_ (i:=19) (N:=some 74) (v:=?_) (a':=?_) (q06_Equals.tf [20,34]) rfl rfl (any_of HT_.out (by kernel_rfl)) (fun _ _ _ h=>h) (Or.inl ⟨by rfl,?_⟩) ?_ ?_
     rotate_left
     ·intro w'
      go_simp
      with_reducible rfl
     rotate_left
     ·simp only [Act.put, List.setIfInBounds_toArray, List.set_cons_zero, List.set_cons_succ, i64_w, i32_w]
      rfl
     refine pure_ (i:=20) (N:=some 75) (v:=?_) (a':=?_) (q06_Equals.tf [21,33]) rfl rfl (any_of HT_.out (by kernel_rfl)) (fun _ _ _ h=>h) (Or.inl ⟨by rfl,?_⟩) ?_ ?_
     rotate_left
     ·intro w'
      go_simp
      with_reducible rfl
     rotate_left
     ·simp only [Act.put, List.setIfInBounds_toArray, List.set_cons_zero, List.set_cons_succ, i64_w, i32_w]
      rfl
     refine pure_ (i:=21) (N:=some 76) (v:=?_) (a':=?_) (q06_Equals.tf [22,32]) rfl rfl (any_of HT_.out (by kernel_rfl)) (fun _ _ _ h=>h) (Or.inl ⟨by rfl,?_⟩) ?_ ?_
     rotate_left
     ·intro w'
      go_simp
      with_reducible rfl
     rotate_left
     ·simp only [Act.put, List.setIfInBounds_toArray, List.set_cons_zero, List.set_cons_succ, i64_w, i32_w]
      rfl
     refine pure_ (i:=22) (N:=some 77) (v:=?_) (a':=?_) (q06_Equals.tf [23,31]) rfl rfl (any_of HT_.out (by kernel_rfl)) (fun _ _ _ h=>h) (Or.inl ⟨by rfl,?_⟩) ?_ ?_
     rotate_left
     ·intro w'
      go_simp
      with_reducible rfl
     rotate_left
     ·simp only [Act.put, List.setIfInBounds_toArray, List.set_cons_zero, List.set_cons_succ, i64_w, i32_w]
      rfl
     refine pure_ (i:=25) (N:=some 80) (v:=?_) (a':=?_) (q06_Equals.tf [23,2,1,28]) rfl rfl (any_of HT_.out (by kernel_rfl)) (fun _ _ _ h=>h) (Or.inl ⟨by rfl,?_⟩) ?_ ?_
     rotate_left
     ·intro w'
      go_simp
      with_reducible rfl
     rotate_left
     ·simp only [Act.put, List.setIfInBounds_toArray, List.set_cons_zero, List.set_cons_succ, i64_w, i32_w]
      rfl
     refine pure_ (i:=26) (N:=some 81) (v:=?_) (a':=?_) (q06_Equals.tf [23,2,2,27]) rfl rfl (any_of HT_.out (by kernel_rfl)) (fun _ _ _ h=>h) (Or.inl ⟨by rfl,?_⟩) ?_ ?_
     rotate_left
     ·intro w'
      go_simp
      with_reducible rfl
     rotate_left
     ·simp only [Act.put, List.setIfInBounds_toArray, List.set_cons_zero, List.set_cons_succ, i64_w, i32_w]
      rfl
     refine pure_ (i:=27) (N:=some 82) (v:=?_) (a':=?_) (q06_Equals.tf [23,2,3,26]) rfl rfl (any_of HT_.out (by kernel_rfl)) (fun _ _ _ h=>h) (Or.inl ⟨by rfl,?_⟩) ?_ ?_
     rotate_left
     ·intro w'
      go_simp
      with_reducible rfl
     rotate_left
     ·simp only [Act.put, List.setIfInBounds_toArray, List.set_cons_zero, List.set_cons_succ, i64_w, i32_w]
      rfl
     refine pure_ (i:=28) (N:=some 83) (v:=?_) (a':=?_) (q06_Equals.tf [23,2,4,25]) rfl rfl (any_of HT_.out (by kernel_rfl)) (fun _ _ _ h=>h) (Or.inl ⟨by rfl,?_⟩) ?_ ?_
     rotate_left
     ·intro w'
      go_simp
      with_reducible rfl
     rotate_left
     ·simp only [Act.put, List.setIfInBounds_toArray, List.set_cons_zero, List.set_cons_succ, i64_w, i32_w]
      rfl
     refine take_ (i:=23) (N:=some 78) (v:=?_) (a':=?_) (q06_Equals.tf [24,1,4,25]) rfl rfl (take_ofW HT_.out HW_.out (by kernel_rfl)) (fun _ _ _ h=>h) (Or.inl ⟨by rfl,?_⟩) hHeld ?_ ?_
     rotate_left
     ·rintro w' ⟨s0, s1, s2, s3, s4, s5, s6, s7, s8, s9, s10, s11, s12, s13, s14, s15, s16, s17⟩
      go_simp
      with_reducible rfl
     rotate_left
     ·simp only [Act.put, List.setIfInBounds_toArray, List.set_cons_zero, List.set_cons_succ, i64_w, i32_w]
      rfl
     refine pure_ (i:=24) (N:=some 79) (v:=?_) (a':=?_) (q06_Equals.tf [29,25]) rfl rfl (any_of HT_.out (by kernel_rfl)) (fun _ _ _ h=>h) (Or.inl ⟨by rfl,?_⟩) ?_ ?_
     rotate_left
     ·intro w'
      go_simp
      with_reducible rfl
     rotate_left
     ·simp only [Act.put, List.setIfInBounds_toArray, List.set_cons_zero, List.set_cons_succ, i64_w, i32_w]
      rfl
     refine take_ (i:=29) (N:=some 84) (v:=?_) (a':=?_) (q06_Equals.tf [30,24]) rfl rfl (take_ofW HT_.out HW_.out (by kernel_rfl)) (fun _ _ _ h=>h) (Or.inl ⟨by rfl,?_⟩) hHeld ?_ ?_
     rotate_left
     ·rintro w' ⟨s0, s1, s2, s3, s4, s5, s6, s7, s8, s9, s10, s11, s12, s13, s14, s15, s16, s17⟩
      go_simp
      with_reducible rfl
     rotate_left
     ·simp only [Act.put, List.setIfInBounds_toArray, List.set_cons_zero, List.set_cons_succ, i64_w, i32_w]
      rfl
     refine pure_ (i:=30) (N:=some 85) (v:=?_) (a':=?_) (q06_Equals.tf [31,23]) rfl rfl (any_of HT_.out (by kernel_rfl)) (fun _ _ _ h=>h) (Or.inl ⟨by rfl,?_⟩) ?_ ?_
     rotate_left
     ·intro w'
      go_simp
      with_reducible rfl
     rotate_left
     ·simp only [Act.put, List.setIfInBounds_toArray, List.set_cons_zero, List.set_cons_succ, i64_w, i32_w]
      rfl
     refine pure_ (i:=31) (N:=some 86) (v:=?_) (a':=?_) (q06_Equals.tf [32,22]) rfl rfl (any_of HT_.out (by kernel_rfl)) (fun _ _ _ h=>h) (Or.inl ⟨by rfl,?_⟩) ?_ ?_
     rotate_left
     ·intro w'
      go_simp
      with_reducible rfl
     rotate_left
     ·simp only [Act.put, List.setIfInBounds_toArray, List.set_cons_zero, List.set_cons_succ, i64_w, i32_w]
      rfl
     refine take_ (i:=32) (N:=some 87) (v:=?_) (a':=?_) (q06_Equals.tf [33,21]) rfl rfl (take_ofW HT_.out HW_.out (by kernel_rfl)) (fun _ _ _ h=>h) (Or.inl ⟨by rfl,?_⟩) hHeld ?_ ?_
     rotate_left
     ·rintro w' ⟨s0, s1, s2, s3, s4, s5, s6, s7, s8, s9, s10, s11, s12, s13, s14, s15, s16, s17⟩
      go_simp
      with_reducible rfl
     rotate_left
     ·simp only [Act.put, List.setIfInBounds_toArray, List.set_cons_zero, List.set_cons_succ, i64_w, i32_w]
      rfl
     refine pure_ (i:=33) (N:=some 88) (v:=?_) (a':=?_) (q06_Equals.tf [34,20]) rfl rfl (any_of HT_.out (by kernel_rfl)) (fun _ _ _ h=>h) (Or.inl ⟨by rfl,?_⟩) ?_ ?_
     rotate_left
     ·intro w'
      go_simp
      with_reducible rfl
     rotate_left
     ·simp only [Act.put, List.setIfInBounds_toArray, List.set_cons_zero, List.set_cons_succ, i64_w, i32_w]
      rfl
     refine pure_ (i:=34) (N:=some 89) (v:=?_) (a':=?_) (q06_Equals.tf [35,19]) rfl rfl (any_of HT_.out (by kernel_rfl)) (fun _ _ _ h=>h) (Or.inl ⟨by rfl,?_⟩) ?_ ?_
     rotate_left
     ·intro w'
      go_simp
      with_reducible rfl
     rotate_left
     ·simp only [Act.put, List.setIfInBounds_toArray, List.set_cons_zero, List.set_cons_succ, i64_w, i32_w]
      rfl
     refine pure_ (i:=35) (N:=some 90) (v:=?_) (a':=?_) (q06_Equals.tf [36,18]) rfl rfl (any_of HT_.out (by kernel_rfl)) (fun _ _ _ h=>h) (Or.inl ⟨by rfl,?_⟩) ?_ ?_
     rotate_left
     ·intro w'
      go_simp
      with_reducible rfl
     rotate_left
     ·simp only [Act.put, List.setIfInBounds_toArray, List.set_cons_zero, List.set_cons_succ, i64_w, i32_w]
      rfl
     refine pure_ (i:=36) (N:=some 91) (v:=?_) (a':=?_) (q06_Equals.tf [37,17]) rfl rfl (any_of HT_.out (by kernel_rfl)) (fun _ _ _ h=>h) (Or.inl ⟨by rfl,?_⟩) ?_ ?_
     rotate_left
     ·intro w'
      go_simp
      with_reducible rfl
     rotate_left
     ·simp only [Act.put, List.setIfInBounds_toArray, List.set_cons_zero, List.set_cons_succ, i64_w, i32_w]
      rfl
     refine pure_ (i:=37) (N:=some 92) (v:=?_) (a':=?_) (q06_Equals.tf [38,16]) rfl rfl (any_of HT_.out (by kernel_rfl)) (fun _ _ _ h=>h) (Or.inl ⟨by rfl,?_⟩) ?_ ?_
     rotate_left
     ·intro w'
      go_simp
      with_reducible rfl
     rotate_left
     ·simp only [Act.put, List.setIfInBounds_toArray, List.set_cons_zero, List.set_cons_succ, i64_w, i32_w]
      rfl
     refine pure_ (i:=38) (N:=some 93) (v:=?_) (a':=?_) (q06_Equals.tf [39,15]) rfl rfl (any_of HT_.out (by kernel_rfl)) (fun _ _ _ h=>h) (Or.inl ⟨by rfl,?_⟩) ?_ ?_
     rotate_left
     ·intro w'
      go_simp
      with_reducible rfl
     rotate_left
     ·simp only [Act.put, List.setIfInBounds_toArray, List.set_cons_zero, List.set_cons_succ, i64_w, i32_w]
      rfl
     refine pure_ (i:=39) (N:=some 94) (v:=?_) (a':=?_) (q06_Equals.tf [40,14]) rfl rfl (any_of HT_.out (by kernel_rfl)) (fun _ _ _ h=>h) (Or.inl ⟨by rfl,?_⟩) ?_ ?_
     rotate_left
     ·intro w'
      go_simp
      with_reducible rfl
     rotate_left
     ·simp only [Act.put, List.setIfInBounds_toArray, List.set_cons_zero, List.set_cons_succ, i64_w, i32_w]
      rfl
     refine pure_ (i:=40) (N:=some 95) (v:=?_) (a':=?_) (q06_Equals.tf [41,13]) rfl rfl (any_of HT_.out (by kernel_rfl)) (fun _ _ _ h=>h) (Or.inl ⟨by rfl,?_⟩) ?_ ?_
     rotate_left
     ·intro w'
      go_simp
      with_reducible rfl
     rotate_left
     ·simp only [Act.put, List.setIfInBounds_toArray, List.set_cons_zero, List.set_cons_succ, i64_w, i32_w]
      rfl
     refine pure_ (i:=43) (N:=some 98) (v:=?_) (a':=?_) (q06_Equals.tf [41,2,1,10]) rfl rfl (any_of HT_.out (by kernel_rfl)) (fun _ _ _ h=>h) (Or.inl ⟨by rfl,?_⟩) ?_ ?_
     rotate_left
     ·intro w'
      go_simp
      with_reducible rfl
     rotate_left
     ·simp only [Act.put, List.setIfInBounds_toArray, List.set_cons_zero, List.set_cons_succ, i64_w, i32_w]
      rfl
     refine pure_ (i:=44) (N:=some 99) (v:=?_) (a':=?_) (q06_Equals.tf [41,2,2,9]) rfl rfl (any_of HT_.out (by kernel_rfl)) (fun _ _ _ h=>h) (Or.inl ⟨by rfl,?_⟩) ?_ ?_
     rotate_left
     ·intro w'
      go_simp
      with_reducible rfl
     rotate_left
     ·simp only [Act.put, List.setIfInBounds_toArray, List.set_cons_zero, List.set_cons_succ, i64_w, i32_w]
      rfl
     refine pure_ (i:=45) (N:=some 100) (v:=?_) (a':=?_) (q06_Equals.tf [41,2,3,8]) rfl rfl (any_of HT_.out (by kernel_rfl)) (fun _ _ _ h=>h) (Or.inl ⟨by rfl,?_⟩) ?_ ?_
     rotate_left
     ·intro w'
      go_simp
      with_reducible rfl
     rotate_left
     ·simp only [Act.put, List.setIfInBounds_toArray, List.set_cons_zero, List.set_cons_succ, i64_w, i32_w]
      rfl
     refine pure_ (i:=46) (N:=some 101) (v:=?_) (a':=?_) (q06_Equals.tf [41,2,4,7]) rfl rfl (any_of HT_.out (by kernel_rfl)) (fun _ _ _ h=>h) (Or.inl ⟨by rfl,?_⟩) ?_ ?_
     rotate_left
     ·intro w'
      go_simp
      with_reducible rfl
     rotate_left
     ·simp only [Act.put, List.setIfInBounds_toArray, List.set_cons_zero, List.set_cons_succ, i64_w, i32_w]
      rfl
     refine take_ (i:=41) (N:=some 96) (v:=?_) (a':=?_) (q06_Equals.tf [42,1,4,7]) rfl rfl (take_ofW HT_.out HW_.out (by kernel_rfl)) (fun _ _ _ h=>h) (Or.inl ⟨by rfl,?_⟩) hHeld ?_ ?_
     rotate_left
     ·rintro w' ⟨s0, s1, s2, s3, s4, s5, s6, s7, s8, s9, s10, s11, s12, s13, s14, s15, s16, s17⟩
      go_simp
      with_reducible rfl
     rotate_left
     ·simp only [Act.put, List.setIfInBounds_toArray, List.set_cons_zero, List.set_cons_succ, i64_w, i32_w]
      rfl
     refine pure_ (i:=42) (N:=some 97) (v:=?_) (a':=?_) (q06_Equals.tf [47,7]) rfl rfl (any_of HT_.out (by kernel_rfl)) (fun _ _ _ h=>h) (Or.inl ⟨by rfl,?_⟩) ?_ ?_
     rotate_left
     ·intro w'
      go_simp
      with_reducible rfl
     rotate_left
     ·simp only [Act.put, List.setIfInBounds_toArray, List.set_cons_zero, List.set_cons_succ, i64_w, i32_w]
      rfl
     refine take_ (i:=47) (N:=some 102) (v:=?_) (a':=?_) (q06_Equals.tf [48,6]) rfl rfl (take_ofW HT_.out HW_.out (by kernel_rfl)) (fun _ _ _ h=>h) (Or.inl ⟨by rfl,?_⟩) hHeld ?_ ?_
     rotate_left
     ·rintro w' ⟨s0, s1, s2, s3, s4, s5, s6, s7, s8, s9, s10, s11, s12, s13, s14, s15, s16, s17⟩
      go_simp
      with_reducible rfl
     rotate_left
     ·simp only [Act.put, List.setIfInBounds_toArray, List.set_cons_zero, List.set_cons_succ, i64_w, i32_w]
      rfl
     refine pure_ (i:=48) (N:=some 103) (v:=?_) (a':=?_) (q06_Equals.tf [49,5]) rfl rfl (any_of HT_.out (by kernel_rfl)) (fun _ _ _ h=>h) (Or.inl ⟨by rfl,?_⟩) ?_ ?_
     rotate_left
     ·intro w'
      go_simp
      with_reducible rfl
     rotate_left
     ·simp only [Act.put, List.setIfInBounds_toArray, List.set_cons_zero, List.set_cons_succ, i64_w, i32_w]
      rfl
     refine pure_ (i:=49) (N:=some 104) (v:=?_) (a':=?_) (q06_Equals.tf [50,4]) rfl rfl (any_of HT_.out (by kernel_rfl)) (fun _ _ _ h=>h) (Or.inl ⟨by rfl,?_⟩) ?_ ?_
     rotate_left
     ·intro w'
      go_simp
      with_reducible rfl
     rotate_left
     ·simp only [Act.put, List.setIfInBounds_toArray, List.set_cons_zero, List.set_cons_succ, i64_w, i32_w]
      rfl
     refine take_ (i:=50) (N:=some 105) (v:=?_) (a':=?_) (q06_Equals.tf [51,3]) rfl rfl (take_ofW HT_.out HW_.out (by kernel_rfl)) (fun _ _ _ h=>h) (Or.inl ⟨by rfl,?_⟩) hHeld ?_ ?_
     rotate_left
     ·rintro w' ⟨s0, s1, s2, s3, s4, s5, s6, s7, s8, s9, s10, s11, s12, s13, s14, s15, s16, s17⟩
      go_simp
      with_reducible rfl
     rotate_left
     ·simp only [Act.put, List.setIfInBounds_toArray, List.set_cons_zero, List.set_cons_succ, i64_w, i32_w]
      rfl
     refine pure_ (i:=51) (N:=some 106) (v:=?_) (a':=?_) (q06_Equals.tf [52,2]) rfl rfl (any_of HT_.out (by kernel_rfl)) (fun _ _ _ h=>h) (Or.inl ⟨by rfl,?_⟩) ?_ ?_
     rotate_left
     ·intro w'
      go_simp
      with_reducible rfl
     rotate_left
     ·simp only [Act.put, List.setIfInBounds_toArray, List.set_cons_zero, List.set_cons_succ, i64_w, i32_w]
      rfl
     refine pure_ (i:=52) (N:=some 107) (v:=?_) (a':=?_) (q06_Equals.tf [53,1]) rfl rfl (any_of HT_.out (by kernel_rfl)) (fun _ _ _ h=>h) (Or.inl ⟨by rfl,?_⟩) ?_ ?_
     rotate_left
     ·intro w'
      go_simp
      with_reducible rfl
     rotate_left
     ·simp only [Act.put, List.setIfInBounds_toArray, List.set_cons_zero, List.set_cons_succ, i64_w, i32_w]
      rfl
     refine pure_ (i:=53) (N:=some 108) (v:=?_) (a':=?_) (q06_Equals.tf [54]) rfl rfl (any_of HT_.out (by kernel_rfl)) (fun _ _ _ h=>h) (Or.inl ⟨by rfl,?_⟩) ?_ ?_
     rotate_left
     ·intro w'
      go_simp
      with_reducible rfl
     rotate_left
     ·simp only [Act.put, List.setIfInBounds_toArray, List.set_cons_zero, List.set_cons_succ, i64_w, i32_w]
      rfl
     refine done_ (done_of HT_.out (by kernel_rfl)) ?_
     have p44 : 0 ≤((ji22) : Int):=of_decide_eq_true (by first |(with_reducible assumption) | assumption)
     have q44 :((ji22) : Int) < ((x4_4.length : Int) : Int):=of_decide_eq_true (by first |(with_reducible assumption) | assumption)
     obtain ⟨go44,co44,eo44,gb44,gl44,cl44,HG44⟩:=Kd.R_form HO_4.out (by omega)
     (first | cases eo44 |(injection eo44 with ea_ en_ ec_;(first | subst ea_ |(injection ea_ with ea_;subst ea_));subst ec_;clear en_))
     have GB44:=Aside0.mk gb44
     have GG44:=Aside0.mk HG44
     clear gb44 gl44 HG44
     (first | simp only [add_plain] at hx202_0 | skip)
     (first | simp only [add_plain] at hx206_0 | skip)
     (first | simp only [add_plain] at hx209_0 | skip)
     obtain ⟨hx44_0,hf44_0⟩:=Kd.R_celln false HO_4.out ((ji22) : Int) p44 q44
     replace p44:=eq_true p44
     replace q44:=eq_true q44
     obtain ⟨hy47_,hz47_⟩:=Kd.R_celln false HO_4.out ((ji22) : Int) (of_decide_eq_true (by first |(with_reducible assumption) | assumption)) (of_decide_eq_true (by first |(with_reducible assumption) | assumption))
     have HP47:=Kd.R_putg HO_4.out ((ji22) : Int) false
     try go_wp2_with (first |((with_reducible refine gate_store (t:=4) (p:=115) rfl ?_);refine store_event (t:=4) (p:=115) (v:=?vo_w48) (w1:=(w45.setCell ⟨go44,((ji22) : Int).toNat,none⟩ (.bool false))) ?hg ?ho ?hn ?hr ?_;(case ho=>rfl);(case hg=>rfl);(case hn=>rfl);(case hr=>first |(go_simp;done) |(go_simp;rfl));intro w48 hw;have hg : w45.grownBy w48 (some go44):=(by rw [hw];exact HP47.2);have hp_ : Kd.R Kd.bool 4 w48 w.heap.size (fun _=>True) (.slice (some ⟨go44,0,none⟩) x4_4.length co46) y210:=(by rw [hw,Ny210.out];exact HP47.1);clear HP47;have n0_:=Aside0.mk (hp_);have n1_:=Aside0.mk ((by rw [hw];exact bwS (HB.out) GB44.out : Below w.heap.size w w48));clear HO_4;clear HB;have HO_4:=n0_;have HB:=n1_;clear n0_ n1_;clear hg hw hp_))
     go_roundg k4
     case measure=>have:=HK1.out;have:=HK2.out;have:=HK3.out;have:=HK4.out;omega
     exact⟨(y210),(true),(wrap64 (x9_4 + 1)),(by first | rfl |(simp;done) |(simp [*];done)),(by first | rfl |(simp;done) |(simp [*];done)),H',⟨by have:=HK1.out;have:=HK2.out;have:=HK3.out;have:=HK4.out;omega⟩,⟨by(with_reducible repeat(first | apply Kd.R_alloc | apply Kd.R_drewN | apply Kd.R_drew));exact HO_4.out⟩,⟨by repeat(first |(with_reducible first | exact HB.out | apply bwA | apply bwN | apply bw1) | exact HB.out)⟩⟩

def q06_reach.l0 : Nat → List Int → List Bool → Int → Int → Int → Option (List Int × Int)
 | 0,_,_,_,_,_=>none
 | k + 1,x0,x1,x2,x3,x10=>if x10 < (x0.length : Int) then(if 0≤x10 then(if 0 ≤(wrap64 ((wrap64 (x2 * (rd x0 x10))) + x3)) then(if(wrap64 ((wrap64 (x2 * (rd x0 x10))) + x3)) < (x1.length : Int) then(if rdOf false x1 (wrap64 ((wrap64 (x2 * (rd x0 x10))) + x3)) = true then(some (x0,x10)) else(q06_reach.l0 k x0 x1 x2 x3 (wrap64 (x10 + 1)))) else(none)) else(none)) else(none)) else(if x0.length < 17592186044416 then(some ((x0 ++ [x3]),(x0.length : Int))) else(none))
def q06_reach.f (k : Nat) (l0 : List Int) (l1 : List Bool) (a2 : Int) (a3 : Int) : Option (List Int×Int):=q06_reach.l0 k l0 l1 a2 a3 0
set_option maxHeartbeats 8000000 in
set_option maxRecDepth 100000 in
theorem q06_reach.calls (k : Nat) (P0_ : Nat → Prop) (u9000_ : Value) (l0 : List Int) (A1 : Option Addr) (c1 : Nat) (l1 : List Bool) (a2 : Int) (a3 : Int) (r1 : List Int) (r2 : Int) (w0 w : World) (hB : Below w0.heap.size w0 w) (ho0 : Kd.R (Kd.int .i64) 3 w w0.heap.size P0_ u9000_ l0) (hr1 : ∀ W_, Kept w W_ (fun k_ => P0_ k_) → Kd.C Kd.bool W_ A1 l1.length l1) (hc1 : l1.length ≤ c1) (h : q06_reach.f k l0 l1 a2 a3 = some (r1, r2)) :
  Calls Try.prog 43 #[u9000_,.slice A1 l1.length c1,.int .i64 a2,.int .i64 a3] w fun e w'=>∃ v0_ : Value,e = .returned (.tuple #[v0_,.int .i64 r2])∧Kd.R (Kd.int .i64) 3 w' w0.heap.size (fun k_=>(P0_ k_∨w.heap.size≤k_)) v0_ r1∧Below w0.heap.size w0 w'∧Kept w w' (fun k_=>P0_ k_):=by
 have HO0:=Aside0.mk (show Kd.R (Kd.int .i64) 3 w w0.heap.size (fun k_=>(P0_ k_∨w.heap.size≤k_)) u9000_ l0 from Kd.R_mono ho0 (fun k_ hk=>(.inl hk)))
 have HR1:=Aside0.mk hr1
 have HC1:=Aside0.mk hc1
 clear hr1 hc1
 have HK:=Aside0.mk (Kept.refl w (fun k_=>P0_ k_))
 have HW0:=Aside0.mk hB.size
 have HB:=Aside0.mk hB
 clear hB
 have H :(q06_reach.l0 k l0 l1 a2 a3 0) = some (r1,r2):=h
 clear h
 have H':=Aside0.mk H
 clear H
 go_enter Try.func43,Try.ntmps43
 go_wp2
 go_loopg [10] k (fun kq v10 w'=>∃ (x10_1 : Int),v10 = .int .i64 x10_1∧Aside0 (q06_reach.l0 kq l0 l1 a2 a3 x10_1 = some (r1,r2))∧Aside0 (kq≤k)∧Aside0 (Kd.R (Kd.int .i64) 3 w' w0.heap.size (fun k_=>(P0_ k_∨w.heap.size≤k_)) u9000_ l0)∧Aside0 (Kept w w' (fun k_=>P0_ k_))∧Aside0 (Below w0.heap.size w0 w'))
 case atStart=>exact⟨(0),(by first | rfl |(simp;done) |(simp [*];done)),H',⟨Nat.le_refl _⟩,⟨by(with_reducible repeat(first | apply Kd.R_alloc | apply Kd.R_drewN | apply Kd.R_drew));exact HO0.out⟩,⟨by repeat(first |(with_reducible first | exact HK.out | apply Kept.alloc | apply Kept.drewN | apply Kept.drew) | exact HK.out)⟩,⟨by repeat(first |(with_reducible first | exact HB.out | apply bwA | apply bwN | apply bw1) | exact HB.out)⟩⟩
 clear H'
 try clear c1
 try clear p2
 try clear c4
 obtain ⟨x10_1,rfl,HA,HK1,HO_0,HK,HB⟩:=hrel
 cases gk with
 | zero=>exact absurd HA.out (by simp [q06_reach.l0])
 | succ k1 =>
  have H:=HA.out
  clear HA
  simp only [q06_reach.l0] at H
  by_cases c5 : x10_1 < (l0.length : Int)
  rotate_left
  ·rw [if_neg c5] at H
   have c5b0 : decide (x10_1 < (l0.length : Int)) = false:=decide_eq_false c5
   clear c5
   by_cases c14 : l0.length < 17592186044416
   rotate_left
   ·rw [if_neg c14] at H
    exact absurd H (by simp)
   rw [if_pos c14] at H
   have LMc14:=Aside0.mk c14
   clear c14
   obtain ⟨y214,hy214⟩ : ∃ y_ : List Int,y_ =(l0 ++ [a3]):=⟨_,rfl⟩
   replace H :(some (y214,(l0.length : Int))) = some (r1,r2):=by first |(rw [hy214];with_reducible exact H) |(have H2_:=(Option.bind_some _ _).symm.trans H;rw [hy214];with_reducible exact H2_) |(have H2_:=(Option.bind_some _ _).symm.trans H;with_reducible exact H2_) | with_reducible exact H |(rw [hy214];exact H) | exact H
   have Ny214:=Aside0.mk hy214
   clear hy214
   simp only [Option.some.injEq,Prod.mk.injEq] at H
   obtain ⟨rfl,rfl⟩:=H
   obtain ⟨Ao15,co15,eo15⟩:=Kd.R_slice HO_0.out
   subst eo15
   go_wp2_with (first |((with_reducible refine gate_builtin (b:=.append) (xs:=#[.tmp 30,.tmp 32]) rfl ?_);at_builtin;refine Kd.R_append (Kd.int .i64) (w0:=w0) w0.heap.size rfl (.tmp 30) (.tmp 32) 65 3 (.int .i64 0) 8 rfl Try.underlying65 info3 rfl (by decide) (by omega) (.slice Ao15 l0.length co15) l0 a3 [.int .i64 a3] (fun k_=>(P0_ k_∨w.heap.size≤k_)) (fun _=>False) rfl rfl ?aP (fun _ hk=>hk.elim) ?aF ?aO ?aB ?aS ?aL ?_;(case aP=>exact rfl);(case aB=>exact(by repeat(first |(with_reducible first | exact HB.out | apply bwA | apply bwN | apply bw1) | exact HB.out)));(case aF=>exact(fun k_ hk=>(.inr (Nat.le_trans (by first | exact HK.out.1 | exact(show Kept w _ (fun k_=>P0_ k_) from by repeat(first |(with_reducible first | exact HK.out | apply Kept.alloc | apply Kept.drewN | apply Kept.drew) | exact HK.out)).1) hk))));(case aO=>exact(by(with_reducible repeat(first | apply Kd.R_alloc | apply Kd.R_drewN | apply Kd.R_drew));exact HO_0.out));(case aS=>exact(bwZ (by repeat(first |(with_reducible first | exact HB.out | apply bwA | apply bwN | apply bw1) | exact HB.out))));(case aL=>have:=LMc14.out;omega);intro v215 w16 ho hb hg hat;rw [← Ny214.out] at ho;have n0_:=Aside0.mk (hb);have n1_:=Aside0.mk (Kept.of_grown (S:=(fun k_=>P0_ k_)) hg (by repeat(first |(with_reducible first | exact HK.out | apply Kept.alloc | apply Kept.drewN | apply Kept.drew) | exact HK.out)) (fun k_ e_=>(HO_0.out.1 k_ e_)));have n2_:=Aside0.mk (ho);clear HB;clear HK;clear HO_0;have HB:=n0_;have HK:=n1_;have HO216:=n2_;clear n0_ n1_ n2_;clear ho hb hg hat))
   go_ret2
   exact⟨_,by first | rfl |(simp [errW_none,errW_some] <;> rfl) |(simp [*,errW_none,errW_some] <;> rfl),by(with_reducible repeat(first | apply Kd.R_alloc | apply Kd.R_drewN | apply Kd.R_drew));exact HO216.out,by repeat(first |(with_reducible first | exact HB.out | apply bwA | apply bwN | apply bw1) | exact HB.out),by repeat(first |(with_reducible first | exact HK.out | apply Kept.alloc | apply Kept.drewN | apply Kept.drew) | exact HK.out)⟩
  rw [if_pos c5] at H
  have c5b0 : decide (x10_1 < (l0.length : Int)) = true:=decide_eq_true c5
  clear c5
  by_cases c6 : 0≤x10_1
  rotate_left
  ·rw [if_neg c6] at H
   exact absurd H (by simp)
  rw [if_pos c6] at H
  have c6b0 : decide (0≤x10_1) = true:=decide_eq_true c6
  clear c6
  obtain ⟨ji7,hji7⟩ : ∃ j_ : Int,(wrap64 ((wrap64 (a2 * (rd l0 x10_1))) + a3)) = j_:=⟨_,rfl⟩
  replace H :(if 0 ≤(ji7) then(if(ji7) < (l1.length : Int) then(if rdOf false l1 (ji7) = true then(some (l0,x10_1)) else(q06_reach.l0 k1 l0 l1 a2 a3 (wrap64 (x10_1 + 1)))) else(none)) else(none)) = some (r1,r2):=by first |(rw [hji7] at H;exact H) |(simp only [hji7] at H ⊢;exact H)
  have hji7w :(IntKind.i64.wrap ((wrap64 (a2 * (rd l0 x10_1))) + a3)) = ji7:=(i64_w _).trans hji7
  by_cases c8 : 0 ≤(ji7)
  rotate_left
  ·rw [if_neg c8] at H
   exact absurd H (by simp)
  rw [if_pos c8] at H
  have c8b0 : decide (0 ≤(ji7)) = true:=decide_eq_true c8
  clear c8
  by_cases c9 :(ji7) < (l1.length : Int)
  rotate_left
  ·rw [if_neg c9] at H
   exact absurd H (by simp)
  rw [if_pos c9] at H
  have c9b0 : decide ((ji7) < (l1.length : Int)) = true:=decide_eq_true c9
  clear c9
  obtain ⟨bq10,hbq10⟩ : ∃ b_ : Bool,b_ =(rdOf false l1 (ji7)):=⟨_,rfl⟩
  replace H :(if bq10 = true then(some (l0,x10_1)) else(q06_reach.l0 k1 l0 l1 a2 a3 (wrap64 (x10_1 + 1)))) = some (r1,r2):=by rw [← hbq10] at H;exact H
  have Nbq10:=Aside0.mk hbq10
  clear hbq10
  by_cases c11 : bq10 = true
  ·subst c11
   have H1 :(some (l0,x10_1)) = some (r1,r2):=by rw [if_pos rfl] at H;exact H
   clear H
   have H:=H1
   clear H1
   simp only [Option.some.injEq,Prod.mk.injEq] at H
   obtain ⟨rfl,rfl⟩:=H
   obtain ⟨Ao12,co12,eo12⟩:=Kd.R_slice HO_0.out
   subst eo12
   have p212 : 0 ≤(x10_1 : Int):=of_decide_eq_true (by first |(with_reducible assumption) | assumption)
   have q212 : x10_1 < (l0.length : Int):=of_decide_eq_true (by first |(with_reducible assumption) | assumption)
   obtain ⟨ad212,e212,hx212_0⟩:=Kd.at_int (Kd.R_reads' HO_0.out).2.2 x10_1 p212 q212
   cases e212
   replace p212:=eq_true p212
   replace q212:=eq_true q212
   have p213 : 0 ≤((ji7) : Int):=of_decide_eq_true (by first |(with_reducible assumption) | assumption)
   have q213 :(ji7) < (l1.length : Int):=of_decide_eq_true (by first |(with_reducible assumption) | assumption)
   obtain ⟨ad213,e213,hx213_0⟩:=Kd.at_bool (Kd.C_kept_now HR1.out HK.out) (ji7) p213 q213
   (try rw [← Nbq10.out] at hx213_0)
   cases e213
   replace p213:=eq_true p213
   replace q213:=eq_true q213
   go_wp2
   go_ret2
   exact⟨_,by first | rfl |(simp [errW_none,errW_some] <;> rfl) |(simp only [← hji7];first | rfl |(simp [errW_none,errW_some] <;> rfl)) |(simp [*,errW_none,errW_some] <;> rfl),by(with_reducible repeat(first | apply Kd.R_alloc | apply Kd.R_drewN | apply Kd.R_drew));exact HO_0.out,by repeat(first |(with_reducible first | exact HB.out | apply bwA | apply bwN | apply bw1) | exact HB.out),by repeat(first |(with_reducible first | exact HK.out | apply Kept.alloc | apply Kept.drewN | apply Kept.drew) | exact HK.out)⟩
  replace c11:=Bool.eq_false_iff.mpr c11
  subst c11
  have H1 :(q06_reach.l0 k1 l0 l1 a2 a3 (wrap64 (x10_1 + 1))) = some (r1,r2):=by rw [if_neg (show ¬ (false = true) by decide)] at H;exact H
  clear H
  have H:=H1
  clear H1
  have H':=Aside0.mk H
  clear H
  obtain ⟨Ao13,co13,eo13⟩:=Kd.R_slice HO_0.out
  subst eo13
  have p212 : 0 ≤(x10_1 : Int):=of_decide_eq_true (by first |(with_reducible assumption) | assumption)
  have q212 : x10_1 < (l0.length : Int):=of_decide_eq_true (by first |(with_reducible assumption) | assumption)
  obtain ⟨ad212,e212,hx212_0⟩:=Kd.at_int (Kd.R_reads' HO_0.out).2.2 x10_1 p212 q212
  cases e212
  replace p212:=eq_true p212
  replace q212:=eq_true q212
  have p213 : 0 ≤((ji7) : Int):=of_decide_eq_true (by first |(with_reducible assumption) | assumption)
  have q213 :(ji7) < (l1.length : Int):=of_decide_eq_true (by first |(with_reducible assumption) | assumption)
  obtain ⟨ad213,e213,hx213_0⟩:=Kd.at_bool (Kd.C_kept_now HR1.out HK.out) (ji7) p213 q213
  (try rw [← Nbq10.out] at hx213_0)
  cases e213
  replace p213:=eq_true p213
  replace q213:=eq_true q213
  go_wp2
  go_roundg k1
  case measure=>have:=HK1.out;omega
  exact⟨(wrap64 (x10_1 + 1)),(by first | rfl |(simp;done) |(simp [*];done)),H',⟨by have:=HK1.out;omega⟩,⟨by(with_reducible repeat(first | apply Kd.R_alloc | apply Kd.R_drewN | apply Kd.R_drew));exact HO_0.out⟩,⟨by repeat(first |(with_reducible first | exact HK.out | apply Kept.alloc | apply Kept.drewN | apply Kept.drew) | exact HK.out)⟩,⟨by repeat(first |(with_reducible first | exact HB.out | apply bwA | apply bwN | apply bw1) | exact HB.out)⟩⟩

def q06_Canonical.l0 : Nat → List (S39) → Int → List Bool → List Int → List (S39) → Int → Option ((List (S39)))
 | 0,_,_,_,_,_,_=>none
 | k + 1,x0,x5,x6,x7,x8,x9=>if x9 < (x7.length : Int) then(if 0≤x9 then(if 0 ≤(rd x7 x9) then(if(rd x7 x9) < (x0.length : Int) then(if((rd_T39 x0 (rd x7 x9)).f0) ≥ 4 then((q06_reach.f k x7 x6 x5 ((rd_T39 x0 (rd x7 x9)).f1)).bind fun bt226=>((q06_reach.f k bt226.1 x6 x5 ((rd_T39 x0 (rd x7 x9)).f2)).bind fun bt230=>(if x8.length < 5864062014805 then(q06_Canonical.l0 k x0 x5 x6 bt230.1 (x8 ++ [(⟨(rd_T39 x0 (rd x7 x9)).f0,bt226.2,bt230.2⟩ : S39)]) (wrap64 (x9 + 1))) else(none)))) else(if x8.length < 5864062014805 then(q06_Canonical.l0 k x0 x5 x6 x7 (x8 ++ [(⟨(rd_T39 x0 (rd x7 x9)).f0,(rd_T39 x0 (rd x7 x9)).f1,(rd_T39 x0 (rd x7 x9)).f2⟩ : S39)]) (wrap64 (x9 + 1))) else(none))) else(none)) else(none)) else(none)) else(some x8)
def q06_Canonical.f (k : Nat) (l0 : List (S39)) (a1 : Int) : Option ((List (S39))):=(q06_Equals.f k l0).bind fun t217=>(q06_Canonical.l0 k l0 (l0.length : Int) t217 (([a1] : List Int)) ([] : List (S39)) 0)
set_option maxHeartbeats 8000000 in
set_option maxRecDepth 100000 in
theorem q06_Canonical.calls (k : Nat) (A0 : Option Addr) (c0 : Nat) (l0 : List (S39)) (a1 : Int) (r : List (S39)) (w : World) (hr0 : Kd.C k39 w A0 l0.length l0) (hc0 : l0.length ≤ c0) (h : q06_Canonical.f k l0 a1 = some r) :
  Calls Try.prog 21 #[.slice A0 l0.length c0,.int .i64 a1] w fun e w'=>∃ v0_ : Value,e = .returned (v0_)∧Kd.R k39 39 w' w.heap.size (fun _=>True) v0_ r∧Below w.heap.size w w':=by
 have hu39:=Try.underlying39
 have HR0:=Aside0.mk hr0
 have HC0:=Aside0.mk hc0
 clear hr0 hc0
 have HB:=Aside0.mk (Below.refl w.heap.size w)
 have H :((q06_Equals.f k l0).bind fun t217=>(q06_Canonical.l0 k l0 (l0.length : Int) t217 (([a1] : List Int)) ([] : List (S39)) 0)) = some r:=h
 clear h
 replace H:=Option.bind_eq_some_iff.mp H
 obtain ⟨t217,A30,H⟩:=H
 replace H :(q06_Canonical.l0 k l0 (l0.length : Int) t217 (([a1] : List Int)) ([] : List (S39)) 0) = some r:=H
 have A3:=Aside0.mk A30
 clear A30
 obtain ⟨y220,hy220⟩ : ∃ y_ : List Int,y_ =(([a1] : List Int)):=⟨_,rfl⟩
 replace H :(q06_Canonical.l0 k l0 (l0.length : Int) t217 y220 ([] : List (S39)) 0) = some r:=by first |(rw [hy220];with_reducible exact H) |(have H2_:=(Option.bind_some _ _).symm.trans H;rw [hy220];with_reducible exact H2_) |(have H2_:=(Option.bind_some _ _).symm.trans H;with_reducible exact H2_) | with_reducible exact H |(rw [hy220];exact H) | exact H
 have Ny220:=Aside0.mk hy220
 clear hy220
 have H':=Aside0.mk H
 clear H
 go_enter Try.func21,Try.ntmps21
 go_wp2_with (first |((with_reducible refine gate_callee (f:=22) rfl ?_);refine goesL_ (some 16) rfl rfl Try.func22 (by kernel_rfl) rfl #[.slice A0 l0.length c0] rfl (by(try simp only [List.map_toArray,List.map_cons,List.map_nil]);first | done | rfl |(simp only [List.length_drop,List.length_take];rfl)) ?_;(with_reducible refine(q06_Equals.calls k _ _ l0 t217 _ ?side1 ?side2 A3.out).mono ?_);(case side1=>repeat(first | exact HR0.out |(with_reducible refine Kd.C_alloc ?_ _) |(with_reducible refine Kd.C_drewN ?_ _) |(with_reducible refine Kd.C_drew ?_)));(case side2=>exact HC0.out);rintro e w4 ⟨v218,rfl,ho0,hb⟩;refine⟨_,rfl,?_⟩;have n0_:=Aside0.mk (Kd.R_lower ho0 (bwZ (by repeat(first |(with_reducible first | exact HB.out | apply bwA | apply bwN | apply bw1) | exact HB.out))));have n1_:=Aside0.mk (bwT (by repeat(first |(with_reducible first | exact HB.out | apply bwA | apply bwN | apply bw1) | exact HB.out)) hb);clear HB;have HO219:=n0_;have HB:=n1_;clear n0_ n1_;(try clear hb);(try clear hb2);(try clear hk);(try clear hi);(try clear ho0)) |((with_reducible refine gate_dst (N:=18) rfl ?_);refine Kd.R_lit (Kd.int .i64) _ 3 ?hg (N:=18) ?hd (xs:=([a1] : List Int)) (inner:=[.int .i64 a1]) (ok:=fun _=>True) (okp:=fun _=>True) ?hr ?hp (fun _ hk=>hk) trivial (Below.refl _ _) (Nat.le_refl _) (by simp) ?_;(case hd=>rfl);(case hg=>rfl);(case hr=>first |(go_simp;done) |(go_simp;rfl));(case hp=>exact(Reps.one (show Kd.M (Kd.int .i64) _ _ _ a1 [.int .i64 a1] from rfl) (Reps.none _ _)));intro v221 w5 ho6 hb hg_ hnew_;clear hg_ hnew_;(first | rw [← Ny220.out] at ho6 |(simp only [Int.reduceToNat] at ho6;rw [← Ny220.out] at ho6));have n0_:=Aside0.mk (Kd.R_below (by(with_reducible repeat(first | apply Kd.R_alloc | apply Kd.R_drewN | apply Kd.R_drew));exact HO219.out) hb);have n1_:=Aside0.mk (Kd.R_lower ho6 (bwZ (by repeat(first |(with_reducible first | exact HB.out | apply bwA | apply bwN | apply bw1) | exact HB.out))));have n2_:=Aside0.mk (bwT (by repeat(first |(with_reducible first | exact HB.out | apply bwA | apply bwN | apply bw1) | exact HB.out)) hb);clear HO219;clear HB;have HO219:=n0_;have HO222:=n1_;have HB:=n2_;clear n0_ n1_ n2_;clear hb ho6))
 go_loopg [7,8,9] k (fun kq v7 v8 v9 w'=>∃ (x7_1 : List Int) (x8_1 : List (S39)) (x9_1 : Int),v9 = .int .i64 x9_1∧Aside0 (q06_Canonical.l0 kq l0 (l0.length : Int) t217 x7_1 x8_1 x9_1 = some r)∧Aside0 (kq≤k)∧Aside0 (Kd.R Kd.bool 4 w' w.heap.size (fun _=>True) v218 t217)∧Aside0 (Kd.R (Kd.int .i64) 3 w' w.heap.size (fun _=>True) v7 x7_1)∧Aside0 (Kd.R k39 39 w' w.heap.size (fun _=>True) v8 x8_1)∧Aside0 (Below w.heap.size w w'))
 case atStart=>exact⟨(y220),(([] : List (S39))),(0),(by first | rfl |(simp;done) |(simp [*];done)),H',⟨Nat.le_refl _⟩,⟨by(with_reducible repeat(first | apply Kd.R_alloc | apply Kd.R_drewN | apply Kd.R_drew));exact HO219.out⟩,⟨by(with_reducible repeat(first | apply Kd.R_alloc | apply Kd.R_drewN | apply Kd.R_drew));exact HO222.out⟩,⟨by first | exact Kd.R_nil _ _ _ _ _ | exact Kd.N_nil _ _ _ _ _ | exact Kd.V_nil _ _ _ _ _ | exact Kd.Q_nil _ _ _ _ _ | exact Kd.S_nil _ _ _ _ _⟩,⟨by repeat(first |(with_reducible first | exact HB.out | apply bwA | apply bwN | apply bw1) | exact HB.out)⟩⟩
 clear H'
 try clear c2
 try clear p2
 obtain ⟨x7_1,x8_1,x9_1,rfl,HA,HK1,HO_6,HO_7,HO_8,HB⟩:=hrel
 cases gk with
 | zero=>exact absurd HA.out (by simp [q06_Canonical.l0])
 | succ k1 =>
  have H:=HA.out
  clear HA
  simp only [q06_Canonical.l0] at H
  by_cases c7 : x9_1 < (x7_1.length : Int)
  rotate_left
  ·rw [if_neg c7] at H
   have c7b0 : decide (x9_1 < (x7_1.length : Int)) = false:=decide_eq_false c7
   clear c7
   obtain rfl:=Option.some.inj H
   obtain ⟨Ao32,co32,eo32⟩:=Kd.R_slice HO_7.out
   subst eo32
   go_wp2
   go_ret
   exact⟨_,by first | rfl |(simp [errW_none,errW_some] <;> rfl) |(simp [*,errW_none,errW_some] <;> rfl),by(with_reducible repeat(first | apply Kd.R_alloc | apply Kd.R_drewN | apply Kd.R_drew));exact HO_8.out,by repeat(first |(with_reducible first | exact HB.out | apply bwA | apply bwN | apply bw1) | exact HB.out)⟩
  rw [if_pos c7] at H
  have c7b0 : decide (x9_1 < (x7_1.length : Int)) = true:=decide_eq_true c7
  clear c7
  by_cases c8 : 0≤x9_1
  rotate_left
  ·rw [if_neg c8] at H
   exact absurd H (by simp)
  rw [if_pos c8] at H
  have c8b0 : decide (0≤x9_1) = true:=decide_eq_true c8
  clear c8
  by_cases c9 : 0 ≤(rd x7_1 x9_1)
  rotate_left
  ·rw [if_neg c9] at H
   exact absurd H (by simp)
  rw [if_pos c9] at H
  have c9b0 : decide (0 ≤(rd x7_1 x9_1)) = true:=decide_eq_true c9
  clear c9
  by_cases c10 :(rd x7_1 x9_1) < (l0.length : Int)
  rotate_left
  ·rw [if_neg c10] at H
   exact absurd H (by simp)
  rw [if_pos c10] at H
  have c10b0 : decide ((rd x7_1 x9_1) < (l0.length : Int)) = true:=decide_eq_true c10
  clear c10
  by_cases c11 :((rd_T39 l0 (rd x7_1 x9_1)).f0) ≥ 4
  rotate_left
  ·rw [if_neg c11] at H
   have c11b0 : decide (4 ≤((rd_T39 l0 (rd x7_1 x9_1)).f0)) = false:=decide_eq_false c11
   clear c11
   by_cases c27 : x8_1.length < 5864062014805
   rotate_left
   ·rw [if_neg c27] at H
    exact absurd H (by simp)
   rw [if_pos c27] at H
   have LMc27:=Aside0.mk c27
   clear c27
   obtain ⟨y237,hy237⟩ : ∃ y_ : List (S39),y_ =(x8_1 ++ [(⟨(rd_T39 l0 (rd x7_1 x9_1)).f0,(rd_T39 l0 (rd x7_1 x9_1)).f1,(rd_T39 l0 (rd x7_1 x9_1)).f2⟩ : S39)]):=⟨_,rfl⟩
   replace H :(q06_Canonical.l0 k1 l0 (l0.length : Int) t217 x7_1 y237 (wrap64 (x9_1 + 1))) = some r:=by first |(rw [hy237];with_reducible exact H) |(have H2_:=(Option.bind_some _ _).symm.trans H;rw [hy237];with_reducible exact H2_) |(have H2_:=(Option.bind_some _ _).symm.trans H;with_reducible exact H2_) | with_reducible exact H |(rw [hy237];exact H) | exact H
   have Ny237:=Aside0.mk hy237
   clear hy237
   have H':=Aside0.mk H
   clear H
   obtain ⟨Ao28,co28,eo28⟩:=Kd.R_slice HO_7.out
   subst eo28
   have p223 : 0 ≤(x9_1 : Int):=of_decide_eq_true (by first |(with_reducible assumption) | assumption)
   have q223 : x9_1 < (x7_1.length : Int):=of_decide_eq_true (by first |(with_reducible assumption) | assumption)
   obtain ⟨ad223,e223,hx223_0⟩:=Kd.at_int (Kd.R_reads' HO_7.out).2.2 x9_1 p223 q223
   cases e223
   replace p223:=eq_true p223
   replace q223:=eq_true q223
   have p224 : 0 ≤((rd x7_1 x9_1) : Int):=of_decide_eq_true (by first |(with_reducible assumption) | assumption)
   have q224 :(rd x7_1 x9_1) < (l0.length : Int):=of_decide_eq_true (by first |(with_reducible assumption) | assumption)
   obtain ⟨ad224,e224,hx224_0,hx224_1,hx224_2⟩:=at_T39 HR0.out (rd x7_1 x9_1) p224 q224
   cases e224
   replace hx224_0:=(HB.out.cell (World.block_lt_of_cell? w _ hx224_0)).trans hx224_0
   replace hx224_1:=(HB.out.cell (World.block_lt_of_cell? w _ hx224_1)).trans hx224_1
   replace hx224_2:=(HB.out.cell (World.block_lt_of_cell? w _ hx224_2)).trans hx224_2
   replace p224:=eq_true p224
   replace q224:=eq_true q224
   go_wp2_with (first |((with_reducible refine gate_dst (N:=10) rfl ?_);refine box_event ?hg (N:=10) ?hd (cs:=#[.int .i64 0,.int .i64 0,.int .i64 0]) (t:=39) ?hr ?_;(case hd=>rfl);(case hg=>rfl);(case hr=>first |(go_simp;done) |(go_simp;rfl));intro gb225 hg w29 hbox hb;have n0_:=Aside0.mk (Kd.R_below (by(with_reducible repeat(first | apply Kd.R_alloc | apply Kd.R_drewN | apply Kd.R_drew));exact HO_6.out) hb);have n1_:=Aside0.mk (Kd.R_below (by(with_reducible repeat(first | apply Kd.R_alloc | apply Kd.R_drewN | apply Kd.R_drew));exact HO_7.out) hb);have n2_:=Aside0.mk (Kd.R_below (Kd.R_elderB (by(with_reducible repeat(first | apply Kd.R_alloc | apply Kd.R_drewN | apply Kd.R_drew));exact HO_8.out) gb225 (Nat.le_of_eq hg.symm)) hb);have n3_:=Aside0.mk (bwT (by repeat(first |(with_reducible first | exact HB.out | apply bwA | apply bwN | apply bw1) | exact HB.out)) hb);have n4_:=Aside0.mk (hbox);have n5_:=Aside0.mk ((by rw [hg];exact(bwZ (by repeat(first |(with_reducible first | exact HB.out | apply bwA | apply bwN | apply bw1) | exact HB.out))) : w.heap.size≤gb225));have n6_:=Aside0.mk ((by rw [hg];exact(bwZ (by repeat(first |(with_reducible first | exact HB.out | apply bwA | apply bwN | apply bw1) | exact HB.out))) : w.heap.size≤gb225));clear HO_6;clear HO_7;clear HO_8;clear HB;have HO_6:=n0_;have HO_7:=n1_;have HO_8:=n2_;have HB:=n3_;have BK225:=n4_;have GW225:=n5_;have GE225:=n6_;clear n0_ n1_ n2_ n3_ n4_ n5_ n6_;clear hb hbox hg;have hcz30_0 : w29.cell? ⟨gb225,0,none⟩ = some (.int .i64 0):=(bkC BK225.out 0).trans rfl;have hcz30_1 : w29.cell? ⟨gb225,1,none⟩ = some (.int .i64 0):=(bkC BK225.out 1).trans rfl;have hcz30_2 : w29.cell? ⟨gb225,2,none⟩ = some (.int .i64 0):=(bkC BK225.out 2).trans rfl;have hfz30_0:=bkF BK225.out 0;have hfz30_1:=bkF BK225.out 1;have hfz30_2:=bkF BK225.out 2) |((with_reducible refine gate_builtin (b:=.append) (xs:=#[.tmp 58,.tmp 60]) rfl ?_);at_builtin;refine Kd.R_append k39 (w0:=w) w.heap.size rfl (.tmp 58) (.tmp 60) 22 39 (.agg #[(.int .i64 0),(.int .i64 0),(.int .i64 0)]) 24 rfl Try.underlying22 info39 rfl (by decide) (by omega) u8 x8_1 (⟨(rd_T39 l0 (rd x7_1 x9_1)).f0,(rd_T39 l0 (rd x7_1 x9_1)).f1,(rd_T39 l0 (rd x7_1 x9_1)).f2⟩ : S39) [.int .i64 ((rd_T39 l0 (rd x7_1 x9_1)).f0),.int .i64 ((rd_T39 l0 (rd x7_1 x9_1)).f1),.int .i64 ((rd_T39 l0 (rd x7_1 x9_1)).f2)] (fun k_=>k_≠gb225) (fun _=>False) rfl (by first |(go_simp;done) |(go_simp;rfl)) ?aP (fun _ hk=>hk.elim) ?aF ?aO ?aB ?aS ?aL ?_;(case aP=>exact k39_mkM _ _ _ (⟨(rd_T39 l0 (rd x7_1 x9_1)).f0,(rd_T39 l0 (rd x7_1 x9_1)).f1,(rd_T39 l0 (rd x7_1 x9_1)).f2⟩ : S39));(case aB=>exact(by repeat(first |(with_reducible first | exact HB.out | apply bwA | apply bwN | apply bw1 | refine bwS ?_ GE225.out) | exact HB.out)));(case aF=>exact(fun k_ hk=>Kd.freshB (g:=gb225) (o:=.cells #[.int .i64 ((rd_T39 l0 (rd x7_1 x9_1)).f0),.int .i64 ((rd_T39 l0 (rd x7_1 x9_1)).f1),.int .i64 ((rd_T39 l0 (rd x7_1 x9_1)).f2)] 39 (0,0)) (by(with_reducible repeat(first | refine bkN ?_ _ | refine bkD ?_ | refine bkA ?_ _));refine blk_put (cs:=#[.int .i64 ((rd_T39 l0 (rd x7_1 x9_1)).f0),.int .i64 ((rd_T39 l0 (rd x7_1 x9_1)).f1),.int .i64 0]) ?_ 2 _ rfl;(with_reducible repeat(first | refine bkN ?_ _ | refine bkD ?_ | refine bkA ?_ _));refine blk_put (cs:=#[.int .i64 ((rd_T39 l0 (rd x7_1 x9_1)).f0),.int .i64 0,.int .i64 0]) ?_ 1 _ rfl;(with_reducible repeat(first | refine bkN ?_ _ | refine bkD ?_ | refine bkA ?_ _));refine blk_put (cs:=#[.int .i64 0,.int .i64 0,.int .i64 0]) ?_ 0 _ rfl;(with_reducible repeat(first | refine bkN ?_ _ | refine bkD ?_ | refine bkA ?_ _));exact BK225.out) k_ hk));(case aO=>exact(by(with_reducible repeat(first | apply Kd.R_alloc | apply Kd.R_drewN | apply Kd.R_drew));exact Kd.R_mono (Kd.R_far (p:=⟨gb225,2,none⟩) (Kd.R_far (p:=⟨gb225,1,none⟩) (Kd.R_far (p:=⟨gb225,0,none⟩) (Kd.R_mono HO_8.out (fun k_ hk=>(⟨hk,hk.2⟩ : _∧k_≠gb225))) (fun _ hk=>hk.2) (.int .i64 ((rd_T39 l0 (rd x7_1 x9_1)).f0))) (fun _ hk=>hk.2) (.int .i64 ((rd_T39 l0 (rd x7_1 x9_1)).f1))) (fun _ hk=>hk.2) (.int .i64 ((rd_T39 l0 (rd x7_1 x9_1)).f2))) (fun _ hk=>hk.1.2)));(case aS=>exact(bwZ (by repeat(first |(with_reducible first | exact HB.out | apply bwA | apply bwN | apply bw1 | refine bwS ?_ GE225.out) | exact HB.out))));(case aL=>have:=LMc27.out;omega);intro v238 w31 ho hb hg hat;rw [← Ny237.out] at ho;have n0_:=Aside0.mk (Kd.R_over' (by(with_reducible repeat(first | apply Kd.R_alloc | apply Kd.R_drewN | apply Kd.R_drew));exact(Kd.R_mono (Kd.R_far (p:=⟨gb225,2,none⟩) (Kd.R_far (p:=⟨gb225,1,none⟩) (Kd.R_far (p:=⟨gb225,0,none⟩) (Kd.R_types HO_6.out BK225.out (by decide)) (fun _ hk=>hk.2) (.int .i64 ((rd_T39 l0 (rd x7_1 x9_1)).f0))) (fun _ hk=>hk.2) (.int .i64 ((rd_T39 l0 (rd x7_1 x9_1)).f1))) (fun _ hk=>hk.2) (.int .i64 ((rd_T39 l0 (rd x7_1 x9_1)).f2))) (fun _ h_=>h_.1))) (Kd.R_typed (by(with_reducible repeat(first | apply Kd.R_alloc | apply Kd.R_drewN | apply Kd.R_drew));exact(Kd.R_mono (Kd.R_far (p:=⟨gb225,2,none⟩) (Kd.R_far (p:=⟨gb225,1,none⟩) (Kd.R_far (p:=⟨gb225,0,none⟩) (Kd.R_mono HO_8.out (fun k_ hk=>(⟨hk,hk.2⟩ : _∧k_≠gb225))) (fun _ hk=>hk.2) (.int .i64 ((rd_T39 l0 (rd x7_1 x9_1)).f0))) (fun _ hk=>hk.2) (.int .i64 ((rd_T39 l0 (rd x7_1 x9_1)).f1))) (fun _ hk=>hk.2) (.int .i64 ((rd_T39 l0 (rd x7_1 x9_1)).f2))) (fun _ h_=>h_.1)))) (by decide) hg);have n1_:=Aside0.mk (Kd.R_over' (by(with_reducible repeat(first | apply Kd.R_alloc | apply Kd.R_drewN | apply Kd.R_drew));exact(Kd.R_mono (Kd.R_far (p:=⟨gb225,2,none⟩) (Kd.R_far (p:=⟨gb225,1,none⟩) (Kd.R_far (p:=⟨gb225,0,none⟩) (Kd.R_types HO_7.out BK225.out (by decide)) (fun _ hk=>hk.2) (.int .i64 ((rd_T39 l0 (rd x7_1 x9_1)).f0))) (fun _ hk=>hk.2) (.int .i64 ((rd_T39 l0 (rd x7_1 x9_1)).f1))) (fun _ hk=>hk.2) (.int .i64 ((rd_T39 l0 (rd x7_1 x9_1)).f2))) (fun _ h_=>h_.1))) (Kd.R_typed (by(with_reducible repeat(first | apply Kd.R_alloc | apply Kd.R_drewN | apply Kd.R_drew));exact(Kd.R_mono (Kd.R_far (p:=⟨gb225,2,none⟩) (Kd.R_far (p:=⟨gb225,1,none⟩) (Kd.R_far (p:=⟨gb225,0,none⟩) (Kd.R_mono HO_8.out (fun k_ hk=>(⟨hk,hk.2⟩ : _∧k_≠gb225))) (fun _ hk=>hk.2) (.int .i64 ((rd_T39 l0 (rd x7_1 x9_1)).f0))) (fun _ hk=>hk.2) (.int .i64 ((rd_T39 l0 (rd x7_1 x9_1)).f1))) (fun _ hk=>hk.2) (.int .i64 ((rd_T39 l0 (rd x7_1 x9_1)).f2))) (fun _ h_=>h_.1)))) (by decide) hg);have n2_:=Aside0.mk (blk_grown (g:=gb225) (o:=.cells #[.int .i64 ((rd_T39 l0 (rd x7_1 x9_1)).f0),.int .i64 ((rd_T39 l0 (rd x7_1 x9_1)).f1),.int .i64 ((rd_T39 l0 (rd x7_1 x9_1)).f2)] 39 (0,0)) (by(with_reducible repeat(first | refine bkN ?_ _ | refine bkD ?_ | refine bkA ?_ _));refine blk_put (cs:=#[.int .i64 ((rd_T39 l0 (rd x7_1 x9_1)).f0),.int .i64 ((rd_T39 l0 (rd x7_1 x9_1)).f1),.int .i64 0]) ?_ 2 _ rfl;(with_reducible repeat(first | refine bkN ?_ _ | refine bkD ?_ | refine bkA ?_ _));refine blk_put (cs:=#[.int .i64 ((rd_T39 l0 (rd x7_1 x9_1)).f0),.int .i64 0,.int .i64 0]) ?_ 1 _ rfl;(with_reducible repeat(first | refine bkN ?_ _ | refine bkD ?_ | refine bkA ?_ _));refine blk_put (cs:=#[.int .i64 0,.int .i64 0,.int .i64 0]) ?_ 0 _ rfl;(with_reducible repeat(first | refine bkN ?_ _ | refine bkD ?_ | refine bkA ?_ _));exact BK225.out) hg (Kd.R_away HO_8.out (fun _ hk=>hk.2)));have n3_:=Aside0.mk (hb);have n4_:=Aside0.mk (ho);clear HO_6;clear HO_7;clear BK225;clear HB;clear HO_8;have HO_6:=n0_;have HO_7:=n1_;have BK225:=n2_;have HB:=n3_;have HO239:=n4_;clear n0_ n1_ n2_ n3_ n4_;clear ho hb hg hat))
   go_roundg k1
   case measure=>have:=HK1.out;omega
   exact⟨(x7_1),(y237),(wrap64 (x9_1 + 1)),(by first | rfl |(simp;done) |(simp [*];done)),H',⟨by have:=HK1.out;omega⟩,⟨by(with_reducible repeat(first | apply Kd.R_alloc | apply Kd.R_drewN | apply Kd.R_drew));exact HO_6.out⟩,⟨by(with_reducible repeat(first | apply Kd.R_alloc | apply Kd.R_drewN | apply Kd.R_drew));exact HO_7.out⟩,⟨by(with_reducible repeat(first | apply Kd.R_alloc | apply Kd.R_drewN | apply Kd.R_drew));exact Kd.R_mono HO239.out (fun _ hk=>trivial)⟩,⟨by repeat(first |(with_reducible first | exact HB.out | apply bwA | apply bwN | apply bw1 | refine bwS ?_ GE225.out) | exact HB.out)⟩⟩
  rw [if_pos c11] at H
  have c11b0 : decide (4 ≤((rd_T39 l0 (rd x7_1 x9_1)).f0)) = true:=decide_eq_true c11
  clear c11
  replace H:=Option.bind_eq_some_iff.mp H
  obtain ⟨⟨t226,t229⟩,A120,H⟩:=H
  replace H :((q06_reach.f k1 t226 t217 (l0.length : Int) ((rd_T39 l0 (rd x7_1 x9_1)).f2)).bind fun bt230=>(if x8_1.length < 5864062014805 then(q06_Canonical.l0 k1 l0 (l0.length : Int) t217 bt230.1 (x8_1 ++ [(⟨(rd_T39 l0 (rd x7_1 x9_1)).f0,t229,bt230.2⟩ : S39)]) (wrap64 (x9_1 + 1))) else(none))) = some r:=H
  have A12:=Aside0.mk A120
  clear A120
  replace H:=Option.bind_eq_some_iff.mp H
  obtain ⟨⟨t230,t233⟩,A130,H⟩:=H
  replace H :(if x8_1.length < 5864062014805 then(q06_Canonical.l0 k1 l0 (l0.length : Int) t217 t230 (x8_1 ++ [(⟨(rd_T39 l0 (rd x7_1 x9_1)).f0,t229,t233⟩ : S39)]) (wrap64 (x9_1 + 1))) else(none)) = some r:=H
  have A13:=Aside0.mk A130
  clear A130
  by_cases c14 : x8_1.length < 5864062014805
  rotate_left
  ·rw [if_neg c14] at H
   exact absurd H (by simp)
  rw [if_pos c14] at H
  have LMc14:=Aside0.mk c14
  clear c14
  obtain ⟨y234,hy234⟩ : ∃ y_ : List (S39),y_ =(x8_1 ++ [(⟨(rd_T39 l0 (rd x7_1 x9_1)).f0,t229,t233⟩ : S39)]):=⟨_,rfl⟩
  replace H :(q06_Canonical.l0 k1 l0 (l0.length : Int) t217 t230 y234 (wrap64 (x9_1 + 1))) = some r:=by first |(rw [hy234];with_reducible exact H) |(have H2_:=(Option.bind_some _ _).symm.trans H;rw [hy234];with_reducible exact H2_) |(have H2_:=(Option.bind_some _ _).symm.trans H;with_reducible exact H2_) | with_reducible exact H |(rw [hy234];exact H) | exact H
  have Ny234:=Aside0.mk hy234
  clear hy234
  have H':=Aside0.mk H
  clear H
  obtain ⟨Ao15,co15,eo15⟩:=Kd.R_slice HO_7.out
  subst eo15
  have p223 : 0 ≤(x9_1 : Int):=of_decide_eq_true (by first |(with_reducible assumption) | assumption)
  have q223 : x9_1 < (x7_1.length : Int):=of_decide_eq_true (by first |(with_reducible assumption) | assumption)
  obtain ⟨ad223,e223,hx223_0⟩:=Kd.at_int (Kd.R_reads' HO_7.out).2.2 x9_1 p223 q223
  cases e223
  replace p223:=eq_true p223
  replace q223:=eq_true q223
  have p224 : 0 ≤((rd x7_1 x9_1) : Int):=of_decide_eq_true (by first |(with_reducible assumption) | assumption)
  have q224 :(rd x7_1 x9_1) < (l0.length : Int):=of_decide_eq_true (by first |(with_reducible assumption) | assumption)
  obtain ⟨ad224,e224,hx224_0,hx224_1,hx224_2⟩:=at_T39 HR0.out (rd x7_1 x9_1) p224 q224
  cases e224
  replace hx224_0:=(HB.out.cell (World.block_lt_of_cell? w _ hx224_0)).trans hx224_0
  replace hx224_1:=(HB.out.cell (World.block_lt_of_cell? w _ hx224_1)).trans hx224_1
  replace hx224_2:=(HB.out.cell (World.block_lt_of_cell? w _ hx224_2)).trans hx224_2
  replace p224:=eq_true p224
  replace q224:=eq_true q224
  go_wp2_with (first |((with_reducible refine gate_dst (N:=10) rfl ?_);refine box_event ?hg (N:=10) ?hd (cs:=#[.int .i64 0,.int .i64 0,.int .i64 0]) (t:=39) ?hr ?_;(case hd=>rfl);(case hg=>rfl);(case hr=>first |(go_simp;done) |(go_simp;rfl));intro gb225 hg w16 hbox hb;have n0_:=Aside0.mk (Kd.R_below (by(with_reducible repeat(first | apply Kd.R_alloc | apply Kd.R_drewN | apply Kd.R_drew));exact HO_6.out) hb);have n1_:=Aside0.mk (Kd.R_below (by(with_reducible repeat(first | apply Kd.R_alloc | apply Kd.R_drewN | apply Kd.R_drew));exact HO_7.out) hb);have n2_:=Aside0.mk (Kd.R_below (Kd.R_elderB (by(with_reducible repeat(first | apply Kd.R_alloc | apply Kd.R_drewN | apply Kd.R_drew));exact HO_8.out) gb225 (Nat.le_of_eq hg.symm)) hb);have n3_:=Aside0.mk (bwT (by repeat(first |(with_reducible first | exact HB.out | apply bwA | apply bwN | apply bw1) | exact HB.out)) hb);have n4_:=Aside0.mk (hbox);have n5_:=Aside0.mk ((by rw [hg];exact(bwZ (by repeat(first |(with_reducible first | exact HB.out | apply bwA | apply bwN | apply bw1) | exact HB.out))) : w.heap.size≤gb225));have n6_:=Aside0.mk ((by rw [hg];exact(bwZ (by repeat(first |(with_reducible first | exact HB.out | apply bwA | apply bwN | apply bw1) | exact HB.out))) : w.heap.size≤gb225));clear HO_6;clear HO_7;clear HO_8;clear HB;have HO_6:=n0_;have HO_7:=n1_;have HO_8:=n2_;have HB:=n3_;have BK225:=n4_;have GW225:=n5_;have GE225:=n6_;clear n0_ n1_ n2_ n3_ n4_ n5_ n6_;clear hb hbox hg;have hcz17_0 : w16.cell? ⟨gb225,0,none⟩ = some (.int .i64 0):=(bkC BK225.out 0).trans rfl;have hcz17_1 : w16.cell? ⟨gb225,1,none⟩ = some (.int .i64 0):=(bkC BK225.out 1).trans rfl;have hcz17_2 : w16.cell? ⟨gb225,2,none⟩ = some (.int .i64 0):=(bkC BK225.out 2).trans rfl;have hfz17_0:=bkF BK225.out 0;have hfz17_1:=bkF BK225.out 1;have hfz17_2:=bkF BK225.out 2) |((with_reducible refine gate_store (t:=39) (p:=10) rfl ?_);refine store_event (t:=39) (p:=10) (v:=?vo_w18) (w1:=(((w16.setCell ⟨gb225,0,none⟩ (.int .i64 ((rd_T39 l0 (rd x7_1 x9_1)).f0))).setCell ⟨gb225,1,none⟩ (.int .i64 ((rd_T39 l0 (rd x7_1 x9_1)).f1))).setCell ⟨gb225,2,none⟩ (.int .i64 ((rd_T39 l0 (rd x7_1 x9_1)).f2)))) ?hg ?ho ?hn ?hr ?_;(case ho=>rfl);(case hg=>rfl);(case hn=>rfl);(case hr=>first |(go_simp;done) |(go_simp;rfl));intro w18 hw;have n0_ : Aside0 (Kd.R Kd.bool 4 w18 w.heap.size (fun _=>True) v218 t217):=⟨(by rw [hw];exact(by(with_reducible repeat(first | apply Kd.R_alloc | apply Kd.R_drewN | apply Kd.R_drew));exact Kd.R_mono (Kd.R_far (p:=⟨gb225,2,none⟩) (Kd.R_far (p:=⟨gb225,1,none⟩) (Kd.R_far (p:=⟨gb225,0,none⟩) (Kd.R_types HO_6.out BK225.out (by decide)) (fun _ hk=>hk.2) (.int .i64 ((rd_T39 l0 (rd x7_1 x9_1)).f0))) (fun _ hk=>hk.2) (.int .i64 ((rd_T39 l0 (rd x7_1 x9_1)).f1))) (fun _ hk=>hk.2) (.int .i64 ((rd_T39 l0 (rd x7_1 x9_1)).f2))) (fun _ hk=>trivial)))⟩;have n1_ : Aside0 (Kd.R (Kd.int .i64) 3 w18 w.heap.size (fun _=>True) (.slice (some ad223) x7_1.length co15) x7_1):=⟨(by rw [hw];exact(by(with_reducible repeat(first | apply Kd.R_alloc | apply Kd.R_drewN | apply Kd.R_drew));exact Kd.R_mono (Kd.R_far (p:=⟨gb225,2,none⟩) (Kd.R_far (p:=⟨gb225,1,none⟩) (Kd.R_far (p:=⟨gb225,0,none⟩) (Kd.R_types HO_7.out BK225.out (by decide)) (fun _ hk=>hk.2) (.int .i64 ((rd_T39 l0 (rd x7_1 x9_1)).f0))) (fun _ hk=>hk.2) (.int .i64 ((rd_T39 l0 (rd x7_1 x9_1)).f1))) (fun _ hk=>hk.2) (.int .i64 ((rd_T39 l0 (rd x7_1 x9_1)).f2))) (fun _ hk=>trivial)))⟩;have n2_ : Aside0 (Kd.R k39 39 w18 w.heap.size (fun k_=>k_≠gb225) u8 x8_1):=⟨(by rw [hw];exact(by(with_reducible repeat(first | apply Kd.R_alloc | apply Kd.R_drewN | apply Kd.R_drew));exact Kd.R_mono (Kd.R_far (p:=⟨gb225,2,none⟩) (Kd.R_far (p:=⟨gb225,1,none⟩) (Kd.R_far (p:=⟨gb225,0,none⟩) (Kd.R_mono HO_8.out (fun k_ hk=>(⟨hk,hk.2⟩ : _∧k_≠gb225))) (fun _ hk=>hk.2) (.int .i64 ((rd_T39 l0 (rd x7_1 x9_1)).f0))) (fun _ hk=>hk.2) (.int .i64 ((rd_T39 l0 (rd x7_1 x9_1)).f1))) (fun _ hk=>hk.2) (.int .i64 ((rd_T39 l0 (rd x7_1 x9_1)).f2))) (fun _ hk=>hk.1.2)))⟩;have n3_ : Aside0 (w18.heap[gb225]? = some (.cells #[.int .i64 ((rd_T39 l0 (rd x7_1 x9_1)).f0),.int .i64 ((rd_T39 l0 (rd x7_1 x9_1)).f1),.int .i64 ((rd_T39 l0 (rd x7_1 x9_1)).f2)] 39 (0,0))):=⟨(by rw [hw];exact(by(with_reducible repeat(first | refine bkN ?_ _ | refine bkD ?_ | refine bkA ?_ _));refine blk_put (cs:=#[.int .i64 ((rd_T39 l0 (rd x7_1 x9_1)).f0),.int .i64 ((rd_T39 l0 (rd x7_1 x9_1)).f1),.int .i64 0]) ?_ 2 _ rfl;(with_reducible repeat(first | refine bkN ?_ _ | refine bkD ?_ | refine bkA ?_ _));refine blk_put (cs:=#[.int .i64 ((rd_T39 l0 (rd x7_1 x9_1)).f0),.int .i64 0,.int .i64 0]) ?_ 1 _ rfl;(with_reducible repeat(first | refine bkN ?_ _ | refine bkD ?_ | refine bkA ?_ _));refine blk_put (cs:=#[.int .i64 0,.int .i64 0,.int .i64 0]) ?_ 0 _ rfl;(with_reducible repeat(first | refine bkN ?_ _ | refine bkD ?_ | refine bkA ?_ _));exact BK225.out))⟩;have n4_ : Aside0 (Below w.heap.size w w18):=⟨(by rw [hw];exact(by repeat(first |(with_reducible first | exact HB.out | apply bwA | apply bwN | apply bw1 | refine bwS ?_ GE225.out) | exact HB.out)))⟩;clear hw;clear HO_6;clear HO_7;clear HO_8;clear BK225;clear HB;have HO_6:=n0_;have HO_7:=n1_;have HO_8:=n2_;have BK225:=n3_;have HB:=n4_;clear n0_ n1_ n2_ n3_ n4_;have hcz19_0 : w18.cell? ⟨gb225,0,none⟩ = some (.int .i64 ((rd_T39 l0 (rd x7_1 x9_1)).f0)):=(bkC BK225.out 0).trans rfl;have hcz19_1 : w18.cell? ⟨gb225,1,none⟩ = some (.int .i64 ((rd_T39 l0 (rd x7_1 x9_1)).f1)):=(bkC BK225.out 1).trans rfl;have hcz19_2 : w18.cell? ⟨gb225,2,none⟩ = some (.int .i64 ((rd_T39 l0 (rd x7_1 x9_1)).f2)):=(bkC BK225.out 2).trans rfl;have hfz19_0:=bkF BK225.out 0;have hfz19_1:=bkF BK225.out 1;have hfz19_2:=bkF BK225.out 2;obtain ⟨Ao20,co20,eo20⟩:=Kd.R_slice HO_6.out;subst eo20) |((with_reducible refine gate_callee (f:=43) rfl ?_);refine goesL_ (some 41) rfl rfl Try.func43 (by kernel_rfl) rfl #[.slice (some ad223) x7_1.length co15,.slice Ao20 t217.length co20,.int .i64 (l0.length : Int),.int .i64 ((rd_T39 l0 (rd x7_1 x9_1)).f1)] rfl (by(try simp only [List.map_toArray,List.map_cons,List.map_nil]);first | done | rfl |(simp only [List.length_drop,List.length_take];rfl)) ?_;(with_reducible refine(q06_reach.calls k1 (fun k_=>some k_ =(.slice (some ad223) x7_1.length co15 : Value).ownBlock) (.slice (some ad223) x7_1.length co15) x7_1 _ _ t217 (l0.length : Int) ((rd_T39 l0 (rd x7_1 x9_1)).f1) t226 t229 w _ ?side1 ?side2 ?side3 ?side4 A12.out).mono ?_);(case side1=>repeat(first |(with_reducible first | exact HB.out | apply bwA | apply bwN | apply bw1 | refine bwS ?_ GE225.out) | exact HB.out));(case side2=>exact Kd.R_tight rfl HO_7.out);(case side3=>exact Kd.C_kept_own ((Kd.R_apart' HO_6.out (Kd.R_typed HO_7.out) (by decide))) (fun k_ hk_ hs_=>(hk_.2) hs_));(case side4=>exact(Kd.R_reads' HO_6.out).2.1);rintro e w21 ⟨v227,rfl,ho0,hb,hkp⟩;refine⟨_,rfl,?_⟩;have n0_:=Aside0.mk (Kd.R_mono (ok':=fun k_=>True) (Kd.R_keptB ((Kd.R_apart' HO_6.out (Kd.R_typed HO_7.out) (by decide))) hkp (fun k_ hk_ hs_=>(hk_.2) hs_)) (fun k_ hk_=>trivial));have n1_:=Aside0.mk (Kd.R_mono (ok':=fun k_=>k_≠gb225) (Kd.R_keptB ((Kd.R_apart' HO_8.out (Kd.R_typed HO_7.out) (by decide))) hkp (fun k_ hk_ hs_=>(hk_.2) hs_)) (fun k_ hk_=>hk_.1.1));have n2_:=Aside0.mk (blk_kept (by(with_reducible repeat(first | refine bkN ?_ _ | refine bkD ?_ | refine bkA ?_ _));exact BK225.out) hkp (fun hs_=>(fun e_=>(Kd.R_ne HO_7.out BK225.out (by decide)) e_) hs_));have n3_:=Aside0.mk (Kd.R_mono (ok':=fun k_=>True) ho0 (fun k_ hk_=>trivial));have n4_:=Aside0.mk (hb);clear HO_6;clear HO_8;clear BK225;clear HB;clear HO_7;have HO_6:=n0_;have HO_8:=n1_;have BK225:=n2_;have HO228:=n3_;have HB:=n4_;clear n0_ n1_ n2_ n3_ n4_;(try clear hb);(try clear hkp);(try clear ho0);have hcz22_0 : w21.cell? ⟨gb225,0,none⟩ = some (.int .i64 ((rd_T39 l0 (rd x7_1 x9_1)).f0)):=(bkC BK225.out 0).trans rfl;have hcz22_1 : w21.cell? ⟨gb225,1,none⟩ = some (.int .i64 ((rd_T39 l0 (rd x7_1 x9_1)).f1)):=(bkC BK225.out 1).trans rfl;have hcz22_2 : w21.cell? ⟨gb225,2,none⟩ = some (.int .i64 ((rd_T39 l0 (rd x7_1 x9_1)).f2)):=(bkC BK225.out 2).trans rfl;have hfz22_0:=bkF BK225.out 0;have hfz22_1:=bkF BK225.out 1;have hfz22_2:=bkF BK225.out 2;obtain ⟨Ao23,co23,eo23⟩:=Kd.R_slice HO228.out;subst eo23) |((with_reducible refine gate_callee (f:=43) rfl ?_);refine goesL_ (some 50) rfl rfl Try.func43 (by kernel_rfl) rfl #[.slice Ao23 t226.length co23,.slice Ao20 t217.length co20,.int .i64 (l0.length : Int),.int .i64 ((rd_T39 l0 (rd x7_1 x9_1)).f2)] rfl (by(try simp only [List.map_toArray,List.map_cons,List.map_nil]);first | done | rfl |(simp only [List.length_drop,List.length_take];rfl)) ?_;(with_reducible refine(q06_reach.calls k1 (fun k_=>some k_ =(.slice Ao23 t226.length co23 : Value).ownBlock) (.slice Ao23 t226.length co23) t226 _ _ t217 (l0.length : Int) ((rd_T39 l0 (rd x7_1 x9_1)).f2) t230 t233 w _ ?side1 ?side2 ?side3 ?side4 A13.out).mono ?_);(case side1=>repeat(first |(with_reducible first | exact HB.out | apply bwA | apply bwN | apply bw1 | refine bwS ?_ GE225.out) | exact HB.out));(case side2=>exact Kd.R_tight rfl HO228.out);(case side3=>exact Kd.C_kept_own ((Kd.R_apart' HO_6.out (Kd.R_typed HO228.out) (by decide))) (fun k_ hk_ hs_=>(hk_.2) hs_));(case side4=>exact(Kd.R_reads' HO_6.out).2.1);rintro e w24 ⟨v231,rfl,ho0,hb,hkp⟩;refine⟨_,rfl,?_⟩;have n0_:=Aside0.mk (Kd.R_mono (ok':=fun k_=>True) (Kd.R_keptB ((Kd.R_apart' HO_6.out (Kd.R_typed HO228.out) (by decide))) hkp (fun k_ hk_ hs_=>(hk_.2) hs_)) (fun k_ hk_=>trivial));have n1_:=Aside0.mk (Kd.R_mono (ok':=fun k_=>k_≠gb225) (Kd.R_keptB ((Kd.R_apart' HO_8.out (Kd.R_typed HO228.out) (by decide))) hkp (fun k_ hk_ hs_=>(hk_.2) hs_)) (fun k_ hk_=>hk_.1.1));have n2_:=Aside0.mk (blk_kept (by(with_reducible repeat(first | refine bkN ?_ _ | refine bkD ?_ | refine bkA ?_ _));exact BK225.out) hkp (fun hs_=>(fun e_=>(Kd.R_ne HO228.out BK225.out (by decide)) e_) hs_));have n3_:=Aside0.mk (Kd.R_mono (ok':=fun k_=>True) ho0 (fun k_ hk_=>trivial));have n4_:=Aside0.mk (hb);clear HO_6;clear HO_8;clear BK225;clear HB;clear HO228;have HO_6:=n0_;have HO_8:=n1_;have BK225:=n2_;have HO232:=n3_;have HB:=n4_;clear n0_ n1_ n2_ n3_ n4_;(try clear hb);(try clear hkp);(try clear ho0);have hcz25_0 : w24.cell? ⟨gb225,0,none⟩ = some (.int .i64 ((rd_T39 l0 (rd x7_1 x9_1)).f0)):=(bkC BK225.out 0).trans rfl;have hcz25_1 : w24.cell? ⟨gb225,1,none⟩ = some (.int .i64 ((rd_T39 l0 (rd x7_1 x9_1)).f1)):=(bkC BK225.out 1).trans rfl;have hcz25_2 : w24.cell? ⟨gb225,2,none⟩ = some (.int .i64 ((rd_T39 l0 (rd x7_1 x9_1)).f2)):=(bkC BK225.out 2).trans rfl;have hfz25_0:=bkF BK225.out 0;have hfz25_1:=bkF BK225.out 1;have hfz25_2:=bkF BK225.out 2) |((with_reducible refine gate_builtin (b:=.append) (xs:=#[.tmp 58,.tmp 60]) rfl ?_);at_builtin;refine Kd.R_append k39 (w0:=w) w.heap.size rfl (.tmp 58) (.tmp 60) 22 39 (.agg #[(.int .i64 0),(.int .i64 0),(.int .i64 0)]) 24 rfl Try.underlying22 info39 rfl (by decide) (by omega) u8 x8_1 (⟨(rd_T39 l0 (rd x7_1 x9_1)).f0,t229,t233⟩ : S39) [.int .i64 ((rd_T39 l0 (rd x7_1 x9_1)).f0),.int .i64 t229,.int .i64 t233] (fun k_=>k_≠gb225) (fun _=>False) rfl (by first |(go_simp;done) |(go_simp;rfl)) ?aP (fun _ hk=>hk.elim) ?aF ?aO ?aB ?aS ?aL ?_;(case aP=>exact k39_mkM _ _ _ (⟨(rd_T39 l0 (rd x7_1 x9_1)).f0,t229,t233⟩ : S39));(case aB=>exact(by repeat(first |(with_reducible first | exact HB.out | apply bwA | apply bwN | apply bw1 | refine bwS ?_ GE225.out) | exact HB.out)));(case aF=>exact(fun k_ hk=>Kd.freshB (g:=gb225) (o:=.cells #[.int .i64 ((rd_T39 l0 (rd x7_1 x9_1)).f0),.int .i64 t229,.int .i64 t233] 39 (0,0)) (by(with_reducible repeat(first | refine bkN ?_ _ | refine bkD ?_ | refine bkA ?_ _));refine blk_put (cs:=#[.int .i64 ((rd_T39 l0 (rd x7_1 x9_1)).f0),.int .i64 t229,.int .i64 ((rd_T39 l0 (rd x7_1 x9_1)).f2)]) ?_ 2 _ rfl;(with_reducible repeat(first | refine bkN ?_ _ | refine bkD ?_ | refine bkA ?_ _));refine blk_put (cs:=#[.int .i64 ((rd_T39 l0 (rd x7_1 x9_1)).f0),.int .i64 ((rd_T39 l0 (rd x7_1 x9_1)).f1),.int .i64 ((rd_T39 l0 (rd x7_1 x9_1)).f2)]) ?_ 1 _ rfl;(with_reducible repeat(first | refine bkN ?_ _ | refine bkD ?_ | refine bkA ?_ _));refine blk_put (cs:=#[.int .i64 ((rd_T39 l0 (rd x7_1 x9_1)).f0),.int .i64 ((rd_T39 l0 (rd x7_1 x9_1)).f1),.int .i64 ((rd_T39 l0 (rd x7_1 x9_1)).f2)]) ?_ 0 _ rfl;(with_reducible repeat(first | refine bkN ?_ _ | refine bkD ?_ | refine bkA ?_ _));exact BK225.out) k_ hk));(case aO=>exact(by(with_reducible repeat(first | apply Kd.R_alloc | apply Kd.R_drewN | apply Kd.R_drew));exact Kd.R_mono (Kd.R_far (p:=⟨gb225,2,none⟩) (Kd.R_far (p:=⟨gb225,1,none⟩) (Kd.R_far (p:=⟨gb225,0,none⟩) (Kd.R_mono HO_8.out (fun k_ hk=>(⟨hk,hk⟩ : _∧k_≠gb225))) (fun _ hk=>hk.2) (.int .i64 ((rd_T39 l0 (rd x7_1 x9_1)).f0))) (fun _ hk=>hk.2) (.int .i64 t229)) (fun _ hk=>hk.2) (.int .i64 t233)) (fun _ hk=>hk.1)));(case aS=>exact(bwZ (by repeat(first |(with_reducible first | exact HB.out | apply bwA | apply bwN | apply bw1 | refine bwS ?_ GE225.out) | exact HB.out))));(case aL=>have:=LMc14.out;omega);intro v235 w26 ho hb hg hat;rw [← Ny234.out] at ho;have n0_:=Aside0.mk (Kd.R_over' (by(with_reducible repeat(first | apply Kd.R_alloc | apply Kd.R_drewN | apply Kd.R_drew));exact(Kd.R_mono (Kd.R_far (p:=⟨gb225,2,none⟩) (Kd.R_far (p:=⟨gb225,1,none⟩) (Kd.R_far (p:=⟨gb225,0,none⟩) (Kd.R_types HO_6.out BK225.out (by decide)) (fun _ hk=>hk.2) (.int .i64 ((rd_T39 l0 (rd x7_1 x9_1)).f0))) (fun _ hk=>hk.2) (.int .i64 t229)) (fun _ hk=>hk.2) (.int .i64 t233)) (fun _ h_=>h_.1))) (Kd.R_typed (by(with_reducible repeat(first | apply Kd.R_alloc | apply Kd.R_drewN | apply Kd.R_drew));exact(Kd.R_mono (Kd.R_far (p:=⟨gb225,2,none⟩) (Kd.R_far (p:=⟨gb225,1,none⟩) (Kd.R_far (p:=⟨gb225,0,none⟩) (Kd.R_mono HO_8.out (fun k_ hk=>(⟨hk,hk⟩ : _∧k_≠gb225))) (fun _ hk=>hk.2) (.int .i64 ((rd_T39 l0 (rd x7_1 x9_1)).f0))) (fun _ hk=>hk.2) (.int .i64 t229)) (fun _ hk=>hk.2) (.int .i64 t233)) (fun _ h_=>h_.1)))) (by decide) hg);have n1_:=Aside0.mk (blk_grown (g:=gb225) (o:=.cells #[.int .i64 ((rd_T39 l0 (rd x7_1 x9_1)).f0),.int .i64 t229,.int .i64 t233] 39 (0,0)) (by(with_reducible repeat(first | refine bkN ?_ _ | refine bkD ?_ | refine bkA ?_ _));refine blk_put (cs:=#[.int .i64 ((rd_T39 l0 (rd x7_1 x9_1)).f0),.int .i64 t229,.int .i64 ((rd_T39 l0 (rd x7_1 x9_1)).f2)]) ?_ 2 _ rfl;(with_reducible repeat(first | refine bkN ?_ _ | refine bkD ?_ | refine bkA ?_ _));refine blk_put (cs:=#[.int .i64 ((rd_T39 l0 (rd x7_1 x9_1)).f0),.int .i64 ((rd_T39 l0 (rd x7_1 x9_1)).f1),.int .i64 ((rd_T39 l0 (rd x7_1 x9_1)).f2)]) ?_ 1 _ rfl;(with_reducible repeat(first | refine bkN ?_ _ | refine bkD ?_ | refine bkA ?_ _));refine blk_put (cs:=#[.int .i64 ((rd_T39 l0 (rd x7_1 x9_1)).f0),.int .i64 ((rd_T39 l0 (rd x7_1 x9_1)).f1),.int .i64 ((rd_T39 l0 (rd x7_1 x9_1)).f2)]) ?_ 0 _ rfl;(with_reducible repeat(first | refine bkN ?_ _ | refine bkD ?_ | refine bkA ?_ _));exact BK225.out) hg (Kd.R_away HO_8.out (fun _ hk=>hk)));have n2_:=Aside0.mk (Kd.R_over' (by(with_reducible repeat(first | apply Kd.R_alloc | apply Kd.R_drewN | apply Kd.R_drew));exact(Kd.R_mono (Kd.R_far (p:=⟨gb225,2,none⟩) (Kd.R_far (p:=⟨gb225,1,none⟩) (Kd.R_far (p:=⟨gb225,0,none⟩) (Kd.R_types HO232.out BK225.out (by decide)) (fun _ hk=>hk.2) (.int .i64 ((rd_T39 l0 (rd x7_1 x9_1)).f0))) (fun _ hk=>hk.2) (.int .i64 t229)) (fun _ hk=>hk.2) (.int .i64 t233)) (fun _ h_=>h_.1))) (Kd.R_typed (by(with_reducible repeat(first | apply Kd.R_alloc | apply Kd.R_drewN | apply Kd.R_drew));exact(Kd.R_mono (Kd.R_far (p:=⟨gb225,2,none⟩) (Kd.R_far (p:=⟨gb225,1,none⟩) (Kd.R_far (p:=⟨gb225,0,none⟩) (Kd.R_mono HO_8.out (fun k_ hk=>(⟨hk,hk⟩ : _∧k_≠gb225))) (fun _ hk=>hk.2) (.int .i64 ((rd_T39 l0 (rd x7_1 x9_1)).f0))) (fun _ hk=>hk.2) (.int .i64 t229)) (fun _ hk=>hk.2) (.int .i64 t233)) (fun _ h_=>h_.1)))) (by decide) hg);have n3_:=Aside0.mk (hb);have n4_:=Aside0.mk (ho);clear HO_6;clear BK225;clear HO232;clear HB;clear HO_8;have HO_6:=n0_;have BK225:=n1_;have HO232:=n2_;have HB:=n3_;have HO236:=n4_;clear n0_ n1_ n2_ n3_ n4_;clear ho hb hg hat))
  go_roundg k1
  case measure=>have:=HK1.out;omega
  exact⟨(t230),(y234),(wrap64 (x9_1 + 1)),(by first | rfl |(simp;done) |(simp [*];done)),H',⟨by have:=HK1.out;omega⟩,⟨by(with_reducible repeat(first | apply Kd.R_alloc | apply Kd.R_drewN | apply Kd.R_drew));exact HO_6.out⟩,⟨by(with_reducible repeat(first | apply Kd.R_alloc | apply Kd.R_drewN | apply Kd.R_drew));exact HO232.out⟩,⟨by(with_reducible repeat(first | apply Kd.R_alloc | apply Kd.R_drewN | apply Kd.R_drew));exact Kd.R_mono HO236.out (fun _ hk=>trivial)⟩,⟨by repeat(first |(with_reducible first | exact HB.out | apply bwA | apply bwN | apply bw1 | refine bwS ?_ GE225.out) | exact HB.out)⟩⟩

theorem eqA89 (d : Nat) (w : World) (x0 y0 : Int) (x1 y1 : Int) (x2 y2 : Bool) :
  (Op.equalIn (d + 2) 89 (.agg #[.int .i64 x0,.int .i64 x1,.bool x2]) (.agg #[.int .i64 y0,.int .i64 y1,.bool y2])).run Try.prog w = .ok (x0 == y0 && (x1 == y1 && (x2 == y2))) w:=by
 refine eqA_of Try.underlying89 (by kernel_rfl) ?_
 refine eqf_cons (by rfl) (by go_simp;rfl) (by go_simp;rfl) (by go_simp) ?_
 refine eqf_cons (by rfl) (by go_simp;rfl) (by go_simp;rfl) (by go_simp) ?_
 exact eqf_last (by rfl) (by go_simp;rfl) (by go_simp;rfl) (by go_simp)

attribute [local go_sem high] eqA89
def q06_asked.l0 : Nat → List (S89) → Int → Int → Int → Bool → Option ((List (S89)) × Int)
 | 0,_,_,_,_,_=>none
 | k + 1,x0,x6,x620000,x620001,x620002=>if x6 < (x0.length : Int) then(if 0≤x6 then(if(((rd_T89 x0 x6).f0) == x620000 && (((rd_T89 x0 x6).f1) == x620001 && (((rd_T89 x0 x6).f2) == x620002))) = true then(some (x0,x6)) else(q06_asked.l0 k x0 (wrap64 (x6 + 1)) x620000 x620001 x620002)) else(none)) else(if x0.length < 5864062014805 then(some ((x0 ++ [(⟨x620000,x620001,x620002⟩ : S89)]),(x0.length : Int))) else(none))
def q06_asked.f (k : Nat) (l0 : List (S89)) (a1_0 : Int) (a1_1 : Int) (a1_2 : Bool) : Option ((List (S89))×Int):=q06_asked.l0 k l0 0 a1_0 a1_1 a1_2
set_option maxHeartbeats 8000000 in
set_option maxRecDepth 100000 in
theorem q06_asked.calls (k : Nat) (P0_ : Nat → Prop) (u9000_ : Value) (l0 : List (S89)) (a1_0 : Int) (a1_1 : Int) (a1_2 : Bool) (r1 : List (S89)) (r2 : Int) (w0 w : World) (hB : Below w0.heap.size w0 w) (ho0 : Kd.R k89 89 w w0.heap.size P0_ u9000_ l0) (h : q06_asked.f k l0 a1_0 a1_1 a1_2 = some (r1, r2)) :
  Calls Try.prog 58 #[u9000_,.agg #[.int .i64 a1_0,.int .i64 a1_1,.bool a1_2]] w fun e w'=>∃ v0_ : Value,e = .returned (.tuple #[v0_,.int .i64 r2])∧Kd.R k89 89 w' w0.heap.size (fun k_=>(P0_ k_∨w.heap.size≤k_)) v0_ r1∧Below w0.heap.size w0 w'∧Kept w w' (fun k_=>P0_ k_):=by
 have hu89:=Try.underlying89
 have HO0:=Aside0.mk (show Kd.R k89 89 w w0.heap.size (fun k_=>(P0_ k_∨w.heap.size≤k_)) u9000_ l0 from Kd.R_mono ho0 (fun k_ hk=>(.inl hk)))
 have HK:=Aside0.mk (Kept.refl w (fun k_=>P0_ k_))
 have HW0:=Aside0.mk hB.size
 have HB:=Aside0.mk hB
 clear hB
 have H :(q06_asked.l0 k l0 0 a1_0 a1_1 a1_2) = some (r1,r2):=h
 clear h
 have H':=Aside0.mk H
 clear H
 go_enter Try.func58,Try.ntmps58
 go_wp2_with (first |((with_reducible refine gate_dst (N:=3) rfl ?_);refine box_event ?hg (N:=3) ?hd (cs:=#[.int .i64 a1_0,.int .i64 a1_1,.bool a1_2]) (t:=89) ?hr ?_;(case hd=>rfl);(case hg=>rfl);(case hr=>first |(go_simp;done) |(go_simp;rfl));intro gb619 hg w3 hbox hb;have n0_:=Aside0.mk (Kd.R_below (Kd.R_elderB (by(with_reducible repeat(first | apply Kd.R_alloc | apply Kd.R_drewN | apply Kd.R_drew));exact HO0.out) gb619 (Nat.le_of_eq hg.symm)) hb);have n1_:=Aside0.mk (Kept.below (S:=(fun k_=>P0_ k_)) (by repeat(first |(with_reducible first | exact HK.out | apply Kept.alloc | apply Kept.drewN | apply Kept.drew) | exact HK.out)) hb);have n2_:=Aside0.mk (bwT (by repeat(first |(with_reducible first | exact HB.out | apply bwA | apply bwN | apply bw1) | exact HB.out)) hb);have n3_:=Aside0.mk (hbox);have n4_:=Aside0.mk ((by rw [hg];exact(by first | exact HK.out.1 | exact(show Kept w _ (fun k_=>P0_ k_) from by repeat(first |(with_reducible first | exact HK.out | apply Kept.alloc | apply Kept.drewN | apply Kept.drew) | exact HK.out)).1) : w.heap.size≤gb619));have n5_:=Aside0.mk ((by rw [hg];exact(bwZ (by repeat(first |(with_reducible first | exact HB.out | apply bwA | apply bwN | apply bw1) | exact HB.out))) : w0.heap.size≤gb619));clear HO0;clear HK;clear HB;have HO0:=n0_;have HK:=n1_;have HB:=n2_;have BK619:=n3_;have GW619:=n4_;have GE619:=n5_;clear n0_ n1_ n2_ n3_ n4_ n5_;clear hb hbox hg))
 repeat(go_quiet (first |((with_reducible refine gate_dst (N:=3) rfl ?_);refine box_event ?hg (N:=3) ?hd (cs:=#[.int .i64 a1_0,.int .i64 a1_1,.bool a1_2]) (t:=89) ?hr ?_;(case hd=>rfl);(case hg=>rfl);(case hr=>first |(go_simp;done) |(go_simp;rfl));intro gb619 hg w3 hbox hb;have n0_:=Aside0.mk (Kd.R_below (Kd.R_elderB (by(with_reducible repeat(first | apply Kd.R_alloc | apply Kd.R_drewN | apply Kd.R_drew));exact HO0.out) gb619 (Nat.le_of_eq hg.symm)) hb);have n1_:=Aside0.mk (Kept.below (S:=(fun k_=>P0_ k_)) (by repeat(first |(with_reducible first | exact HK.out | apply Kept.alloc | apply Kept.drewN | apply Kept.drew) | exact HK.out)) hb);have n2_:=Aside0.mk (bwT (by repeat(first |(with_reducible first | exact HB.out | apply bwA | apply bwN | apply bw1) | exact HB.out)) hb);have n3_:=Aside0.mk (hbox);have n4_:=Aside0.mk ((by rw [hg];exact(by first | exact HK.out.1 | exact(show Kept w _ (fun k_=>P0_ k_) from by repeat(first |(with_reducible first | exact HK.out | apply Kept.alloc | apply Kept.drewN | apply Kept.drew) | exact HK.out)).1) : w.heap.size≤gb619));have n5_:=Aside0.mk ((by rw [hg];exact(bwZ (by repeat(first |(with_reducible first | exact HB.out | apply bwA | apply bwN | apply bw1) | exact HB.out))) : w0.heap.size≤gb619));clear HO0;clear HK;clear HB;have HO0:=n0_;have HK:=n1_;have HB:=n2_;have BK619:=n3_;have GW619:=n4_;have GE619:=n5_;clear n0_ n1_ n2_ n3_ n4_ n5_;clear hb hbox hg));try go_wp2_with (first |((with_reducible refine gate_dst (N:=3) rfl ?_);refine box_event ?hg (N:=3) ?hd (cs:=#[.int .i64 a1_0,.int .i64 a1_1,.bool a1_2]) (t:=89) ?hr ?_;(case hd=>rfl);(case hg=>rfl);(case hr=>first |(go_simp;done) |(go_simp;rfl));intro gb619 hg w3 hbox hb;have n0_:=Aside0.mk (Kd.R_below (Kd.R_elderB (by(with_reducible repeat(first | apply Kd.R_alloc | apply Kd.R_drewN | apply Kd.R_drew));exact HO0.out) gb619 (Nat.le_of_eq hg.symm)) hb);have n1_:=Aside0.mk (Kept.below (S:=(fun k_=>P0_ k_)) (by repeat(first |(with_reducible first | exact HK.out | apply Kept.alloc | apply Kept.drewN | apply Kept.drew) | exact HK.out)) hb);have n2_:=Aside0.mk (bwT (by repeat(first |(with_reducible first | exact HB.out | apply bwA | apply bwN | apply bw1) | exact HB.out)) hb);have n3_:=Aside0.mk (hbox);have n4_:=Aside0.mk ((by rw [hg];exact(by first | exact HK.out.1 | exact(show Kept w _ (fun k_=>P0_ k_) from by repeat(first |(with_reducible first | exact HK.out | apply Kept.alloc | apply Kept.drewN | apply Kept.drew) | exact HK.out)).1) : w.heap.size≤gb619));have n5_:=Aside0.mk ((by rw [hg];exact(bwZ (by repeat(first |(with_reducible first | exact HB.out | apply bwA | apply bwN | apply bw1) | exact HB.out))) : w0.heap.size≤gb619));clear HO0;clear HK;clear HB;have HO0:=n0_;have HK:=n1_;have HB:=n2_;have BK619:=n3_;have GW619:=n4_;have GE619:=n5_;clear n0_ n1_ n2_ n3_ n4_ n5_;clear hb hbox hg)))
 go_loopg [6] k (fun kq v6 w'=>∃ (x6_1 : Int),v6 = .int .i64 x6_1∧Aside0 (q06_asked.l0 kq l0 x6_1 a1_0 a1_1 a1_2 = some (r1,r2))∧Aside0 (kq≤k)∧Aside0 (Kd.R k89 89 w' w0.heap.size (fun k_=>(P0_ k_∨w.heap.size≤k_)∧k_≠gb619) u9000_ l0)∧Aside0 (w'.heap[gb619]? = some (.cells #[.int .i64 a1_0,.int .i64 a1_1,.bool a1_2] 89 (0,0)))∧Aside0 (Kept w w' (fun k_=>P0_ k_))∧Aside0 (Below w0.heap.size w0 w'))
 case atStart=>exact⟨(0),(by first | rfl |(simp;done) |(simp [*];done)),H',⟨Nat.le_refl _⟩,⟨by(with_reducible repeat(first | apply Kd.R_alloc | apply Kd.R_drewN | apply Kd.R_drew));exact HO0.out⟩,⟨by(with_reducible repeat(first | refine bkN ?_ _ | refine bkD ?_ | refine bkA ?_ _));exact BK619.out⟩,⟨by repeat(first |(with_reducible first | exact HK.out | apply Kept.alloc | apply Kept.drewN | apply Kept.drew | refine Kept.setCell ?_ (.inr GW619.out) _) | exact HK.out)⟩,⟨by repeat(first |(with_reducible first | exact HB.out | apply bwA | apply bwN | apply bw1 | refine bwS ?_ GE619.out) | exact HB.out)⟩⟩
 clear H'
 try clear p2
 obtain ⟨x6_1,rfl,HA,HK1,HO_0,BK619,HK,HB⟩:=hrel
 cases gk with
 | zero=>exact absurd HA.out (by simp [q06_asked.l0])
 | succ k1 =>
  have H:=HA.out
  clear HA
  simp only [q06_asked.l0] at H
  by_cases c4 : x6_1 < (l0.length : Int)
  ·rw [if_pos c4] at H
   have c4b0 : decide (x6_1 < (l0.length : Int)) = true:=decide_eq_true c4
   clear c4
   by_cases c5 : 0≤x6_1
   rotate_left
   ·rw [if_neg c5] at H
    exact absurd H (by simp)
   rw [if_pos c5] at H
   have c5b0 : decide (0≤x6_1) = true:=decide_eq_true c5
   clear c5
   by_cases c6 :(((rd_T89 l0 x6_1).f0) == a1_0 && (((rd_T89 l0 x6_1).f1) == a1_1 && (((rd_T89 l0 x6_1).f2) == a1_2))) = true
   ·rw [if_pos c6] at H
    have c6b0 :(((rd_T89 l0 x6_1).f0) == a1_0 && (((rd_T89 l0 x6_1).f1) == a1_1 && (((rd_T89 l0 x6_1).f2) == a1_2))) = true:=c6
    (try(have c6b1 : decide (((rd_T89 l0 x6_1).f0) = a1_0 && (((rd_T89 l0 x6_1).f1) == a1_1 && (((rd_T89 l0 x6_1).f2) == a1_2))) = true:=by simpa using c6))
    (try(have c6b2 :(((rd_T89 l0 x6_1).f0) == a1_0 && (((rd_T89 l0 x6_1).f1) == a1_1 && (((rd_T89 l0 x6_1).f2) == a1_2))) = true:=by simpa using c6))
    clear c6
    simp only [Option.some.injEq,Prod.mk.injEq] at H
    obtain ⟨rfl,rfl⟩:=H
    obtain ⟨Ao7,co7,eo7⟩:=Kd.R_slice HO_0.out
    subst eo7
    have p620 : 0 ≤(x6_1 : Int):=of_decide_eq_true (by first |(with_reducible assumption) | assumption)
    have q620 : x6_1 < (l0.length : Int):=of_decide_eq_true (by first |(with_reducible assumption) | assumption)
    obtain ⟨ad620,e620,hx620_0,hx620_1,hx620_2⟩:=at_T89 (Kd.R_reads' HO_0.out).2.2 x6_1 p620 q620
    cases e620
    replace p620:=eq_true p620
    replace q620:=eq_true q620
    have hcz8_0 : wr.cell? ⟨gb619,0,none⟩ = some (.int .i64 a1_0):=(bkC BK619.out 0).trans rfl
    have hcz8_1 : wr.cell? ⟨gb619,1,none⟩ = some (.int .i64 a1_1):=(bkC BK619.out 1).trans rfl
    have hcz8_2 : wr.cell? ⟨gb619,2,none⟩ = some (.bool a1_2):=(bkC BK619.out 2).trans rfl
    have hfz8_0:=bkF BK619.out 0
    have hfz8_1:=bkF BK619.out 1
    have hfz8_2:=bkF BK619.out 2
    go_wp2
    repeat(go_quiet (fail);try go_wp2)
    go_ret2
    exact⟨_,by first | rfl |(simp [errW_none,errW_some] <;> rfl) |(simp [*,errW_none,errW_some] <;> rfl),by(with_reducible repeat(first | apply Kd.R_alloc | apply Kd.R_drewN | apply Kd.R_drew));exact Kd.R_mono HO_0.out (fun _ hk=>hk.1),by repeat(first |(with_reducible first | exact HB.out | apply bwA | apply bwN | apply bw1 | refine bwS ?_ GE619.out) | exact HB.out),by repeat(first |(with_reducible first | exact HK.out | apply Kept.alloc | apply Kept.drewN | apply Kept.drew | refine Kept.setCell ?_ (.inr GW619.out) _) | exact HK.out)⟩
   rw [if_neg c6] at H
   have c6b0 :(((rd_T89 l0 x6_1).f0) == a1_0 && (((rd_T89 l0 x6_1).f1) == a1_1 && (((rd_T89 l0 x6_1).f2) == a1_2))) = false:=by simpa using c6
   (try(have c6b1 : decide (((rd_T89 l0 x6_1).f0) = a1_0 && (((rd_T89 l0 x6_1).f1) == a1_1 && (((rd_T89 l0 x6_1).f2) == a1_2))) = false:=by simpa using c6))
   (try(have c6b2 :(((rd_T89 l0 x6_1).f0) == a1_0 && (((rd_T89 l0 x6_1).f1) == a1_1 && (((rd_T89 l0 x6_1).f2) == a1_2))) = false:=by simpa using c6))
   (try(have c6b3 : ¬ (((rd_T89 l0 x6_1).f0) = a1_0 && (((rd_T89 l0 x6_1).f1) == a1_1 && (((rd_T89 l0 x6_1).f2) == a1_2))):=by simpa using c6))
   clear c6
   have H':=Aside0.mk H
   clear H
   obtain ⟨Ao9,co9,eo9⟩:=Kd.R_slice HO_0.out
   subst eo9
   have p620 : 0 ≤(x6_1 : Int):=of_decide_eq_true (by first |(with_reducible assumption) | assumption)
   have q620 : x6_1 < (l0.length : Int):=of_decide_eq_true (by first |(with_reducible assumption) | assumption)
   obtain ⟨ad620,e620,hx620_0,hx620_1,hx620_2⟩:=at_T89 (Kd.R_reads' HO_0.out).2.2 x6_1 p620 q620
   cases e620
   replace p620:=eq_true p620
   replace q620:=eq_true q620
   have hcz10_0 : wr.cell? ⟨gb619,0,none⟩ = some (.int .i64 a1_0):=(bkC BK619.out 0).trans rfl
   have hcz10_1 : wr.cell? ⟨gb619,1,none⟩ = some (.int .i64 a1_1):=(bkC BK619.out 1).trans rfl
   have hcz10_2 : wr.cell? ⟨gb619,2,none⟩ = some (.bool a1_2):=(bkC BK619.out 2).trans rfl
   have hfz10_0:=bkF BK619.out 0
   have hfz10_1:=bkF BK619.out 1
   have hfz10_2:=bkF BK619.out 2
   go_wp2
   repeat(go_quiet (fail);try go_wp2)
   go_roundg k1
   case measure=>have:=HK1.out;omega
   exact⟨(wrap64 (x6_1 + 1)),(by first | rfl |(simp;done) |(simp [*];done)),H',⟨by have:=HK1.out;omega⟩,⟨by(with_reducible repeat(first | apply Kd.R_alloc | apply Kd.R_drewN | apply Kd.R_drew));exact HO_0.out⟩,⟨by(with_reducible repeat(first | refine bkN ?_ _ | refine bkD ?_ | refine bkA ?_ _));exact BK619.out⟩,⟨by repeat(first |(with_reducible first | exact HK.out | apply Kept.alloc | apply Kept.drewN | apply Kept.drew | refine Kept.setCell ?_ (.inr GW619.out) _) | exact HK.out)⟩,⟨by repeat(first |(with_reducible first | exact HB.out | apply bwA | apply bwN | apply bw1 | refine bwS ?_ GE619.out) | exact HB.out)⟩⟩
  rw [if_neg c4] at H
  have c4b0 : decide (x6_1 < (l0.length : Int)) = false:=decide_eq_false c4
  clear c4
  by_cases c11 : l0.length < 5864062014805
  rotate_left
  ·rw [if_neg c11] at H
   exact absurd H (by simp)
  rw [if_pos c11] at H
  have LMc11:=Aside0.mk c11
  clear c11
  obtain ⟨y621,hy621⟩ : ∃ y_ : List (S89),y_ =(l0 ++ [(⟨a1_0,a1_1,a1_2⟩ : S89)]):=⟨_,rfl⟩
  replace H :(some (y621,(l0.length : Int))) = some (r1,r2):=by first |(rw [hy621];with_reducible exact H) |(have H2_:=(Option.bind_some _ _).symm.trans H;rw [hy621];with_reducible exact H2_) |(have H2_:=(Option.bind_some _ _).symm.trans H;with_reducible exact H2_) | with_reducible exact H |(rw [hy621];exact H) | exact H
  have Ny621:=Aside0.mk hy621
  clear hy621
  simp only [Option.some.injEq,Prod.mk.injEq] at H
  obtain ⟨rfl,rfl⟩:=H
  obtain ⟨Ao12,co12,eo12⟩:=Kd.R_slice HO_0.out
  subst eo12
  have hcz13_0 : wr.cell? ⟨gb619,0,none⟩ = some (.int .i64 a1_0):=(bkC BK619.out 0).trans rfl
  have hcz13_1 : wr.cell? ⟨gb619,1,none⟩ = some (.int .i64 a1_1):=(bkC BK619.out 1).trans rfl
  have hcz13_2 : wr.cell? ⟨gb619,2,none⟩ = some (.bool a1_2):=(bkC BK619.out 2).trans rfl
  have hfz13_0:=bkF BK619.out 0
  have hfz13_1:=bkF BK619.out 1
  have hfz13_2:=bkF BK619.out 2
  go_wp2_with (first |((with_reducible refine gate_builtin (b:=.append) (xs:=#[.tmp 21,.tmp 23]) rfl ?_);at_builtin;refine Kd.R_append k89 (w0:=w0) w0.heap.size rfl (.tmp 21) (.tmp 23) 90 89 (.agg #[(.int .i64 0),(.int .i64 0),(.bool false)]) 24 rfl Try.underlying90 info89 rfl (by decide) (by omega) (.slice Ao12 l0.length co12) l0 (⟨a1_0,a1_1,a1_2⟩ : S89) [.int .i64 a1_0,.int .i64 a1_1,.bool a1_2] (fun k_=>(P0_ k_∨w.heap.size≤k_)∧k_≠gb619) (fun _=>False) rfl rfl ?aP (fun _ hk=>hk.elim) ?aF ?aO ?aB ?aS ?aL ?_;(case aP=>exact k89_mkM _ _ _ (⟨a1_0,a1_1,a1_2⟩ : S89));(case aB=>exact(by repeat(first |(with_reducible first | exact HB.out | apply bwA | apply bwN | apply bw1 | refine bwS ?_ GE619.out) | exact HB.out)));(case aF=>exact(fun k_ hk=>⟨(.inr (Nat.le_trans (by first | exact HK.out.1 | exact(show Kept w _ (fun k_=>P0_ k_) from by repeat(first |(with_reducible first | exact HK.out | apply Kept.alloc | apply Kept.drewN | apply Kept.drew | refine Kept.setCell ?_ (.inr GW619.out) _) | exact HK.out)).1) hk)),Kd.freshB (g:=gb619) (o:=.cells #[.int .i64 a1_0,.int .i64 a1_1,.bool a1_2] 89 (0,0)) (by(with_reducible repeat(first | refine bkN ?_ _ | refine bkD ?_ | refine bkA ?_ _));exact BK619.out) k_ hk⟩));(case aO=>exact(by(with_reducible repeat(first | apply Kd.R_alloc | apply Kd.R_drewN | apply Kd.R_drew));exact HO_0.out));(case aS=>exact(bwZ (by repeat(first |(with_reducible first | exact HB.out | apply bwA | apply bwN | apply bw1 | refine bwS ?_ GE619.out) | exact HB.out))));(case aL=>have:=LMc11.out;omega);intro v622 w14 ho hb hg hat;rw [← Ny621.out] at ho;have n0_:=Aside0.mk (blk_grown (g:=gb619) (o:=.cells #[.int .i64 a1_0,.int .i64 a1_1,.bool a1_2] 89 (0,0)) (by(with_reducible repeat(first | refine bkN ?_ _ | refine bkD ?_ | refine bkA ?_ _));exact BK619.out) hg (Kd.R_away HO_0.out (fun _ hk=>hk.2)));have n1_:=Aside0.mk (hb);have n2_:=Aside0.mk (Kept.of_grown (S:=(fun k_=>P0_ k_)) hg (by repeat(first |(with_reducible first | exact HK.out | apply Kept.alloc | apply Kept.drewN | apply Kept.drew | refine Kept.setCell ?_ (.inr GW619.out) _) | exact HK.out)) (fun k_ e_=>(HO_0.out.1 k_ e_).1));have n3_:=Aside0.mk (ho);clear BK619;clear HB;clear HK;clear HO_0;have BK619:=n0_;have HB:=n1_;have HK:=n2_;have HO623:=n3_;clear n0_ n1_ n2_ n3_;clear ho hb hg hat))
  repeat(go_quiet (first |((with_reducible refine gate_builtin (b:=.append) (xs:=#[.tmp 21,.tmp 23]) rfl ?_);at_builtin;refine Kd.R_append k89 (w0:=w0) w0.heap.size rfl (.tmp 21) (.tmp 23) 90 89 (.agg #[(.int .i64 0),(.int .i64 0),(.bool false)]) 24 rfl Try.underlying90 info89 rfl (by decide) (by omega) (.slice Ao12 l0.length co12) l0 (⟨a1_0,a1_1,a1_2⟩ : S89) [.int .i64 a1_0,.int .i64 a1_1,.bool a1_2] (fun k_=>(P0_ k_∨w.heap.size≤k_)∧k_≠gb619) (fun _=>False) rfl rfl ?aP (fun _ hk=>hk.elim) ?aF ?aO ?aB ?aS ?aL ?_;(case aP=>exact k89_mkM _ _ _ (⟨a1_0,a1_1,a1_2⟩ : S89));(case aB=>exact(by repeat(first |(with_reducible first | exact HB.out | apply bwA | apply bwN | apply bw1 | refine bwS ?_ GE619.out) | exact HB.out)));(case aF=>exact(fun k_ hk=>⟨(.inr (Nat.le_trans (by first | exact HK.out.1 | exact(show Kept w _ (fun k_=>P0_ k_) from by repeat(first |(with_reducible first | exact HK.out | apply Kept.alloc | apply Kept.drewN | apply Kept.drew | refine Kept.setCell ?_ (.inr GW619.out) _) | exact HK.out)).1) hk)),Kd.freshB (g:=gb619) (o:=.cells #[.int .i64 a1_0,.int .i64 a1_1,.bool a1_2] 89 (0,0)) (by(with_reducible repeat(first | refine bkN ?_ _ | refine bkD ?_ | refine bkA ?_ _));exact BK619.out) k_ hk⟩));(case aO=>exact(by(with_reducible repeat(first | apply Kd.R_alloc | apply Kd.R_drewN | apply Kd.R_drew));exact HO_0.out));(case aS=>exact(bwZ (by repeat(first |(with_reducible first | exact HB.out | apply bwA | apply bwN | apply bw1 | refine bwS ?_ GE619.out) | exact HB.out))));(case aL=>have:=LMc11.out;omega);intro v622 w14 ho hb hg hat;rw [← Ny621.out] at ho;have n0_:=Aside0.mk (blk_grown (g:=gb619) (o:=.cells #[.int .i64 a1_0,.int .i64 a1_1,.bool a1_2] 89 (0,0)) (by(with_reducible repeat(first | refine bkN ?_ _ | refine bkD ?_ | refine bkA ?_ _));exact BK619.out) hg (Kd.R_away HO_0.out (fun _ hk=>hk.2)));have n1_:=Aside0.mk (hb);have n2_:=Aside0.mk (Kept.of_grown (S:=(fun k_=>P0_ k_)) hg (by repeat(first |(with_reducible first | exact HK.out | apply Kept.alloc | apply Kept.drewN | apply Kept.drew | refine Kept.setCell ?_ (.inr GW619.out) _) | exact HK.out)) (fun k_ e_=>(HO_0.out.1 k_ e_).1));have n3_:=Aside0.mk (ho);clear BK619;clear HB;clear HK;clear HO_0;have BK619:=n0_;have HB:=n1_;have HK:=n2_;have HO623:=n3_;clear n0_ n1_ n2_ n3_;clear ho hb hg hat));try go_wp2_with (first |((with_reducible refine gate_builtin (b:=.append) (xs:=#[.tmp 21,.tmp 23]) rfl ?_);at_builtin;refine Kd.R_append k89 (w0:=w0) w0.heap.size rfl (.tmp 21) (.tmp 23) 90 89 (.agg #[(.int .i64 0),(.int .i64 0),(.bool false)]) 24 rfl Try.underlying90 info89 rfl (by decide) (by omega) (.slice Ao12 l0.length co12) l0 (⟨a1_0,a1_1,a1_2⟩ : S89) [.int .i64 a1_0,.int .i64 a1_1,.bool a1_2] (fun k_=>(P0_ k_∨w.heap.size≤k_)∧k_≠gb619) (fun _=>False) rfl rfl ?aP (fun _ hk=>hk.elim) ?aF ?aO ?aB ?aS ?aL ?_;(case aP=>exact k89_mkM _ _ _ (⟨a1_0,a1_1,a1_2⟩ : S89));(case aB=>exact(by repeat(first |(with_reducible first | exact HB.out | apply bwA | apply bwN | apply bw1 | refine bwS ?_ GE619.out) | exact HB.out)));(case aF=>exact(fun k_ hk=>⟨(.inr (Nat.le_trans (by first | exact HK.out.1 | exact(show Kept w _ (fun k_=>P0_ k_) from by repeat(first |(with_reducible first | exact HK.out | apply Kept.alloc | apply Kept.drewN | apply Kept.drew | refine Kept.setCell ?_ (.inr GW619.out) _) | exact HK.out)).1) hk)),Kd.freshB (g:=gb619) (o:=.cells #[.int .i64 a1_0,.int .i64 a1_1,.bool a1_2] 89 (0,0)) (by(with_reducible repeat(first | refine bkN ?_ _ | refine bkD ?_ | refine bkA ?_ _));exact BK619.out) k_ hk⟩));(case aO=>exact(by(with_reducible repeat(first | apply Kd.R_alloc | apply Kd.R_drewN | apply Kd.R_drew));exact HO_0.out));(case aS=>exact(bwZ (by repeat(first |(with_reducible first | exact HB.out | apply bwA | apply bwN | apply bw1 | refine bwS ?_ GE619.out) | exact HB.out))));(case aL=>have:=LMc11.out;omega);intro v622 w14 ho hb hg hat;rw [← Ny621.out] at ho;have n0_:=Aside0.mk (blk_grown (g:=gb619) (o:=.cells #[.int .i64 a1_0,.int .i64 a1_1,.bool a1_2] 89 (0,0)) (by(with_reducible repeat(first | refine bkN ?_ _ | refine bkD ?_ | refine bkA ?_ _));exact BK619.out) hg (Kd.R_away HO_0.out (fun _ hk=>hk.2)));have n1_:=Aside0.mk (hb);have n2_:=Aside0.mk (Kept.of_grown (S:=(fun k_=>P0_ k_)) hg (by repeat(first |(with_reducible first | exact HK.out | apply Kept.alloc | apply Kept.drewN | apply Kept.drew | refine Kept.setCell ?_ (.inr GW619.out) _) | exact HK.out)) (fun k_ e_=>(HO_0.out.1 k_ e_).1));have n3_:=Aside0.mk (ho);clear BK619;clear HB;clear HK;clear HO_0;have BK619:=n0_;have HB:=n1_;have HK:=n2_;have HO623:=n3_;clear n0_ n1_ n2_ n3_;clear ho hb hg hat)))
  go_ret2
  exact⟨_,by first | rfl |(simp [errW_none,errW_some] <;> rfl) |(simp [*,errW_none,errW_some] <;> rfl),by(with_reducible repeat(first | apply Kd.R_alloc | apply Kd.R_drewN | apply Kd.R_drew));exact Kd.R_mono HO623.out (fun _ hk=>hk.1),by repeat(first |(with_reducible first | exact HB.out | apply bwA | apply bwN | apply bw1 | refine bwS ?_ GE619.out) | exact HB.out),by repeat(first |(with_reducible first | exact HK.out | apply Kept.alloc | apply Kept.drewN | apply Kept.drew | refine Kept.setCell ?_ (.inr GW619.out) _) | exact HK.out)⟩
end Go.Proofs.Ytnfmeafiaipplaa.S
