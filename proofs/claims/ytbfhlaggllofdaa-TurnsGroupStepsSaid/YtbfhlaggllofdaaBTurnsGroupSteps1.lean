-- Written by wip/bundle2.py: texts of this claim, one behind the other.
import Derived.Test.YtbfhlaggllofdaaBTurnsGroupSteps0
set_option linter.unusedVariables false
set_option linter.unusedSimpArgs false

namespace Go.Proofs.Ytbfhlaggllofdaa.S
open Go.Proofs.Ytbfhlaggllofdaa.Lib
open Go.Maps (Keyed)
open Go.RowKit Go.Proofs.YtbfhlaggllofdaaW.PrintWords Go.Proofs.YtbfhlaggllofdaaW.PrintLast Go.Proofs.YtbfhlaggllofdaaW.PrintMore
attribute [local go_sem] max2_int min2_int max_two min_two max_three min_three max_four min_four
set_option linter.unusedVariables false
set_option linter.unusedSimpArgs false

open Go.Proofs.Ytbfhlaggllofdaa.G Go.Proofs.Ytbfhlaggllofdaa.T Go.Proofs.Ytbfhlaggllofdaa.P
def turns_order.f (a0 a1 : Int) : Option (List Int):=if 0≤a0∧a0≤18∧0≤a1∧a1 < fact a0.toNat then some (sjt a0.toNat a1) else none
set_option maxHeartbeats 2000000 in
set_option maxRecDepth 100000 in
theorem turns_order.calls (a0 a1 : Int) (r : List Int) (w : World) (h : turns_order.f a0 a1 = some r) :
  Calls Try.prog 65 #[.int .i64 a0,.int .i64 a1] w fun e w'=>∃ v0_ : Value,e = .returned v0_∧Kd.R (Kd.int .i64) 3 w' w.heap.size (fun _=>True) v0_ r∧Below w.heap.size w w':=by
 unfold turns_order.f at h
 by_cases c0 : 0≤a0∧a0≤18∧0≤a1∧a1 < fact a0.toNat
 rotate_left
 ·rw [if_neg c0] at h
  cases h
 rw [if_pos c0] at h
 injection h with h
 obtain ⟨n,rfl⟩ : ∃ n : Nat,a0 = n:=⟨a0.toNat,by omega⟩
 rw [show((n : Int)).toNat = n by omega] at c0 h
 have HN:=Aside0.mk (show n≤18 by omega)
 have HA:=Aside0.mk c0.2.2
 have HR:=Aside0.mk h
 have n0:=eq_true (show(0 : Int) ≤(n : Int) by omega)
 have n1:=eq_true (show(n : Int) < 19 by omega)
 clear c0 h
 have hi76 :(Try.prog.info? 76).map (·.size) = some (facA 19).size:=by rw [facA_end];kernel_rfl
 go_enter Try.func65,Try.ntmps65
 go_upto_region 2 with (fail)
 refine wp_region_lit ?_
 refine goesL_ (some 11) rfl rfl Try.func64 (by kernel_rfl) rfl #[] rfl (by simp) ?_
 refine(fac_new _).mono ?_
 rintro e w1 ⟨rfl,hb⟩
 refine⟨_,rfl,?_⟩
 have HB1:=Aside0.mk hb
 clear hb
 refine wpList_plain rfl (fun K hK=>?_)
 go_simp
 refine hK _ _ ?_
 clear hK
 refine wpList_store_row rfl 76 (.tmp 6) (.tmp 11) rfl w1.heap.size (facA 19) rfl rfl 76 #[.int .i64 0,.int .i64 0,.int .i64 0,.int .i64 0,.int .i64 0,.int .i64 0,.int .i64 0,.int .i64 0,.int .i64 0,.int .i64 0,.int .i64 0,.int .i64 0,.int .i64 0,.int .i64 0,.int .i64 0,.int .i64 0,.int .i64 0,.int .i64 0,.int .i64 0] (heap_alloc_new _ _) hi76 rfl (by rw [facA_end];kernel_rfl) ?_
 obtain ⟨W0,hW0⟩ : ∃ W0,(w1.alloc (.cells #[.int .i64 0,.int .i64 0,.int .i64 0,.int .i64 0,.int .i64 0,.int .i64 0,.int .i64 0,.int .i64 0,.int .i64 0,.int .i64 0,.int .i64 0,.int .i64 0,.int .i64 0,.int .i64 0,.int .i64 0,.int .i64 0,.int .i64 0,.int .i64 0,.int .i64 0] 76)).setRow w1.heap.size (facA 19) = W0:=⟨_,rfl⟩
 have HF:=Aside0.mk (show W0.heap[w1.heap.size]? = some (.cells (facA 19) 76 (0,0)) by rw [← hW0];exact setRow_heap _ _ _ _ _ _ (heap_alloc_new _ _))
 have HB0:=Aside0.mk (show Below w.heap.size w W0 by rw [← hW0];exact below_setRow (bwA HB1.out _) HB1.out.size _)
 have HSZ:=Aside0.mk (show w1.heap.size + 1≤W0.heap.size by have:=(Array.getElem?_eq_some_iff.1 HF.out).1;omega)
 rw [hW0]
 clear hW0 hi76
 refine wpList_nil ?_
 obtain ⟨B,hB⟩ : ∃ B,w1.heap.size = B:=⟨_,rfl⟩
 rw [hB] at HF HSZ ⊢
 have HBW:=Aside0.mk (show w.heap.size≤B by rw [← hB];exact HB1.out.size)
 clear hB HB1
 obtain ⟨N0,hN0⟩ : ∃ N0,B + 1 = N0:=⟨_,rfl⟩
 have HNS:=Aside0.mk (show N0≤W0.heap.size by rw [← hN0];exact HSZ.out)
 have HNB0:=Aside0.mk (show B < N0 by omega)
 clear hN0
 go_wp2
 go_loopw [5,13] (fun v5 v13 wr=>∃ (i : Nat) (t : Int),v13 = .int .i64 (i : Int)∧Aside0 (i≤n)∧Aside0 (a1 / (fact n / fact i) = t)∧Aside0 (wr.ownsRow N0 3 1 v5 i ((sjt i t).map (Value.int .i64)))∧Aside0 (Below N0 W0 wr)) (fun v5 v13 _=>n - (intOf v13).toNat)
 case atStart=>exact⟨0,_,rfl,⟨Nat.zero_le _⟩,⟨rfl⟩,⟨World.ownsRow_nil _ _ _ _⟩,⟨Below.refl _ _⟩⟩
 obtain ⟨i,t0,rfl,HI,HT,HO,HB⟩:=hrel
 by_cases c : i < n
 rotate_left
 ·obtain rfl : i = n := by have := HI.out; omega
  have cb : decide ((i : Int) < (i : Int)) = false:=decide_eq_false (by omega)
  have cb1 : decide (i < i) = false:=decide_eq_false (by omega)
  have hp:=fact_pos i
  have ht : t0 = a1:=by rw [← HT.out,Int.ediv_self (by omega),Int.ediv_one]
  have hr : sjt i t0 = r:=by rw [ht];exact HR.out
  subst hr
  have HO' : Aside0 (wr.ownsRow N0 3 1 u5 (sjt i t0).length ((sjt i t0).map (Value.int .i64))):=⟨by rw [sjt_len];exact HO.out⟩
  clear c hp ht HR HT HO
  go_wp2
  go_ret
  exact⟨_,rfl,Kd.R_lower (Kd.R_of_own HO'.out (fun k e=>trivial)) (Nat.le_trans HBW.out (Nat.le_of_lt HNB0.out)),HB0.out.trans (HB.out.mono (Nat.le_trans HBW.out (Nat.le_of_lt HNB0.out)))⟩
 have hn:=HN.out
 have cb : decide ((i : Int) < (n : Int)) = true:=decide_eq_true (by omega)
 have cb1 : decide (i < n) = true:=decide_eq_true c
 have i0:=eq_true (show(0 : Int) ≤(i : Int) + 1 by omega)
 have i1:=eq_true (show(i : Int) + 1 < 19 by omega)
 have i2 :((i : Int) + 1 == 0) = false:=beq_eq_false_iff_ne.2 (by omega)
 have i3:=eq_false (show ¬ ((i : Int) + 1 = 0) by omega)
 have wi : wrap64 ((i : Int) + 1) =(i : Int) + 1:=w64 (by omega) (by omega)
 have HMS:=Aside0.mk (show n - (intOf (.int .i64 ((i : Int) + 1))).toNat < n - (intOf (.int .i64 (i : Int))).toNat by show n - ((i : Int) + 1).toNat < n - ((i : Int)).toNat;omega)
 have HN18:=Aside0.mk (show i≤100 by omega)
 have HI1:=Aside0.mk (show i + 1≤n by omega)
 obtain ⟨F,M,D,q,t,p,u,eF,eM,eq,et,⟨f0,f1,f2,f3⟩,⟨g0,g1,g2,g3⟩,⟨k1,k2,k3⟩,hu,hpar,wu,hs⟩:=order_step HN.out c HA.out.1 HA.out.2
 obtain rfl : t = t0:=et.symm.trans HT.out
 have HU:=Aside0.mk hu
 have HS:=Aside0.mk hs
 have HQ:=Aside0.mk eq
 have lf : wr.cell? ⟨B,n,none⟩ = some (.int .i64 F):=by
  rw [HB.out.cell (p:=⟨B,n,none⟩) HNB0.out]
  exact(bkC HF.out n).trans ((facA_get (by omega)).trans (by rw [eF]))
 have lm : wr.cell? ⟨B,i + 1,none⟩ = some (.int .i64 M):=by
  rw [HB.out.cell (p:=⟨B,i + 1,none⟩) HNB0.out]
  exact(bkC HF.out (i + 1)).trans ((facA_get (by omega)).trans (by rw [eM]))
 clear hn hu hs eq et HT eF eM c HI
 rcases hpar with ⟨z1,z2⟩ |⟨z1,z2⟩
 ·have wz : wrap64 ((i : Int) - p) = (u : Int) := by rw [z2]; exact wu
  clear z2
  go_wp2
  refine start_ (n:=10) (S:=fun W'=>W'.cell? ⟨B,n,none⟩ = some (.int .i64 F)∧W'.cell? ⟨B,i + 1,none⟩ = some (.int .i64 M)) (ds:=[]) #[false,false,false,false,false,false,false,false,false,false] (by kernel_rfl) rfl rfl ⟨lf,lm⟩ (fun hHeld=>?_)
  first
  |(refine px_ (i:=0) (N:=some 18) (v:=?_) (a':=?_) #[true,false,false,false,false,false,false,false,false,false] rfl rfl (by kernel_rfl) (fun _ _ _ h=>h) ?_ ?_ ?_;rotate_left 2;(focus refine Or.inl ⟨by rfl,?_⟩;intro w';go_simp;with_reducible rfl);(focus simp only [List.getElem_toArray,List.getElem_cons_succ,List.getElem_cons_zero,Act.put,List.setIfInBounds_toArray,List.set_cons_zero,List.set_cons_succ,i64_w,i32_w];rfl))
  |(refine tx_ (i:=0) (N:=some 18) (v:=?_) (a':=?_) #[true,false,false,false,false,false,false,false,false,false] rfl rfl (by kernel_rfl) (fun _ _ _ h=>h) ?_ hHeld ?_ ?_;rotate_left 2;(focus refine Or.inl ⟨by rfl,?_⟩;rintro w' ⟨s0,s1⟩;go_simp;with_reducible rfl);(focus simp only [List.getElem_toArray,List.getElem_cons_succ,List.getElem_cons_zero,Act.put,List.setIfInBounds_toArray,List.set_cons_zero,List.set_cons_succ,i64_w,i32_w];rfl))
  first
  |(refine px_ (i:=1) (N:=some 19) (v:=?_) (a':=?_) #[true,true,false,false,false,false,false,false,false,false] rfl rfl (by kernel_rfl) (fun _ _ _ h=>h) ?_ ?_ ?_;rotate_left 2;(focus refine Or.inl ⟨by rfl,?_⟩;intro w';go_simp;with_reducible rfl);(focus simp only [List.getElem_toArray,List.getElem_cons_succ,List.getElem_cons_zero,Act.put,List.setIfInBounds_toArray,List.set_cons_zero,List.set_cons_succ,i64_w,i32_w];rfl))
  |(refine tx_ (i:=1) (N:=some 19) (v:=?_) (a':=?_) #[true,true,false,false,false,false,false,false,false,false] rfl rfl (by kernel_rfl) (fun _ _ _ h=>h) ?_ hHeld ?_ ?_;rotate_left 2;(focus refine Or.inl ⟨by rfl,?_⟩;rintro w' ⟨s0,s1⟩;go_simp;with_reducible rfl);(focus simp only [List.getElem_toArray,List.getElem_cons_succ,List.getElem_cons_zero,Act.put,List.setIfInBounds_toArray,List.set_cons_zero,List.set_cons_succ,i64_w,i32_w];rfl))
  first
  |(refine px_ (i:=2) (N:=some 20) (v:=?_) (a':=?_) #[true,true,true,false,false,false,false,false,false,false] rfl rfl (by kernel_rfl) (fun _ _ _ h=>h) ?_ ?_ ?_;rotate_left 2;(focus refine Or.inl ⟨by rfl,?_⟩;intro w';go_simp;with_reducible rfl);(focus simp only [List.getElem_toArray,List.getElem_cons_succ,List.getElem_cons_zero,Act.put,List.setIfInBounds_toArray,List.set_cons_zero,List.set_cons_succ,i64_w,i32_w];rfl))
  |(refine tx_ (i:=2) (N:=some 20) (v:=?_) (a':=?_) #[true,true,true,false,false,false,false,false,false,false] rfl rfl (by kernel_rfl) (fun _ _ _ h=>h) ?_ hHeld ?_ ?_;rotate_left 2;(focus refine Or.inl ⟨by rfl,?_⟩;rintro w' ⟨s0,s1⟩;go_simp;with_reducible rfl);(focus simp only [List.getElem_toArray,List.getElem_cons_succ,List.getElem_cons_zero,Act.put,List.setIfInBounds_toArray,List.set_cons_zero,List.set_cons_succ,i64_w,i32_w];rfl))
  first
  |(refine px_ (i:=3) (N:=some 21) (v:=?_) (a':=?_) #[true,true,true,true,false,false,false,false,false,false] rfl rfl (by kernel_rfl) (fun _ _ _ h=>h) ?_ ?_ ?_;rotate_left 2;(focus refine Or.inl ⟨by rfl,?_⟩;intro w';go_simp;with_reducible rfl);(focus simp only [List.getElem_toArray,List.getElem_cons_succ,List.getElem_cons_zero,Act.put,List.setIfInBounds_toArray,List.set_cons_zero,List.set_cons_succ,i64_w,i32_w];rfl))
  |(refine tx_ (i:=3) (N:=some 21) (v:=?_) (a':=?_) #[true,true,true,true,false,false,false,false,false,false] rfl rfl (by kernel_rfl) (fun _ _ _ h=>h) ?_ hHeld ?_ ?_;rotate_left 2;(focus refine Or.inl ⟨by rfl,?_⟩;rintro w' ⟨s0,s1⟩;go_simp;with_reducible rfl);(focus simp only [List.getElem_toArray,List.getElem_cons_succ,List.getElem_cons_zero,Act.put,List.setIfInBounds_toArray,List.set_cons_zero,List.set_cons_succ,i64_w,i32_w];rfl))
  first
  |(refine px_ (i:=4) (N:=some 22) (v:=?_) (a':=?_) #[true,true,true,true,true,false,false,false,false,false] rfl rfl (by kernel_rfl) (fun _ _ _ h=>h) ?_ ?_ ?_;rotate_left 2;(focus refine Or.inl ⟨by rfl,?_⟩;intro w';go_simp;with_reducible rfl);(focus simp only [List.getElem_toArray,List.getElem_cons_succ,List.getElem_cons_zero,Act.put,List.setIfInBounds_toArray,List.set_cons_zero,List.set_cons_succ,i64_w,i32_w];rfl))
  |(refine tx_ (i:=4) (N:=some 22) (v:=?_) (a':=?_) #[true,true,true,true,true,false,false,false,false,false] rfl rfl (by kernel_rfl) (fun _ _ _ h=>h) ?_ hHeld ?_ ?_;rotate_left 2;(focus refine Or.inl ⟨by rfl,?_⟩;rintro w' ⟨s0,s1⟩;go_simp;with_reducible rfl);(focus simp only [List.getElem_toArray,List.getElem_cons_succ,List.getElem_cons_zero,Act.put,List.setIfInBounds_toArray,List.set_cons_zero,List.set_cons_succ,i64_w,i32_w];rfl))
  first
  |(refine px_ (i:=5) (N:=some 23) (v:=?_) (a':=?_) #[true,true,true,true,true,true,false,false,false,false] rfl rfl (by kernel_rfl) (fun _ _ _ h=>h) ?_ ?_ ?_;rotate_left 2;(focus refine Or.inl ⟨by rfl,?_⟩;intro w';go_simp;with_reducible rfl);(focus simp only [List.getElem_toArray,List.getElem_cons_succ,List.getElem_cons_zero,Act.put,List.setIfInBounds_toArray,List.set_cons_zero,List.set_cons_succ,i64_w,i32_w];rfl))
  |(refine tx_ (i:=5) (N:=some 23) (v:=?_) (a':=?_) #[true,true,true,true,true,true,false,false,false,false] rfl rfl (by kernel_rfl) (fun _ _ _ h=>h) ?_ hHeld ?_ ?_;rotate_left 2;(focus refine Or.inl ⟨by rfl,?_⟩;rintro w' ⟨s0,s1⟩;go_simp;with_reducible rfl);(focus simp only [List.getElem_toArray,List.getElem_cons_succ,List.getElem_cons_zero,Act.put,List.setIfInBounds_toArray,List.set_cons_zero,List.set_cons_succ,i64_w,i32_w];rfl))
  first
  |(refine px_ (i:=6) (N:=some 24) (v:=?_) (a':=?_) #[true,true,true,true,true,true,true,false,false,false] rfl rfl (by kernel_rfl) (fun _ _ _ h=>h) ?_ ?_ ?_;rotate_left 2;(focus refine Or.inl ⟨by rfl,?_⟩;intro w';go_simp;with_reducible rfl);(focus simp only [List.getElem_toArray,List.getElem_cons_succ,List.getElem_cons_zero,Act.put,List.setIfInBounds_toArray,List.set_cons_zero,List.set_cons_succ,i64_w,i32_w];rfl))
  |(refine tx_ (i:=6) (N:=some 24) (v:=?_) (a':=?_) #[true,true,true,true,true,true,true,false,false,false] rfl rfl (by kernel_rfl) (fun _ _ _ h=>h) ?_ hHeld ?_ ?_;rotate_left 2;(focus refine Or.inl ⟨by rfl,?_⟩;rintro w' ⟨s0,s1⟩;go_simp;with_reducible rfl);(focus simp only [List.getElem_toArray,List.getElem_cons_succ,List.getElem_cons_zero,Act.put,List.setIfInBounds_toArray,List.set_cons_zero,List.set_cons_succ,i64_w,i32_w];rfl))
  first
  |(refine px_ (i:=7) (N:=some 25) (v:=?_) (a':=?_) #[true,true,true,true,true,true,true,true,false,false] rfl rfl (by kernel_rfl) (fun _ _ _ h=>h) ?_ ?_ ?_;rotate_left 2;(focus refine Or.inl ⟨by rfl,?_⟩;intro w';go_simp;with_reducible rfl);(focus simp only [List.getElem_toArray,List.getElem_cons_succ,List.getElem_cons_zero,Act.put,List.setIfInBounds_toArray,List.set_cons_zero,List.set_cons_succ,i64_w,i32_w];rfl))
  |(refine tx_ (i:=7) (N:=some 25) (v:=?_) (a':=?_) #[true,true,true,true,true,true,true,true,false,false] rfl rfl (by kernel_rfl) (fun _ _ _ h=>h) ?_ hHeld ?_ ?_;rotate_left 2;(focus refine Or.inl ⟨by rfl,?_⟩;rintro w' ⟨s0,s1⟩;go_simp;with_reducible rfl);(focus simp only [List.getElem_toArray,List.getElem_cons_succ,List.getElem_cons_zero,Act.put,List.setIfInBounds_toArray,List.set_cons_zero,List.set_cons_succ,i64_w,i32_w];rfl))
  first
  |(refine px_ (i:=8) (N:=some 26) (v:=?_) (a':=?_) #[true,true,true,true,true,true,true,true,true,false] rfl rfl (by kernel_rfl) (fun _ _ _ h=>h) ?_ ?_ ?_;rotate_left 2;(focus refine Or.inl ⟨by rfl,?_⟩;intro w';go_simp;with_reducible rfl);(focus simp only [List.getElem_toArray,List.getElem_cons_succ,List.getElem_cons_zero,Act.put,List.setIfInBounds_toArray,List.set_cons_zero,List.set_cons_succ,i64_w,i32_w];rfl))
  |(refine tx_ (i:=8) (N:=some 26) (v:=?_) (a':=?_) #[true,true,true,true,true,true,true,true,true,false] rfl rfl (by kernel_rfl) (fun _ _ _ h=>h) ?_ hHeld ?_ ?_;rotate_left 2;(focus refine Or.inl ⟨by rfl,?_⟩;rintro w' ⟨s0,s1⟩;go_simp;with_reducible rfl);(focus simp only [List.getElem_toArray,List.getElem_cons_succ,List.getElem_cons_zero,Act.put,List.setIfInBounds_toArray,List.set_cons_zero,List.set_cons_succ,i64_w,i32_w];rfl))
  first
  |(refine px_ (i:=9) (N:=some 9) (v:=?_) (a':=?_) #[true,true,true,true,true,true,true,true,true,true] rfl rfl (by kernel_rfl) (fun _ _ _ h=>h) ?_ ?_ ?_;rotate_left 2;(focus refine Or.inl ⟨by rfl,?_⟩;intro w';go_simp;with_reducible rfl);(focus simp only [List.getElem_toArray,List.getElem_cons_succ,List.getElem_cons_zero,Act.put,List.setIfInBounds_toArray,List.set_cons_zero,List.set_cons_succ,i64_w,i32_w];rfl))
  |(refine tx_ (i:=9) (N:=some 9) (v:=?_) (a':=?_) #[true,true,true,true,true,true,true,true,true,true] rfl rfl (by kernel_rfl) (fun _ _ _ h=>h) ?_ hHeld ?_ ?_;rotate_left 2;(focus refine Or.inl ⟨by rfl,?_⟩;rintro w' ⟨s0,s1⟩;go_simp;with_reducible rfl);(focus simp only [List.getElem_toArray,List.getElem_cons_succ,List.getElem_cons_zero,Act.put,List.setIfInBounds_toArray,List.set_cons_zero,List.set_cons_succ,i64_w,i32_w];rfl))
  refine done_ (by kernel_rfl) ?_
  clear hHeld lf lm
  obtain ⟨WR,hWR⟩ : ∃ W,W = wr.drew:=⟨_,rfl⟩
  have HNB : Aside0 (N0≤WR.heap.size):=⟨by rw [hWR];exact Nat.le_trans HNS.out HB.out.size⟩
  have HBR : Aside0 (Below N0 W0 WR):=⟨by rw [hWR];exact HB.out.drew⟩
  replace HO : Aside0 (WR.ownsRow N0 3 1 u5 i ((sjt i t).map (Value.int .i64))):=⟨by rw [hWR];exact HO.out⟩
  rw [← hWR]
  clear hWR HB
  go_wp2_with (go_at_call 73;go_must (refine(insert_own (W:=WR) HO.out HNB.out HN18.out HU.out ((i : Int) + 1)).mono ?_;rintro e wx ⟨v',rfl,ho,hb⟩;have HO1:=Aside0.mk ho;have HB2:=Aside0.mk hb;clear ho hb))
  go_roundw
  case rel=>exact⟨i + 1,q,by simp [wi],HI1,HQ,⟨by rw [HS.out];exact HO1.out⟩,⟨HBR.out.trans HB2.out⟩⟩
  case measure=>(first | exact HMS.out |(rw [wi];exact HMS.out) |(simp only [wi];exact HMS.out))
     
 subst z2
 go_wp2
 refine start_ (n:=10) (S:=fun W'=>W'.cell? ⟨B,n,none⟩ = some (.int .i64 F)∧W'.cell? ⟨B,i + 1,none⟩ = some (.int .i64 M)) (ds:=[]) #[false,false,false,false,false,false,false,false,false,false] (by kernel_rfl) rfl rfl ⟨lf,lm⟩ (fun hHeld=>?_)
 first
 |(refine px_ (i:=0) (N:=some 18) (v:=?_) (a':=?_) #[true,false,false,false,false,false,false,false,false,false] rfl rfl (by kernel_rfl) (fun _ _ _ h=>h) ?_ ?_ ?_;rotate_left 2;(focus refine Or.inl ⟨by rfl,?_⟩;intro w';go_simp;with_reducible rfl);(focus simp only [List.getElem_toArray,List.getElem_cons_succ,List.getElem_cons_zero,Act.put,List.setIfInBounds_toArray,List.set_cons_zero,List.set_cons_succ,i64_w,i32_w];rfl))
 |(refine tx_ (i:=0) (N:=some 18) (v:=?_) (a':=?_) #[true,false,false,false,false,false,false,false,false,false] rfl rfl (by kernel_rfl) (fun _ _ _ h=>h) ?_ hHeld ?_ ?_;rotate_left 2;(focus refine Or.inl ⟨by rfl,?_⟩;rintro w' ⟨s0,s1⟩;go_simp;with_reducible rfl);(focus simp only [List.getElem_toArray,List.getElem_cons_succ,List.getElem_cons_zero,Act.put,List.setIfInBounds_toArray,List.set_cons_zero,List.set_cons_succ,i64_w,i32_w];rfl))
 first
 |(refine px_ (i:=1) (N:=some 19) (v:=?_) (a':=?_) #[true,true,false,false,false,false,false,false,false,false] rfl rfl (by kernel_rfl) (fun _ _ _ h=>h) ?_ ?_ ?_;rotate_left 2;(focus refine Or.inl ⟨by rfl,?_⟩;intro w';go_simp;with_reducible rfl);(focus simp only [List.getElem_toArray,List.getElem_cons_succ,List.getElem_cons_zero,Act.put,List.setIfInBounds_toArray,List.set_cons_zero,List.set_cons_succ,i64_w,i32_w];rfl))
 |(refine tx_ (i:=1) (N:=some 19) (v:=?_) (a':=?_) #[true,true,false,false,false,false,false,false,false,false] rfl rfl (by kernel_rfl) (fun _ _ _ h=>h) ?_ hHeld ?_ ?_;rotate_left 2;(focus refine Or.inl ⟨by rfl,?_⟩;rintro w' ⟨s0,s1⟩;go_simp;with_reducible rfl);(focus simp only [List.getElem_toArray,List.getElem_cons_succ,List.getElem_cons_zero,Act.put,List.setIfInBounds_toArray,List.set_cons_zero,List.set_cons_succ,i64_w,i32_w];rfl))
 first
 |(refine px_ (i:=2) (N:=some 20) (v:=?_) (a':=?_) #[true,true,true,false,false,false,false,false,false,false] rfl rfl (by kernel_rfl) (fun _ _ _ h=>h) ?_ ?_ ?_;rotate_left 2;(focus refine Or.inl ⟨by rfl,?_⟩;intro w';go_simp;with_reducible rfl);(focus simp only [List.getElem_toArray,List.getElem_cons_succ,List.getElem_cons_zero,Act.put,List.setIfInBounds_toArray,List.set_cons_zero,List.set_cons_succ,i64_w,i32_w];rfl))
 |(refine tx_ (i:=2) (N:=some 20) (v:=?_) (a':=?_) #[true,true,true,false,false,false,false,false,false,false] rfl rfl (by kernel_rfl) (fun _ _ _ h=>h) ?_ hHeld ?_ ?_;rotate_left 2;(focus refine Or.inl ⟨by rfl,?_⟩;rintro w' ⟨s0,s1⟩;go_simp;with_reducible rfl);(focus simp only [List.getElem_toArray,List.getElem_cons_succ,List.getElem_cons_zero,Act.put,List.setIfInBounds_toArray,List.set_cons_zero,List.set_cons_succ,i64_w,i32_w];rfl))
 first
 |(refine px_ (i:=3) (N:=some 21) (v:=?_) (a':=?_) #[true,true,true,true,false,false,false,false,false,false] rfl rfl (by kernel_rfl) (fun _ _ _ h=>h) ?_ ?_ ?_;rotate_left 2;(focus refine Or.inl ⟨by rfl,?_⟩;intro w';go_simp;with_reducible rfl);(focus simp only [List.getElem_toArray,List.getElem_cons_succ,List.getElem_cons_zero,Act.put,List.setIfInBounds_toArray,List.set_cons_zero,List.set_cons_succ,i64_w,i32_w];rfl))
 |(refine tx_ (i:=3) (N:=some 21) (v:=?_) (a':=?_) #[true,true,true,true,false,false,false,false,false,false] rfl rfl (by kernel_rfl) (fun _ _ _ h=>h) ?_ hHeld ?_ ?_;rotate_left 2;(focus refine Or.inl ⟨by rfl,?_⟩;rintro w' ⟨s0,s1⟩;go_simp;with_reducible rfl);(focus simp only [List.getElem_toArray,List.getElem_cons_succ,List.getElem_cons_zero,Act.put,List.setIfInBounds_toArray,List.set_cons_zero,List.set_cons_succ,i64_w,i32_w];rfl))
 first
 |(refine px_ (i:=4) (N:=some 22) (v:=?_) (a':=?_) #[true,true,true,true,true,false,false,false,false,false] rfl rfl (by kernel_rfl) (fun _ _ _ h=>h) ?_ ?_ ?_;rotate_left 2;(focus refine Or.inl ⟨by rfl,?_⟩;intro w';go_simp;with_reducible rfl);(focus simp only [List.getElem_toArray,List.getElem_cons_succ,List.getElem_cons_zero,Act.put,List.setIfInBounds_toArray,List.set_cons_zero,List.set_cons_succ,i64_w,i32_w];rfl))
 |(refine tx_ (i:=4) (N:=some 22) (v:=?_) (a':=?_) #[true,true,true,true,true,false,false,false,false,false] rfl rfl (by kernel_rfl) (fun _ _ _ h=>h) ?_ hHeld ?_ ?_;rotate_left 2;(focus refine Or.inl ⟨by rfl,?_⟩;rintro w' ⟨s0,s1⟩;go_simp;with_reducible rfl);(focus simp only [List.getElem_toArray,List.getElem_cons_succ,List.getElem_cons_zero,Act.put,List.setIfInBounds_toArray,List.set_cons_zero,List.set_cons_succ,i64_w,i32_w];rfl))
 first
 |(refine px_ (i:=5) (N:=some 23) (v:=?_) (a':=?_) #[true,true,true,true,true,true,false,false,false,false] rfl rfl (by kernel_rfl) (fun _ _ _ h=>h) ?_ ?_ ?_;rotate_left 2;(focus refine Or.inl ⟨by rfl,?_⟩;intro w';go_simp;with_reducible rfl);(focus simp only [List.getElem_toArray,List.getElem_cons_succ,List.getElem_cons_zero,Act.put,List.setIfInBounds_toArray,List.set_cons_zero,List.set_cons_succ,i64_w,i32_w];rfl))
 |(refine tx_ (i:=5) (N:=some 23) (v:=?_) (a':=?_) #[true,true,true,true,true,true,false,false,false,false] rfl rfl (by kernel_rfl) (fun _ _ _ h=>h) ?_ hHeld ?_ ?_;rotate_left 2;(focus refine Or.inl ⟨by rfl,?_⟩;rintro w' ⟨s0,s1⟩;go_simp;with_reducible rfl);(focus simp only [List.getElem_toArray,List.getElem_cons_succ,List.getElem_cons_zero,Act.put,List.setIfInBounds_toArray,List.set_cons_zero,List.set_cons_succ,i64_w,i32_w];rfl))
 first
 |(refine px_ (i:=6) (N:=some 24) (v:=?_) (a':=?_) #[true,true,true,true,true,true,true,false,false,false] rfl rfl (by kernel_rfl) (fun _ _ _ h=>h) ?_ ?_ ?_;rotate_left 2;(focus refine Or.inl ⟨by rfl,?_⟩;intro w';go_simp;with_reducible rfl);(focus simp only [List.getElem_toArray,List.getElem_cons_succ,List.getElem_cons_zero,Act.put,List.setIfInBounds_toArray,List.set_cons_zero,List.set_cons_succ,i64_w,i32_w];rfl))
 |(refine tx_ (i:=6) (N:=some 24) (v:=?_) (a':=?_) #[true,true,true,true,true,true,true,false,false,false] rfl rfl (by kernel_rfl) (fun _ _ _ h=>h) ?_ hHeld ?_ ?_;rotate_left 2;(focus refine Or.inl ⟨by rfl,?_⟩;rintro w' ⟨s0,s1⟩;go_simp;with_reducible rfl);(focus simp only [List.getElem_toArray,List.getElem_cons_succ,List.getElem_cons_zero,Act.put,List.setIfInBounds_toArray,List.set_cons_zero,List.set_cons_succ,i64_w,i32_w];rfl))
 first
 |(refine px_ (i:=7) (N:=some 25) (v:=?_) (a':=?_) #[true,true,true,true,true,true,true,true,false,false] rfl rfl (by kernel_rfl) (fun _ _ _ h=>h) ?_ ?_ ?_;rotate_left 2;(focus refine Or.inl ⟨by rfl,?_⟩;intro w';go_simp;with_reducible rfl);(focus simp only [List.getElem_toArray,List.getElem_cons_succ,List.getElem_cons_zero,Act.put,List.setIfInBounds_toArray,List.set_cons_zero,List.set_cons_succ,i64_w,i32_w];rfl))
 |(refine tx_ (i:=7) (N:=some 25) (v:=?_) (a':=?_) #[true,true,true,true,true,true,true,true,false,false] rfl rfl (by kernel_rfl) (fun _ _ _ h=>h) ?_ hHeld ?_ ?_;rotate_left 2;(focus refine Or.inl ⟨by rfl,?_⟩;rintro w' ⟨s0,s1⟩;go_simp;with_reducible rfl);(focus simp only [List.getElem_toArray,List.getElem_cons_succ,List.getElem_cons_zero,Act.put,List.setIfInBounds_toArray,List.set_cons_zero,List.set_cons_succ,i64_w,i32_w];rfl))
 first
 |(refine px_ (i:=8) (N:=some 26) (v:=?_) (a':=?_) #[true,true,true,true,true,true,true,true,true,false] rfl rfl (by kernel_rfl) (fun _ _ _ h=>h) ?_ ?_ ?_;rotate_left 2;(focus refine Or.inl ⟨by rfl,?_⟩;intro w';go_simp;with_reducible rfl);(focus simp only [List.getElem_toArray,List.getElem_cons_succ,List.getElem_cons_zero,Act.put,List.setIfInBounds_toArray,List.set_cons_zero,List.set_cons_succ,i64_w,i32_w];rfl))
 |(refine tx_ (i:=8) (N:=some 26) (v:=?_) (a':=?_) #[true,true,true,true,true,true,true,true,true,false] rfl rfl (by kernel_rfl) (fun _ _ _ h=>h) ?_ hHeld ?_ ?_;rotate_left 2;(focus refine Or.inl ⟨by rfl,?_⟩;rintro w' ⟨s0,s1⟩;go_simp;with_reducible rfl);(focus simp only [List.getElem_toArray,List.getElem_cons_succ,List.getElem_cons_zero,Act.put,List.setIfInBounds_toArray,List.set_cons_zero,List.set_cons_succ,i64_w,i32_w];rfl))
 first
 |(refine px_ (i:=9) (N:=some 9) (v:=?_) (a':=?_) #[true,true,true,true,true,true,true,true,true,true] rfl rfl (by kernel_rfl) (fun _ _ _ h=>h) ?_ ?_ ?_;rotate_left 2;(focus refine Or.inl ⟨by rfl,?_⟩;intro w';go_simp;with_reducible rfl);(focus simp only [List.getElem_toArray,List.getElem_cons_succ,List.getElem_cons_zero,Act.put,List.setIfInBounds_toArray,List.set_cons_zero,List.set_cons_succ,i64_w,i32_w];rfl))
 |(refine tx_ (i:=9) (N:=some 9) (v:=?_) (a':=?_) #[true,true,true,true,true,true,true,true,true,true] rfl rfl (by kernel_rfl) (fun _ _ _ h=>h) ?_ hHeld ?_ ?_;rotate_left 2;(focus refine Or.inl ⟨by rfl,?_⟩;rintro w' ⟨s0,s1⟩;go_simp;with_reducible rfl);(focus simp only [List.getElem_toArray,List.getElem_cons_succ,List.getElem_cons_zero,Act.put,List.setIfInBounds_toArray,List.set_cons_zero,List.set_cons_succ,i64_w,i32_w];rfl))
 refine done_ (by kernel_rfl) ?_
 clear hHeld lf lm
 obtain ⟨WR,hWR⟩ : ∃ W,W = wr.drew:=⟨_,rfl⟩
 have HNB : Aside0 (N0≤WR.heap.size):=⟨by rw [hWR];exact Nat.le_trans HNS.out HB.out.size⟩
 have HBR : Aside0 (Below N0 W0 WR):=⟨by rw [hWR];exact HB.out.drew⟩
 replace HO : Aside0 (WR.ownsRow N0 3 1 u5 i ((sjt i t).map (Value.int .i64))):=⟨by rw [hWR];exact HO.out⟩
 rw [← hWR]
 clear hWR HB
 go_wp2_with (go_at_call 73;go_must (refine(insert_own (W:=WR) HO.out HNB.out HN18.out HU.out ((i : Int) + 1)).mono ?_;rintro e wx ⟨v',rfl,ho,hb⟩;have HO1:=Aside0.mk ho;have HB2:=Aside0.mk hb;clear ho hb))
 go_roundw
 case rel=>exact⟨i + 1,q,by simp [wi],HI1,HQ,⟨by rw [HS.out];exact HO1.out⟩,⟨HBR.out.trans HB2.out⟩⟩
 case measure=>(first | exact HMS.out |(rw [wi];exact HMS.out) |(simp only [wi];exact HMS.out))
     

open Go.Proofs.Ytbfhlaggllofdaa.G Go.Proofs.Ytbfhlaggllofdaa.T Go.Proofs.Ytbfhlaggllofdaa.P
def turns_Order.f (a0 a1 : Int) : Option (List Int×Int):=some (if 0≤a0∧a0≤18∧0≤a1∧a1≤fact a0.toNat - 1 then(sjt a0.toNat a1,0) else([],2))
set_option maxHeartbeats 400000 in
set_option maxRecDepth 100000 in
theorem turns_Order.calls (a0 a1 : Int) (r1 : List Int) (r2 : Int) (w : World) (h : turns_Order.f a0 a1 = some (r1, r2)) :
  Calls Try.prog 48 #[.int .i64 a0,.int .i64 a1] w fun e w'=>∃ v0_ : Value,e = .returned (.tuple #[v0_,.int .i64 r2])∧Kd.R (Kd.int .i64) 3 w' w.heap.size (fun _=>True) v0_ r1∧Below w.heap.size w w':=by
 replace h:=Option.some.inj h
 have HB:=Aside0.mk (Below.refl w.heap.size w)
 by_cases c0 : 0≤a0∧a0≤18
 rotate_left
 ·rw [if_neg (fun hh => c0 ⟨hh.1, hh.2.1⟩)] at h
  injection h with h1 h2
  subst h1;subst h2
  have hi1:=Aside0.mk (within_no c0)
  clear c0
  go_enter Try.func48,Try.ntmps48
  go_wp2_with (go_at_call 56;go_must (with_reducible refine(turns_within.calls a0 0 18 false _ hi1.out).mono ?_;rintro e w' ⟨rfl,⟨nd,rfl⟩⟩))
  go_ret2
  exact⟨_,rfl,Kd.R_nil _ _ _ _ _,by repeat(first |(with_reducible first | exact HB.out | apply bwN | apply bw1) | exact HB.out)⟩
 have hi1:=Aside0.mk (within_yes c0)
 obtain ⟨n,rfl⟩ : ∃ n : Nat,a0 = n:=⟨a0.toNat,by omega⟩
 rw [show((n : Int)).toNat = n by omega] at h
 have bf:=fact_le (n:=n) (by omega)
 have w0 : wrap64 (fact n - 1) = fact n - 1:=w64 (by omega) (by omega)
 have lx : ∀ W,Sem.run Try.prog (Instr.index 76 (.agg (facA 19)) (.int .i64 (n : Int))) W = .ok (.int .i64 (fact n)) W:=fac_index (by omega)
 by_cases c1 : 0≤a1∧a1≤fact n - 1
 rotate_left
 ·rw [if_neg (fun hh => c1 hh.2.2)] at h
  injection h with h1 h2
  subst h1;subst h2
  have hi2:=Aside0.mk (within_no c1)
  obtain ⟨F,hF⟩ : ∃ F,fact n = F:=⟨_,rfl⟩
  rw [hF] at lx w0 hi2
  clear c0 c1 bf hF
  go_enter Try.func48,Try.ntmps48
  go_wp2_with (first |(go_at_call 56;go_must (first |(with_reducible refine(turns_within.calls (n : Int) 0 18 true _ hi1.out).mono ?_;rintro e w' ⟨rfl,⟨nd,rfl⟩⟩) |(with_reducible refine(turns_within.calls a1 0 (F - 1) false _ hi2.out).mono ?_;rintro e w' ⟨rfl,⟨nd,rfl⟩⟩))) |(go_at_call 64;go_must (refine(fac_new _).mono ?_;rintro e w1 ⟨rfl,hb⟩;have HB1:=Aside0.mk (bwT (by repeat(first |(with_reducible first | exact HB.out | apply bwN) | exact HB.out)) hb);clear hb)))
  go_ret2
  exact⟨_,rfl,Kd.R_nil _ _ _ _ _,by repeat(first |(with_reducible first | exact HB1.out | apply bwN | apply bw1) | exact HB1.out)⟩
 rw [if_pos ⟨c0.1,c0.2,c1⟩] at h
 injection h with h1 h2
 subst h2
 have hi2:=Aside0.mk (within_yes c1)
 have HO:=Aside0.mk (show turns_order.f (n : Int) a1 = some r1 by unfold turns_order.f;rw [if_pos ⟨c0.1,c0.2,c1.1,by rw [show((n : Int)).toNat = n by omega];omega⟩,show((n : Int)).toNat = n by omega,h1])
 obtain ⟨F,hF⟩ : ∃ F,fact n = F:=⟨_,rfl⟩
 rw [hF] at lx w0 hi2
 clear c0 c1 bf hF h1
 go_enter Try.func48,Try.ntmps48
 go_wp2_with (first |(go_at_call 56;go_must (first |(with_reducible refine(turns_within.calls (n : Int) 0 18 true _ hi1.out).mono ?_;rintro e w' ⟨rfl,⟨nd,rfl⟩⟩) |(with_reducible refine(turns_within.calls a1 0 (F - 1) true _ hi2.out).mono ?_;rintro e w' ⟨rfl,⟨nd,rfl⟩⟩))) |(go_at_call 64;go_must (refine(fac_new _).mono ?_;rintro e w1 ⟨rfl,hb⟩;have HB1:=Aside0.mk (bwT (by repeat(first |(with_reducible first | exact HB.out | apply bwN) | exact HB.out)) hb);clear hb)) |(go_at_call 65;go_must (refine(turns_order.calls (n : Int) a1 r1 _ HO.out).mono ?_;rintro e w2 ⟨v0,rfl,ho,hb⟩;have HO1:=Aside0.mk ho;have HB2:=Aside0.mk hb;clear ho hb)))
 go_ret2
 exact⟨_,rfl,Kd.R_lower HO1.out (bwZ (by repeat(first |(with_reducible first | exact HB1.out | apply bwN | apply bw1) | exact HB1.out))),bwT (by repeat(first |(with_reducible first | exact HB1.out | apply bwN | apply bw1) | exact HB1.out)) HB2.out⟩

def w10_awake.j0 : Nat → Bool → Option (Bool)
 | 0,_=>none
 | k + 1,x77=>if x77 = true then(some false) else(some true)
def w10_awake.f (k : Nat)  : Option (Bool):=(turns_Set.f 2 2).bind fun bt128=>((turns_Choice.f 3 2 1).bind fun bt132=>((turns_Order.f 3 3).bind fun bt136=>((turns_Groupings.f 5).bind fun bt140=>((turns_Setting.f (([2,3] : List Int)) 3).bind fun bt145=>(if bt128.2 = 0 then((w10_ints.f k bt128.1 (([1,2] : List Int))).bind fun t152=>(if t152 = true then(if bt132.2 = 0 then((w10_ints.f k bt132.1 (([2,3] : List Int))).bind fun t156=>(if t156 = true then(if bt136.2 = 0 then((w10_ints.f k bt136.1 (([3,2,1] : List Int))).bind fun t160=>(if t160 = true then(if bt140.2 = 0 then(if bt140.1 = 52 then(if bt145.2 = 0 then((w10_ints.f k bt145.1 (([1,2] : List Int))).bind fun t164=>(w10_awake.j0 k (!t164))) else(w10_awake.j0 k true)) else(w10_awake.j0 k true)) else(w10_awake.j0 k true)) else(w10_awake.j0 k true))) else(w10_awake.j0 k true)) else(w10_awake.j0 k true))) else(w10_awake.j0 k true)) else(w10_awake.j0 k true))) else(w10_awake.j0 k true))))))
set_option maxHeartbeats 8000000 in
set_option maxRecDepth 100000 in
theorem w10_awake.calls (k : Nat)  (r : Bool) (w : World) (h : w10_awake.f k  = some r) :
  Calls Try.prog 20 #[] w fun e w'=>e = .returned (.bool r)∧Below w.heap.size w w':=by
 have HB:=Aside0.mk (Below.refl w.heap.size w)
 have H :((turns_Set.f 2 2).bind fun bt128=>((turns_Choice.f 3 2 1).bind fun bt132=>((turns_Order.f 3 3).bind fun bt136=>((turns_Groupings.f 5).bind fun bt140=>((turns_Setting.f (([2,3] : List Int)) 3).bind fun bt145=>(if bt128.2 = 0 then((w10_ints.f k bt128.1 (([1,2] : List Int))).bind fun t152=>(if t152 = true then(if bt132.2 = 0 then((w10_ints.f k bt132.1 (([2,3] : List Int))).bind fun t156=>(if t156 = true then(if bt136.2 = 0 then((w10_ints.f k bt136.1 (([3,2,1] : List Int))).bind fun t160=>(if t160 = true then(if bt140.2 = 0 then(if bt140.1 = 52 then(if bt145.2 = 0 then((w10_ints.f k bt145.1 (([1,2] : List Int))).bind fun t164=>(w10_awake.j0 k (!t164))) else(w10_awake.j0 k true)) else(w10_awake.j0 k true)) else(w10_awake.j0 k true)) else(w10_awake.j0 k true))) else(w10_awake.j0 k true)) else(w10_awake.j0 k true))) else(w10_awake.j0 k true)) else(w10_awake.j0 k true))) else(w10_awake.j0 k true))))))) = some r:=h
 clear h
 replace H:=Option.bind_eq_some_iff.mp H
 obtain ⟨⟨t128,t129⟩,A10,H⟩:=H
 replace H :((turns_Choice.f 3 2 1).bind fun bt132=>((turns_Order.f 3 3).bind fun bt136=>((turns_Groupings.f 5).bind fun bt140=>((turns_Setting.f (([2,3] : List Int)) 3).bind fun bt145=>(if t129 = 0 then((w10_ints.f k t128 (([1,2] : List Int))).bind fun t152=>(if t152 = true then(if bt132.2 = 0 then((w10_ints.f k bt132.1 (([2,3] : List Int))).bind fun t156=>(if t156 = true then(if bt136.2 = 0 then((w10_ints.f k bt136.1 (([3,2,1] : List Int))).bind fun t160=>(if t160 = true then(if bt140.2 = 0 then(if bt140.1 = 52 then(if bt145.2 = 0 then((w10_ints.f k bt145.1 (([1,2] : List Int))).bind fun t164=>(w10_awake.j0 k (!t164))) else(w10_awake.j0 k true)) else(w10_awake.j0 k true)) else(w10_awake.j0 k true)) else(w10_awake.j0 k true))) else(w10_awake.j0 k true)) else(w10_awake.j0 k true))) else(w10_awake.j0 k true)) else(w10_awake.j0 k true))) else(w10_awake.j0 k true)))))) = some r:=H
 have A1:=Aside0.mk A10
 clear A10
 replace H:=Option.bind_eq_some_iff.mp H
 obtain ⟨⟨t132,t133⟩,A20,H⟩:=H
 replace H :((turns_Order.f 3 3).bind fun bt136=>((turns_Groupings.f 5).bind fun bt140=>((turns_Setting.f (([2,3] : List Int)) 3).bind fun bt145=>(if t129 = 0 then((w10_ints.f k t128 (([1,2] : List Int))).bind fun t152=>(if t152 = true then(if t133 = 0 then((w10_ints.f k t132 (([2,3] : List Int))).bind fun t156=>(if t156 = true then(if bt136.2 = 0 then((w10_ints.f k bt136.1 (([3,2,1] : List Int))).bind fun t160=>(if t160 = true then(if bt140.2 = 0 then(if bt140.1 = 52 then(if bt145.2 = 0 then((w10_ints.f k bt145.1 (([1,2] : List Int))).bind fun t164=>(w10_awake.j0 k (!t164))) else(w10_awake.j0 k true)) else(w10_awake.j0 k true)) else(w10_awake.j0 k true)) else(w10_awake.j0 k true))) else(w10_awake.j0 k true)) else(w10_awake.j0 k true))) else(w10_awake.j0 k true)) else(w10_awake.j0 k true))) else(w10_awake.j0 k true))))) = some r:=H
 have A2:=Aside0.mk A20
 clear A20
 replace H:=Option.bind_eq_some_iff.mp H
 obtain ⟨⟨t136,t137⟩,A30,H⟩:=H
 replace H :((turns_Groupings.f 5).bind fun bt140=>((turns_Setting.f (([2,3] : List Int)) 3).bind fun bt145=>(if t129 = 0 then((w10_ints.f k t128 (([1,2] : List Int))).bind fun t152=>(if t152 = true then(if t133 = 0 then((w10_ints.f k t132 (([2,3] : List Int))).bind fun t156=>(if t156 = true then(if t137 = 0 then((w10_ints.f k t136 (([3,2,1] : List Int))).bind fun t160=>(if t160 = true then(if bt140.2 = 0 then(if bt140.1 = 52 then(if bt145.2 = 0 then((w10_ints.f k bt145.1 (([1,2] : List Int))).bind fun t164=>(w10_awake.j0 k (!t164))) else(w10_awake.j0 k true)) else(w10_awake.j0 k true)) else(w10_awake.j0 k true)) else(w10_awake.j0 k true))) else(w10_awake.j0 k true)) else(w10_awake.j0 k true))) else(w10_awake.j0 k true)) else(w10_awake.j0 k true))) else(w10_awake.j0 k true)))) = some r:=H
 have A3:=Aside0.mk A30
 clear A30
 replace H:=Option.bind_eq_some_iff.mp H
 obtain ⟨⟨t140,t141⟩,A40,H⟩:=H
 replace H :((turns_Setting.f (([2,3] : List Int)) 3).bind fun bt145=>(if t129 = 0 then((w10_ints.f k t128 (([1,2] : List Int))).bind fun t152=>(if t152 = true then(if t133 = 0 then((w10_ints.f k t132 (([2,3] : List Int))).bind fun t156=>(if t156 = true then(if t137 = 0 then((w10_ints.f k t136 (([3,2,1] : List Int))).bind fun t160=>(if t160 = true then(if t141 = 0 then(if t140 = 52 then(if bt145.2 = 0 then((w10_ints.f k bt145.1 (([1,2] : List Int))).bind fun t164=>(w10_awake.j0 k (!t164))) else(w10_awake.j0 k true)) else(w10_awake.j0 k true)) else(w10_awake.j0 k true)) else(w10_awake.j0 k true))) else(w10_awake.j0 k true)) else(w10_awake.j0 k true))) else(w10_awake.j0 k true)) else(w10_awake.j0 k true))) else(w10_awake.j0 k true))) = some r:=H
 have A4:=Aside0.mk A40
 clear A40
 obtain ⟨y142,hy142⟩ : ∃ y_ : List Int,y_ =(([2,3] : List Int)):=⟨_,rfl⟩
 replace H :((turns_Setting.f y142 3).bind fun bt145=>(if t129 = 0 then((w10_ints.f k t128 (([1,2] : List Int))).bind fun t152=>(if t152 = true then(if t133 = 0 then((w10_ints.f k t132 (([2,3] : List Int))).bind fun t156=>(if t156 = true then(if t137 = 0 then((w10_ints.f k t136 (([3,2,1] : List Int))).bind fun t160=>(if t160 = true then(if t141 = 0 then(if t140 = 52 then(if bt145.2 = 0 then((w10_ints.f k bt145.1 (([1,2] : List Int))).bind fun t164=>(w10_awake.j0 k (!t164))) else(w10_awake.j0 k true)) else(w10_awake.j0 k true)) else(w10_awake.j0 k true)) else(w10_awake.j0 k true))) else(w10_awake.j0 k true)) else(w10_awake.j0 k true))) else(w10_awake.j0 k true)) else(w10_awake.j0 k true))) else(w10_awake.j0 k true))) = some r:=by first |(rw [hy142];with_reducible exact H) |(have H2_:=(Option.bind_some _ _).symm.trans H;rw [hy142];with_reducible exact H2_) |(have H2_:=(Option.bind_some _ _).symm.trans H;with_reducible exact H2_) | with_reducible exact H |(rw [hy142];exact H) | exact H
 have Ny142:=Aside0.mk hy142
 clear hy142
 replace H:=Option.bind_eq_some_iff.mp H
 obtain ⟨⟨t145,t146⟩,A50,H⟩:=H
 replace H :(if t129 = 0 then((w10_ints.f k t128 (([1,2] : List Int))).bind fun t152=>(if t152 = true then(if t133 = 0 then((w10_ints.f k t132 (([2,3] : List Int))).bind fun t156=>(if t156 = true then(if t137 = 0 then((w10_ints.f k t136 (([3,2,1] : List Int))).bind fun t160=>(if t160 = true then(if t141 = 0 then(if t140 = 52 then(if t146 = 0 then((w10_ints.f k t145 (([1,2] : List Int))).bind fun t164=>(w10_awake.j0 k (!t164))) else(w10_awake.j0 k true)) else(w10_awake.j0 k true)) else(w10_awake.j0 k true)) else(w10_awake.j0 k true))) else(w10_awake.j0 k true)) else(w10_awake.j0 k true))) else(w10_awake.j0 k true)) else(w10_awake.j0 k true))) else(w10_awake.j0 k true)) = some r:=H
 have A5:=Aside0.mk A50
 clear A50
 have HC6:=Aside0.mk H
 clear H
 go_enter Try.func20,Try.ntmps20
 go_upto_region 6 with (first |((with_reducible refine gate_callee (f:=38) rfl ?_);refine goesL_ (some 12) rfl rfl Try.func38 (by kernel_rfl) rfl #[.int .i64 2,.int .i64 2] rfl (by(try simp only [List.map_toArray,List.map_cons,List.map_nil]);first | done | rfl |(simp only [List.length_drop,List.length_take];rfl)) ?_;(with_reducible refine(turns_Set.calls 2 2 t128 t129 _ A1.out).mono ?_);rintro e w7 ⟨v130,rfl,ho0,hb⟩;refine⟨_,rfl,?_⟩;have n0_:=Aside0.mk (Kd.R_lower ho0 (bwZ (by repeat(first |(with_reducible first | exact HB.out | apply bwA | apply bwN | apply bw1) | exact HB.out))));have n1_:=Aside0.mk (bwT (by repeat(first |(with_reducible first | exact HB.out | apply bwA | apply bwN | apply bw1) | exact HB.out)) hb);clear HB;have HO131:=n0_;have HB:=n1_;clear n0_ n1_;(try clear hb);(try clear hb2);(try clear hk);(try clear hi);(try clear ho0)) |((with_reducible refine gate_callee (f:=31) rfl ?_);refine goesL_ (some 16) rfl rfl Try.func31 (by kernel_rfl) rfl #[.int .i64 3,.int .i64 2,.int .i64 1] rfl (by(try simp only [List.map_toArray,List.map_cons,List.map_nil]);first | done | rfl |(simp only [List.length_drop,List.length_take];rfl)) ?_;(with_reducible refine(turns_Choice.calls 3 2 1 t132 t133 _ A2.out).mono ?_);rintro e w8 ⟨v134,rfl,ho0,hb⟩;refine⟨_,rfl,?_⟩;have n0_:=Aside0.mk (Kd.R_elder' (by(with_reducible repeat(first | apply Kd.R_alloc | apply Kd.R_drewN | apply Kd.R_drew));exact HO131.out) (Kd.R_base ho0) hb);have n1_:=Aside0.mk (Kd.R_lower (Kd.R_new' ho0 (Kd.R_lt (by(with_reducible repeat(first | apply Kd.R_alloc | apply Kd.R_drewN | apply Kd.R_drew));exact HO131.out))) (bwZ (by repeat(first |(with_reducible first | exact HB.out | apply bwA | apply bwN | apply bw1) | exact HB.out))));have n2_:=Aside0.mk (bwT (by repeat(first |(with_reducible first | exact HB.out | apply bwA | apply bwN | apply bw1) | exact HB.out)) hb);clear HO131;clear HB;have HO131:=n0_;have HO135:=n1_;have HB:=n2_;clear n0_ n1_ n2_;(try clear hb);(try clear hb2);(try clear hk);(try clear hi);(try clear ho0)) |((with_reducible refine gate_callee (f:=48) rfl ?_);refine goesL_ (some 20) rfl rfl Try.func48 (by kernel_rfl) rfl #[.int .i64 3,.int .i64 3] rfl (by(try simp only [List.map_toArray,List.map_cons,List.map_nil]);first | done | rfl |(simp only [List.length_drop,List.length_take];rfl)) ?_;(with_reducible refine(turns_Order.calls 3 3 t136 t137 _ A3.out).mono ?_);rintro e w9 ⟨v138,rfl,ho0,hb⟩;refine⟨_,rfl,?_⟩;have n0_:=Aside0.mk (Kd.R_elder' (by(with_reducible repeat(first | apply Kd.R_alloc | apply Kd.R_drewN | apply Kd.R_drew));exact HO131.out) (Kd.R_base ho0) hb);have n1_:=Aside0.mk (Kd.R_elder' (by(with_reducible repeat(first | apply Kd.R_alloc | apply Kd.R_drewN | apply Kd.R_drew));exact HO135.out) (Kd.R_base ho0) hb);have n2_:=Aside0.mk (Kd.R_lower (Kd.R_new' (Kd.R_new' ho0 (Kd.R_lt (by(with_reducible repeat(first | apply Kd.R_alloc | apply Kd.R_drewN | apply Kd.R_drew));exact HO131.out))) (Kd.R_lt (by(with_reducible repeat(first | apply Kd.R_alloc | apply Kd.R_drewN | apply Kd.R_drew));exact HO135.out))) (bwZ (by repeat(first |(with_reducible first | exact HB.out | apply bwA | apply bwN | apply bw1) | exact HB.out))));have n3_:=Aside0.mk (bwT (by repeat(first |(with_reducible first | exact HB.out | apply bwA | apply bwN | apply bw1) | exact HB.out)) hb);clear HO131;clear HO135;clear HB;have HO131:=n0_;have HO135:=n1_;have HO139:=n2_;have HB:=n3_;clear n0_ n1_ n2_ n3_;(try clear hb);(try clear hb2);(try clear hk);(try clear hi);(try clear ho0)) |((with_reducible refine gate_callee (f:=28) rfl ?_);refine goesL_ (some 24) rfl rfl Try.func28 (by kernel_rfl) rfl #[.int .i64 5] rfl (by(try simp only [List.map_toArray,List.map_cons,List.map_nil]);first | done | rfl |(simp only [List.length_drop,List.length_take];rfl)) ?_;(with_reducible refine(turns_Groupings.calls 5 t140 t141 _ A4.out).mono ?_);rintro e w10 ⟨rfl,hb⟩;refine⟨_,rfl,?_⟩;have n0_:=Aside0.mk (Kd.R_below (by(with_reducible repeat(first | apply Kd.R_alloc | apply Kd.R_drewN | apply Kd.R_drew));exact HO131.out) hb);have n1_:=Aside0.mk (Kd.R_below (by(with_reducible repeat(first | apply Kd.R_alloc | apply Kd.R_drewN | apply Kd.R_drew));exact HO135.out) hb);have n2_:=Aside0.mk (Kd.R_below (by(with_reducible repeat(first | apply Kd.R_alloc | apply Kd.R_drewN | apply Kd.R_drew));exact HO139.out) hb);have n3_:=Aside0.mk (bwT (by repeat(first |(with_reducible first | exact HB.out | apply bwA | apply bwN | apply bw1) | exact HB.out)) hb);clear HO131;clear HO135;clear HO139;clear HB;have HO131:=n0_;have HO135:=n1_;have HO139:=n2_;have HB:=n3_;clear n0_ n1_ n2_ n3_;(try clear hb);(try clear hb2);(try clear hk);(try clear hi)) |((with_reducible refine gate_dst (N:=28) rfl ?_);(try(refine gate_guard (by rfl) ?_;dsimp only));refine Kd.R_lit (Kd.int .i64) _ 3 ?hg (N:=28) ?hd (xs:=([2,3] : List Int)) (inner:=[.int .i64 2,.int .i64 3]) (ok:=fun _=>True) (okp:=fun _=>True) ?hr ?hp (fun _ hk=>hk) trivial (Below.refl _ _) (Nat.le_refl _) (by simp) ?_;(case hd=>rfl);(case hg=>rfl);(case hr=>first |(go_simp;done) |(go_simp;rfl));(case hp=>exact(Reps.one (show Kd.M (Kd.int .i64) _ _ _ 2 [.int .i64 2] from rfl) (Reps.one (show Kd.M (Kd.int .i64) _ _ _ 3 [.int .i64 3] from rfl) (Reps.none _ _))));intro v143 w11 ho12 hb hg_ hnew_;clear hg_ hnew_;(first | rw [← Ny142.out] at ho12 |(simp only [Int.reduceToNat] at ho12;rw [← Ny142.out] at ho12));have n0_:=Aside0.mk (Kd.R_elder' (by(with_reducible repeat(first | apply Kd.R_alloc | apply Kd.R_drewN | apply Kd.R_drew));exact HO131.out) (Kd.R_base ho12) hb);have n1_:=Aside0.mk (Kd.R_elder' (by(with_reducible repeat(first | apply Kd.R_alloc | apply Kd.R_drewN | apply Kd.R_drew));exact HO135.out) (Kd.R_base ho12) hb);have n2_:=Aside0.mk (Kd.R_elder' (by(with_reducible repeat(first | apply Kd.R_alloc | apply Kd.R_drewN | apply Kd.R_drew));exact HO139.out) (Kd.R_base ho12) hb);have n3_:=Aside0.mk (Kd.R_lower (Kd.R_new' (Kd.R_new' (Kd.R_new' ho12 (Kd.R_lt (by(with_reducible repeat(first | apply Kd.R_alloc | apply Kd.R_drewN | apply Kd.R_drew));exact HO131.out))) (Kd.R_lt (by(with_reducible repeat(first | apply Kd.R_alloc | apply Kd.R_drewN | apply Kd.R_drew));exact HO135.out))) (Kd.R_lt (by(with_reducible repeat(first | apply Kd.R_alloc | apply Kd.R_drewN | apply Kd.R_drew));exact HO139.out))) (bwZ (by repeat(first |(with_reducible first | exact HB.out | apply bwA | apply bwN | apply bw1) | exact HB.out))));have n4_:=Aside0.mk (bwT (by repeat(first |(with_reducible first | exact HB.out | apply bwA | apply bwN | apply bw1) | exact HB.out)) hb);clear HO131;clear HO135;clear HO139;clear HB;have HO131:=n0_;have HO135:=n1_;have HO139:=n2_;have HO144:=n3_;have HB:=n4_;clear n0_ n1_ n2_ n3_ n4_;clear hb ho12;obtain ⟨Ao13,co13,eo13⟩:=Kd.R_slice HO144.out;subst eo13) |((with_reducible refine gate_callee (f:=17) rfl ?_);refine goesL_ (some 29) rfl rfl Try.func17 (by kernel_rfl) rfl #[.slice Ao13 y142.length co13,.int .i64 3] rfl (by(try simp only [List.map_toArray,List.map_cons,List.map_nil]);first | done | rfl |(simp only [List.length_drop,List.length_take];rfl)) ?_;(with_reducible refine(turns_Setting.calls _ _ y142 3 t145 t146 _ ?side1 ?side2 A5.out).mono ?_);(case side1=>repeat(first | exact(Kd.R_reads' HO144.out).2.2 |(with_reducible refine Kd.C_alloc ?_ _) |(with_reducible refine Kd.C_drewN ?_ _) |(with_reducible refine Kd.C_drew ?_)));(case side2=>exact(Kd.R_reads' HO144.out).2.1);rintro e w14 ⟨v147,rfl,ho0,hb⟩;refine⟨_,rfl,?_⟩;have n0_:=Aside0.mk (Kd.R_elder' (by(with_reducible repeat(first | apply Kd.R_alloc | apply Kd.R_drewN | apply Kd.R_drew));exact HO131.out) (Kd.R_base ho0) hb);have n1_:=Aside0.mk (Kd.R_elder' (by(with_reducible repeat(first | apply Kd.R_alloc | apply Kd.R_drewN | apply Kd.R_drew));exact HO135.out) (Kd.R_base ho0) hb);have n2_:=Aside0.mk (Kd.R_elder' (by(with_reducible repeat(first | apply Kd.R_alloc | apply Kd.R_drewN | apply Kd.R_drew));exact HO139.out) (Kd.R_base ho0) hb);have n3_:=Aside0.mk (Kd.R_elder' (by(with_reducible repeat(first | apply Kd.R_alloc | apply Kd.R_drewN | apply Kd.R_drew));exact HO144.out) (Kd.R_base ho0) hb);have n4_:=Aside0.mk (Kd.R_lower (Kd.R_new' (Kd.R_new' (Kd.R_new' (Kd.R_new' ho0 (Kd.R_lt (by(with_reducible repeat(first | apply Kd.R_alloc | apply Kd.R_drewN | apply Kd.R_drew));exact HO131.out))) (Kd.R_lt (by(with_reducible repeat(first | apply Kd.R_alloc | apply Kd.R_drewN | apply Kd.R_drew));exact HO135.out))) (Kd.R_lt (by(with_reducible repeat(first | apply Kd.R_alloc | apply Kd.R_drewN | apply Kd.R_drew));exact HO139.out))) (Kd.R_lt (by(with_reducible repeat(first | apply Kd.R_alloc | apply Kd.R_drewN | apply Kd.R_drew));exact HO144.out))) (bwZ (by repeat(first |(with_reducible first | exact HB.out | apply bwA | apply bwN | apply bw1) | exact HB.out))));have n5_:=Aside0.mk (bwT (by repeat(first |(with_reducible first | exact HB.out | apply bwA | apply bwN | apply bw1) | exact HB.out)) hb);clear HO131;clear HO135;clear HO139;clear HO144;clear HB;have HO131:=n0_;have HO135:=n1_;have HO139:=n2_;have HO144:=n3_;have HO148:=n4_;have HB:=n5_;clear n0_ n1_ n2_ n3_ n4_ n5_;(try clear hb);(try clear hb2);(try clear hk);(try clear hi);(try clear ho0)))
 (try simp only [Act.put,List.setIfInBounds_toArray,List.set_cons_zero,List.set_cons_succ])
 go_cut [77] (fun v77 wc=>∃ (kq : Nat) (x77_5 : Bool),v77 = .bool x77_5∧Aside0 (w10_awake.j0 kq x77_5 = some r)∧Aside0 (kq≤k)∧Aside0 (Below w.heap.size w wc))
 case first =>
  have H:=HC6.out
  clear HC6
  by_cases c15 : t129 = 0
  rotate_left
  ·rw [if_neg c15] at H
   have c15b0 :(t129 == 0) = false:=beq_eq_false_iff_ne.mpr c15
   have c15b1 :(t129 != 0) = true:=bne_iff_ne.mpr c15
   (first | rw [c15b0] |(simp only [i64_w,i32_w];rw [c15b0]) | skip)
   have H':=Aside0.mk H
   clear H
   go_wp2
   go_meet
   exact⟨_,(true),(by first | rfl |(simp;done) |(simp [*];done)),H',⟨by first | omega | exact Nat.le_refl _⟩,⟨by repeat(first |(with_reducible first | exact HB.out | apply bwA | apply bwN | apply bw1) | exact HB.out)⟩⟩
  rw [if_pos c15] at H
  have c15b0 :(t129 == 0) = true:=beq_iff_eq.mpr c15
  have c15b1 :(t129 != 0) = false:=bne_eq_false_iff_eq.mpr c15
  clear c15
  (first | rw [c15b0] |(simp only [i64_w,i32_w];rw [c15b0]) | skip)
  obtain ⟨y149,hy149⟩ : ∃ y_ : List Int,y_ =(([1,2] : List Int)):=⟨_,rfl⟩
  replace H :((w10_ints.f k t128 y149).bind fun t152=>(if t152 = true then(if t133 = 0 then((w10_ints.f k t132 (([2,3] : List Int))).bind fun t156=>(if t156 = true then(if t137 = 0 then((w10_ints.f k t136 (([3,2,1] : List Int))).bind fun t160=>(if t160 = true then(if t141 = 0 then(if t140 = 52 then(if t146 = 0 then((w10_ints.f k t145 (([1,2] : List Int))).bind fun t164=>(w10_awake.j0 k (!t164))) else(w10_awake.j0 k true)) else(w10_awake.j0 k true)) else(w10_awake.j0 k true)) else(w10_awake.j0 k true))) else(w10_awake.j0 k true)) else(w10_awake.j0 k true))) else(w10_awake.j0 k true)) else(w10_awake.j0 k true))) = some r:=by first |(rw [hy149];with_reducible exact H) |(have H2_:=(Option.bind_some _ _).symm.trans H;rw [hy149];with_reducible exact H2_) |(have H2_:=(Option.bind_some _ _).symm.trans H;with_reducible exact H2_) | with_reducible exact H |(rw [hy149];exact H) | exact H
  have Ny149:=Aside0.mk hy149
  clear hy149
  replace H:=Option.bind_eq_some_iff.mp H
  obtain ⟨t152,A160,H⟩:=H
  replace H :(if t152 = true then(if t133 = 0 then((w10_ints.f k t132 (([2,3] : List Int))).bind fun t156=>(if t156 = true then(if t137 = 0 then((w10_ints.f k t136 (([3,2,1] : List Int))).bind fun t160=>(if t160 = true then(if t141 = 0 then(if t140 = 52 then(if t146 = 0 then((w10_ints.f k t145 (([1,2] : List Int))).bind fun t164=>(w10_awake.j0 k (!t164))) else(w10_awake.j0 k true)) else(w10_awake.j0 k true)) else(w10_awake.j0 k true)) else(w10_awake.j0 k true))) else(w10_awake.j0 k true)) else(w10_awake.j0 k true))) else(w10_awake.j0 k true)) else(w10_awake.j0 k true)) = some r:=H
  have A16:=Aside0.mk A160
  clear A160
  by_cases c17 : t152 = true
  rotate_left
  ·replace c17 := Bool.eq_false_iff.mpr c17
   subst c17
   have H1 :(w10_awake.j0 k true) = some r:=by rw [if_neg (show ¬ (false = true) by decide)] at H;exact H
   clear H
   have H:=H1
   clear H1
   have H':=Aside0.mk H
   clear H
   go_wp2_with (first |((with_reducible refine gate_dst (N:=36) rfl ?_);(try(refine gate_guard (by rfl) ?_;dsimp only));refine Kd.R_lit (Kd.int .i64) _ 3 ?hg (N:=36) ?hd (xs:=([1,2] : List Int)) (inner:=[.int .i64 1,.int .i64 2]) (ok:=fun _=>True) (okp:=fun _=>True) ?hr ?hp (fun _ hk=>hk) trivial (Below.refl _ _) (Nat.le_refl _) (by simp) ?_;(case hd=>rfl);(case hg=>rfl);(case hr=>first |(go_simp;done) |(go_simp;rfl));(case hp=>exact(Reps.one (show Kd.M (Kd.int .i64) _ _ _ 1 [.int .i64 1] from rfl) (Reps.one (show Kd.M (Kd.int .i64) _ _ _ 2 [.int .i64 2] from rfl) (Reps.none _ _))));intro v150 w112 ho113 hb hg_ hnew_;clear hg_ hnew_;(first | rw [← Ny149.out] at ho113 |(simp only [Int.reduceToNat] at ho113;rw [← Ny149.out] at ho113));have n0_:=Aside0.mk (Kd.R_elder' (by(with_reducible repeat(first | apply Kd.R_alloc | apply Kd.R_drewN | apply Kd.R_drew));exact HO131.out) (Kd.R_base ho113) hb);have n1_:=Aside0.mk (Kd.R_elder' (by(with_reducible repeat(first | apply Kd.R_alloc | apply Kd.R_drewN | apply Kd.R_drew));exact HO135.out) (Kd.R_base ho113) hb);have n2_:=Aside0.mk (Kd.R_elder' (by(with_reducible repeat(first | apply Kd.R_alloc | apply Kd.R_drewN | apply Kd.R_drew));exact HO139.out) (Kd.R_base ho113) hb);have n3_:=Aside0.mk (Kd.R_elder' (by(with_reducible repeat(first | apply Kd.R_alloc | apply Kd.R_drewN | apply Kd.R_drew));exact HO144.out) (Kd.R_base ho113) hb);have n4_:=Aside0.mk (Kd.R_elder' (by(with_reducible repeat(first | apply Kd.R_alloc | apply Kd.R_drewN | apply Kd.R_drew));exact HO148.out) (Kd.R_base ho113) hb);have n5_:=Aside0.mk (Kd.R_lower (Kd.R_new' (Kd.R_new' (Kd.R_new' (Kd.R_new' (Kd.R_new' ho113 (Kd.R_lt (by(with_reducible repeat(first | apply Kd.R_alloc | apply Kd.R_drewN | apply Kd.R_drew));exact HO131.out))) (Kd.R_lt (by(with_reducible repeat(first | apply Kd.R_alloc | apply Kd.R_drewN | apply Kd.R_drew));exact HO135.out))) (Kd.R_lt (by(with_reducible repeat(first | apply Kd.R_alloc | apply Kd.R_drewN | apply Kd.R_drew));exact HO139.out))) (Kd.R_lt (by(with_reducible repeat(first | apply Kd.R_alloc | apply Kd.R_drewN | apply Kd.R_drew));exact HO144.out))) (Kd.R_lt (by(with_reducible repeat(first | apply Kd.R_alloc | apply Kd.R_drewN | apply Kd.R_drew));exact HO148.out))) (bwZ (by repeat(first |(with_reducible first | exact HB.out | apply bwA | apply bwN | apply bw1) | exact HB.out))));have n6_:=Aside0.mk (bwT (by repeat(first |(with_reducible first | exact HB.out | apply bwA | apply bwN | apply bw1) | exact HB.out)) hb);clear HO131;clear HO135;clear HO139;clear HO144;clear HO148;clear HB;have HO131:=n0_;have HO135:=n1_;have HO139:=n2_;have HO144:=n3_;have HO148:=n4_;have HO151:=n5_;have HB:=n6_;clear n0_ n1_ n2_ n3_ n4_ n5_ n6_;clear hb ho113;obtain ⟨Ao114,co114,eo114⟩:=Kd.R_slice HO131.out;subst eo114;obtain ⟨Ao115,co115,eo115⟩:=Kd.R_slice HO151.out;subst eo115) |(go_at_call 22;(with_reducible refine(w10_ints.calls k _ _ t128 _ _ y149 false _ ?side1 ?side2 ?side3 ?side4 A16.out).mono ?_);(case side1=>repeat(first | exact(Kd.R_reads' HO131.out).2.2 |(with_reducible refine Kd.C_alloc ?_ _) |(with_reducible refine Kd.C_drewN ?_ _) |(with_reducible refine Kd.C_drew ?_)));(case side2=>exact(Kd.R_reads' HO131.out).2.1);(case side3=>repeat(first | exact(Kd.R_reads' HO151.out).2.2 |(with_reducible refine Kd.C_alloc ?_ _) |(with_reducible refine Kd.C_drewN ?_ _) |(with_reducible refine Kd.C_drew ?_)));(case side4=>exact(Kd.R_reads' HO151.out).2.1);rintro e w' ⟨rfl,⟨nd,rfl⟩⟩))
   go_meet
   exact⟨_,(true),(by first | rfl |(simp;done) |(simp [*];done)),H',⟨by first | omega | exact Nat.le_refl _⟩,⟨by repeat(first |(with_reducible first | exact HB.out | apply bwA | apply bwN | apply bw1) | exact HB.out)⟩⟩
  subst c17
  have H1 :(if t133 = 0 then((w10_ints.f k t132 (([2,3] : List Int))).bind fun t156=>(if t156 = true then(if t137 = 0 then((w10_ints.f k t136 (([3,2,1] : List Int))).bind fun t160=>(if t160 = true then(if t141 = 0 then(if t140 = 52 then(if t146 = 0 then((w10_ints.f k t145 (([1,2] : List Int))).bind fun t164=>(w10_awake.j0 k (!t164))) else(w10_awake.j0 k true)) else(w10_awake.j0 k true)) else(w10_awake.j0 k true)) else(w10_awake.j0 k true))) else(w10_awake.j0 k true)) else(w10_awake.j0 k true))) else(w10_awake.j0 k true)) = some r:=by rw [if_pos rfl] at H;exact H
  clear H
  have H:=H1
  clear H1
  by_cases c18 : t133 = 0
  rotate_left
  ·rw [if_neg c18] at H
   have c18b0 :(t133 == 0) = false:=beq_eq_false_iff_ne.mpr c18
   have c18b1 :(t133 != 0) = true:=bne_iff_ne.mpr c18
   have H':=Aside0.mk H
   clear H
   go_wp2_with (first |((with_reducible refine gate_dst (N:=36) rfl ?_);(try(refine gate_guard (by rfl) ?_;dsimp only));refine Kd.R_lit (Kd.int .i64) _ 3 ?hg (N:=36) ?hd (xs:=([1,2] : List Int)) (inner:=[.int .i64 1,.int .i64 2]) (ok:=fun _=>True) (okp:=fun _=>True) ?hr ?hp (fun _ hk=>hk) trivial (Below.refl _ _) (Nat.le_refl _) (by simp) ?_;(case hd=>rfl);(case hg=>rfl);(case hr=>first |(go_simp;done) |(go_simp;rfl));(case hp=>exact(Reps.one (show Kd.M (Kd.int .i64) _ _ _ 1 [.int .i64 1] from rfl) (Reps.one (show Kd.M (Kd.int .i64) _ _ _ 2 [.int .i64 2] from rfl) (Reps.none _ _))));intro v150 w108 ho109 hb hg_ hnew_;clear hg_ hnew_;(first | rw [← Ny149.out] at ho109 |(simp only [Int.reduceToNat] at ho109;rw [← Ny149.out] at ho109));have n0_:=Aside0.mk (Kd.R_elder' (by(with_reducible repeat(first | apply Kd.R_alloc | apply Kd.R_drewN | apply Kd.R_drew));exact HO131.out) (Kd.R_base ho109) hb);have n1_:=Aside0.mk (Kd.R_elder' (by(with_reducible repeat(first | apply Kd.R_alloc | apply Kd.R_drewN | apply Kd.R_drew));exact HO135.out) (Kd.R_base ho109) hb);have n2_:=Aside0.mk (Kd.R_elder' (by(with_reducible repeat(first | apply Kd.R_alloc | apply Kd.R_drewN | apply Kd.R_drew));exact HO139.out) (Kd.R_base ho109) hb);have n3_:=Aside0.mk (Kd.R_elder' (by(with_reducible repeat(first | apply Kd.R_alloc | apply Kd.R_drewN | apply Kd.R_drew));exact HO144.out) (Kd.R_base ho109) hb);have n4_:=Aside0.mk (Kd.R_elder' (by(with_reducible repeat(first | apply Kd.R_alloc | apply Kd.R_drewN | apply Kd.R_drew));exact HO148.out) (Kd.R_base ho109) hb);have n5_:=Aside0.mk (Kd.R_lower (Kd.R_new' (Kd.R_new' (Kd.R_new' (Kd.R_new' (Kd.R_new' ho109 (Kd.R_lt (by(with_reducible repeat(first | apply Kd.R_alloc | apply Kd.R_drewN | apply Kd.R_drew));exact HO131.out))) (Kd.R_lt (by(with_reducible repeat(first | apply Kd.R_alloc | apply Kd.R_drewN | apply Kd.R_drew));exact HO135.out))) (Kd.R_lt (by(with_reducible repeat(first | apply Kd.R_alloc | apply Kd.R_drewN | apply Kd.R_drew));exact HO139.out))) (Kd.R_lt (by(with_reducible repeat(first | apply Kd.R_alloc | apply Kd.R_drewN | apply Kd.R_drew));exact HO144.out))) (Kd.R_lt (by(with_reducible repeat(first | apply Kd.R_alloc | apply Kd.R_drewN | apply Kd.R_drew));exact HO148.out))) (bwZ (by repeat(first |(with_reducible first | exact HB.out | apply bwA | apply bwN | apply bw1) | exact HB.out))));have n6_:=Aside0.mk (bwT (by repeat(first |(with_reducible first | exact HB.out | apply bwA | apply bwN | apply bw1) | exact HB.out)) hb);clear HO131;clear HO135;clear HO139;clear HO144;clear HO148;clear HB;have HO131:=n0_;have HO135:=n1_;have HO139:=n2_;have HO144:=n3_;have HO148:=n4_;have HO151:=n5_;have HB:=n6_;clear n0_ n1_ n2_ n3_ n4_ n5_ n6_;clear hb ho109;obtain ⟨Ao110,co110,eo110⟩:=Kd.R_slice HO131.out;subst eo110;obtain ⟨Ao111,co111,eo111⟩:=Kd.R_slice HO151.out;subst eo111) |(go_at_call 22;(with_reducible refine(w10_ints.calls k _ _ t128 _ _ y149 true _ ?side1 ?side2 ?side3 ?side4 A16.out).mono ?_);(case side1=>repeat(first | exact(Kd.R_reads' HO131.out).2.2 |(with_reducible refine Kd.C_alloc ?_ _) |(with_reducible refine Kd.C_drewN ?_ _) |(with_reducible refine Kd.C_drew ?_)));(case side2=>exact(Kd.R_reads' HO131.out).2.1);(case side3=>repeat(first | exact(Kd.R_reads' HO151.out).2.2 |(with_reducible refine Kd.C_alloc ?_ _) |(with_reducible refine Kd.C_drewN ?_ _) |(with_reducible refine Kd.C_drew ?_)));(case side4=>exact(Kd.R_reads' HO151.out).2.1);rintro e w' ⟨rfl,⟨nd,rfl⟩⟩))
   go_meet
   exact⟨_,(true),(by first | rfl |(simp;done) |(simp [*];done)),H',⟨by first | omega | exact Nat.le_refl _⟩,⟨by repeat(first |(with_reducible first | exact HB.out | apply bwA | apply bwN | apply bw1) | exact HB.out)⟩⟩
  rw [if_pos c18] at H
  have c18b0 :(t133 == 0) = true:=beq_iff_eq.mpr c18
  have c18b1 :(t133 != 0) = false:=bne_eq_false_iff_eq.mpr c18
  clear c18
  obtain ⟨y153,hy153⟩ : ∃ y_ : List Int,y_ =(([2,3] : List Int)):=⟨_,rfl⟩
  replace H :((w10_ints.f k t132 y153).bind fun t156=>(if t156 = true then(if t137 = 0 then((w10_ints.f k t136 (([3,2,1] : List Int))).bind fun t160=>(if t160 = true then(if t141 = 0 then(if t140 = 52 then(if t146 = 0 then((w10_ints.f k t145 (([1,2] : List Int))).bind fun t164=>(w10_awake.j0 k (!t164))) else(w10_awake.j0 k true)) else(w10_awake.j0 k true)) else(w10_awake.j0 k true)) else(w10_awake.j0 k true))) else(w10_awake.j0 k true)) else(w10_awake.j0 k true))) = some r:=by first |(rw [hy153];with_reducible exact H) |(have H2_:=(Option.bind_some _ _).symm.trans H;rw [hy153];with_reducible exact H2_) |(have H2_:=(Option.bind_some _ _).symm.trans H;with_reducible exact H2_) | with_reducible exact H |(rw [hy153];exact H) | exact H
  have Ny153:=Aside0.mk hy153
  clear hy153
  replace H:=Option.bind_eq_some_iff.mp H
  obtain ⟨t156,A190,H⟩:=H
  replace H :(if t156 = true then(if t137 = 0 then((w10_ints.f k t136 (([3,2,1] : List Int))).bind fun t160=>(if t160 = true then(if t141 = 0 then(if t140 = 52 then(if t146 = 0 then((w10_ints.f k t145 (([1,2] : List Int))).bind fun t164=>(w10_awake.j0 k (!t164))) else(w10_awake.j0 k true)) else(w10_awake.j0 k true)) else(w10_awake.j0 k true)) else(w10_awake.j0 k true))) else(w10_awake.j0 k true)) else(w10_awake.j0 k true)) = some r:=H
  have A19:=Aside0.mk A190
  clear A190
  by_cases c20 : t156 = true
  rotate_left
  ·replace c20 := Bool.eq_false_iff.mpr c20
   subst c20
   have H1 :(w10_awake.j0 k true) = some r:=by rw [if_neg (show ¬ (false = true) by decide)] at H;exact H
   clear H
   have H:=H1
   clear H1
   have H':=Aside0.mk H
   clear H
   go_wp2_with (first |((with_reducible refine gate_dst (N:=36) rfl ?_);(try(refine gate_guard (by rfl) ?_;dsimp only));refine Kd.R_lit (Kd.int .i64) _ 3 ?hg (N:=36) ?hd (xs:=([1,2] : List Int)) (inner:=[.int .i64 1,.int .i64 2]) (ok:=fun _=>True) (okp:=fun _=>True) ?hr ?hp (fun _ hk=>hk) trivial (Below.refl _ _) (Nat.le_refl _) (by simp) ?_;(case hd=>rfl);(case hg=>rfl);(case hr=>first |(go_simp;done) |(go_simp;rfl));(case hp=>exact(Reps.one (show Kd.M (Kd.int .i64) _ _ _ 1 [.int .i64 1] from rfl) (Reps.one (show Kd.M (Kd.int .i64) _ _ _ 2 [.int .i64 2] from rfl) (Reps.none _ _))));intro v150 w100 ho101 hb hg_ hnew_;clear hg_ hnew_;(first | rw [← Ny149.out] at ho101 |(simp only [Int.reduceToNat] at ho101;rw [← Ny149.out] at ho101));have n0_:=Aside0.mk (Kd.R_elder' (by(with_reducible repeat(first | apply Kd.R_alloc | apply Kd.R_drewN | apply Kd.R_drew));exact HO131.out) (Kd.R_base ho101) hb);have n1_:=Aside0.mk (Kd.R_elder' (by(with_reducible repeat(first | apply Kd.R_alloc | apply Kd.R_drewN | apply Kd.R_drew));exact HO135.out) (Kd.R_base ho101) hb);have n2_:=Aside0.mk (Kd.R_elder' (by(with_reducible repeat(first | apply Kd.R_alloc | apply Kd.R_drewN | apply Kd.R_drew));exact HO139.out) (Kd.R_base ho101) hb);have n3_:=Aside0.mk (Kd.R_elder' (by(with_reducible repeat(first | apply Kd.R_alloc | apply Kd.R_drewN | apply Kd.R_drew));exact HO144.out) (Kd.R_base ho101) hb);have n4_:=Aside0.mk (Kd.R_elder' (by(with_reducible repeat(first | apply Kd.R_alloc | apply Kd.R_drewN | apply Kd.R_drew));exact HO148.out) (Kd.R_base ho101) hb);have n5_:=Aside0.mk (Kd.R_lower (Kd.R_new' (Kd.R_new' (Kd.R_new' (Kd.R_new' (Kd.R_new' ho101 (Kd.R_lt (by(with_reducible repeat(first | apply Kd.R_alloc | apply Kd.R_drewN | apply Kd.R_drew));exact HO131.out))) (Kd.R_lt (by(with_reducible repeat(first | apply Kd.R_alloc | apply Kd.R_drewN | apply Kd.R_drew));exact HO135.out))) (Kd.R_lt (by(with_reducible repeat(first | apply Kd.R_alloc | apply Kd.R_drewN | apply Kd.R_drew));exact HO139.out))) (Kd.R_lt (by(with_reducible repeat(first | apply Kd.R_alloc | apply Kd.R_drewN | apply Kd.R_drew));exact HO144.out))) (Kd.R_lt (by(with_reducible repeat(first | apply Kd.R_alloc | apply Kd.R_drewN | apply Kd.R_drew));exact HO148.out))) (bwZ (by repeat(first |(with_reducible first | exact HB.out | apply bwA | apply bwN | apply bw1) | exact HB.out))));have n6_:=Aside0.mk (bwT (by repeat(first |(with_reducible first | exact HB.out | apply bwA | apply bwN | apply bw1) | exact HB.out)) hb);clear HO131;clear HO135;clear HO139;clear HO144;clear HO148;clear HB;have HO131:=n0_;have HO135:=n1_;have HO139:=n2_;have HO144:=n3_;have HO148:=n4_;have HO151:=n5_;have HB:=n6_;clear n0_ n1_ n2_ n3_ n4_ n5_ n6_;clear hb ho101;obtain ⟨Ao102,co102,eo102⟩:=Kd.R_slice HO131.out;subst eo102;obtain ⟨Ao103,co103,eo103⟩:=Kd.R_slice HO151.out;subst eo103) |(go_at_call 22;(with_reducible refine(w10_ints.calls k _ _ t128 _ _ y149 true _ ?side1 ?side2 ?side3 ?side4 A16.out).mono ?_);(case side1=>repeat(first | exact(Kd.R_reads' HO131.out).2.2 |(with_reducible refine Kd.C_alloc ?_ _) |(with_reducible refine Kd.C_drewN ?_ _) |(with_reducible refine Kd.C_drew ?_)));(case side2=>exact(Kd.R_reads' HO131.out).2.1);(case side3=>repeat(first | exact(Kd.R_reads' HO151.out).2.2 |(with_reducible refine Kd.C_alloc ?_ _) |(with_reducible refine Kd.C_drewN ?_ _) |(with_reducible refine Kd.C_drew ?_)));(case side4=>exact(Kd.R_reads' HO151.out).2.1);rintro e w' ⟨rfl,⟨nd,rfl⟩⟩) |((with_reducible refine gate_dst (N:=46) rfl ?_);(try(refine gate_guard (by rfl) ?_;dsimp only));refine Kd.R_lit (Kd.int .i64) _ 3 ?hg (N:=46) ?hd (xs:=([2,3] : List Int)) (inner:=[.int .i64 2,.int .i64 3]) (ok:=fun _=>True) (okp:=fun _=>True) ?hr ?hp (fun _ hk=>hk) trivial (Below.refl _ _) (Nat.le_refl _) (by simp) ?_;(case hd=>rfl);(case hg=>rfl);(case hr=>first |(go_simp;done) |(go_simp;rfl));(case hp=>exact(Reps.one (show Kd.M (Kd.int .i64) _ _ _ 2 [.int .i64 2] from rfl) (Reps.one (show Kd.M (Kd.int .i64) _ _ _ 3 [.int .i64 3] from rfl) (Reps.none _ _))));intro v154 w104 ho105 hb hg_ hnew_;clear hg_ hnew_;(first | rw [← Ny153.out] at ho105 |(simp only [Int.reduceToNat] at ho105;rw [← Ny153.out] at ho105));have n0_:=Aside0.mk (Kd.R_elder' (by(with_reducible repeat(first | apply Kd.R_alloc | apply Kd.R_drewN | apply Kd.R_drew));exact HO131.out) (Kd.R_base ho105) hb);have n1_:=Aside0.mk (Kd.R_elder' (by(with_reducible repeat(first | apply Kd.R_alloc | apply Kd.R_drewN | apply Kd.R_drew));exact HO135.out) (Kd.R_base ho105) hb);have n2_:=Aside0.mk (Kd.R_elder' (by(with_reducible repeat(first | apply Kd.R_alloc | apply Kd.R_drewN | apply Kd.R_drew));exact HO139.out) (Kd.R_base ho105) hb);have n3_:=Aside0.mk (Kd.R_elder' (by(with_reducible repeat(first | apply Kd.R_alloc | apply Kd.R_drewN | apply Kd.R_drew));exact HO144.out) (Kd.R_base ho105) hb);have n4_:=Aside0.mk (Kd.R_elder' (by(with_reducible repeat(first | apply Kd.R_alloc | apply Kd.R_drewN | apply Kd.R_drew));exact HO148.out) (Kd.R_base ho105) hb);have n5_:=Aside0.mk (Kd.R_elder' (by(with_reducible repeat(first | apply Kd.R_alloc | apply Kd.R_drewN | apply Kd.R_drew));exact HO151.out) (Kd.R_base ho105) hb);have n6_:=Aside0.mk (Kd.R_lower (Kd.R_new' (Kd.R_new' (Kd.R_new' (Kd.R_new' (Kd.R_new' (Kd.R_new' ho105 (Kd.R_lt (by(with_reducible repeat(first | apply Kd.R_alloc | apply Kd.R_drewN | apply Kd.R_drew));exact HO131.out))) (Kd.R_lt (by(with_reducible repeat(first | apply Kd.R_alloc | apply Kd.R_drewN | apply Kd.R_drew));exact HO135.out))) (Kd.R_lt (by(with_reducible repeat(first | apply Kd.R_alloc | apply Kd.R_drewN | apply Kd.R_drew));exact HO139.out))) (Kd.R_lt (by(with_reducible repeat(first | apply Kd.R_alloc | apply Kd.R_drewN | apply Kd.R_drew));exact HO144.out))) (Kd.R_lt (by(with_reducible repeat(first | apply Kd.R_alloc | apply Kd.R_drewN | apply Kd.R_drew));exact HO148.out))) (Kd.R_lt (by(with_reducible repeat(first | apply Kd.R_alloc | apply Kd.R_drewN | apply Kd.R_drew));exact HO151.out))) (bwZ (by repeat(first |(with_reducible first | exact HB.out | apply bwA | apply bwN | apply bw1) | exact HB.out))));have n7_:=Aside0.mk (bwT (by repeat(first |(with_reducible first | exact HB.out | apply bwA | apply bwN | apply bw1) | exact HB.out)) hb);clear HO131;clear HO135;clear HO139;clear HO144;clear HO148;clear HO151;clear HB;have HO131:=n0_;have HO135:=n1_;have HO139:=n2_;have HO144:=n3_;have HO148:=n4_;have HO151:=n5_;have HO155:=n6_;have HB:=n7_;clear n0_ n1_ n2_ n3_ n4_ n5_ n6_ n7_;clear hb ho105;obtain ⟨Ao106,co106,eo106⟩:=Kd.R_slice HO135.out;subst eo106;obtain ⟨Ao107,co107,eo107⟩:=Kd.R_slice HO155.out;subst eo107) |(go_at_call 22;(with_reducible refine(w10_ints.calls k _ _ t132 _ _ y153 false _ ?side1 ?side2 ?side3 ?side4 A19.out).mono ?_);(case side1=>repeat(first | exact(Kd.R_reads' HO135.out).2.2 |(with_reducible refine Kd.C_alloc ?_ _) |(with_reducible refine Kd.C_drewN ?_ _) |(with_reducible refine Kd.C_drew ?_)));(case side2=>exact(Kd.R_reads' HO135.out).2.1);(case side3=>repeat(first | exact(Kd.R_reads' HO155.out).2.2 |(with_reducible refine Kd.C_alloc ?_ _) |(with_reducible refine Kd.C_drewN ?_ _) |(with_reducible refine Kd.C_drew ?_)));(case side4=>exact(Kd.R_reads' HO155.out).2.1);rintro e w' ⟨rfl,⟨nd,rfl⟩⟩))
   go_meet
   exact⟨_,(true),(by first | rfl |(simp;done) |(simp [*];done)),H',⟨by first | omega | exact Nat.le_refl _⟩,⟨by repeat(first |(with_reducible first | exact HB.out | apply bwA | apply bwN | apply bw1) | exact HB.out)⟩⟩
  subst c20
  have H1 :(if t137 = 0 then((w10_ints.f k t136 (([3,2,1] : List Int))).bind fun t160=>(if t160 = true then(if t141 = 0 then(if t140 = 52 then(if t146 = 0 then((w10_ints.f k t145 (([1,2] : List Int))).bind fun t164=>(w10_awake.j0 k (!t164))) else(w10_awake.j0 k true)) else(w10_awake.j0 k true)) else(w10_awake.j0 k true)) else(w10_awake.j0 k true))) else(w10_awake.j0 k true)) = some r:=by rw [if_pos rfl] at H;exact H
  clear H
  have H:=H1
  clear H1
  by_cases c21 : t137 = 0
  rotate_left
  ·rw [if_neg c21] at H
   have c21b0 :(t137 == 0) = false:=beq_eq_false_iff_ne.mpr c21
   have c21b1 :(t137 != 0) = true:=bne_iff_ne.mpr c21
   have H':=Aside0.mk H
   clear H
   go_wp2_with (first |((with_reducible refine gate_dst (N:=36) rfl ?_);(try(refine gate_guard (by rfl) ?_;dsimp only));refine Kd.R_lit (Kd.int .i64) _ 3 ?hg (N:=36) ?hd (xs:=([1,2] : List Int)) (inner:=[.int .i64 1,.int .i64 2]) (ok:=fun _=>True) (okp:=fun _=>True) ?hr ?hp (fun _ hk=>hk) trivial (Below.refl _ _) (Nat.le_refl _) (by simp) ?_;(case hd=>rfl);(case hg=>rfl);(case hr=>first |(go_simp;done) |(go_simp;rfl));(case hp=>exact(Reps.one (show Kd.M (Kd.int .i64) _ _ _ 1 [.int .i64 1] from rfl) (Reps.one (show Kd.M (Kd.int .i64) _ _ _ 2 [.int .i64 2] from rfl) (Reps.none _ _))));intro v150 w92 ho93 hb hg_ hnew_;clear hg_ hnew_;(first | rw [← Ny149.out] at ho93 |(simp only [Int.reduceToNat] at ho93;rw [← Ny149.out] at ho93));have n0_:=Aside0.mk (Kd.R_elder' (by(with_reducible repeat(first | apply Kd.R_alloc | apply Kd.R_drewN | apply Kd.R_drew));exact HO131.out) (Kd.R_base ho93) hb);have n1_:=Aside0.mk (Kd.R_elder' (by(with_reducible repeat(first | apply Kd.R_alloc | apply Kd.R_drewN | apply Kd.R_drew));exact HO135.out) (Kd.R_base ho93) hb);have n2_:=Aside0.mk (Kd.R_elder' (by(with_reducible repeat(first | apply Kd.R_alloc | apply Kd.R_drewN | apply Kd.R_drew));exact HO139.out) (Kd.R_base ho93) hb);have n3_:=Aside0.mk (Kd.R_elder' (by(with_reducible repeat(first | apply Kd.R_alloc | apply Kd.R_drewN | apply Kd.R_drew));exact HO144.out) (Kd.R_base ho93) hb);have n4_:=Aside0.mk (Kd.R_elder' (by(with_reducible repeat(first | apply Kd.R_alloc | apply Kd.R_drewN | apply Kd.R_drew));exact HO148.out) (Kd.R_base ho93) hb);have n5_:=Aside0.mk (Kd.R_lower (Kd.R_new' (Kd.R_new' (Kd.R_new' (Kd.R_new' (Kd.R_new' ho93 (Kd.R_lt (by(with_reducible repeat(first | apply Kd.R_alloc | apply Kd.R_drewN | apply Kd.R_drew));exact HO131.out))) (Kd.R_lt (by(with_reducible repeat(first | apply Kd.R_alloc | apply Kd.R_drewN | apply Kd.R_drew));exact HO135.out))) (Kd.R_lt (by(with_reducible repeat(first | apply Kd.R_alloc | apply Kd.R_drewN | apply Kd.R_drew));exact HO139.out))) (Kd.R_lt (by(with_reducible repeat(first | apply Kd.R_alloc | apply Kd.R_drewN | apply Kd.R_drew));exact HO144.out))) (Kd.R_lt (by(with_reducible repeat(first | apply Kd.R_alloc | apply Kd.R_drewN | apply Kd.R_drew));exact HO148.out))) (bwZ (by repeat(first |(with_reducible first | exact HB.out | apply bwA | apply bwN | apply bw1) | exact HB.out))));have n6_:=Aside0.mk (bwT (by repeat(first |(with_reducible first | exact HB.out | apply bwA | apply bwN | apply bw1) | exact HB.out)) hb);clear HO131;clear HO135;clear HO139;clear HO144;clear HO148;clear HB;have HO131:=n0_;have HO135:=n1_;have HO139:=n2_;have HO144:=n3_;have HO148:=n4_;have HO151:=n5_;have HB:=n6_;clear n0_ n1_ n2_ n3_ n4_ n5_ n6_;clear hb ho93;obtain ⟨Ao94,co94,eo94⟩:=Kd.R_slice HO131.out;subst eo94;obtain ⟨Ao95,co95,eo95⟩:=Kd.R_slice HO151.out;subst eo95) |(go_at_call 22;(with_reducible refine(w10_ints.calls k _ _ t128 _ _ y149 true _ ?side1 ?side2 ?side3 ?side4 A16.out).mono ?_);(case side1=>repeat(first | exact(Kd.R_reads' HO131.out).2.2 |(with_reducible refine Kd.C_alloc ?_ _) |(with_reducible refine Kd.C_drewN ?_ _) |(with_reducible refine Kd.C_drew ?_)));(case side2=>exact(Kd.R_reads' HO131.out).2.1);(case side3=>repeat(first | exact(Kd.R_reads' HO151.out).2.2 |(with_reducible refine Kd.C_alloc ?_ _) |(with_reducible refine Kd.C_drewN ?_ _) |(with_reducible refine Kd.C_drew ?_)));(case side4=>exact(Kd.R_reads' HO151.out).2.1);rintro e w' ⟨rfl,⟨nd,rfl⟩⟩) |((with_reducible refine gate_dst (N:=46) rfl ?_);(try(refine gate_guard (by rfl) ?_;dsimp only));refine Kd.R_lit (Kd.int .i64) _ 3 ?hg (N:=46) ?hd (xs:=([2,3] : List Int)) (inner:=[.int .i64 2,.int .i64 3]) (ok:=fun _=>True) (okp:=fun _=>True) ?hr ?hp (fun _ hk=>hk) trivial (Below.refl _ _) (Nat.le_refl _) (by simp) ?_;(case hd=>rfl);(case hg=>rfl);(case hr=>first |(go_simp;done) |(go_simp;rfl));(case hp=>exact(Reps.one (show Kd.M (Kd.int .i64) _ _ _ 2 [.int .i64 2] from rfl) (Reps.one (show Kd.M (Kd.int .i64) _ _ _ 3 [.int .i64 3] from rfl) (Reps.none _ _))));intro v154 w96 ho97 hb hg_ hnew_;clear hg_ hnew_;(first | rw [← Ny153.out] at ho97 |(simp only [Int.reduceToNat] at ho97;rw [← Ny153.out] at ho97));have n0_:=Aside0.mk (Kd.R_elder' (by(with_reducible repeat(first | apply Kd.R_alloc | apply Kd.R_drewN | apply Kd.R_drew));exact HO131.out) (Kd.R_base ho97) hb);have n1_:=Aside0.mk (Kd.R_elder' (by(with_reducible repeat(first | apply Kd.R_alloc | apply Kd.R_drewN | apply Kd.R_drew));exact HO135.out) (Kd.R_base ho97) hb);have n2_:=Aside0.mk (Kd.R_elder' (by(with_reducible repeat(first | apply Kd.R_alloc | apply Kd.R_drewN | apply Kd.R_drew));exact HO139.out) (Kd.R_base ho97) hb);have n3_:=Aside0.mk (Kd.R_elder' (by(with_reducible repeat(first | apply Kd.R_alloc | apply Kd.R_drewN | apply Kd.R_drew));exact HO144.out) (Kd.R_base ho97) hb);have n4_:=Aside0.mk (Kd.R_elder' (by(with_reducible repeat(first | apply Kd.R_alloc | apply Kd.R_drewN | apply Kd.R_drew));exact HO148.out) (Kd.R_base ho97) hb);have n5_:=Aside0.mk (Kd.R_elder' (by(with_reducible repeat(first | apply Kd.R_alloc | apply Kd.R_drewN | apply Kd.R_drew));exact HO151.out) (Kd.R_base ho97) hb);have n6_:=Aside0.mk (Kd.R_lower (Kd.R_new' (Kd.R_new' (Kd.R_new' (Kd.R_new' (Kd.R_new' (Kd.R_new' ho97 (Kd.R_lt (by(with_reducible repeat(first | apply Kd.R_alloc | apply Kd.R_drewN | apply Kd.R_drew));exact HO131.out))) (Kd.R_lt (by(with_reducible repeat(first | apply Kd.R_alloc | apply Kd.R_drewN | apply Kd.R_drew));exact HO135.out))) (Kd.R_lt (by(with_reducible repeat(first | apply Kd.R_alloc | apply Kd.R_drewN | apply Kd.R_drew));exact HO139.out))) (Kd.R_lt (by(with_reducible repeat(first | apply Kd.R_alloc | apply Kd.R_drewN | apply Kd.R_drew));exact HO144.out))) (Kd.R_lt (by(with_reducible repeat(first | apply Kd.R_alloc | apply Kd.R_drewN | apply Kd.R_drew));exact HO148.out))) (Kd.R_lt (by(with_reducible repeat(first | apply Kd.R_alloc | apply Kd.R_drewN | apply Kd.R_drew));exact HO151.out))) (bwZ (by repeat(first |(with_reducible first | exact HB.out | apply bwA | apply bwN | apply bw1) | exact HB.out))));have n7_:=Aside0.mk (bwT (by repeat(first |(with_reducible first | exact HB.out | apply bwA | apply bwN | apply bw1) | exact HB.out)) hb);clear HO131;clear HO135;clear HO139;clear HO144;clear HO148;clear HO151;clear HB;have HO131:=n0_;have HO135:=n1_;have HO139:=n2_;have HO144:=n3_;have HO148:=n4_;have HO151:=n5_;have HO155:=n6_;have HB:=n7_;clear n0_ n1_ n2_ n3_ n4_ n5_ n6_ n7_;clear hb ho97;obtain ⟨Ao98,co98,eo98⟩:=Kd.R_slice HO135.out;subst eo98;obtain ⟨Ao99,co99,eo99⟩:=Kd.R_slice HO155.out;subst eo99) |(go_at_call 22;(with_reducible refine(w10_ints.calls k _ _ t132 _ _ y153 true _ ?side1 ?side2 ?side3 ?side4 A19.out).mono ?_);(case side1=>repeat(first | exact(Kd.R_reads' HO135.out).2.2 |(with_reducible refine Kd.C_alloc ?_ _) |(with_reducible refine Kd.C_drewN ?_ _) |(with_reducible refine Kd.C_drew ?_)));(case side2=>exact(Kd.R_reads' HO135.out).2.1);(case side3=>repeat(first | exact(Kd.R_reads' HO155.out).2.2 |(with_reducible refine Kd.C_alloc ?_ _) |(with_reducible refine Kd.C_drewN ?_ _) |(with_reducible refine Kd.C_drew ?_)));(case side4=>exact(Kd.R_reads' HO155.out).2.1);rintro e w' ⟨rfl,⟨nd,rfl⟩⟩))
   go_meet
   exact⟨_,(true),(by first | rfl |(simp;done) |(simp [*];done)),H',⟨by first | omega | exact Nat.le_refl _⟩,⟨by repeat(first |(with_reducible first | exact HB.out | apply bwA | apply bwN | apply bw1) | exact HB.out)⟩⟩
  rw [if_pos c21] at H
  have c21b0 :(t137 == 0) = true:=beq_iff_eq.mpr c21
  have c21b1 :(t137 != 0) = false:=bne_eq_false_iff_eq.mpr c21
  clear c21
  obtain ⟨y157,hy157⟩ : ∃ y_ : List Int,y_ =(([3,2,1] : List Int)):=⟨_,rfl⟩
  replace H :((w10_ints.f k t136 y157).bind fun t160=>(if t160 = true then(if t141 = 0 then(if t140 = 52 then(if t146 = 0 then((w10_ints.f k t145 (([1,2] : List Int))).bind fun t164=>(w10_awake.j0 k (!t164))) else(w10_awake.j0 k true)) else(w10_awake.j0 k true)) else(w10_awake.j0 k true)) else(w10_awake.j0 k true))) = some r:=by first |(rw [hy157];with_reducible exact H) |(have H2_:=(Option.bind_some _ _).symm.trans H;rw [hy157];with_reducible exact H2_) |(have H2_:=(Option.bind_some _ _).symm.trans H;with_reducible exact H2_) | with_reducible exact H |(rw [hy157];exact H) | exact H
  have Ny157:=Aside0.mk hy157
  clear hy157
  replace H:=Option.bind_eq_some_iff.mp H
  obtain ⟨t160,A220,H⟩:=H
  replace H :(if t160 = true then(if t141 = 0 then(if t140 = 52 then(if t146 = 0 then((w10_ints.f k t145 (([1,2] : List Int))).bind fun t164=>(w10_awake.j0 k (!t164))) else(w10_awake.j0 k true)) else(w10_awake.j0 k true)) else(w10_awake.j0 k true)) else(w10_awake.j0 k true)) = some r:=H
  have A22:=Aside0.mk A220
  clear A220
  by_cases c23 : t160 = true
  rotate_left
  ·replace c23 := Bool.eq_false_iff.mpr c23
   subst c23
   have H1 :(w10_awake.j0 k true) = some r:=by rw [if_neg (show ¬ (false = true) by decide)] at H;exact H
   clear H
   have H:=H1
   clear H1
   have H':=Aside0.mk H
   clear H
   go_wp2_with (first |((with_reducible refine gate_dst (N:=36) rfl ?_);(try(refine gate_guard (by rfl) ?_;dsimp only));refine Kd.R_lit (Kd.int .i64) _ 3 ?hg (N:=36) ?hd (xs:=([1,2] : List Int)) (inner:=[.int .i64 1,.int .i64 2]) (ok:=fun _=>True) (okp:=fun _=>True) ?hr ?hp (fun _ hk=>hk) trivial (Below.refl _ _) (Nat.le_refl _) (by simp) ?_;(case hd=>rfl);(case hg=>rfl);(case hr=>first |(go_simp;done) |(go_simp;rfl));(case hp=>exact(Reps.one (show Kd.M (Kd.int .i64) _ _ _ 1 [.int .i64 1] from rfl) (Reps.one (show Kd.M (Kd.int .i64) _ _ _ 2 [.int .i64 2] from rfl) (Reps.none _ _))));intro v150 w80 ho81 hb hg_ hnew_;clear hg_ hnew_;(first | rw [← Ny149.out] at ho81 |(simp only [Int.reduceToNat] at ho81;rw [← Ny149.out] at ho81));have n0_:=Aside0.mk (Kd.R_elder' (by(with_reducible repeat(first | apply Kd.R_alloc | apply Kd.R_drewN | apply Kd.R_drew));exact HO131.out) (Kd.R_base ho81) hb);have n1_:=Aside0.mk (Kd.R_elder' (by(with_reducible repeat(first | apply Kd.R_alloc | apply Kd.R_drewN | apply Kd.R_drew));exact HO135.out) (Kd.R_base ho81) hb);have n2_:=Aside0.mk (Kd.R_elder' (by(with_reducible repeat(first | apply Kd.R_alloc | apply Kd.R_drewN | apply Kd.R_drew));exact HO139.out) (Kd.R_base ho81) hb);have n3_:=Aside0.mk (Kd.R_elder' (by(with_reducible repeat(first | apply Kd.R_alloc | apply Kd.R_drewN | apply Kd.R_drew));exact HO144.out) (Kd.R_base ho81) hb);have n4_:=Aside0.mk (Kd.R_elder' (by(with_reducible repeat(first | apply Kd.R_alloc | apply Kd.R_drewN | apply Kd.R_drew));exact HO148.out) (Kd.R_base ho81) hb);have n5_:=Aside0.mk (Kd.R_lower (Kd.R_new' (Kd.R_new' (Kd.R_new' (Kd.R_new' (Kd.R_new' ho81 (Kd.R_lt (by(with_reducible repeat(first | apply Kd.R_alloc | apply Kd.R_drewN | apply Kd.R_drew));exact HO131.out))) (Kd.R_lt (by(with_reducible repeat(first | apply Kd.R_alloc | apply Kd.R_drewN | apply Kd.R_drew));exact HO135.out))) (Kd.R_lt (by(with_reducible repeat(first | apply Kd.R_alloc | apply Kd.R_drewN | apply Kd.R_drew));exact HO139.out))) (Kd.R_lt (by(with_reducible repeat(first | apply Kd.R_alloc | apply Kd.R_drewN | apply Kd.R_drew));exact HO144.out))) (Kd.R_lt (by(with_reducible repeat(first | apply Kd.R_alloc | apply Kd.R_drewN | apply Kd.R_drew));exact HO148.out))) (bwZ (by repeat(first |(with_reducible first | exact HB.out | apply bwA | apply bwN | apply bw1) | exact HB.out))));have n6_:=Aside0.mk (bwT (by repeat(first |(with_reducible first | exact HB.out | apply bwA | apply bwN | apply bw1) | exact HB.out)) hb);clear HO131;clear HO135;clear HO139;clear HO144;clear HO148;clear HB;have HO131:=n0_;have HO135:=n1_;have HO139:=n2_;have HO144:=n3_;have HO148:=n4_;have HO151:=n5_;have HB:=n6_;clear n0_ n1_ n2_ n3_ n4_ n5_ n6_;clear hb ho81;obtain ⟨Ao82,co82,eo82⟩:=Kd.R_slice HO131.out;subst eo82;obtain ⟨Ao83,co83,eo83⟩:=Kd.R_slice HO151.out;subst eo83) |(go_at_call 22;(with_reducible refine(w10_ints.calls k _ _ t128 _ _ y149 true _ ?side1 ?side2 ?side3 ?side4 A16.out).mono ?_);(case side1=>repeat(first | exact(Kd.R_reads' HO131.out).2.2 |(with_reducible refine Kd.C_alloc ?_ _) |(with_reducible refine Kd.C_drewN ?_ _) |(with_reducible refine Kd.C_drew ?_)));(case side2=>exact(Kd.R_reads' HO131.out).2.1);(case side3=>repeat(first | exact(Kd.R_reads' HO151.out).2.2 |(with_reducible refine Kd.C_alloc ?_ _) |(with_reducible refine Kd.C_drewN ?_ _) |(with_reducible refine Kd.C_drew ?_)));(case side4=>exact(Kd.R_reads' HO151.out).2.1);rintro e w' ⟨rfl,⟨nd,rfl⟩⟩) |((with_reducible refine gate_dst (N:=46) rfl ?_);(try(refine gate_guard (by rfl) ?_;dsimp only));refine Kd.R_lit (Kd.int .i64) _ 3 ?hg (N:=46) ?hd (xs:=([2,3] : List Int)) (inner:=[.int .i64 2,.int .i64 3]) (ok:=fun _=>True) (okp:=fun _=>True) ?hr ?hp (fun _ hk=>hk) trivial (Below.refl _ _) (Nat.le_refl _) (by simp) ?_;(case hd=>rfl);(case hg=>rfl);(case hr=>first |(go_simp;done) |(go_simp;rfl));(case hp=>exact(Reps.one (show Kd.M (Kd.int .i64) _ _ _ 2 [.int .i64 2] from rfl) (Reps.one (show Kd.M (Kd.int .i64) _ _ _ 3 [.int .i64 3] from rfl) (Reps.none _ _))));intro v154 w84 ho85 hb hg_ hnew_;clear hg_ hnew_;(first | rw [← Ny153.out] at ho85 |(simp only [Int.reduceToNat] at ho85;rw [← Ny153.out] at ho85));have n0_:=Aside0.mk (Kd.R_elder' (by(with_reducible repeat(first | apply Kd.R_alloc | apply Kd.R_drewN | apply Kd.R_drew));exact HO131.out) (Kd.R_base ho85) hb);have n1_:=Aside0.mk (Kd.R_elder' (by(with_reducible repeat(first | apply Kd.R_alloc | apply Kd.R_drewN | apply Kd.R_drew));exact HO135.out) (Kd.R_base ho85) hb);have n2_:=Aside0.mk (Kd.R_elder' (by(with_reducible repeat(first | apply Kd.R_alloc | apply Kd.R_drewN | apply Kd.R_drew));exact HO139.out) (Kd.R_base ho85) hb);have n3_:=Aside0.mk (Kd.R_elder' (by(with_reducible repeat(first | apply Kd.R_alloc | apply Kd.R_drewN | apply Kd.R_drew));exact HO144.out) (Kd.R_base ho85) hb);have n4_:=Aside0.mk (Kd.R_elder' (by(with_reducible repeat(first | apply Kd.R_alloc | apply Kd.R_drewN | apply Kd.R_drew));exact HO148.out) (Kd.R_base ho85) hb);have n5_:=Aside0.mk (Kd.R_elder' (by(with_reducible repeat(first | apply Kd.R_alloc | apply Kd.R_drewN | apply Kd.R_drew));exact HO151.out) (Kd.R_base ho85) hb);have n6_:=Aside0.mk (Kd.R_lower (Kd.R_new' (Kd.R_new' (Kd.R_new' (Kd.R_new' (Kd.R_new' (Kd.R_new' ho85 (Kd.R_lt (by(with_reducible repeat(first | apply Kd.R_alloc | apply Kd.R_drewN | apply Kd.R_drew));exact HO131.out))) (Kd.R_lt (by(with_reducible repeat(first | apply Kd.R_alloc | apply Kd.R_drewN | apply Kd.R_drew));exact HO135.out))) (Kd.R_lt (by(with_reducible repeat(first | apply Kd.R_alloc | apply Kd.R_drewN | apply Kd.R_drew));exact HO139.out))) (Kd.R_lt (by(with_reducible repeat(first | apply Kd.R_alloc | apply Kd.R_drewN | apply Kd.R_drew));exact HO144.out))) (Kd.R_lt (by(with_reducible repeat(first | apply Kd.R_alloc | apply Kd.R_drewN | apply Kd.R_drew));exact HO148.out))) (Kd.R_lt (by(with_reducible repeat(first | apply Kd.R_alloc | apply Kd.R_drewN | apply Kd.R_drew));exact HO151.out))) (bwZ (by repeat(first |(with_reducible first | exact HB.out | apply bwA | apply bwN | apply bw1) | exact HB.out))));have n7_:=Aside0.mk (bwT (by repeat(first |(with_reducible first | exact HB.out | apply bwA | apply bwN | apply bw1) | exact HB.out)) hb);clear HO131;clear HO135;clear HO139;clear HO144;clear HO148;clear HO151;clear HB;have HO131:=n0_;have HO135:=n1_;have HO139:=n2_;have HO144:=n3_;have HO148:=n4_;have HO151:=n5_;have HO155:=n6_;have HB:=n7_;clear n0_ n1_ n2_ n3_ n4_ n5_ n6_ n7_;clear hb ho85;obtain ⟨Ao86,co86,eo86⟩:=Kd.R_slice HO135.out;subst eo86;obtain ⟨Ao87,co87,eo87⟩:=Kd.R_slice HO155.out;subst eo87) |(go_at_call 22;(with_reducible refine(w10_ints.calls k _ _ t132 _ _ y153 true _ ?side1 ?side2 ?side3 ?side4 A19.out).mono ?_);(case side1=>repeat(first | exact(Kd.R_reads' HO135.out).2.2 |(with_reducible refine Kd.C_alloc ?_ _) |(with_reducible refine Kd.C_drewN ?_ _) |(with_reducible refine Kd.C_drew ?_)));(case side2=>exact(Kd.R_reads' HO135.out).2.1);(case side3=>repeat(first | exact(Kd.R_reads' HO155.out).2.2 |(with_reducible refine Kd.C_alloc ?_ _) |(with_reducible refine Kd.C_drewN ?_ _) |(with_reducible refine Kd.C_drew ?_)));(case side4=>exact(Kd.R_reads' HO155.out).2.1);rintro e w' ⟨rfl,⟨nd,rfl⟩⟩) |((with_reducible refine gate_dst (N:=56) rfl ?_);(try(refine gate_guard (by rfl) ?_;dsimp only));refine Kd.R_lit (Kd.int .i64) _ 3 ?hg (N:=56) ?hd (xs:=([3,2,1] : List Int)) (inner:=[.int .i64 3,.int .i64 2,.int .i64 1]) (ok:=fun _=>True) (okp:=fun _=>True) ?hr ?hp (fun _ hk=>hk) trivial (Below.refl _ _) (Nat.le_refl _) (by simp) ?_;(case hd=>rfl);(case hg=>rfl);(case hr=>first |(go_simp;done) |(go_simp;rfl));(case hp=>exact(Reps.one (show Kd.M (Kd.int .i64) _ _ _ 3 [.int .i64 3] from rfl) (Reps.one (show Kd.M (Kd.int .i64) _ _ _ 2 [.int .i64 2] from rfl) (Reps.one (show Kd.M (Kd.int .i64) _ _ _ 1 [.int .i64 1] from rfl) (Reps.none _ _)))));intro v158 w88 ho89 hb hg_ hnew_;clear hg_ hnew_;(first | rw [← Ny157.out] at ho89 |(simp only [Int.reduceToNat] at ho89;rw [← Ny157.out] at ho89));have n0_:=Aside0.mk (Kd.R_elder' (by(with_reducible repeat(first | apply Kd.R_alloc | apply Kd.R_drewN | apply Kd.R_drew));exact HO131.out) (Kd.R_base ho89) hb);have n1_:=Aside0.mk (Kd.R_elder' (by(with_reducible repeat(first | apply Kd.R_alloc | apply Kd.R_drewN | apply Kd.R_drew));exact HO135.out) (Kd.R_base ho89) hb);have n2_:=Aside0.mk (Kd.R_elder' (by(with_reducible repeat(first | apply Kd.R_alloc | apply Kd.R_drewN | apply Kd.R_drew));exact HO139.out) (Kd.R_base ho89) hb);have n3_:=Aside0.mk (Kd.R_elder' (by(with_reducible repeat(first | apply Kd.R_alloc | apply Kd.R_drewN | apply Kd.R_drew));exact HO144.out) (Kd.R_base ho89) hb);have n4_:=Aside0.mk (Kd.R_elder' (by(with_reducible repeat(first | apply Kd.R_alloc | apply Kd.R_drewN | apply Kd.R_drew));exact HO148.out) (Kd.R_base ho89) hb);have n5_:=Aside0.mk (Kd.R_elder' (by(with_reducible repeat(first | apply Kd.R_alloc | apply Kd.R_drewN | apply Kd.R_drew));exact HO151.out) (Kd.R_base ho89) hb);have n6_:=Aside0.mk (Kd.R_elder' (by(with_reducible repeat(first | apply Kd.R_alloc | apply Kd.R_drewN | apply Kd.R_drew));exact HO155.out) (Kd.R_base ho89) hb);have n7_:=Aside0.mk (Kd.R_lower (Kd.R_new' (Kd.R_new' (Kd.R_new' (Kd.R_new' (Kd.R_new' (Kd.R_new' (Kd.R_new' ho89 (Kd.R_lt (by(with_reducible repeat(first | apply Kd.R_alloc | apply Kd.R_drewN | apply Kd.R_drew));exact HO131.out))) (Kd.R_lt (by(with_reducible repeat(first | apply Kd.R_alloc | apply Kd.R_drewN | apply Kd.R_drew));exact HO135.out))) (Kd.R_lt (by(with_reducible repeat(first | apply Kd.R_alloc | apply Kd.R_drewN | apply Kd.R_drew));exact HO139.out))) (Kd.R_lt (by(with_reducible repeat(first | apply Kd.R_alloc | apply Kd.R_drewN | apply Kd.R_drew));exact HO144.out))) (Kd.R_lt (by(with_reducible repeat(first | apply Kd.R_alloc | apply Kd.R_drewN | apply Kd.R_drew));exact HO148.out))) (Kd.R_lt (by(with_reducible repeat(first | apply Kd.R_alloc | apply Kd.R_drewN | apply Kd.R_drew));exact HO151.out))) (Kd.R_lt (by(with_reducible repeat(first | apply Kd.R_alloc | apply Kd.R_drewN | apply Kd.R_drew));exact HO155.out))) (bwZ (by repeat(first |(with_reducible first | exact HB.out | apply bwA | apply bwN | apply bw1) | exact HB.out))));have n8_:=Aside0.mk (bwT (by repeat(first |(with_reducible first | exact HB.out | apply bwA | apply bwN | apply bw1) | exact HB.out)) hb);clear HO131;clear HO135;clear HO139;clear HO144;clear HO148;clear HO151;clear HO155;clear HB;have HO131:=n0_;have HO135:=n1_;have HO139:=n2_;have HO144:=n3_;have HO148:=n4_;have HO151:=n5_;have HO155:=n6_;have HO159:=n7_;have HB:=n8_;clear n0_ n1_ n2_ n3_ n4_ n5_ n6_ n7_ n8_;clear hb ho89;obtain ⟨Ao90,co90,eo90⟩:=Kd.R_slice HO139.out;subst eo90;obtain ⟨Ao91,co91,eo91⟩:=Kd.R_slice HO159.out;subst eo91) |(go_at_call 22;(with_reducible refine(w10_ints.calls k _ _ t136 _ _ y157 false _ ?side1 ?side2 ?side3 ?side4 A22.out).mono ?_);(case side1=>repeat(first | exact(Kd.R_reads' HO139.out).2.2 |(with_reducible refine Kd.C_alloc ?_ _) |(with_reducible refine Kd.C_drewN ?_ _) |(with_reducible refine Kd.C_drew ?_)));(case side2=>exact(Kd.R_reads' HO139.out).2.1);(case side3=>repeat(first | exact(Kd.R_reads' HO159.out).2.2 |(with_reducible refine Kd.C_alloc ?_ _) |(with_reducible refine Kd.C_drewN ?_ _) |(with_reducible refine Kd.C_drew ?_)));(case side4=>exact(Kd.R_reads' HO159.out).2.1);rintro e w' ⟨rfl,⟨nd,rfl⟩⟩))
   go_meet
   exact⟨_,(true),(by first | rfl |(simp;done) |(simp [*];done)),H',⟨by first | omega | exact Nat.le_refl _⟩,⟨by repeat(first |(with_reducible first | exact HB.out | apply bwA | apply bwN | apply bw1) | exact HB.out)⟩⟩
  subst c23
  have H1 :(if t141 = 0 then(if t140 = 52 then(if t146 = 0 then((w10_ints.f k t145 (([1,2] : List Int))).bind fun t164=>(w10_awake.j0 k (!t164))) else(w10_awake.j0 k true)) else(w10_awake.j0 k true)) else(w10_awake.j0 k true)) = some r:=by rw [if_pos rfl] at H;exact H
  clear H
  have H:=H1
  clear H1
  by_cases c24 : t141 = 0
  rotate_left
  ·rw [if_neg c24] at H
   have c24b0 :(t141 == 0) = false:=beq_eq_false_iff_ne.mpr c24
   have c24b1 :(t141 != 0) = true:=bne_iff_ne.mpr c24
   have H':=Aside0.mk H
   clear H
   go_wp2_with (first |((with_reducible refine gate_dst (N:=36) rfl ?_);(try(refine gate_guard (by rfl) ?_;dsimp only));refine Kd.R_lit (Kd.int .i64) _ 3 ?hg (N:=36) ?hd (xs:=([1,2] : List Int)) (inner:=[.int .i64 1,.int .i64 2]) (ok:=fun _=>True) (okp:=fun _=>True) ?hr ?hp (fun _ hk=>hk) trivial (Below.refl _ _) (Nat.le_refl _) (by simp) ?_;(case hd=>rfl);(case hg=>rfl);(case hr=>first |(go_simp;done) |(go_simp;rfl));(case hp=>exact(Reps.one (show Kd.M (Kd.int .i64) _ _ _ 1 [.int .i64 1] from rfl) (Reps.one (show Kd.M (Kd.int .i64) _ _ _ 2 [.int .i64 2] from rfl) (Reps.none _ _))));intro v150 w68 ho69 hb hg_ hnew_;clear hg_ hnew_;(first | rw [← Ny149.out] at ho69 |(simp only [Int.reduceToNat] at ho69;rw [← Ny149.out] at ho69));have n0_:=Aside0.mk (Kd.R_elder' (by(with_reducible repeat(first | apply Kd.R_alloc | apply Kd.R_drewN | apply Kd.R_drew));exact HO131.out) (Kd.R_base ho69) hb);have n1_:=Aside0.mk (Kd.R_elder' (by(with_reducible repeat(first | apply Kd.R_alloc | apply Kd.R_drewN | apply Kd.R_drew));exact HO135.out) (Kd.R_base ho69) hb);have n2_:=Aside0.mk (Kd.R_elder' (by(with_reducible repeat(first | apply Kd.R_alloc | apply Kd.R_drewN | apply Kd.R_drew));exact HO139.out) (Kd.R_base ho69) hb);have n3_:=Aside0.mk (Kd.R_elder' (by(with_reducible repeat(first | apply Kd.R_alloc | apply Kd.R_drewN | apply Kd.R_drew));exact HO144.out) (Kd.R_base ho69) hb);have n4_:=Aside0.mk (Kd.R_elder' (by(with_reducible repeat(first | apply Kd.R_alloc | apply Kd.R_drewN | apply Kd.R_drew));exact HO148.out) (Kd.R_base ho69) hb);have n5_:=Aside0.mk (Kd.R_lower (Kd.R_new' (Kd.R_new' (Kd.R_new' (Kd.R_new' (Kd.R_new' ho69 (Kd.R_lt (by(with_reducible repeat(first | apply Kd.R_alloc | apply Kd.R_drewN | apply Kd.R_drew));exact HO131.out))) (Kd.R_lt (by(with_reducible repeat(first | apply Kd.R_alloc | apply Kd.R_drewN | apply Kd.R_drew));exact HO135.out))) (Kd.R_lt (by(with_reducible repeat(first | apply Kd.R_alloc | apply Kd.R_drewN | apply Kd.R_drew));exact HO139.out))) (Kd.R_lt (by(with_reducible repeat(first | apply Kd.R_alloc | apply Kd.R_drewN | apply Kd.R_drew));exact HO144.out))) (Kd.R_lt (by(with_reducible repeat(first | apply Kd.R_alloc | apply Kd.R_drewN | apply Kd.R_drew));exact HO148.out))) (bwZ (by repeat(first |(with_reducible first | exact HB.out | apply bwA | apply bwN | apply bw1) | exact HB.out))));have n6_:=Aside0.mk (bwT (by repeat(first |(with_reducible first | exact HB.out | apply bwA | apply bwN | apply bw1) | exact HB.out)) hb);clear HO131;clear HO135;clear HO139;clear HO144;clear HO148;clear HB;have HO131:=n0_;have HO135:=n1_;have HO139:=n2_;have HO144:=n3_;have HO148:=n4_;have HO151:=n5_;have HB:=n6_;clear n0_ n1_ n2_ n3_ n4_ n5_ n6_;clear hb ho69;obtain ⟨Ao70,co70,eo70⟩:=Kd.R_slice HO131.out;subst eo70;obtain ⟨Ao71,co71,eo71⟩:=Kd.R_slice HO151.out;subst eo71) |(go_at_call 22;(with_reducible refine(w10_ints.calls k _ _ t128 _ _ y149 true _ ?side1 ?side2 ?side3 ?side4 A16.out).mono ?_);(case side1=>repeat(first | exact(Kd.R_reads' HO131.out).2.2 |(with_reducible refine Kd.C_alloc ?_ _) |(with_reducible refine Kd.C_drewN ?_ _) |(with_reducible refine Kd.C_drew ?_)));(case side2=>exact(Kd.R_reads' HO131.out).2.1);(case side3=>repeat(first | exact(Kd.R_reads' HO151.out).2.2 |(with_reducible refine Kd.C_alloc ?_ _) |(with_reducible refine Kd.C_drewN ?_ _) |(with_reducible refine Kd.C_drew ?_)));(case side4=>exact(Kd.R_reads' HO151.out).2.1);rintro e w' ⟨rfl,⟨nd,rfl⟩⟩) |((with_reducible refine gate_dst (N:=46) rfl ?_);(try(refine gate_guard (by rfl) ?_;dsimp only));refine Kd.R_lit (Kd.int .i64) _ 3 ?hg (N:=46) ?hd (xs:=([2,3] : List Int)) (inner:=[.int .i64 2,.int .i64 3]) (ok:=fun _=>True) (okp:=fun _=>True) ?hr ?hp (fun _ hk=>hk) trivial (Below.refl _ _) (Nat.le_refl _) (by simp) ?_;(case hd=>rfl);(case hg=>rfl);(case hr=>first |(go_simp;done) |(go_simp;rfl));(case hp=>exact(Reps.one (show Kd.M (Kd.int .i64) _ _ _ 2 [.int .i64 2] from rfl) (Reps.one (show Kd.M (Kd.int .i64) _ _ _ 3 [.int .i64 3] from rfl) (Reps.none _ _))));intro v154 w72 ho73 hb hg_ hnew_;clear hg_ hnew_;(first | rw [← Ny153.out] at ho73 |(simp only [Int.reduceToNat] at ho73;rw [← Ny153.out] at ho73));have n0_:=Aside0.mk (Kd.R_elder' (by(with_reducible repeat(first | apply Kd.R_alloc | apply Kd.R_drewN | apply Kd.R_drew));exact HO131.out) (Kd.R_base ho73) hb);have n1_:=Aside0.mk (Kd.R_elder' (by(with_reducible repeat(first | apply Kd.R_alloc | apply Kd.R_drewN | apply Kd.R_drew));exact HO135.out) (Kd.R_base ho73) hb);have n2_:=Aside0.mk (Kd.R_elder' (by(with_reducible repeat(first | apply Kd.R_alloc | apply Kd.R_drewN | apply Kd.R_drew));exact HO139.out) (Kd.R_base ho73) hb);have n3_:=Aside0.mk (Kd.R_elder' (by(with_reducible repeat(first | apply Kd.R_alloc | apply Kd.R_drewN | apply Kd.R_drew));exact HO144.out) (Kd.R_base ho73) hb);have n4_:=Aside0.mk (Kd.R_elder' (by(with_reducible repeat(first | apply Kd.R_alloc | apply Kd.R_drewN | apply Kd.R_drew));exact HO148.out) (Kd.R_base ho73) hb);have n5_:=Aside0.mk (Kd.R_elder' (by(with_reducible repeat(first | apply Kd.R_alloc | apply Kd.R_drewN | apply Kd.R_drew));exact HO151.out) (Kd.R_base ho73) hb);have n6_:=Aside0.mk (Kd.R_lower (Kd.R_new' (Kd.R_new' (Kd.R_new' (Kd.R_new' (Kd.R_new' (Kd.R_new' ho73 (Kd.R_lt (by(with_reducible repeat(first | apply Kd.R_alloc | apply Kd.R_drewN | apply Kd.R_drew));exact HO131.out))) (Kd.R_lt (by(with_reducible repeat(first | apply Kd.R_alloc | apply Kd.R_drewN | apply Kd.R_drew));exact HO135.out))) (Kd.R_lt (by(with_reducible repeat(first | apply Kd.R_alloc | apply Kd.R_drewN | apply Kd.R_drew));exact HO139.out))) (Kd.R_lt (by(with_reducible repeat(first | apply Kd.R_alloc | apply Kd.R_drewN | apply Kd.R_drew));exact HO144.out))) (Kd.R_lt (by(with_reducible repeat(first | apply Kd.R_alloc | apply Kd.R_drewN | apply Kd.R_drew));exact HO148.out))) (Kd.R_lt (by(with_reducible repeat(first | apply Kd.R_alloc | apply Kd.R_drewN | apply Kd.R_drew));exact HO151.out))) (bwZ (by repeat(first |(with_reducible first | exact HB.out | apply bwA | apply bwN | apply bw1) | exact HB.out))));have n7_:=Aside0.mk (bwT (by repeat(first |(with_reducible first | exact HB.out | apply bwA | apply bwN | apply bw1) | exact HB.out)) hb);clear HO131;clear HO135;clear HO139;clear HO144;clear HO148;clear HO151;clear HB;have HO131:=n0_;have HO135:=n1_;have HO139:=n2_;have HO144:=n3_;have HO148:=n4_;have HO151:=n5_;have HO155:=n6_;have HB:=n7_;clear n0_ n1_ n2_ n3_ n4_ n5_ n6_ n7_;clear hb ho73;obtain ⟨Ao74,co74,eo74⟩:=Kd.R_slice HO135.out;subst eo74;obtain ⟨Ao75,co75,eo75⟩:=Kd.R_slice HO155.out;subst eo75) |(go_at_call 22;(with_reducible refine(w10_ints.calls k _ _ t132 _ _ y153 true _ ?side1 ?side2 ?side3 ?side4 A19.out).mono ?_);(case side1=>repeat(first | exact(Kd.R_reads' HO135.out).2.2 |(with_reducible refine Kd.C_alloc ?_ _) |(with_reducible refine Kd.C_drewN ?_ _) |(with_reducible refine Kd.C_drew ?_)));(case side2=>exact(Kd.R_reads' HO135.out).2.1);(case side3=>repeat(first | exact(Kd.R_reads' HO155.out).2.2 |(with_reducible refine Kd.C_alloc ?_ _) |(with_reducible refine Kd.C_drewN ?_ _) |(with_reducible refine Kd.C_drew ?_)));(case side4=>exact(Kd.R_reads' HO155.out).2.1);rintro e w' ⟨rfl,⟨nd,rfl⟩⟩) |((with_reducible refine gate_dst (N:=56) rfl ?_);(try(refine gate_guard (by rfl) ?_;dsimp only));refine Kd.R_lit (Kd.int .i64) _ 3 ?hg (N:=56) ?hd (xs:=([3,2,1] : List Int)) (inner:=[.int .i64 3,.int .i64 2,.int .i64 1]) (ok:=fun _=>True) (okp:=fun _=>True) ?hr ?hp (fun _ hk=>hk) trivial (Below.refl _ _) (Nat.le_refl _) (by simp) ?_;(case hd=>rfl);(case hg=>rfl);(case hr=>first |(go_simp;done) |(go_simp;rfl));(case hp=>exact(Reps.one (show Kd.M (Kd.int .i64) _ _ _ 3 [.int .i64 3] from rfl) (Reps.one (show Kd.M (Kd.int .i64) _ _ _ 2 [.int .i64 2] from rfl) (Reps.one (show Kd.M (Kd.int .i64) _ _ _ 1 [.int .i64 1] from rfl) (Reps.none _ _)))));intro v158 w76 ho77 hb hg_ hnew_;clear hg_ hnew_;(first | rw [← Ny157.out] at ho77 |(simp only [Int.reduceToNat] at ho77;rw [← Ny157.out] at ho77));have n0_:=Aside0.mk (Kd.R_elder' (by(with_reducible repeat(first | apply Kd.R_alloc | apply Kd.R_drewN | apply Kd.R_drew));exact HO131.out) (Kd.R_base ho77) hb);have n1_:=Aside0.mk (Kd.R_elder' (by(with_reducible repeat(first | apply Kd.R_alloc | apply Kd.R_drewN | apply Kd.R_drew));exact HO135.out) (Kd.R_base ho77) hb);have n2_:=Aside0.mk (Kd.R_elder' (by(with_reducible repeat(first | apply Kd.R_alloc | apply Kd.R_drewN | apply Kd.R_drew));exact HO139.out) (Kd.R_base ho77) hb);have n3_:=Aside0.mk (Kd.R_elder' (by(with_reducible repeat(first | apply Kd.R_alloc | apply Kd.R_drewN | apply Kd.R_drew));exact HO144.out) (Kd.R_base ho77) hb);have n4_:=Aside0.mk (Kd.R_elder' (by(with_reducible repeat(first | apply Kd.R_alloc | apply Kd.R_drewN | apply Kd.R_drew));exact HO148.out) (Kd.R_base ho77) hb);have n5_:=Aside0.mk (Kd.R_elder' (by(with_reducible repeat(first | apply Kd.R_alloc | apply Kd.R_drewN | apply Kd.R_drew));exact HO151.out) (Kd.R_base ho77) hb);have n6_:=Aside0.mk (Kd.R_elder' (by(with_reducible repeat(first | apply Kd.R_alloc | apply Kd.R_drewN | apply Kd.R_drew));exact HO155.out) (Kd.R_base ho77) hb);have n7_:=Aside0.mk (Kd.R_lower (Kd.R_new' (Kd.R_new' (Kd.R_new' (Kd.R_new' (Kd.R_new' (Kd.R_new' (Kd.R_new' ho77 (Kd.R_lt (by(with_reducible repeat(first | apply Kd.R_alloc | apply Kd.R_drewN | apply Kd.R_drew));exact HO131.out))) (Kd.R_lt (by(with_reducible repeat(first | apply Kd.R_alloc | apply Kd.R_drewN | apply Kd.R_drew));exact HO135.out))) (Kd.R_lt (by(with_reducible repeat(first | apply Kd.R_alloc | apply Kd.R_drewN | apply Kd.R_drew));exact HO139.out))) (Kd.R_lt (by(with_reducible repeat(first | apply Kd.R_alloc | apply Kd.R_drewN | apply Kd.R_drew));exact HO144.out))) (Kd.R_lt (by(with_reducible repeat(first | apply Kd.R_alloc | apply Kd.R_drewN | apply Kd.R_drew));exact HO148.out))) (Kd.R_lt (by(with_reducible repeat(first | apply Kd.R_alloc | apply Kd.R_drewN | apply Kd.R_drew));exact HO151.out))) (Kd.R_lt (by(with_reducible repeat(first | apply Kd.R_alloc | apply Kd.R_drewN | apply Kd.R_drew));exact HO155.out))) (bwZ (by repeat(first |(with_reducible first | exact HB.out | apply bwA | apply bwN | apply bw1) | exact HB.out))));have n8_:=Aside0.mk (bwT (by repeat(first |(with_reducible first | exact HB.out | apply bwA | apply bwN | apply bw1) | exact HB.out)) hb);clear HO131;clear HO135;clear HO139;clear HO144;clear HO148;clear HO151;clear HO155;clear HB;have HO131:=n0_;have HO135:=n1_;have HO139:=n2_;have HO144:=n3_;have HO148:=n4_;have HO151:=n5_;have HO155:=n6_;have HO159:=n7_;have HB:=n8_;clear n0_ n1_ n2_ n3_ n4_ n5_ n6_ n7_ n8_;clear hb ho77;obtain ⟨Ao78,co78,eo78⟩:=Kd.R_slice HO139.out;subst eo78;obtain ⟨Ao79,co79,eo79⟩:=Kd.R_slice HO159.out;subst eo79) |(go_at_call 22;(with_reducible refine(w10_ints.calls k _ _ t136 _ _ y157 true _ ?side1 ?side2 ?side3 ?side4 A22.out).mono ?_);(case side1=>repeat(first | exact(Kd.R_reads' HO139.out).2.2 |(with_reducible refine Kd.C_alloc ?_ _) |(with_reducible refine Kd.C_drewN ?_ _) |(with_reducible refine Kd.C_drew ?_)));(case side2=>exact(Kd.R_reads' HO139.out).2.1);(case side3=>repeat(first | exact(Kd.R_reads' HO159.out).2.2 |(with_reducible refine Kd.C_alloc ?_ _) |(with_reducible refine Kd.C_drewN ?_ _) |(with_reducible refine Kd.C_drew ?_)));(case side4=>exact(Kd.R_reads' HO159.out).2.1);rintro e w' ⟨rfl,⟨nd,rfl⟩⟩))
   go_meet
   exact⟨_,(true),(by first | rfl |(simp;done) |(simp [*];done)),H',⟨by first | omega | exact Nat.le_refl _⟩,⟨by repeat(first |(with_reducible first | exact HB.out | apply bwA | apply bwN | apply bw1) | exact HB.out)⟩⟩
  rw [if_pos c24] at H
  have c24b0 :(t141 == 0) = true:=beq_iff_eq.mpr c24
  have c24b1 :(t141 != 0) = false:=bne_eq_false_iff_eq.mpr c24
  clear c24
  by_cases c25 : t140 = 52
  rotate_left
  ·rw [if_neg c25] at H
   have c25b0 :(t140 == 52) = false:=beq_eq_false_iff_ne.mpr c25
   have c25b1 :(t140 != 52) = true:=bne_iff_ne.mpr c25
   have H':=Aside0.mk H
   clear H
   go_wp2_with (first |((with_reducible refine gate_dst (N:=36) rfl ?_);(try(refine gate_guard (by rfl) ?_;dsimp only));refine Kd.R_lit (Kd.int .i64) _ 3 ?hg (N:=36) ?hd (xs:=([1,2] : List Int)) (inner:=[.int .i64 1,.int .i64 2]) (ok:=fun _=>True) (okp:=fun _=>True) ?hr ?hp (fun _ hk=>hk) trivial (Below.refl _ _) (Nat.le_refl _) (by simp) ?_;(case hd=>rfl);(case hg=>rfl);(case hr=>first |(go_simp;done) |(go_simp;rfl));(case hp=>exact(Reps.one (show Kd.M (Kd.int .i64) _ _ _ 1 [.int .i64 1] from rfl) (Reps.one (show Kd.M (Kd.int .i64) _ _ _ 2 [.int .i64 2] from rfl) (Reps.none _ _))));intro v150 w56 ho57 hb hg_ hnew_;clear hg_ hnew_;(first | rw [← Ny149.out] at ho57 |(simp only [Int.reduceToNat] at ho57;rw [← Ny149.out] at ho57));have n0_:=Aside0.mk (Kd.R_elder' (by(with_reducible repeat(first | apply Kd.R_alloc | apply Kd.R_drewN | apply Kd.R_drew));exact HO131.out) (Kd.R_base ho57) hb);have n1_:=Aside0.mk (Kd.R_elder' (by(with_reducible repeat(first | apply Kd.R_alloc | apply Kd.R_drewN | apply Kd.R_drew));exact HO135.out) (Kd.R_base ho57) hb);have n2_:=Aside0.mk (Kd.R_elder' (by(with_reducible repeat(first | apply Kd.R_alloc | apply Kd.R_drewN | apply Kd.R_drew));exact HO139.out) (Kd.R_base ho57) hb);have n3_:=Aside0.mk (Kd.R_elder' (by(with_reducible repeat(first | apply Kd.R_alloc | apply Kd.R_drewN | apply Kd.R_drew));exact HO144.out) (Kd.R_base ho57) hb);have n4_:=Aside0.mk (Kd.R_elder' (by(with_reducible repeat(first | apply Kd.R_alloc | apply Kd.R_drewN | apply Kd.R_drew));exact HO148.out) (Kd.R_base ho57) hb);have n5_:=Aside0.mk (Kd.R_lower (Kd.R_new' (Kd.R_new' (Kd.R_new' (Kd.R_new' (Kd.R_new' ho57 (Kd.R_lt (by(with_reducible repeat(first | apply Kd.R_alloc | apply Kd.R_drewN | apply Kd.R_drew));exact HO131.out))) (Kd.R_lt (by(with_reducible repeat(first | apply Kd.R_alloc | apply Kd.R_drewN | apply Kd.R_drew));exact HO135.out))) (Kd.R_lt (by(with_reducible repeat(first | apply Kd.R_alloc | apply Kd.R_drewN | apply Kd.R_drew));exact HO139.out))) (Kd.R_lt (by(with_reducible repeat(first | apply Kd.R_alloc | apply Kd.R_drewN | apply Kd.R_drew));exact HO144.out))) (Kd.R_lt (by(with_reducible repeat(first | apply Kd.R_alloc | apply Kd.R_drewN | apply Kd.R_drew));exact HO148.out))) (bwZ (by repeat(first |(with_reducible first | exact HB.out | apply bwA | apply bwN | apply bw1) | exact HB.out))));have n6_:=Aside0.mk (bwT (by repeat(first |(with_reducible first | exact HB.out | apply bwA | apply bwN | apply bw1) | exact HB.out)) hb);clear HO131;clear HO135;clear HO139;clear HO144;clear HO148;clear HB;have HO131:=n0_;have HO135:=n1_;have HO139:=n2_;have HO144:=n3_;have HO148:=n4_;have HO151:=n5_;have HB:=n6_;clear n0_ n1_ n2_ n3_ n4_ n5_ n6_;clear hb ho57;obtain ⟨Ao58,co58,eo58⟩:=Kd.R_slice HO131.out;subst eo58;obtain ⟨Ao59,co59,eo59⟩:=Kd.R_slice HO151.out;subst eo59) |(go_at_call 22;(with_reducible refine(w10_ints.calls k _ _ t128 _ _ y149 true _ ?side1 ?side2 ?side3 ?side4 A16.out).mono ?_);(case side1=>repeat(first | exact(Kd.R_reads' HO131.out).2.2 |(with_reducible refine Kd.C_alloc ?_ _) |(with_reducible refine Kd.C_drewN ?_ _) |(with_reducible refine Kd.C_drew ?_)));(case side2=>exact(Kd.R_reads' HO131.out).2.1);(case side3=>repeat(first | exact(Kd.R_reads' HO151.out).2.2 |(with_reducible refine Kd.C_alloc ?_ _) |(with_reducible refine Kd.C_drewN ?_ _) |(with_reducible refine Kd.C_drew ?_)));(case side4=>exact(Kd.R_reads' HO151.out).2.1);rintro e w' ⟨rfl,⟨nd,rfl⟩⟩) |((with_reducible refine gate_dst (N:=46) rfl ?_);(try(refine gate_guard (by rfl) ?_;dsimp only));refine Kd.R_lit (Kd.int .i64) _ 3 ?hg (N:=46) ?hd (xs:=([2,3] : List Int)) (inner:=[.int .i64 2,.int .i64 3]) (ok:=fun _=>True) (okp:=fun _=>True) ?hr ?hp (fun _ hk=>hk) trivial (Below.refl _ _) (Nat.le_refl _) (by simp) ?_;(case hd=>rfl);(case hg=>rfl);(case hr=>first |(go_simp;done) |(go_simp;rfl));(case hp=>exact(Reps.one (show Kd.M (Kd.int .i64) _ _ _ 2 [.int .i64 2] from rfl) (Reps.one (show Kd.M (Kd.int .i64) _ _ _ 3 [.int .i64 3] from rfl) (Reps.none _ _))));intro v154 w60 ho61 hb hg_ hnew_;clear hg_ hnew_;(first | rw [← Ny153.out] at ho61 |(simp only [Int.reduceToNat] at ho61;rw [← Ny153.out] at ho61));have n0_:=Aside0.mk (Kd.R_elder' (by(with_reducible repeat(first | apply Kd.R_alloc | apply Kd.R_drewN | apply Kd.R_drew));exact HO131.out) (Kd.R_base ho61) hb);have n1_:=Aside0.mk (Kd.R_elder' (by(with_reducible repeat(first | apply Kd.R_alloc | apply Kd.R_drewN | apply Kd.R_drew));exact HO135.out) (Kd.R_base ho61) hb);have n2_:=Aside0.mk (Kd.R_elder' (by(with_reducible repeat(first | apply Kd.R_alloc | apply Kd.R_drewN | apply Kd.R_drew));exact HO139.out) (Kd.R_base ho61) hb);have n3_:=Aside0.mk (Kd.R_elder' (by(with_reducible repeat(first | apply Kd.R_alloc | apply Kd.R_drewN | apply Kd.R_drew));exact HO144.out) (Kd.R_base ho61) hb);have n4_:=Aside0.mk (Kd.R_elder' (by(with_reducible repeat(first | apply Kd.R_alloc | apply Kd.R_drewN | apply Kd.R_drew));exact HO148.out) (Kd.R_base ho61) hb);have n5_:=Aside0.mk (Kd.R_elder' (by(with_reducible repeat(first | apply Kd.R_alloc | apply Kd.R_drewN | apply Kd.R_drew));exact HO151.out) (Kd.R_base ho61) hb);have n6_:=Aside0.mk (Kd.R_lower (Kd.R_new' (Kd.R_new' (Kd.R_new' (Kd.R_new' (Kd.R_new' (Kd.R_new' ho61 (Kd.R_lt (by(with_reducible repeat(first | apply Kd.R_alloc | apply Kd.R_drewN | apply Kd.R_drew));exact HO131.out))) (Kd.R_lt (by(with_reducible repeat(first | apply Kd.R_alloc | apply Kd.R_drewN | apply Kd.R_drew));exact HO135.out))) (Kd.R_lt (by(with_reducible repeat(first | apply Kd.R_alloc | apply Kd.R_drewN | apply Kd.R_drew));exact HO139.out))) (Kd.R_lt (by(with_reducible repeat(first | apply Kd.R_alloc | apply Kd.R_drewN | apply Kd.R_drew));exact HO144.out))) (Kd.R_lt (by(with_reducible repeat(first | apply Kd.R_alloc | apply Kd.R_drewN | apply Kd.R_drew));exact HO148.out))) (Kd.R_lt (by(with_reducible repeat(first | apply Kd.R_alloc | apply Kd.R_drewN | apply Kd.R_drew));exact HO151.out))) (bwZ (by repeat(first |(with_reducible first | exact HB.out | apply bwA | apply bwN | apply bw1) | exact HB.out))));have n7_:=Aside0.mk (bwT (by repeat(first |(with_reducible first | exact HB.out | apply bwA | apply bwN | apply bw1) | exact HB.out)) hb);clear HO131;clear HO135;clear HO139;clear HO144;clear HO148;clear HO151;clear HB;have HO131:=n0_;have HO135:=n1_;have HO139:=n2_;have HO144:=n3_;have HO148:=n4_;have HO151:=n5_;have HO155:=n6_;have HB:=n7_;clear n0_ n1_ n2_ n3_ n4_ n5_ n6_ n7_;clear hb ho61;obtain ⟨Ao62,co62,eo62⟩:=Kd.R_slice HO135.out;subst eo62;obtain ⟨Ao63,co63,eo63⟩:=Kd.R_slice HO155.out;subst eo63) |(go_at_call 22;(with_reducible refine(w10_ints.calls k _ _ t132 _ _ y153 true _ ?side1 ?side2 ?side3 ?side4 A19.out).mono ?_);(case side1=>repeat(first | exact(Kd.R_reads' HO135.out).2.2 |(with_reducible refine Kd.C_alloc ?_ _) |(with_reducible refine Kd.C_drewN ?_ _) |(with_reducible refine Kd.C_drew ?_)));(case side2=>exact(Kd.R_reads' HO135.out).2.1);(case side3=>repeat(first | exact(Kd.R_reads' HO155.out).2.2 |(with_reducible refine Kd.C_alloc ?_ _) |(with_reducible refine Kd.C_drewN ?_ _) |(with_reducible refine Kd.C_drew ?_)));(case side4=>exact(Kd.R_reads' HO155.out).2.1);rintro e w' ⟨rfl,⟨nd,rfl⟩⟩) |((with_reducible refine gate_dst (N:=56) rfl ?_);(try(refine gate_guard (by rfl) ?_;dsimp only));refine Kd.R_lit (Kd.int .i64) _ 3 ?hg (N:=56) ?hd (xs:=([3,2,1] : List Int)) (inner:=[.int .i64 3,.int .i64 2,.int .i64 1]) (ok:=fun _=>True) (okp:=fun _=>True) ?hr ?hp (fun _ hk=>hk) trivial (Below.refl _ _) (Nat.le_refl _) (by simp) ?_;(case hd=>rfl);(case hg=>rfl);(case hr=>first |(go_simp;done) |(go_simp;rfl));(case hp=>exact(Reps.one (show Kd.M (Kd.int .i64) _ _ _ 3 [.int .i64 3] from rfl) (Reps.one (show Kd.M (Kd.int .i64) _ _ _ 2 [.int .i64 2] from rfl) (Reps.one (show Kd.M (Kd.int .i64) _ _ _ 1 [.int .i64 1] from rfl) (Reps.none _ _)))));intro v158 w64 ho65 hb hg_ hnew_;clear hg_ hnew_;(first | rw [← Ny157.out] at ho65 |(simp only [Int.reduceToNat] at ho65;rw [← Ny157.out] at ho65));have n0_:=Aside0.mk (Kd.R_elder' (by(with_reducible repeat(first | apply Kd.R_alloc | apply Kd.R_drewN | apply Kd.R_drew));exact HO131.out) (Kd.R_base ho65) hb);have n1_:=Aside0.mk (Kd.R_elder' (by(with_reducible repeat(first | apply Kd.R_alloc | apply Kd.R_drewN | apply Kd.R_drew));exact HO135.out) (Kd.R_base ho65) hb);have n2_:=Aside0.mk (Kd.R_elder' (by(with_reducible repeat(first | apply Kd.R_alloc | apply Kd.R_drewN | apply Kd.R_drew));exact HO139.out) (Kd.R_base ho65) hb);have n3_:=Aside0.mk (Kd.R_elder' (by(with_reducible repeat(first | apply Kd.R_alloc | apply Kd.R_drewN | apply Kd.R_drew));exact HO144.out) (Kd.R_base ho65) hb);have n4_:=Aside0.mk (Kd.R_elder' (by(with_reducible repeat(first | apply Kd.R_alloc | apply Kd.R_drewN | apply Kd.R_drew));exact HO148.out) (Kd.R_base ho65) hb);have n5_:=Aside0.mk (Kd.R_elder' (by(with_reducible repeat(first | apply Kd.R_alloc | apply Kd.R_drewN | apply Kd.R_drew));exact HO151.out) (Kd.R_base ho65) hb);have n6_:=Aside0.mk (Kd.R_elder' (by(with_reducible repeat(first | apply Kd.R_alloc | apply Kd.R_drewN | apply Kd.R_drew));exact HO155.out) (Kd.R_base ho65) hb);have n7_:=Aside0.mk (Kd.R_lower (Kd.R_new' (Kd.R_new' (Kd.R_new' (Kd.R_new' (Kd.R_new' (Kd.R_new' (Kd.R_new' ho65 (Kd.R_lt (by(with_reducible repeat(first | apply Kd.R_alloc | apply Kd.R_drewN | apply Kd.R_drew));exact HO131.out))) (Kd.R_lt (by(with_reducible repeat(first | apply Kd.R_alloc | apply Kd.R_drewN | apply Kd.R_drew));exact HO135.out))) (Kd.R_lt (by(with_reducible repeat(first | apply Kd.R_alloc | apply Kd.R_drewN | apply Kd.R_drew));exact HO139.out))) (Kd.R_lt (by(with_reducible repeat(first | apply Kd.R_alloc | apply Kd.R_drewN | apply Kd.R_drew));exact HO144.out))) (Kd.R_lt (by(with_reducible repeat(first | apply Kd.R_alloc | apply Kd.R_drewN | apply Kd.R_drew));exact HO148.out))) (Kd.R_lt (by(with_reducible repeat(first | apply Kd.R_alloc | apply Kd.R_drewN | apply Kd.R_drew));exact HO151.out))) (Kd.R_lt (by(with_reducible repeat(first | apply Kd.R_alloc | apply Kd.R_drewN | apply Kd.R_drew));exact HO155.out))) (bwZ (by repeat(first |(with_reducible first | exact HB.out | apply bwA | apply bwN | apply bw1) | exact HB.out))));have n8_:=Aside0.mk (bwT (by repeat(first |(with_reducible first | exact HB.out | apply bwA | apply bwN | apply bw1) | exact HB.out)) hb);clear HO131;clear HO135;clear HO139;clear HO144;clear HO148;clear HO151;clear HO155;clear HB;have HO131:=n0_;have HO135:=n1_;have HO139:=n2_;have HO144:=n3_;have HO148:=n4_;have HO151:=n5_;have HO155:=n6_;have HO159:=n7_;have HB:=n8_;clear n0_ n1_ n2_ n3_ n4_ n5_ n6_ n7_ n8_;clear hb ho65;obtain ⟨Ao66,co66,eo66⟩:=Kd.R_slice HO139.out;subst eo66;obtain ⟨Ao67,co67,eo67⟩:=Kd.R_slice HO159.out;subst eo67) |(go_at_call 22;(with_reducible refine(w10_ints.calls k _ _ t136 _ _ y157 true _ ?side1 ?side2 ?side3 ?side4 A22.out).mono ?_);(case side1=>repeat(first | exact(Kd.R_reads' HO139.out).2.2 |(with_reducible refine Kd.C_alloc ?_ _) |(with_reducible refine Kd.C_drewN ?_ _) |(with_reducible refine Kd.C_drew ?_)));(case side2=>exact(Kd.R_reads' HO139.out).2.1);(case side3=>repeat(first | exact(Kd.R_reads' HO159.out).2.2 |(with_reducible refine Kd.C_alloc ?_ _) |(with_reducible refine Kd.C_drewN ?_ _) |(with_reducible refine Kd.C_drew ?_)));(case side4=>exact(Kd.R_reads' HO159.out).2.1);rintro e w' ⟨rfl,⟨nd,rfl⟩⟩))
   go_meet
   exact⟨_,(true),(by first | rfl |(simp;done) |(simp [*];done)),H',⟨by first | omega | exact Nat.le_refl _⟩,⟨by repeat(first |(with_reducible first | exact HB.out | apply bwA | apply bwN | apply bw1) | exact HB.out)⟩⟩
  rw [if_pos c25] at H
  have c25b0 :(t140 == 52) = true:=beq_iff_eq.mpr c25
  have c25b1 :(t140 != 52) = false:=bne_eq_false_iff_eq.mpr c25
  clear c25
  by_cases c26 : t146 = 0
  rotate_left
  ·rw [if_neg c26] at H
   have c26b0 :(t146 == 0) = false:=beq_eq_false_iff_ne.mpr c26
   have c26b1 :(t146 != 0) = true:=bne_iff_ne.mpr c26
   have H':=Aside0.mk H
   clear H
   go_wp2_with (first |((with_reducible refine gate_dst (N:=36) rfl ?_);(try(refine gate_guard (by rfl) ?_;dsimp only));refine Kd.R_lit (Kd.int .i64) _ 3 ?hg (N:=36) ?hd (xs:=([1,2] : List Int)) (inner:=[.int .i64 1,.int .i64 2]) (ok:=fun _=>True) (okp:=fun _=>True) ?hr ?hp (fun _ hk=>hk) trivial (Below.refl _ _) (Nat.le_refl _) (by simp) ?_;(case hd=>rfl);(case hg=>rfl);(case hr=>first |(go_simp;done) |(go_simp;rfl));(case hp=>exact(Reps.one (show Kd.M (Kd.int .i64) _ _ _ 1 [.int .i64 1] from rfl) (Reps.one (show Kd.M (Kd.int .i64) _ _ _ 2 [.int .i64 2] from rfl) (Reps.none _ _))));intro v150 w44 ho45 hb hg_ hnew_;clear hg_ hnew_;(first | rw [← Ny149.out] at ho45 |(simp only [Int.reduceToNat] at ho45;rw [← Ny149.out] at ho45));have n0_:=Aside0.mk (Kd.R_elder' (by(with_reducible repeat(first | apply Kd.R_alloc | apply Kd.R_drewN | apply Kd.R_drew));exact HO131.out) (Kd.R_base ho45) hb);have n1_:=Aside0.mk (Kd.R_elder' (by(with_reducible repeat(first | apply Kd.R_alloc | apply Kd.R_drewN | apply Kd.R_drew));exact HO135.out) (Kd.R_base ho45) hb);have n2_:=Aside0.mk (Kd.R_elder' (by(with_reducible repeat(first | apply Kd.R_alloc | apply Kd.R_drewN | apply Kd.R_drew));exact HO139.out) (Kd.R_base ho45) hb);have n3_:=Aside0.mk (Kd.R_elder' (by(with_reducible repeat(first | apply Kd.R_alloc | apply Kd.R_drewN | apply Kd.R_drew));exact HO144.out) (Kd.R_base ho45) hb);have n4_:=Aside0.mk (Kd.R_elder' (by(with_reducible repeat(first | apply Kd.R_alloc | apply Kd.R_drewN | apply Kd.R_drew));exact HO148.out) (Kd.R_base ho45) hb);have n5_:=Aside0.mk (Kd.R_lower (Kd.R_new' (Kd.R_new' (Kd.R_new' (Kd.R_new' (Kd.R_new' ho45 (Kd.R_lt (by(with_reducible repeat(first | apply Kd.R_alloc | apply Kd.R_drewN | apply Kd.R_drew));exact HO131.out))) (Kd.R_lt (by(with_reducible repeat(first | apply Kd.R_alloc | apply Kd.R_drewN | apply Kd.R_drew));exact HO135.out))) (Kd.R_lt (by(with_reducible repeat(first | apply Kd.R_alloc | apply Kd.R_drewN | apply Kd.R_drew));exact HO139.out))) (Kd.R_lt (by(with_reducible repeat(first | apply Kd.R_alloc | apply Kd.R_drewN | apply Kd.R_drew));exact HO144.out))) (Kd.R_lt (by(with_reducible repeat(first | apply Kd.R_alloc | apply Kd.R_drewN | apply Kd.R_drew));exact HO148.out))) (bwZ (by repeat(first |(with_reducible first | exact HB.out | apply bwA | apply bwN | apply bw1) | exact HB.out))));have n6_:=Aside0.mk (bwT (by repeat(first |(with_reducible first | exact HB.out | apply bwA | apply bwN | apply bw1) | exact HB.out)) hb);clear HO131;clear HO135;clear HO139;clear HO144;clear HO148;clear HB;have HO131:=n0_;have HO135:=n1_;have HO139:=n2_;have HO144:=n3_;have HO148:=n4_;have HO151:=n5_;have HB:=n6_;clear n0_ n1_ n2_ n3_ n4_ n5_ n6_;clear hb ho45;obtain ⟨Ao46,co46,eo46⟩:=Kd.R_slice HO131.out;subst eo46;obtain ⟨Ao47,co47,eo47⟩:=Kd.R_slice HO151.out;subst eo47) |(go_at_call 22;(with_reducible refine(w10_ints.calls k _ _ t128 _ _ y149 true _ ?side1 ?side2 ?side3 ?side4 A16.out).mono ?_);(case side1=>repeat(first | exact(Kd.R_reads' HO131.out).2.2 |(with_reducible refine Kd.C_alloc ?_ _) |(with_reducible refine Kd.C_drewN ?_ _) |(with_reducible refine Kd.C_drew ?_)));(case side2=>exact(Kd.R_reads' HO131.out).2.1);(case side3=>repeat(first | exact(Kd.R_reads' HO151.out).2.2 |(with_reducible refine Kd.C_alloc ?_ _) |(with_reducible refine Kd.C_drewN ?_ _) |(with_reducible refine Kd.C_drew ?_)));(case side4=>exact(Kd.R_reads' HO151.out).2.1);rintro e w' ⟨rfl,⟨nd,rfl⟩⟩) |((with_reducible refine gate_dst (N:=46) rfl ?_);(try(refine gate_guard (by rfl) ?_;dsimp only));refine Kd.R_lit (Kd.int .i64) _ 3 ?hg (N:=46) ?hd (xs:=([2,3] : List Int)) (inner:=[.int .i64 2,.int .i64 3]) (ok:=fun _=>True) (okp:=fun _=>True) ?hr ?hp (fun _ hk=>hk) trivial (Below.refl _ _) (Nat.le_refl _) (by simp) ?_;(case hd=>rfl);(case hg=>rfl);(case hr=>first |(go_simp;done) |(go_simp;rfl));(case hp=>exact(Reps.one (show Kd.M (Kd.int .i64) _ _ _ 2 [.int .i64 2] from rfl) (Reps.one (show Kd.M (Kd.int .i64) _ _ _ 3 [.int .i64 3] from rfl) (Reps.none _ _))));intro v154 w48 ho49 hb hg_ hnew_;clear hg_ hnew_;(first | rw [← Ny153.out] at ho49 |(simp only [Int.reduceToNat] at ho49;rw [← Ny153.out] at ho49));have n0_:=Aside0.mk (Kd.R_elder' (by(with_reducible repeat(first | apply Kd.R_alloc | apply Kd.R_drewN | apply Kd.R_drew));exact HO131.out) (Kd.R_base ho49) hb);have n1_:=Aside0.mk (Kd.R_elder' (by(with_reducible repeat(first | apply Kd.R_alloc | apply Kd.R_drewN | apply Kd.R_drew));exact HO135.out) (Kd.R_base ho49) hb);have n2_:=Aside0.mk (Kd.R_elder' (by(with_reducible repeat(first | apply Kd.R_alloc | apply Kd.R_drewN | apply Kd.R_drew));exact HO139.out) (Kd.R_base ho49) hb);have n3_:=Aside0.mk (Kd.R_elder' (by(with_reducible repeat(first | apply Kd.R_alloc | apply Kd.R_drewN | apply Kd.R_drew));exact HO144.out) (Kd.R_base ho49) hb);have n4_:=Aside0.mk (Kd.R_elder' (by(with_reducible repeat(first | apply Kd.R_alloc | apply Kd.R_drewN | apply Kd.R_drew));exact HO148.out) (Kd.R_base ho49) hb);have n5_:=Aside0.mk (Kd.R_elder' (by(with_reducible repeat(first | apply Kd.R_alloc | apply Kd.R_drewN | apply Kd.R_drew));exact HO151.out) (Kd.R_base ho49) hb);have n6_:=Aside0.mk (Kd.R_lower (Kd.R_new' (Kd.R_new' (Kd.R_new' (Kd.R_new' (Kd.R_new' (Kd.R_new' ho49 (Kd.R_lt (by(with_reducible repeat(first | apply Kd.R_alloc | apply Kd.R_drewN | apply Kd.R_drew));exact HO131.out))) (Kd.R_lt (by(with_reducible repeat(first | apply Kd.R_alloc | apply Kd.R_drewN | apply Kd.R_drew));exact HO135.out))) (Kd.R_lt (by(with_reducible repeat(first | apply Kd.R_alloc | apply Kd.R_drewN | apply Kd.R_drew));exact HO139.out))) (Kd.R_lt (by(with_reducible repeat(first | apply Kd.R_alloc | apply Kd.R_drewN | apply Kd.R_drew));exact HO144.out))) (Kd.R_lt (by(with_reducible repeat(first | apply Kd.R_alloc | apply Kd.R_drewN | apply Kd.R_drew));exact HO148.out))) (Kd.R_lt (by(with_reducible repeat(first | apply Kd.R_alloc | apply Kd.R_drewN | apply Kd.R_drew));exact HO151.out))) (bwZ (by repeat(first |(with_reducible first | exact HB.out | apply bwA | apply bwN | apply bw1) | exact HB.out))));have n7_:=Aside0.mk (bwT (by repeat(first |(with_reducible first | exact HB.out | apply bwA | apply bwN | apply bw1) | exact HB.out)) hb);clear HO131;clear HO135;clear HO139;clear HO144;clear HO148;clear HO151;clear HB;have HO131:=n0_;have HO135:=n1_;have HO139:=n2_;have HO144:=n3_;have HO148:=n4_;have HO151:=n5_;have HO155:=n6_;have HB:=n7_;clear n0_ n1_ n2_ n3_ n4_ n5_ n6_ n7_;clear hb ho49;obtain ⟨Ao50,co50,eo50⟩:=Kd.R_slice HO135.out;subst eo50;obtain ⟨Ao51,co51,eo51⟩:=Kd.R_slice HO155.out;subst eo51) |(go_at_call 22;(with_reducible refine(w10_ints.calls k _ _ t132 _ _ y153 true _ ?side1 ?side2 ?side3 ?side4 A19.out).mono ?_);(case side1=>repeat(first | exact(Kd.R_reads' HO135.out).2.2 |(with_reducible refine Kd.C_alloc ?_ _) |(with_reducible refine Kd.C_drewN ?_ _) |(with_reducible refine Kd.C_drew ?_)));(case side2=>exact(Kd.R_reads' HO135.out).2.1);(case side3=>repeat(first | exact(Kd.R_reads' HO155.out).2.2 |(with_reducible refine Kd.C_alloc ?_ _) |(with_reducible refine Kd.C_drewN ?_ _) |(with_reducible refine Kd.C_drew ?_)));(case side4=>exact(Kd.R_reads' HO155.out).2.1);rintro e w' ⟨rfl,⟨nd,rfl⟩⟩) |((with_reducible refine gate_dst (N:=56) rfl ?_);(try(refine gate_guard (by rfl) ?_;dsimp only));refine Kd.R_lit (Kd.int .i64) _ 3 ?hg (N:=56) ?hd (xs:=([3,2,1] : List Int)) (inner:=[.int .i64 3,.int .i64 2,.int .i64 1]) (ok:=fun _=>True) (okp:=fun _=>True) ?hr ?hp (fun _ hk=>hk) trivial (Below.refl _ _) (Nat.le_refl _) (by simp) ?_;(case hd=>rfl);(case hg=>rfl);(case hr=>first |(go_simp;done) |(go_simp;rfl));(case hp=>exact(Reps.one (show Kd.M (Kd.int .i64) _ _ _ 3 [.int .i64 3] from rfl) (Reps.one (show Kd.M (Kd.int .i64) _ _ _ 2 [.int .i64 2] from rfl) (Reps.one (show Kd.M (Kd.int .i64) _ _ _ 1 [.int .i64 1] from rfl) (Reps.none _ _)))));intro v158 w52 ho53 hb hg_ hnew_;clear hg_ hnew_;(first | rw [← Ny157.out] at ho53 |(simp only [Int.reduceToNat] at ho53;rw [← Ny157.out] at ho53));have n0_:=Aside0.mk (Kd.R_elder' (by(with_reducible repeat(first | apply Kd.R_alloc | apply Kd.R_drewN | apply Kd.R_drew));exact HO131.out) (Kd.R_base ho53) hb);have n1_:=Aside0.mk (Kd.R_elder' (by(with_reducible repeat(first | apply Kd.R_alloc | apply Kd.R_drewN | apply Kd.R_drew));exact HO135.out) (Kd.R_base ho53) hb);have n2_:=Aside0.mk (Kd.R_elder' (by(with_reducible repeat(first | apply Kd.R_alloc | apply Kd.R_drewN | apply Kd.R_drew));exact HO139.out) (Kd.R_base ho53) hb);have n3_:=Aside0.mk (Kd.R_elder' (by(with_reducible repeat(first | apply Kd.R_alloc | apply Kd.R_drewN | apply Kd.R_drew));exact HO144.out) (Kd.R_base ho53) hb);have n4_:=Aside0.mk (Kd.R_elder' (by(with_reducible repeat(first | apply Kd.R_alloc | apply Kd.R_drewN | apply Kd.R_drew));exact HO148.out) (Kd.R_base ho53) hb);have n5_:=Aside0.mk (Kd.R_elder' (by(with_reducible repeat(first | apply Kd.R_alloc | apply Kd.R_drewN | apply Kd.R_drew));exact HO151.out) (Kd.R_base ho53) hb);have n6_:=Aside0.mk (Kd.R_elder' (by(with_reducible repeat(first | apply Kd.R_alloc | apply Kd.R_drewN | apply Kd.R_drew));exact HO155.out) (Kd.R_base ho53) hb);have n7_:=Aside0.mk (Kd.R_lower (Kd.R_new' (Kd.R_new' (Kd.R_new' (Kd.R_new' (Kd.R_new' (Kd.R_new' (Kd.R_new' ho53 (Kd.R_lt (by(with_reducible repeat(first | apply Kd.R_alloc | apply Kd.R_drewN | apply Kd.R_drew));exact HO131.out))) (Kd.R_lt (by(with_reducible repeat(first | apply Kd.R_alloc | apply Kd.R_drewN | apply Kd.R_drew));exact HO135.out))) (Kd.R_lt (by(with_reducible repeat(first | apply Kd.R_alloc | apply Kd.R_drewN | apply Kd.R_drew));exact HO139.out))) (Kd.R_lt (by(with_reducible repeat(first | apply Kd.R_alloc | apply Kd.R_drewN | apply Kd.R_drew));exact HO144.out))) (Kd.R_lt (by(with_reducible repeat(first | apply Kd.R_alloc | apply Kd.R_drewN | apply Kd.R_drew));exact HO148.out))) (Kd.R_lt (by(with_reducible repeat(first | apply Kd.R_alloc | apply Kd.R_drewN | apply Kd.R_drew));exact HO151.out))) (Kd.R_lt (by(with_reducible repeat(first | apply Kd.R_alloc | apply Kd.R_drewN | apply Kd.R_drew));exact HO155.out))) (bwZ (by repeat(first |(with_reducible first | exact HB.out | apply bwA | apply bwN | apply bw1) | exact HB.out))));have n8_:=Aside0.mk (bwT (by repeat(first |(with_reducible first | exact HB.out | apply bwA | apply bwN | apply bw1) | exact HB.out)) hb);clear HO131;clear HO135;clear HO139;clear HO144;clear HO148;clear HO151;clear HO155;clear HB;have HO131:=n0_;have HO135:=n1_;have HO139:=n2_;have HO144:=n3_;have HO148:=n4_;have HO151:=n5_;have HO155:=n6_;have HO159:=n7_;have HB:=n8_;clear n0_ n1_ n2_ n3_ n4_ n5_ n6_ n7_ n8_;clear hb ho53;obtain ⟨Ao54,co54,eo54⟩:=Kd.R_slice HO139.out;subst eo54;obtain ⟨Ao55,co55,eo55⟩:=Kd.R_slice HO159.out;subst eo55) |(go_at_call 22;(with_reducible refine(w10_ints.calls k _ _ t136 _ _ y157 true _ ?side1 ?side2 ?side3 ?side4 A22.out).mono ?_);(case side1=>repeat(first | exact(Kd.R_reads' HO139.out).2.2 |(with_reducible refine Kd.C_alloc ?_ _) |(with_reducible refine Kd.C_drewN ?_ _) |(with_reducible refine Kd.C_drew ?_)));(case side2=>exact(Kd.R_reads' HO139.out).2.1);(case side3=>repeat(first | exact(Kd.R_reads' HO159.out).2.2 |(with_reducible refine Kd.C_alloc ?_ _) |(with_reducible refine Kd.C_drewN ?_ _) |(with_reducible refine Kd.C_drew ?_)));(case side4=>exact(Kd.R_reads' HO159.out).2.1);rintro e w' ⟨rfl,⟨nd,rfl⟩⟩))
   go_meet
   exact⟨_,(true),(by first | rfl |(simp;done) |(simp [*];done)),H',⟨by first | omega | exact Nat.le_refl _⟩,⟨by repeat(first |(with_reducible first | exact HB.out | apply bwA | apply bwN | apply bw1) | exact HB.out)⟩⟩
  rw [if_pos c26] at H
  have c26b0 :(t146 == 0) = true:=beq_iff_eq.mpr c26
  have c26b1 :(t146 != 0) = false:=bne_eq_false_iff_eq.mpr c26
  clear c26
  obtain ⟨y161,hy161⟩ : ∃ y_ : List Int,y_ =(([1,2] : List Int)):=⟨_,rfl⟩
  replace H :((w10_ints.f k t145 y161).bind fun t164=>(w10_awake.j0 k (!t164))) = some r:=by first |(rw [hy161];with_reducible exact H) |(have H2_:=(Option.bind_some _ _).symm.trans H;rw [hy161];with_reducible exact H2_) |(have H2_:=(Option.bind_some _ _).symm.trans H;with_reducible exact H2_) | with_reducible exact H |(rw [hy161];exact H) | exact H
  have Ny161:=Aside0.mk hy161
  clear hy161
  replace H:=Option.bind_eq_some_iff.mp H
  obtain ⟨t164,A270,H⟩:=H
  replace H :(w10_awake.j0 k (!t164)) = some r:=H
  have A27:=Aside0.mk A270
  clear A270
  have H':=Aside0.mk H
  clear H
  go_wp2_with (first |((with_reducible refine gate_dst (N:=36) rfl ?_);(try(refine gate_guard (by rfl) ?_;dsimp only));refine Kd.R_lit (Kd.int .i64) _ 3 ?hg (N:=36) ?hd (xs:=([1,2] : List Int)) (inner:=[.int .i64 1,.int .i64 2]) (ok:=fun _=>True) (okp:=fun _=>True) ?hr ?hp (fun _ hk=>hk) trivial (Below.refl _ _) (Nat.le_refl _) (by simp) ?_;(case hd=>rfl);(case hg=>rfl);(case hr=>first |(go_simp;done) |(go_simp;rfl));(case hp=>exact(Reps.one (show Kd.M (Kd.int .i64) _ _ _ 1 [.int .i64 1] from rfl) (Reps.one (show Kd.M (Kd.int .i64) _ _ _ 2 [.int .i64 2] from rfl) (Reps.none _ _))));intro v150 w28 ho29 hb hg_ hnew_;clear hg_ hnew_;(first | rw [← Ny149.out] at ho29 |(simp only [Int.reduceToNat] at ho29;rw [← Ny149.out] at ho29));have n0_:=Aside0.mk (Kd.R_elder' (by(with_reducible repeat(first | apply Kd.R_alloc | apply Kd.R_drewN | apply Kd.R_drew));exact HO131.out) (Kd.R_base ho29) hb);have n1_:=Aside0.mk (Kd.R_elder' (by(with_reducible repeat(first | apply Kd.R_alloc | apply Kd.R_drewN | apply Kd.R_drew));exact HO135.out) (Kd.R_base ho29) hb);have n2_:=Aside0.mk (Kd.R_elder' (by(with_reducible repeat(first | apply Kd.R_alloc | apply Kd.R_drewN | apply Kd.R_drew));exact HO139.out) (Kd.R_base ho29) hb);have n3_:=Aside0.mk (Kd.R_elder' (by(with_reducible repeat(first | apply Kd.R_alloc | apply Kd.R_drewN | apply Kd.R_drew));exact HO144.out) (Kd.R_base ho29) hb);have n4_:=Aside0.mk (Kd.R_elder' (by(with_reducible repeat(first | apply Kd.R_alloc | apply Kd.R_drewN | apply Kd.R_drew));exact HO148.out) (Kd.R_base ho29) hb);have n5_:=Aside0.mk (Kd.R_lower (Kd.R_new' (Kd.R_new' (Kd.R_new' (Kd.R_new' (Kd.R_new' ho29 (Kd.R_lt (by(with_reducible repeat(first | apply Kd.R_alloc | apply Kd.R_drewN | apply Kd.R_drew));exact HO131.out))) (Kd.R_lt (by(with_reducible repeat(first | apply Kd.R_alloc | apply Kd.R_drewN | apply Kd.R_drew));exact HO135.out))) (Kd.R_lt (by(with_reducible repeat(first | apply Kd.R_alloc | apply Kd.R_drewN | apply Kd.R_drew));exact HO139.out))) (Kd.R_lt (by(with_reducible repeat(first | apply Kd.R_alloc | apply Kd.R_drewN | apply Kd.R_drew));exact HO144.out))) (Kd.R_lt (by(with_reducible repeat(first | apply Kd.R_alloc | apply Kd.R_drewN | apply Kd.R_drew));exact HO148.out))) (bwZ (by repeat(first |(with_reducible first | exact HB.out | apply bwA | apply bwN | apply bw1) | exact HB.out))));have n6_:=Aside0.mk (bwT (by repeat(first |(with_reducible first | exact HB.out | apply bwA | apply bwN | apply bw1) | exact HB.out)) hb);clear HO131;clear HO135;clear HO139;clear HO144;clear HO148;clear HB;have HO131:=n0_;have HO135:=n1_;have HO139:=n2_;have HO144:=n3_;have HO148:=n4_;have HO151:=n5_;have HB:=n6_;clear n0_ n1_ n2_ n3_ n4_ n5_ n6_;clear hb ho29;obtain ⟨Ao30,co30,eo30⟩:=Kd.R_slice HO131.out;subst eo30;obtain ⟨Ao31,co31,eo31⟩:=Kd.R_slice HO151.out;subst eo31) |(go_at_call 22;(with_reducible refine(w10_ints.calls k _ _ t128 _ _ y149 true _ ?side1 ?side2 ?side3 ?side4 A16.out).mono ?_);(case side1=>repeat(first | exact(Kd.R_reads' HO131.out).2.2 |(with_reducible refine Kd.C_alloc ?_ _) |(with_reducible refine Kd.C_drewN ?_ _) |(with_reducible refine Kd.C_drew ?_)));(case side2=>exact(Kd.R_reads' HO131.out).2.1);(case side3=>repeat(first | exact(Kd.R_reads' HO151.out).2.2 |(with_reducible refine Kd.C_alloc ?_ _) |(with_reducible refine Kd.C_drewN ?_ _) |(with_reducible refine Kd.C_drew ?_)));(case side4=>exact(Kd.R_reads' HO151.out).2.1);rintro e w' ⟨rfl,⟨nd,rfl⟩⟩) |((with_reducible refine gate_dst (N:=46) rfl ?_);(try(refine gate_guard (by rfl) ?_;dsimp only));refine Kd.R_lit (Kd.int .i64) _ 3 ?hg (N:=46) ?hd (xs:=([2,3] : List Int)) (inner:=[.int .i64 2,.int .i64 3]) (ok:=fun _=>True) (okp:=fun _=>True) ?hr ?hp (fun _ hk=>hk) trivial (Below.refl _ _) (Nat.le_refl _) (by simp) ?_;(case hd=>rfl);(case hg=>rfl);(case hr=>first |(go_simp;done) |(go_simp;rfl));(case hp=>exact(Reps.one (show Kd.M (Kd.int .i64) _ _ _ 2 [.int .i64 2] from rfl) (Reps.one (show Kd.M (Kd.int .i64) _ _ _ 3 [.int .i64 3] from rfl) (Reps.none _ _))));intro v154 w32 ho33 hb hg_ hnew_;clear hg_ hnew_;(first | rw [← Ny153.out] at ho33 |(simp only [Int.reduceToNat] at ho33;rw [← Ny153.out] at ho33));have n0_:=Aside0.mk (Kd.R_elder' (by(with_reducible repeat(first | apply Kd.R_alloc | apply Kd.R_drewN | apply Kd.R_drew));exact HO131.out) (Kd.R_base ho33) hb);have n1_:=Aside0.mk (Kd.R_elder' (by(with_reducible repeat(first | apply Kd.R_alloc | apply Kd.R_drewN | apply Kd.R_drew));exact HO135.out) (Kd.R_base ho33) hb);have n2_:=Aside0.mk (Kd.R_elder' (by(with_reducible repeat(first | apply Kd.R_alloc | apply Kd.R_drewN | apply Kd.R_drew));exact HO139.out) (Kd.R_base ho33) hb);have n3_:=Aside0.mk (Kd.R_elder' (by(with_reducible repeat(first | apply Kd.R_alloc | apply Kd.R_drewN | apply Kd.R_drew));exact HO144.out) (Kd.R_base ho33) hb);have n4_:=Aside0.mk (Kd.R_elder' (by(with_reducible repeat(first | apply Kd.R_alloc | apply Kd.R_drewN | apply Kd.R_drew));exact HO148.out) (Kd.R_base ho33) hb);have n5_:=Aside0.mk (Kd.R_elder' (by(with_reducible repeat(first | apply Kd.R_alloc | apply Kd.R_drewN | apply Kd.R_drew));exact HO151.out) (Kd.R_base ho33) hb);have n6_:=Aside0.mk (Kd.R_lower (Kd.R_new' (Kd.R_new' (Kd.R_new' (Kd.R_new' (Kd.R_new' (Kd.R_new' ho33 (Kd.R_lt (by(with_reducible repeat(first | apply Kd.R_alloc | apply Kd.R_drewN | apply Kd.R_drew));exact HO131.out))) (Kd.R_lt (by(with_reducible repeat(first | apply Kd.R_alloc | apply Kd.R_drewN | apply Kd.R_drew));exact HO135.out))) (Kd.R_lt (by(with_reducible repeat(first | apply Kd.R_alloc | apply Kd.R_drewN | apply Kd.R_drew));exact HO139.out))) (Kd.R_lt (by(with_reducible repeat(first | apply Kd.R_alloc | apply Kd.R_drewN | apply Kd.R_drew));exact HO144.out))) (Kd.R_lt (by(with_reducible repeat(first | apply Kd.R_alloc | apply Kd.R_drewN | apply Kd.R_drew));exact HO148.out))) (Kd.R_lt (by(with_reducible repeat(first | apply Kd.R_alloc | apply Kd.R_drewN | apply Kd.R_drew));exact HO151.out))) (bwZ (by repeat(first |(with_reducible first | exact HB.out | apply bwA | apply bwN | apply bw1) | exact HB.out))));have n7_:=Aside0.mk (bwT (by repeat(first |(with_reducible first | exact HB.out | apply bwA | apply bwN | apply bw1) | exact HB.out)) hb);clear HO131;clear HO135;clear HO139;clear HO144;clear HO148;clear HO151;clear HB;have HO131:=n0_;have HO135:=n1_;have HO139:=n2_;have HO144:=n3_;have HO148:=n4_;have HO151:=n5_;have HO155:=n6_;have HB:=n7_;clear n0_ n1_ n2_ n3_ n4_ n5_ n6_ n7_;clear hb ho33;obtain ⟨Ao34,co34,eo34⟩:=Kd.R_slice HO135.out;subst eo34;obtain ⟨Ao35,co35,eo35⟩:=Kd.R_slice HO155.out;subst eo35) |(go_at_call 22;(with_reducible refine(w10_ints.calls k _ _ t132 _ _ y153 true _ ?side1 ?side2 ?side3 ?side4 A19.out).mono ?_);(case side1=>repeat(first | exact(Kd.R_reads' HO135.out).2.2 |(with_reducible refine Kd.C_alloc ?_ _) |(with_reducible refine Kd.C_drewN ?_ _) |(with_reducible refine Kd.C_drew ?_)));(case side2=>exact(Kd.R_reads' HO135.out).2.1);(case side3=>repeat(first | exact(Kd.R_reads' HO155.out).2.2 |(with_reducible refine Kd.C_alloc ?_ _) |(with_reducible refine Kd.C_drewN ?_ _) |(with_reducible refine Kd.C_drew ?_)));(case side4=>exact(Kd.R_reads' HO155.out).2.1);rintro e w' ⟨rfl,⟨nd,rfl⟩⟩) |((with_reducible refine gate_dst (N:=56) rfl ?_);(try(refine gate_guard (by rfl) ?_;dsimp only));refine Kd.R_lit (Kd.int .i64) _ 3 ?hg (N:=56) ?hd (xs:=([3,2,1] : List Int)) (inner:=[.int .i64 3,.int .i64 2,.int .i64 1]) (ok:=fun _=>True) (okp:=fun _=>True) ?hr ?hp (fun _ hk=>hk) trivial (Below.refl _ _) (Nat.le_refl _) (by simp) ?_;(case hd=>rfl);(case hg=>rfl);(case hr=>first |(go_simp;done) |(go_simp;rfl));(case hp=>exact(Reps.one (show Kd.M (Kd.int .i64) _ _ _ 3 [.int .i64 3] from rfl) (Reps.one (show Kd.M (Kd.int .i64) _ _ _ 2 [.int .i64 2] from rfl) (Reps.one (show Kd.M (Kd.int .i64) _ _ _ 1 [.int .i64 1] from rfl) (Reps.none _ _)))));intro v158 w36 ho37 hb hg_ hnew_;clear hg_ hnew_;(first | rw [← Ny157.out] at ho37 |(simp only [Int.reduceToNat] at ho37;rw [← Ny157.out] at ho37));have n0_:=Aside0.mk (Kd.R_elder' (by(with_reducible repeat(first | apply Kd.R_alloc | apply Kd.R_drewN | apply Kd.R_drew));exact HO131.out) (Kd.R_base ho37) hb);have n1_:=Aside0.mk (Kd.R_elder' (by(with_reducible repeat(first | apply Kd.R_alloc | apply Kd.R_drewN | apply Kd.R_drew));exact HO135.out) (Kd.R_base ho37) hb);have n2_:=Aside0.mk (Kd.R_elder' (by(with_reducible repeat(first | apply Kd.R_alloc | apply Kd.R_drewN | apply Kd.R_drew));exact HO139.out) (Kd.R_base ho37) hb);have n3_:=Aside0.mk (Kd.R_elder' (by(with_reducible repeat(first | apply Kd.R_alloc | apply Kd.R_drewN | apply Kd.R_drew));exact HO144.out) (Kd.R_base ho37) hb);have n4_:=Aside0.mk (Kd.R_elder' (by(with_reducible repeat(first | apply Kd.R_alloc | apply Kd.R_drewN | apply Kd.R_drew));exact HO148.out) (Kd.R_base ho37) hb);have n5_:=Aside0.mk (Kd.R_elder' (by(with_reducible repeat(first | apply Kd.R_alloc | apply Kd.R_drewN | apply Kd.R_drew));exact HO151.out) (Kd.R_base ho37) hb);have n6_:=Aside0.mk (Kd.R_elder' (by(with_reducible repeat(first | apply Kd.R_alloc | apply Kd.R_drewN | apply Kd.R_drew));exact HO155.out) (Kd.R_base ho37) hb);have n7_:=Aside0.mk (Kd.R_lower (Kd.R_new' (Kd.R_new' (Kd.R_new' (Kd.R_new' (Kd.R_new' (Kd.R_new' (Kd.R_new' ho37 (Kd.R_lt (by(with_reducible repeat(first | apply Kd.R_alloc | apply Kd.R_drewN | apply Kd.R_drew));exact HO131.out))) (Kd.R_lt (by(with_reducible repeat(first | apply Kd.R_alloc | apply Kd.R_drewN | apply Kd.R_drew));exact HO135.out))) (Kd.R_lt (by(with_reducible repeat(first | apply Kd.R_alloc | apply Kd.R_drewN | apply Kd.R_drew));exact HO139.out))) (Kd.R_lt (by(with_reducible repeat(first | apply Kd.R_alloc | apply Kd.R_drewN | apply Kd.R_drew));exact HO144.out))) (Kd.R_lt (by(with_reducible repeat(first | apply Kd.R_alloc | apply Kd.R_drewN | apply Kd.R_drew));exact HO148.out))) (Kd.R_lt (by(with_reducible repeat(first | apply Kd.R_alloc | apply Kd.R_drewN | apply Kd.R_drew));exact HO151.out))) (Kd.R_lt (by(with_reducible repeat(first | apply Kd.R_alloc | apply Kd.R_drewN | apply Kd.R_drew));exact HO155.out))) (bwZ (by repeat(first |(with_reducible first | exact HB.out | apply bwA | apply bwN | apply bw1) | exact HB.out))));have n8_:=Aside0.mk (bwT (by repeat(first |(with_reducible first | exact HB.out | apply bwA | apply bwN | apply bw1) | exact HB.out)) hb);clear HO131;clear HO135;clear HO139;clear HO144;clear HO148;clear HO151;clear HO155;clear HB;have HO131:=n0_;have HO135:=n1_;have HO139:=n2_;have HO144:=n3_;have HO148:=n4_;have HO151:=n5_;have HO155:=n6_;have HO159:=n7_;have HB:=n8_;clear n0_ n1_ n2_ n3_ n4_ n5_ n6_ n7_ n8_;clear hb ho37;obtain ⟨Ao38,co38,eo38⟩:=Kd.R_slice HO139.out;subst eo38;obtain ⟨Ao39,co39,eo39⟩:=Kd.R_slice HO159.out;subst eo39) |(go_at_call 22;(with_reducible refine(w10_ints.calls k _ _ t136 _ _ y157 true _ ?side1 ?side2 ?side3 ?side4 A22.out).mono ?_);(case side1=>repeat(first | exact(Kd.R_reads' HO139.out).2.2 |(with_reducible refine Kd.C_alloc ?_ _) |(with_reducible refine Kd.C_drewN ?_ _) |(with_reducible refine Kd.C_drew ?_)));(case side2=>exact(Kd.R_reads' HO139.out).2.1);(case side3=>repeat(first | exact(Kd.R_reads' HO159.out).2.2 |(with_reducible refine Kd.C_alloc ?_ _) |(with_reducible refine Kd.C_drewN ?_ _) |(with_reducible refine Kd.C_drew ?_)));(case side4=>exact(Kd.R_reads' HO159.out).2.1);rintro e w' ⟨rfl,⟨nd,rfl⟩⟩) |((with_reducible refine gate_dst (N:=74) rfl ?_);(try(refine gate_guard (by rfl) ?_;dsimp only));refine Kd.R_lit (Kd.int .i64) _ 3 ?hg (N:=74) ?hd (xs:=([1,2] : List Int)) (inner:=[.int .i64 1,.int .i64 2]) (ok:=fun _=>True) (okp:=fun _=>True) ?hr ?hp (fun _ hk=>hk) trivial (Below.refl _ _) (Nat.le_refl _) (by simp) ?_;(case hd=>rfl);(case hg=>rfl);(case hr=>first |(go_simp;done) |(go_simp;rfl));(case hp=>exact(Reps.one (show Kd.M (Kd.int .i64) _ _ _ 1 [.int .i64 1] from rfl) (Reps.one (show Kd.M (Kd.int .i64) _ _ _ 2 [.int .i64 2] from rfl) (Reps.none _ _))));intro v162 w40 ho41 hb hg_ hnew_;clear hg_ hnew_;(first | rw [← Ny161.out] at ho41 |(simp only [Int.reduceToNat] at ho41;rw [← Ny161.out] at ho41));have n0_:=Aside0.mk (Kd.R_elder' (by(with_reducible repeat(first | apply Kd.R_alloc | apply Kd.R_drewN | apply Kd.R_drew));exact HO131.out) (Kd.R_base ho41) hb);have n1_:=Aside0.mk (Kd.R_elder' (by(with_reducible repeat(first | apply Kd.R_alloc | apply Kd.R_drewN | apply Kd.R_drew));exact HO135.out) (Kd.R_base ho41) hb);have n2_:=Aside0.mk (Kd.R_elder' (by(with_reducible repeat(first | apply Kd.R_alloc | apply Kd.R_drewN | apply Kd.R_drew));exact HO139.out) (Kd.R_base ho41) hb);have n3_:=Aside0.mk (Kd.R_elder' (by(with_reducible repeat(first | apply Kd.R_alloc | apply Kd.R_drewN | apply Kd.R_drew));exact HO144.out) (Kd.R_base ho41) hb);have n4_:=Aside0.mk (Kd.R_elder' (by(with_reducible repeat(first | apply Kd.R_alloc | apply Kd.R_drewN | apply Kd.R_drew));exact HO148.out) (Kd.R_base ho41) hb);have n5_:=Aside0.mk (Kd.R_elder' (by(with_reducible repeat(first | apply Kd.R_alloc | apply Kd.R_drewN | apply Kd.R_drew));exact HO151.out) (Kd.R_base ho41) hb);have n6_:=Aside0.mk (Kd.R_elder' (by(with_reducible repeat(first | apply Kd.R_alloc | apply Kd.R_drewN | apply Kd.R_drew));exact HO155.out) (Kd.R_base ho41) hb);have n7_:=Aside0.mk (Kd.R_elder' (by(with_reducible repeat(first | apply Kd.R_alloc | apply Kd.R_drewN | apply Kd.R_drew));exact HO159.out) (Kd.R_base ho41) hb);have n8_:=Aside0.mk (Kd.R_lower (Kd.R_new' (Kd.R_new' (Kd.R_new' (Kd.R_new' (Kd.R_new' (Kd.R_new' (Kd.R_new' (Kd.R_new' ho41 (Kd.R_lt (by(with_reducible repeat(first | apply Kd.R_alloc | apply Kd.R_drewN | apply Kd.R_drew));exact HO131.out))) (Kd.R_lt (by(with_reducible repeat(first | apply Kd.R_alloc | apply Kd.R_drewN | apply Kd.R_drew));exact HO135.out))) (Kd.R_lt (by(with_reducible repeat(first | apply Kd.R_alloc | apply Kd.R_drewN | apply Kd.R_drew));exact HO139.out))) (Kd.R_lt (by(with_reducible repeat(first | apply Kd.R_alloc | apply Kd.R_drewN | apply Kd.R_drew));exact HO144.out))) (Kd.R_lt (by(with_reducible repeat(first | apply Kd.R_alloc | apply Kd.R_drewN | apply Kd.R_drew));exact HO148.out))) (Kd.R_lt (by(with_reducible repeat(first | apply Kd.R_alloc | apply Kd.R_drewN | apply Kd.R_drew));exact HO151.out))) (Kd.R_lt (by(with_reducible repeat(first | apply Kd.R_alloc | apply Kd.R_drewN | apply Kd.R_drew));exact HO155.out))) (Kd.R_lt (by(with_reducible repeat(first | apply Kd.R_alloc | apply Kd.R_drewN | apply Kd.R_drew));exact HO159.out))) (bwZ (by repeat(first |(with_reducible first | exact HB.out | apply bwA | apply bwN | apply bw1) | exact HB.out))));have n9_:=Aside0.mk (bwT (by repeat(first |(with_reducible first | exact HB.out | apply bwA | apply bwN | apply bw1) | exact HB.out)) hb);clear HO131;clear HO135;clear HO139;clear HO144;clear HO148;clear HO151;clear HO155;clear HO159;clear HB;have HO131:=n0_;have HO135:=n1_;have HO139:=n2_;have HO144:=n3_;have HO148:=n4_;have HO151:=n5_;have HO155:=n6_;have HO159:=n7_;have HO163:=n8_;have HB:=n9_;clear n0_ n1_ n2_ n3_ n4_ n5_ n6_ n7_ n8_ n9_;clear hb ho41;obtain ⟨Ao42,co42,eo42⟩:=Kd.R_slice HO148.out;subst eo42;obtain ⟨Ao43,co43,eo43⟩:=Kd.R_slice HO163.out;subst eo43) |(go_at_call 22;(with_reducible refine(w10_ints.calls k _ _ t145 _ _ y161 t164 _ ?side1 ?side2 ?side3 ?side4 A27.out).mono ?_);(case side1=>repeat(first | exact(Kd.R_reads' HO148.out).2.2 |(with_reducible refine Kd.C_alloc ?_ _) |(with_reducible refine Kd.C_drewN ?_ _) |(with_reducible refine Kd.C_drew ?_)));(case side2=>exact(Kd.R_reads' HO148.out).2.1);(case side3=>repeat(first | exact(Kd.R_reads' HO163.out).2.2 |(with_reducible refine Kd.C_alloc ?_ _) |(with_reducible refine Kd.C_drewN ?_ _) |(with_reducible refine Kd.C_drew ?_)));(case side4=>exact(Kd.R_reads' HO163.out).2.1);rintro e w' ⟨rfl,⟨nd,rfl⟩⟩))
  go_meet
  exact⟨_,(!t164),(by first | rfl |(simp;done) |(simp [*];done)),H',⟨by first | omega | exact Nat.le_refl _⟩,⟨by repeat(first |(with_reducible first | exact HB.out | apply bwA | apply bwN | apply bw1) | exact HB.out)⟩⟩
 case rest =>
  clear HC6
  try clear c1
  try clear c2
  try clear p2
  try clear c3
  try clear c4
  try clear c15
  try clear c15b0
  try clear c15b1
  try clear c17
  try clear c18
  try clear c18b0
  try clear c18b1
  try clear c20
  try clear c21
  try clear c21b0
  try clear c21b1
  try clear c23
  try clear c24
  try clear c24b0
  try clear c24b1
  try clear c25
  try clear c25b0
  try clear c25b1
  try clear c26
  try clear c26b0
  try clear c26b1
  try clear c28
  try clear c31
  try clear c38
  try clear c48
  obtain ⟨kq,x77_5,rfl,HA,HJ5,HB⟩:=hcut
  cases kq with
  | zero=>exact absurd HA.out (by simp [w10_awake.j0])
  | succ kj5 =>
   have H:=HA.out
   clear HA
   simp only [w10_awake.j0] at H
   by_cases c116 : x77_5 = true
   ·subst c116
    have H1 :(some false) = some r:=by rw [if_pos rfl] at H;exact H
    clear H
    have H:=H1
    clear H1
    obtain rfl:=Option.some.inj H
    go_wp2
    go_ret
    exact⟨by first | rfl |(simp [errW_none,errW_some] <;> rfl) |(simp [*,errW_none,errW_some] <;> rfl),by repeat(first |(with_reducible first | exact HB.out | apply bwA | apply bwN | apply bw1) | exact HB.out)⟩
   replace c116:=Bool.eq_false_iff.mpr c116
   subst c116
   have H1 :(some true) = some r:=by rw [if_neg (show ¬ (false = true) by decide)] at H;exact H
   clear H
   have H:=H1
   clear H1
   obtain rfl:=Option.some.inj H
   go_wp2
   go_ret
   exact⟨by first | rfl |(simp [errW_none,errW_some] <;> rfl) |(simp [*,errW_none,errW_some] <;> rfl),by repeat(first |(with_reducible first | exact HB.out | apply bwA | apply bwN | apply bw1) | exact HB.out)⟩

def w10_mod.f (a0 : Int) (a1 : Int) : Option (Int):=if(IntKind.u64.wrap (a1)) = 0 then(none) else(some (wrap64 (Int.tmod (IntKind.u64.wrap (a0)) (IntKind.u64.wrap (a1)))))
set_option maxHeartbeats 8000000 in
set_option maxRecDepth 100000 in
theorem w10_mod.calls (a0 : Int) (a1 : Int) (r : Int) (w : World) (h : w10_mod.f a0 a1 = some r) :
  Calls Try.prog 26 #[.int .i64 a0,.int .i64 a1] w fun e w'=>e = .returned (.int .i64 r)∧Drawn0 w w':=by
 have H :(if(IntKind.u64.wrap (a1)) = 0 then(none) else(some (wrap64 (Int.tmod (IntKind.u64.wrap (a0)) (IntKind.u64.wrap (a1)))))) = some r:=h
 clear h
 by_cases c3 :(IntKind.u64.wrap (a1)) = 0
 ·rw [if_pos c3] at H
  exact absurd H (by simp)
 rw [if_neg c3] at H
 have c3b0 :((IntKind.u64.wrap (a1)) == 0) = false:=beq_eq_false_iff_ne.mpr c3
 have c3b1 :((IntKind.u64.wrap (a1)) != 0) = true:=bne_iff_ne.mpr c3
 obtain rfl:=Option.some.inj H
 go_enter Try.func26,Try.ntmps26
 go_wp2
 go_ret
 exact⟨by first | rfl |(simp;done) |(simp [*];done),by repeat(first | exact Drawn0.refl _ | apply Drawn0.step)⟩

open Go.Proofs.Ytbfhlaggllofdaa.G Go.Proofs.Ytbfhlaggllofdaa.T Go.Proofs.Ytbfhlaggllofdaa.P
def turns_Many.f (a0 a1 : Int) : Option (Int×Int):=some (if 0≤a0∧a0≤40∧0≤a1∧a1≤a0 then(ch a0.toNat a1.toNat,0) else(0,2))
set_option maxHeartbeats 800000 in
theorem turns_Many.calls (a0 a1 : Int) (r1 r2 : Int) (w : World) (h : turns_Many.f a0 a1 = some (r1, r2)) :
  Calls Try.prog 27 #[.int .i64 a0,.int .i64 a1] w fun e w'=>e = .returned (.tuple #[.int .i64 r1,.int .i64 r2])∧Below w.heap.size w w':=by
 replace h:=Option.some.inj h
 have HB:=Aside0.mk (Below.refl w.heap.size w)
 by_cases c0 : 0≤a0∧a0≤40
 rotate_left
 ·rw [if_neg (fun h => c0 ⟨h.1, h.2.1⟩)] at h
  injection h with h1 h2
  subst h1;subst h2
  have hi1:=Aside0.mk (within_no c0)
  clear c0
  go_enter Try.func27,Try.ntmps27
  go_wp2_with (go_at_call 56;go_must (with_reducible refine(turns_within.calls a0 0 40 false _ hi1.out).mono ?_;rintro e w' ⟨rfl,⟨nd,rfl⟩⟩))
  go_ret2
  exact⟨rfl,by repeat(first |(with_reducible first | exact HB.out | apply bwN) | exact HB.out)⟩
 by_cases c1 : 0≤a1∧a1≤a0
 rotate_left
 ·rw [if_neg (fun h => c1 h.2.2)] at h
  injection h with h1 h2
  subst h1;subst h2
  have hi1:=Aside0.mk (within_yes c0)
  have hi2:=Aside0.mk (within_no c1)
  clear c0 c1
  go_enter Try.func27,Try.ntmps27
  go_wp2_with (go_at_call 56;go_must (first |(with_reducible refine(turns_within.calls a0 0 40 true _ hi1.out).mono ?_;rintro e w' ⟨rfl,⟨nd,rfl⟩⟩) |(with_reducible refine(turns_within.calls a1 0 a0 false _ hi2.out).mono ?_;rintro e w' ⟨rfl,⟨nd,rfl⟩⟩)))
  go_ret2
  exact⟨rfl,by repeat(first |(with_reducible first | exact HB.out | apply bwN) | exact HB.out)⟩
 rw [if_pos ⟨c0.1,c0.2,c1⟩] at h
 obtain ⟨n,rfl⟩ : ∃ n : Nat,a0 = n:=⟨a0.toNat,by omega⟩
 obtain ⟨k,rfl⟩ : ∃ k : Nat,a1 = k:=⟨a1.toNat,by omega⟩
 injection h with h1 h2
 rw [show((n : Int)).toNat = n by omega,show((k : Int)).toNat = k by omega] at h1
 subst h1;subst h2
 have hi1:=Aside0.mk (within_yes c0)
 have hi2:=Aside0.mk (within_yes c1)
 have d1:=eq_true (show(n : Int) < 41 by omega)
 have d2:=eq_true (show(k : Int) < 41 by omega)
 have HN:=Aside0.mk (show n≤40∧k≤n by omega)
 clear c0 c1
 go_enter Try.func27,Try.ntmps27
 go_wp2_with (first |(go_at_call 56;go_must (first |(with_reducible refine(turns_within.calls (n : Int) 0 40 true _ hi1.out).mono ?_;rintro e w' ⟨rfl,⟨nd,rfl⟩⟩) |(with_reducible refine(turns_within.calls (k : Int) 0 (n : Int) true _ hi2.out).mono ?_;rintro e w' ⟨rfl,⟨nd,rfl⟩⟩))) |(go_at_call 58;go_must (refine(choices_new _).mono ?_;rintro e w1 ⟨g,rfl,ht,hb,hg⟩;have l1:=ht.1 (n * 41 + k) (by have:=HN.out;omega);rw [chV_at (by have:=HN.out;omega) (by have:=HN.out;omega)] at l1;have HB1:=Aside0.mk (below_then (bwN HB.out _) (Nat.le_refl _) hb);clear ht hb)))
 go_ret2
 exact⟨rfl,HB1.out⟩

open Go.Proofs.Ytbfhlaggllofdaa.G Go.Proofs.Ytbfhlaggllofdaa.T Go.Proofs.Ytbfhlaggllofdaa.P
def turns_Grouping.f (a0 a1 : Int) : Option (List Int×Int):=some (if 0≤a0∧a0≤20∧0≤a1∧a1≤bw a0.toNat 0 - 1 then(grp a0.toNat 0 a1,0) else([],2))
theorem gr_step {m u : Nat} {a : Int} (hm : m + 1 + u ≤ 20) (h0 : 0 ≤ a) (h1 : a < bw (m + 1) u) :
  ∃ g : Nat,gOf m u a = g ∧((bw m u == 0) = false ∧(bw m u = 0) = False∧Int.tdiv a (bw m u) = a / bw m u∧wrap64 (a / bw m u) = a / bw m u) ∧
  (min (u : Int) (a / bw m u) =(g : Int) ∧(if a / bw m u < (u : Int) then a / bw m u else(u : Int)) =(g : Int) ∧(if(u : Int) < a / bw m u then(u : Int) else a / bw m u) =(g : Int)) ∧
  (wrap64 ((g : Int) * bw m u) =(g : Int) * bw m u∧wrap64 (a - (g : Int) * bw m u) = a - (g : Int) * bw m u∧wrap64 ((g : Int) + 1) =(g : Int) + 1) ∧
  (max (u : Int) ((g : Int) + 1) =((max u (g + 1) : Nat) : Int) ∧(if(u : Int) < (g : Int) + 1 then(g : Int) + 1 else(u : Int)) =((max u (g + 1) : Nat) : Int)) ∧
  (m + max u (g + 1)≤20∧0≤a - (g : Int) * bw m u∧a - (g : Int) * bw m u < bw m (max u (g + 1))):=by
 refine⟨gOf m u a,rfl,?_⟩
 have hb:=bw_le64 (m:=m) (j:=u) (by omega)
 have hb1:=bw_le64 (m:=m + 1) (j:=u) (by omega)
 obtain ⟨d0,d1,d2⟩:=div_bw m u a h0
 have hr:=gOf_rest m u a h0 h1
 have hg :(gOf m u a : Int) = min (u : Int) (a / bw m u):=by unfold gOf;omega
 have hgu : gOf m u a≤u:=by omega
 have hgm : 0 ≤(gOf m u a : Int) * bw m u:=Int.mul_nonneg (by omega) (by omega)
 have ht : Int.tdiv a (bw m u) = a / bw m u:=Int.tdiv_eq_ediv_of_nonneg h0
 obtain ⟨g,hgg⟩ : ∃ g,gOf m u a = g:=⟨_,rfl⟩
 rw [hgg] at hr hg hgu hgm ⊢
 obtain ⟨q,hq⟩ : ∃ q,a / bw m u = q:=⟨_,rfl⟩
 rw [hq] at d0 d1 d2 hg ht ⊢
 have hq1 : q≤a:=by
  have : q * 1≤q * bw m u:=Int.mul_le_mul_of_nonneg_left (by omega) d0
  omega
 obtain ⟨B,hB⟩ : ∃ B,bw m u = B:=⟨_,rfl⟩
 obtain ⟨C,hC⟩ : ∃ B,bw (m + 1) u = B:=⟨_,rfl⟩
 obtain ⟨E,hE⟩ : ∃ B,(g : Int) * bw m u = B:=⟨_,rfl⟩
 rw [hC] at h1 hb1
 rw [hE] at hr hgm ⊢
 rw [hB] at hb ht ⊢
 clear hB hC hE hq hgg d1 d2
 refine⟨⟨by simp;omega,by simp;omega,ht,w64 (by omega) (by omega)⟩,⟨hg.symm,by split <;> omega,by split <;> omega⟩,⟨w64 (by omega) (by omega),w64 (by omega) (by omega),w64 (by omega) (by omega)⟩,⟨by omega,by split <;> omega⟩,by omega,hr.1,hr.2⟩
set_option maxHeartbeats 400000 in
set_option maxRecDepth 100000 in
theorem turns_Grouping.calls (a0 a1 : Int) (r1 : List Int) (r2 : Int) (w : World) (h : turns_Grouping.f a0 a1 = some (r1, r2)) :
  Calls Try.prog 39 #[.int .i64 a0,.int .i64 a1] w fun e w'=>∃ v0_ : Value,e = .returned (.tuple #[v0_,.int .i64 r2])∧Kd.R (Kd.int .i64) 3 w' w.heap.size (fun _=>True) v0_ r1∧Below w.heap.size w w':=by
 replace h:=Option.some.inj h
 have HB:=Aside0.mk (Below.refl w.heap.size w)
 by_cases c0 : 0≤a0∧a0≤20
 rotate_left
 ·rw [if_neg (fun hh => c0 ⟨hh.1, hh.2.1⟩)] at h
  injection h with h1 h2
  subst h1;subst h2
  have hi1:=Aside0.mk (within_no c0)
  clear c0
  go_enter Try.func39,Try.ntmps39
  go_wp2_with (first |(go_at_call 56;go_must (with_reducible refine(turns_within.calls a0 0 20 false _ hi1.out).mono ?_;rintro e w' ⟨rfl,⟨nd,rfl⟩⟩)) |(go_at_call 59;go_must (refine(rests_new _).mono ?_;rintro e w1 ⟨g,rfl,ht,hb,hg⟩;have HB1:=Aside0.mk (bwT (by repeat(first |(with_reducible first | exact HB.out | apply bwN) | exact HB.out)) hb);clear ht hb hg)))
  go_ret2
  exact⟨_,rfl,Kd.R_nil _ _ _ _ _,by repeat(first |(with_reducible first | exact HB1.out | apply bwN) | exact HB1.out)⟩
 have hi1:=Aside0.mk (within_yes c0)
 obtain ⟨n,rfl⟩ : ∃ n : Nat,a0 = n:=⟨a0.toNat,by omega⟩
 have d1:=eq_true (show(n : Int) < 21 by omega)
 have d0:=eq_true (show 0 ≤(n : Int) by omega)
 have HN:=Aside0.mk (show n≤20 by omega)
 have hb0:=bw_le64 (m:=n) (j:=0) (by omega)
 rw [show((n : Int)).toNat = n by omega] at h
 have wb : wrap64 (bw n 0 - 1) = bw n 0 - 1:=w64 (by omega) (by omega)
 by_cases c1 : 0≤a1∧a1≤bw n 0 - 1
 rotate_left
 ·rw [if_neg (fun hh => c1 hh.2.2)] at h
  injection h with h1 h2
  subst h1;subst h2
  have hi2:=Aside0.mk (within_no c1)
  obtain ⟨vn,hvn⟩ : ∃ v,bw n 0 = v:=⟨_,rfl⟩
  have HV:=Aside0.mk hvn
  rw [hvn] at wb hi2
  clear c0 c1 hb0 hvn
  go_enter Try.func39,Try.ntmps39
  go_wp2_with (first |(go_at_call 56;go_must (first |(with_reducible refine(turns_within.calls (n : Int) 0 20 true _ hi1.out).mono ?_;rintro e w' ⟨rfl,⟨nd,rfl⟩⟩) |(with_reducible refine(turns_within.calls a1 0 (vn - 1) false _ hi2.out).mono ?_;rintro e w' ⟨rfl,⟨nd,rfl⟩⟩))) |(go_at_call 59;go_must (refine(rests_new _).mono ?_;rintro e w1 ⟨g,rfl,ht,hb,hg⟩;have l1:=ht.1 (n * 22 + 0) (by have:=HN.out;omega);rw [rsV_at (by have:=HN.out;omega) (by have:=HN.out;omega),HV.out] at l1;simp only [Nat.add_zero] at l1;have HB1:=Aside0.mk (bwT (by repeat(first |(with_reducible first | exact HB.out | apply bwN) | exact HB.out)) hb);clear ht hb hg)))
  go_ret2
  exact⟨_,rfl,Kd.R_nil _ _ _ _ _,by repeat(first |(with_reducible first | exact HB1.out | apply bwN) | exact HB1.out)⟩
 rw [if_pos ⟨c0.1,c0.2,c1⟩] at h
 injection h with h1 h2
 subst h2
 have hi2:=Aside0.mk (within_yes c1)
 have HA:=Aside0.mk (show 0≤a1∧a1 < bw n 0 by omega)
 have HR:=Aside0.mk h1
 have wn : wrap64 ((n : Int) - 1) =(n : Int) - 1:=w64 (by omega) (by omega)
 obtain ⟨vn,hvn⟩ : ∃ v,bw n 0 = v:=⟨_,rfl⟩
 have HV:=Aside0.mk hvn
 rw [hvn] at wb hi2
 clear c0 c1 hb0 hvn h1
 go_enter Try.func39,Try.ntmps39
 go_wp2_with (first |(go_at_call 56;go_must (first |(with_reducible refine(turns_within.calls (n : Int) 0 20 true _ hi1.out).mono ?_;rintro e w' ⟨rfl,⟨nd,rfl⟩⟩) |(with_reducible refine(turns_within.calls a1 0 (vn - 1) true _ hi2.out).mono ?_;rintro e w' ⟨rfl,⟨nd,rfl⟩⟩))) |(go_at_call 59;go_must (refine(rests_new _).mono ?_;rintro e w1 ⟨g,rfl,ht,hb,hg⟩;have l1:=ht.1 (n * 22 + 0) (by have:=HN.out;omega);rw [rsV_at (by have:=HN.out;omega) (by have:=HN.out;omega),HV.out] at l1;simp only [Nat.add_zero] at l1;have HT:=Aside0.mk ht;have HB1:=Aside0.mk (bwT (by repeat(first |(with_reducible first | exact HB.out | apply bwN) | exact HB.out)) hb);have HG:=Aside0.mk hg;clear ht hb hg)))
 have HR0:=Aside0.mk (show [] ++ grp n 0 a1 = r1 from HR.out)
 clear HR
 rw [wn]
 clear wn wb
 go_loopw [1,7,8,9] (fun v1 v7 v8 v9 wr=>∃ (m u : Nat) (a : Int) (out : List Int),v1 = .int .i64 a∧v8 = .int .i64 u∧v9 = .int .i64 ((m : Int) - 1)∧Aside0 (m + u≤20∧0≤a∧a < bw m u∧out.length + m = n)∧Aside0 (out ++ grp m u a = r1)∧Aside0 (Kd.R (Kd.int .i64) 3 wr w1.heap.size (fun _=>True) v7 out)∧Aside0 (Below w1.heap.size w1 wr)) (fun v1 v7 v8 v9 _=>(intOf v9 + 1).toNat)
 case atStart=>exact⟨n,0,a1,[],rfl,rfl,(by simp),⟨by have:=HN.out;have:=HA.out;rw [HV.out] at *;simp;omega⟩,HR0,⟨Kd.R_nil _ _ _ _ _⟩,⟨bwN (Below.refl _ _) _⟩⟩
 clear HR0
 obtain ⟨m,u,a,out,rfl,rfl,rfl,HM,HR,HO,HB⟩:=hrel
 obtain ⟨m0,m1,m2,m3⟩:=HM.out
 have n20:=HN.out
 cases m with
 | zero =>
  have q1 : decide (0 ≤(((0 : Nat) : Int) - 1)) = false:=by decide
  have hr : out = r1:=by rw [← HR.out];simp [grp]
  subst hr
  clear m0 m1 m2 m3 n20
  go_wp2
  go_ret2
  exact⟨_,rfl,Kd.R_lower HO.out (bwZ HB1.out),bwT HB1.out HB.out⟩
 | succ m =>
  have q1 : decide (0 ≤((m + 1 : Nat) : Int) - 1) = true:=decide_eq_true (by omega)
  have q2 : decide (0 ≤(m : Int)) = true:=decide_eq_true (by omega)
  have em :((m + 1 : Nat) : Int) - 1 =(m : Int):=by omega
  have hm21 : m < 21:=by omega
  have m0':=eq_true (show 0 ≤(m : Int) by omega)
  have m1':=eq_true (show(m : Int) < 21 by omega)
  have u0:=eq_true (show 0 ≤(u : Int) by omega)
  have u1:=eq_true (show(u : Int) < 22 by omega)
  have hmu : m + 1 + u≤20:=by omega
  have HM1:=Aside0.mk (show m * 22 + u < 462∧u + m < 22∧out.length≤20 by omega)
  have WM:=Aside0.mk (show wrap64 ((m : Int) - 1) =(m : Int) - 1 from w64 (by omega) (by omega))
  have l1':=(Tbl.below HT.out (by decide) HB.out).1 (m * 22 + u) HM1.out.1
  rw [rsV_at HM1.out.2.1 hm21] at l1'
  have HMS:=Aside0.mk (show(intOf (.int .i64 ((m : Int) - 1)) + 1).toNat < (intOf (.int .i64 ((m : Int))) + 1).toNat by show((m : Int) - 1 + 1).toNat < ((m : Int) + 1).toNat;omega)
  rw [em]
  obtain ⟨g1,hg,⟨b0,b0',ht,wq⟩,⟨k1,k2,k3⟩,⟨wm,ws,wg⟩,⟨x1,x2⟩,y1,y2,y3⟩:=gr_step hmu m1 m2
  have HR2:=Aside0.mk (show(out ++ [(g1 : Int)]) ++ grp m (max u (g1 + 1)) (a - (g1 : Int) * bw m u) = r1 by
   rw [← HR.out,← hg]
   simp [grp])
  have HM2:=Aside0.mk (show m + max u (g1 + 1)≤20∧0≤a - (g1 : Int) * bw m u∧a - (g1 : Int) * bw m u < bw m (max u (g1 + 1)) ∧(out ++ [(g1 : Int)]).length + m = n from⟨y1,y2,y3,by rw [List.length_append,List.length_singleton];rw [← m3];exact Nat.add_assoc _ _ _ |>.trans (by rw [Nat.add_comm 1 m])⟩)
  obtain ⟨vb,hvb⟩ : ∃ v,bw m u = v:=⟨_,rfl⟩
  obtain ⟨q,hq⟩ : ∃ v,a / bw m u = v:=⟨_,rfl⟩
  rw [hq] at ht wq k1 k2 k3
  rw [hvb] at l1' b0 b0' ht wm ws HR2 HM2
  obtain ⟨u2,hu2⟩ : ∃ v,max u (g1 + 1) = v:=⟨_,rfl⟩
  rw [hu2] at x1 x2 HR2 HM2
  have wmm:=WM.out
  clear hg hq hvb hu2 y1 y2 y3 m0 m1 m2 m3 n20 hm21 hmu HM HR em
  go_wp2_with (first |((with_reducible refine gate_builtin (b:=.append) (xs:=#[.tmp 55,.tmp 57]) rfl ?_);at_builtin;refine Kd.R_append (Kd.int .i64) (w0:=w1) w1.heap.size rfl (.tmp 55) (.tmp 57) 22 3 (.int .i64 0) 8 rfl Try.underlying22 info3 rfl (by decide) (by omega) u7 out (g1 : Int) [.int .i64 (g1 : Int)] (fun _=>True) (fun _=>False) rfl rfl ?aP (fun _ hk=>hk.elim) ?aF ?aO ?aB ?aS ?aL ?_;(case aP=>exact rfl);(case aB=>exact(by repeat(first |(with_reducible first | exact HB.out | apply bwA | apply bwN | apply bw1) | exact HB.out)));(case aF=>exact(fun _ _=>trivial));(case aO=>exact(by(with_reducible repeat(first | apply Kd.R_alloc | apply Kd.R_drewN | apply Kd.R_drew));exact HO.out));(case aS=>exact(bwZ (by repeat(first |(with_reducible first | exact HB.out | apply bwA | apply bwN | apply bw1) | exact HB.out))));(case aL=>have:=HM1.out.2.2;omega);intro v262 w13 ho hb hg hat;have HO1:=Aside0.mk ho;have HBx:=Aside0.mk hb;clear ho hb hg hat))
  go_roundw
  case rel=>exact⟨m,u2,a - (g1 : Int) * vb,out ++ [(g1 : Int)],(by simp [ws,wm,k1,k2,k3,wq]),(by simp [x1,x2,wg,k1,k2,k3,wq]),(by simp [wmm]),HM2,HR2,HO1,HBx⟩
  (first | exact HMS.out |(rw [wmm];exact HMS.out) |(simp only [wmm];exact HMS.out))

open Go.Proofs.Ytbfhlaggllofdaa.G Go.Proofs.Ytbfhlaggllofdaa.T Go.Proofs.Ytbfhlaggllofdaa.P
def isGrpB : List Int → Nat → Bool
 | [],_=>true
 | g :: l,u=>decide (0≤g∧g ≤(u : Int)) && isGrpB l (max u (g.toNat + 1))
theorem isGrpB_iff : ∀ (l : List Int) (u : Nat), isGrpB l u = true ↔ isGrp l u
 | [],_=>by simp [isGrpB,isGrp]
 | g :: l,u=>by simp [isGrpB,isGrp,isGrpB_iff l,and_assoc]
def turns_GroupingAt.f (l0 : List Int) : Option (Int×Int):=some (if(l0.length≤20∧isGrpB l0 0 = true) then(grpAt l0 0,0) else(0,2))
theorem grp_step {m u : Nat} {g : Int} (h0 : 0≤g) (h1 : g≤u) : 0≤g * bw m u∧g * bw m u + bw m (max u (g.toNat + 1))≤bw (m + 1) u:=by
 have hb:=bw_pos m u
 have hb2:=bw_pos m (u + 1)
 refine⟨Int.mul_nonneg h0 (by omega),?_⟩
 show _ ≤(u : Int) * bw m u + bw m (u + 1)
 by_cases c : g = u
 ·subst c
  rw [show max u ((u : Int).toNat + 1) = u + 1 by omega]
  exact Int.le_refl _
 rw [show max u (g.toNat + 1) = u by omega]
 have hm :(g + 1) * bw m u ≤(u : Int) * bw m u:=Int.mul_le_mul_of_nonneg_right (by omega) (by omega)
 rw [Int.add_mul,Int.one_mul] at hm
 omega
theorem ga_step {n i u m : Nat} {t x : Int} (hm : n = i + 1 + m) (hn : n ≤ 20) (hu : u ≤ i) (h0 : 0 ≤ t) (h1 : t + bw (n - i) u ≤ bw n 0) (c0 : 0 ≤ x) (c1 : x ≤ (u : Int)) :
  (wrap64 ((n : Int) - 1) =(n : Int) - 1∧wrap64 ((n : Int) - 1 - (i : Int)) =(m : Int)∧wrap64 (x + 1) = x + 1) ∧(wrap64 (x * bw m u) = x * bw m u∧wrap64 (t + x * bw m u) = t + x * bw m u) ∧
  (i + 1≤n∧max u (x.toNat + 1)≤i + 1∧0≤t + x * bw m u∧t + x * bw m u + bw (n - (i + 1)) (max u (x.toNat + 1))≤bw n 0) ∧((if(u : Int) < x + 1 then x + 1 else(u : Int)) =((max u (x.toNat + 1) : Nat) : Int)∧max (u : Int) (x + 1) =((max u (x.toNat + 1) : Nat) : Int))∧m * 22 + u < 462∧u + m < 22:=by
 have g:=grp_step (m:=m) c0 c1
 have hb:=(bw_le64 (m:=n) (j:=0) (by omega)).2
 have hb2:=bw_pos m (max u (x.toNat + 1))
 rw [show n - i = m + 1 by omega] at h1
 rw [show n - (i + 1) = m by omega]
 obtain ⟨u2,hu2⟩ : ∃ v,max u (x.toNat + 1) = v:=⟨_,rfl⟩
 have e1 :(if(u : Int) < x + 1 then x + 1 else(u : Int)) =(u2 : Int):=by split <;> omega
 have e2 : max (u : Int) (x + 1) =(u2 : Int):=by omega
 have e3 : u2≤i + 1:=by omega
 rw [hu2] at g hb2 ⊢
 obtain ⟨g0,g1⟩:=g
 obtain ⟨B,hB⟩ : ∃ v,bw n 0 = v:=⟨_,rfl⟩
 obtain ⟨C,hC⟩ : ∃ v,bw (m + 1) u = v:=⟨_,rfl⟩
 obtain ⟨D,hD⟩ : ∃ v,bw m u2 = v:=⟨_,rfl⟩
 obtain ⟨E,hE⟩ : ∃ v,x * bw m u = v:=⟨_,rfl⟩
 rw [hB] at hb h1 ⊢
 rw [hC] at g1 h1
 rw [hD] at g1 hb2 ⊢
 rw [hE] at g0 g1 ⊢
 clear hB hC hD hE
 refine⟨⟨w64 (by omega) (by omega),?_,w64 (by omega) (by omega)⟩,⟨w64 (by omega) (by omega),w64 (by omega) (by omega)⟩,⟨by omega,e3,by omega,by omega⟩,⟨e1,e2⟩,by omega,by omega⟩
 rw [w64 (by omega) (by omega)]
 omega
set_option maxHeartbeats 400000 in
set_option maxRecDepth 100000 in
theorem turns_GroupingAt.calls (A0 : Option Addr) (c0 : Nat) (l0 : List Int) (r1 r2 : Int) (w : World) (hr0 : Kd.C (Kd.int .i64) w A0 l0.length l0) (hc0 : l0.length ≤ c0) (h : turns_GroupingAt.f l0 = some (r1, r2)) :
  Calls Try.prog 40 #[.slice A0 l0.length c0] w fun e w'=>e = .returned (.tuple #[.int .i64 r1,.int .i64 r2])∧Below w.heap.size w w':=by
 replace h:=Option.some.inj h
 have HB:=Aside0.mk (Below.refl w.heap.size w)
 have HR:=Aside0.mk hr0
 have HC:=Aside0.mk hc0
 clear hr0 hc0
 by_cases hl : l0.length≤20
 rotate_left
 ·have q0 : decide (20 < (l0.length : Int)) = true := decide_eq_true (by omega)
  have q0' : decide (20 < l0.length) = true:=decide_eq_true (by omega)
  rw [if_neg (fun hh=>hl hh.1)] at h
  injection h with h1 h2
  subst h1;subst h2
  clear hl
  go_enter Try.func40,Try.ntmps40
  go_wp2
  go_ret2
  exact⟨rfl,HB.out⟩
 have q0 : decide (20 < (l0.length : Int)) = false:=decide_eq_false (by omega)
 have q0' : decide (20 < l0.length) = false:=decide_eq_false (by omega)
 have HG:=Aside0.mk (show(if isGrpB (l0.drop 0) 0 = true then(0 + grpAt (l0.drop 0) 0,(0 : Int)) else(0,2)) =(r1,r2) by
  rw [List.drop_zero,Int.zero_add,← h]
  by_cases c : isGrpB l0 0 = true
  ·rw [if_pos c,if_pos ⟨hl,c⟩]
  ·rw [if_neg c,if_neg (fun hh=>c hh.2)])
 have HL:=Aside0.mk hl
 clear h hl
 go_enter Try.func40,Try.ntmps40
 go_wp2_with (go_at_call 59;go_must (refine(rests_new _).mono ?_;rintro e w1 ⟨g,rfl,ht,hb,hg⟩;have HT:=Aside0.mk ht;have HB1:=Aside0.mk (bwT (by repeat(first |(with_reducible first | exact HB.out | apply bwN) | exact HB.out)) hb);clear ht hb))
 go_loopw [5,6,15] (fun v5 v6 v15 wr=>∃ (i u : Nat) (t : Int),v5 = .int .i64 t∧v6 = .int .i64 u∧v15 = .int .i64 i∧Aside0 (i≤l0.length∧u≤i∧0≤t∧t + bw (l0.length - i) u≤bw l0.length 0)∧Aside0 ((if isGrpB (l0.drop i) u = true then(t + grpAt (l0.drop i) u,(0 : Int)) else(0,2)) =(r1,r2)) ∧(∃ nd,wr = w1.drewN nd)) (fun v5 v6 v15 _=>l0.length - (intOf v15).toNat)
 case atStart=>exact⟨0,0,0,rfl,rfl,rfl,⟨by omega,by omega,by omega,by rw [Nat.sub_zero];omega⟩,HG,⟨0,rfl⟩⟩
 clear HG
 obtain ⟨i,u,t,rfl,rfl,rfl,HI,HG,⟨nd,rfl⟩⟩:=hrel
 have hl:=HL.out
 obtain ⟨i0,i1,i2,i3⟩:=HI.out
 by_cases c2 : i < l0.length
 rotate_left
 ·obtain rfl : i = l0.length := by omega
  have q1 : decide ((l0.length : Int) < (l0.length : Int)) = false:=decide_eq_false (by omega)
  have hr :(r1,r2) =(t,(0 : Int)):=by
   rw [← HG.out,List.drop_length]
   simp [isGrpB,grpAt]
  injection hr with h1 h2
  subst h1;subst h2
  clear c2 HG HI i0 i1 i2 i3
  go_wp2
  go_ret2
  exact⟨rfl,by repeat(first |(with_reducible first | exact HB1.out | apply bwN) | exact HB1.out)⟩
 obtain ⟨m,hm⟩ : ∃ m,l0.length = i + 1 + m:=⟨l0.length - i - 1,by omega⟩
 have q1 : decide ((i : Int) < (l0.length : Int)) = true:=decide_eq_true (by omega)
 have q2 : decide (i < l0.length) = true:=decide_eq_true c2
 obtain ⟨ad,ea,hx⟩:=Kd.at_int (Kd.C_drewN (Kd.C_below HR.out HB1.out) nd) (i : Int) (by omega) (by omega)
 cases ea
 rw [rd_get l0 c2] at hx
 simp only [Int.toNat_natCast] at hx
 have ed : l0.drop i = l0[i] :: l0.drop (i + 1):=List.drop_eq_getElem_cons c2
 have hg0:=HG.out
 rw [ed] at hg0
 obtain ⟨x,hxx⟩ : ∃ x,l0[i] = x:=⟨_,rfl⟩
 rw [hxx] at hx hg0
 have p0:=eq_true (show 0 ≤(i : Int) by omega)
 have p1:=eq_true (show(i : Int) < (l0.length : Int) by omega)
 have WI:=Aside0.mk (show wrap64 ((i : Int) + 1) =(i : Int) + 1 from w64 (by omega) (by omega))
 by_cases c3 : 0≤x∧x ≤(u : Int)
 rotate_left
 ·have hin := Aside0.mk (within_no c3)
  have hr :(r1,r2) =((0 : Int),(2 : Int)):=by
   rw [← hg0]
   have e1 : isGrpB (x :: l0.drop (i + 1)) u = false:=by
    show(decide _ && _) = _
    rw [decide_eq_false c3,Bool.false_and]
   rw [e1]
   rfl
  injection hr with h1 h2
  subst h1;subst h2
  clear hg0 ed hxx c3 c2 HG HI i0 i1 i2 i3 hm
  go_wp2_with (go_at_call 56;go_must (with_reducible refine(turns_within.calls x 0 (u : Int) false _ hin.out).mono ?_;rintro e w' ⟨rfl,⟨nd2,rfl⟩⟩))
  go_ret2
  exact⟨rfl,by repeat(first |(with_reducible first | exact HB1.out | apply bwN) | exact HB1.out)⟩
 have hin:=Aside0.mk (within_yes c3)
 have hl1 :(l0.drop (i + 1)).length = m:=by rw [List.length_drop];omega
 have hm21 : m < 21:=by omega
 have m0:=eq_true (show 0 ≤(m : Int) by omega)
 have m1:=eq_true (show(m : Int) < 21 by omega)
 have u0:=eq_true (show 0 ≤(u : Int) by omega)
 have u1:=eq_true (show(u : Int) < 22 by omega)
 obtain ⟨⟨w1',w2',w3'⟩,⟨wm,ws⟩,hI2,⟨hmx2,hmx⟩,b1,b2⟩:=ga_step hm hl i1 i2 i3 c3.1 c3.2
 have l1':=HT.out.1 (m * 22 + u) b1
 rw [rsV_at b2 hm21] at l1'
 have HI2:=Aside0.mk hI2
 have e1 : isGrpB (x :: l0.drop (i + 1)) u = isGrpB (l0.drop (i + 1)) (max u (x.toNat + 1)):=by
  show(decide _ && _) = _
  rw [decide_eq_true c3,Bool.true_and]
 have e2 : grpAt (x :: l0.drop (i + 1)) u = x * bw m u + grpAt (l0.drop (i + 1)) (max u (x.toNat + 1)):=by
  show x * bw (l0.drop (i + 1)).length u + _ = _
  rw [hl1]
 rw [e1,e2,← Int.add_assoc] at hg0
 have HG2:=Aside0.mk hg0
 clear e1 e2
 obtain ⟨vb,hvb⟩ : ∃ v,bw m u = v:=⟨_,rfl⟩
 rw [hvb] at l1' HI2 HG2 wm ws
 obtain ⟨u2,hu2⟩ : ∃ v,max u (x.toNat + 1) = v:=⟨_,rfl⟩
 rw [hu2] at hmx hmx2 HI2 HG2
 have wi:=WI.out
 clear hg0 ed hxx hl1 hI2 b1 b2 hm21 hvb hu2 c3 c2 HG HI i0 i1 i2 i3 hm
 go_wp2_with (go_at_call 56;go_must (with_reducible refine(turns_within.calls x 0 (u : Int) true _ hin.out).mono ?_;rintro e w' ⟨rfl,⟨nd2,rfl⟩⟩))
 go_roundw
 case rel=>exact⟨i + 1,u2,t + x * vb,(by simp [ws,wm]),(by simp [hmx,hmx2,w3']),(by simp [wi]),HI2,HG2,⟨_,by first | rfl | simp only [World.drewN_drewN]⟩⟩
 (first | exact meas1 wi (of_decide_eq_true q2) | exact meas1 rfl (of_decide_eq_true q2))

def q10_Groupings.l0 : Nat → List Int → Int → Int → Option (Bool)
 | 0,_,_,_=>none
 | k + 1,x0,x3,x4=>if x4 < (x0.length : Int) then(if 0≤x4 then(if(rd x0 x4) < 0 then(some false) else(if(rd x0 x4) > x3 then(some false) else(q10_Groupings.l0 k x0 (mx x3 (wrap64 ((rd x0 x4) + 1))) (wrap64 (x4 + 1))))) else(none)) else(some (decide ((x0.length : Int)≤20)))
def q10_Groupings.f (k : Nat) (l0 : List Int) : Option (Bool):=q10_Groupings.l0 k l0 0 0
set_option maxHeartbeats 8000000 in
set_option maxRecDepth 100000 in
theorem q10_Groupings.calls (k : Nat) (A0 : Option Addr) (c0 : Nat) (l0 : List Int) (r : Bool) (w : World) (hr0 : Kd.C (Kd.int .i64) w A0 l0.length l0) (hc0 : l0.length ≤ c0) (h : q10_Groupings.f k l0 = some r) :
  Calls Try.prog 43 #[.slice A0 l0.length c0] w fun e w'=>e = .returned (.bool r)∧Below w.heap.size w w':=by
 have HR0:=Aside0.mk hr0
 have HC0:=Aside0.mk hc0
 clear hr0 hc0
 have HB:=Aside0.mk (Below.refl w.heap.size w)
 have H :(q10_Groupings.l0 k l0 0 0) = some r:=h
 clear h
 have H':=Aside0.mk H
 clear H
 go_enter Try.func43,Try.ntmps43
 go_wp2
 go_loopg [3,4] k (fun kq v3 v4 w'=>∃ (x3_1 : Int) (x4_1 : Int),v3 = .int .i64 x3_1∧v4 = .int .i64 x4_1∧Aside0 (q10_Groupings.l0 kq l0 x3_1 x4_1 = some r)∧Aside0 (kq≤k)∧Aside0 (Below w.heap.size w w'))
 case atStart=>exact⟨(0),(0),(by first | rfl |(simp;done) |(simp [*];done)),(by first | rfl |(simp;done) |(simp [*];done)),H',⟨Nat.le_refl _⟩,⟨by repeat(first |(with_reducible first | exact HB.out | apply bwA | apply bwN | apply bw1) | exact HB.out)⟩⟩
 clear H'
 obtain ⟨x3_1,x4_1,rfl,rfl,HA,HK1,HB⟩:=hrel
 cases gk with
 | zero=>exact absurd HA.out (by simp [q10_Groupings.l0])
 | succ k1 =>
  have H:=HA.out
  clear HA
  simp only [q10_Groupings.l0] at H
  by_cases c2 : x4_1 < (l0.length : Int)
  rotate_left
  ·rw [if_neg c2] at H
   have c2b0 : decide (x4_1 < (l0.length : Int)) = false:=decide_eq_false c2
   clear c2
   obtain rfl:=Option.some.inj H
   go_wp2
   go_ret
   exact⟨by first | rfl |(simp [errW_none,errW_some] <;> rfl) |(simp [*,errW_none,errW_some] <;> rfl),by repeat(first |(with_reducible first | exact HB.out | apply bwA | apply bwN | apply bw1) | exact HB.out)⟩
  rw [if_pos c2] at H
  have c2b0 : decide (x4_1 < (l0.length : Int)) = true:=decide_eq_true c2
  clear c2
  by_cases c3 : 0≤x4_1
  rotate_left
  ·rw [if_neg c3] at H
   exact absurd H (by simp)
  rw [if_pos c3] at H
  have c3b0 : decide (0≤x4_1) = true:=decide_eq_true c3
  clear c3
  by_cases c4 :(rd l0 x4_1) < 0
  ·rw [if_pos c4] at H
   have c4b0 : decide ((rd l0 x4_1) < 0) = true:=decide_eq_true c4
   clear c4
   obtain rfl:=Option.some.inj H
   have p404 : 0 ≤(x4_1 : Int):=of_decide_eq_true (by first |(with_reducible assumption) | assumption)
   have q404 : x4_1 < (l0.length : Int):=of_decide_eq_true (by first |(with_reducible assumption) | assumption)
   obtain ⟨ad404,e404,hx404_0⟩:=Kd.at_int HR0.out x4_1 p404 q404
   cases e404
   replace hx404_0:=(HB.out.cell (World.block_lt_of_cell? w _ hx404_0)).trans hx404_0
   replace p404:=eq_true p404
   replace q404:=eq_true q404
   go_wp2
   go_ret
   exact⟨by first | rfl |(simp [errW_none,errW_some] <;> rfl) |(simp [*,errW_none,errW_some] <;> rfl),by repeat(first |(with_reducible first | exact HB.out | apply bwA | apply bwN | apply bw1) | exact HB.out)⟩
  rw [if_neg c4] at H
  have c4b0 : decide ((rd l0 x4_1) < 0) = false:=decide_eq_false c4
  clear c4
  by_cases c5 :(rd l0 x4_1) > x3_1
  ·rw [if_pos c5] at H
   have c5b0 : decide (x3_1 < (rd l0 x4_1)) = true:=decide_eq_true c5
   clear c5
   obtain rfl:=Option.some.inj H
   have p404 : 0 ≤(x4_1 : Int):=of_decide_eq_true (by first |(with_reducible assumption) | assumption)
   have q404 : x4_1 < (l0.length : Int):=of_decide_eq_true (by first |(with_reducible assumption) | assumption)
   obtain ⟨ad404,e404,hx404_0⟩:=Kd.at_int HR0.out x4_1 p404 q404
   cases e404
   replace hx404_0:=(HB.out.cell (World.block_lt_of_cell? w _ hx404_0)).trans hx404_0
   replace p404:=eq_true p404
   replace q404:=eq_true q404
   have p405 : 0 ≤(x4_1 : Int):=of_decide_eq_true (by first |(with_reducible assumption) | assumption)
   have q405 : x4_1 < (l0.length : Int):=of_decide_eq_true (by first |(with_reducible assumption) | assumption)
   obtain ⟨ad405,e405,hx405_0⟩:=Kd.at_int HR0.out x4_1 p405 q405
   obtain rfl : ad404 = ad405:=(by injection e405)
   replace hx405_0:=(HB.out.cell (World.block_lt_of_cell? w _ hx405_0)).trans hx405_0
   replace p405:=eq_true p405
   replace q405:=eq_true q405
   go_wp2
   go_ret
   exact⟨by first | rfl |(simp [errW_none,errW_some] <;> rfl) |(simp [*,errW_none,errW_some] <;> rfl),by repeat(first |(with_reducible first | exact HB.out | apply bwA | apply bwN | apply bw1) | exact HB.out)⟩
  rw [if_neg c5] at H
  have c5b0 : decide (x3_1 < (rd l0 x4_1)) = false:=decide_eq_false c5
  clear c5
  obtain ⟨ji6,hji6⟩ : ∃ j_ : Int,(mx x3_1 (wrap64 ((rd l0 x4_1) + 1))) = j_:=⟨_,rfl⟩
  replace H :(q10_Groupings.l0 k1 l0 ji6 (wrap64 (x4_1 + 1))) = some r:=by first |(rw [hji6] at H;exact H) |(simp only [hji6] at H ⊢;exact H)
  have hji6_ :(if x3_1 < (wrap64 ((rd l0 x4_1) + 1)) then(wrap64 ((rd l0 x4_1) + 1)) else x3_1) = ji6:=hji6
  have H':=Aside0.mk H
  clear H
  have p404 : 0 ≤(x4_1 : Int):=of_decide_eq_true (by first |(with_reducible assumption) | assumption)
  have q404 : x4_1 < (l0.length : Int):=of_decide_eq_true (by first |(with_reducible assumption) | assumption)
  obtain ⟨ad404,e404,hx404_0⟩:=Kd.at_int HR0.out x4_1 p404 q404
  cases e404
  replace hx404_0:=(HB.out.cell (World.block_lt_of_cell? w _ hx404_0)).trans hx404_0
  replace p404:=eq_true p404
  replace q404:=eq_true q404
  have p405 : 0 ≤(x4_1 : Int):=of_decide_eq_true (by first |(with_reducible assumption) | assumption)
  have q405 : x4_1 < (l0.length : Int):=of_decide_eq_true (by first |(with_reducible assumption) | assumption)
  obtain ⟨ad405,e405,hx405_0⟩:=Kd.at_int HR0.out x4_1 p405 q405
  obtain rfl : ad404 = ad405:=(by injection e405)
  replace hx405_0:=(HB.out.cell (World.block_lt_of_cell? w _ hx405_0)).trans hx405_0
  replace p405:=eq_true p405
  replace q405:=eq_true q405
  have p406 : 0 ≤(x4_1 : Int):=of_decide_eq_true (by first |(with_reducible assumption) | assumption)
  have q406 : x4_1 < (l0.length : Int):=of_decide_eq_true (by first |(with_reducible assumption) | assumption)
  obtain ⟨ad406,e406,hx406_0⟩:=Kd.at_int HR0.out x4_1 p406 q406
  obtain rfl : ad404 = ad406:=(by injection e406)
  replace hx406_0:=(HB.out.cell (World.block_lt_of_cell? w _ hx406_0)).trans hx406_0
  replace p406:=eq_true p406
  replace q406:=eq_true q406
  go_wp2
  go_roundg k1
  case measure=>have:=HK1.out;omega
  exact⟨(ji6),(wrap64 (x4_1 + 1)),(by first | rfl |(simp;done) |(simp only [← hji6] <;>(first | rfl | simp)) |(simp [*];done)),(by first | rfl |(simp;done) |(simp [*];done)),H',⟨by have:=HK1.out;omega⟩,⟨by repeat(first |(with_reducible first | exact HB.out | apply bwA | apply bwN | apply bw1) | exact HB.out)⟩⟩

mutual
def w10_TurnsGroupSteps.j0 : Nat → Int → Int → Int → Bool → Option (Bool)
 | 0,_,_,_,_=>none
 | k + 1,x0,x1,x5,x33=>if x33 = true then(some false) else(w10_TurnsGroupSteps.l0 k x0 x1 x5 0 0)
def w10_TurnsGroupSteps.l0 : Nat → Int → Int → Int → Int → Int → Option (Bool)
 | 0,_,_,_,_,_=>none
 | k + 1,x0,x1,x5,x7,x8=>if x8 < x0 then((turns_Many.f (wrap64 (x0 - 1)) x8).bind fun bt486=>((turns_Groupings.f x8).bind fun bt488=>(if bt486.2 = 0 then(if bt488.2 = 0 then(w10_TurnsGroupSteps.l0 k x0 x1 x5 (wrap64 (x7 + (wrap64 (bt486.1 * bt488.1)))) (wrap64 (x8 + 1))) else(some false)) else(some false)))) else((w10_mod.f x1 x5).bind fun t490=>((turns_Grouping.f x0 t490).bind fun bt491=>((turns_GroupingAt.f bt491.1).bind fun bt495=>(if x7 = x5 then(if bt491.2 = 0 then(if bt495.2 = 0 then(if bt495.1 = t490 then(if(bt491.1.length : Int) = x0 then((q10_Groupings.f k bt491.1).bind fun t497=>(w10_TurnsGroupSteps.j2 k x0 t490 x5 bt491.1 (!t497))) else(w10_TurnsGroupSteps.j2 k x0 t490 x5 bt491.1 true)) else(w10_TurnsGroupSteps.j2 k x0 t490 x5 bt491.1 true)) else(w10_TurnsGroupSteps.j2 k x0 t490 x5 bt491.1 true)) else(w10_TurnsGroupSteps.j2 k x0 t490 x5 bt491.1 true)) else(w10_TurnsGroupSteps.j2 k x0 t490 x5 bt491.1 true)))))
def w10_TurnsGroupSteps.j2 : Nat → Int → Int → Int → List Int → Bool → Option (Bool)
 | 0,_,_,_,_,_=>none
 | k + 1,x0,x1,x5,x13,x102=>if x102 = true then(some false) else(if x1 =(wrap64 (x5 - 1)) then(if 0 ≤(wrap64 (x0 - 1)) then(if(wrap64 (x0 - 1)) < (x13.length : Int) then(if(rd x13 (wrap64 (x0 - 1))) =(wrap64 (x0 - 1)) then((w10_awake.f k).bind fun t499=>(some t499)) else(some false)) else(none)) else(none)) else((turns_Grouping.f x0 (wrap64 (x1 + 1))).bind fun bt500=>(if bt500.2 = 0 then(w10_TurnsGroupSteps.j3 k x0 x13 bt500.1 ((bt500.1.length : Int) != x0)) else(w10_TurnsGroupSteps.j3 k x0 x13 bt500.1 true))))
def w10_TurnsGroupSteps.j3 : Nat → Int → List Int → List Int → Bool → Option (Bool)
 | 0,_,_,_,_=>none
 | k + 1,x0,x13,x17,x132=>if x132 = true then(some false) else(w10_TurnsGroupSteps.l1 k x0 x13 x17 0)
def w10_TurnsGroupSteps.l1 : Nat → Int → List Int → List Int → Int → Option (Bool)
 | 0,_,_,_,_=>none
 | k + 1,x0,x13,x17,x19=>if x19 < x0 then(if 0≤x19 then(if x19 < (x13.length : Int) then(if x19 < (x17.length : Int) then(if(rd x13 x19) =(rd x17 x19) then(w10_TurnsGroupSteps.l1 k x0 x13 x17 (wrap64 (x19 + 1))) else(if(rd x13 x19) < (rd x17 x19) then((w10_awake.f k).bind fun t508=>(some t508)) else(some false))) else(none)) else(none)) else(none)) else(some false)
end
def w10_TurnsGroupSteps.f (k : Nat) (a0 : Int) (a1 : Int) : Option (Bool):=(w10_mod.f a0 20).bind fun t483=>((turns_Groupings.f (wrap64 (1 + t483))).bind fun bt484=>(if bt484.2 = 0 then(w10_TurnsGroupSteps.j0 k (wrap64 (1 + t483)) a1 bt484.1 (decide (bt484.1 < 1))) else(w10_TurnsGroupSteps.j0 k (wrap64 (1 + t483)) a1 bt484.1 true)))
def w10_TurnsGroupSteps.T27 : Bool×List (List Nat×List Nat):=(true,[([],[]),([],[]),([0,1],[0,1]),([2],[2]),([],[]),([],[]),([4,5],[4,5]),([6],[6]),([3,7],[3,7])])
def w10_TurnsGroupSteps.B27 : List Nat:=[0,0,3,7,0,0,48,112,255]
theorem w10_TurnsGroupSteps.tab27 : rtab .any (opsOf Try.f12 27) = w10_TurnsGroupSteps.T27:=by kernel_rfl
theorem w10_TurnsGroupSteps.bits27 : waitsOk w10_TurnsGroupSteps.T27.2 w10_TurnsGroupSteps.B27 = true:=by kernel_rfl
def w10_TurnsGroupSteps.T28 : Bool×List (List Nat×List Nat):=(true,[([],[]),([],[]),([0,1],[0,1]),([2],[2]),([],[]),([],[]),([4,5],[4,5]),([6],[6]),([3,7],[3,7]),([8],[8]),([9,9],[9]),([9,10],[9,10]),([11,10,0,1,2,3,4,5,6,7,8,9,10,11],[11])])
def w10_TurnsGroupSteps.B28 : List Nat:=[0,0,3,7,0,0,48,112,255,511,1023,2047,4095]
theorem w10_TurnsGroupSteps.tab28 : rtab .any (opsOf Try.f12 28) = w10_TurnsGroupSteps.T28:=by kernel_rfl
theorem w10_TurnsGroupSteps.bits28 : waitsOk w10_TurnsGroupSteps.T28.2 w10_TurnsGroupSteps.B28 = true:=by kernel_rfl
set_option maxHeartbeats 8000000 in
set_option maxRecDepth 100000 in
theorem w10_TurnsGroupSteps.calls (k : Nat) (a0 : Int) (a1 : Int) (r : Bool) (w : World) (h : w10_TurnsGroupSteps.f k a0 a1 = some r) :
  Calls Try.prog 12 #[.int .i64 a0,.int .i64 a1] w fun e w'=>e = .returned (.bool r)∧Below w.heap.size w w':=by
 have HB:=Aside0.mk (Below.refl w.heap.size w)
 have H :((w10_mod.f a0 20).bind fun t483=>((turns_Groupings.f (wrap64 (1 + t483))).bind fun bt484=>(if bt484.2 = 0 then(w10_TurnsGroupSteps.j0 k (wrap64 (1 + t483)) a1 bt484.1 (decide (bt484.1 < 1))) else(w10_TurnsGroupSteps.j0 k (wrap64 (1 + t483)) a1 bt484.1 true)))) = some r:=h
 clear h
 replace H:=Option.bind_eq_some_iff.mp H
 obtain ⟨t483,A30,H⟩:=H
 replace H :((turns_Groupings.f (wrap64 (1 + t483))).bind fun bt484=>(if bt484.2 = 0 then(w10_TurnsGroupSteps.j0 k (wrap64 (1 + t483)) a1 bt484.1 (decide (bt484.1 < 1))) else(w10_TurnsGroupSteps.j0 k (wrap64 (1 + t483)) a1 bt484.1 true))) = some r:=H
 have A3:=Aside0.mk A30
 clear A30
 replace H:=Option.bind_eq_some_iff.mp H
 obtain ⟨⟨t484,t485⟩,A40,H⟩:=H
 replace H :(if t485 = 0 then(w10_TurnsGroupSteps.j0 k (wrap64 (1 + t483)) a1 t484 (decide (t484 < 1))) else(w10_TurnsGroupSteps.j0 k (wrap64 (1 + t483)) a1 t484 true)) = some r:=H
 have A4:=Aside0.mk A40
 clear A40
 have HC5:=Aside0.mk H
 clear H
 go_enter Try.func12,Try.ntmps12
 go_upto_region 3 with (first |((with_reducible refine gate_callee (f:=26) rfl ?_);refine goesL_ (some 21) rfl rfl Try.func26 (by kernel_rfl) rfl #[.int .i64 a0,.int .i64 20] rfl (by(try simp only [List.map_toArray,List.map_cons,List.map_nil]);first | done | rfl |(simp only [List.length_drop,List.length_take];rfl)) ?_;(with_reducible refine(w10_mod.calls a0 20 t483 _ A3.out).mono ?_);rintro e w' ⟨rfl,⟨nd,rfl⟩⟩;refine⟨_,rfl,?_⟩) |((with_reducible refine gate_callee (f:=28) rfl ?_);refine goesL_ (some 25) rfl rfl Try.func28 (by kernel_rfl) rfl #[.int .i64 (wrap64 (1 + t483))] rfl (by(try simp only [List.map_toArray,List.map_cons,List.map_nil]);first | done | rfl |(simp only [List.length_drop,List.length_take];rfl)) ?_;(with_reducible refine(turns_Groupings.calls (wrap64 (1 + t483)) t484 t485 _ A4.out).mono ?_);rintro e w6 ⟨rfl,hb⟩;refine⟨_,rfl,?_⟩;have n0_:=Aside0.mk (bwT (by repeat(first |(with_reducible first | exact HB.out | apply bwA | apply bwN | apply bw1) | exact HB.out)) hb);clear HB;have HB:=n0_;clear n0_;(try clear hb);(try clear hb2);(try clear hk);(try clear hi)))
 (try simp only [Act.put,List.setIfInBounds_toArray,List.set_cons_zero,List.set_cons_succ])
 go_cut [33] (fun v33 wc=>∃ (kq : Nat) (x33_4 : Bool),v33 = .bool x33_4∧Aside0 (w10_TurnsGroupSteps.j0 kq (wrap64 (1 + t483)) a1 t484 x33_4 = some r)∧Aside0 (kq≤k)∧Aside0 (Below w.heap.size w wc))
 case first =>
  have H:=HC5.out
  clear HC5
  by_cases c7 : t485 = 0
  rotate_left
  ·rw [if_neg c7] at H
   have c7b0 :(t485 == 0) = false:=beq_eq_false_iff_ne.mpr c7
   have c7b1 :(t485 != 0) = true:=bne_iff_ne.mpr c7
   (first | rw [c7b0] |(simp only [i64_w,i32_w];rw [c7b0]) | skip)
   have H':=Aside0.mk H
   clear H
   go_wp2
   go_meet
   exact⟨_,(true),(by first | rfl |(simp;done) |(simp [*];done)),H',⟨by first | omega | exact Nat.le_refl _⟩,⟨by repeat(first |(with_reducible first | exact HB.out | apply bwA | apply bwN | apply bw1) | exact HB.out)⟩⟩
  rw [if_pos c7] at H
  have c7b0 :(t485 == 0) = true:=beq_iff_eq.mpr c7
  have c7b1 :(t485 != 0) = false:=bne_eq_false_iff_eq.mpr c7
  clear c7
  (first | rw [c7b0] |(simp only [i64_w,i32_w];rw [c7b0]) | skip)
  have H':=Aside0.mk H
  clear H
  go_wp2
  go_meet
  exact⟨_,(decide (t484 < 1)),(by first | rfl |(simp;done) |(simp [*];done)),H',⟨by first | omega | exact Nat.le_refl _⟩,⟨by repeat(first |(with_reducible first | exact HB.out | apply bwA | apply bwN | apply bw1) | exact HB.out)⟩⟩
 case rest =>
  clear HC5
  try clear c1
  try clear c2
  try clear p2
  try clear p6
  try clear c7
  try clear c7b0
  try clear c7b1
  obtain ⟨kq,x33_4,rfl,HA,HJ4,HB⟩:=hcut
  cases kq with
  | zero=>exact absurd HA.out (by simp [w10_TurnsGroupSteps.j0])
  | succ kj4 =>
   have H:=HA.out
   clear HA
   simp only [w10_TurnsGroupSteps.j0] at H
   by_cases c8 : x33_4 = true
   ·subst c8
    have H1 :(some false) = some r:=by rw [if_pos rfl] at H;exact H
    clear H
    have H:=H1
    clear H1
    obtain rfl:=Option.some.inj H
    go_wp2
    go_ret
    exact⟨by first | rfl |(simp [errW_none,errW_some] <;> rfl) |(simp [*,errW_none,errW_some] <;> rfl),by repeat(first |(with_reducible first | exact HB.out | apply bwA | apply bwN | apply bw1) | exact HB.out)⟩
   replace c8:=Bool.eq_false_iff.mpr c8
   subst c8
   have H1 :(w10_TurnsGroupSteps.l0 kj4 (wrap64 (1 + t483)) a1 t484 0 0) = some r:=by rw [if_neg (show ¬ (false = true) by decide)] at H;exact H
   clear H
   have H:=H1
   clear H1
   have H':=Aside0.mk H
   clear H
   go_wp2
   go_loopg [7,8] kj4 (fun kq v7 v8 w'=>∃ (x7_2 : Int) (x8_2 : Int),v7 = .int .i64 x7_2∧v8 = .int .i64 x8_2∧Aside0 (w10_TurnsGroupSteps.l0 kq (wrap64 (1 + t483)) a1 t484 x7_2 x8_2 = some r)∧Aside0 (kq≤kj4)∧Aside0 (Below w.heap.size w w'))
   case atStart=>exact⟨(0),(0),(by first | rfl |(simp;done) |(simp [*];done)),(by first | rfl |(simp;done) |(simp [*];done)),H',⟨Nat.le_refl _⟩,⟨by repeat(first |(with_reducible first | exact HB.out | apply bwA | apply bwN | apply bw1) | exact HB.out)⟩⟩
   clear H'
   try clear c1
   try clear c2
   try clear p2
   try clear p6
   try clear c7
   try clear c7b0
   try clear c7b1
   try clear c8
   try clear p2
   try clear p6
   obtain ⟨x7_2,x8_2,rfl,rfl,HA,HK2,HB⟩:=hrel
   cases gk with
   | zero=>exact absurd HA.out (by simp [w10_TurnsGroupSteps.l0])
   | succ k2 =>
    have H:=HA.out
    clear HA
    simp only [w10_TurnsGroupSteps.l0] at H
    by_cases c9 : x8_2 < (wrap64 (1 + t483))
    ·rw [if_pos c9] at H
     have c9b0 : decide (x8_2 < (wrap64 (1 + t483))) = true:=decide_eq_true c9
     clear c9
     replace H:=Option.bind_eq_some_iff.mp H
     obtain ⟨⟨t486,t487⟩,A100,H⟩:=H
     replace H :((turns_Groupings.f x8_2).bind fun bt488=>(if t487 = 0 then(if bt488.2 = 0 then(w10_TurnsGroupSteps.l0 k2 (wrap64 (1 + t483)) a1 t484 (wrap64 (x7_2 + (wrap64 (t486 * bt488.1)))) (wrap64 (x8_2 + 1))) else(some false)) else(some false))) = some r:=H
     have A10:=Aside0.mk A100
     clear A100
     replace H:=Option.bind_eq_some_iff.mp H
     obtain ⟨⟨t488,t489⟩,A110,H⟩:=H
     replace H :(if t487 = 0 then(if t489 = 0 then(w10_TurnsGroupSteps.l0 k2 (wrap64 (1 + t483)) a1 t484 (wrap64 (x7_2 + (wrap64 (t486 * t488)))) (wrap64 (x8_2 + 1))) else(some false)) else(some false)) = some r:=H
     have A11:=Aside0.mk A110
     clear A110
     by_cases c12 : t487 = 0
     rotate_left
     ·rw [if_neg c12] at H
      have c12b0 :(t487 == 0) = false:=beq_eq_false_iff_ne.mpr c12
      have c12b1 :(t487 != 0) = true:=bne_iff_ne.mpr c12
      obtain rfl:=Option.some.inj H
      go_wp2_with (first |((with_reducible refine gate_callee (f:=27) rfl ?_);refine goesL_ (some 43) rfl rfl Try.func27 (by kernel_rfl) rfl #[.int .i64 (wrap64 ((wrap64 (1 + t483)) - 1)),.int .i64 x8_2] rfl (by(try simp only [List.map_toArray,List.map_cons,List.map_nil]);first | done | rfl |(simp only [List.length_drop,List.length_take];rfl)) ?_;(with_reducible refine(turns_Many.calls (wrap64 ((wrap64 (1 + t483)) - 1)) x8_2 t486 t487 _ A10.out).mono ?_);rintro e w18 ⟨rfl,hb⟩;refine⟨_,rfl,?_⟩;have n0_:=Aside0.mk (bwT (by repeat(first |(with_reducible first | exact HB.out | apply bwA | apply bwN | apply bw1) | exact HB.out)) hb);clear HB;have HB:=n0_;clear n0_;(try clear hb);(try clear hb2);(try clear hk);(try clear hi)) |((with_reducible refine gate_callee (f:=28) rfl ?_);refine goesL_ (some 48) rfl rfl Try.func28 (by kernel_rfl) rfl #[.int .i64 x8_2] rfl (by(try simp only [List.map_toArray,List.map_cons,List.map_nil]);first | done | rfl |(simp only [List.length_drop,List.length_take];rfl)) ?_;(with_reducible refine(turns_Groupings.calls x8_2 t488 t489 _ A11.out).mono ?_);rintro e w19 ⟨rfl,hb⟩;refine⟨_,rfl,?_⟩;have n0_:=Aside0.mk (bwT (by repeat(first |(with_reducible first | exact HB.out | apply bwA | apply bwN | apply bw1) | exact HB.out)) hb);clear HB;have HB:=n0_;clear n0_;(try clear hb);(try clear hb2);(try clear hk);(try clear hi)))
      go_ret
      exact⟨by first | rfl |(simp [errW_none,errW_some] <;> rfl) |(simp [*,errW_none,errW_some] <;> rfl),by repeat(first |(with_reducible first | exact HB.out | apply bwA | apply bwN | apply bw1) | exact HB.out)⟩
     rw [if_pos c12] at H
     have c12b0 :(t487 == 0) = true:=beq_iff_eq.mpr c12
     have c12b1 :(t487 != 0) = false:=bne_eq_false_iff_eq.mpr c12
     clear c12
     by_cases c13 : t489 = 0
     rotate_left
     ·rw [if_neg c13] at H
      have c13b0 :(t489 == 0) = false:=beq_eq_false_iff_ne.mpr c13
      have c13b1 :(t489 != 0) = true:=bne_iff_ne.mpr c13
      obtain rfl:=Option.some.inj H
      go_wp2_with (first |((with_reducible refine gate_callee (f:=27) rfl ?_);refine goesL_ (some 43) rfl rfl Try.func27 (by kernel_rfl) rfl #[.int .i64 (wrap64 ((wrap64 (1 + t483)) - 1)),.int .i64 x8_2] rfl (by(try simp only [List.map_toArray,List.map_cons,List.map_nil]);first | done | rfl |(simp only [List.length_drop,List.length_take];rfl)) ?_;(with_reducible refine(turns_Many.calls (wrap64 ((wrap64 (1 + t483)) - 1)) x8_2 t486 t487 _ A10.out).mono ?_);rintro e w16 ⟨rfl,hb⟩;refine⟨_,rfl,?_⟩;have n0_:=Aside0.mk (bwT (by repeat(first |(with_reducible first | exact HB.out | apply bwA | apply bwN | apply bw1) | exact HB.out)) hb);clear HB;have HB:=n0_;clear n0_;(try clear hb);(try clear hb2);(try clear hk);(try clear hi)) |((with_reducible refine gate_callee (f:=28) rfl ?_);refine goesL_ (some 48) rfl rfl Try.func28 (by kernel_rfl) rfl #[.int .i64 x8_2] rfl (by(try simp only [List.map_toArray,List.map_cons,List.map_nil]);first | done | rfl |(simp only [List.length_drop,List.length_take];rfl)) ?_;(with_reducible refine(turns_Groupings.calls x8_2 t488 t489 _ A11.out).mono ?_);rintro e w17 ⟨rfl,hb⟩;refine⟨_,rfl,?_⟩;have n0_:=Aside0.mk (bwT (by repeat(first |(with_reducible first | exact HB.out | apply bwA | apply bwN | apply bw1) | exact HB.out)) hb);clear HB;have HB:=n0_;clear n0_;(try clear hb);(try clear hb2);(try clear hk);(try clear hi)))
      go_ret
      exact⟨by first | rfl |(simp [errW_none,errW_some] <;> rfl) |(simp [*,errW_none,errW_some] <;> rfl),by repeat(first |(with_reducible first | exact HB.out | apply bwA | apply bwN | apply bw1) | exact HB.out)⟩
     rw [if_pos c13] at H
     have c13b0 :(t489 == 0) = true:=beq_iff_eq.mpr c13
     have c13b1 :(t489 != 0) = false:=bne_eq_false_iff_eq.mpr c13
     clear c13
     have H':=Aside0.mk H
     clear H
     go_wp2_with (first |((with_reducible refine gate_callee (f:=27) rfl ?_);refine goesL_ (some 43) rfl rfl Try.func27 (by kernel_rfl) rfl #[.int .i64 (wrap64 ((wrap64 (1 + t483)) - 1)),.int .i64 x8_2] rfl (by(try simp only [List.map_toArray,List.map_cons,List.map_nil]);first | done | rfl |(simp only [List.length_drop,List.length_take];rfl)) ?_;(with_reducible refine(turns_Many.calls (wrap64 ((wrap64 (1 + t483)) - 1)) x8_2 t486 t487 _ A10.out).mono ?_);rintro e w14 ⟨rfl,hb⟩;refine⟨_,rfl,?_⟩;have n0_:=Aside0.mk (bwT (by repeat(first |(with_reducible first | exact HB.out | apply bwA | apply bwN | apply bw1) | exact HB.out)) hb);clear HB;have HB:=n0_;clear n0_;(try clear hb);(try clear hb2);(try clear hk);(try clear hi)) |((with_reducible refine gate_callee (f:=28) rfl ?_);refine goesL_ (some 48) rfl rfl Try.func28 (by kernel_rfl) rfl #[.int .i64 x8_2] rfl (by(try simp only [List.map_toArray,List.map_cons,List.map_nil]);first | done | rfl |(simp only [List.length_drop,List.length_take];rfl)) ?_;(with_reducible refine(turns_Groupings.calls x8_2 t488 t489 _ A11.out).mono ?_);rintro e w15 ⟨rfl,hb⟩;refine⟨_,rfl,?_⟩;have n0_:=Aside0.mk (bwT (by repeat(first |(with_reducible first | exact HB.out | apply bwA | apply bwN | apply bw1) | exact HB.out)) hb);clear HB;have HB:=n0_;clear n0_;(try clear hb);(try clear hb2);(try clear hk);(try clear hi)))
     go_roundg k2
     case measure=>have:=HJ4.out;have:=HK2.out;omega
     exact⟨(wrap64 (x7_2 + (wrap64 (t486 * t488)))),(wrap64 (x8_2 + 1)),(by first | rfl |(simp;done) |(simp [*];done)),(by first | rfl |(simp;done) |(simp [*];done)),H',⟨by have:=HJ4.out;have:=HK2.out;omega⟩,⟨by repeat(first |(with_reducible first | exact HB.out | apply bwA | apply bwN | apply bw1) | exact HB.out)⟩⟩
    rw [if_neg c9] at H
    have c9b0 : decide (x8_2 < (wrap64 (1 + t483))) = false:=decide_eq_false c9
    clear c9
    replace H:=Option.bind_eq_some_iff.mp H
    obtain ⟨t490,A200,H⟩:=H
    replace H :((turns_Grouping.f (wrap64 (1 + t483)) t490).bind fun bt491=>((turns_GroupingAt.f bt491.1).bind fun bt495=>(if x7_2 = t484 then(if bt491.2 = 0 then(if bt495.2 = 0 then(if bt495.1 = t490 then(if(bt491.1.length : Int) =(wrap64 (1 + t483)) then((q10_Groupings.f k2 bt491.1).bind fun t497=>(w10_TurnsGroupSteps.j2 k2 (wrap64 (1 + t483)) t490 t484 bt491.1 (!t497))) else(w10_TurnsGroupSteps.j2 k2 (wrap64 (1 + t483)) t490 t484 bt491.1 true)) else(w10_TurnsGroupSteps.j2 k2 (wrap64 (1 + t483)) t490 t484 bt491.1 true)) else(w10_TurnsGroupSteps.j2 k2 (wrap64 (1 + t483)) t490 t484 bt491.1 true)) else(w10_TurnsGroupSteps.j2 k2 (wrap64 (1 + t483)) t490 t484 bt491.1 true)) else(w10_TurnsGroupSteps.j2 k2 (wrap64 (1 + t483)) t490 t484 bt491.1 true)))) = some r:=H
    have A20:=Aside0.mk A200
    clear A200
    replace H:=Option.bind_eq_some_iff.mp H
    obtain ⟨⟨t491,t492⟩,A210,H⟩:=H
    replace H :((turns_GroupingAt.f t491).bind fun bt495=>(if x7_2 = t484 then(if t492 = 0 then(if bt495.2 = 0 then(if bt495.1 = t490 then(if(t491.length : Int) =(wrap64 (1 + t483)) then((q10_Groupings.f k2 t491).bind fun t497=>(w10_TurnsGroupSteps.j2 k2 (wrap64 (1 + t483)) t490 t484 t491 (!t497))) else(w10_TurnsGroupSteps.j2 k2 (wrap64 (1 + t483)) t490 t484 t491 true)) else(w10_TurnsGroupSteps.j2 k2 (wrap64 (1 + t483)) t490 t484 t491 true)) else(w10_TurnsGroupSteps.j2 k2 (wrap64 (1 + t483)) t490 t484 t491 true)) else(w10_TurnsGroupSteps.j2 k2 (wrap64 (1 + t483)) t490 t484 t491 true)) else(w10_TurnsGroupSteps.j2 k2 (wrap64 (1 + t483)) t490 t484 t491 true))) = some r:=H
    have A21:=Aside0.mk A210
    clear A210
    replace H:=Option.bind_eq_some_iff.mp H
    obtain ⟨⟨t495,t496⟩,A220,H⟩:=H
    replace H :(if x7_2 = t484 then(if t492 = 0 then(if t496 = 0 then(if t495 = t490 then(if(t491.length : Int) =(wrap64 (1 + t483)) then((q10_Groupings.f k2 t491).bind fun t497=>(w10_TurnsGroupSteps.j2 k2 (wrap64 (1 + t483)) t490 t484 t491 (!t497))) else(w10_TurnsGroupSteps.j2 k2 (wrap64 (1 + t483)) t490 t484 t491 true)) else(w10_TurnsGroupSteps.j2 k2 (wrap64 (1 + t483)) t490 t484 t491 true)) else(w10_TurnsGroupSteps.j2 k2 (wrap64 (1 + t483)) t490 t484 t491 true)) else(w10_TurnsGroupSteps.j2 k2 (wrap64 (1 + t483)) t490 t484 t491 true)) else(w10_TurnsGroupSteps.j2 k2 (wrap64 (1 + t483)) t490 t484 t491 true)) = some r:=H
    have A22:=Aside0.mk A220
    clear A220
    have HC23:=Aside0.mk H
    clear H
    go_upto_region 17 with (first |((with_reducible refine gate_callee (f:=26) rfl ?_);refine goesL_ (some 64) rfl rfl Try.func26 (by kernel_rfl) rfl #[.int .i64 a1,.int .i64 t484] rfl (by(try simp only [List.map_toArray,List.map_cons,List.map_nil]);first | done | rfl |(simp only [List.length_drop,List.length_take];rfl)) ?_;(with_reducible refine(w10_mod.calls a1 t484 t490 _ A20.out).mono ?_);rintro e w' ⟨rfl,⟨nd,rfl⟩⟩;refine⟨_,rfl,?_⟩) |((with_reducible refine gate_callee (f:=39) rfl ?_);refine goesL_ (some 68) rfl rfl Try.func39 (by kernel_rfl) rfl #[.int .i64 (wrap64 (1 + t483)),.int .i64 t490] rfl (by(try simp only [List.map_toArray,List.map_cons,List.map_nil]);first | done | rfl |(simp only [List.length_drop,List.length_take];rfl)) ?_;(with_reducible refine(turns_Grouping.calls (wrap64 (1 + t483)) t490 t491 t492 _ A21.out).mono ?_);rintro e w24 ⟨v493,rfl,ho0,hb⟩;refine⟨_,rfl,?_⟩;have n0_:=Aside0.mk (Kd.R_lower ho0 (bwZ (by repeat(first |(with_reducible first | exact HB.out | apply bwA | apply bwN | apply bw1) | exact HB.out))));have n1_:=Aside0.mk (bwT (by repeat(first |(with_reducible first | exact HB.out | apply bwA | apply bwN | apply bw1) | exact HB.out)) hb);clear HB;have HO494:=n0_;have HB:=n1_;clear n0_ n1_;(try clear hb);(try clear hb2);(try clear hk);(try clear hi);(try clear ho0);obtain ⟨Ao25,co25,eo25⟩:=Kd.R_slice HO494.out;subst eo25) |((with_reducible refine gate_callee (f:=40) rfl ?_);refine goesL_ (some 73) rfl rfl Try.func40 (by kernel_rfl) rfl #[.slice Ao25 t491.length co25] rfl (by(try simp only [List.map_toArray,List.map_cons,List.map_nil]);first | done | rfl |(simp only [List.length_drop,List.length_take];rfl)) ?_;(with_reducible refine(turns_GroupingAt.calls _ _ t491 t495 t496 _ ?side1 ?side2 A22.out).mono ?_);(case side1=>repeat(first | exact(Kd.R_reads' HO494.out).2.2 |(with_reducible refine Kd.C_alloc ?_ _) |(with_reducible refine Kd.C_drewN ?_ _) |(with_reducible refine Kd.C_drew ?_)));(case side2=>exact(Kd.R_reads' HO494.out).2.1);rintro e w26 ⟨rfl,hb⟩;refine⟨_,rfl,?_⟩;have n0_:=Aside0.mk (Kd.R_below (by(with_reducible repeat(first | apply Kd.R_alloc | apply Kd.R_drewN | apply Kd.R_drew));exact HO494.out) hb);have n1_:=Aside0.mk (bwT (by repeat(first |(with_reducible first | exact HB.out | apply bwA | apply bwN | apply bw1) | exact HB.out)) hb);clear HO494;clear HB;have HO494:=n0_;have HB:=n1_;clear n0_ n1_;(try clear hb);(try clear hb2);(try clear hk);(try clear hi)))
    (try simp only [Act.put,List.setIfInBounds_toArray,List.set_cons_zero,List.set_cons_succ])
    go_cut [102] (fun v102 wc=>∃ (kq : Nat) (x102_22 : Bool),v102 = .bool x102_22∧Aside0 (w10_TurnsGroupSteps.j2 kq (wrap64 (1 + t483)) t490 t484 t491 x102_22 = some r)∧Aside0 (kq≤k2)∧Aside0 (Kd.R (Kd.int .i64) 3 wc w.heap.size (fun _=>True) (.slice Ao25 t491.length co25) t491)∧Aside0 (Below w.heap.size w wc))
    case first =>
     have H:=HC23.out
     clear HC23
     by_cases c27 : x7_2 = t484
     rotate_left
     ·rw [if_neg c27] at H
      have c27b0 :(x7_2 == t484) = false:=beq_eq_false_iff_ne.mpr c27
      have c27b1 :(x7_2 != t484) = true:=bne_iff_ne.mpr c27
      (first | rw [c27b0] |(simp only [i64_w,i32_w];rw [c27b0]) | skip)
      have H':=Aside0.mk H
      clear H
      go_wp2
      go_meet
      exact⟨_,(true),(by first | rfl |(simp;done) |(simp [*];done)),H',⟨by have:=HJ4.out;have:=HK2.out;first | omega | exact Nat.le_refl _⟩,⟨by(with_reducible repeat(first | apply Kd.R_alloc | apply Kd.R_drewN | apply Kd.R_drew));exact HO494.out⟩,⟨by repeat(first |(with_reducible first | exact HB.out | apply bwA | apply bwN | apply bw1) | exact HB.out)⟩⟩
     rw [if_pos c27] at H
     have c27b0 :(x7_2 == t484) = true:=beq_iff_eq.mpr c27
     have c27b1 :(x7_2 != t484) = false:=bne_eq_false_iff_eq.mpr c27
     clear c27
     (first | rw [c27b0] |(simp only [i64_w,i32_w];rw [c27b0]) | skip)
     by_cases c28 : t492 = 0
     rotate_left
     ·rw [if_neg c28] at H
      have c28b0 :(t492 == 0) = false:=beq_eq_false_iff_ne.mpr c28
      have c28b1 :(t492 != 0) = true:=bne_iff_ne.mpr c28
      have H':=Aside0.mk H
      clear H
      go_wp2
      go_meet
      exact⟨_,(true),(by first | rfl |(simp;done) |(simp [*];done)),H',⟨by have:=HJ4.out;have:=HK2.out;first | omega | exact Nat.le_refl _⟩,⟨by(with_reducible repeat(first | apply Kd.R_alloc | apply Kd.R_drewN | apply Kd.R_drew));exact HO494.out⟩,⟨by repeat(first |(with_reducible first | exact HB.out | apply bwA | apply bwN | apply bw1) | exact HB.out)⟩⟩
     rw [if_pos c28] at H
     have c28b0 :(t492 == 0) = true:=beq_iff_eq.mpr c28
     have c28b1 :(t492 != 0) = false:=bne_eq_false_iff_eq.mpr c28
     clear c28
     by_cases c29 : t496 = 0
     rotate_left
     ·rw [if_neg c29] at H
      have c29b0 :(t496 == 0) = false:=beq_eq_false_iff_ne.mpr c29
      have c29b1 :(t496 != 0) = true:=bne_iff_ne.mpr c29
      have H':=Aside0.mk H
      clear H
      go_wp2
      go_meet
      exact⟨_,(true),(by first | rfl |(simp;done) |(simp [*];done)),H',⟨by have:=HJ4.out;have:=HK2.out;first | omega | exact Nat.le_refl _⟩,⟨by(with_reducible repeat(first | apply Kd.R_alloc | apply Kd.R_drewN | apply Kd.R_drew));exact HO494.out⟩,⟨by repeat(first |(with_reducible first | exact HB.out | apply bwA | apply bwN | apply bw1) | exact HB.out)⟩⟩
     rw [if_pos c29] at H
     have c29b0 :(t496 == 0) = true:=beq_iff_eq.mpr c29
     have c29b1 :(t496 != 0) = false:=bne_eq_false_iff_eq.mpr c29
     clear c29
     by_cases c30 : t495 = t490
     rotate_left
     ·rw [if_neg c30] at H
      have c30b0 :(t495 == t490) = false:=beq_eq_false_iff_ne.mpr c30
      have c30b1 :(t495 != t490) = true:=bne_iff_ne.mpr c30
      have H':=Aside0.mk H
      clear H
      go_wp2
      go_meet
      exact⟨_,(true),(by first | rfl |(simp;done) |(simp [*];done)),H',⟨by have:=HJ4.out;have:=HK2.out;first | omega | exact Nat.le_refl _⟩,⟨by(with_reducible repeat(first | apply Kd.R_alloc | apply Kd.R_drewN | apply Kd.R_drew));exact HO494.out⟩,⟨by repeat(first |(with_reducible first | exact HB.out | apply bwA | apply bwN | apply bw1) | exact HB.out)⟩⟩
     rw [if_pos c30] at H
     have c30b0 :(t495 == t490) = true:=beq_iff_eq.mpr c30
     have c30b1 :(t495 != t490) = false:=bne_eq_false_iff_eq.mpr c30
     clear c30
     by_cases c31 :(t491.length : Int) =(wrap64 (1 + t483))
     rotate_left
     ·rw [if_neg c31] at H
      have c31b0 :((t491.length : Int) ==(wrap64 (1 + t483))) = false:=beq_eq_false_iff_ne.mpr c31
      have c31b1 :((t491.length : Int) !=(wrap64 (1 + t483))) = true:=bne_iff_ne.mpr c31
      have H':=Aside0.mk H
      clear H
      go_wp2
      go_meet
      exact⟨_,(true),(by first | rfl |(simp;done) |(simp [*];done)),H',⟨by have:=HJ4.out;have:=HK2.out;first | omega | exact Nat.le_refl _⟩,⟨by(with_reducible repeat(first | apply Kd.R_alloc | apply Kd.R_drewN | apply Kd.R_drew));exact HO494.out⟩,⟨by repeat(first |(with_reducible first | exact HB.out | apply bwA | apply bwN | apply bw1) | exact HB.out)⟩⟩
     rw [if_pos c31] at H
     have c31b0 :((t491.length : Int) ==(wrap64 (1 + t483))) = true:=beq_iff_eq.mpr c31
     have c31b1 :((t491.length : Int) !=(wrap64 (1 + t483))) = false:=bne_eq_false_iff_eq.mpr c31
     clear c31
     replace H:=Option.bind_eq_some_iff.mp H
     obtain ⟨t497,A320,H⟩:=H
     replace H :(w10_TurnsGroupSteps.j2 k2 (wrap64 (1 + t483)) t490 t484 t491 (!t497)) = some r:=H
     have A32:=Aside0.mk A320
     clear A320
     have H':=Aside0.mk H
     clear H
     go_wp2_with (first |(go_at_call 43;(with_reducible refine(q10_Groupings.calls k2 _ _ t491 t497 _ ?side1 ?side2 A32.out).mono ?_);(case side1=>repeat(first | exact(Kd.R_reads' HO494.out).2.2 |(with_reducible refine Kd.C_alloc ?_ _) |(with_reducible refine Kd.C_drewN ?_ _) |(with_reducible refine Kd.C_drew ?_)));(case side2=>exact(Kd.R_reads' HO494.out).2.1);rintro e w33 ⟨rfl,hb⟩;have n0_:=Aside0.mk (Kd.R_below (by(with_reducible repeat(first | apply Kd.R_alloc | apply Kd.R_drewN | apply Kd.R_drew));exact HO494.out) hb);have n1_:=Aside0.mk (bwT (by repeat(first |(with_reducible first | exact HB.out | apply bwA | apply bwN | apply bw1) | exact HB.out)) hb);clear HO494;clear HB;have HO494:=n0_;have HB:=n1_;clear n0_ n1_;(try clear hb);(try clear hb2);(try clear hk);(try clear hi)))
     go_meet
     exact⟨_,(!t497),(by first | rfl |(simp;done) |(simp [*];done)),H',⟨by have:=HJ4.out;have:=HK2.out;first | omega | exact Nat.le_refl _⟩,⟨by(with_reducible repeat(first | apply Kd.R_alloc | apply Kd.R_drewN | apply Kd.R_drew));exact HO494.out⟩,⟨by repeat(first |(with_reducible first | exact HB.out | apply bwA | apply bwN | apply bw1) | exact HB.out)⟩⟩
    case rest =>
     clear HC23
     try clear c1
     try clear c2
     try clear p2
     try clear c3
     try clear c4
     try clear p6
     try clear c7
     try clear c7b0
     try clear c7b1
     try clear c8
     try clear c9
     try clear c9b0
     try clear c12
     try clear c12b0
     try clear c12b1
     try clear c13
     try clear c13b0
     try clear c13b1
     try clear c26
     try clear c27
     try clear c27b0
     try clear c27b1
     try clear c28
     try clear c28b0
     try clear c28b1
     try clear c29
     try clear c29b0
     try clear c29b1
     try clear c30
     try clear c30b0
     try clear c30b1
     try clear c31
     try clear c31b0
     try clear c31b1
     try clear p2
     try clear p6
     obtain ⟨kq,x102_22,rfl,HA,HJ22,HO_13,HB⟩:=hcut
     cases kq with
     | zero=>exact absurd HA.out (by simp [w10_TurnsGroupSteps.j2])
     | succ kj22 =>
      have H:=HA.out
      clear HA
      simp only [w10_TurnsGroupSteps.j2] at H
      by_cases c34 : x102_22 = true
      ·subst c34
       have H1 :(some false) = some r:=by rw [if_pos rfl] at H;exact H
       clear H
       have H:=H1
       clear H1
       obtain rfl:=Option.some.inj H
       go_wp2
       go_ret
       exact⟨by first | rfl |(simp [errW_none,errW_some] <;> rfl) |(simp [*,errW_none,errW_some] <;> rfl),by repeat(first |(with_reducible first | exact HB.out | apply bwA | apply bwN | apply bw1) | exact HB.out)⟩
      replace c34:=Bool.eq_false_iff.mpr c34
      subst c34
      have H1 :(if t490 =(wrap64 (t484 - 1)) then(if 0 ≤(wrap64 ((wrap64 (1 + t483)) - 1)) then(if(wrap64 ((wrap64 (1 + t483)) - 1)) < (t491.length : Int) then(if(rd t491 (wrap64 ((wrap64 (1 + t483)) - 1))) =(wrap64 ((wrap64 (1 + t483)) - 1)) then((w10_awake.f kj22).bind fun t499=>(some t499)) else(some false)) else(none)) else(none)) else((turns_Grouping.f (wrap64 (1 + t483)) (wrap64 (t490 + 1))).bind fun bt500=>(if bt500.2 = 0 then(w10_TurnsGroupSteps.j3 kj22 (wrap64 (1 + t483)) t491 bt500.1 ((bt500.1.length : Int) !=(wrap64 (1 + t483)))) else(w10_TurnsGroupSteps.j3 kj22 (wrap64 (1 + t483)) t491 bt500.1 true)))) = some r:=by rw [if_neg (show ¬ (false = true) by decide)] at H;exact H
      clear H
      have H:=H1
      clear H1
      by_cases c35 : t490 =(wrap64 (t484 - 1))
      ·rw [if_pos c35] at H
       have c35b0 :(t490 ==(wrap64 (t484 - 1))) = true:=beq_iff_eq.mpr c35
       have c35b1 :(t490 !=(wrap64 (t484 - 1))) = false:=bne_eq_false_iff_eq.mpr c35
       clear c35
       obtain ⟨ji36,hji36⟩ : ∃ j_ : Int,(wrap64 ((wrap64 (1 + t483)) - 1)) = j_:=⟨_,rfl⟩
       replace H :(if 0 ≤(ji36) then(if(ji36) < (t491.length : Int) then(if(rd t491 (ji36)) =(ji36) then((w10_awake.f kj22).bind fun t499=>(some t499)) else(some false)) else(none)) else(none)) = some r:=by first |(rw [hji36] at H;exact H) |(simp only [hji36] at H ⊢;exact H)
       have hji36w :(IntKind.i64.wrap ((wrap64 (1 + t483)) - 1)) = ji36:=(i64_w _).trans hji36
       by_cases c37 : 0 ≤(ji36)
       rotate_left
       ·rw [if_neg c37] at H
        exact absurd H (by simp)
       rw [if_pos c37] at H
       have c37b0 : decide (0 ≤(ji36)) = true:=decide_eq_true c37
       clear c37
       by_cases c38 :(ji36) < (t491.length : Int)
       rotate_left
       ·rw [if_neg c38] at H
        exact absurd H (by simp)
       rw [if_pos c38] at H
       have c38b0 : decide ((ji36) < (t491.length : Int)) = true:=decide_eq_true c38
       clear c38
       by_cases c39 :(rd t491 (ji36)) =(ji36)
       rotate_left
       ·rw [if_neg c39] at H
        have c39b0 :((rd t491 (ji36)) ==(ji36)) = false:=beq_eq_false_iff_ne.mpr c39
        have c39b1 :((rd t491 (ji36)) !=(ji36)) = true:=bne_iff_ne.mpr c39
        obtain rfl:=Option.some.inj H
        have p498 : 0 ≤((ji36) : Int):=of_decide_eq_true (by first |(with_reducible assumption) | assumption)
        have q498 :(ji36) < (t491.length : Int):=of_decide_eq_true (by first |(with_reducible assumption) | assumption)
        obtain ⟨ad498,e498,hx498_0⟩:=Kd.at_int (Kd.R_reads' HO_13.out).2.2 (ji36) p498 q498
        cases e498
        replace p498:=eq_true p498
        replace q498:=eq_true q498
        go_wp2
        go_ret
        exact⟨by first | rfl |(simp [errW_none,errW_some] <;> rfl) |(simp only [← hji36];first | rfl |(simp [errW_none,errW_some] <;> rfl)) |(simp [*,errW_none,errW_some] <;> rfl),by repeat(first |(with_reducible first | exact HB.out | apply bwA | apply bwN | apply bw1) | exact HB.out)⟩
       rw [if_pos c39] at H
       have c39b0 :((rd t491 (ji36)) ==(ji36)) = true:=beq_iff_eq.mpr c39
       have c39b1 :((rd t491 (ji36)) !=(ji36)) = false:=bne_eq_false_iff_eq.mpr c39
       clear c39
       replace H:=Option.bind_eq_some_iff.mp H
       obtain ⟨t499,A400,H⟩:=H
       replace H :(some t499) = some r:=H
       have A40:=Aside0.mk A400
       clear A400
       obtain rfl:=Option.some.inj H
       have p498 : 0 ≤((ji36) : Int):=of_decide_eq_true (by first |(with_reducible assumption) | assumption)
       have q498 :(ji36) < (t491.length : Int):=of_decide_eq_true (by first |(with_reducible assumption) | assumption)
       obtain ⟨ad498,e498,hx498_0⟩:=Kd.at_int (Kd.R_reads' HO_13.out).2.2 (ji36) p498 q498
       cases e498
       replace p498:=eq_true p498
       replace q498:=eq_true q498
       go_wp2_with (first |(go_at_call 20;(with_reducible refine(w10_awake.calls kj22  t499 _ A40.out).mono ?_);rintro e w41 ⟨rfl,hb⟩;have n0_:=Aside0.mk (Kd.R_below (by(with_reducible repeat(first | apply Kd.R_alloc | apply Kd.R_drewN | apply Kd.R_drew));exact HO_13.out) hb);have n1_:=Aside0.mk (bwT (by repeat(first |(with_reducible first | exact HB.out | apply bwA | apply bwN | apply bw1) | exact HB.out)) hb);clear HO_13;clear HB;have HO_13:=n0_;have HB:=n1_;clear n0_ n1_;(try clear hb);(try clear hb2);(try clear hk);(try clear hi)))
       go_ret
       exact⟨by first | rfl |(simp [errW_none,errW_some] <;> rfl) |(simp only [← hji36];first | rfl |(simp [errW_none,errW_some] <;> rfl)) |(simp [*,errW_none,errW_some] <;> rfl),by repeat(first |(with_reducible first | exact HB.out | apply bwA | apply bwN | apply bw1) | exact HB.out)⟩
      rw [if_neg c35] at H
      have c35b0 :(t490 ==(wrap64 (t484 - 1))) = false:=beq_eq_false_iff_ne.mpr c35
      have c35b1 :(t490 !=(wrap64 (t484 - 1))) = true:=bne_iff_ne.mpr c35
      replace H:=Option.bind_eq_some_iff.mp H
      obtain ⟨⟨t500,t501⟩,A420,H⟩:=H
      replace H :(if t501 = 0 then(w10_TurnsGroupSteps.j3 kj22 (wrap64 (1 + t483)) t491 t500 ((t500.length : Int) !=(wrap64 (1 + t483)))) else(w10_TurnsGroupSteps.j3 kj22 (wrap64 (1 + t483)) t491 t500 true)) = some r:=H
      have A42:=Aside0.mk A420
      clear A420
      have HC43:=Aside0.mk H
      clear H
      go_upto_region 22 with (first |((with_reducible refine gate_callee (f:=39) rfl ?_);refine goesL_ (some 122) rfl rfl Try.func39 (by kernel_rfl) rfl #[.int .i64 (wrap64 (1 + t483)),.int .i64 (wrap64 (t490 + 1))] rfl (by(try simp only [List.map_toArray,List.map_cons,List.map_nil]);first | done | rfl |(simp only [List.length_drop,List.length_take];rfl)) ?_;(with_reducible refine(turns_Grouping.calls (wrap64 (1 + t483)) (wrap64 (t490 + 1)) t500 t501 _ A42.out).mono ?_);rintro e w44 ⟨v502,rfl,ho0,hb⟩;refine⟨_,rfl,?_⟩;have n0_:=Aside0.mk (Kd.R_elder' (by(with_reducible repeat(first | apply Kd.R_alloc | apply Kd.R_drewN | apply Kd.R_drew));exact HO_13.out) (Kd.R_base ho0) hb);have n1_:=Aside0.mk (Kd.R_lower (Kd.R_new' ho0 (Kd.R_lt (by(with_reducible repeat(first | apply Kd.R_alloc | apply Kd.R_drewN | apply Kd.R_drew));exact HO_13.out))) (bwZ (by repeat(first |(with_reducible first | exact HB.out | apply bwA | apply bwN | apply bw1) | exact HB.out))));have n2_:=Aside0.mk (bwT (by repeat(first |(with_reducible first | exact HB.out | apply bwA | apply bwN | apply bw1) | exact HB.out)) hb);clear HO_13;clear HB;have HO_13:=n0_;have HO503:=n1_;have HB:=n2_;clear n0_ n1_ n2_;(try clear hb);(try clear hb2);(try clear hk);(try clear hi);(try clear ho0)))
      (try simp only [Act.put,List.setIfInBounds_toArray,List.set_cons_zero,List.set_cons_succ])
      go_cut [132] (fun v132 wc=>∃ (kq : Nat) (x132_42 : Bool),v132 = .bool x132_42∧Aside0 (w10_TurnsGroupSteps.j3 kq (wrap64 (1 + t483)) t491 t500 x132_42 = some r)∧Aside0 (kq≤kj22)∧Aside0 (Kd.R (Kd.int .i64) 3 wc w.heap.size (fun k_=>some k_ ≠(v502 : Value).ownBlock) (.slice Ao25 t491.length co25) t491)∧Aside0 (Kd.R (Kd.int .i64) 3 wc w.heap.size (fun k_=>some k_ ≠((.slice Ao25 t491.length co25) : Value).ownBlock) v502 t500)∧Aside0 (Below w.heap.size w wc))
      case first =>
       have H:=HC43.out
       clear HC43
       by_cases c45 : t501 = 0
       rotate_left
       ·rw [if_neg c45] at H
        have c45b0 :(t501 == 0) = false:=beq_eq_false_iff_ne.mpr c45
        have c45b1 :(t501 != 0) = true:=bne_iff_ne.mpr c45
        (first | rw [c45b0] |(simp only [i64_w,i32_w];rw [c45b0]) | skip)
        have H':=Aside0.mk H
        clear H
        go_wp2
        go_meet
        exact⟨_,(true),(by first | rfl |(simp;done) |(simp [*];done)),H',⟨by have:=HJ4.out;have:=HK2.out;have:=HJ22.out;first | omega | exact Nat.le_refl _⟩,⟨by(with_reducible repeat(first | apply Kd.R_alloc | apply Kd.R_drewN | apply Kd.R_drew));exact Kd.R_mono HO_13.out (fun _ hk=>hk.2)⟩,⟨by(with_reducible repeat(first | apply Kd.R_alloc | apply Kd.R_drewN | apply Kd.R_drew));exact Kd.R_mono HO503.out (fun _ hk=>hk.2)⟩,⟨by repeat(first |(with_reducible first | exact HB.out | apply bwA | apply bwN | apply bw1) | exact HB.out)⟩⟩
       rw [if_pos c45] at H
       have c45b0 :(t501 == 0) = true:=beq_iff_eq.mpr c45
       have c45b1 :(t501 != 0) = false:=bne_eq_false_iff_eq.mpr c45
       clear c45
       (first | rw [c45b0] |(simp only [i64_w,i32_w];rw [c45b0]) | skip)
       have H':=Aside0.mk H
       clear H
       obtain ⟨Ao46,co46,eo46⟩:=Kd.R_slice HO503.out
       subst eo46
       go_wp2
       go_meet
       exact⟨_,(((t500.length : Int) !=(wrap64 (1 + t483)))),(by first | rfl |(simp;done) |(simp [*];done)),H',⟨by have:=HJ4.out;have:=HK2.out;have:=HJ22.out;first | omega | exact Nat.le_refl _⟩,⟨by(with_reducible repeat(first | apply Kd.R_alloc | apply Kd.R_drewN | apply Kd.R_drew));exact Kd.R_mono HO_13.out (fun _ hk=>hk.2)⟩,⟨by(with_reducible repeat(first | apply Kd.R_alloc | apply Kd.R_drewN | apply Kd.R_drew));exact Kd.R_mono HO503.out (fun _ hk=>hk.2)⟩,⟨by repeat(first |(with_reducible first | exact HB.out | apply bwA | apply bwN | apply bw1) | exact HB.out)⟩⟩
      case rest =>
       clear HC43
       try clear c1
       try clear c2
       try clear p2
       try clear c3
       try clear c4
       try clear p4
       try clear q4
       try clear hx4
       try clear p6
       try clear c7
       try clear c7b0
       try clear c7b1
       try clear c8
       try clear c9
       try clear c9b0
       try clear c12
       try clear c12b0
       try clear c12b1
       try clear c13
       try clear c13b0
       try clear c13b1
       try clear c26
       try clear c27
       try clear c27b0
       try clear c27b1
       try clear c28
       try clear c28b0
       try clear c28b1
       try clear c29
       try clear c29b0
       try clear c29b1
       try clear c30
       try clear c30b0
       try clear c30b1
       try clear c31
       try clear c31b0
       try clear c31b1
       try clear c34
       try clear c35
       try clear c35b0
       try clear c35b1
       try clear c37
       try clear c37b0
       try clear c38
       try clear c38b0
       try clear c39
       try clear c39b0
       try clear c39b1
       try clear c40
       try clear c45
       try clear c45b0
       try clear c45b1
       try clear hx498_0
       try clear p2
       try clear p498
       try clear p6
       try clear q498
       obtain ⟨kq,x132_42,rfl,HA,HJ42,HO_13,HO_17,HB⟩:=hcut
       cases kq with
       | zero=>exact absurd HA.out (by simp [w10_TurnsGroupSteps.j3])
       | succ kj42 =>
        have H:=HA.out
        clear HA
        simp only [w10_TurnsGroupSteps.j3] at H
        by_cases c47 : x132_42 = true
        ·subst c47
         have H1 :(some false) = some r:=by rw [if_pos rfl] at H;exact H
         clear H
         have H:=H1
         clear H1
         obtain rfl:=Option.some.inj H
         go_wp2
         go_ret
         exact⟨by first | rfl |(simp [errW_none,errW_some] <;> rfl) |(simp [*,errW_none,errW_some] <;> rfl),by repeat(first |(with_reducible first | exact HB.out | apply bwA | apply bwN | apply bw1) | exact HB.out)⟩
        replace c47:=Bool.eq_false_iff.mpr c47
        subst c47
        have H1 :(w10_TurnsGroupSteps.l1 kj42 (wrap64 (1 + t483)) t491 t500 0) = some r:=by rw [if_neg (show ¬ (false = true) by decide)] at H;exact H
        clear H
        have H:=H1
        clear H1
        have H':=Aside0.mk H
        clear H
        go_wp2
        go_loopg [19] kj42 (fun kq v19 w'=>∃ (x19_5 : Int),v19 = .int .i64 x19_5∧Aside0 (w10_TurnsGroupSteps.l1 kq (wrap64 (1 + t483)) t491 t500 x19_5 = some r)∧Aside0 (kq≤kj42)∧Aside0 (Kd.R (Kd.int .i64) 3 w' w.heap.size (fun k_=>some k_ ≠(v502 : Value).ownBlock) (.slice Ao25 t491.length co25) t491)∧Aside0 (Kd.R (Kd.int .i64) 3 w' w.heap.size (fun k_=>some k_ ≠((.slice Ao25 t491.length co25) : Value).ownBlock) v502 t500)∧Aside0 (Below w.heap.size w w'))
        case atStart=>exact⟨(0),(by first | rfl |(simp;done) |(simp [*];done)),H',⟨Nat.le_refl _⟩,⟨by(with_reducible repeat(first | apply Kd.R_alloc | apply Kd.R_drewN | apply Kd.R_drew));exact HO_13.out⟩,⟨by(with_reducible repeat(first | apply Kd.R_alloc | apply Kd.R_drewN | apply Kd.R_drew));exact HO_17.out⟩,⟨by repeat(first |(with_reducible first | exact HB.out | apply bwA | apply bwN | apply bw1) | exact HB.out)⟩⟩
        clear H'
        try clear c1
        try clear c2
        try clear p2
        try clear c3
        try clear c4
        try clear p4
        try clear q4
        try clear hx4
        try clear p6
        try clear c7
        try clear c7b0
        try clear c7b1
        try clear c8
        try clear c9
        try clear c9b0
        try clear c12
        try clear c12b0
        try clear c12b1
        try clear c13
        try clear c13b0
        try clear c13b1
        try clear c26
        try clear c27
        try clear c27b0
        try clear c27b1
        try clear c28
        try clear c28b0
        try clear c28b1
        try clear c29
        try clear c29b0
        try clear c29b1
        try clear c30
        try clear c30b0
        try clear c30b1
        try clear c31
        try clear c31b0
        try clear c31b1
        try clear c34
        try clear c35
        try clear c35b0
        try clear c35b1
        try clear c37
        try clear c37b0
        try clear c38
        try clear c38b0
        try clear c39
        try clear c39b0
        try clear c39b1
        try clear c40
        try clear c45
        try clear c45b0
        try clear c45b1
        try clear c47
        try clear hx498_0
        try clear p2
        try clear p4
        try clear p498
        try clear p6
        try clear q4
        try clear q498
        obtain ⟨x19_5,rfl,HA,HK5,HO_13,HO_17,HB⟩:=hrel
        cases gk with
        | zero=>exact absurd HA.out (by simp [w10_TurnsGroupSteps.l1])
        | succ k5 =>
         have H:=HA.out
         clear HA
         simp only [w10_TurnsGroupSteps.l1] at H
         by_cases c48 : x19_5 < (wrap64 (1 + t483))
         rotate_left
         ·rw [if_neg c48] at H
          have c48b0 : decide (x19_5 < (wrap64 (1 + t483))) = false:=decide_eq_false c48
          clear c48
          obtain rfl:=Option.some.inj H
          go_wp2
          go_ret
          exact⟨by first | rfl |(simp [errW_none,errW_some] <;> rfl) |(simp [*,errW_none,errW_some] <;> rfl),by repeat(first |(with_reducible first | exact HB.out | apply bwA | apply bwN | apply bw1) | exact HB.out)⟩
         rw [if_pos c48] at H
         have c48b0 : decide (x19_5 < (wrap64 (1 + t483))) = true:=decide_eq_true c48
         clear c48
         by_cases c49 : 0≤x19_5
         rotate_left
         ·rw [if_neg c49] at H
          exact absurd H (by simp)
         rw [if_pos c49] at H
         have c49b0 : decide (0≤x19_5) = true:=decide_eq_true c49
         clear c49
         by_cases c50 : x19_5 < (t491.length : Int)
         rotate_left
         ·rw [if_neg c50] at H
          exact absurd H (by simp)
         rw [if_pos c50] at H
         have c50b0 : decide (x19_5 < (t491.length : Int)) = true:=decide_eq_true c50
         clear c50
         by_cases c51 : x19_5 < (t500.length : Int)
         rotate_left
         ·rw [if_neg c51] at H
          exact absurd H (by simp)
         rw [if_pos c51] at H
         have c51b0 : decide (x19_5 < (t500.length : Int)) = true:=decide_eq_true c51
         clear c51
         by_cases c52 :(rd t491 x19_5) =(rd t500 x19_5)
         ·rw [if_pos c52] at H
          have c52b0 :((rd t491 x19_5) ==(rd t500 x19_5)) = true:=beq_iff_eq.mpr c52
          have c52b1 :((rd t491 x19_5) !=(rd t500 x19_5)) = false:=bne_eq_false_iff_eq.mpr c52
          clear c52
          have H':=Aside0.mk H
          clear H
          try go_wp2
          have n0_:=Aside0.mk (Kd.R_drew HO_13.out)
          have n1_:=Aside0.mk (Kd.R_drew HO_17.out)
          have n2_:=Aside0.mk (bw1 HB.out)
          clear HO_13
          clear HO_17
          clear HB
          have HO_13:=n0_
          have HO_17:=n1_
          have HB:=n2_
          clear n0_ n1_ n2_
          have p504 : 0 ≤(x19_5 : Int):=of_decide_eq_true (by first |(with_reducible assumption) | assumption)
          have q504 : x19_5 < (t491.length : Int):=of_decide_eq_true (by first |(with_reducible assumption) | assumption)
          obtain ⟨ad504,e504,hx504_0⟩:=Kd.at_int (Kd.R_reads' HO_13.out).2.2 x19_5 p504 q504
          cases e504
          replace p504:=eq_true p504
          replace q504:=eq_true q504
          obtain ⟨Ao54,co54,eo54⟩:=Kd.R_slice HO_17.out
          (first | subst eo54 |(injection eo54 with f1_ f2_ f3_;have f4_:=f1_.symm;have f5_:=f3_.symm;clear f1_ f2_ f3_;subst f4_;subst f5_))
          have p505 : 0 ≤(x19_5 : Int):=of_decide_eq_true (by first |(with_reducible assumption) | assumption)
          have q505 : x19_5 < (t500.length : Int):=of_decide_eq_true (by first |(with_reducible assumption) | assumption)
          obtain ⟨ad505,e505,hx505_0⟩:=Kd.at_int (Kd.R_reads' HO_17.out).2.2 x19_5 p505 q505
          cases e505
          replace p505:=eq_true p505
          replace q505:=eq_true q505
          refine start_ (n:=9) (S:=fun w'=>w'.cell? (ad504.add (x19_5).toNat) = some (.int .i64 (rd t491 x19_5))∧w'.cell? (ad505.add (x19_5).toNat) = some (.int .i64 (rd t500 x19_5))) (ds:=[]) #[false,false,false,false,false,false,false,false,false] (by kernel_rfl) rfl rfl ⟨hx504_0,hx505_0⟩ (fun hHeld=>?_);refine with_tabW w10_TurnsGroupSteps.tab27 w10_TurnsGroupSteps.bits27 (fun HT_ HW_=>?_)
          generalize wr.drew = w53 at HO_13 HO_17 HB hx504_0 hx505_0 hHeld ⊢
          refine pure_ (i:=0) (N:=some 138) (v:=?_) (a':=?_) #[true,false,false,false,false,false,false,false,false] rfl rfl (any_of HT_.out (by kernel_rfl)) (fun _ _ _ h=>h) (Or.inl ⟨by rfl,?_⟩) ?_ ?_
          rotate_left
          ·intro w'
           go_simp
           with_reducible rfl
          rotate_left
          ·simp only [Act.put, List.setIfInBounds_toArray, List.set_cons_zero, List.set_cons_succ, i64_w, i32_w]
           rfl
          refine pure_ (i:=1) (N:=some 139) (v:=?_) (a':=?_) #[true,true,false,false,false,false,false,false,false] rfl rfl (any_of HT_.out (by kernel_rfl)) (fun _ _ _ h=>h) (Or.inl ⟨by rfl,?_⟩) ?_ ?_
          rotate_left
          ·intro w'
           go_simp
           with_reducible rfl
          rotate_left
          ·simp only [Act.put, List.setIfInBounds_toArray, List.set_cons_zero, List.set_cons_succ, i64_w, i32_w]
           rfl
          refine pure_ (i:=2) (N:=some 140) (v:=?_) (a':=?_) #[true,true,true,false,false,false,false,false,false] rfl rfl (any_of HT_.out (by kernel_rfl)) (fun _ _ _ h=>h) (Or.inl ⟨by rfl,?_⟩) ?_ ?_
          rotate_left
          ·intro w'
           go_simp
           with_reducible rfl
          rotate_left
          ·simp only [Act.put, List.setIfInBounds_toArray, List.set_cons_zero, List.set_cons_succ, i64_w, i32_w]
           rfl
          refine pure_ (i:=4) (N:=some 142) (v:=?_) (a':=?_) #[true,true,true,false,true,false,false,false,false] rfl rfl (any_of HT_.out (by kernel_rfl)) (fun _ _ _ h=>h) (Or.inl ⟨by rfl,?_⟩) ?_ ?_
          rotate_left
          ·intro w'
           go_simp
           with_reducible rfl
          rotate_left
          ·simp only [Act.put, List.setIfInBounds_toArray, List.set_cons_zero, List.set_cons_succ, i64_w, i32_w]
           rfl
          refine pure_ (i:=5) (N:=some 143) (v:=?_) (a':=?_) #[true,true,true,false,true,true,false,false,false] rfl rfl (any_of HT_.out (by kernel_rfl)) (fun _ _ _ h=>h) (Or.inl ⟨by rfl,?_⟩) ?_ ?_
          rotate_left
          ·intro w'
           go_simp
           with_reducible rfl
          rotate_left
          ·simp only [Act.put, List.setIfInBounds_toArray, List.set_cons_zero, List.set_cons_succ, i64_w, i32_w]
           rfl
          refine pure_ (i:=6) (N:=some 144) (v:=?_) (a':=?_) #[true,true,true,false,true,true,true,false,false] rfl rfl (any_of HT_.out (by kernel_rfl)) (fun _ _ _ h=>h) (Or.inl ⟨by rfl,?_⟩) ?_ ?_
          rotate_left
          ·intro w'
           go_simp
           with_reducible rfl
          rotate_left
          ·simp only [Act.put, List.setIfInBounds_toArray, List.set_cons_zero, List.set_cons_succ, i64_w, i32_w]
           rfl
          refine take_ (i:=3) (N:=some 141) (v:=?_) (a':=?_) #[true,true,true,true,true,true,true,false,false] rfl rfl (take_ofW HT_.out HW_.out (by kernel_rfl)) (fun _ _ _ h=>h) (Or.inl ⟨by rfl,?_⟩) hHeld ?_ ?_
          rotate_left
          ·rintro w' ⟨s0, s1⟩
           go_simp
           with_reducible rfl
          rotate_left
          ·simp only [Act.put, List.setIfInBounds_toArray, List.set_cons_zero, List.set_cons_succ, i64_w, i32_w]
           rfl
          refine take_ (i:=7) (N:=some 145) (v:=?_) (a':=?_) #[true,true,true,true,true,true,true,true,false] rfl rfl (take_ofW HT_.out HW_.out (by kernel_rfl)) (fun _ _ _ h=>h) (Or.inl ⟨by rfl,?_⟩) hHeld ?_ ?_
          rotate_left
          ·rintro w' ⟨s0, s1⟩
           go_simp
           with_reducible rfl
          rotate_left
          ·simp only [Act.put, List.setIfInBounds_toArray, List.set_cons_zero, List.set_cons_succ, i64_w, i32_w]
           rfl
          refine pure_ (i:=8) (N:=some 146) (v:=?_) (a':=?_) #[true,true,true,true,true,true,true,true,true] rfl rfl (any_of HT_.out (by kernel_rfl)) (fun _ _ _ h=>h) (Or.inl ⟨by rfl,?_⟩) ?_ ?_
          rotate_left
          ·intro w'
           go_simp
           with_reducible rfl
          rotate_left
          ·simp only [Act.put, List.setIfInBounds_toArray, List.set_cons_zero, List.set_cons_succ, i64_w, i32_w]
           rfl
          refine done_ (done_of HT_.out (by kernel_rfl)) ?_
          try go_wp2
          go_roundg k5
          case measure=>have:=HJ4.out;have:=HK2.out;have:=HJ22.out;have:=HJ42.out;have:=HK5.out;omega
          exact⟨(wrap64 (x19_5 + 1)),(by first | rfl |(simp;done) |(simp [*];done)),H',⟨by have:=HJ4.out;have:=HK2.out;have:=HJ22.out;have:=HJ42.out;have:=HK5.out;omega⟩,⟨by(with_reducible repeat(first | apply Kd.R_alloc | apply Kd.R_drewN | apply Kd.R_drew));exact HO_13.out⟩,⟨by(with_reducible repeat(first | apply Kd.R_alloc | apply Kd.R_drewN | apply Kd.R_drew));exact HO_17.out⟩,⟨by repeat(first |(with_reducible first | exact HB.out | apply bwA | apply bwN | apply bw1) | exact HB.out)⟩⟩
         rw [if_neg c52] at H
         have c52b0 :((rd t491 x19_5) ==(rd t500 x19_5)) = false:=beq_eq_false_iff_ne.mpr c52
         have c52b1 :((rd t491 x19_5) !=(rd t500 x19_5)) = true:=bne_iff_ne.mpr c52
         by_cases c55 :(rd t491 x19_5) < (rd t500 x19_5)
         rotate_left
         ·rw [if_neg c55] at H
          have c55b0 : decide ((rd t491 x19_5) < (rd t500 x19_5)) = false:=decide_eq_false c55
          clear c55
          obtain rfl:=Option.some.inj H
          try go_wp2
          have n0_:=Aside0.mk (Kd.R_drew HO_13.out)
          have n1_:=Aside0.mk (Kd.R_drew HO_17.out)
          have n2_:=Aside0.mk (bw1 HB.out)
          clear HO_13
          clear HO_17
          clear HB
          have HO_13:=n0_
          have HO_17:=n1_
          have HB:=n2_
          clear n0_ n1_ n2_
          have p504 : 0 ≤(x19_5 : Int):=of_decide_eq_true (by first |(with_reducible assumption) | assumption)
          have q504 : x19_5 < (t491.length : Int):=of_decide_eq_true (by first |(with_reducible assumption) | assumption)
          obtain ⟨ad504,e504,hx504_0⟩:=Kd.at_int (Kd.R_reads' HO_13.out).2.2 x19_5 p504 q504
          cases e504
          replace p504:=eq_true p504
          replace q504:=eq_true q504
          obtain ⟨Ao62,co62,eo62⟩:=Kd.R_slice HO_17.out
          (first | subst eo62 |(injection eo62 with f1_ f2_ f3_;have f4_:=f1_.symm;have f5_:=f3_.symm;clear f1_ f2_ f3_;subst f4_;subst f5_))
          have p505 : 0 ≤(x19_5 : Int):=of_decide_eq_true (by first |(with_reducible assumption) | assumption)
          have q505 : x19_5 < (t500.length : Int):=of_decide_eq_true (by first |(with_reducible assumption) | assumption)
          obtain ⟨ad505,e505,hx505_0⟩:=Kd.at_int (Kd.R_reads' HO_17.out).2.2 x19_5 p505 q505
          cases e505
          replace p505:=eq_true p505
          replace q505:=eq_true q505
          refine start_ (n:=9) (S:=fun w'=>w'.cell? (ad504.add (x19_5).toNat) = some (.int .i64 (rd t491 x19_5))∧w'.cell? (ad505.add (x19_5).toNat) = some (.int .i64 (rd t500 x19_5))) (ds:=[]) #[false,false,false,false,false,false,false,false,false] (by kernel_rfl) rfl rfl ⟨hx504_0,hx505_0⟩ (fun hHeld=>?_);refine with_tabW w10_TurnsGroupSteps.tab27 w10_TurnsGroupSteps.bits27 (fun HT_ HW_=>?_)
          generalize wr.drew = w61 at HO_13 HO_17 HB hx504_0 hx505_0 hHeld ⊢
          refine pure_ (i:=0) (N:=some 138) (v:=?_) (a':=?_) #[true,false,false,false,false,false,false,false,false] rfl rfl (any_of HT_.out (by kernel_rfl)) (fun _ _ _ h=>h) (Or.inl ⟨by rfl,?_⟩) ?_ ?_
          rotate_left
          ·intro w'
           go_simp
           with_reducible rfl
          rotate_left
          ·simp only [Act.put, List.setIfInBounds_toArray, List.set_cons_zero, List.set_cons_succ, i64_w, i32_w]
           rfl
          refine pure_ (i:=1) (N:=some 139) (v:=?_) (a':=?_) #[true,true,false,false,false,false,false,false,false] rfl rfl (any_of HT_.out (by kernel_rfl)) (fun _ _ _ h=>h) (Or.inl ⟨by rfl,?_⟩) ?_ ?_
          rotate_left
          ·intro w'
           go_simp
           with_reducible rfl
          rotate_left
          ·simp only [Act.put, List.setIfInBounds_toArray, List.set_cons_zero, List.set_cons_succ, i64_w, i32_w]
           rfl
          refine pure_ (i:=2) (N:=some 140) (v:=?_) (a':=?_) #[true,true,true,false,false,false,false,false,false] rfl rfl (any_of HT_.out (by kernel_rfl)) (fun _ _ _ h=>h) (Or.inl ⟨by rfl,?_⟩) ?_ ?_
          rotate_left
          ·intro w'
           go_simp
           with_reducible rfl
          rotate_left
          ·simp only [Act.put, List.setIfInBounds_toArray, List.set_cons_zero, List.set_cons_succ, i64_w, i32_w]
           rfl
          refine pure_ (i:=4) (N:=some 142) (v:=?_) (a':=?_) #[true,true,true,false,true,false,false,false,false] rfl rfl (any_of HT_.out (by kernel_rfl)) (fun _ _ _ h=>h) (Or.inl ⟨by rfl,?_⟩) ?_ ?_
          rotate_left
          ·intro w'
           go_simp
           with_reducible rfl
          rotate_left
          ·simp only [Act.put, List.setIfInBounds_toArray, List.set_cons_zero, List.set_cons_succ, i64_w, i32_w]
           rfl
          refine pure_ (i:=5) (N:=some 143) (v:=?_) (a':=?_) #[true,true,true,false,true,true,false,false,false] rfl rfl (any_of HT_.out (by kernel_rfl)) (fun _ _ _ h=>h) (Or.inl ⟨by rfl,?_⟩) ?_ ?_
          rotate_left
          ·intro w'
           go_simp
           with_reducible rfl
          rotate_left
          ·simp only [Act.put, List.setIfInBounds_toArray, List.set_cons_zero, List.set_cons_succ, i64_w, i32_w]
           rfl
          refine pure_ (i:=6) (N:=some 144) (v:=?_) (a':=?_) #[true,true,true,false,true,true,true,false,false] rfl rfl (any_of HT_.out (by kernel_rfl)) (fun _ _ _ h=>h) (Or.inl ⟨by rfl,?_⟩) ?_ ?_
          rotate_left
          ·intro w'
           go_simp
           with_reducible rfl
          rotate_left
          ·simp only [Act.put, List.setIfInBounds_toArray, List.set_cons_zero, List.set_cons_succ, i64_w, i32_w]
           rfl
          refine take_ (i:=3) (N:=some 141) (v:=?_) (a':=?_) #[true,true,true,true,true,true,true,false,false] rfl rfl (take_ofW HT_.out HW_.out (by kernel_rfl)) (fun _ _ _ h=>h) (Or.inl ⟨by rfl,?_⟩) hHeld ?_ ?_
          rotate_left
          ·rintro w' ⟨s0, s1⟩
           go_simp
           with_reducible rfl
          rotate_left
          ·simp only [Act.put, List.setIfInBounds_toArray, List.set_cons_zero, List.set_cons_succ, i64_w, i32_w]
           rfl
          refine take_ (i:=7) (N:=some 145) (v:=?_) (a':=?_) #[true,true,true,true,true,true,true,true,false] rfl rfl (take_ofW HT_.out HW_.out (by kernel_rfl)) (fun _ _ _ h=>h) (Or.inl ⟨by rfl,?_⟩) hHeld ?_ ?_
          rotate_left
          ·rintro w' ⟨s0, s1⟩
           go_simp
           with_reducible rfl
          rotate_left
          ·simp only [Act.put, List.setIfInBounds_toArray, List.set_cons_zero, List.set_cons_succ, i64_w, i32_w]
           rfl
          refine pure_ (i:=8) (N:=some 146) (v:=?_) (a':=?_) #[true,true,true,true,true,true,true,true,true] rfl rfl (any_of HT_.out (by kernel_rfl)) (fun _ _ _ h=>h) (Or.inl ⟨by rfl,?_⟩) ?_ ?_
          rotate_left
          ·intro w'
           go_simp
           with_reducible rfl
          rotate_left
          ·simp only [Act.put, List.setIfInBounds_toArray, List.set_cons_zero, List.set_cons_succ, i64_w, i32_w]
           rfl
          refine done_ (done_of HT_.out (by kernel_rfl)) ?_
          try go_wp2
          have n0_:=Aside0.mk (Kd.R_drew HO_13.out)
          have n1_:=Aside0.mk (Kd.R_drew HO_17.out)
          have n2_:=Aside0.mk (bw1 HB.out)
          clear HO_13
          clear HO_17
          clear HB
          have HO_13:=n0_
          have HO_17:=n1_
          have HB:=n2_
          clear n0_ n1_ n2_
          have p506 : 0 ≤(x19_5 : Int):=of_decide_eq_true (by first |(with_reducible assumption) | assumption)
          have q506 : x19_5 < (t491.length : Int):=of_decide_eq_true (by first |(with_reducible assumption) | assumption)
          obtain ⟨ad506,e506,hx506_0⟩:=Kd.at_int (Kd.R_reads' HO_13.out).2.2 x19_5 p506 q506
          obtain rfl : ad504 = ad506:=(by injection e506)
          replace p506:=eq_true p506
          replace q506:=eq_true q506
          have p507 : 0 ≤(x19_5 : Int):=of_decide_eq_true (by first |(with_reducible assumption) | assumption)
          have q507 : x19_5 < (t500.length : Int):=of_decide_eq_true (by first |(with_reducible assumption) | assumption)
          obtain ⟨ad507,e507,hx507_0⟩:=Kd.at_int (Kd.R_reads' HO_17.out).2.2 x19_5 p507 q507
          obtain rfl : ad505 = ad507:=(by injection e507)
          replace p507:=eq_true p507
          replace q507:=eq_true q507
          refine start_ (n:=13) (S:=fun w'=>w'.cell? (ad504.add (x19_5).toNat) = some (.int .i64 (rd t491 x19_5))∧w'.cell? (ad505.add (x19_5).toNat) = some (.int .i64 (rd t500 x19_5))) (ds:=[]) #[false,false,false,false,false,false,false,false,false,false,false,false,false] (by kernel_rfl) rfl rfl ⟨hx506_0,hx507_0⟩ (fun hHeld=>?_);refine with_tabW w10_TurnsGroupSteps.tab28 w10_TurnsGroupSteps.bits28 (fun HT_ HW_=>?_)
          generalize w61.drew = w63 at HO_13 HO_17 HB hx506_0 hx507_0 hHeld ⊢
          refine pure_ (i:=0) (N:=some 147) (v:=?_) (a':=?_) #[true,false,false,false,false,false,false,false,false,false,false,false,false] rfl rfl (any_of HT_.out (by kernel_rfl)) (fun _ _ _ h=>h) (Or.inl ⟨by rfl,?_⟩) ?_ ?_
          rotate_left
          ·intro w'
           go_simp
           with_reducible rfl
          rotate_left
          ·simp only [Act.put, List.setIfInBounds_toArray, List.set_cons_zero, List.set_cons_succ, i64_w, i32_w]
           rfl
          refine pure_ (i:=1) (N:=some 148) (v:=?_) (a':=?_) #[true,true,false,false,false,false,false,false,false,false,false,false,false] rfl rfl (any_of HT_.out (by kernel_rfl)) (fun _ _ _ h=>h) (Or.inl ⟨by rfl,?_⟩) ?_ ?_
          rotate_left
          ·intro w'
           go_simp
           with_reducible rfl
          rotate_left
          ·simp only [Act.put, List.setIfInBounds_toArray, List.set_cons_zero, List.set_cons_succ, i64_w, i32_w]
           rfl
          refine pure_ (i:=2) (N:=some 149) (v:=?_) (a':=?_) #[true,true,true,false,false,false,false,false,false,false,false,false,false] rfl rfl (any_of HT_.out (by kernel_rfl)) (fun _ _ _ h=>h) (Or.inl ⟨by rfl,?_⟩) ?_ ?_
          rotate_left
          ·intro w'
           go_simp
           with_reducible rfl
          rotate_left
          ·simp only [Act.put, List.setIfInBounds_toArray, List.set_cons_zero, List.set_cons_succ, i64_w, i32_w]
           rfl
          refine pure_ (i:=4) (N:=some 151) (v:=?_) (a':=?_) #[true,true,true,false,true,false,false,false,false,false,false,false,false] rfl rfl (any_of HT_.out (by kernel_rfl)) (fun _ _ _ h=>h) (Or.inl ⟨by rfl,?_⟩) ?_ ?_
          rotate_left
          ·intro w'
           go_simp
           with_reducible rfl
          rotate_left
          ·simp only [Act.put, List.setIfInBounds_toArray, List.set_cons_zero, List.set_cons_succ, i64_w, i32_w]
           rfl
          refine pure_ (i:=5) (N:=some 152) (v:=?_) (a':=?_) #[true,true,true,false,true,true,false,false,false,false,false,false,false] rfl rfl (any_of HT_.out (by kernel_rfl)) (fun _ _ _ h=>h) (Or.inl ⟨by rfl,?_⟩) ?_ ?_
          rotate_left
          ·intro w'
           go_simp
           with_reducible rfl
          rotate_left
          ·simp only [Act.put, List.setIfInBounds_toArray, List.set_cons_zero, List.set_cons_succ, i64_w, i32_w]
           rfl
          refine pure_ (i:=6) (N:=some 153) (v:=?_) (a':=?_) #[true,true,true,false,true,true,true,false,false,false,false,false,false] rfl rfl (any_of HT_.out (by kernel_rfl)) (fun _ _ _ h=>h) (Or.inl ⟨by rfl,?_⟩) ?_ ?_
          rotate_left
          ·intro w'
           go_simp
           with_reducible rfl
          rotate_left
          ·simp only [Act.put, List.setIfInBounds_toArray, List.set_cons_zero, List.set_cons_succ, i64_w, i32_w]
           rfl
          refine take_ (i:=3) (N:=some 150) (v:=?_) (a':=?_) #[true,true,true,true,true,true,true,false,false,false,false,false,false] rfl rfl (take_ofW HT_.out HW_.out (by kernel_rfl)) (fun _ _ _ h=>h) (Or.inl ⟨by rfl,?_⟩) hHeld ?_ ?_
          rotate_left
          ·rintro w' ⟨s0, s1⟩
           go_simp
           with_reducible rfl
          rotate_left
          ·simp only [Act.put, List.setIfInBounds_toArray, List.set_cons_zero, List.set_cons_succ, i64_w, i32_w]
           rfl
          refine take_ (i:=7) (N:=some 154) (v:=?_) (a':=?_) #[true,true,true,true,true,true,true,true,false,false,false,false,false] rfl rfl (take_ofW HT_.out HW_.out (by kernel_rfl)) (fun _ _ _ h=>h) (Or.inl ⟨by rfl,?_⟩) hHeld ?_ ?_
          rotate_left
          ·rintro w' ⟨s0, s1⟩
           go_simp
           with_reducible rfl
          rotate_left
          ·simp only [Act.put, List.setIfInBounds_toArray, List.set_cons_zero, List.set_cons_succ, i64_w, i32_w]
           rfl
          refine pure_ (i:=8) (N:=some 155) (v:=?_) (a':=?_) #[true,true,true,true,true,true,true,true,true,false,false,false,false] rfl rfl (any_of HT_.out (by kernel_rfl)) (fun _ _ _ h=>h) (Or.inl ⟨by rfl,?_⟩) ?_ ?_
          rotate_left
          ·intro w'
           go_simp
           with_reducible rfl
          rotate_left
          ·simp only [Act.put, List.setIfInBounds_toArray, List.set_cons_zero, List.set_cons_succ, i64_w, i32_w]
           rfl
          refine pure_ (i:=9) (N:=some 156) (v:=?_) (a':=?_) #[true,true,true,true,true,true,true,true,true,true,false,false,false] rfl rfl (any_of HT_.out (by kernel_rfl)) (fun _ _ _ h=>h) (Or.inl ⟨by rfl,?_⟩) ?_ ?_
          rotate_left
          ·intro w'
           go_simp
           with_reducible rfl
          rotate_left
          ·simp only [Act.put, List.setIfInBounds_toArray, List.set_cons_zero, List.set_cons_succ, i64_w, i32_w]
           rfl
          refine pure_ (i:=10) (N:=some 157) (v:=undef) (a':=?_) #[true,true,true,true,true,true,true,true,true,true,true,false,false] rfl rfl (any_of HT_.out (by kernel_rfl)) (fun _ _ _ h=>h) (Or.inr ⟨by rfl,rfl⟩) ?_ ?_
          rotate_left
          ·simp only [Act.put, List.setIfInBounds_toArray, List.set_cons_zero, List.set_cons_succ, i64_w, i32_w]
           rfl
          refine pure_ (i:=11) (N:=some 158) (v:=?_) (a':=?_) #[true,true,true,true,true,true,true,true,true,true,true,true,false] rfl rfl (any_of HT_.out (by kernel_rfl)) (fun _ _ _ h=>h) (Or.inl ⟨by rfl,?_⟩) ?_ ?_
          rotate_left
          ·intro w'
           go_simp
           with_reducible rfl
          rotate_left
          ·simp only [Act.put, List.setIfInBounds_toArray, List.set_cons_zero, List.set_cons_succ, i64_w, i32_w]
           rfl
          refine pure_ (i:=12) (N:=some 4) (v:=?_) (a':=?_) #[true,true,true,true,true,true,true,true,true,true,true,true,true] rfl rfl (any_of HT_.out (by kernel_rfl)) (fun _ _ _ h=>h) (Or.inl ⟨by rfl,?_⟩) ?_ ?_
          rotate_left
          ·intro w'
           go_simp
           with_reducible rfl
          rotate_left
          ·simp only [Act.put, List.setIfInBounds_toArray, List.set_cons_zero, List.set_cons_succ, i64_w, i32_w]
           rfl
          refine done_ (done_of HT_.out (by kernel_rfl)) ?_
          try go_wp2
          go_ret
          exact⟨by first | rfl |(simp [errW_none,errW_some] <;> rfl) |(simp [*,errW_none,errW_some] <;> rfl),by repeat(first |(with_reducible first | exact HB.out | apply bwA | apply bwN | apply bw1) | exact HB.out)⟩
         rw [if_pos c55] at H
         have c55b0 : decide ((rd t491 x19_5) < (rd t500 x19_5)) = true:=decide_eq_true c55
         clear c55
         replace H:=Option.bind_eq_some_iff.mp H
         obtain ⟨t508,A560,H⟩:=H
         replace H :(some t508) = some r:=H
         have A56:=Aside0.mk A560
         clear A560
         obtain rfl:=Option.some.inj H
         try go_wp2
         have n0_:=Aside0.mk (Kd.R_drew HO_13.out)
         have n1_:=Aside0.mk (Kd.R_drew HO_17.out)
         have n2_:=Aside0.mk (bw1 HB.out)
         clear HO_13
         clear HO_17
         clear HB
         have HO_13:=n0_
         have HO_17:=n1_
         have HB:=n2_
         clear n0_ n1_ n2_
         have p504 : 0 ≤(x19_5 : Int):=of_decide_eq_true (by first |(with_reducible assumption) | assumption)
         have q504 : x19_5 < (t491.length : Int):=of_decide_eq_true (by first |(with_reducible assumption) | assumption)
         obtain ⟨ad504,e504,hx504_0⟩:=Kd.at_int (Kd.R_reads' HO_13.out).2.2 x19_5 p504 q504
         cases e504
         replace p504:=eq_true p504
         replace q504:=eq_true q504
         obtain ⟨Ao58,co58,eo58⟩:=Kd.R_slice HO_17.out
         (first | subst eo58 |(injection eo58 with f1_ f2_ f3_;have f4_:=f1_.symm;have f5_:=f3_.symm;clear f1_ f2_ f3_;subst f4_;subst f5_))
         have p505 : 0 ≤(x19_5 : Int):=of_decide_eq_true (by first |(with_reducible assumption) | assumption)
         have q505 : x19_5 < (t500.length : Int):=of_decide_eq_true (by first |(with_reducible assumption) | assumption)
         obtain ⟨ad505,e505,hx505_0⟩:=Kd.at_int (Kd.R_reads' HO_17.out).2.2 x19_5 p505 q505
         cases e505
         replace p505:=eq_true p505
         replace q505:=eq_true q505
         refine start_ (n:=9) (S:=fun w'=>w'.cell? (ad504.add (x19_5).toNat) = some (.int .i64 (rd t491 x19_5))∧w'.cell? (ad505.add (x19_5).toNat) = some (.int .i64 (rd t500 x19_5))) (ds:=[]) #[false,false,false,false,false,false,false,false,false] (by kernel_rfl) rfl rfl ⟨hx504_0,hx505_0⟩ (fun hHeld=>?_);refine with_tabW w10_TurnsGroupSteps.tab27 w10_TurnsGroupSteps.bits27 (fun HT_ HW_=>?_)
         generalize wr.drew = w57 at HO_13 HO_17 HB hx504_0 hx505_0 hHeld ⊢
         refine pure_ (i:=0) (N:=some 138) (v:=?_) (a':=?_) #[true,false,false,false,false,false,false,false,false] rfl rfl (any_of HT_.out (by kernel_rfl)) (fun _ _ _ h=>h) (Or.inl ⟨by rfl,?_⟩) ?_ ?_
         rotate_left
         ·intro w'
          go_simp
          with_reducible rfl
         rotate_left
         ·simp only [Act.put, List.setIfInBounds_toArray, List.set_cons_zero, List.set_cons_succ, i64_w, i32_w]
          rfl
         refine pure_ (i:=1) (N:=some 139) (v:=?_) (a':=?_) #[true,true,false,false,false,false,false,false,false] rfl rfl (any_of HT_.out (by kernel_rfl)) (fun _ _ _ h=>h) (Or.inl ⟨by rfl,?_⟩) ?_ ?_
         rotate_left
         ·intro w'
          go_simp
          with_reducible rfl
         rotate_left
         ·simp only [Act.put, List.setIfInBounds_toArray, List.set_cons_zero, List.set_cons_succ, i64_w, i32_w]
          rfl
         refine pure_ (i:=2) (N:=some 140) (v:=?_) (a':=?_) #[true,true,true,false,false,false,false,false,false] rfl rfl (any_of HT_.out (by kernel_rfl)) (fun _ _ _ h=>h) (Or.inl ⟨by rfl,?_⟩) ?_ ?_
         rotate_left
         ·intro w'
          go_simp
          with_reducible rfl
         rotate_left
         ·simp only [Act.put, List.setIfInBounds_toArray, List.set_cons_zero, List.set_cons_succ, i64_w, i32_w]
          rfl
         refine pure_ (i:=4) (N:=some 142) (v:=?_) (a':=?_) #[true,true,true,false,true,false,false,false,false] rfl rfl (any_of HT_.out (by kernel_rfl)) (fun _ _ _ h=>h) (Or.inl ⟨by rfl,?_⟩) ?_ ?_
         rotate_left
         ·intro w'
          go_simp
          with_reducible rfl
         rotate_left
         ·simp only [Act.put, List.setIfInBounds_toArray, List.set_cons_zero, List.set_cons_succ, i64_w, i32_w]
          rfl
         refine pure_ (i:=5) (N:=some 143) (v:=?_) (a':=?_) #[true,true,true,false,true,true,false,false,false] rfl rfl (any_of HT_.out (by kernel_rfl)) (fun _ _ _ h=>h) (Or.inl ⟨by rfl,?_⟩) ?_ ?_
         rotate_left
         ·intro w'
          go_simp
          with_reducible rfl
         rotate_left
         ·simp only [Act.put, List.setIfInBounds_toArray, List.set_cons_zero, List.set_cons_succ, i64_w, i32_w]
          rfl
         refine pure_ (i:=6) (N:=some 144) (v:=?_) (a':=?_) #[true,true,true,false,true,true,true,false,false] rfl rfl (any_of HT_.out (by kernel_rfl)) (fun _ _ _ h=>h) (Or.inl ⟨by rfl,?_⟩) ?_ ?_
         rotate_left
         ·intro w'
          go_simp
          with_reducible rfl
         rotate_left
         ·simp only [Act.put, List.setIfInBounds_toArray, List.set_cons_zero, List.set_cons_succ, i64_w, i32_w]
          rfl
         refine take_ (i:=3) (N:=some 141) (v:=?_) (a':=?_) #[true,true,true,true,true,true,true,false,false] rfl rfl (take_ofW HT_.out HW_.out (by kernel_rfl)) (fun _ _ _ h=>h) (Or.inl ⟨by rfl,?_⟩) hHeld ?_ ?_
         rotate_left
         ·rintro w' ⟨s0, s1⟩
          go_simp
          with_reducible rfl
         rotate_left
         ·simp only [Act.put, List.setIfInBounds_toArray, List.set_cons_zero, List.set_cons_succ, i64_w, i32_w]
          rfl
         refine take_ (i:=7) (N:=some 145) (v:=?_) (a':=?_) #[true,true,true,true,true,true,true,true,false] rfl rfl (take_ofW HT_.out HW_.out (by kernel_rfl)) (fun _ _ _ h=>h) (Or.inl ⟨by rfl,?_⟩) hHeld ?_ ?_
         rotate_left
         ·rintro w' ⟨s0, s1⟩
          go_simp
          with_reducible rfl
         rotate_left
         ·simp only [Act.put, List.setIfInBounds_toArray, List.set_cons_zero, List.set_cons_succ, i64_w, i32_w]
          rfl
         refine pure_ (i:=8) (N:=some 146) (v:=?_) (a':=?_) #[true,true,true,true,true,true,true,true,true] rfl rfl (any_of HT_.out (by kernel_rfl)) (fun _ _ _ h=>h) (Or.inl ⟨by rfl,?_⟩) ?_ ?_
         rotate_left
         ·intro w'
          go_simp
          with_reducible rfl
         rotate_left
         ·simp only [Act.put, List.setIfInBounds_toArray, List.set_cons_zero, List.set_cons_succ, i64_w, i32_w]
          rfl
         refine done_ (done_of HT_.out (by kernel_rfl)) ?_
         try go_wp2
         have n0_:=Aside0.mk (Kd.R_drew HO_13.out)
         have n1_:=Aside0.mk (Kd.R_drew HO_17.out)
         have n2_:=Aside0.mk (bw1 HB.out)
         clear HO_13
         clear HO_17
         clear HB
         have HO_13:=n0_
         have HO_17:=n1_
         have HB:=n2_
         clear n0_ n1_ n2_
         have p506 : 0 ≤(x19_5 : Int):=of_decide_eq_true (by first |(with_reducible assumption) | assumption)
         have q506 : x19_5 < (t491.length : Int):=of_decide_eq_true (by first |(with_reducible assumption) | assumption)
         obtain ⟨ad506,e506,hx506_0⟩:=Kd.at_int (Kd.R_reads' HO_13.out).2.2 x19_5 p506 q506
         obtain rfl : ad504 = ad506:=(by injection e506)
         replace p506:=eq_true p506
         replace q506:=eq_true q506
         have p507 : 0 ≤(x19_5 : Int):=of_decide_eq_true (by first |(with_reducible assumption) | assumption)
         have q507 : x19_5 < (t500.length : Int):=of_decide_eq_true (by first |(with_reducible assumption) | assumption)
         obtain ⟨ad507,e507,hx507_0⟩:=Kd.at_int (Kd.R_reads' HO_17.out).2.2 x19_5 p507 q507
         obtain rfl : ad505 = ad507:=(by injection e507)
         replace p507:=eq_true p507
         replace q507:=eq_true q507
         refine start_ (n:=13) (S:=fun w'=>w'.cell? (ad504.add (x19_5).toNat) = some (.int .i64 (rd t491 x19_5))∧w'.cell? (ad505.add (x19_5).toNat) = some (.int .i64 (rd t500 x19_5))) (ds:=[]) #[false,false,false,false,false,false,false,false,false,false,false,false,false] (by kernel_rfl) rfl rfl ⟨hx506_0,hx507_0⟩ (fun hHeld=>?_);refine with_tabW w10_TurnsGroupSteps.tab28 w10_TurnsGroupSteps.bits28 (fun HT_ HW_=>?_)
         generalize w57.drew = w59 at HO_13 HO_17 HB hx506_0 hx507_0 hHeld ⊢
         refine pure_ (i:=0) (N:=some 147) (v:=?_) (a':=?_) #[true,false,false,false,false,false,false,false,false,false,false,false,false] rfl rfl (any_of HT_.out (by kernel_rfl)) (fun _ _ _ h=>h) (Or.inl ⟨by rfl,?_⟩) ?_ ?_
         rotate_left
         ·intro w'
          go_simp
          with_reducible rfl
         rotate_left
         ·simp only [Act.put, List.setIfInBounds_toArray, List.set_cons_zero, List.set_cons_succ, i64_w, i32_w]
          rfl
         refine pure_ (i:=1) (N:=some 148) (v:=?_) (a':=?_) #[true,true,false,false,false,false,false,false,false,false,false,false,false] rfl rfl (any_of HT_.out (by kernel_rfl)) (fun _ _ _ h=>h) (Or.inl ⟨by rfl,?_⟩) ?_ ?_
         rotate_left
         ·intro w'
          go_simp
          with_reducible rfl
         rotate_left
         ·simp only [Act.put, List.setIfInBounds_toArray, List.set_cons_zero, List.set_cons_succ, i64_w, i32_w]
          rfl
         refine pure_ (i:=2) (N:=some 149) (v:=?_) (a':=?_) #[true,true,true,false,false,false,false,false,false,false,false,false,false] rfl rfl (any_of HT_.out (by kernel_rfl)) (fun _ _ _ h=>h) (Or.inl ⟨by rfl,?_⟩) ?_ ?_
         rotate_left
         ·intro w'
          go_simp
          with_reducible rfl
         rotate_left
         ·simp only [Act.put, List.setIfInBounds_toArray, List.set_cons_zero, List.set_cons_succ, i64_w, i32_w]
          rfl
         refine pure_ (i:=4) (N:=some 151) (v:=?_) (a':=?_) #[true,true,true,false,true,false,false,false,false,false,false,false,false] rfl rfl (any_of HT_.out (by kernel_rfl)) (fun _ _ _ h=>h) (Or.inl ⟨by rfl,?_⟩) ?_ ?_
         rotate_left
         ·intro w'
          go_simp
          with_reducible rfl
         rotate_left
         ·simp only [Act.put, List.setIfInBounds_toArray, List.set_cons_zero, List.set_cons_succ, i64_w, i32_w]
          rfl
         refine pure_ (i:=5) (N:=some 152) (v:=?_) (a':=?_) #[true,true,true,false,true,true,false,false,false,false,false,false,false] rfl rfl (any_of HT_.out (by kernel_rfl)) (fun _ _ _ h=>h) (Or.inl ⟨by rfl,?_⟩) ?_ ?_
         rotate_left
         ·intro w'
          go_simp
          with_reducible rfl
         rotate_left
         ·simp only [Act.put, List.setIfInBounds_toArray, List.set_cons_zero, List.set_cons_succ, i64_w, i32_w]
          rfl
         refine pure_ (i:=6) (N:=some 153) (v:=?_) (a':=?_) #[true,true,true,false,true,true,true,false,false,false,false,false,false] rfl rfl (any_of HT_.out (by kernel_rfl)) (fun _ _ _ h=>h) (Or.inl ⟨by rfl,?_⟩) ?_ ?_
         rotate_left
         ·intro w'
          go_simp
          with_reducible rfl
         rotate_left
         ·simp only [Act.put, List.setIfInBounds_toArray, List.set_cons_zero, List.set_cons_succ, i64_w, i32_w]
          rfl
         refine take_ (i:=3) (N:=some 150) (v:=?_) (a':=?_) #[true,true,true,true,true,true,true,false,false,false,false,false,false] rfl rfl (take_ofW HT_.out HW_.out (by kernel_rfl)) (fun _ _ _ h=>h) (Or.inl ⟨by rfl,?_⟩) hHeld ?_ ?_
         rotate_left
         ·rintro w' ⟨s0, s1⟩
          go_simp
          with_reducible rfl
         rotate_left
         ·simp only [Act.put, List.setIfInBounds_toArray, List.set_cons_zero, List.set_cons_succ, i64_w, i32_w]
          rfl
         refine take_ (i:=7) (N:=some 154) (v:=?_) (a':=?_) #[true,true,true,true,true,true,true,true,false,false,false,false,false] rfl rfl (take_ofW HT_.out HW_.out (by kernel_rfl)) (fun _ _ _ h=>h) (Or.inl ⟨by rfl,?_⟩) hHeld ?_ ?_
         rotate_left
         ·rintro w' ⟨s0, s1⟩
          go_simp
          with_reducible rfl
         rotate_left
         ·simp only [Act.put, List.setIfInBounds_toArray, List.set_cons_zero, List.set_cons_succ, i64_w, i32_w]
          rfl
         refine pure_ (i:=8) (N:=some 155) (v:=?_) (a':=?_) #[true,true,true,true,true,true,true,true,true,false,false,false,false] rfl rfl (any_of HT_.out (by kernel_rfl)) (fun _ _ _ h=>h) (Or.inl ⟨by rfl,?_⟩) ?_ ?_
         rotate_left
         ·intro w'
          go_simp
          with_reducible rfl
         rotate_left
         ·simp only [Act.put, List.setIfInBounds_toArray, List.set_cons_zero, List.set_cons_succ, i64_w, i32_w]
          rfl
         refine pure_ (i:=9) (N:=some 156) (v:=?_) (a':=?_) #[true,true,true,true,true,true,true,true,true,true,false,false,false] rfl rfl (any_of HT_.out (by kernel_rfl)) (fun _ _ _ h=>h) (Or.inl ⟨by rfl,?_⟩) ?_ ?_
         rotate_left
         ·intro w'
          go_simp
          with_reducible rfl
         rotate_left
         ·simp only [Act.put, List.setIfInBounds_toArray, List.set_cons_zero, List.set_cons_succ, i64_w, i32_w]
          rfl
         refine one_ (i:=10) (N:=some 157) #[true,true,true,true,true,true,true,true,true,true,true,false,false] rfl rfl (one_of HT_.out (by kernel_rfl)) (by decide) (fun K hK=>?_)
         refine goes_ Try.func20 (by kernel_rfl) rfl #[] (by rfl) rfl rfl (by(try simp only [List.map_toArray,List.map_cons,List.map_nil]);first | done | rfl |(simp only [List.length_drop,List.length_take];rfl)) ?_
         with_reducible refine(w10_awake.calls k5  t508 _ A56.out).mono ?_
         rintro e w60 ⟨rfl,hb⟩
         have HS0_:=(hb.cell (World.block_lt_of_cell? _ _ (hHeld.1))).trans (hHeld.1)
         have HS1_:=(hb.cell (World.block_lt_of_cell? _ _ (hHeld.2))).trans (hHeld.2)
         refine⟨_,rfl,?_⟩
         have n0_:=Aside0.mk (Kd.R_below (by(with_reducible repeat(first | apply Kd.R_alloc | apply Kd.R_drewN | apply Kd.R_drew));exact HO_13.out) hb)
         have n1_:=Aside0.mk (Kd.R_below (by(with_reducible repeat(first | apply Kd.R_alloc | apply Kd.R_drewN | apply Kd.R_drew));exact HO_17.out) hb)
         have n2_:=Aside0.mk (bwT (by repeat(first |(with_reducible first | exact HB.out | apply bwA | apply bwN | apply bw1) | exact HB.out)) hb)
         clear HO_13
         clear HO_17
         clear HB
         have HO_13:=n0_
         have HO_17:=n1_
         have HB:=n2_
         clear n0_ n1_ n2_
         (try clear hb)
         (try clear hb2)
         (try clear hk)
         (try clear hi)
         refine hK.out _ _ ⟨HS0_,HS1_⟩ (fun hHeld=>?_)
         clear hK K
         refine norm_ (a':=?_) ?_ ?_
         rotate_left
         ·show Act.put _ (some 157) _ = _
          simp only [Act.put,List.setIfInBounds_toArray,List.set_cons_zero,List.set_cons_succ,i64_w,i32_w]
          rfl
         refine pure_ (i:=11) (N:=some 158) (v:=?_) (a':=?_) #[true,true,true,true,true,true,true,true,true,true,true,true,false] rfl rfl (any_of HT_.out (by kernel_rfl)) (fun _ _ _ h=>h) (Or.inl ⟨by rfl,?_⟩) ?_ ?_
         rotate_left
         ·intro w'
          go_simp
          with_reducible rfl
         rotate_left
         ·simp only [Act.put, List.setIfInBounds_toArray, List.set_cons_zero, List.set_cons_succ, i64_w, i32_w]
          rfl
         refine pure_ (i:=12) (N:=some 4) (v:=?_) (a':=?_) #[true,true,true,true,true,true,true,true,true,true,true,true,true] rfl rfl (any_of HT_.out (by kernel_rfl)) (fun _ _ _ h=>h) (Or.inl ⟨by rfl,?_⟩) ?_ ?_
         rotate_left
         ·intro w'
          go_simp
          with_reducible rfl
         rotate_left
         ·simp only [Act.put, List.setIfInBounds_toArray, List.set_cons_zero, List.set_cons_succ, i64_w, i32_w]
          rfl
         refine done_ (done_of HT_.out (by kernel_rfl)) ?_
         try go_wp2
         go_ret
         exact⟨by first | rfl |(simp [errW_none,errW_some] <;> rfl) |(simp [*,errW_none,errW_some] <;> rfl),by repeat(first |(with_reducible first | exact HB.out | apply bwA | apply bwN | apply bw1) | exact HB.out)⟩
/-- THE ONE PURE STATEMENT of w10_TurnsGroupSteps: yours. -/
def w10_TurnsGroupSteps.Pure : Prop:=∀ (a0 : Int) (a1 : Int),(Lit.int .i64 a0).wf = true →(Lit.int .i64 a1).wf = true→∃ k,w10_TurnsGroupSteps.f k a0 a1 = some true
theorem w10_TurnsGroupSteps.walk (P : w10_TurnsGroupSteps.Pure) (a0 : Int) (a1 : Int) (w : World) (w0 : (Lit.int .i64 a0).wf = true) (w1 : (Lit.int .i64 a1).wf = true) :
  Calls Try.prog 12 #[.int .i64 a0,.int .i64 a1] w fun e w'=>e = .returned (.bool true)∧Below w.heap.size w w':=by
 obtain ⟨k,h⟩:=P a0 a1 w0 w1
 refine(w10_TurnsGroupSteps.calls k a0 a1 true w h).mono ?_
 rintro e w' ⟨rfl,hd⟩
 exact⟨rfl,hd⟩
end Go.Proofs.Ytbfhlaggllofdaa.S

namespace Go.Proofs.Ytbfhlaggllofdaa.P
open Go.RowKit Go.Proofs.Ytbfhlaggllofdaa.S Go.Proofs.YtbfhlaggllofdaaW.PrintWords Go.Proofs.YtbfhlaggllofdaaW.PrintLast Go.Proofs.YtbfhlaggllofdaaW.PrintMore
set_option linter.unusedVariables false
theorem ints_loop (a b : List Int) (he : a.length = b.length) (hl : a.length≤1000) : ∀ d i : Nat,i + d = a.length→Ev (fun k=>w10_ints.l0 k a b (i : Int)) (decide (a.drop i = b.drop i)):=by
 intro d
 induction d with
 | zero =>
  intro i h
  rw [List.drop_eq_nil_of_le (by omega),List.drop_eq_nil_of_le (by omega),decide_eq_true rfl]
  refine Ev.step (f:=fun _=>some true) (fun k=>?_) (Ev.now _)
  simp only [w10_ints.l0]
  rw [if_neg (by omega)]
 | succ d ih =>
  intro i h
  have w : wrap64 ((i : Int) + 1) =((i + 1 : Nat) : Int):=by rw [w64 (by omega) (by omega)];rfl
  have ea:=drop_cons a i (by omega)
  have eb:=drop_cons b i (by omega)
  by_cases c : rd a (i : Int) = rd b (i : Int)
  rotate_left
  ·have e : decide (a.drop i = b.drop i) = false := decide_eq_false (by rw [ea, eb]; simp [c])
   rw [e]
   refine Ev.step (f:=fun _=>some false) (fun k=>?_) (Ev.now _)
   simp only [w10_ints.l0]
   rw [if_pos (by omega),if_pos (by omega),if_pos (by omega),if_neg c]
  have e : decide (a.drop i = b.drop i) = decide (a.drop (i + 1) = b.drop (i + 1)):=by rw [ea,eb,c];simp
  rw [e]
  refine Ev.step (fun k=>?_) (ih (i + 1) (by omega))
  simp only [w10_ints.l0]
  rw [if_pos (by omega),if_pos (by omega),if_pos (by omega),if_pos c,w]
theorem ints_ev (a b : List Int) (hl : a.length≤1000) : Ev (fun k=>w10_ints.f k a b) (decide (a = b)):=by
 by_cases c : a.length = b.length
 ·refine Ev.congr (fun k => ?_) (ints_loop a b c hl a.length 0 (by omega))
  unfold w10_ints.f
  rw [if_pos (by omega)]
  rfl
 rw [decide_eq_false (fun h=>c (by rw [h]))]
 refine Ev.congr (fun k=>?_) (Ev.now _)
 unfold w10_ints.f
 rw [if_neg (by omega)]
end Go.Proofs.Ytbfhlaggllofdaa.P

namespace Go.Proofs.Ytbfhlaggllofdaa.P
open Go.RowKit Go.Proofs.Ytbfhlaggllofdaa.S Go.Proofs.Ytbfhlaggllofdaa.G Go.Proofs.Ytbfhlaggllofdaa.T Go.Proofs.YtbfhlaggllofdaaW.PrintWords Go.Proofs.YtbfhlaggllofdaaW.PrintLast Go.Proofs.YtbfhlaggllofdaaW.PrintMore
set_option linter.unusedVariables false
theorem awake_ev : Ev (fun k=>w10_awake.f k) true:=by
 have e1 : turns_Set.f 2 2 = some ([1,2],0):=by kernel_rfl
 have e2 : turns_Choice.f 3 2 1 = some ([2,3],0):=by kernel_rfl
 have e3 : turns_Order.f 3 3 = some ([3,2,1],0):=by kernel_rfl
 have e4 : turns_Groupings.f 5 = some (52,0):=by kernel_rfl
 have e5 : turns_Setting.f [2,3] 3 = some ([1,2],0):=by kernel_rfl
 have i1:=ints_ev [1,2] [1,2] (by decide)
 have i2:=ints_ev [2,3] [2,3] (by decide)
 have i3:=ints_ev [3,2,1] [3,2,1] (by decide)
 rw [decide_eq_true rfl] at i1 i2 i3
 have hj : Ev (fun k=>w10_awake.j0 k false) true:=by
  refine Ev.step (f:=fun _=>some true) (fun k=>?_) (Ev.now _)
  simp only [w10_awake.j0]
  rw [if_neg (by decide)]
 refine Ev.congr (f:=fun k=>(w10_ints.f k [1,2] [1,2]).bind fun t=>(if t = true then((w10_ints.f k [2,3] [2,3]).bind fun t=>(if t = true then((w10_ints.f k [3,2,1] [3,2,1]).bind fun t=>(if t = true then((w10_ints.f k [1,2] [1,2]).bind fun t=>w10_awake.j0 k (!t)) else w10_awake.j0 k true)) else w10_awake.j0 k true)) else w10_awake.j0 k true)) (fun k=>?_) ?_
 ·unfold w10_awake.f
  rw [e1,e2,e3,e4,e5]
  rfl
 refine Ev.bind (f:=fun k (t : Bool)=>_) i1 ?_
 refine Ev.congr (fun k=>if_pos rfl) ?_
 refine Ev.bind (f:=fun k (t : Bool)=>_) i2 ?_
 refine Ev.congr (fun k=>if_pos rfl) ?_
 refine Ev.bind (f:=fun k (t : Bool)=>_) i3 ?_
 refine Ev.congr (fun k=>if_pos rfl) ?_
 exact Ev.bind (f:=fun k (t : Bool)=>_) i1 hj
theorem awake_some : Ev (fun k=>(w10_awake.f k).bind fun z=>some z) true:=Ev.congr (fun k=>by cases w10_awake.f k <;> rfl) awake_ev
end Go.Proofs.Ytbfhlaggllofdaa.P

namespace Go.Proofs.Ytbfhlaggllofdaa.P
open Go.RowKit Go.Proofs.Ytbfhlaggllofdaa.S Go.Proofs.YtbfhlaggllofdaaW.PrintWords Go.Proofs.YtbfhlaggllofdaaW.PrintLast Go.Proofs.YtbfhlaggllofdaaW.PrintMore
set_option linter.unusedVariables false
theorem u64_nonneg (a : Int) : 0≤IntKind.u64.wrap a:=by
 simp [IntKind.wrap,IntKind.signed,IntKind.bits]
 omega
theorem u64_id {a : Int} (h0 : 0≤a) (h1 : a≤9000000000000000000) : IntKind.u64.wrap a = a:=by
 simp [IntKind.wrap,IntKind.signed,IntKind.bits]
 omega
theorem mod_ok (a : Int) {b : Int} (b1 : 1≤b) (b2 : b≤9000000000000000000) : ∃ m,w10_mod.f a b = some m∧0≤m∧m < b:=by
 unfold w10_mod.f
 rw [u64_id (by omega) (by omega),if_neg (by omega),Int.tmod_eq_emod_of_nonneg (u64_nonneg a)]
 have h0:=Int.emod_nonneg (IntKind.u64.wrap a) (show b≠0 by omega)
 have h1:=Int.emod_lt_of_pos (IntKind.u64.wrap a) (show 0 < b by omega)
 rw [w64 (by omega) (by omega)]
 exact⟨_,rfl,h0,h1⟩
end Go.Proofs.Ytbfhlaggllofdaa.P

namespace Go.Proofs.Ytbfhlaggllofdaa.P
open Go.RowKit Go.Proofs.Ytbfhlaggllofdaa.S Go.Proofs.Ytbfhlaggllofdaa.G Go.Proofs.Ytbfhlaggllofdaa.T Go.Proofs.YtbfhlaggllofdaaW.PrintWords Go.Proofs.YtbfhlaggllofdaaW.PrintLast Go.Proofs.YtbfhlaggllofdaaW.PrintMore
set_option linter.unusedVariables false
theorem succ64 (i : Nat) (h : i≤1000) : wrap64 ((i : Int) + 1) =((i + 1 : Nat) : Int):=by rw [w64 (by omega) (by omega)];rfl
theorem mxm (a b : Int) : mx a b = max a b:=by
 unfold mx
 omega
theorem groupings_loop {l : List Int} (hl : l.length≤42) : ∀ e i u : Nat,i + e = l.length→u≤i→Ev (fun k=>q10_Groupings.l0 k l (u : Int) (i : Int)) (isGrpB (l.drop i) u && decide (l.length≤20)):=by
 intro e
 induction e with
 | zero =>
  intro i u h hu
  rw [List.drop_eq_nil_of_le (by omega)]
  refine Ev.step (f:=fun _=>some (decide (l.length≤20))) (fun k=>?_) (by show Ev _ (true && _);rw [Bool.true_and];exact Ev.now _)
  simp only [q10_Groupings.l0]
  rw [if_neg (by omega)]
  congr 1
  exact decide_eq_decide.2 ⟨fun h=>by omega,fun h=>by omega⟩
 | succ e ih =>
  intro i u h hu
  have ea:=drop_cons l i (by omega)
  have w1:=succ64 i (by omega)
  by_cases c : 0≤rd l (i : Int)∧rd l (i : Int) ≤(u : Int)
  rotate_left
  ·have hg : isGrpB (l.drop i) u = false:=by
    rw [ea];show(decide _ && _) = _;rw [decide_eq_false c,Bool.false_and]
   rw [hg,Bool.false_and]
   refine Ev.step (f:=fun _=>some false) (fun k=>?_) (Ev.now _)
   simp only [q10_Groupings.l0]
   rw [if_pos (by omega),if_pos (by omega)]
   by_cases c1 : rd l (i : Int) < 0
   ·rw [if_pos c1]
   rw [if_neg c1,if_pos (by omega)]
  have hg : isGrpB (l.drop i) u = isGrpB (l.drop (i + 1)) (max u ((rd l (i : Int)).toNat + 1)):=by
   rw [ea];show(decide _ && _) = _;rw [decide_eq_true c,Bool.true_and]
  rw [hg]
  have hx : mx (u : Int) (wrap64 (rd l (i : Int) + 1)) =((max u ((rd l (i : Int)).toNat + 1) : Nat) : Int):=by
   rw [w64 (by omega) (by omega),mxm]
   omega
  refine Ev.step (fun k=>?_) (ih (i + 1) (max u ((rd l (i : Int)).toNat + 1)) (by omega) (by omega))
  simp only [q10_Groupings.l0]
  rw [if_pos (by omega),if_pos (by omega),if_neg (by omega),if_neg (by omega),hx,w1]
theorem groupings_ev {l : List Int} (hl : l.length≤42) : Ev (fun k=>q10_Groupings.f k l) (decide (l.length≤20∧isGrpB l 0 = true)):=by
 have e : decide (l.length≤20∧isGrpB l 0 = true) =(isGrpB (l.drop 0) 0 && decide (l.length≤20)):=by
  rw [List.drop_zero]
  apply Bool.eq_iff_iff.2
  simp [and_comm]
 rw [e]
 exact groupings_loop hl l.length 0 0 (by omega) (by omega)
end Go.Proofs.Ytbfhlaggllofdaa.P
