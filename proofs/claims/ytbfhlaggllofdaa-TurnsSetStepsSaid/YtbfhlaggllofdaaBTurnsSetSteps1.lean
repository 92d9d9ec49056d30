-- Written by wip/bundle2.py: texts of this claim, one behind the other.
import Derived.Test.YtbfhlaggllofdaaBTurnsSetSteps0
set_option linter.unusedVariables false
set_option linter.unusedSimpArgs false

namespace Go.Proofs.Ytbfhlaggllofdaa.S
open Go.Proofs.Ytbfhlaggllofdaa.Lib
open Go.Maps (Keyed)
open Go.RowKit Go.Proofs.YtbfhlaggllofdaaW.PrintWords Go.Proofs.YtbfhlaggllofdaaW.PrintLast Go.Proofs.YtbfhlaggllofdaaW.PrintMore
attribute [local go_sem] max2_int min2_int max_two min_two max_three min_three max_four min_four
set_option linter.unusedVariables false
set_option linter.unusedSimpArgs false

open Go.Proofs.Ytbfhlaggllofdaa.G Go.Proofs.Ytbfhlaggllofdaa.T Go.Proofs.Ytbfhlaggllofdaa.P
def turns_order.f (a0 a1 : Int) : Option (List Int):=if 0≤a0∧a0≤18∧0≤a1∧a1 < fact a0.toNat then some (sjt a0.toNat a1) else none
set_option maxHeartbeats 2000000 in
set_option maxRecDepth 100000 in
theorem turns_order.calls (a0 a1 : Int) (r : List Int) (w : World) (h : turns_order.f a0 a1 = some r) :
  Calls Try.prog 65 #[.int .i64 a0,.int .i64 a1] w fun e w'=>∃ v0_ : Value,e = .returned v0_∧Kd.R (Kd.int .i64) 3 w' w.heap.size (fun _=>True) v0_ r∧Below w.heap.size w w':=by
 unfold turns_order.f at h
 by_cases c0 : 0≤a0∧a0≤18∧0≤a1∧a1 < fact a0.toNat
 rotate_left
 ·rw [if_neg c0] at h
  cases h
 rw [if_pos c0] at h
 injection h with h
 obtain ⟨n,rfl⟩ : ∃ n : Nat,a0 = n:=⟨a0.toNat,by omega⟩
 rw [show((n : Int)).toNat = n by omega] at c0 h
 have HN:=Aside0.mk (show n≤18 by omega)
 have HA:=Aside0.mk c0.2.2
 have HR:=Aside0.mk h
 have n0:=eq_true (show(0 : Int) ≤(n : Int) by omega)
 have n1:=eq_true (show(n : Int) < 19 by omega)
 clear c0 h
 have hi76 :(Try.prog.info? 76).map (·.size) = some (facA 19).size:=by rw [facA_end];kernel_rfl
 go_enter Try.func65,Try.ntmps65
 go_upto_region 2 with (fail)
 refine wp_region_lit ?_
 refine goesL_ (some 11) rfl rfl Try.func64 (by kernel_rfl) rfl #[] rfl (by simp) ?_
 refine(fac_new _).mono ?_
 rintro e w1 ⟨rfl,hb⟩
 refine⟨_,rfl,?_⟩
 have HB1:=Aside0.mk hb
 clear hb
 refine wpList_plain rfl (fun K hK=>?_)
 go_simp
 refine hK _ _ ?_
 clear hK
 refine wpList_store_row rfl 76 (.tmp 6) (.tmp 11) rfl w1.heap.size (facA 19) rfl rfl 76 #[.int .i64 0,.int .i64 0,.int .i64 0,.int .i64 0,.int .i64 0,.int .i64 0,.int .i64 0,.int .i64 0,.int .i64 0,.int .i64 0,.int .i64 0,.int .i64 0,.int .i64 0,.int .i64 0,.int .i64 0,.int .i64 0,.int .i64 0,.int .i64 0,.int .i64 0] (heap_alloc_new _ _) hi76 rfl (by rw [facA_end];kernel_rfl) ?_
 obtain ⟨W0,hW0⟩ : ∃ W0,(w1.alloc (.cells #[.int .i64 0,.int .i64 0,.int .i64 0,.int .i64 0,.int .i64 0,.int .i64 0,.int .i64 0,.int .i64 0,.int .i64 0,.int .i64 0,.int .i64 0,.int .i64 0,.int .i64 0,.int .i64 0,.int .i64 0,.int .i64 0,.int .i64 0,.int .i64 0,.int .i64 0] 76)).setRow w1.heap.size (facA 19) = W0:=⟨_,rfl⟩
 have HF:=Aside0.mk (show W0.heap[w1.heap.size]? = some (.cells (facA 19) 76 (0,0)) by rw [← hW0];exact setRow_heap _ _ _ _ _ _ (heap_alloc_new _ _))
 have HB0:=Aside0.mk (show Below w.heap.size w W0 by rw [← hW0];exact below_setRow (bwA HB1.out _) HB1.out.size _)
 have HSZ:=Aside0.mk (show w1.heap.size + 1≤W0.heap.size by have:=(Array.getElem?_eq_some_iff.1 HF.out).1;omega)
 rw [hW0]
 clear hW0 hi76
 refine wpList_nil ?_
 obtain ⟨B,hB⟩ : ∃ B,w1.heap.size = B:=⟨_,rfl⟩
 rw [hB] at HF HSZ ⊢
 have HBW:=Aside0.mk (show w.heap.size≤B by rw [← hB];exact HB1.out.size)
 clear hB HB1
 obtain ⟨N0,hN0⟩ : ∃ N0,B + 1 = N0:=⟨_,rfl⟩
 have HNS:=Aside0.mk (show N0≤W0.heap.size by rw [← hN0];exact HSZ.out)
 have HNB0:=Aside0.mk (show B < N0 by omega)
 clear hN0
 go_wp2
 go_loopw [5,13] (fun v5 v13 wr=>∃ (i : Nat) (t : Int),v13 = .int .i64 (i : Int)∧Aside0 (i≤n)∧Aside0 (a1 / (fact n / fact i) = t)∧Aside0 (wr.ownsRow N0 3 1 v5 i ((sjt i t).map (Value.int .i64)))∧Aside0 (Below N0 W0 wr)) (fun v5 v13 _=>n - (intOf v13).toNat)
 case atStart=>exact⟨0,_,rfl,⟨Nat.zero_le _⟩,⟨rfl⟩,⟨World.ownsRow_nil _ _ _ _⟩,⟨Below.refl _ _⟩⟩
 obtain ⟨i,t0,rfl,HI,HT,HO,HB⟩:=hrel
 by_cases c : i < n
 rotate_left
 ·obtain rfl : i = n := by have := HI.out; omega
  have cb : decide ((i : Int) < (i : Int)) = false:=decide_eq_false (by omega)
  have cb1 : decide (i < i) = false:=decide_eq_false (by omega)
  have hp:=fact_pos i
  have ht : t0 = a1:=by rw [← HT.out,Int.ediv_self (by omega),Int.ediv_one]
  have hr : sjt i t0 = r:=by rw [ht];exact HR.out
  subst hr
  have HO' : Aside0 (wr.ownsRow N0 3 1 u5 (sjt i t0).length ((sjt i t0).map (Value.int .i64))):=⟨by rw [sjt_len];exact HO.out⟩
  clear c hp ht HR HT HO
  go_wp2
  go_ret
  exact⟨_,rfl,Kd.R_lower (Kd.R_of_own HO'.out (fun k e=>trivial)) (Nat.le_trans HBW.out (Nat.le_of_lt HNB0.out)),HB0.out.trans (HB.out.mono (Nat.le_trans HBW.out (Nat.le_of_lt HNB0.out)))⟩
 have hn:=HN.out
 have cb : decide ((i : Int) < (n : Int)) = true:=decide_eq_true (by omega)
 have cb1 : decide (i < n) = true:=decide_eq_true c
 have i0:=eq_true (show(0 : Int) ≤(i : Int) + 1 by omega)
 have i1:=eq_true (show(i : Int) + 1 < 19 by omega)
 have i2 :((i : Int) + 1 == 0) = false:=beq_eq_false_iff_ne.2 (by omega)
 have i3:=eq_false (show ¬ ((i : Int) + 1 = 0) by omega)
 have wi : wrap64 ((i : Int) + 1) =(i : Int) + 1:=w64 (by omega) (by omega)
 have HMS:=Aside0.mk (show n - (intOf (.int .i64 ((i : Int) + 1))).toNat < n - (intOf (.int .i64 (i : Int))).toNat by show n - ((i : Int) + 1).toNat < n - ((i : Int)).toNat;omega)
 have HN18:=Aside0.mk (show i≤100 by omega)
 have HI1:=Aside0.mk (show i + 1≤n by omega)
 obtain ⟨F,M,D,q,t,p,u,eF,eM,eq,et,⟨f0,f1,f2,f3⟩,⟨g0,g1,g2,g3⟩,⟨k1,k2,k3⟩,hu,hpar,wu,hs⟩:=order_step HN.out c HA.out.1 HA.out.2
 obtain rfl : t = t0:=et.symm.trans HT.out
 have HU:=Aside0.mk hu
 have HS:=Aside0.mk hs
 have HQ:=Aside0.mk eq
 have lf : wr.cell? ⟨B,n,none⟩ = some (.int .i64 F):=by
  rw [HB.out.cell (p:=⟨B,n,none⟩) HNB0.out]
  exact(bkC HF.out n).trans ((facA_get (by omega)).trans (by rw [eF]))
 have lm : wr.cell? ⟨B,i + 1,none⟩ = some (.int .i64 M):=by
  rw [HB.out.cell (p:=⟨B,i + 1,none⟩) HNB0.out]
  exact(bkC HF.out (i + 1)).trans ((facA_get (by omega)).trans (by rw [eM]))
 clear hn hu hs eq et HT eF eM c HI
 rcases hpar with ⟨z1,z2⟩ |⟨z1,z2⟩
 ·have wz : wrap64 ((i : Int) - p) = (u : Int) := by rw [z2]; exact wu
  clear z2
  go_wp2
  refine start_ (n:=10) (S:=fun W'=>W'.cell? ⟨B,n,none⟩ = some (.int .i64 F)∧W'.cell? ⟨B,i + 1,none⟩ = some (.int .i64 M)) (ds:=[]) #[false,false,false,false,false,false,false,false,false,false] (by kernel_rfl) rfl rfl ⟨lf,lm⟩ (fun hHeld=>?_)
  first
  |(refine px_ (i:=0) (N:=some 18) (v:=?_) (a':=?_) #[true,false,false,false,false,false,false,false,false,false] rfl rfl (by kernel_rfl) (fun _ _ _ h=>h) ?_ ?_ ?_;rotate_left 2;(focus refine Or.inl ⟨by rfl,?_⟩;intro w';go_simp;with_reducible rfl);(focus simp only [List.getElem_toArray,List.getElem_cons_succ,List.getElem_cons_zero,Act.put,List.setIfInBounds_toArray,List.set_cons_zero,List.set_cons_succ,i64_w,i32_w];rfl))
  |(refine tx_ (i:=0) (N:=some 18) (v:=?_) (a':=?_) #[true,false,false,false,false,false,false,false,false,false] rfl rfl (by kernel_rfl) (fun _ _ _ h=>h) ?_ hHeld ?_ ?_;rotate_left 2;(focus refine Or.inl ⟨by rfl,?_⟩;rintro w' ⟨s0,s1⟩;go_simp;with_reducible rfl);(focus simp only [List.getElem_toArray,List.getElem_cons_succ,List.getElem_cons_zero,Act.put,List.setIfInBounds_toArray,List.set_cons_zero,List.set_cons_succ,i64_w,i32_w];rfl))
  first
  |(refine px_ (i:=1) (N:=some 19) (v:=?_) (a':=?_) #[true,true,false,false,false,false,false,false,false,false] rfl rfl (by kernel_rfl) (fun _ _ _ h=>h) ?_ ?_ ?_;rotate_left 2;(focus refine Or.inl ⟨by rfl,?_⟩;intro w';go_simp;with_reducible rfl);(focus simp only [List.getElem_toArray,List.getElem_cons_succ,List.getElem_cons_zero,Act.put,List.setIfInBounds_toArray,List.set_cons_zero,List.set_cons_succ,i64_w,i32_w];rfl))
  |(refine tx_ (i:=1) (N:=some 19) (v:=?_) (a':=?_) #[true,true,false,false,false,false,false,false,false,false] rfl rfl (by kernel_rfl) (fun _ _ _ h=>h) ?_ hHeld ?_ ?_;rotate_left 2;(focus refine Or.inl ⟨by rfl,?_⟩;rintro w' ⟨s0,s1⟩;go_simp;with_reducible rfl);(focus simp only [List.getElem_toArray,List.getElem_cons_succ,List.getElem_cons_zero,Act.put,List.setIfInBounds_toArray,List.set_cons_zero,List.set_cons_succ,i64_w,i32_w];rfl))
  first
  |(refine px_ (i:=2) (N:=some 20) (v:=?_) (a':=?_) #[true,true,true,false,false,false,false,false,false,false] rfl rfl (by kernel_rfl) (fun _ _ _ h=>h) ?_ ?_ ?_;rotate_left 2;(focus refine Or.inl ⟨by rfl,?_⟩;intro w';go_simp;with_reducible rfl);(focus simp only [List.getElem_toArray,List.getElem_cons_succ,List.getElem_cons_zero,Act.put,List.setIfInBounds_toArray,List.set_cons_zero,List.set_cons_succ,i64_w,i32_w];rfl))
  |(refine tx_ (i:=2) (N:=some 20) (v:=?_) (a':=?_) #[true,true,true,false,false,false,false,false,false,false] rfl rfl (by kernel_rfl) (fun _ _ _ h=>h) ?_ hHeld ?_ ?_;rotate_left 2;(focus refine Or.inl ⟨by rfl,?_⟩;rintro w' ⟨s0,s1⟩;go_simp;with_reducible rfl);(focus simp only [List.getElem_toArray,List.getElem_cons_succ,List.getElem_cons_zero,Act.put,List.setIfInBounds_toArray,List.set_cons_zero,List.set_cons_succ,i64_w,i32_w];rfl))
  first
  |(refine px_ (i:=3) (N:=some 21) (v:=?_) (a':=?_) #[true,true,true,true,false,false,false,false,false,false] rfl rfl (by kernel_rfl) (fun _ _ _ h=>h) ?_ ?_ ?_;rotate_left 2;(focus refine Or.inl ⟨by rfl,?_⟩;intro w';go_simp;with_reducible rfl);(focus simp only [List.getElem_toArray,List.getElem_cons_succ,List.getElem_cons_zero,Act.put,List.setIfInBounds_toArray,List.set_cons_zero,List.set_cons_succ,i64_w,i32_w];rfl))
  |(refine tx_ (i:=3) (N:=some 21) (v:=?_) (a':=?_) #[true,true,true,true,false,false,false,false,false,false] rfl rfl (by kernel_rfl) (fun _ _ _ h=>h) ?_ hHeld ?_ ?_;rotate_left 2;(focus refine Or.inl ⟨by rfl,?_⟩;rintro w' ⟨s0,s1⟩;go_simp;with_reducible rfl);(focus simp only [List.getElem_toArray,List.getElem_cons_succ,List.getElem_cons_zero,Act.put,List.setIfInBounds_toArray,List.set_cons_zero,List.set_cons_succ,i64_w,i32_w];rfl))
  first
  |(refine px_ (i:=4) (N:=some 22) (v:=?_) (a':=?_) #[true,true,true,true,true,false,false,false,false,false] rfl rfl (by kernel_rfl) (fun _ _ _ h=>h) ?_ ?_ ?_;rotate_left 2;(focus refine Or.inl ⟨by rfl,?_⟩;intro w';go_simp;with_reducible rfl);(focus simp only [List.getElem_toArray,List.getElem_cons_succ,List.getElem_cons_zero,Act.put,List.setIfInBounds_toArray,List.set_cons_zero,List.set_cons_succ,i64_w,i32_w];rfl))
  |(refine tx_ (i:=4) (N:=some 22) (v:=?_) (a':=?_) #[true,true,true,true,true,false,false,false,false,false] rfl rfl (by kernel_rfl) (fun _ _ _ h=>h) ?_ hHeld ?_ ?_;rotate_left 2;(focus refine Or.inl ⟨by rfl,?_⟩;rintro w' ⟨s0,s1⟩;go_simp;with_reducible rfl);(focus simp only [List.getElem_toArray,List.getElem_cons_succ,List.getElem_cons_zero,Act.put,List.setIfInBounds_toArray,List.set_cons_zero,List.set_cons_succ,i64_w,i32_w];rfl))
  first
  |(refine px_ (i:=5) (N:=some 23) (v:=?_) (a':=?_) #[true,true,true,true,true,true,false,false,false,false] rfl rfl (by kernel_rfl) (fun _ _ _ h=>h) ?_ ?_ ?_;rotate_left 2;(focus refine Or.inl ⟨by rfl,?_⟩;intro w';go_simp;with_reducible rfl);(focus simp only [List.getElem_toArray,List.getElem_cons_succ,List.getElem_cons_zero,Act.put,List.setIfInBounds_toArray,List.set_cons_zero,List.set_cons_succ,i64_w,i32_w];rfl))
  |(refine tx_ (i:=5) (N:=some 23) (v:=?_) (a':=?_) #[true,true,true,true,true,true,false,false,false,false] rfl rfl (by kernel_rfl) (fun _ _ _ h=>h) ?_ hHeld ?_ ?_;rotate_left 2;(focus refine Or.inl ⟨by rfl,?_⟩;rintro w' ⟨s0,s1⟩;go_simp;with_reducible rfl);(focus simp only [List.getElem_toArray,List.getElem_cons_succ,List.getElem_cons_zero,Act.put,List.setIfInBounds_toArray,List.set_cons_zero,List.set_cons_succ,i64_w,i32_w];rfl))
  first
  |(refine px_ (i:=6) (N:=some 24) (v:=?_) (a':=?_) #[true,true,true,true,true,true,true,false,false,false] rfl rfl (by kernel_rfl) (fun _ _ _ h=>h) ?_ ?_ ?_;rotate_left 2;(focus refine Or.inl ⟨by rfl,?_⟩;intro w';go_simp;with_reducible rfl);(focus simp only [List.getElem_toArray,List.getElem_cons_succ,List.getElem_cons_zero,Act.put,List.setIfInBounds_toArray,List.set_cons_zero,List.set_cons_succ,i64_w,i32_w];rfl))
  |(refine tx_ (i:=6) (N:=some 24) (v:=?_) (a':=?_) #[true,true,true,true,true,true,true,false,false,false] rfl rfl (by kernel_rfl) (fun _ _ _ h=>h) ?_ hHeld ?_ ?_;rotate_left 2;(focus refine Or.inl ⟨by rfl,?_⟩;rintro w' ⟨s0,s1⟩;go_simp;with_reducible rfl);(focus simp only [List.getElem_toArray,List.getElem_cons_succ,List.getElem_cons_zero,Act.put,List.setIfInBounds_toArray,List.set_cons_zero,List.set_cons_succ,i64_w,i32_w];rfl))
  first
  |(refine px_ (i:=7) (N:=some 25) (v:=?_) (a':=?_) #[true,true,true,true,true,true,true,true,false,false] rfl rfl (by kernel_rfl) (fun _ _ _ h=>h) ?_ ?_ ?_;rotate_left 2;(focus refine Or.inl ⟨by rfl,?_⟩;intro w';go_simp;with_reducible rfl);(focus simp only [List.getElem_toArray,List.getElem_cons_succ,List.getElem_cons_zero,Act.put,List.setIfInBounds_toArray,List.set_cons_zero,List.set_cons_succ,i64_w,i32_w];rfl))
  |(refine tx_ (i:=7) (N:=some 25) (v:=?_) (a':=?_) #[true,true,true,true,true,true,true,true,false,false] rfl rfl (by kernel_rfl) (fun _ _ _ h=>h) ?_ hHeld ?_ ?_;rotate_left 2;(focus refine Or.inl ⟨by rfl,?_⟩;rintro w' ⟨s0,s1⟩;go_simp;with_reducible rfl);(focus simp only [List.getElem_toArray,List.getElem_cons_succ,List.getElem_cons_zero,Act.put,List.setIfInBounds_toArray,List.set_cons_zero,List.set_cons_succ,i64_w,i32_w];rfl))
  first
  |(refine px_ (i:=8) (N:=some 26) (v:=?_) (a':=?_) #[true,true,true,true,true,true,true,true,true,false] rfl rfl (by kernel_rfl) (fun _ _ _ h=>h) ?_ ?_ ?_;rotate_left 2;(focus refine Or.inl ⟨by rfl,?_⟩;intro w';go_simp;with_reducible rfl);(focus simp only [List.getElem_toArray,List.getElem_cons_succ,List.getElem_cons_zero,Act.put,List.setIfInBounds_toArray,List.set_cons_zero,List.set_cons_succ,i64_w,i32_w];rfl))
  |(refine tx_ (i:=8) (N:=some 26) (v:=?_) (a':=?_) #[true,true,true,true,true,true,true,true,true,false] rfl rfl (by kernel_rfl) (fun _ _ _ h=>h) ?_ hHeld ?_ ?_;rotate_left 2;(focus refine Or.inl ⟨by rfl,?_⟩;rintro w' ⟨s0,s1⟩;go_simp;with_reducible rfl);(focus simp only [List.getElem_toArray,List.getElem_cons_succ,List.getElem_cons_zero,Act.put,List.setIfInBounds_toArray,List.set_cons_zero,List.set_cons_succ,i64_w,i32_w];rfl))
  first
  |(refine px_ (i:=9) (N:=some 9) (v:=?_) (a':=?_) #[true,true,true,true,true,true,true,true,true,true] rfl rfl (by kernel_rfl) (fun _ _ _ h=>h) ?_ ?_ ?_;rotate_left 2;(focus refine Or.inl ⟨by rfl,?_⟩;intro w';go_simp;with_reducible rfl);(focus simp only [List.getElem_toArray,List.getElem_cons_succ,List.getElem_cons_zero,Act.put,List.setIfInBounds_toArray,List.set_cons_zero,List.set_cons_succ,i64_w,i32_w];rfl))
  |(refine tx_ (i:=9) (N:=some 9) (v:=?_) (a':=?_) #[true,true,true,true,true,true,true,true,true,true] rfl rfl (by kernel_rfl) (fun _ _ _ h=>h) ?_ hHeld ?_ ?_;rotate_left 2;(focus refine Or.inl ⟨by rfl,?_⟩;rintro w' ⟨s0,s1⟩;go_simp;with_reducible rfl);(focus simp only [List.getElem_toArray,List.getElem_cons_succ,List.getElem_cons_zero,Act.put,List.setIfInBounds_toArray,List.set_cons_zero,List.set_cons_succ,i64_w,i32_w];rfl))
  refine done_ (by kernel_rfl) ?_
  clear hHeld lf lm
  obtain ⟨WR,hWR⟩ : ∃ W,W = wr.drew:=⟨_,rfl⟩
  have HNB : Aside0 (N0≤WR.heap.size):=⟨by rw [hWR];exact Nat.le_trans HNS.out HB.out.size⟩
  have HBR : Aside0 (Below N0 W0 WR):=⟨by rw [hWR];exact HB.out.drew⟩
  replace HO : Aside0 (WR.ownsRow N0 3 1 u5 i ((sjt i t).map (Value.int .i64))):=⟨by rw [hWR];exact HO.out⟩
  rw [← hWR]
  clear hWR HB
  go_wp2_with (go_at_call 73;go_must (refine(insert_own (W:=WR) HO.out HNB.out HN18.out HU.out ((i : Int) + 1)).mono ?_;rintro e wx ⟨v',rfl,ho,hb⟩;have HO1:=Aside0.mk ho;have HB2:=Aside0.mk hb;clear ho hb))
  go_roundw
  case rel=>exact⟨i + 1,q,by simp [wi],HI1,HQ,⟨by rw [HS.out];exact HO1.out⟩,⟨HBR.out.trans HB2.out⟩⟩
  case measure=>(first | exact HMS.out |(rw [wi];exact HMS.out) |(simp only [wi];exact HMS.out))
     
 subst z2
 go_wp2
 refine start_ (n:=10) (S:=fun W'=>W'.cell? ⟨B,n,none⟩ = some (.int .i64 F)∧W'.cell? ⟨B,i + 1,none⟩ = some (.int .i64 M)) (ds:=[]) #[false,false,false,false,false,false,false,false,false,false] (by kernel_rfl) rfl rfl ⟨lf,lm⟩ (fun hHeld=>?_)
 first
 |(refine px_ (i:=0) (N:=some 18) (v:=?_) (a':=?_) #[true,false,false,false,false,false,false,false,false,false] rfl rfl (by kernel_rfl) (fun _ _ _ h=>h) ?_ ?_ ?_;rotate_left 2;(focus refine Or.inl ⟨by rfl,?_⟩;intro w';go_simp;with_reducible rfl);(focus simp only [List.getElem_toArray,List.getElem_cons_succ,List.getElem_cons_zero,Act.put,List.setIfInBounds_toArray,List.set_cons_zero,List.set_cons_succ,i64_w,i32_w];rfl))
 |(refine tx_ (i:=0) (N:=some 18) (v:=?_) (a':=?_) #[true,false,false,false,false,false,false,false,false,false] rfl rfl (by kernel_rfl) (fun _ _ _ h=>h) ?_ hHeld ?_ ?_;rotate_left 2;(focus refine Or.inl ⟨by rfl,?_⟩;rintro w' ⟨s0,s1⟩;go_simp;with_reducible rfl);(focus simp only [List.getElem_toArray,List.getElem_cons_succ,List.getElem_cons_zero,Act.put,List.setIfInBounds_toArray,List.set_cons_zero,List.set_cons_succ,i64_w,i32_w];rfl))
 first
 |(refine px_ (i:=1) (N:=some 19) (v:=?_) (a':=?_) #[true,true,false,false,false,false,false,false,false,false] rfl rfl (by kernel_rfl) (fun _ _ _ h=>h) ?_ ?_ ?_;rotate_left 2;(focus refine Or.inl ⟨by rfl,?_⟩;intro w';go_simp;with_reducible rfl);(focus simp only [List.getElem_toArray,List.getElem_cons_succ,List.getElem_cons_zero,Act.put,List.setIfInBounds_toArray,List.set_cons_zero,List.set_cons_succ,i64_w,i32_w];rfl))
 |(refine tx_ (i:=1) (N:=some 19) (v:=?_) (a':=?_) #[true,true,false,false,false,false,false,false,false,false] rfl rfl (by kernel_rfl) (fun _ _ _ h=>h) ?_ hHeld ?_ ?_;rotate_left 2;(focus refine Or.inl ⟨by rfl,?_⟩;rintro w' ⟨s0,s1⟩;go_simp;with_reducible rfl);(focus simp only [List.getElem_toArray,List.getElem_cons_succ,List.getElem_cons_zero,Act.put,List.setIfInBounds_toArray,List.set_cons_zero,List.set_cons_succ,i64_w,i32_w];rfl))
 first
 |(refine px_ (i:=2) (N:=some 20) (v:=?_) (a':=?_) #[true,true,true,false,false,false,false,false,false,false] rfl rfl (by kernel_rfl) (fun _ _ _ h=>h) ?_ ?_ ?_;rotate_left 2;(focus refine Or.inl ⟨by rfl,?_⟩;intro w';go_simp;with_reducible rfl);(focus simp only [List.getElem_toArray,List.getElem_cons_succ,List.getElem_cons_zero,Act.put,List.setIfInBounds_toArray,List.set_cons_zero,List.set_cons_succ,i64_w,i32_w];rfl))
 |(refine tx_ (i:=2) (N:=some 20) (v:=?_) (a':=?_) #[true,true,true,false,false,false,false,false,false,false] rfl rfl (by kernel_rfl) (fun _ _ _ h=>h) ?_ hHeld ?_ ?_;rotate_left 2;(focus refine Or.inl ⟨by rfl,?_⟩;rintro w' ⟨s0,s1⟩;go_simp;with_reducible rfl);(focus simp only [List.getElem_toArray,List.getElem_cons_succ,List.getElem_cons_zero,Act.put,List.setIfInBounds_toArray,List.set_cons_zero,List.set_cons_succ,i64_w,i32_w];rfl))
 first
 |(refine px_ (i:=3) (N:=some 21) (v:=?_) (a':=?_) #[true,true,true,true,false,false,false,false,false,false] rfl rfl (by kernel_rfl) (fun _ _ _ h=>h) ?_ ?_ ?_;rotate_left 2;(focus refine Or.inl ⟨by rfl,?_⟩;intro w';go_simp;with_reducible rfl);(focus simp only [List.getElem_toArray,List.getElem_cons_succ,List.getElem_cons_zero,Act.put,List.setIfInBounds_toArray,List.set_cons_zero,List.set_cons_succ,i64_w,i32_w];rfl))
 |(refine tx_ (i:=3) (N:=some 21) (v:=?_) (a':=?_) #[true,true,true,true,false,false,false,false,false,false] rfl rfl (by kernel_rfl) (fun _ _ _ h=>h) ?_ hHeld ?_ ?_;rotate_left 2;(focus refine Or.inl ⟨by rfl,?_⟩;rintro w' ⟨s0,s1⟩;go_simp;with_reducible rfl);(focus simp only [List.getElem_toArray,List.getElem_cons_succ,List.getElem_cons_zero,Act.put,List.setIfInBounds_toArray,List.set_cons_zero,List.set_cons_succ,i64_w,i32_w];rfl))
 first
 |(refine px_ (i:=4) (N:=some 22) (v:=?_) (a':=?_) #[true,true,true,true,true,false,false,false,false,false] rfl rfl (by kernel_rfl) (fun _ _ _ h=>h) ?_ ?_ ?_;rotate_left 2;(focus refine Or.inl ⟨by rfl,?_⟩;intro w';go_simp;with_reducible rfl);(focus simp only [List.getElem_toArray,List.getElem_cons_succ,List.getElem_cons_zero,Act.put,List.setIfInBounds_toArray,List.set_cons_zero,List.set_cons_succ,i64_w,i32_w];rfl))
 |(refine tx_ (i:=4) (N:=some 22) (v:=?_) (a':=?_) #[true,true,true,true,true,false,false,false,false,false] rfl rfl (by kernel_rfl) (fun _ _ _ h=>h) ?_ hHeld ?_ ?_;rotate_left 2;(focus refine Or.inl ⟨by rfl,?_⟩;rintro w' ⟨s0,s1⟩;go_simp;with_reducible rfl);(focus simp only [List.getElem_toArray,List.getElem_cons_succ,List.getElem_cons_zero,Act.put,List.setIfInBounds_toArray,List.set_cons_zero,List.set_cons_succ,i64_w,i32_w];rfl))
 first
 |(refine px_ (i:=5) (N:=some 23) (v:=?_) (a':=?_) #[true,true,true,true,true,true,false,false,false,false] rfl rfl (by kernel_rfl) (fun _ _ _ h=>h) ?_ ?_ ?_;rotate_left 2;(focus refine Or.inl ⟨by rfl,?_⟩;intro w';go_simp;with_reducible rfl);(focus simp only [List.getElem_toArray,List.getElem_cons_succ,List.getElem_cons_zero,Act.put,List.setIfInBounds_toArray,List.set_cons_zero,List.set_cons_succ,i64_w,i32_w];rfl))
 |(refine tx_ (i:=5) (N:=some 23) (v:=?_) (a':=?_) #[true,true,true,true,true,true,false,false,false,false] rfl rfl (by kernel_rfl) (fun _ _ _ h=>h) ?_ hHeld ?_ ?_;rotate_left 2;(focus refine Or.inl ⟨by rfl,?_⟩;rintro w' ⟨s0,s1⟩;go_simp;with_reducible rfl);(focus simp only [List.getElem_toArray,List.getElem_cons_succ,List.getElem_cons_zero,Act.put,List.setIfInBounds_toArray,List.set_cons_zero,List.set_cons_succ,i64_w,i32_w];rfl))
 first
 |(refine px_ (i:=6) (N:=some 24) (v:=?_) (a':=?_) #[true,true,true,true,true,true,true,false,false,false] rfl rfl (by kernel_rfl) (fun _ _ _ h=>h) ?_ ?_ ?_;rotate_left 2;(focus refine Or.inl ⟨by rfl,?_⟩;intro w';go_simp;with_reducible rfl);(focus simp only [List.getElem_toArray,List.getElem_cons_succ,List.getElem_cons_zero,Act.put,List.setIfInBounds_toArray,List.set_cons_zero,List.set_cons_succ,i64_w,i32_w];rfl))
 |(refine tx_ (i:=6) (N:=some 24) (v:=?_) (a':=?_) #[true,true,true,true,true,true,true,false,false,false] rfl rfl (by kernel_rfl) (fun _ _ _ h=>h) ?_ hHeld ?_ ?_;rotate_left 2;(focus refine Or.inl ⟨by rfl,?_⟩;rintro w' ⟨s0,s1⟩;go_simp;with_reducible rfl);(focus simp only [List.getElem_toArray,List.getElem_cons_succ,List.getElem_cons_zero,Act.put,List.setIfInBounds_toArray,List.set_cons_zero,List.set_cons_succ,i64_w,i32_w];rfl))
 first
 |(refine px_ (i:=7) (N:=some 25) (v:=?_) (a':=?_) #[true,true,true,true,true,true,true,true,false,false] rfl rfl (by kernel_rfl) (fun _ _ _ h=>h) ?_ ?_ ?_;rotate_left 2;(focus refine Or.inl ⟨by rfl,?_⟩;intro w';go_simp;with_reducible rfl);(focus simp only [List.getElem_toArray,List.getElem_cons_succ,List.getElem_cons_zero,Act.put,List.setIfInBounds_toArray,List.set_cons_zero,List.set_cons_succ,i64_w,i32_w];rfl))
 |(refine tx_ (i:=7) (N:=some 25) (v:=?_) (a':=?_) #[true,true,true,true,true,true,true,true,false,false] rfl rfl (by kernel_rfl) (fun _ _ _ h=>h) ?_ hHeld ?_ ?_;rotate_left 2;(focus refine Or.inl ⟨by rfl,?_⟩;rintro w' ⟨s0,s1⟩;go_simp;with_reducible rfl);(focus simp only [List.getElem_toArray,List.getElem_cons_succ,List.getElem_cons_zero,Act.put,List.setIfInBounds_toArray,List.set_cons_zero,List.set_cons_succ,i64_w,i32_w];rfl))
 first
 |(refine px_ (i:=8) (N:=some 26) (v:=?_) (a':=?_) #[true,true,true,true,true,true,true,true,true,false] rfl rfl (by kernel_rfl) (fun _ _ _ h=>h) ?_ ?_ ?_;rotate_left 2;(focus refine Or.inl ⟨by rfl,?_⟩;intro w';go_simp;with_reducible rfl);(focus simp only [List.getElem_toArray,List.getElem_cons_succ,List.getElem_cons_zero,Act.put,List.setIfInBounds_toArray,List.set_cons_zero,List.set_cons_succ,i64_w,i32_w];rfl))
 |(refine tx_ (i:=8) (N:=some 26) (v:=?_) (a':=?_) #[true,true,true,true,true,true,true,true,true,false] rfl rfl (by kernel_rfl) (fun _ _ _ h=>h) ?_ hHeld ?_ ?_;rotate_left 2;(focus refine Or.inl ⟨by rfl,?_⟩;rintro w' ⟨s0,s1⟩;go_simp;with_reducible rfl);(focus simp only [List.getElem_toArray,List.getElem_cons_succ,List.getElem_cons_zero,Act.put,List.setIfInBounds_toArray,List.set_cons_zero,List.set_cons_succ,i64_w,i32_w];rfl))
 first
 |(refine px_ (i:=9) (N:=some 9) (v:=?_) (a':=?_) #[true,true,true,true,true,true,true,true,true,true] rfl rfl (by kernel_rfl) (fun _ _ _ h=>h) ?_ ?_ ?_;rotate_left 2;(focus refine Or.inl ⟨by rfl,?_⟩;intro w';go_simp;with_reducible rfl);(focus simp only [List.getElem_toArray,List.getElem_cons_succ,List.getElem_cons_zero,Act.put,List.setIfInBounds_toArray,List.set_cons_zero,List.set_cons_succ,i64_w,i32_w];rfl))
 |(refine tx_ (i:=9) (N:=some 9) (v:=?_) (a':=?_) #[true,true,true,true,true,true,true,true,true,true] rfl rfl (by kernel_rfl) (fun _ _ _ h=>h) ?_ hHeld ?_ ?_;rotate_left 2;(focus refine Or.inl ⟨by rfl,?_⟩;rintro w' ⟨s0,s1⟩;go_simp;with_reducible rfl);(focus simp only [List.getElem_toArray,List.getElem_cons_succ,List.getElem_cons_zero,Act.put,List.setIfInBounds_toArray,List.set_cons_zero,List.set_cons_succ,i64_w,i32_w];rfl))
 refine done_ (by kernel_rfl) ?_
 clear hHeld lf lm
 obtain ⟨WR,hWR⟩ : ∃ W,W = wr.drew:=⟨_,rfl⟩
 have HNB : Aside0 (N0≤WR.heap.size):=⟨by rw [hWR];exact Nat.le_trans HNS.out HB.out.size⟩
 have HBR : Aside0 (Below N0 W0 WR):=⟨by rw [hWR];exact HB.out.drew⟩
 replace HO : Aside0 (WR.ownsRow N0 3 1 u5 i ((sjt i t).map (Value.int .i64))):=⟨by rw [hWR];exact HO.out⟩
 rw [← hWR]
 clear hWR HB
 go_wp2_with (go_at_call 73;go_must (refine(insert_own (W:=WR) HO.out HNB.out HN18.out HU.out ((i : Int) + 1)).mono ?_;rintro e wx ⟨v',rfl,ho,hb⟩;have HO1:=Aside0.mk ho;have HB2:=Aside0.mk hb;clear ho hb))
 go_roundw
 case rel=>exact⟨i + 1,q,by simp [wi],HI1,HQ,⟨by rw [HS.out];exact HO1.out⟩,⟨HBR.out.trans HB2.out⟩⟩
 case measure=>(first | exact HMS.out |(rw [wi];exact HMS.out) |(simp only [wi];exact HMS.out))
     

open Go.Proofs.Ytbfhlaggllofdaa.G Go.Proofs.Ytbfhlaggllofdaa.T Go.Proofs.Ytbfhlaggllofdaa.P
def turns_Order.f (a0 a1 : Int) : Option (List Int×Int):=some (if 0≤a0∧a0≤18∧0≤a1∧a1≤fact a0.toNat - 1 then(sjt a0.toNat a1,0) else([],2))
set_option maxHeartbeats 400000 in
set_option maxRecDepth 100000 in
theorem turns_Order.calls (a0 a1 : Int) (r1 : List Int) (r2 : Int) (w : World) (h : turns_Order.f a0 a1 = some (r1, r2)) :
  Calls Try.prog 48 #[.int .i64 a0,.int .i64 a1] w fun e w'=>∃ v0_ : Value,e = .returned (.tuple #[v0_,.int .i64 r2])∧Kd.R (Kd.int .i64) 3 w' w.heap.size (fun _=>True) v0_ r1∧Below w.heap.size w w':=by
 replace h:=Option.some.inj h
 have HB:=Aside0.mk (Below.refl w.heap.size w)
 by_cases c0 : 0≤a0∧a0≤18
 rotate_left
 ·rw [if_neg (fun hh => c0 ⟨hh.1, hh.2.1⟩)] at h
  injection h with h1 h2
  subst h1;subst h2
  have hi1:=Aside0.mk (within_no c0)
  clear c0
  go_enter Try.func48,Try.ntmps48
  go_wp2_with (go_at_call 56;go_must (with_reducible refine(turns_within.calls a0 0 18 false _ hi1.out).mono ?_;rintro e w' ⟨rfl,⟨nd,rfl⟩⟩))
  go_ret2
  exact⟨_,rfl,Kd.R_nil _ _ _ _ _,by repeat(first |(with_reducible first | exact HB.out | apply bwN | apply bw1) | exact HB.out)⟩
 have hi1:=Aside0.mk (within_yes c0)
 obtain ⟨n,rfl⟩ : ∃ n : Nat,a0 = n:=⟨a0.toNat,by omega⟩
 rw [show((n : Int)).toNat = n by omega] at h
 have bf:=fact_le (n:=n) (by omega)
 have w0 : wrap64 (fact n - 1) = fact n - 1:=w64 (by omega) (by omega)
 have lx : ∀ W,Sem.run Try.prog (Instr.index 76 (.agg (facA 19)) (.int .i64 (n : Int))) W = .ok (.int .i64 (fact n)) W:=fac_index (by omega)
 by_cases c1 : 0≤a1∧a1≤fact n - 1
 rotate_left
 ·rw [if_neg (fun hh => c1 hh.2.2)] at h
  injection h with h1 h2
  subst h1;subst h2
  have hi2:=Aside0.mk (within_no c1)
  obtain ⟨F,hF⟩ : ∃ F,fact n = F:=⟨_,rfl⟩
  rw [hF] at lx w0 hi2
  clear c0 c1 bf hF
  go_enter Try.func48,Try.ntmps48
  go_wp2_with (first |(go_at_call 56;go_must (first |(with_reducible refine(turns_within.calls (n : Int) 0 18 true _ hi1.out).mono ?_;rintro e w' ⟨rfl,⟨nd,rfl⟩⟩) |(with_reducible refine(turns_within.calls a1 0 (F - 1) false _ hi2.out).mono ?_;rintro e w' ⟨rfl,⟨nd,rfl⟩⟩))) |(go_at_call 64;go_must (refine(fac_new _).mono ?_;rintro e w1 ⟨rfl,hb⟩;have HB1:=Aside0.mk (bwT (by repeat(first |(with_reducible first | exact HB.out | apply bwN) | exact HB.out)) hb);clear hb)))
  go_ret2
  exact⟨_,rfl,Kd.R_nil _ _ _ _ _,by repeat(first |(with_reducible first | exact HB1.out | apply bwN | apply bw1) | exact HB1.out)⟩
 rw [if_pos ⟨c0.1,c0.2,c1⟩] at h
 injection h with h1 h2
 subst h2
 have hi2:=Aside0.mk (within_yes c1)
 have HO:=Aside0.mk (show turns_order.f (n : Int) a1 = some r1 by unfold turns_order.f;rw [if_pos ⟨c0.1,c0.2,c1.1,by rw [show((n : Int)).toNat = n by omega];omega⟩,show((n : Int)).toNat = n by omega,h1])
 obtain ⟨F,hF⟩ : ∃ F,fact n = F:=⟨_,rfl⟩
 rw [hF] at lx w0 hi2
 clear c0 c1 bf hF h1
 go_enter Try.func48,Try.ntmps48
 go_wp2_with (first |(go_at_call 56;go_must (first |(with_reducible refine(turns_within.calls (n : Int) 0 18 true _ hi1.out).mono ?_;rintro e w' ⟨rfl,⟨nd,rfl⟩⟩) |(with_reducible refine(turns_within.calls a1 0 (F - 1) true _ hi2.out).mono ?_;rintro e w' ⟨rfl,⟨nd,rfl⟩⟩))) |(go_at_call 64;go_must (refine(fac_new _).mono ?_;rintro e w1 ⟨rfl,hb⟩;have HB1:=Aside0.mk (bwT (by repeat(first |(with_reducible first | exact HB.out | apply bwN) | exact HB.out)) hb);clear hb)) |(go_at_call 65;go_must (refine(turns_order.calls (n : Int) a1 r1 _ HO.out).mono ?_;rintro e w2 ⟨v0,rfl,ho,hb⟩;have HO1:=Aside0.mk ho;have HB2:=Aside0.mk hb;clear ho hb)))
 go_ret2
 exact⟨_,rfl,Kd.R_lower HO1.out (bwZ (by repeat(first |(with_reducible first | exact HB1.out | apply bwN | apply bw1) | exact HB1.out))),bwT (by repeat(first |(with_reducible first | exact HB1.out | apply bwN | apply bw1) | exact HB1.out)) HB2.out⟩

def w10_awake.j0 : Nat → Bool → Option (Bool)
 | 0,_=>none
 | k + 1,x77=>if x77 = true then(some false) else(some true)
def w10_awake.f (k : Nat)  : Option (Bool):=(turns_Set.f 2 2).bind fun bt128=>((turns_Choice.f 3 2 1).bind fun bt132=>((turns_Order.f 3 3).bind fun bt136=>((turns_Groupings.f 5).bind fun bt140=>((turns_Setting.f (([2,3] : List Int)) 3).bind fun bt145=>(if bt128.2 = 0 then((w10_ints.f k bt128.1 (([1,2] : List Int))).bind fun t152=>(if t152 = true then(if bt132.2 = 0 then((w10_ints.f k bt132.1 (([2,3] : List Int))).bind fun t156=>(if t156 = true then(if bt136.2 = 0 then((w10_ints.f k bt136.1 (([3,2,1] : List Int))).bind fun t160=>(if t160 = true then(if bt140.2 = 0 then(if bt140.1 = 52 then(if bt145.2 = 0 then((w10_ints.f k bt145.1 (([1,2] : List Int))).bind fun t164=>(w10_awake.j0 k (!t164))) else(w10_awake.j0 k true)) else(w10_awake.j0 k true)) else(w10_awake.j0 k true)) else(w10_awake.j0 k true))) else(w10_awake.j0 k true)) else(w10_awake.j0 k true))) else(w10_awake.j0 k true)) else(w10_awake.j0 k true))) else(w10_awake.j0 k true))))))
set_option maxHeartbeats 8000000 in
set_option maxRecDepth 100000 in
theorem w10_awake.calls (k : Nat)  (r : Bool) (w : World) (h : w10_awake.f k  = some r) :
  Calls Try.prog 20 #[] w fun e w'=>e = .returned (.bool r)∧Below w.heap.size w w':=by
 have HB:=Aside0.mk (Below.refl w.heap.size w)
 have H :((turns_Set.f 2 2).bind fun bt128=>((turns_Choice.f 3 2 1).bind fun bt132=>((turns_Order.f 3 3).bind fun bt136=>((turns_Groupings.f 5).bind fun bt140=>((turns_Setting.f (([2,3] : List Int)) 3).bind fun bt145=>(if bt128.2 = 0 then((w10_ints.f k bt128.1 (([1,2] : List Int))).bind fun t152=>(if t152 = true then(if bt132.2 = 0 then((w10_ints.f k bt132.1 (([2,3] : List Int))).bind fun t156=>(if t156 = true then(if bt136.2 = 0 then((w10_ints.f k bt136.1 (([3,2,1] : List Int))).bind fun t160=>(if t160 = true then(if bt140.2 = 0 then(if bt140.1 = 52 then(if bt145.2 = 0 then((w10_ints.f k bt145.1 (([1,2] : List Int))).bind fun t164=>(w10_awake.j0 k (!t164))) else(w10_awake.j0 k true)) else(w10_awake.j0 k true)) else(w10_awake.j0 k true)) else(w10_awake.j0 k true))) else(w10_awake.j0 k true)) else(w10_awake.j0 k true))) else(w10_awake.j0 k true)) else(w10_awake.j0 k true))) else(w10_awake.j0 k true))))))) = some r:=h
 clear h
 replace H:=Option.bind_eq_some_iff.mp H
 obtain ⟨⟨t128,t129⟩,A10,H⟩:=H
 replace H :((turns_Choice.f 3 2 1).bind fun bt132=>((turns_Order.f 3 3).bind fun bt136=>((turns_Groupings.f 5).bind fun bt140=>((turns_Setting.f (([2,3] : List Int)) 3).bind fun bt145=>(if t129 = 0 then((w10_ints.f k t128 (([1,2] : List Int))).bind fun t152=>(if t152 = true then(if bt132.2 = 0 then((w10_ints.f k bt132.1 (([2,3] : List Int))).bind fun t156=>(if t156 = true then(if bt136.2 = 0 then((w10_ints.f k bt136.1 (([3,2,1] : List Int))).bind fun t160=>(if t160 = true then(if bt140.2 = 0 then(if bt140.1 = 52 then(if bt145.2 = 0 then((w10_ints.f k bt145.1 (([1,2] : List Int))).bind fun t164=>(w10_awake.j0 k (!t164))) else(w10_awake.j0 k true)) else(w10_awake.j0 k true)) else(w10_awake.j0 k true)) else(w10_awake.j0 k true))) else(w10_awake.j0 k true)) else(w10_awake.j0 k true))) else(w10_awake.j0 k true)) else(w10_awake.j0 k true))) else(w10_awake.j0 k true)))))) = some r:=H
 have A1:=Aside0.mk A10
 clear A10
 replace H:=Option.bind_eq_some_iff.mp H
 obtain ⟨⟨t132,t133⟩,A20,H⟩:=H
 replace H :((turns_Order.f 3 3).bind fun bt136=>((turns_Groupings.f 5).bind fun bt140=>((turns_Setting.f (([2,3] : List Int)) 3).bind fun bt145=>(if t129 = 0 then((w10_ints.f k t128 (([1,2] : List Int))).bind fun t152=>(if t152 = true then(if t133 = 0 then((w10_ints.f k t132 (([2,3] : List Int))).bind fun t156=>(if t156 = true then(if bt136.2 = 0 then((w10_ints.f k bt136.1 (([3,2,1] : List Int))).bind fun t160=>(if t160 = true then(if bt140.2 = 0 then(if bt140.1 = 52 then(if bt145.2 = 0 then((w10_ints.f k bt145.1 (([1,2] : List Int))).bind fun t164=>(w10_awake.j0 k (!t164))) else(w10_awake.j0 k true)) else(w10_awake.j0 k true)) else(w10_awake.j0 k true)) else(w10_awake.j0 k true))) else(w10_awake.j0 k true)) else(w10_awake.j0 k true))) else(w10_awake.j0 k true)) else(w10_awake.j0 k true))) else(w10_awake.j0 k true))))) = some r:=H
 have A2:=Aside0.mk A20
 clear A20
 replace H:=Option.bind_eq_some_iff.mp H
 obtain ⟨⟨t136,t137⟩,A30,H⟩:=H
 replace H :((turns_Groupings.f 5).bind fun bt140=>((turns_Setting.f (([2,3] : List Int)) 3).bind fun bt145=>(if t129 = 0 then((w10_ints.f k t128 (([1,2] : List Int))).bind fun t152=>(if t152 = true then(if t133 = 0 then((w10_ints.f k t132 (([2,3] : List Int))).bind fun t156=>(if t156 = true then(if t137 = 0 then((w10_ints.f k t136 (([3,2,1] : List Int))).bind fun t160=>(if t160 = true then(if bt140.2 = 0 then(if bt140.1 = 52 then(if bt145.2 = 0 then((w10_ints.f k bt145.1 (([1,2] : List Int))).bind fun t164=>(w10_awake.j0 k (!t164))) else(w10_awake.j0 k true)) else(w10_awake.j0 k true)) else(w10_awake.j0 k true)) else(w10_awake.j0 k true))) else(w10_awake.j0 k true)) else(w10_awake.j0 k true))) else(w10_awake.j0 k true)) else(w10_awake.j0 k true))) else(w10_awake.j0 k true)))) = some r:=H
 have A3:=Aside0.mk A30
 clear A30
 replace H:=Option.bind_eq_some_iff.mp H
 obtain ⟨⟨t140,t141⟩,A40,H⟩:=H
 replace H :((turns_Setting.f (([2,3] : List Int)) 3).bind fun bt145=>(if t129 = 0 then((w10_ints.f k t128 (([1,2] : List Int))).bind fun t152=>(if t152 = true then(if t133 = 0 then((w10_ints.f k t132 (([2,3] : List Int))).bind fun t156=>(if t156 = true then(if t137 = 0 then((w10_ints.f k t136 (([3,2,1] : List Int))).bind fun t160=>(if t160 = true then(if t141 = 0 then(if t140 = 52 then(if bt145.2 = 0 then((w10_ints.f k bt145.1 (([1,2] : List Int))).bind fun t164=>(w10_awake.j0 k (!t164))) else(w10_awake.j0 k true)) else(w10_awake.j0 k true)) else(w10_awake.j0 k true)) else(w10_awake.j0 k true))) else(w10_awake.j0 k true)) else(w10_awake.j0 k true))) else(w10_awake.j0 k true)) else(w10_awake.j0 k true))) else(w10_awake.j0 k true))) = some r:=H
 have A4:=Aside0.mk A40
 clear A40
 obtain ⟨y142,hy142⟩ : ∃ y_ : List Int,y_ =(([2,3] : List Int)):=⟨_,rfl⟩
 replace H :((turns_Setting.f y142 3).bind fun bt145=>(if t129 = 0 then((w10_ints.f k t128 (([1,2] : List Int))).bind fun t152=>(if t152 = true then(if t133 = 0 then((w10_ints.f k t132 (([2,3] : List Int))).bind fun t156=>(if t156 = true then(if t137 = 0 then((w10_ints.f k t136 (([3,2,1] : List Int))).bind fun t160=>(if t160 = true then(if t141 = 0 then(if t140 = 52 then(if bt145.2 = 0 then((w10_ints.f k bt145.1 (([1,2] : List Int))).bind fun t164=>(w10_awake.j0 k (!t164))) else(w10_awake.j0 k true)) else(w10_awake.j0 k true)) else(w10_awake.j0 k true)) else(w10_awake.j0 k true))) else(w10_awake.j0 k true)) else(w10_awake.j0 k true))) else(w10_awake.j0 k true)) else(w10_awake.j0 k true))) else(w10_awake.j0 k true))) = some r:=by first |(rw [hy142];with_reducible exact H) |(have H2_:=(Option.bind_some _ _).symm.trans H;rw [hy142];with_reducible exact H2_) |(have H2_:=(Option.bind_some _ _).symm.trans H;with_reducible exact H2_) | with_reducible exact H |(rw [hy142];exact H) | exact H
 have Ny142:=Aside0.mk hy142
 clear hy142
 replace H:=Option.bind_eq_some_iff.mp H
 obtain ⟨⟨t145,t146⟩,A50,H⟩:=H
 replace H :(if t129 = 0 then((w10_ints.f k t128 (([1,2] : List Int))).bind fun t152=>(if t152 = true then(if t133 = 0 then((w10_ints.f k t132 (([2,3] : List Int))).bind fun t156=>(if t156 = true then(if t137 = 0 then((w10_ints.f k t136 (([3,2,1] : List Int))).bind fun t160=>(if t160 = true then(if t141 = 0 then(if t140 = 52 then(if t146 = 0 then((w10_ints.f k t145 (([1,2] : List Int))).bind fun t164=>(w10_awake.j0 k (!t164))) else(w10_awake.j0 k true)) else(w10_awake.j0 k true)) else(w10_awake.j0 k true)) else(w10_awake.j0 k true))) else(w10_awake.j0 k true)) else(w10_awake.j0 k true))) else(w10_awake.j0 k true)) else(w10_awake.j0 k true))) else(w10_awake.j0 k true)) = some r:=H
 have A5:=Aside0.mk A50
 clear A50
 have HC6:=Aside0.mk H
 clear H
 go_enter Try.func20,Try.ntmps20
 go_upto_region 6 with (first |((with_reducible refine gate_callee (f:=38) rfl ?_);refine goesL_ (some 12) rfl rfl Try.func38 (by kernel_rfl) rfl #[.int .i64 2,.int .i64 2] rfl (by(try simp only [List.map_toArray,List.map_cons,List.map_nil]);first | done | rfl |(simp only [List.length_drop,List.length_take];rfl)) ?_;(with_reducible refine(turns_Set.calls 2 2 t128 t129 _ A1.out).mono ?_);rintro e w7 ⟨v130,rfl,ho0,hb⟩;refine⟨_,rfl,?_⟩;have n0_:=Aside0.mk (Kd.R_lower ho0 (bwZ (by repeat(first |(with_reducible first | exact HB.out | apply bwA | apply bwN | apply bw1) | exact HB.out))));have n1_:=Aside0.mk (bwT (by repeat(first |(with_reducible first | exact HB.out | apply bwA | apply bwN | apply bw1) | exact HB.out)) hb);clear HB;have HO131:=n0_;have HB:=n1_;clear n0_ n1_;(try clear hb);(try clear hb2);(try clear hk);(try clear hi);(try clear ho0)) |((with_reducible refine gate_callee (f:=31) rfl ?_);refine goesL_ (some 16) rfl rfl Try.func31 (by kernel_rfl) rfl #[.int .i64 3,.int .i64 2,.int .i64 1] rfl (by(try simp only [List.map_toArray,List.map_cons,List.map_nil]);first | done | rfl |(simp only [List.length_drop,List.length_take];rfl)) ?_;(with_reducible refine(turns_Choice.calls 3 2 1 t132 t133 _ A2.out).mono ?_);rintro e w8 ⟨v134,rfl,ho0,hb⟩;refine⟨_,rfl,?_⟩;have n0_:=Aside0.mk (Kd.R_elder' (by(with_reducible repeat(first | apply Kd.R_alloc | apply Kd.R_drewN | apply Kd.R_drew));exact HO131.out) (Kd.R_base ho0) hb);have n1_:=Aside0.mk (Kd.R_lower (Kd.R_new' ho0 (Kd.R_lt (by(with_reducible repeat(first | apply Kd.R_alloc | apply Kd.R_drewN | apply Kd.R_drew));exact HO131.out))) (bwZ (by repeat(first |(with_reducible first | exact HB.out | apply bwA | apply bwN | apply bw1) | exact HB.out))));have n2_:=Aside0.mk (bwT (by repeat(first |(with_reducible first | exact HB.out | apply bwA | apply bwN | apply bw1) | exact HB.out)) hb);clear HO131;clear HB;have HO131:=n0_;have HO135:=n1_;have HB:=n2_;clear n0_ n1_ n2_;(try clear hb);(try clear hb2);(try clear hk);(try clear hi);(try clear ho0)) |((with_reducible refine gate_callee (f:=48) rfl ?_);refine goesL_ (some 20) rfl rfl Try.func48 (by kernel_rfl) rfl #[.int .i64 3,.int .i64 3] rfl (by(try simp only [List.map_toArray,List.map_cons,List.map_nil]);first | done | rfl |(simp only [List.length_drop,List.length_take];rfl)) ?_;(with_reducible refine(turns_Order.calls 3 3 t136 t137 _ A3.out).mono ?_);rintro e w9 ⟨v138,rfl,ho0,hb⟩;refine⟨_,rfl,?_⟩;have n0_:=Aside0.mk (Kd.R_elder' (by(with_reducible repeat(first | apply Kd.R_alloc | apply Kd.R_drewN | apply Kd.R_drew));exact HO131.out) (Kd.R_base ho0) hb);have n1_:=Aside0.mk (Kd.R_elder' (by(with_reducible repeat(first | apply Kd.R_alloc | apply Kd.R_drewN | apply Kd.R_drew));exact HO135.out) (Kd.R_base ho0) hb);have n2_:=Aside0.mk (Kd.R_lower (Kd.R_new' (Kd.R_new' ho0 (Kd.R_lt (by(with_reducible repeat(first | apply Kd.R_alloc | apply Kd.R_drewN | apply Kd.R_drew));exact HO131.out))) (Kd.R_lt (by(with_reducible repeat(first | apply Kd.R_alloc | apply Kd.R_drewN | apply Kd.R_drew));exact HO135.out))) (bwZ (by repeat(first |(with_reducible first | exact HB.out | apply bwA | apply bwN | apply bw1) | exact HB.out))));have n3_:=Aside0.mk (bwT (by repeat(first |(with_reducible first | exact HB.out | apply bwA | apply bwN | apply bw1) | exact HB.out)) hb);clear HO131;clear HO135;clear HB;have HO131:=n0_;have HO135:=n1_;have HO139:=n2_;have HB:=n3_;clear n0_ n1_ n2_ n3_;(try clear hb);(try clear hb2);(try clear hk);(try clear hi);(try clear ho0)) |((with_reducible refine gate_callee (f:=28) rfl ?_);refine goesL_ (some 24) rfl rfl Try.func28 (by kernel_rfl) rfl #[.int .i64 5] rfl (by(try simp only [List.map_toArray,List.map_cons,List.map_nil]);first | done | rfl |(simp only [List.length_drop,List.length_take];rfl)) ?_;(with_reducible refine(turns_Groupings.calls 5 t140 t141 _ A4.out).mono ?_);rintro e w10 ⟨rfl,hb⟩;refine⟨_,rfl,?_⟩;have n0_:=Aside0.mk (Kd.R_below (by(with_reducible repeat(first | apply Kd.R_alloc | apply Kd.R_drewN | apply Kd.R_drew));exact HO131.out) hb);have n1_:=Aside0.mk (Kd.R_below (by(with_reducible repeat(first | apply Kd.R_alloc | apply Kd.R_drewN | apply Kd.R_drew));exact HO135.out) hb);have n2_:=Aside0.mk (Kd.R_below (by(with_reducible repeat(first | apply Kd.R_alloc | apply Kd.R_drewN | apply Kd.R_drew));exact HO139.out) hb);have n3_:=Aside0.mk (bwT (by repeat(first |(with_reducible first | exact HB.out | apply bwA | apply bwN | apply bw1) | exact HB.out)) hb);clear HO131;clear HO135;clear HO139;clear HB;have HO131:=n0_;have HO135:=n1_;have HO139:=n2_;have HB:=n3_;clear n0_ n1_ n2_ n3_;(try clear hb);(try clear hb2);(try clear hk);(try clear hi)) |((with_reducible refine gate_dst (N:=28) rfl ?_);(try(refine gate_guard (by rfl) ?_;dsimp only));refine Kd.R_lit (Kd.int .i64) _ 3 ?hg (N:=28) ?hd (xs:=([2,3] : List Int)) (inner:=[.int .i64 2,.int .i64 3]) (ok:=fun _=>True) (okp:=fun _=>True) ?hr ?hp (fun _ hk=>hk) trivial (Below.refl _ _) (Nat.le_refl _) (by simp) ?_;(case hd=>rfl);(case hg=>rfl);(case hr=>first |(go_simp;done) |(go_simp;rfl));(case hp=>exact(Reps.one (show Kd.M (Kd.int .i64) _ _ _ 2 [.int .i64 2] from rfl) (Reps.one (show Kd.M (Kd.int .i64) _ _ _ 3 [.int .i64 3] from rfl) (Reps.none _ _))));intro v143 w11 ho12 hb hg_ hnew_;clear hg_ hnew_;(first | rw [← Ny142.out] at ho12 |(simp only [Int.reduceToNat] at ho12;rw [← Ny142.out] at ho12));have n0_:=Aside0.mk (Kd.R_elder' (by(with_reducible repeat(first | apply Kd.R_alloc | apply Kd.R_drewN | apply Kd.R_drew));exact HO131.out) (Kd.R_base ho12) hb);have n1_:=Aside0.mk (Kd.R_elder' (by(with_reducible repeat(first | apply Kd.R_alloc | apply Kd.R_drewN | apply Kd.R_drew));exact HO135.out) (Kd.R_base ho12) hb);have n2_:=Aside0.mk (Kd.R_elder' (by(with_reducible repeat(first | apply Kd.R_alloc | apply Kd.R_drewN | apply Kd.R_drew));exact HO139.out) (Kd.R_base ho12) hb);have n3_:=Aside0.mk (Kd.R_lower (Kd.R_new' (Kd.R_new' (Kd.R_new' ho12 (Kd.R_lt (by(with_reducible repeat(first | apply Kd.R_alloc | apply Kd.R_drewN | apply Kd.R_drew));exact HO131.out))) (Kd.R_lt (by(with_reducible repeat(first | apply Kd.R_alloc | apply Kd.R_drewN | apply Kd.R_drew));exact HO135.out))) (Kd.R_lt (by(with_reducible repeat(first | apply Kd.R_alloc | apply Kd.R_drewN | apply Kd.R_drew));exact HO139.out))) (bwZ (by repeat(first |(with_reducible first | exact HB.out | apply bwA | apply bwN | apply bw1) | exact HB.out))));have n4_:=Aside0.mk (bwT (by repeat(first |(with_reducible first | exact HB.out | apply bwA | apply bwN | apply bw1) | exact HB.out)) hb);clear HO131;clear HO135;clear HO139;clear HB;have HO131:=n0_;have HO135:=n1_;have HO139:=n2_;have HO144:=n3_;have HB:=n4_;clear n0_ n1_ n2_ n3_ n4_;clear hb ho12;obtain ⟨Ao13,co13,eo13⟩:=Kd.R_slice HO144.out;subst eo13) |((with_reducible refine gate_callee (f:=17) rfl ?_);refine goesL_ (some 29) rfl rfl Try.func17 (by kernel_rfl) rfl #[.slice Ao13 y142.length co13,.int .i64 3] rfl (by(try simp only [List.map_toArray,List.map_cons,List.map_nil]);first | done | rfl |(simp only [List.length_drop,List.length_take];rfl)) ?_;(with_reducible refine(turns_Setting.calls _ _ y142 3 t145 t146 _ ?side1 ?side2 A5.out).mono ?_);(case side1=>repeat(first | exact(Kd.R_reads' HO144.out).2.2 |(with_reducible refine Kd.C_alloc ?_ _) |(with_reducible refine Kd.C_drewN ?_ _) |(with_reducible refine Kd.C_drew ?_)));(case side2=>exact(Kd.R_reads' HO144.out).2.1);rintro e w14 ⟨v147,rfl,ho0,hb⟩;refine⟨_,rfl,?_⟩;have n0_:=Aside0.mk (Kd.R_elder' (by(with_reducible repeat(first | apply Kd.R_alloc | apply Kd.R_drewN | apply Kd.R_drew));exact HO131.out) (Kd.R_base ho0) hb);have n1_:=Aside0.mk (Kd.R_elder' (by(with_reducible repeat(first | apply Kd.R_alloc | apply Kd.R_drewN | apply Kd.R_drew));exact HO135.out) (Kd.R_base ho0) hb);have n2_:=Aside0.mk (Kd.R_elder' (by(with_reducible repeat(first | apply Kd.R_alloc | apply Kd.R_drewN | apply Kd.R_drew));exact HO139.out) (Kd.R_base ho0) hb);have n3_:=Aside0.mk (Kd.R_elder' (by(with_reducible repeat(first | apply Kd.R_alloc | apply Kd.R_drewN | apply Kd.R_drew));exact HO144.out) (Kd.R_base ho0) hb);have n4_:=Aside0.mk (Kd.R_lower (Kd.R_new' (Kd.R_new' (Kd.R_new' (Kd.R_new' ho0 (Kd.R_lt (by(with_reducible repeat(first | apply Kd.R_alloc | apply Kd.R_drewN | apply Kd.R_drew));exact HO131.out))) (Kd.R_lt (by(with_reducible repeat(first | apply Kd.R_alloc | apply Kd.R_drewN | apply Kd.R_drew));exact HO135.out))) (Kd.R_lt (by(with_reducible repeat(first | apply Kd.R_alloc | apply Kd.R_drewN | apply Kd.R_drew));exact HO139.out))) (Kd.R_lt (by(with_reducible repeat(first | apply Kd.R_alloc | apply Kd.R_drewN | apply Kd.R_drew));exact HO144.out))) (bwZ (by repeat(first |(with_reducible first | exact HB.out | apply bwA | apply bwN | apply bw1) | exact HB.out))));have n5_:=Aside0.mk (bwT (by repeat(first |(with_reducible first | exact HB.out | apply bwA | apply bwN | apply bw1) | exact HB.out)) hb);clear HO131;clear HO135;clear HO139;clear HO144;clear HB;have HO131:=n0_;have HO135:=n1_;have HO139:=n2_;have HO144:=n3_;have HO148:=n4_;have HB:=n5_;clear n0_ n1_ n2_ n3_ n4_ n5_;(try clear hb);(try clear hb2);(try clear hk);(try clear hi);(try clear ho0)))
 (try simp only [Act.put,List.setIfInBounds_toArray,List.set_cons_zero,List.set_cons_succ])
 go_cut [77] (fun v77 wc=>∃ (kq : Nat) (x77_5 : Bool),v77 = .bool x77_5∧Aside0 (w10_awake.j0 kq x77_5 = some r)∧Aside0 (kq≤k)∧Aside0 (Below w.heap.size w wc))
 case first =>
  have H:=HC6.out
  clear HC6
  by_cases c15 : t129 = 0
  rotate_left
  ·rw [if_neg c15] at H
   have c15b0 :(t129 == 0) = false:=beq_eq_false_iff_ne.mpr c15
   have c15b1 :(t129 != 0) = true:=bne_iff_ne.mpr c15
   (first | rw [c15b0] |(simp only [i64_w,i32_w];rw [c15b0]) | skip)
   have H':=Aside0.mk H
   clear H
   go_wp2
   go_meet
   exact⟨_,(true),(by first | rfl |(simp;done) |(simp [*];done)),H',⟨by first | omega | exact Nat.le_refl _⟩,⟨by repeat(first |(with_reducible first | exact HB.out | apply bwA | apply bwN | apply bw1) | exact HB.out)⟩⟩
  rw [if_pos c15] at H
  have c15b0 :(t129 == 0) = true:=beq_iff_eq.mpr c15
  have c15b1 :(t129 != 0) = false:=bne_eq_false_iff_eq.mpr c15
  clear c15
  (first | rw [c15b0] |(simp only [i64_w,i32_w];rw [c15b0]) | skip)
  obtain ⟨y149,hy149⟩ : ∃ y_ : List Int,y_ =(([1,2] : List Int)):=⟨_,rfl⟩
  replace H :((w10_ints.f k t128 y149).bind fun t152=>(if t152 = true then(if t133 = 0 then((w10_ints.f k t132 (([2,3] : List Int))).bind fun t156=>(if t156 = true then(if t137 = 0 then((w10_ints.f k t136 (([3,2,1] : List Int))).bind fun t160=>(if t160 = true then(if t141 = 0 then(if t140 = 52 then(if t146 = 0 then((w10_ints.f k t145 (([1,2] : List Int))).bind fun t164=>(w10_awake.j0 k (!t164))) else(w10_awake.j0 k true)) else(w10_awake.j0 k true)) else(w10_awake.j0 k true)) else(w10_awake.j0 k true))) else(w10_awake.j0 k true)) else(w10_awake.j0 k true))) else(w10_awake.j0 k true)) else(w10_awake.j0 k true))) = some r:=by first |(rw [hy149];with_reducible exact H) |(have H2_:=(Option.bind_some _ _).symm.trans H;rw [hy149];with_reducible exact H2_) |(have H2_:=(Option.bind_some _ _).symm.trans H;with_reducible exact H2_) | with_reducible exact H |(rw [hy149];exact H) | exact H
  have Ny149:=Aside0.mk hy149
  clear hy149
  replace H:=Option.bind_eq_some_iff.mp H
  obtain ⟨t152,A160,H⟩:=H
  replace H :(if t152 = true then(if t133 = 0 then((w10_ints.f k t132 (([2,3] : List Int))).bind fun t156=>(if t156 = true then(if t137 = 0 then((w10_ints.f k t136 (([3,2,1] : List Int))).bind fun t160=>(if t160 = true then(if t141 = 0 then(if t140 = 52 then(if t146 = 0 then((w10_ints.f k t145 (([1,2] : List Int))).bind fun t164=>(w10_awake.j0 k (!t164))) else(w10_awake.j0 k true)) else(w10_awake.j0 k true)) else(w10_awake.j0 k true)) else(w10_awake.j0 k true))) else(w10_awake.j0 k true)) else(w10_awake.j0 k true))) else(w10_awake.j0 k true)) else(w10_awake.j0 k true)) = some r:=H
  have A16:=Aside0.mk A160
  clear A160
  by_cases c17 : t152 = true
  rotate_left
  ·replace c17 := Bool.eq_false_iff.mpr c17
   subst c17
   have H1 :(w10_awake.j0 k true) = some r:=by rw [if_neg (show ¬ (false = true) by decide)] at H;exact H
   clear H
   have H:=H1
   clear H1
   have H':=Aside0.mk H
   clear H
   go_wp2_with (first |((with_reducible refine gate_dst (N:=36) rfl ?_);(try(refine gate_guard (by rfl) ?_;dsimp only));refine Kd.R_lit (Kd.int .i64) _ 3 ?hg (N:=36) ?hd (xs:=([1,2] : List Int)) (inner:=[.int .i64 1,.int .i64 2]) (ok:=fun _=>True) (okp:=fun _=>True) ?hr ?hp (fun _ hk=>hk) trivial (Below.refl _ _) (Nat.le_refl _) (by simp) ?_;(case hd=>rfl);(case hg=>rfl);(case hr=>first |(go_simp;done) |(go_simp;rfl));(case hp=>exact(Reps.one (show Kd.M (Kd.int .i64) _ _ _ 1 [.int .i64 1] from rfl) (Reps.one (show Kd.M (Kd.int .i64) _ _ _ 2 [.int .i64 2] from rfl) (Reps.none _ _))));intro v150 w112 ho113 hb hg_ hnew_;clear hg_ hnew_;(first | rw [← Ny149.out] at ho113 |(simp only [Int.reduceToNat] at ho113;rw [← Ny149.out] at ho113));have n0_:=Aside0.mk (Kd.R_elder' (by(with_reducible repeat(first | apply Kd.R_alloc | apply Kd.R_drewN | apply Kd.R_drew));exact HO131.out) (Kd.R_base ho113) hb);have n1_:=Aside0.mk (Kd.R_elder' (by(with_reducible repeat(first | apply Kd.R_alloc | apply Kd.R_drewN | apply Kd.R_drew));exact HO135.out) (Kd.R_base ho113) hb);have n2_:=Aside0.mk (Kd.R_elder' (by(with_reducible repeat(first | apply Kd.R_alloc | apply Kd.R_drewN | apply Kd.R_drew));exact HO139.out) (Kd.R_base ho113) hb);have n3_:=Aside0.mk (Kd.R_elder' (by(with_reducible repeat(first | apply Kd.R_alloc | apply Kd.R_drewN | apply Kd.R_drew));exact HO144.out) (Kd.R_base ho113) hb);have n4_:=Aside0.mk (Kd.R_elder' (by(with_reducible repeat(first | apply Kd.R_alloc | apply Kd.R_drewN | apply Kd.R_drew));exact HO148.out) (Kd.R_base ho113) hb);have n5_:=Aside0.mk (Kd.R_lower (Kd.R_new' (Kd.R_new' (Kd.R_new' (Kd.R_new' (Kd.R_new' ho113 (Kd.R_lt (by(with_reducible repeat(first | apply Kd.R_alloc | apply Kd.R_drewN | apply Kd.R_drew));exact HO131.out))) (Kd.R_lt (by(with_reducible repeat(first | apply Kd.R_alloc | apply Kd.R_drewN | apply Kd.R_drew));exact HO135.out))) (Kd.R_lt (by(with_reducible repeat(first | apply Kd.R_alloc | apply Kd.R_drewN | apply Kd.R_drew));exact HO139.out))) (Kd.R_lt (by(with_reducible repeat(first | apply Kd.R_alloc | apply Kd.R_drewN | apply Kd.R_drew));exact HO144.out))) (Kd.R_lt (by(with_reducible repeat(first | apply Kd.R_alloc | apply Kd.R_drewN | apply Kd.R_drew));exact HO148.out))) (bwZ (by repeat(first |(with_reducible first | exact HB.out | apply bwA | apply bwN | apply bw1) | exact HB.out))));have n6_:=Aside0.mk (bwT (by repeat(first |(with_reducible first | exact HB.out | apply bwA | apply bwN | apply bw1) | exact HB.out)) hb);clear HO131;clear HO135;clear HO139;clear HO144;clear HO148;clear HB;have HO131:=n0_;have HO135:=n1_;have HO139:=n2_;have HO144:=n3_;have HO148:=n4_;have HO151:=n5_;have HB:=n6_;clear n0_ n1_ n2_ n3_ n4_ n5_ n6_;clear hb ho113;obtain ⟨Ao114,co114,eo114⟩:=Kd.R_slice HO131.out;subst eo114;obtain ⟨Ao115,co115,eo115⟩:=Kd.R_slice HO151.out;subst eo115) |(go_at_call 22;(with_reducible refine(w10_ints.calls k _ _ t128 _ _ y149 false _ ?side1 ?side2 ?side3 ?side4 A16.out).mono ?_);(case side1=>repeat(first | exact(Kd.R_reads' HO131.out).2.2 |(with_reducible refine Kd.C_alloc ?_ _) |(with_reducible refine Kd.C_drewN ?_ _) |(with_reducible refine Kd.C_drew ?_)));(case side2=>exact(Kd.R_reads' HO131.out).2.1);(case side3=>repeat(first | exact(Kd.R_reads' HO151.out).2.2 |(with_reducible refine Kd.C_alloc ?_ _) |(with_reducible refine Kd.C_drewN ?_ _) |(with_reducible refine Kd.C_drew ?_)));(case side4=>exact(Kd.R_reads' HO151.out).2.1);rintro e w' ⟨rfl,⟨nd,rfl⟩⟩))
   go_meet
   exact⟨_,(true),(by first | rfl |(simp;done) |(simp [*];done)),H',⟨by first | omega | exact Nat.le_refl _⟩,⟨by repeat(first |(with_reducible first | exact HB.out | apply bwA | apply bwN | apply bw1) | exact HB.out)⟩⟩
  subst c17
  have H1 :(if t133 = 0 then((w10_ints.f k t132 (([2,3] : List Int))).bind fun t156=>(if t156 = true then(if t137 = 0 then((w10_ints.f k t136 (([3,2,1] : List Int))).bind fun t160=>(if t160 = true then(if t141 = 0 then(if t140 = 52 then(if t146 = 0 then((w10_ints.f k t145 (([1,2] : List Int))).bind fun t164=>(w10_awake.j0 k (!t164))) else(w10_awake.j0 k true)) else(w10_awake.j0 k true)) else(w10_awake.j0 k true)) else(w10_awake.j0 k true))) else(w10_awake.j0 k true)) else(w10_awake.j0 k true))) else(w10_awake.j0 k true)) = some r:=by rw [if_pos rfl] at H;exact H
  clear H
  have H:=H1
  clear H1
  by_cases c18 : t133 = 0
  rotate_left
  ·rw [if_neg c18] at H
   have c18b0 :(t133 == 0) = false:=beq_eq_false_iff_ne.mpr c18
   have c18b1 :(t133 != 0) = true:=bne_iff_ne.mpr c18
   have H':=Aside0.mk H
   clear H
   go_wp2_with (first |((with_reducible refine gate_dst (N:=36) rfl ?_);(try(refine gate_guard (by rfl) ?_;dsimp only));refine Kd.R_lit (Kd.int .i64) _ 3 ?hg (N:=36) ?hd (xs:=([1,2] : List Int)) (inner:=[.int .i64 1,.int .i64 2]) (ok:=fun _=>True) (okp:=fun _=>True) ?hr ?hp (fun _ hk=>hk) trivial (Below.refl _ _) (Nat.le_refl _) (by simp) ?_;(case hd=>rfl);(case hg=>rfl);(case hr=>first |(go_simp;done) |(go_simp;rfl));(case hp=>exact(Reps.one (show Kd.M (Kd.int .i64) _ _ _ 1 [.int .i64 1] from rfl) (Reps.one (show Kd.M (Kd.int .i64) _ _ _ 2 [.int .i64 2] from rfl) (Reps.none _ _))));intro v150 w108 ho109 hb hg_ hnew_;clear hg_ hnew_;(first | rw [← Ny149.out] at ho109 |(simp only [Int.reduceToNat] at ho109;rw [← Ny149.out] at ho109));have n0_:=Aside0.mk (Kd.R_elder' (by(with_reducible repeat(first | apply Kd.R_alloc | apply Kd.R_drewN | apply Kd.R_drew));exact HO131.out) (Kd.R_base ho109) hb);have n1_:=Aside0.mk (Kd.R_elder' (by(with_reducible repeat(first | apply Kd.R_alloc | apply Kd.R_drewN | apply Kd.R_drew));exact HO135.out) (Kd.R_base ho109) hb);have n2_:=Aside0.mk (Kd.R_elder' (by(with_reducible repeat(first | apply Kd.R_alloc | apply Kd.R_drewN | apply Kd.R_drew));exact HO139.out) (Kd.R_base ho109) hb);have n3_:=Aside0.mk (Kd.R_elder' (by(with_reducible repeat(first | apply Kd.R_alloc | apply Kd.R_drewN | apply Kd.R_drew));exact HO144.out) (Kd.R_base ho109) hb);have n4_:=Aside0.mk (Kd.R_elder' (by(with_reducible repeat(first | apply Kd.R_alloc | apply Kd.R_drewN | apply Kd.R_drew));exact HO148.out) (Kd.R_base ho109) hb);have n5_:=Aside0.mk (Kd.R_lower (Kd.R_new' (Kd.R_new' (Kd.R_new' (Kd.R_new' (Kd.R_new' ho109 (Kd.R_lt (by(with_reducible repeat(first | apply Kd.R_alloc | apply Kd.R_drewN | apply Kd.R_drew));exact HO131.out))) (Kd.R_lt (by(with_reducible repeat(first | apply Kd.R_alloc | apply Kd.R_drewN | apply Kd.R_drew));exact HO135.out))) (Kd.R_lt (by(with_reducible repeat(first | apply Kd.R_alloc | apply Kd.R_drewN | apply Kd.R_drew));exact HO139.out))) (Kd.R_lt (by(with_reducible repeat(first | apply Kd.R_alloc | apply Kd.R_drewN | apply Kd.R_drew));exact HO144.out))) (Kd.R_lt (by(with_reducible repeat(first | apply Kd.R_alloc | apply Kd.R_drewN | apply Kd.R_drew));exact HO148.out))) (bwZ (by repeat(first |(with_reducible first | exact HB.out | apply bwA | apply bwN | apply bw1) | exact HB.out))));have n6_:=Aside0.mk (bwT (by repeat(first |(with_reducible first | exact HB.out | apply bwA | apply bwN | apply bw1) | exact HB.out)) hb);clear HO131;clear HO135;clear HO139;clear HO144;clear HO148;clear HB;have HO131:=n0_;have HO135:=n1_;have HO139:=n2_;have HO144:=n3_;have HO148:=n4_;have HO151:=n5_;have HB:=n6_;clear n0_ n1_ n2_ n3_ n4_ n5_ n6_;clear hb ho109;obtain ⟨Ao110,co110,eo110⟩:=Kd.R_slice HO131.out;subst eo110;obtain ⟨Ao111,co111,eo111⟩:=Kd.R_slice HO151.out;subst eo111) |(go_at_call 22;(with_reducible refine(w10_ints.calls k _ _ t128 _ _ y149 true _ ?side1 ?side2 ?side3 ?side4 A16.out).mono ?_);(case side1=>repeat(first | exact(Kd.R_reads' HO131.out).2.2 |(with_reducible refine Kd.C_alloc ?_ _) |(with_reducible refine Kd.C_drewN ?_ _) |(with_reducible refine Kd.C_drew ?_)));(case side2=>exact(Kd.R_reads' HO131.out).2.1);(case side3=>repeat(first | exact(Kd.R_reads' HO151.out).2.2 |(with_reducible refine Kd.C_alloc ?_ _) |(with_reducible refine Kd.C_drewN ?_ _) |(with_reducible refine Kd.C_drew ?_)));(case side4=>exact(Kd.R_reads' HO151.out).2.1);rintro e w' ⟨rfl,⟨nd,rfl⟩⟩))
   go_meet
   exact⟨_,(true),(by first | rfl |(simp;done) |(simp [*];done)),H',⟨by first | omega | exact Nat.le_refl _⟩,⟨by repeat(first |(with_reducible first | exact HB.out | apply bwA | apply bwN | apply bw1) | exact HB.out)⟩⟩
  rw [if_pos c18] at H
  have c18b0 :(t133 == 0) = true:=beq_iff_eq.mpr c18
  have c18b1 :(t133 != 0) = false:=bne_eq_false_iff_eq.mpr c18
  clear c18
  obtain ⟨y153,hy153⟩ : ∃ y_ : List Int,y_ =(([2,3] : List Int)):=⟨_,rfl⟩
  replace H :((w10_ints.f k t132 y153).bind fun t156=>(if t156 = true then(if t137 = 0 then((w10_ints.f k t136 (([3,2,1] : List Int))).bind fun t160=>(if t160 = true then(if t141 = 0 then(if t140 = 52 then(if t146 = 0 then((w10_ints.f k t145 (([1,2] : List Int))).bind fun t164=>(w10_awake.j0 k (!t164))) else(w10_awake.j0 k true)) else(w10_awake.j0 k true)) else(w10_awake.j0 k true)) else(w10_awake.j0 k true))) else(w10_awake.j0 k true)) else(w10_awake.j0 k true))) = some r:=by first |(rw [hy153];with_reducible exact H) |(have H2_:=(Option.bind_some _ _).symm.trans H;rw [hy153];with_reducible exact H2_) |(have H2_:=(Option.bind_some _ _).symm.trans H;with_reducible exact H2_) | with_reducible exact H |(rw [hy153];exact H) | exact H
  have Ny153:=Aside0.mk hy153
  clear hy153
  replace H:=Option.bind_eq_some_iff.mp H
  obtain ⟨t156,A190,H⟩:=H
  replace H :(if t156 = true then(if t137 = 0 then((w10_ints.f k t136 (([3,2,1] : List Int))).bind fun t160=>(if t160 = true then(if t141 = 0 then(if t140 = 52 then(if t146 = 0 then((w10_ints.f k t145 (([1,2] : List Int))).bind fun t164=>(w10_awake.j0 k (!t164))) else(w10_awake.j0 k true)) else(w10_awake.j0 k true)) else(w10_awake.j0 k true)) else(w10_awake.j0 k true))) else(w10_awake.j0 k true)) else(w10_awake.j0 k true)) = some r:=H
  have A19:=Aside0.mk A190
  clear A190
  by_cases c20 : t156 = true
  rotate_left
  ·replace c20 := Bool.eq_false_iff.mpr c20
   subst c20
   have H1 :(w10_awake.j0 k true) = some r:=by rw [if_neg (show ¬ (false = true) by decide)] at H;exact H
   clear H
   have H:=H1
   clear H1
   have H':=Aside0.mk H
   clear H
   go_wp2_with (first |((with_reducible refine gate_dst (N:=36) rfl ?_);(try(refine gate_guard (by rfl) ?_;dsimp only));refine Kd.R_lit (Kd.int .i64) _ 3 ?hg (N:=36) ?hd (xs:=([1,2] : List Int)) (inner:=[.int .i64 1,.int .i64 2]) (ok:=fun _=>True) (okp:=fun _=>True) ?hr ?hp (fun _ hk=>hk) trivial (Below.refl _ _) (Nat.le_refl _) (by simp) ?_;(case hd=>rfl);(case hg=>rfl);(case hr=>first |(go_simp;done) |(go_simp;rfl));(case hp=>exact(Reps.one (show Kd.M (Kd.int .i64) _ _ _ 1 [.int .i64 1] from rfl) (Reps.one (show Kd.M (Kd.int .i64) _ _ _ 2 [.int .i64 2] from rfl) (Reps.none _ _))));intro v150 w100 ho101 hb hg_ hnew_;clear hg_ hnew_;(first | rw [← Ny149.out] at ho101 |(simp only [Int.reduceToNat] at ho101;rw [← Ny149.out] at ho101));have n0_:=Aside0.mk (Kd.R_elder' (by(with_reducible repeat(first | apply Kd.R_alloc | apply Kd.R_drewN | apply Kd.R_drew));exact HO131.out) (Kd.R_base ho101) hb);have n1_:=Aside0.mk (Kd.R_elder' (by(with_reducible repeat(first | apply Kd.R_alloc | apply Kd.R_drewN | apply Kd.R_drew));exact HO135.out) (Kd.R_base ho101) hb);have n2_:=Aside0.mk (Kd.R_elder' (by(with_reducible repeat(first | apply Kd.R_alloc | apply Kd.R_drewN | apply Kd.R_drew));exact HO139.out) (Kd.R_base ho101) hb);have n3_:=Aside0.mk (Kd.R_elder' (by(with_reducible repeat(first | apply Kd.R_alloc | apply Kd.R_drewN | apply Kd.R_drew));exact HO144.out) (Kd.R_base ho101) hb);have n4_:=Aside0.mk (Kd.R_elder' (by(with_reducible repeat(first | apply Kd.R_alloc | apply Kd.R_drewN | apply Kd.R_drew));exact HO148.out) (Kd.R_base ho101) hb);have n5_:=Aside0.mk (Kd.R_lower (Kd.R_new' (Kd.R_new' (Kd.R_new' (Kd.R_new' (Kd.R_new' ho101 (Kd.R_lt (by(with_reducible repeat(first | apply Kd.R_alloc | apply Kd.R_drewN | apply Kd.R_drew));exact HO131.out))) (Kd.R_lt (by(with_reducible repeat(first | apply Kd.R_alloc | apply Kd.R_drewN | apply Kd.R_drew));exact HO135.out))) (Kd.R_lt (by(with_reducible repeat(first | apply Kd.R_alloc | apply Kd.R_drewN | apply Kd.R_drew));exact HO139.out))) (Kd.R_lt (by(with_reducible repeat(first | apply Kd.R_alloc | apply Kd.R_drewN | apply Kd.R_drew));exact HO144.out))) (Kd.R_lt (by(with_reducible repeat(first | apply Kd.R_alloc | apply Kd.R_drewN | apply Kd.R_drew));exact HO148.out))) (bwZ (by repeat(first |(with_reducible first | exact HB.out | apply bwA | apply bwN | apply bw1) | exact HB.out))));have n6_:=Aside0.mk (bwT (by repeat(first |(with_reducible first | exact HB.out | apply bwA | apply bwN | apply bw1) | exact HB.out)) hb);clear HO131;clear HO135;clear HO139;clear HO144;clear HO148;clear HB;have HO131:=n0_;have HO135:=n1_;have HO139:=n2_;have HO144:=n3_;have HO148:=n4_;have HO151:=n5_;have HB:=n6_;clear n0_ n1_ n2_ n3_ n4_ n5_ n6_;clear hb ho101;obtain ⟨Ao102,co102,eo102⟩:=Kd.R_slice HO131.out;subst eo102;obtain ⟨Ao103,co103,eo103⟩:=Kd.R_slice HO151.out;subst eo103) |(go_at_call 22;(with_reducible refine(w10_ints.calls k _ _ t128 _ _ y149 true _ ?side1 ?side2 ?side3 ?side4 A16.out).mono ?_);(case side1=>repeat(first | exact(Kd.R_reads' HO131.out).2.2 |(with_reducible refine Kd.C_alloc ?_ _) |(with_reducible refine Kd.C_drewN ?_ _) |(with_reducible refine Kd.C_drew ?_)));(case side2=>exact(Kd.R_reads' HO131.out).2.1);(case side3=>repeat(first | exact(Kd.R_reads' HO151.out).2.2 |(with_reducible refine Kd.C_alloc ?_ _) |(with_reducible refine Kd.C_drewN ?_ _) |(with_reducible refine Kd.C_drew ?_)));(case side4=>exact(Kd.R_reads' HO151.out).2.1);rintro e w' ⟨rfl,⟨nd,rfl⟩⟩) |((with_reducible refine gate_dst (N:=46) rfl ?_);(try(refine gate_guard (by rfl) ?_;dsimp only));refine Kd.R_lit (Kd.int .i64) _ 3 ?hg (N:=46) ?hd (xs:=([2,3] : List Int)) (inner:=[.int .i64 2,.int .i64 3]) (ok:=fun _=>True) (okp:=fun _=>True) ?hr ?hp (fun _ hk=>hk) trivial (Below.refl _ _) (Nat.le_refl _) (by simp) ?_;(case hd=>rfl);(case hg=>rfl);(case hr=>first |(go_simp;done) |(go_simp;rfl));(case hp=>exact(Reps.one (show Kd.M (Kd.int .i64) _ _ _ 2 [.int .i64 2] from rfl) (Reps.one (show Kd.M (Kd.int .i64) _ _ _ 3 [.int .i64 3] from rfl) (Reps.none _ _))));intro v154 w104 ho105 hb hg_ hnew_;clear hg_ hnew_;(first | rw [← Ny153.out] at ho105 |(simp only [Int.reduceToNat] at ho105;rw [← Ny153.out] at ho105));have n0_:=Aside0.mk (Kd.R_elder' (by(with_reducible repeat(first | apply Kd.R_alloc | apply Kd.R_drewN | apply Kd.R_drew));exact HO131.out) (Kd.R_base ho105) hb);have n1_:=Aside0.mk (Kd.R_elder' (by(with_reducible repeat(first | apply Kd.R_alloc | apply Kd.R_drewN | apply Kd.R_drew));exact HO135.out) (Kd.R_base ho105) hb);have n2_:=Aside0.mk (Kd.R_elder' (by(with_reducible repeat(first | apply Kd.R_alloc | apply Kd.R_drewN | apply Kd.R_drew));exact HO139.out) (Kd.R_base ho105) hb);have n3_:=Aside0.mk (Kd.R_elder' (by(with_reducible repeat(first | apply Kd.R_alloc | apply Kd.R_drewN | apply Kd.R_drew));exact HO144.out) (Kd.R_base ho105) hb);have n4_:=Aside0.mk (Kd.R_elder' (by(with_reducible repeat(first | apply Kd.R_alloc | apply Kd.R_drewN | apply Kd.R_drew));exact HO148.out) (Kd.R_base ho105) hb);have n5_:=Aside0.mk (Kd.R_elder' (by(with_reducible repeat(first | apply Kd.R_alloc | apply Kd.R_drewN | apply Kd.R_drew));exact HO151.out) (Kd.R_base ho105) hb);have n6_:=Aside0.mk (Kd.R_lower (Kd.R_new' (Kd.R_new' (Kd.R_new' (Kd.R_new' (Kd.R_new' (Kd.R_new' ho105 (Kd.R_lt (by(with_reducible repeat(first | apply Kd.R_alloc | apply Kd.R_drewN | apply Kd.R_drew));exact HO131.out))) (Kd.R_lt (by(with_reducible repeat(first | apply Kd.R_alloc | apply Kd.R_drewN | apply Kd.R_drew));exact HO135.out))) (Kd.R_lt (by(with_reducible repeat(first | apply Kd.R_alloc | apply Kd.R_drewN | apply Kd.R_drew));exact HO139.out))) (Kd.R_lt (by(with_reducible repeat(first | apply Kd.R_alloc | apply Kd.R_drewN | apply Kd.R_drew));exact HO144.out))) (Kd.R_lt (by(with_reducible repeat(first | apply Kd.R_alloc | apply Kd.R_drewN | apply Kd.R_drew));exact HO148.out))) (Kd.R_lt (by(with_reducible repeat(first | apply Kd.R_alloc | apply Kd.R_drewN | apply Kd.R_drew));exact HO151.out))) (bwZ (by repeat(first |(with_reducible first | exact HB.out | apply bwA | apply bwN | apply bw1) | exact HB.out))));have n7_:=Aside0.mk (bwT (by repeat(first |(with_reducible first | exact HB.out | apply bwA | apply bwN | apply bw1) | exact HB.out)) hb);clear HO131;clear HO135;clear HO139;clear HO144;clear HO148;clear HO151;clear HB;have HO131:=n0_;have HO135:=n1_;have HO139:=n2_;have HO144:=n3_;have HO148:=n4_;have HO151:=n5_;have HO155:=n6_;have HB:=n7_;clear n0_ n1_ n2_ n3_ n4_ n5_ n6_ n7_;clear hb ho105;obtain ⟨Ao106,co106,eo106⟩:=Kd.R_slice HO135.out;subst eo106;obtain ⟨Ao107,co107,eo107⟩:=Kd.R_slice HO155.out;subst eo107) |(go_at_call 22;(with_reducible refine(w10_ints.calls k _ _ t132 _ _ y153 false _ ?side1 ?side2 ?side3 ?side4 A19.out).mono ?_);(case side1=>repeat(first | exact(Kd.R_reads' HO135.out).2.2 |(with_reducible refine Kd.C_alloc ?_ _) |(with_reducible refine Kd.C_drewN ?_ _) |(with_reducible refine Kd.C_drew ?_)));(case side2=>exact(Kd.R_reads' HO135.out).2.1);(case side3=>repeat(first | exact(Kd.R_reads' HO155.out).2.2 |(with_reducible refine Kd.C_alloc ?_ _) |(with_reducible refine Kd.C_drewN ?_ _) |(with_reducible refine Kd.C_drew ?_)));(case side4=>exact(Kd.R_reads' HO155.out).2.1);rintro e w' ⟨rfl,⟨nd,rfl⟩⟩))
   go_meet
   exact⟨_,(true),(by first | rfl |(simp;done) |(simp [*];done)),H',⟨by first | omega | exact Nat.le_refl _⟩,⟨by repeat(first |(with_reducible first | exact HB.out | apply bwA | apply bwN | apply bw1) | exact HB.out)⟩⟩
  subst c20
  have H1 :(if t137 = 0 then((w10_ints.f k t136 (([3,2,1] : List Int))).bind fun t160=>(if t160 = true then(if t141 = 0 then(if t140 = 52 then(if t146 = 0 then((w10_ints.f k t145 (([1,2] : List Int))).bind fun t164=>(w10_awake.j0 k (!t164))) else(w10_awake.j0 k true)) else(w10_awake.j0 k true)) else(w10_awake.j0 k true)) else(w10_awake.j0 k true))) else(w10_awake.j0 k true)) = some r:=by rw [if_pos rfl] at H;exact H
  clear H
  have H:=H1
  clear H1
  by_cases c21 : t137 = 0
  rotate_left
  ·rw [if_neg c21] at H
   have c21b0 :(t137 == 0) = false:=beq_eq_false_iff_ne.mpr c21
   have c21b1 :(t137 != 0) = true:=bne_iff_ne.mpr c21
   have H':=Aside0.mk H
   clear H
   go_wp2_with (first |((with_reducible refine gate_dst (N:=36) rfl ?_);(try(refine gate_guard (by rfl) ?_;dsimp only));refine Kd.R_lit (Kd.int .i64) _ 3 ?hg (N:=36) ?hd (xs:=([1,2] : List Int)) (inner:=[.int .i64 1,.int .i64 2]) (ok:=fun _=>True) (okp:=fun _=>True) ?hr ?hp (fun _ hk=>hk) trivial (Below.refl _ _) (Nat.le_refl _) (by simp) ?_;(case hd=>rfl);(case hg=>rfl);(case hr=>first |(go_simp;done) |(go_simp;rfl));(case hp=>exact(Reps.one (show Kd.M (Kd.int .i64) _ _ _ 1 [.int .i64 1] from rfl) (Reps.one (show Kd.M (Kd.int .i64) _ _ _ 2 [.int .i64 2] from rfl) (Reps.none _ _))));intro v150 w92 ho93 hb hg_ hnew_;clear hg_ hnew_;(first | rw [← Ny149.out] at ho93 |(simp only [Int.reduceToNat] at ho93;rw [← Ny149.out] at ho93));have n0_:=Aside0.mk (Kd.R_elder' (by(with_reducible repeat(first | apply Kd.R_alloc | apply Kd.R_drewN | apply Kd.R_drew));exact HO131.out) (Kd.R_base ho93) hb);have n1_:=Aside0.mk (Kd.R_elder' (by(with_reducible repeat(first | apply Kd.R_alloc | apply Kd.R_drewN | apply Kd.R_drew));exact HO135.out) (Kd.R_base ho93) hb);have n2_:=Aside0.mk (Kd.R_elder' (by(with_reducible repeat(first | apply Kd.R_alloc | apply Kd.R_drewN | apply Kd.R_drew));exact HO139.out) (Kd.R_base ho93) hb);have n3_:=Aside0.mk (Kd.R_elder' (by(with_reducible repeat(first | apply Kd.R_alloc | apply Kd.R_drewN | apply Kd.R_drew));exact HO144.out) (Kd.R_base ho93) hb);have n4_:=Aside0.mk (Kd.R_elder' (by(with_reducible repeat(first | apply Kd.R_alloc | apply Kd.R_drewN | apply Kd.R_drew));exact HO148.out) (Kd.R_base ho93) hb);have n5_:=Aside0.mk (Kd.R_lower (Kd.R_new' (Kd.R_new' (Kd.R_new' (Kd.R_new' (Kd.R_new' ho93 (Kd.R_lt (by(with_reducible repeat(first | apply Kd.R_alloc | apply Kd.R_drewN | apply Kd.R_drew));exact HO131.out))) (Kd.R_lt (by(with_reducible repeat(first | apply Kd.R_alloc | apply Kd.R_drewN | apply Kd.R_drew));exact HO135.out))) (Kd.R_lt (by(with_reducible repeat(first | apply Kd.R_alloc | apply Kd.R_drewN | apply Kd.R_drew));exact HO139.out))) (Kd.R_lt (by(with_reducible repeat(first | apply Kd.R_alloc | apply Kd.R_drewN | apply Kd.R_drew));exact HO144.out))) (Kd.R_lt (by(with_reducible repeat(first | apply Kd.R_alloc | apply Kd.R_drewN | apply Kd.R_drew));exact HO148.out))) (bwZ (by repeat(first |(with_reducible first | exact HB.out | apply bwA | apply bwN | apply bw1) | exact HB.out))));have n6_:=Aside0.mk (bwT (by repeat(first |(with_reducible first | exact HB.out | apply bwA | apply bwN | apply bw1) | exact HB.out)) hb);clear HO131;clear HO135;clear HO139;clear HO144;clear HO148;clear HB;have HO131:=n0_;have HO135:=n1_;have HO139:=n2_;have HO144:=n3_;have HO148:=n4_;have HO151:=n5_;have HB:=n6_;clear n0_ n1_ n2_ n3_ n4_ n5_ n6_;clear hb ho93;obtain ⟨Ao94,co94,eo94⟩:=Kd.R_slice HO131.out;subst eo94;obtain ⟨Ao95,co95,eo95⟩:=Kd.R_slice HO151.out;subst eo95) |(go_at_call 22;(with_reducible refine(w10_ints.calls k _ _ t128 _ _ y149 true _ ?side1 ?side2 ?side3 ?side4 A16.out).mono ?_);(case side1=>repeat(first | exact(Kd.R_reads' HO131.out).2.2 |(with_reducible refine Kd.C_alloc ?_ _) |(with_reducible refine Kd.C_drewN ?_ _) |(with_reducible refine Kd.C_drew ?_)));(case side2=>exact(Kd.R_reads' HO131.out).2.1);(case side3=>repeat(first | exact(Kd.R_reads' HO151.out).2.2 |(with_reducible refine Kd.C_alloc ?_ _) |(with_reducible refine Kd.C_drewN ?_ _) |(with_reducible refine Kd.C_drew ?_)));(case side4=>exact(Kd.R_reads' HO151.out).2.1);rintro e w' ⟨rfl,⟨nd,rfl⟩⟩) |((with_reducible refine gate_dst (N:=46) rfl ?_);(try(refine gate_guard (by rfl) ?_;dsimp only));refine Kd.R_lit (Kd.int .i64) _ 3 ?hg (N:=46) ?hd (xs:=([2,3] : List Int)) (inner:=[.int .i64 2,.int .i64 3]) (ok:=fun _=>True) (okp:=fun _=>True) ?hr ?hp (fun _ hk=>hk) trivial (Below.refl _ _) (Nat.le_refl _) (by simp) ?_;(case hd=>rfl);(case hg=>rfl);(case hr=>first |(go_simp;done) |(go_simp;rfl));(case hp=>exact(Reps.one (show Kd.M (Kd.int .i64) _ _ _ 2 [.int .i64 2] from rfl) (Reps.one (show Kd.M (Kd.int .i64) _ _ _ 3 [.int .i64 3] from rfl) (Reps.none _ _))));intro v154 w96 ho97 hb hg_ hnew_;clear hg_ hnew_;(first | rw [← Ny153.out] at ho97 |(simp only [Int.reduceToNat] at ho97;rw [← Ny153.out] at ho97));have n0_:=Aside0.mk (Kd.R_elder' (by(with_reducible repeat(first | apply Kd.R_alloc | apply Kd.R_drewN | apply Kd.R_drew));exact HO131.out) (Kd.R_base ho97) hb);have n1_:=Aside0.mk (Kd.R_elder' (by(with_reducible repeat(first | apply Kd.R_alloc | apply Kd.R_drewN | apply Kd.R_drew));exact HO135.out) (Kd.R_base ho97) hb);have n2_:=Aside0.mk (Kd.R_elder' (by(with_reducible repeat(first | apply Kd.R_alloc | apply Kd.R_drewN | apply Kd.R_drew));exact HO139.out) (Kd.R_base ho97) hb);have n3_:=Aside0.mk (Kd.R_elder' (by(with_reducible repeat(first | apply Kd.R_alloc | apply Kd.R_drewN | apply Kd.R_drew));exact HO144.out) (Kd.R_base ho97) hb);have n4_:=Aside0.mk (Kd.R_elder' (by(with_reducible repeat(first | apply Kd.R_alloc | apply Kd.R_drewN | apply Kd.R_drew));exact HO148.out) (Kd.R_base ho97) hb);have n5_:=Aside0.mk (Kd.R_elder' (by(with_reducible repeat(first | apply Kd.R_alloc | apply Kd.R_drewN | apply Kd.R_drew));exact HO151.out) (Kd.R_base ho97) hb);have n6_:=Aside0.mk (Kd.R_lower (Kd.R_new' (Kd.R_new' (Kd.R_new' (Kd.R_new' (Kd.R_new' (Kd.R_new' ho97 (Kd.R_lt (by(with_reducible repeat(first | apply Kd.R_alloc | apply Kd.R_drewN | apply Kd.R_drew));exact HO131.out))) (Kd.R_lt (by(with_reducible repeat(first | apply Kd.R_alloc | apply Kd.R_drewN | apply Kd.R_drew));exact HO135.out))) (Kd.R_lt (by(with_reducible repeat(first | apply Kd.R_alloc | apply Kd.R_drewN | apply Kd.R_drew));exact HO139.out))) (Kd.R_lt (by(with_reducible repeat(first | apply Kd.R_alloc | apply Kd.R_drewN | apply Kd.R_drew));exact HO144.out))) (Kd.R_lt (by(with_reducible repeat(first | apply Kd.R_alloc | apply Kd.R_drewN | apply Kd.R_drew));exact HO148.out))) (Kd.R_lt (by(with_reducible repeat(first | apply Kd.R_alloc | apply Kd.R_drewN | apply Kd.R_drew));exact HO151.out))) (bwZ (by repeat(first |(with_reducible first | exact HB.out | apply bwA | apply bwN | apply bw1) | exact HB.out))));have n7_:=Aside0.mk (bwT (by repeat(first |(with_reducible first | exact HB.out | apply bwA | apply bwN | apply bw1) | exact HB.out)) hb);clear HO131;clear HO135;clear HO139;clear HO144;clear HO148;clear HO151;clear HB;have HO131:=n0_;have HO135:=n1_;have HO139:=n2_;have HO144:=n3_;have HO148:=n4_;have HO151:=n5_;have HO155:=n6_;have HB:=n7_;clear n0_ n1_ n2_ n3_ n4_ n5_ n6_ n7_;clear hb ho97;obtain ⟨Ao98,co98,eo98⟩:=Kd.R_slice HO135.out;subst eo98;obtain ⟨Ao99,co99,eo99⟩:=Kd.R_slice HO155.out;subst eo99) |(go_at_call 22;(with_reducible refine(w10_ints.calls k _ _ t132 _ _ y153 true _ ?side1 ?side2 ?side3 ?side4 A19.out).mono ?_);(case side1=>repeat(first | exact(Kd.R_reads' HO135.out).2.2 |(with_reducible refine Kd.C_alloc ?_ _) |(with_reducible refine Kd.C_drewN ?_ _) |(with_reducible refine Kd.C_drew ?_)));(case side2=>exact(Kd.R_reads' HO135.out).2.1);(case side3=>repeat(first | exact(Kd.R_reads' HO155.out).2.2 |(with_reducible refine Kd.C_alloc ?_ _) |(with_reducible refine Kd.C_drewN ?_ _) |(with_reducible refine Kd.C_drew ?_)));(case side4=>exact(Kd.R_reads' HO155.out).2.1);rintro e w' ⟨rfl,⟨nd,rfl⟩⟩))
   go_meet
   exact⟨_,(true),(by first | rfl |(simp;done) |(simp [*];done)),H',⟨by first | omega | exact Nat.le_refl _⟩,⟨by repeat(first |(with_reducible first | exact HB.out | apply bwA | apply bwN | apply bw1) | exact HB.out)⟩⟩
  rw [if_pos c21] at H
  have c21b0 :(t137 == 0) = true:=beq_iff_eq.mpr c21
  have c21b1 :(t137 != 0) = false:=bne_eq_false_iff_eq.mpr c21
  clear c21
  obtain ⟨y157,hy157⟩ : ∃ y_ : List Int,y_ =(([3,2,1] : List Int)):=⟨_,rfl⟩
  replace H :((w10_ints.f k t136 y157).bind fun t160=>(if t160 = true then(if t141 = 0 then(if t140 = 52 then(if t146 = 0 then((w10_ints.f k t145 (([1,2] : List Int))).bind fun t164=>(w10_awake.j0 k (!t164))) else(w10_awake.j0 k true)) else(w10_awake.j0 k true)) else(w10_awake.j0 k true)) else(w10_awake.j0 k true))) = some r:=by first |(rw [hy157];with_reducible exact H) |(have H2_:=(Option.bind_some _ _).symm.trans H;rw [hy157];with_reducible exact H2_) |(have H2_:=(Option.bind_some _ _).symm.trans H;with_reducible exact H2_) | with_reducible exact H |(rw [hy157];exact H) | exact H
  have Ny157:=Aside0.mk hy157
  clear hy157
  replace H:=Option.bind_eq_some_iff.mp H
  obtain ⟨t160,A220,H⟩:=H
  replace H :(if t160 = true then(if t141 = 0 then(if t140 = 52 then(if t146 = 0 then((w10_ints.f k t145 (([1,2] : List Int))).bind fun t164=>(w10_awake.j0 k (!t164))) else(w10_awake.j0 k true)) else(w10_awake.j0 k true)) else(w10_awake.j0 k true)) else(w10_awake.j0 k true)) = some r:=H
  have A22:=Aside0.mk A220
  clear A220
  by_cases c23 : t160 = true
  rotate_left
  ·replace c23 := Bool.eq_false_iff.mpr c23
   subst c23
   have H1 :(w10_awake.j0 k true) = some r:=by rw [if_neg (show ¬ (false = true) by decide)] at H;exact H
   clear H
   have H:=H1
   clear H1
   have H':=Aside0.mk H
   clear H
   go_wp2_with (first |((with_reducible refine gate_dst (N:=36) rfl ?_);(try(refine gate_guard (by rfl) ?_;dsimp only));refine Kd.R_lit (Kd.int .i64) _ 3 ?hg (N:=36) ?hd (xs:=([1,2] : List Int)) (inner:=[.int .i64 1,.int .i64 2]) (ok:=fun _=>True) (okp:=fun _=>True) ?hr ?hp (fun _ hk=>hk) trivial (Below.refl _ _) (Nat.le_refl _) (by simp) ?_;(case hd=>rfl);(case hg=>rfl);(case hr=>first |(go_simp;done) |(go_simp;rfl));(case hp=>exact(Reps.one (show Kd.M (Kd.int .i64) _ _ _ 1 [.int .i64 1] from rfl) (Reps.one (show Kd.M (Kd.int .i64) _ _ _ 2 [.int .i64 2] from rfl) (Reps.none _ _))));intro v150 w80 ho81 hb hg_ hnew_;clear hg_ hnew_;(first | rw [← Ny149.out] at ho81 |(simp only [Int.reduceToNat] at ho81;rw [← Ny149.out] at ho81));have n0_:=Aside0.mk (Kd.R_elder' (by(with_reducible repeat(first | apply Kd.R_alloc | apply Kd.R_drewN | apply Kd.R_drew));exact HO131.out) (Kd.R_base ho81) hb);have n1_:=Aside0.mk (Kd.R_elder' (by(with_reducible repeat(first | apply Kd.R_alloc | apply Kd.R_drewN | apply Kd.R_drew));exact HO135.out) (Kd.R_base ho81) hb);have n2_:=Aside0.mk (Kd.R_elder' (by(with_reducible repeat(first | apply Kd.R_alloc | apply Kd.R_drewN | apply Kd.R_drew));exact HO139.out) (Kd.R_base ho81) hb);have n3_:=Aside0.mk (Kd.R_elder' (by(with_reducible repeat(first | apply Kd.R_alloc | apply Kd.R_drewN | apply Kd.R_drew));exact HO144.out) (Kd.R_base ho81) hb);have n4_:=Aside0.mk (Kd.R_elder' (by(with_reducible repeat(first | apply Kd.R_alloc | apply Kd.R_drewN | apply Kd.R_drew));exact HO148.out) (Kd.R_base ho81) hb);have n5_:=Aside0.mk (Kd.R_lower (Kd.R_new' (Kd.R_new' (Kd.R_new' (Kd.R_new' (Kd.R_new' ho81 (Kd.R_lt (by(with_reducible repeat(first | apply Kd.R_alloc | apply Kd.R_drewN | apply Kd.R_drew));exact HO131.out))) (Kd.R_lt (by(with_reducible repeat(first | apply Kd.R_alloc | apply Kd.R_drewN | apply Kd.R_drew));exact HO135.out))) (Kd.R_lt (by(with_reducible repeat(first | apply Kd.R_alloc | apply Kd.R_drewN | apply Kd.R_drew));exact HO139.out))) (Kd.R_lt (by(with_reducible repeat(first | apply Kd.R_alloc | apply Kd.R_drewN | apply Kd.R_drew));exact HO144.out))) (Kd.R_lt (by(with_reducible repeat(first | apply Kd.R_alloc | apply Kd.R_drewN | apply Kd.R_drew));exact HO148.out))) (bwZ (by repeat(first |(with_reducible first | exact HB.out | apply bwA | apply bwN | apply bw1) | exact HB.out))));have n6_:=Aside0.mk (bwT (by repeat(first |(with_reducible first | exact HB.out | apply bwA | apply bwN | apply bw1) | exact HB.out)) hb);clear HO131;clear HO135;clear HO139;clear HO144;clear HO148;clear HB;have HO131:=n0_;have HO135:=n1_;have HO139:=n2_;have HO144:=n3_;have HO148:=n4_;have HO151:=n5_;have HB:=n6_;clear n0_ n1_ n2_ n3_ n4_ n5_ n6_;clear hb ho81;obtain ⟨Ao82,co82,eo82⟩:=Kd.R_slice HO131.out;subst eo82;obtain ⟨Ao83,co83,eo83⟩:=Kd.R_slice HO151.out;subst eo83) |(go_at_call 22;(with_reducible refine(w10_ints.calls k _ _ t128 _ _ y149 true _ ?side1 ?side2 ?side3 ?side4 A16.out).mono ?_);(case side1=>repeat(first | exact(Kd.R_reads' HO131.out).2.2 |(with_reducible refine Kd.C_alloc ?_ _) |(with_reducible refine Kd.C_drewN ?_ _) |(with_reducible refine Kd.C_drew ?_)));(case side2=>exact(Kd.R_reads' HO131.out).2.1);(case side3=>repeat(first | exact(Kd.R_reads' HO151.out).2.2 |(with_reducible refine Kd.C_alloc ?_ _) |(with_reducible refine Kd.C_drewN ?_ _) |(with_reducible refine Kd.C_drew ?_)));(case side4=>exact(Kd.R_reads' HO151.out).2.1);rintro e w' ⟨rfl,⟨nd,rfl⟩⟩) |((with_reducible refine gate_dst (N:=46) rfl ?_);(try(refine gate_guard (by rfl) ?_;dsimp only));refine Kd.R_lit (Kd.int .i64) _ 3 ?hg (N:=46) ?hd (xs:=([2,3] : List Int)) (inner:=[.int .i64 2,.int .i64 3]) (ok:=fun _=>True) (okp:=fun _=>True) ?hr ?hp (fun _ hk=>hk) trivial (Below.refl _ _) (Nat.le_refl _) (by simp) ?_;(case hd=>rfl);(case hg=>rfl);(case hr=>first |(go_simp;done) |(go_simp;rfl));(case hp=>exact(Reps.one (show Kd.M (Kd.int .i64) _ _ _ 2 [.int .i64 2] from rfl) (Reps.one (show Kd.M (Kd.int .i64) _ _ _ 3 [.int .i64 3] from rfl) (Reps.none _ _))));intro v154 w84 ho85 hb hg_ hnew_;clear hg_ hnew_;(first | rw [← Ny153.out] at ho85 |(simp only [Int.reduceToNat] at ho85;rw [← Ny153.out] at ho85));have n0_:=Aside0.mk (Kd.R_elder' (by(with_reducible repeat(first | apply Kd.R_alloc | apply Kd.R_drewN | apply Kd.R_drew));exact HO131.out) (Kd.R_base ho85) hb);have n1_:=Aside0.mk (Kd.R_elder' (by(with_reducible repeat(first | apply Kd.R_alloc | apply Kd.R_drewN | apply Kd.R_drew));exact HO135.out) (Kd.R_base ho85) hb);have n2_:=Aside0.mk (Kd.R_elder' (by(with_reducible repeat(first | apply Kd.R_alloc | apply Kd.R_drewN | apply Kd.R_drew));exact HO139.out) (Kd.R_base ho85) hb);have n3_:=Aside0.mk (Kd.R_elder' (by(with_reducible repeat(first | apply Kd.R_alloc | apply Kd.R_drewN | apply Kd.R_drew));exact HO144.out) (Kd.R_base ho85) hb);have n4_:=Aside0.mk (Kd.R_elder' (by(with_reducible repeat(first | apply Kd.R_alloc | apply Kd.R_drewN | apply Kd.R_drew));exact HO148.out) (Kd.R_base ho85) hb);have n5_:=Aside0.mk (Kd.R_elder' (by(with_reducible repeat(first | apply Kd.R_alloc | apply Kd.R_drewN | apply Kd.R_drew));exact HO151.out) (Kd.R_base ho85) hb);have n6_:=Aside0.mk (Kd.R_lower (Kd.R_new' (Kd.R_new' (Kd.R_new' (Kd.R_new' (Kd.R_new' (Kd.R_new' ho85 (Kd.R_lt (by(with_reducible repeat(first | apply Kd.R_alloc | apply Kd.R_drewN | apply Kd.R_drew));exact HO131.out))) (Kd.R_lt (by(with_reducible repeat(first | apply Kd.R_alloc | apply Kd.R_drewN | apply Kd.R_drew));exact HO135.out))) (Kd.R_lt (by(with_reducible repeat(first | apply Kd.R_alloc | apply Kd.R_drewN | apply Kd.R_drew));exact HO139.out))) (Kd.R_lt (by(with_reducible repeat(first | apply Kd.R_alloc | apply Kd.R_drewN | apply Kd.R_drew));exact HO144.out))) (Kd.R_lt (by(with_reducible repeat(first | apply Kd.R_alloc | apply Kd.R_drewN | apply Kd.R_drew));exact HO148.out))) (Kd.R_lt (by(with_reducible repeat(first | apply Kd.R_alloc | apply Kd.R_drewN | apply Kd.R_drew));exact HO151.out))) (bwZ (by repeat(first |(with_reducible first | exact HB.out | apply bwA | apply bwN | apply bw1) | exact HB.out))));have n7_:=Aside0.mk (bwT (by repeat(first |(with_reducible first | exact HB.out | apply bwA | apply bwN | apply bw1) | exact HB.out)) hb);clear HO131;clear HO135;clear HO139;clear HO144;clear HO148;clear HO151;clear HB;have HO131:=n0_;have HO135:=n1_;have HO139:=n2_;have HO144:=n3_;have HO148:=n4_;have HO151:=n5_;have HO155:=n6_;have HB:=n7_;clear n0_ n1_ n2_ n3_ n4_ n5_ n6_ n7_;clear hb ho85;obtain ⟨Ao86,co86,eo86⟩:=Kd.R_slice HO135.out;subst eo86;obtain ⟨Ao87,co87,eo87⟩:=Kd.R_slice HO155.out;subst eo87) |(go_at_call 22;(with_reducible refine(w10_ints.calls k _ _ t132 _ _ y153 true _ ?side1 ?side2 ?side3 ?side4 A19.out).mono ?_);(case side1=>repeat(first | exact(Kd.R_reads' HO135.out).2.2 |(with_reducible refine Kd.C_alloc ?_ _) |(with_reducible refine Kd.C_drewN ?_ _) |(with_reducible refine Kd.C_drew ?_)));(case side2=>exact(Kd.R_reads' HO135.out).2.1);(case side3=>repeat(first | exact(Kd.R_reads' HO155.out).2.2 |(with_reducible refine Kd.C_alloc ?_ _) |(with_reducible refine Kd.C_drewN ?_ _) |(with_reducible refine Kd.C_drew ?_)));(case side4=>exact(Kd.R_reads' HO155.out).2.1);rintro e w' ⟨rfl,⟨nd,rfl⟩⟩) |((with_reducible refine gate_dst (N:=56) rfl ?_);(try(refine gate_guard (by rfl) ?_;dsimp only));refine Kd.R_lit (Kd.int .i64) _ 3 ?hg (N:=56) ?hd (xs:=([3,2,1] : List Int)) (inner:=[.int .i64 3,.int .i64 2,.int .i64 1]) (ok:=fun _=>True) (okp:=fun _=>True) ?hr ?hp (fun _ hk=>hk) trivial (Below.refl _ _) (Nat.le_refl _) (by simp) ?_;(case hd=>rfl);(case hg=>rfl);(case hr=>first |(go_simp;done) |(go_simp;rfl));(case hp=>exact(Reps.one (show Kd.M (Kd.int .i64) _ _ _ 3 [.int .i64 3] from rfl) (Reps.one (show Kd.M (Kd.int .i64) _ _ _ 2 [.int .i64 2] from rfl) (Reps.one (show Kd.M (Kd.int .i64) _ _ _ 1 [.int .i64 1] from rfl) (Reps.none _ _)))));intro v158 w88 ho89 hb hg_ hnew_;clear hg_ hnew_;(first | rw [← Ny157.out] at ho89 |(simp only [Int.reduceToNat] at ho89;rw [← Ny157.out] at ho89));have n0_:=Aside0.mk (Kd.R_elder' (by(with_reducible repeat(first | apply Kd.R_alloc | apply Kd.R_drewN | apply Kd.R_drew));exact HO131.out) (Kd.R_base ho89) hb);have n1_:=Aside0.mk (Kd.R_elder' (by(with_reducible repeat(first | apply Kd.R_alloc | apply Kd.R_drewN | apply Kd.R_drew));exact HO135.out) (Kd.R_base ho89) hb);have n2_:=Aside0.mk (Kd.R_elder' (by(with_reducible repeat(first | apply Kd.R_alloc | apply Kd.R_drewN | apply Kd.R_drew));exact HO139.out) (Kd.R_base ho89) hb);have n3_:=Aside0.mk (Kd.R_elder' (by(with_reducible repeat(first | apply Kd.R_alloc | apply Kd.R_drewN | apply Kd.R_drew));exact HO144.out) (Kd.R_base ho89) hb);have n4_:=Aside0.mk (Kd.R_elder' (by(with_reducible repeat(first | apply Kd.R_alloc | apply Kd.R_drewN | apply Kd.R_drew));exact HO148.out) (Kd.R_base ho89) hb);have n5_:=Aside0.mk (Kd.R_elder' (by(with_reducible repeat(first | apply Kd.R_alloc | apply Kd.R_drewN | apply Kd.R_drew));exact HO151.out) (Kd.R_base ho89) hb);have n6_:=Aside0.mk (Kd.R_elder' (by(with_reducible repeat(first | apply Kd.R_alloc | apply Kd.R_drewN | apply Kd.R_drew));exact HO155.out) (Kd.R_base ho89) hb);have n7_:=Aside0.mk (Kd.R_lower (Kd.R_new' (Kd.R_new' (Kd.R_new' (Kd.R_new' (Kd.R_new' (Kd.R_new' (Kd.R_new' ho89 (Kd.R_lt (by(with_reducible repeat(first | apply Kd.R_alloc | apply Kd.R_drewN | apply Kd.R_drew));exact HO131.out))) (Kd.R_lt (by(with_reducible repeat(first | apply Kd.R_alloc | apply Kd.R_drewN | apply Kd.R_drew));exact HO135.out))) (Kd.R_lt (by(with_reducible repeat(first | apply Kd.R_alloc | apply Kd.R_drewN | apply Kd.R_drew));exact HO139.out))) (Kd.R_lt (by(with_reducible repeat(first | apply Kd.R_alloc | apply Kd.R_drewN | apply Kd.R_drew));exact HO144.out))) (Kd.R_lt (by(with_reducible repeat(first | apply Kd.R_alloc | apply Kd.R_drewN | apply Kd.R_drew));exact HO148.out))) (Kd.R_lt (by(with_reducible repeat(first | apply Kd.R_alloc | apply Kd.R_drewN | apply Kd.R_drew));exact HO151.out))) (Kd.R_lt (by(with_reducible repeat(first | apply Kd.R_alloc | apply Kd.R_drewN | apply Kd.R_drew));exact HO155.out))) (bwZ (by repeat(first |(with_reducible first | exact HB.out | apply bwA | apply bwN | apply bw1) | exact HB.out))));have n8_:=Aside0.mk (bwT (by repeat(first |(with_reducible first | exact HB.out | apply bwA | apply bwN | apply bw1) | exact HB.out)) hb);clear HO131;clear HO135;clear HO139;clear HO144;clear HO148;clear HO151;clear HO155;clear HB;have HO131:=n0_;have HO135:=n1_;have HO139:=n2_;have HO144:=n3_;have HO148:=n4_;have HO151:=n5_;have HO155:=n6_;have HO159:=n7_;have HB:=n8_;clear n0_ n1_ n2_ n3_ n4_ n5_ n6_ n7_ n8_;clear hb ho89;obtain ⟨Ao90,co90,eo90⟩:=Kd.R_slice HO139.out;subst eo90;obtain ⟨Ao91,co91,eo91⟩:=Kd.R_slice HO159.out;subst eo91) |(go_at_call 22;(with_reducible refine(w10_ints.calls k _ _ t136 _ _ y157 false _ ?side1 ?side2 ?side3 ?side4 A22.out).mono ?_);(case side1=>repeat(first | exact(Kd.R_reads' HO139.out).2.2 |(with_reducible refine Kd.C_alloc ?_ _) |(with_reducible refine Kd.C_drewN ?_ _) |(with_reducible refine Kd.C_drew ?_)));(case side2=>exact(Kd.R_reads' HO139.out).2.1);(case side3=>repeat(first | exact(Kd.R_reads' HO159.out).2.2 |(with_reducible refine Kd.C_alloc ?_ _) |(with_reducible refine Kd.C_drewN ?_ _) |(with_reducible refine Kd.C_drew ?_)));(case side4=>exact(Kd.R_reads' HO159.out).2.1);rintro e w' ⟨rfl,⟨nd,rfl⟩⟩))
   go_meet
   exact⟨_,(true),(by first | rfl |(simp;done) |(simp [*];done)),H',⟨by first | omega | exact Nat.le_refl _⟩,⟨by repeat(first |(with_reducible first | exact HB.out | apply bwA | apply bwN | apply bw1) | exact HB.out)⟩⟩
  subst c23
  have H1 :(if t141 = 0 then(if t140 = 52 then(if t146 = 0 then((w10_ints.f k t145 (([1,2] : List Int))).bind fun t164=>(w10_awake.j0 k (!t164))) else(w10_awake.j0 k true)) else(w10_awake.j0 k true)) else(w10_awake.j0 k true)) = some r:=by rw [if_pos rfl] at H;exact H
  clear H
  have H:=H1
  clear H1
  by_cases c24 : t141 = 0
  rotate_left
  ·rw [if_neg c24] at H
   have c24b0 :(t141 == 0) = false:=beq_eq_false_iff_ne.mpr c24
   have c24b1 :(t141 != 0) = true:=bne_iff_ne.mpr c24
   have H':=Aside0.mk H
   clear H
   go_wp2_with (first |((with_reducible refine gate_dst (N:=36) rfl ?_);(try(refine gate_guard (by rfl) ?_;dsimp only));refine Kd.R_lit (Kd.int .i64) _ 3 ?hg (N:=36) ?hd (xs:=([1,2] : List Int)) (inner:=[.int .i64 1,.int .i64 2]) (ok:=fun _=>True) (okp:=fun _=>True) ?hr ?hp (fun _ hk=>hk) trivial (Below.refl _ _) (Nat.le_refl _) (by simp) ?_;(case hd=>rfl);(case hg=>rfl);(case hr=>first |(go_simp;done) |(go_simp;rfl));(case hp=>exact(Reps.one (show Kd.M (Kd.int .i64) _ _ _ 1 [.int .i64 1] from rfl) (Reps.one (show Kd.M (Kd.int .i64) _ _ _ 2 [.int .i64 2] from rfl) (Reps.none _ _))));intro v150 w68 ho69 hb hg_ hnew_;clear hg_ hnew_;(first | rw [← Ny149.out] at ho69 |(simp only [Int.reduceToNat] at ho69;rw [← Ny149.out] at ho69));have n0_:=Aside0.mk (Kd.R_elder' (by(with_reducible repeat(first | apply Kd.R_alloc | apply Kd.R_drewN | apply Kd.R_drew));exact HO131.out) (Kd.R_base ho69) hb);have n1_:=Aside0.mk (Kd.R_elder' (by(with_reducible repeat(first | apply Kd.R_alloc | apply Kd.R_drewN | apply Kd.R_drew));exact HO135.out) (Kd.R_base ho69) hb);have n2_:=Aside0.mk (Kd.R_elder' (by(with_reducible repeat(first | apply Kd.R_alloc | apply Kd.R_drewN | apply Kd.R_drew));exact HO139.out) (Kd.R_base ho69) hb);have n3_:=Aside0.mk (Kd.R_elder' (by(with_reducible repeat(first | apply Kd.R_alloc | apply Kd.R_drewN | apply Kd.R_drew));exact HO144.out) (Kd.R_base ho69) hb);have n4_:=Aside0.mk (Kd.R_elder' (by(with_reducible repeat(first | apply Kd.R_alloc | apply Kd.R_drewN | apply Kd.R_drew));exact HO148.out) (Kd.R_base ho69) hb);have n5_:=Aside0.mk (Kd.R_lower (Kd.R_new' (Kd.R_new' (Kd.R_new' (Kd.R_new' (Kd.R_new' ho69 (Kd.R_lt (by(with_reducible repeat(first | apply Kd.R_alloc | apply Kd.R_drewN | apply Kd.R_drew));exact HO131.out))) (Kd.R_lt (by(with_reducible repeat(first | apply Kd.R_alloc | apply Kd.R_drewN | apply Kd.R_drew));exact HO135.out))) (Kd.R_lt (by(with_reducible repeat(first | apply Kd.R_alloc | apply Kd.R_drewN | apply Kd.R_drew));exact HO139.out))) (Kd.R_lt (by(with_reducible repeat(first | apply Kd.R_alloc | apply Kd.R_drewN | apply Kd.R_drew));exact HO144.out))) (Kd.R_lt (by(with_reducible repeat(first | apply Kd.R_alloc | apply Kd.R_drewN | apply Kd.R_drew));exact HO148.out))) (bwZ (by repeat(first |(with_reducible first | exact HB.out | apply bwA | apply bwN | apply bw1) | exact HB.out))));have n6_:=Aside0.mk (bwT (by repeat(first |(with_reducible first | exact HB.out | apply bwA | apply bwN | apply bw1) | exact HB.out)) hb);clear HO131;clear HO135;clear HO139;clear HO144;clear HO148;clear HB;have HO131:=n0_;have HO135:=n1_;have HO139:=n2_;have HO144:=n3_;have HO148:=n4_;have HO151:=n5_;have HB:=n6_;clear n0_ n1_ n2_ n3_ n4_ n5_ n6_;clear hb ho69;obtain ⟨Ao70,co70,eo70⟩:=Kd.R_slice HO131.out;subst eo70;obtain ⟨Ao71,co71,eo71⟩:=Kd.R_slice HO151.out;subst eo71) |(go_at_call 22;(with_reducible refine(w10_ints.calls k _ _ t128 _ _ y149 true _ ?side1 ?side2 ?side3 ?side4 A16.out).mono ?_);(case side1=>repeat(first | exact(Kd.R_reads' HO131.out).2.2 |(with_reducible refine Kd.C_alloc ?_ _) |(with_reducible refine Kd.C_drewN ?_ _) |(with_reducible refine Kd.C_drew ?_)));(case side2=>exact(Kd.R_reads' HO131.out).2.1);(case side3=>repeat(first | exact(Kd.R_reads' HO151.out).2.2 |(with_reducible refine Kd.C_alloc ?_ _) |(with_reducible refine Kd.C_drewN ?_ _) |(with_reducible refine Kd.C_drew ?_)));(case side4=>exact(Kd.R_reads' HO151.out).2.1);rintro e w' ⟨rfl,⟨nd,rfl⟩⟩) |((with_reducible refine gate_dst (N:=46) rfl ?_);(try(refine gate_guard (by rfl) ?_;dsimp only));refine Kd.R_lit (Kd.int .i64) _ 3 ?hg (N:=46) ?hd (xs:=([2,3] : List Int)) (inner:=[.int .i64 2,.int .i64 3]) (ok:=fun _=>True) (okp:=fun _=>True) ?hr ?hp (fun _ hk=>hk) trivial (Below.refl _ _) (Nat.le_refl _) (by simp) ?_;(case hd=>rfl);(case hg=>rfl);(case hr=>first |(go_simp;done) |(go_simp;rfl));(case hp=>exact(Reps.one (show Kd.M (Kd.int .i64) _ _ _ 2 [.int .i64 2] from rfl) (Reps.one (show Kd.M (Kd.int .i64) _ _ _ 3 [.int .i64 3] from rfl) (Reps.none _ _))));intro v154 w72 ho73 hb hg_ hnew_;clear hg_ hnew_;(first | rw [← Ny153.out] at ho73 |(simp only [Int.reduceToNat] at ho73;rw [← Ny153.out] at ho73));have n0_:=Aside0.mk (Kd.R_elder' (by(with_reducible repeat(first | apply Kd.R_alloc | apply Kd.R_drewN | apply Kd.R_drew));exact HO131.out) (Kd.R_base ho73) hb);have n1_:=Aside0.mk (Kd.R_elder' (by(with_reducible repeat(first | apply Kd.R_alloc | apply Kd.R_drewN | apply Kd.R_drew));exact HO135.out) (Kd.R_base ho73) hb);have n2_:=Aside0.mk (Kd.R_elder' (by(with_reducible repeat(first | apply Kd.R_alloc | apply Kd.R_drewN | apply Kd.R_drew));exact HO139.out) (Kd.R_base ho73) hb);have n3_:=Aside0.mk (Kd.R_elder' (by(with_reducible repeat(first | apply Kd.R_alloc | apply Kd.R_drewN | apply Kd.R_drew));exact HO144.out) (Kd.R_base ho73) hb);have n4_:=Aside0.mk (Kd.R_elder' (by(with_reducible repeat(first | apply Kd.R_alloc | apply Kd.R_drewN | apply Kd.R_drew));exact HO148.out) (Kd.R_base ho73) hb);have n5_:=Aside0.mk (Kd.R_elder' (by(with_reducible repeat(first | apply Kd.R_alloc | apply Kd.R_drewN | apply Kd.R_drew));exact HO151.out) (Kd.R_base ho73) hb);have n6_:=Aside0.mk (Kd.R_lower (Kd.R_new' (Kd.R_new' (Kd.R_new' (Kd.R_new' (Kd.R_new' (Kd.R_new' ho73 (Kd.R_lt (by(with_reducible repeat(first | apply Kd.R_alloc | apply Kd.R_drewN | apply Kd.R_drew));exact HO131.out))) (Kd.R_lt (by(with_reducible repeat(first | apply Kd.R_alloc | apply Kd.R_drewN | apply Kd.R_drew));exact HO135.out))) (Kd.R_lt (by(with_reducible repeat(first | apply Kd.R_alloc | apply Kd.R_drewN | apply Kd.R_drew));exact HO139.out))) (Kd.R_lt (by(with_reducible repeat(first | apply Kd.R_alloc | apply Kd.R_drewN | apply Kd.R_drew));exact HO144.out))) (Kd.R_lt (by(with_reducible repeat(first | apply Kd.R_alloc | apply Kd.R_drewN | apply Kd.R_drew));exact HO148.out))) (Kd.R_lt (by(with_reducible repeat(first | apply Kd.R_alloc | apply Kd.R_drewN | apply Kd.R_drew));exact HO151.out))) (bwZ (by repeat(first |(with_reducible first | exact HB.out | apply bwA | apply bwN | apply bw1) | exact HB.out))));have n7_:=Aside0.mk (bwT (by repeat(first |(with_reducible first | exact HB.out | apply bwA | apply bwN | apply bw1) | exact HB.out)) hb);clear HO131;clear HO135;clear HO139;clear HO144;clear HO148;clear HO151;clear HB;have HO131:=n0_;have HO135:=n1_;have HO139:=n2_;have HO144:=n3_;have HO148:=n4_;have HO151:=n5_;have HO155:=n6_;have HB:=n7_;clear n0_ n1_ n2_ n3_ n4_ n5_ n6_ n7_;clear hb ho73;obtain ⟨Ao74,co74,eo74⟩:=Kd.R_slice HO135.out;subst eo74;obtain ⟨Ao75,co75,eo75⟩:=Kd.R_slice HO155.out;subst eo75) |(go_at_call 22;(with_reducible refine(w10_ints.calls k _ _ t132 _ _ y153 true _ ?side1 ?side2 ?side3 ?side4 A19.out).mono ?_);(case side1=>repeat(first | exact(Kd.R_reads' HO135.out).2.2 |(with_reducible refine Kd.C_alloc ?_ _) |(with_reducible refine Kd.C_drewN ?_ _) |(with_reducible refine Kd.C_drew ?_)));(case side2=>exact(Kd.R_reads' HO135.out).2.1);(case side3=>repeat(first | exact(Kd.R_reads' HO155.out).2.2 |(with_reducible refine Kd.C_alloc ?_ _) |(with_reducible refine Kd.C_drewN ?_ _) |(with_reducible refine Kd.C_drew ?_)));(case side4=>exact(Kd.R_reads' HO155.out).2.1);rintro e w' ⟨rfl,⟨nd,rfl⟩⟩) |((with_reducible refine gate_dst (N:=56) rfl ?_);(try(refine gate_guard (by rfl) ?_;dsimp only));refine Kd.R_lit (Kd.int .i64) _ 3 ?hg (N:=56) ?hd (xs:=([3,2,1] : List Int)) (inner:=[.int .i64 3,.int .i64 2,.int .i64 1]) (ok:=fun _=>True) (okp:=fun _=>True) ?hr ?hp (fun _ hk=>hk) trivial (Below.refl _ _) (Nat.le_refl _) (by simp) ?_;(case hd=>rfl);(case hg=>rfl);(case hr=>first |(go_simp;done) |(go_simp;rfl));(case hp=>exact(Reps.one (show Kd.M (Kd.int .i64) _ _ _ 3 [.int .i64 3] from rfl) (Reps.one (show Kd.M (Kd.int .i64) _ _ _ 2 [.int .i64 2] from rfl) (Reps.one (show Kd.M (Kd.int .i64) _ _ _ 1 [.int .i64 1] from rfl) (Reps.none _ _)))));intro v158 w76 ho77 hb hg_ hnew_;clear hg_ hnew_;(first | rw [← Ny157.out] at ho77 |(simp only [Int.reduceToNat] at ho77;rw [← Ny157.out] at ho77));have n0_:=Aside0.mk (Kd.R_elder' (by(with_reducible repeat(first | apply Kd.R_alloc | apply Kd.R_drewN | apply Kd.R_drew));exact HO131.out) (Kd.R_base ho77) hb);have n1_:=Aside0.mk (Kd.R_elder' (by(with_reducible repeat(first | apply Kd.R_alloc | apply Kd.R_drewN | apply Kd.R_drew));exact HO135.out) (Kd.R_base ho77) hb);have n2_:=Aside0.mk (Kd.R_elder' (by(with_reducible repeat(first | apply Kd.R_alloc | apply Kd.R_drewN | apply Kd.R_drew));exact HO139.out) (Kd.R_base ho77) hb);have n3_:=Aside0.mk (Kd.R_elder' (by(with_reducible repeat(first | apply Kd.R_alloc | apply Kd.R_drewN | apply Kd.R_drew));exact HO144.out) (Kd.R_base ho77) hb);have n4_:=Aside0.mk (Kd.R_elder' (by(with_reducible repeat(first | apply Kd.R_alloc | apply Kd.R_drewN | apply Kd.R_drew));exact HO148.out) (Kd.R_base ho77) hb);have n5_:=Aside0.mk (Kd.R_elder' (by(with_reducible repeat(first | apply Kd.R_alloc | apply Kd.R_drewN | apply Kd.R_drew));exact HO151.out) (Kd.R_base ho77) hb);have n6_:=Aside0.mk (Kd.R_elder' (by(with_reducible repeat(first | apply Kd.R_alloc | apply Kd.R_drewN | apply Kd.R_drew));exact HO155.out) (Kd.R_base ho77) hb);have n7_:=Aside0.mk (Kd.R_lower (Kd.R_new' (Kd.R_new' (Kd.R_new' (Kd.R_new' (Kd.R_new' (Kd.R_new' (Kd.R_new' ho77 (Kd.R_lt (by(with_reducible repeat(first | apply Kd.R_alloc | apply Kd.R_drewN | apply Kd.R_drew));exact HO131.out))) (Kd.R_lt (by(with_reducible repeat(first | apply Kd.R_alloc | apply Kd.R_drewN | apply Kd.R_drew));exact HO135.out))) (Kd.R_lt (by(with_reducible repeat(first | apply Kd.R_alloc | apply Kd.R_drewN | apply Kd.R_drew));exact HO139.out))) (Kd.R_lt (by(with_reducible repeat(first | apply Kd.R_alloc | apply Kd.R_drewN | apply Kd.R_drew));exact HO144.out))) (Kd.R_lt (by(with_reducible repeat(first | apply Kd.R_alloc | apply Kd.R_drewN | apply Kd.R_drew));exact HO148.out))) (Kd.R_lt (by(with_reducible repeat(first | apply Kd.R_alloc | apply Kd.R_drewN | apply Kd.R_drew));exact HO151.out))) (Kd.R_lt (by(with_reducible repeat(first | apply Kd.R_alloc | apply Kd.R_drewN | apply Kd.R_drew));exact HO155.out))) (bwZ (by repeat(first |(with_reducible first | exact HB.out | apply bwA | apply bwN | apply bw1) | exact HB.out))));have n8_:=Aside0.mk (bwT (by repeat(first |(with_reducible first | exact HB.out | apply bwA | apply bwN | apply bw1) | exact HB.out)) hb);clear HO131;clear HO135;clear HO139;clear HO144;clear HO148;clear HO151;clear HO155;clear HB;have HO131:=n0_;have HO135:=n1_;have HO139:=n2_;have HO144:=n3_;have HO148:=n4_;have HO151:=n5_;have HO155:=n6_;have HO159:=n7_;have HB:=n8_;clear n0_ n1_ n2_ n3_ n4_ n5_ n6_ n7_ n8_;clear hb ho77;obtain ⟨Ao78,co78,eo78⟩:=Kd.R_slice HO139.out;subst eo78;obtain ⟨Ao79,co79,eo79⟩:=Kd.R_slice HO159.out;subst eo79) |(go_at_call 22;(with_reducible refine(w10_ints.calls k _ _ t136 _ _ y157 true _ ?side1 ?side2 ?side3 ?side4 A22.out).mono ?_);(case side1=>repeat(first | exact(Kd.R_reads' HO139.out).2.2 |(with_reducible refine Kd.C_alloc ?_ _) |(with_reducible refine Kd.C_drewN ?_ _) |(with_reducible refine Kd.C_drew ?_)));(case side2=>exact(Kd.R_reads' HO139.out).2.1);(case side3=>repeat(first | exact(Kd.R_reads' HO159.out).2.2 |(with_reducible refine Kd.C_alloc ?_ _) |(with_reducible refine Kd.C_drewN ?_ _) |(with_reducible refine Kd.C_drew ?_)));(case side4=>exact(Kd.R_reads' HO159.out).2.1);rintro e w' ⟨rfl,⟨nd,rfl⟩⟩))
   go_meet
   exact⟨_,(true),(by first | rfl |(simp;done) |(simp [*];done)),H',⟨by first | omega | exact Nat.le_refl _⟩,⟨by repeat(first |(with_reducible first | exact HB.out | apply bwA | apply bwN | apply bw1) | exact HB.out)⟩⟩
  rw [if_pos c24] at H
  have c24b0 :(t141 == 0) = true:=beq_iff_eq.mpr c24
  have c24b1 :(t141 != 0) = false:=bne_eq_false_iff_eq.mpr c24
  clear c24
  by_cases c25 : t140 = 52
  rotate_left
  ·rw [if_neg c25] at H
   have c25b0 :(t140 == 52) = false:=beq_eq_false_iff_ne.mpr c25
   have c25b1 :(t140 != 52) = true:=bne_iff_ne.mpr c25
   have H':=Aside0.mk H
   clear H
   go_wp2_with (first |((with_reducible refine gate_dst (N:=36) rfl ?_);(try(refine gate_guard (by rfl) ?_;dsimp only));refine Kd.R_lit (Kd.int .i64) _ 3 ?hg (N:=36) ?hd (xs:=([1,2] : List Int)) (inner:=[.int .i64 1,.int .i64 2]) (ok:=fun _=>True) (okp:=fun _=>True) ?hr ?hp (fun _ hk=>hk) trivial (Below.refl _ _) (Nat.le_refl _) (by simp) ?_;(case hd=>rfl);(case hg=>rfl);(case hr=>first |(go_simp;done) |(go_simp;rfl));(case hp=>exact(Reps.one (show Kd.M (Kd.int .i64) _ _ _ 1 [.int .i64 1] from rfl) (Reps.one (show Kd.M (Kd.int .i64) _ _ _ 2 [.int .i64 2] from rfl) (Reps.none _ _))));intro v150 w56 ho57 hb hg_ hnew_;clear hg_ hnew_;(first | rw [← Ny149.out] at ho57 |(simp only [Int.reduceToNat] at ho57;rw [← Ny149.out] at ho57));have n0_:=Aside0.mk (Kd.R_elder' (by(with_reducible repeat(first | apply Kd.R_alloc | apply Kd.R_drewN | apply Kd.R_drew));exact HO131.out) (Kd.R_base ho57) hb);have n1_:=Aside0.mk (Kd.R_elder' (by(with_reducible repeat(first | apply Kd.R_alloc | apply Kd.R_drewN | apply Kd.R_drew));exact HO135.out) (Kd.R_base ho57) hb);have n2_:=Aside0.mk (Kd.R_elder' (by(with_reducible repeat(first | apply Kd.R_alloc | apply Kd.R_drewN | apply Kd.R_drew));exact HO139.out) (Kd.R_base ho57) hb);have n3_:=Aside0.mk (Kd.R_elder' (by(with_reducible repeat(first | apply Kd.R_alloc | apply Kd.R_drewN | apply Kd.R_drew));exact HO144.out) (Kd.R_base ho57) hb);have n4_:=Aside0.mk (Kd.R_elder' (by(with_reducible repeat(first | apply Kd.R_alloc | apply Kd.R_drewN | apply Kd.R_drew));exact HO148.out) (Kd.R_base ho57) hb);have n5_:=Aside0.mk (Kd.R_lower (Kd.R_new' (Kd.R_new' (Kd.R_new' (Kd.R_new' (Kd.R_new' ho57 (Kd.R_lt (by(with_reducible repeat(first | apply Kd.R_alloc | apply Kd.R_drewN | apply Kd.R_drew));exact HO131.out))) (Kd.R_lt (by(with_reducible repeat(first | apply Kd.R_alloc | apply Kd.R_drewN | apply Kd.R_drew));exact HO135.out))) (Kd.R_lt (by(with_reducible repeat(first | apply Kd.R_alloc | apply Kd.R_drewN | apply Kd.R_drew));exact HO139.out))) (Kd.R_lt (by(with_reducible repeat(first | apply Kd.R_alloc | apply Kd.R_drewN | apply Kd.R_drew));exact HO144.out))) (Kd.R_lt (by(with_reducible repeat(first | apply Kd.R_alloc | apply Kd.R_drewN | apply Kd.R_drew));exact HO148.out))) (bwZ (by repeat(first |(with_reducible first | exact HB.out | apply bwA | apply bwN | apply bw1) | exact HB.out))));have n6_:=Aside0.mk (bwT (by repeat(first |(with_reducible first | exact HB.out | apply bwA | apply bwN | apply bw1) | exact HB.out)) hb);clear HO131;clear HO135;clear HO139;clear HO144;clear HO148;clear HB;have HO131:=n0_;have HO135:=n1_;have HO139:=n2_;have HO144:=n3_;have HO148:=n4_;have HO151:=n5_;have HB:=n6_;clear n0_ n1_ n2_ n3_ n4_ n5_ n6_;clear hb ho57;obtain ⟨Ao58,co58,eo58⟩:=Kd.R_slice HO131.out;subst eo58;obtain ⟨Ao59,co59,eo59⟩:=Kd.R_slice HO151.out;subst eo59) |(go_at_call 22;(with_reducible refine(w10_ints.calls k _ _ t128 _ _ y149 true _ ?side1 ?side2 ?side3 ?side4 A16.out).mono ?_);(case side1=>repeat(first | exact(Kd.R_reads' HO131.out).2.2 |(with_reducible refine Kd.C_alloc ?_ _) |(with_reducible refine Kd.C_drewN ?_ _) |(with_reducible refine Kd.C_drew ?_)));(case side2=>exact(Kd.R_reads' HO131.out).2.1);(case side3=>repeat(first | exact(Kd.R_reads' HO151.out).2.2 |(with_reducible refine Kd.C_alloc ?_ _) |(with_reducible refine Kd.C_drewN ?_ _) |(with_reducible refine Kd.C_drew ?_)));(case side4=>exact(Kd.R_reads' HO151.out).2.1);rintro e w' ⟨rfl,⟨nd,rfl⟩⟩) |((with_reducible refine gate_dst (N:=46) rfl ?_);(try(refine gate_guard (by rfl) ?_;dsimp only));refine Kd.R_lit (Kd.int .i64) _ 3 ?hg (N:=46) ?hd (xs:=([2,3] : List Int)) (inner:=[.int .i64 2,.int .i64 3]) (ok:=fun _=>True) (okp:=fun _=>True) ?hr ?hp (fun _ hk=>hk) trivial (Below.refl _ _) (Nat.le_refl _) (by simp) ?_;(case hd=>rfl);(case hg=>rfl);(case hr=>first |(go_simp;done) |(go_simp;rfl));(case hp=>exact(Reps.one (show Kd.M (Kd.int .i64) _ _ _ 2 [.int .i64 2] from rfl) (Reps.one (show Kd.M (Kd.int .i64) _ _ _ 3 [.int .i64 3] from rfl) (Reps.none _ _))));intro v154 w60 ho61 hb hg_ hnew_;clear hg_ hnew_;(first | rw [← Ny153.out] at ho61 |(simp only [Int.reduceToNat] at ho61;rw [← Ny153.out] at ho61));have n0_:=Aside0.mk (Kd.R_elder' (by(with_reducible repeat(first | apply Kd.R_alloc | apply Kd.R_drewN | apply Kd.R_drew));exact HO131.out) (Kd.R_base ho61) hb);have n1_:=Aside0.mk (Kd.R_elder' (by(with_reducible repeat(first | apply Kd.R_alloc | apply Kd.R_drewN | apply Kd.R_drew));exact HO135.out) (Kd.R_base ho61) hb);have n2_:=Aside0.mk (Kd.R_elder' (by(with_reducible repeat(first | apply Kd.R_alloc | apply Kd.R_drewN | apply Kd.R_drew));exact HO139.out) (Kd.R_base ho61) hb);have n3_:=Aside0.mk (Kd.R_elder' (by(with_reducible repeat(first | apply Kd.R_alloc | apply Kd.R_drewN | apply Kd.R_drew));exact HO144.out) (Kd.R_base ho61) hb);have n4_:=Aside0.mk (Kd.R_elder' (by(with_reducible repeat(first | apply Kd.R_alloc | apply Kd.R_drewN | apply Kd.R_drew));exact HO148.out) (Kd.R_base ho61) hb);have n5_:=Aside0.mk (Kd.R_elder' (by(with_reducible repeat(first | apply Kd.R_alloc | apply Kd.R_drewN | apply Kd.R_drew));exact HO151.out) (Kd.R_base ho61) hb);have n6_:=Aside0.mk (Kd.R_lower (Kd.R_new' (Kd.R_new' (Kd.R_new' (Kd.R_new' (Kd.R_new' (Kd.R_new' ho61 (Kd.R_lt (by(with_reducible repeat(first | apply Kd.R_alloc | apply Kd.R_drewN | apply Kd.R_drew));exact HO131.out))) (Kd.R_lt (by(with_reducible repeat(first | apply Kd.R_alloc | apply Kd.R_drewN | apply Kd.R_drew));exact HO135.out))) (Kd.R_lt (by(with_reducible repeat(first | apply Kd.R_alloc | apply Kd.R_drewN | apply Kd.R_drew));exact HO139.out))) (Kd.R_lt (by(with_reducible repeat(first | apply Kd.R_alloc | apply Kd.R_drewN | apply Kd.R_drew));exact HO144.out))) (Kd.R_lt (by(with_reducible repeat(first | apply Kd.R_alloc | apply Kd.R_drewN | apply Kd.R_drew));exact HO148.out))) (Kd.R_lt (by(with_reducible repeat(first | apply Kd.R_alloc | apply Kd.R_drewN | apply Kd.R_drew));exact HO151.out))) (bwZ (by repeat(first |(with_reducible first | exact HB.out | apply bwA | apply bwN | apply bw1) | exact HB.out))));have n7_:=Aside0.mk (bwT (by repeat(first |(with_reducible first | exact HB.out | apply bwA | apply bwN | apply bw1) | exact HB.out)) hb);clear HO131;clear HO135;clear HO139;clear HO144;clear HO148;clear HO151;clear HB;have HO131:=n0_;have HO135:=n1_;have HO139:=n2_;have HO144:=n3_;have HO148:=n4_;have HO151:=n5_;have HO155:=n6_;have HB:=n7_;clear n0_ n1_ n2_ n3_ n4_ n5_ n6_ n7_;clear hb ho61;obtain ⟨Ao62,co62,eo62⟩:=Kd.R_slice HO135.out;subst eo62;obtain ⟨Ao63,co63,eo63⟩:=Kd.R_slice HO155.out;subst eo63) |(go_at_call 22;(with_reducible refine(w10_ints.calls k _ _ t132 _ _ y153 true _ ?side1 ?side2 ?side3 ?side4 A19.out).mono ?_);(case side1=>repeat(first | exact(Kd.R_reads' HO135.out).2.2 |(with_reducible refine Kd.C_alloc ?_ _) |(with_reducible refine Kd.C_drewN ?_ _) |(with_reducible refine Kd.C_drew ?_)));(case side2=>exact(Kd.R_reads' HO135.out).2.1);(case side3=>repeat(first | exact(Kd.R_reads' HO155.out).2.2 |(with_reducible refine Kd.C_alloc ?_ _) |(with_reducible refine Kd.C_drewN ?_ _) |(with_reducible refine Kd.C_drew ?_)));(case side4=>exact(Kd.R_reads' HO155.out).2.1);rintro e w' ⟨rfl,⟨nd,rfl⟩⟩) |((with_reducible refine gate_dst (N:=56) rfl ?_);(try(refine gate_guard (by rfl) ?_;dsimp only));refine Kd.R_lit (Kd.int .i64) _ 3 ?hg (N:=56) ?hd (xs:=([3,2,1] : List Int)) (inner:=[.int .i64 3,.int .i64 2,.int .i64 1]) (ok:=fun _=>True) (okp:=fun _=>True) ?hr ?hp (fun _ hk=>hk) trivial (Below.refl _ _) (Nat.le_refl _) (by simp) ?_;(case hd=>rfl);(case hg=>rfl);(case hr=>first |(go_simp;done) |(go_simp;rfl));(case hp=>exact(Reps.one (show Kd.M (Kd.int .i64) _ _ _ 3 [.int .i64 3] from rfl) (Reps.one (show Kd.M (Kd.int .i64) _ _ _ 2 [.int .i64 2] from rfl) (Reps.one (show Kd.M (Kd.int .i64) _ _ _ 1 [.int .i64 1] from rfl) (Reps.none _ _)))));intro v158 w64 ho65 hb hg_ hnew_;clear hg_ hnew_;(first | rw [← Ny157.out] at ho65 |(simp only [Int.reduceToNat] at ho65;rw [← Ny157.out] at ho65));have n0_:=Aside0.mk (Kd.R_elder' (by(with_reducible repeat(first | apply Kd.R_alloc | apply Kd.R_drewN | apply Kd.R_drew));exact HO131.out) (Kd.R_base ho65) hb);have n1_:=Aside0.mk (Kd.R_elder' (by(with_reducible repeat(first | apply Kd.R_alloc | apply Kd.R_drewN | apply Kd.R_drew));exact HO135.out) (Kd.R_base ho65) hb);have n2_:=Aside0.mk (Kd.R_elder' (by(with_reducible repeat(first | apply Kd.R_alloc | apply Kd.R_drewN | apply Kd.R_drew));exact HO139.out) (Kd.R_base ho65) hb);have n3_:=Aside0.mk (Kd.R_elder' (by(with_reducible repeat(first | apply Kd.R_alloc | apply Kd.R_drewN | apply Kd.R_drew));exact HO144.out) (Kd.R_base ho65) hb);have n4_:=Aside0.mk (Kd.R_elder' (by(with_reducible repeat(first | apply Kd.R_alloc | apply Kd.R_drewN | apply Kd.R_drew));exact HO148.out) (Kd.R_base ho65) hb);have n5_:=Aside0.mk (Kd.R_elder' (by(with_reducible repeat(first | apply Kd.R_alloc | apply Kd.R_drewN | apply Kd.R_drew));exact HO151.out) (Kd.R_base ho65) hb);have n6_:=Aside0.mk (Kd.R_elder' (by(with_reducible repeat(first | apply Kd.R_alloc | apply Kd.R_drewN | apply Kd.R_drew));exact HO155.out) (Kd.R_base ho65) hb);have n7_:=Aside0.mk (Kd.R_lower (Kd.R_new' (Kd.R_new' (Kd.R_new' (Kd.R_new' (Kd.R_new' (Kd.R_new' (Kd.R_new' ho65 (Kd.R_lt (by(with_reducible repeat(first | apply Kd.R_alloc | apply Kd.R_drewN | apply Kd.R_drew));exact HO131.out))) (Kd.R_lt (by(with_reducible repeat(first | apply Kd.R_alloc | apply Kd.R_drewN | apply Kd.R_drew));exact HO135.out))) (Kd.R_lt (by(with_reducible repeat(first | apply Kd.R_alloc | apply Kd.R_drewN | apply Kd.R_drew));exact HO139.out))) (Kd.R_lt (by(with_reducible repeat(first | apply Kd.R_alloc | apply Kd.R_drewN | apply Kd.R_drew));exact HO144.out))) (Kd.R_lt (by(with_reducible repeat(first | apply Kd.R_alloc | apply Kd.R_drewN | apply Kd.R_drew));exact HO148.out))) (Kd.R_lt (by(with_reducible repeat(first | apply Kd.R_alloc | apply Kd.R_drewN | apply Kd.R_drew));exact HO151.out))) (Kd.R_lt (by(with_reducible repeat(first | apply Kd.R_alloc | apply Kd.R_drewN | apply Kd.R_drew));exact HO155.out))) (bwZ (by repeat(first |(with_reducible first | exact HB.out | apply bwA | apply bwN | apply bw1) | exact HB.out))));have n8_:=Aside0.mk (bwT (by repeat(first |(with_reducible first | exact HB.out | apply bwA | apply bwN | apply bw1) | exact HB.out)) hb);clear HO131;clear HO135;clear HO139;clear HO144;clear HO148;clear HO151;clear HO155;clear HB;have HO131:=n0_;have HO135:=n1_;have HO139:=n2_;have HO144:=n3_;have HO148:=n4_;have HO151:=n5_;have HO155:=n6_;have HO159:=n7_;have HB:=n8_;clear n0_ n1_ n2_ n3_ n4_ n5_ n6_ n7_ n8_;clear hb ho65;obtain ⟨Ao66,co66,eo66⟩:=Kd.R_slice HO139.out;subst eo66;obtain ⟨Ao67,co67,eo67⟩:=Kd.R_slice HO159.out;subst eo67) |(go_at_call 22;(with_reducible refine(w10_ints.calls k _ _ t136 _ _ y157 true _ ?side1 ?side2 ?side3 ?side4 A22.out).mono ?_);(case side1=>repeat(first | exact(Kd.R_reads' HO139.out).2.2 |(with_reducible refine Kd.C_alloc ?_ _) |(with_reducible refine Kd.C_drewN ?_ _) |(with_reducible refine Kd.C_drew ?_)));(case side2=>exact(Kd.R_reads' HO139.out).2.1);(case side3=>repeat(first | exact(Kd.R_reads' HO159.out).2.2 |(with_reducible refine Kd.C_alloc ?_ _) |(with_reducible refine Kd.C_drewN ?_ _) |(with_reducible refine Kd.C_drew ?_)));(case side4=>exact(Kd.R_reads' HO159.out).2.1);rintro e w' ⟨rfl,⟨nd,rfl⟩⟩))
   go_meet
   exact⟨_,(true),(by first | rfl |(simp;done) |(simp [*];done)),H',⟨by first | omega | exact Nat.le_refl _⟩,⟨by repeat(first |(with_reducible first | exact HB.out | apply bwA | apply bwN | apply bw1) | exact HB.out)⟩⟩
  rw [if_pos c25] at H
  have c25b0 :(t140 == 52) = true:=beq_iff_eq.mpr c25
  have c25b1 :(t140 != 52) = false:=bne_eq_false_iff_eq.mpr c25
  clear c25
  by_cases c26 : t146 = 0
  rotate_left
  ·rw [if_neg c26] at H
   have c26b0 :(t146 == 0) = false:=beq_eq_false_iff_ne.mpr c26
   have c26b1 :(t146 != 0) = true:=bne_iff_ne.mpr c26
   have H':=Aside0.mk H
   clear H
   go_wp2_with (first |((with_reducible refine gate_dst (N:=36) rfl ?_);(try(refine gate_guard (by rfl) ?_;dsimp only));refine Kd.R_lit (Kd.int .i64) _ 3 ?hg (N:=36) ?hd (xs:=([1,2] : List Int)) (inner:=[.int .i64 1,.int .i64 2]) (ok:=fun _=>True) (okp:=fun _=>True) ?hr ?hp (fun _ hk=>hk) trivial (Below.refl _ _) (Nat.le_refl _) (by simp) ?_;(case hd=>rfl);(case hg=>rfl);(case hr=>first |(go_simp;done) |(go_simp;rfl));(case hp=>exact(Reps.one (show Kd.M (Kd.int .i64) _ _ _ 1 [.int .i64 1] from rfl) (Reps.one (show Kd.M (Kd.int .i64) _ _ _ 2 [.int .i64 2] from rfl) (Reps.none _ _))));intro v150 w44 ho45 hb hg_ hnew_;clear hg_ hnew_;(first | rw [← Ny149.out] at ho45 |(simp only [Int.reduceToNat] at ho45;rw [← Ny149.out] at ho45));have n0_:=Aside0.mk (Kd.R_elder' (by(with_reducible repeat(first | apply Kd.R_alloc | apply Kd.R_drewN | apply Kd.R_drew));exact HO131.out) (Kd.R_base ho45) hb);have n1_:=Aside0.mk (Kd.R_elder' (by(with_reducible repeat(first | apply Kd.R_alloc | apply Kd.R_drewN | apply Kd.R_drew));exact HO135.out) (Kd.R_base ho45) hb);have n2_:=Aside0.mk (Kd.R_elder' (by(with_reducible repeat(first | apply Kd.R_alloc | apply Kd.R_drewN | apply Kd.R_drew));exact HO139.out) (Kd.R_base ho45) hb);have n3_:=Aside0.mk (Kd.R_elder' (by(with_reducible repeat(first | apply Kd.R_alloc | apply Kd.R_drewN | apply Kd.R_drew));exact HO144.out) (Kd.R_base ho45) hb);have n4_:=Aside0.mk (Kd.R_elder' (by(with_reducible repeat(first | apply Kd.R_alloc | apply Kd.R_drewN | apply Kd.R_drew));exact HO148.out) (Kd.R_base ho45) hb);have n5_:=Aside0.mk (Kd.R_lower (Kd.R_new' (Kd.R_new' (Kd.R_new' (Kd.R_new' (Kd.R_new' ho45 (Kd.R_lt (by(with_reducible repeat(first | apply Kd.R_alloc | apply Kd.R_drewN | apply Kd.R_drew));exact HO131.out))) (Kd.R_lt (by(with_reducible repeat(first | apply Kd.R_alloc | apply Kd.R_drewN | apply Kd.R_drew));exact HO135.out))) (Kd.R_lt (by(with_reducible repeat(first | apply Kd.R_alloc | apply Kd.R_drewN | apply Kd.R_drew));exact HO139.out))) (Kd.R_lt (by(with_reducible repeat(first | apply Kd.R_alloc | apply Kd.R_drewN | apply Kd.R_drew));exact HO144.out))) (Kd.R_lt (by(with_reducible repeat(first | apply Kd.R_alloc | apply Kd.R_drewN | apply Kd.R_drew));exact HO148.out))) (bwZ (by repeat(first |(with_reducible first | exact HB.out | apply bwA | apply bwN | apply bw1) | exact HB.out))));have n6_:=Aside0.mk (bwT (by repeat(first |(with_reducible first | exact HB.out | apply bwA | apply bwN | apply bw1) | exact HB.out)) hb);clear HO131;clear HO135;clear HO139;clear HO144;clear HO148;clear HB;have HO131:=n0_;have HO135:=n1_;have HO139:=n2_;have HO144:=n3_;have HO148:=n4_;have HO151:=n5_;have HB:=n6_;clear n0_ n1_ n2_ n3_ n4_ n5_ n6_;clear hb ho45;obtain ⟨Ao46,co46,eo46⟩:=Kd.R_slice HO131.out;subst eo46;obtain ⟨Ao47,co47,eo47⟩:=Kd.R_slice HO151.out;subst eo47) |(go_at_call 22;(with_reducible refine(w10_ints.calls k _ _ t128 _ _ y149 true _ ?side1 ?side2 ?side3 ?side4 A16.out).mono ?_);(case side1=>repeat(first | exact(Kd.R_reads' HO131.out).2.2 |(with_reducible refine Kd.C_alloc ?_ _) |(with_reducible refine Kd.C_drewN ?_ _) |(with_reducible refine Kd.C_drew ?_)));(case side2=>exact(Kd.R_reads' HO131.out).2.1);(case side3=>repeat(first | exact(Kd.R_reads' HO151.out).2.2 |(with_reducible refine Kd.C_alloc ?_ _) |(with_reducible refine Kd.C_drewN ?_ _) |(with_reducible refine Kd.C_drew ?_)));(case side4=>exact(Kd.R_reads' HO151.out).2.1);rintro e w' ⟨rfl,⟨nd,rfl⟩⟩) |((with_reducible refine gate_dst (N:=46) rfl ?_);(try(refine gate_guard (by rfl) ?_;dsimp only));refine Kd.R_lit (Kd.int .i64) _ 3 ?hg (N:=46) ?hd (xs:=([2,3] : List Int)) (inner:=[.int .i64 2,.int .i64 3]) (ok:=fun _=>True) (okp:=fun _=>True) ?hr ?hp (fun _ hk=>hk) trivial (Below.refl _ _) (Nat.le_refl _) (by simp) ?_;(case hd=>rfl);(case hg=>rfl);(case hr=>first |(go_simp;done) |(go_simp;rfl));(case hp=>exact(Reps.one (show Kd.M (Kd.int .i64) _ _ _ 2 [.int .i64 2] from rfl) (Reps.one (show Kd.M (Kd.int .i64) _ _ _ 3 [.int .i64 3] from rfl) (Reps.none _ _))));intro v154 w48 ho49 hb hg_ hnew_;clear hg_ hnew_;(first | rw [← Ny153.out] at ho49 |(simp only [Int.reduceToNat] at ho49;rw [← Ny153.out] at ho49));have n0_:=Aside0.mk (Kd.R_elder' (by(with_reducible repeat(first | apply Kd.R_alloc | apply Kd.R_drewN | apply Kd.R_drew));exact HO131.out) (Kd.R_base ho49) hb);have n1_:=Aside0.mk (Kd.R_elder' (by(with_reducible repeat(first | apply Kd.R_alloc | apply Kd.R_drewN | apply Kd.R_drew));exact HO135.out) (Kd.R_base ho49) hb);have n2_:=Aside0.mk (Kd.R_elder' (by(with_reducible repeat(first | apply Kd.R_alloc | apply Kd.R_drewN | apply Kd.R_drew));exact HO139.out) (Kd.R_base ho49) hb);have n3_:=Aside0.mk (Kd.R_elder' (by(with_reducible repeat(first | apply Kd.R_alloc | apply Kd.R_drewN | apply Kd.R_drew));exact HO144.out) (Kd.R_base ho49) hb);have n4_:=Aside0.mk (Kd.R_elder' (by(with_reducible repeat(first | apply Kd.R_alloc | apply Kd.R_drewN | apply Kd.R_drew));exact HO148.out) (Kd.R_base ho49) hb);have n5_:=Aside0.mk (Kd.R_elder' (by(with_reducible repeat(first | apply Kd.R_alloc | apply Kd.R_drewN | apply Kd.R_drew));exact HO151.out) (Kd.R_base ho49) hb);have n6_:=Aside0.mk (Kd.R_lower (Kd.R_new' (Kd.R_new' (Kd.R_new' (Kd.R_new' (Kd.R_new' (Kd.R_new' ho49 (Kd.R_lt (by(with_reducible repeat(first | apply Kd.R_alloc | apply Kd.R_drewN | apply Kd.R_drew));exact HO131.out))) (Kd.R_lt (by(with_reducible repeat(first | apply Kd.R_alloc | apply Kd.R_drewN | apply Kd.R_drew));exact HO135.out))) (Kd.R_lt (by(with_reducible repeat(first | apply Kd.R_alloc | apply Kd.R_drewN | apply Kd.R_drew));exact HO139.out))) (Kd.R_lt (by(with_reducible repeat(first | apply Kd.R_alloc | apply Kd.R_drewN | apply Kd.R_drew));exact HO144.out))) (Kd.R_lt (by(with_reducible repeat(first | apply Kd.R_alloc | apply Kd.R_drewN | apply Kd.R_drew));exact HO148.out))) (Kd.R_lt (by(with_reducible repeat(first | apply Kd.R_alloc | apply Kd.R_drewN | apply Kd.R_drew));exact HO151.out))) (bwZ (by repeat(first |(with_reducible first | exact HB.out | apply bwA | apply bwN | apply bw1) | exact HB.out))));have n7_:=Aside0.mk (bwT (by repeat(first |(with_reducible first | exact HB.out | apply bwA | apply bwN | apply bw1) | exact HB.out)) hb);clear HO131;clear HO135;clear HO139;clear HO144;clear HO148;clear HO151;clear HB;have HO131:=n0_;have HO135:=n1_;have HO139:=n2_;have HO144:=n3_;have HO148:=n4_;have HO151:=n5_;have HO155:=n6_;have HB:=n7_;clear n0_ n1_ n2_ n3_ n4_ n5_ n6_ n7_;clear hb ho49;obtain ⟨Ao50,co50,eo50⟩:=Kd.R_slice HO135.out;subst eo50;obtain ⟨Ao51,co51,eo51⟩:=Kd.R_slice HO155.out;subst eo51) |(go_at_call 22;(with_reducible refine(w10_ints.calls k _ _ t132 _ _ y153 true _ ?side1 ?side2 ?side3 ?side4 A19.out).mono ?_);(case side1=>repeat(first | exact(Kd.R_reads' HO135.out).2.2 |(with_reducible refine Kd.C_alloc ?_ _) |(with_reducible refine Kd.C_drewN ?_ _) |(with_reducible refine Kd.C_drew ?_)));(case side2=>exact(Kd.R_reads' HO135.out).2.1);(case side3=>repeat(first | exact(Kd.R_reads' HO155.out).2.2 |(with_reducible refine Kd.C_alloc ?_ _) |(with_reducible refine Kd.C_drewN ?_ _) |(with_reducible refine Kd.C_drew ?_)));(case side4=>exact(Kd.R_reads' HO155.out).2.1);rintro e w' ⟨rfl,⟨nd,rfl⟩⟩) |((with_reducible refine gate_dst (N:=56) rfl ?_);(try(refine gate_guard (by rfl) ?_;dsimp only));refine Kd.R_lit (Kd.int .i64) _ 3 ?hg (N:=56) ?hd (xs:=([3,2,1] : List Int)) (inner:=[.int .i64 3,.int .i64 2,.int .i64 1]) (ok:=fun _=>True) (okp:=fun _=>True) ?hr ?hp (fun _ hk=>hk) trivial (Below.refl _ _) (Nat.le_refl _) (by simp) ?_;(case hd=>rfl);(case hg=>rfl);(case hr=>first |(go_simp;done) |(go_simp;rfl));(case hp=>exact(Reps.one (show Kd.M (Kd.int .i64) _ _ _ 3 [.int .i64 3] from rfl) (Reps.one (show Kd.M (Kd.int .i64) _ _ _ 2 [.int .i64 2] from rfl) (Reps.one (show Kd.M (Kd.int .i64) _ _ _ 1 [.int .i64 1] from rfl) (Reps.none _ _)))));intro v158 w52 ho53 hb hg_ hnew_;clear hg_ hnew_;(first | rw [← Ny157.out] at ho53 |(simp only [Int.reduceToNat] at ho53;rw [← Ny157.out] at ho53));have n0_:=Aside0.mk (Kd.R_elder' (by(with_reducible repeat(first | apply Kd.R_alloc | apply Kd.R_drewN | apply Kd.R_drew));exact HO131.out) (Kd.R_base ho53) hb);have n1_:=Aside0.mk (Kd.R_elder' (by(with_reducible repeat(first | apply Kd.R_alloc | apply Kd.R_drewN | apply Kd.R_drew));exact HO135.out) (Kd.R_base ho53) hb);have n2_:=Aside0.mk (Kd.R_elder' (by(with_reducible repeat(first | apply Kd.R_alloc | apply Kd.R_drewN | apply Kd.R_drew));exact HO139.out) (Kd.R_base ho53) hb);have n3_:=Aside0.mk (Kd.R_elder' (by(with_reducible repeat(first | apply Kd.R_alloc | apply Kd.R_drewN | apply Kd.R_drew));exact HO144.out) (Kd.R_base ho53) hb);have n4_:=Aside0.mk (Kd.R_elder' (by(with_reducible repeat(first | apply Kd.R_alloc | apply Kd.R_drewN | apply Kd.R_drew));exact HO148.out) (Kd.R_base ho53) hb);have n5_:=Aside0.mk (Kd.R_elder' (by(with_reducible repeat(first | apply Kd.R_alloc | apply Kd.R_drewN | apply Kd.R_drew));exact HO151.out) (Kd.R_base ho53) hb);have n6_:=Aside0.mk (Kd.R_elder' (by(with_reducible repeat(first | apply Kd.R_alloc | apply Kd.R_drewN | apply Kd.R_drew));exact HO155.out) (Kd.R_base ho53) hb);have n7_:=Aside0.mk (Kd.R_lower (Kd.R_new' (Kd.R_new' (Kd.R_new' (Kd.R_new' (Kd.R_new' (Kd.R_new' (Kd.R_new' ho53 (Kd.R_lt (by(with_reducible repeat(first | apply Kd.R_alloc | apply Kd.R_drewN | apply Kd.R_drew));exact HO131.out))) (Kd.R_lt (by(with_reducible repeat(first | apply Kd.R_alloc | apply Kd.R_drewN | apply Kd.R_drew));exact HO135.out))) (Kd.R_lt (by(with_reducible repeat(first | apply Kd.R_alloc | apply Kd.R_drewN | apply Kd.R_drew));exact HO139.out))) (Kd.R_lt (by(with_reducible repeat(first | apply Kd.R_alloc | apply Kd.R_drewN | apply Kd.R_drew));exact HO144.out))) (Kd.R_lt (by(with_reducible repeat(first | apply Kd.R_alloc | apply Kd.R_drewN | apply Kd.R_drew));exact HO148.out))) (Kd.R_lt (by(with_reducible repeat(first | apply Kd.R_alloc | apply Kd.R_drewN | apply Kd.R_drew));exact HO151.out))) (Kd.R_lt (by(with_reducible repeat(first | apply Kd.R_alloc | apply Kd.R_drewN | apply Kd.R_drew));exact HO155.out))) (bwZ (by repeat(first |(with_reducible first | exact HB.out | apply bwA | apply bwN | apply bw1) | exact HB.out))));have n8_:=Aside0.mk (bwT (by repeat(first |(with_reducible first | exact HB.out | apply bwA | apply bwN | apply bw1) | exact HB.out)) hb);clear HO131;clear HO135;clear HO139;clear HO144;clear HO148;clear HO151;clear HO155;clear HB;have HO131:=n0_;have HO135:=n1_;have HO139:=n2_;have HO144:=n3_;have HO148:=n4_;have HO151:=n5_;have HO155:=n6_;have HO159:=n7_;have HB:=n8_;clear n0_ n1_ n2_ n3_ n4_ n5_ n6_ n7_ n8_;clear hb ho53;obtain ⟨Ao54,co54,eo54⟩:=Kd.R_slice HO139.out;subst eo54;obtain ⟨Ao55,co55,eo55⟩:=Kd.R_slice HO159.out;subst eo55) |(go_at_call 22;(with_reducible refine(w10_ints.calls k _ _ t136 _ _ y157 true _ ?side1 ?side2 ?side3 ?side4 A22.out).mono ?_);(case side1=>repeat(first | exact(Kd.R_reads' HO139.out).2.2 |(with_reducible refine Kd.C_alloc ?_ _) |(with_reducible refine Kd.C_drewN ?_ _) |(with_reducible refine Kd.C_drew ?_)));(case side2=>exact(Kd.R_reads' HO139.out).2.1);(case side3=>repeat(first | exact(Kd.R_reads' HO159.out).2.2 |(with_reducible refine Kd.C_alloc ?_ _) |(with_reducible refine Kd.C_drewN ?_ _) |(with_reducible refine Kd.C_drew ?_)));(case side4=>exact(Kd.R_reads' HO159.out).2.1);rintro e w' ⟨rfl,⟨nd,rfl⟩⟩))
   go_meet
   exact⟨_,(true),(by first | rfl |(simp;done) |(simp [*];done)),H',⟨by first | omega | exact Nat.le_refl _⟩,⟨by repeat(first |(with_reducible first | exact HB.out | apply bwA | apply bwN | apply bw1) | exact HB.out)⟩⟩
  rw [if_pos c26] at H
  have c26b0 :(t146 == 0) = true:=beq_iff_eq.mpr c26
  have c26b1 :(t146 != 0) = false:=bne_eq_false_iff_eq.mpr c26
  clear c26
  obtain ⟨y161,hy161⟩ : ∃ y_ : List Int,y_ =(([1,2] : List Int)):=⟨_,rfl⟩
  replace H :((w10_ints.f k t145 y161).bind fun t164=>(w10_awake.j0 k (!t164))) = some r:=by first |(rw [hy161];with_reducible exact H) |(have H2_:=(Option.bind_some _ _).symm.trans H;rw [hy161];with_reducible exact H2_) |(have H2_:=(Option.bind_some _ _).symm.trans H;with_reducible exact H2_) | with_reducible exact H |(rw [hy161];exact H) | exact H
  have Ny161:=Aside0.mk hy161
  clear hy161
  replace H:=Option.bind_eq_some_iff.mp H
  obtain ⟨t164,A270,H⟩:=H
  replace H :(w10_awake.j0 k (!t164)) = some r:=H
  have A27:=Aside0.mk A270
  clear A270
  have H':=Aside0.mk H
  clear H
  go_wp2_with (first |((with_reducible refine gate_dst (N:=36) rfl ?_);(try(refine gate_guard (by rfl) ?_;dsimp only));refine Kd.R_lit (Kd.int .i64) _ 3 ?hg (N:=36) ?hd (xs:=([1,2] : List Int)) (inner:=[.int .i64 1,.int .i64 2]) (ok:=fun _=>True) (okp:=fun _=>True) ?hr ?hp (fun _ hk=>hk) trivial (Below.refl _ _) (Nat.le_refl _) (by simp) ?_;(case hd=>rfl);(case hg=>rfl);(case hr=>first |(go_simp;done) |(go_simp;rfl));(case hp=>exact(Reps.one (show Kd.M (Kd.int .i64) _ _ _ 1 [.int .i64 1] from rfl) (Reps.one (show Kd.M (Kd.int .i64) _ _ _ 2 [.int .i64 2] from rfl) (Reps.none _ _))));intro v150 w28 ho29 hb hg_ hnew_;clear hg_ hnew_;(first | rw [← Ny149.out] at ho29 |(simp only [Int.reduceToNat] at ho29;rw [← Ny149.out] at ho29));have n0_:=Aside0.mk (Kd.R_elder' (by(with_reducible repeat(first | apply Kd.R_alloc | apply Kd.R_drewN | apply Kd.R_drew));exact HO131.out) (Kd.R_base ho29) hb);have n1_:=Aside0.mk (Kd.R_elder' (by(with_reducible repeat(first | apply Kd.R_alloc | apply Kd.R_drewN | apply Kd.R_drew));exact HO135.out) (Kd.R_base ho29) hb);have n2_:=Aside0.mk (Kd.R_elder' (by(with_reducible repeat(first | apply Kd.R_alloc | apply Kd.R_drewN | apply Kd.R_drew));exact HO139.out) (Kd.R_base ho29) hb);have n3_:=Aside0.mk (Kd.R_elder' (by(with_reducible repeat(first | apply Kd.R_alloc | apply Kd.R_drewN | apply Kd.R_drew));exact HO144.out) (Kd.R_base ho29) hb);have n4_:=Aside0.mk (Kd.R_elder' (by(with_reducible repeat(first | apply Kd.R_alloc | apply Kd.R_drewN | apply Kd.R_drew));exact HO148.out) (Kd.R_base ho29) hb);have n5_:=Aside0.mk (Kd.R_lower (Kd.R_new' (Kd.R_new' (Kd.R_new' (Kd.R_new' (Kd.R_new' ho29 (Kd.R_lt (by(with_reducible repeat(first | apply Kd.R_alloc | apply Kd.R_drewN | apply Kd.R_drew));exact HO131.out))) (Kd.R_lt (by(with_reducible repeat(first | apply Kd.R_alloc | apply Kd.R_drewN | apply Kd.R_drew));exact HO135.out))) (Kd.R_lt (by(with_reducible repeat(first | apply Kd.R_alloc | apply Kd.R_drewN | apply Kd.R_drew));exact HO139.out))) (Kd.R_lt (by(with_reducible repeat(first | apply Kd.R_alloc | apply Kd.R_drewN | apply Kd.R_drew));exact HO144.out))) (Kd.R_lt (by(with_reducible repeat(first | apply Kd.R_alloc | apply Kd.R_drewN | apply Kd.R_drew));exact HO148.out))) (bwZ (by repeat(first |(with_reducible first | exact HB.out | apply bwA | apply bwN | apply bw1) | exact HB.out))));have n6_:=Aside0.mk (bwT (by repeat(first |(with_reducible first | exact HB.out | apply bwA | apply bwN | apply bw1) | exact HB.out)) hb);clear HO131;clear HO135;clear HO139;clear HO144;clear HO148;clear HB;have HO131:=n0_;have HO135:=n1_;have HO139:=n2_;have HO144:=n3_;have HO148:=n4_;have HO151:=n5_;have HB:=n6_;clear n0_ n1_ n2_ n3_ n4_ n5_ n6_;clear hb ho29;obtain ⟨Ao30,co30,eo30⟩:=Kd.R_slice HO131.out;subst eo30;obtain ⟨Ao31,co31,eo31⟩:=Kd.R_slice HO151.out;subst eo31) |(go_at_call 22;(with_reducible refine(w10_ints.calls k _ _ t128 _ _ y149 true _ ?side1 ?side2 ?side3 ?side4 A16.out).mono ?_);(case side1=>repeat(first | exact(Kd.R_reads' HO131.out).2.2 |(with_reducible refine Kd.C_alloc ?_ _) |(with_reducible refine Kd.C_drewN ?_ _) |(with_reducible refine Kd.C_drew ?_)));(case side2=>exact(Kd.R_reads' HO131.out).2.1);(case side3=>repeat(first | exact(Kd.R_reads' HO151.out).2.2 |(with_reducible refine Kd.C_alloc ?_ _) |(with_reducible refine Kd.C_drewN ?_ _) |(with_reducible refine Kd.C_drew ?_)));(case side4=>exact(Kd.R_reads' HO151.out).2.1);rintro e w' ⟨rfl,⟨nd,rfl⟩⟩) |((with_reducible refine gate_dst (N:=46) rfl ?_);(try(refine gate_guard (by rfl) ?_;dsimp only));refine Kd.R_lit (Kd.int .i64) _ 3 ?hg (N:=46) ?hd (xs:=([2,3] : List Int)) (inner:=[.int .i64 2,.int .i64 3]) (ok:=fun _=>True) (okp:=fun _=>True) ?hr ?hp (fun _ hk=>hk) trivial (Below.refl _ _) (Nat.le_refl _) (by simp) ?_;(case hd=>rfl);(case hg=>rfl);(case hr=>first |(go_simp;done) |(go_simp;rfl));(case hp=>exact(Reps.one (show Kd.M (Kd.int .i64) _ _ _ 2 [.int .i64 2] from rfl) (Reps.one (show Kd.M (Kd.int .i64) _ _ _ 3 [.int .i64 3] from rfl) (Reps.none _ _))));intro v154 w32 ho33 hb hg_ hnew_;clear hg_ hnew_;(first | rw [← Ny153.out] at ho33 |(simp only [Int.reduceToNat] at ho33;rw [← Ny153.out] at ho33));have n0_:=Aside0.mk (Kd.R_elder' (by(with_reducible repeat(first | apply Kd.R_alloc | apply Kd.R_drewN | apply Kd.R_drew));exact HO131.out) (Kd.R_base ho33) hb);have n1_:=Aside0.mk (Kd.R_elder' (by(with_reducible repeat(first | apply Kd.R_alloc | apply Kd.R_drewN | apply Kd.R_drew));exact HO135.out) (Kd.R_base ho33) hb);have n2_:=Aside0.mk (Kd.R_elder' (by(with_reducible repeat(first | apply Kd.R_alloc | apply Kd.R_drewN | apply Kd.R_drew));exact HO139.out) (Kd.R_base ho33) hb);have n3_:=Aside0.mk (Kd.R_elder' (by(with_reducible repeat(first | apply Kd.R_alloc | apply Kd.R_drewN | apply Kd.R_drew));exact HO144.out) (Kd.R_base ho33) hb);have n4_:=Aside0.mk (Kd.R_elder' (by(with_reducible repeat(first | apply Kd.R_alloc | apply Kd.R_drewN | apply Kd.R_drew));exact HO148.out) (Kd.R_base ho33) hb);have n5_:=Aside0.mk (Kd.R_elder' (by(with_reducible repeat(first | apply Kd.R_alloc | apply Kd.R_drewN | apply Kd.R_drew));exact HO151.out) (Kd.R_base ho33) hb);have n6_:=Aside0.mk (Kd.R_lower (Kd.R_new' (Kd.R_new' (Kd.R_new' (Kd.R_new' (Kd.R_new' (Kd.R_new' ho33 (Kd.R_lt (by(with_reducible repeat(first | apply Kd.R_alloc | apply Kd.R_drewN | apply Kd.R_drew));exact HO131.out))) (Kd.R_lt (by(with_reducible repeat(first | apply Kd.R_alloc | apply Kd.R_drewN | apply Kd.R_drew));exact HO135.out))) (Kd.R_lt (by(with_reducible repeat(first | apply Kd.R_alloc | apply Kd.R_drewN | apply Kd.R_drew));exact HO139.out))) (Kd.R_lt (by(with_reducible repeat(first | apply Kd.R_alloc | apply Kd.R_drewN | apply Kd.R_drew));exact HO144.out))) (Kd.R_lt (by(with_reducible repeat(first | apply Kd.R_alloc | apply Kd.R_drewN | apply Kd.R_drew));exact HO148.out))) (Kd.R_lt (by(with_reducible repeat(first | apply Kd.R_alloc | apply Kd.R_drewN | apply Kd.R_drew));exact HO151.out))) (bwZ (by repeat(first |(with_reducible first | exact HB.out | apply bwA | apply bwN | apply bw1) | exact HB.out))));have n7_:=Aside0.mk (bwT (by repeat(first |(with_reducible first | exact HB.out | apply bwA | apply bwN | apply bw1) | exact HB.out)) hb);clear HO131;clear HO135;clear HO139;clear HO144;clear HO148;clear HO151;clear HB;have HO131:=n0_;have HO135:=n1_;have HO139:=n2_;have HO144:=n3_;have HO148:=n4_;have HO151:=n5_;have HO155:=n6_;have HB:=n7_;clear n0_ n1_ n2_ n3_ n4_ n5_ n6_ n7_;clear hb ho33;obtain ⟨Ao34,co34,eo34⟩:=Kd.R_slice HO135.out;subst eo34;obtain ⟨Ao35,co35,eo35⟩:=Kd.R_slice HO155.out;subst eo35) |(go_at_call 22;(with_reducible refine(w10_ints.calls k _ _ t132 _ _ y153 true _ ?side1 ?side2 ?side3 ?side4 A19.out).mono ?_);(case side1=>repeat(first | exact(Kd.R_reads' HO135.out).2.2 |(with_reducible refine Kd.C_alloc ?_ _) |(with_reducible refine Kd.C_drewN ?_ _) |(with_reducible refine Kd.C_drew ?_)));(case side2=>exact(Kd.R_reads' HO135.out).2.1);(case side3=>repeat(first | exact(Kd.R_reads' HO155.out).2.2 |(with_reducible refine Kd.C_alloc ?_ _) |(with_reducible refine Kd.C_drewN ?_ _) |(with_reducible refine Kd.C_drew ?_)));(case side4=>exact(Kd.R_reads' HO155.out).2.1);rintro e w' ⟨rfl,⟨nd,rfl⟩⟩) |((with_reducible refine gate_dst (N:=56) rfl ?_);(try(refine gate_guard (by rfl) ?_;dsimp only));refine Kd.R_lit (Kd.int .i64) _ 3 ?hg (N:=56) ?hd (xs:=([3,2,1] : List Int)) (inner:=[.int .i64 3,.int .i64 2,.int .i64 1]) (ok:=fun _=>True) (okp:=fun _=>True) ?hr ?hp (fun _ hk=>hk) trivial (Below.refl _ _) (Nat.le_refl _) (by simp) ?_;(case hd=>rfl);(case hg=>rfl);(case hr=>first |(go_simp;done) |(go_simp;rfl));(case hp=>exact(Reps.one (show Kd.M (Kd.int .i64) _ _ _ 3 [.int .i64 3] from rfl) (Reps.one (show Kd.M (Kd.int .i64) _ _ _ 2 [.int .i64 2] from rfl) (Reps.one (show Kd.M (Kd.int .i64) _ _ _ 1 [.int .i64 1] from rfl) (Reps.none _ _)))));intro v158 w36 ho37 hb hg_ hnew_;clear hg_ hnew_;(first | rw [← Ny157.out] at ho37 |(simp only [Int.reduceToNat] at ho37;rw [← Ny157.out] at ho37));have n0_:=Aside0.mk (Kd.R_elder' (by(with_reducible repeat(first | apply Kd.R_alloc | apply Kd.R_drewN | apply Kd.R_drew));exact HO131.out) (Kd.R_base ho37) hb);have n1_:=Aside0.mk (Kd.R_elder' (by(with_reducible repeat(first | apply Kd.R_alloc | apply Kd.R_drewN | apply Kd.R_drew));exact HO135.out) (Kd.R_base ho37) hb);have n2_:=Aside0.mk (Kd.R_elder' (by(with_reducible repeat(first | apply Kd.R_alloc | apply Kd.R_drewN | apply Kd.R_drew));exact HO139.out) (Kd.R_base ho37) hb);have n3_:=Aside0.mk (Kd.R_elder' (by(with_reducible repeat(first | apply Kd.R_alloc | apply Kd.R_drewN | apply Kd.R_drew));exact HO144.out) (Kd.R_base ho37) hb);have n4_:=Aside0.mk (Kd.R_elder' (by(with_reducible repeat(first | apply Kd.R_alloc | apply Kd.R_drewN | apply Kd.R_drew));exact HO148.out) (Kd.R_base ho37) hb);have n5_:=Aside0.mk (Kd.R_elder' (by(with_reducible repeat(first | apply Kd.R_alloc | apply Kd.R_drewN | apply Kd.R_drew));exact HO151.out) (Kd.R_base ho37) hb);have n6_:=Aside0.mk (Kd.R_elder' (by(with_reducible repeat(first | apply Kd.R_alloc | apply Kd.R_drewN | apply Kd.R_drew));exact HO155.out) (Kd.R_base ho37) hb);have n7_:=Aside0.mk (Kd.R_lower (Kd.R_new' (Kd.R_new' (Kd.R_new' (Kd.R_new' (Kd.R_new' (Kd.R_new' (Kd.R_new' ho37 (Kd.R_lt (by(with_reducible repeat(first | apply Kd.R_alloc | apply Kd.R_drewN | apply Kd.R_drew));exact HO131.out))) (Kd.R_lt (by(with_reducible repeat(first | apply Kd.R_alloc | apply Kd.R_drewN | apply Kd.R_drew));exact HO135.out))) (Kd.R_lt (by(with_reducible repeat(first | apply Kd.R_alloc | apply Kd.R_drewN | apply Kd.R_drew));exact HO139.out))) (Kd.R_lt (by(with_reducible repeat(first | apply Kd.R_alloc | apply Kd.R_drewN | apply Kd.R_drew));exact HO144.out))) (Kd.R_lt (by(with_reducible repeat(first | apply Kd.R_alloc | apply Kd.R_drewN | apply Kd.R_drew));exact HO148.out))) (Kd.R_lt (by(with_reducible repeat(first | apply Kd.R_alloc | apply Kd.R_drewN | apply Kd.R_drew));exact HO151.out))) (Kd.R_lt (by(with_reducible repeat(first | apply Kd.R_alloc | apply Kd.R_drewN | apply Kd.R_drew));exact HO155.out))) (bwZ (by repeat(first |(with_reducible first | exact HB.out | apply bwA | apply bwN | apply bw1) | exact HB.out))));have n8_:=Aside0.mk (bwT (by repeat(first |(with_reducible first | exact HB.out | apply bwA | apply bwN | apply bw1) | exact HB.out)) hb);clear HO131;clear HO135;clear HO139;clear HO144;clear HO148;clear HO151;clear HO155;clear HB;have HO131:=n0_;have HO135:=n1_;have HO139:=n2_;have HO144:=n3_;have HO148:=n4_;have HO151:=n5_;have HO155:=n6_;have HO159:=n7_;have HB:=n8_;clear n0_ n1_ n2_ n3_ n4_ n5_ n6_ n7_ n8_;clear hb ho37;obtain ⟨Ao38,co38,eo38⟩:=Kd.R_slice HO139.out;subst eo38;obtain ⟨Ao39,co39,eo39⟩:=Kd.R_slice HO159.out;subst eo39) |(go_at_call 22;(with_reducible refine(w10_ints.calls k _ _ t136 _ _ y157 true _ ?side1 ?side2 ?side3 ?side4 A22.out).mono ?_);(case side1=>repeat(first | exact(Kd.R_reads' HO139.out).2.2 |(with_reducible refine Kd.C_alloc ?_ _) |(with_reducible refine Kd.C_drewN ?_ _) |(with_reducible refine Kd.C_drew ?_)));(case side2=>exact(Kd.R_reads' HO139.out).2.1);(case side3=>repeat(first | exact(Kd.R_reads' HO159.out).2.2 |(with_reducible refine Kd.C_alloc ?_ _) |(with_reducible refine Kd.C_drewN ?_ _) |(with_reducible refine Kd.C_drew ?_)));(case side4=>exact(Kd.R_reads' HO159.out).2.1);rintro e w' ⟨rfl,⟨nd,rfl⟩⟩) |((with_reducible refine gate_dst (N:=74) rfl ?_);(try(refine gate_guard (by rfl) ?_;dsimp only));refine Kd.R_lit (Kd.int .i64) _ 3 ?hg (N:=74) ?hd (xs:=([1,2] : List Int)) (inner:=[.int .i64 1,.int .i64 2]) (ok:=fun _=>True) (okp:=fun _=>True) ?hr ?hp (fun _ hk=>hk) trivial (Below.refl _ _) (Nat.le_refl _) (by simp) ?_;(case hd=>rfl);(case hg=>rfl);(case hr=>first |(go_simp;done) |(go_simp;rfl));(case hp=>exact(Reps.one (show Kd.M (Kd.int .i64) _ _ _ 1 [.int .i64 1] from rfl) (Reps.one (show Kd.M (Kd.int .i64) _ _ _ 2 [.int .i64 2] from rfl) (Reps.none _ _))));intro v162 w40 ho41 hb hg_ hnew_;clear hg_ hnew_;(first | rw [← Ny161.out] at ho41 |(simp only [Int.reduceToNat] at ho41;rw [← Ny161.out] at ho41));have n0_:=Aside0.mk (Kd.R_elder' (by(with_reducible repeat(first | apply Kd.R_alloc | apply Kd.R_drewN | apply Kd.R_drew));exact HO131.out) (Kd.R_base ho41) hb);have n1_:=Aside0.mk (Kd.R_elder' (by(with_reducible repeat(first | apply Kd.R_alloc | apply Kd.R_drewN | apply Kd.R_drew));exact HO135.out) (Kd.R_base ho41) hb);have n2_:=Aside0.mk (Kd.R_elder' (by(with_reducible repeat(first | apply Kd.R_alloc | apply Kd.R_drewN | apply Kd.R_drew));exact HO139.out) (Kd.R_base ho41) hb);have n3_:=Aside0.mk (Kd.R_elder' (by(with_reducible repeat(first | apply Kd.R_alloc | apply Kd.R_drewN | apply Kd.R_drew));exact HO144.out) (Kd.R_base ho41) hb);have n4_:=Aside0.mk (Kd.R_elder' (by(with_reducible repeat(first | apply Kd.R_alloc | apply Kd.R_drewN | apply Kd.R_drew));exact HO148.out) (Kd.R_base ho41) hb);have n5_:=Aside0.mk (Kd.R_elder' (by(with_reducible repeat(first | apply Kd.R_alloc | apply Kd.R_drewN | apply Kd.R_drew));exact HO151.out) (Kd.R_base ho41) hb);have n6_:=Aside0.mk (Kd.R_elder' (by(with_reducible repeat(first | apply Kd.R_alloc | apply Kd.R_drewN | apply Kd.R_drew));exact HO155.out) (Kd.R_base ho41) hb);have n7_:=Aside0.mk (Kd.R_elder' (by(with_reducible repeat(first | apply Kd.R_alloc | apply Kd.R_drewN | apply Kd.R_drew));exact HO159.out) (Kd.R_base ho41) hb);have n8_:=Aside0.mk (Kd.R_lower (Kd.R_new' (Kd.R_new' (Kd.R_new' (Kd.R_new' (Kd.R_new' (Kd.R_new' (Kd.R_new' (Kd.R_new' ho41 (Kd.R_lt (by(with_reducible repeat(first | apply Kd.R_alloc | apply Kd.R_drewN | apply Kd.R_drew));exact HO131.out))) (Kd.R_lt (by(with_reducible repeat(first | apply Kd.R_alloc | apply Kd.R_drewN | apply Kd.R_drew));exact HO135.out))) (Kd.R_lt (by(with_reducible repeat(first | apply Kd.R_alloc | apply Kd.R_drewN | apply Kd.R_drew));exact HO139.out))) (Kd.R_lt (by(with_reducible repeat(first | apply Kd.R_alloc | apply Kd.R_drewN | apply Kd.R_drew));exact HO144.out))) (Kd.R_lt (by(with_reducible repeat(first | apply Kd.R_alloc | apply Kd.R_drewN | apply Kd.R_drew));exact HO148.out))) (Kd.R_lt (by(with_reducible repeat(first | apply Kd.R_alloc | apply Kd.R_drewN | apply Kd.R_drew));exact HO151.out))) (Kd.R_lt (by(with_reducible repeat(first | apply Kd.R_alloc | apply Kd.R_drewN | apply Kd.R_drew));exact HO155.out))) (Kd.R_lt (by(with_reducible repeat(first | apply Kd.R_alloc | apply Kd.R_drewN | apply Kd.R_drew));exact HO159.out))) (bwZ (by repeat(first |(with_reducible first | exact HB.out | apply bwA | apply bwN | apply bw1) | exact HB.out))));have n9_:=Aside0.mk (bwT (by repeat(first |(with_reducible first | exact HB.out | apply bwA | apply bwN | apply bw1) | exact HB.out)) hb);clear HO131;clear HO135;clear HO139;clear HO144;clear HO148;clear HO151;clear HO155;clear HO159;clear HB;have HO131:=n0_;have HO135:=n1_;have HO139:=n2_;have HO144:=n3_;have HO148:=n4_;have HO151:=n5_;have HO155:=n6_;have HO159:=n7_;have HO163:=n8_;have HB:=n9_;clear n0_ n1_ n2_ n3_ n4_ n5_ n6_ n7_ n8_ n9_;clear hb ho41;obtain ⟨Ao42,co42,eo42⟩:=Kd.R_slice HO148.out;subst eo42;obtain ⟨Ao43,co43,eo43⟩:=Kd.R_slice HO163.out;subst eo43) |(go_at_call 22;(with_reducible refine(w10_ints.calls k _ _ t145 _ _ y161 t164 _ ?side1 ?side2 ?side3 ?side4 A27.out).mono ?_);(case side1=>repeat(first | exact(Kd.R_reads' HO148.out).2.2 |(with_reducible refine Kd.C_alloc ?_ _) |(with_reducible refine Kd.C_drewN ?_ _) |(with_reducible refine Kd.C_drew ?_)));(case side2=>exact(Kd.R_reads' HO148.out).2.1);(case side3=>repeat(first | exact(Kd.R_reads' HO163.out).2.2 |(with_reducible refine Kd.C_alloc ?_ _) |(with_reducible refine Kd.C_drewN ?_ _) |(with_reducible refine Kd.C_drew ?_)));(case side4=>exact(Kd.R_reads' HO163.out).2.1);rintro e w' ⟨rfl,⟨nd,rfl⟩⟩))
  go_meet
  exact⟨_,(!t164),(by first | rfl |(simp;done) |(simp [*];done)),H',⟨by first | omega | exact Nat.le_refl _⟩,⟨by repeat(first |(with_reducible first | exact HB.out | apply bwA | apply bwN | apply bw1) | exact HB.out)⟩⟩
 case rest =>
  clear HC6
  try clear c1
  try clear c2
  try clear p2
  try clear c3
  try clear c4
  try clear c15
  try clear c15b0
  try clear c15b1
  try clear c17
  try clear c18
  try clear c18b0
  try clear c18b1
  try clear c20
  try clear c21
  try clear c21b0
  try clear c21b1
  try clear c23
  try clear c24
  try clear c24b0
  try clear c24b1
  try clear c25
  try clear c25b0
  try clear c25b1
  try clear c26
  try clear c26b0
  try clear c26b1
  try clear c28
  try clear c31
  try clear c38
  try clear c48
  obtain ⟨kq,x77_5,rfl,HA,HJ5,HB⟩:=hcut
  cases kq with
  | zero=>exact absurd HA.out (by simp [w10_awake.j0])
  | succ kj5 =>
   have H:=HA.out
   clear HA
   simp only [w10_awake.j0] at H
   by_cases c116 : x77_5 = true
   ·subst c116
    have H1 :(some false) = some r:=by rw [if_pos rfl] at H;exact H
    clear H
    have H:=H1
    clear H1
    obtain rfl:=Option.some.inj H
    go_wp2
    go_ret
    exact⟨by first | rfl |(simp [errW_none,errW_some] <;> rfl) |(simp [*,errW_none,errW_some] <;> rfl),by repeat(first |(with_reducible first | exact HB.out | apply bwA | apply bwN | apply bw1) | exact HB.out)⟩
   replace c116:=Bool.eq_false_iff.mpr c116
   subst c116
   have H1 :(some true) = some r:=by rw [if_neg (show ¬ (false = true) by decide)] at H;exact H
   clear H
   have H:=H1
   clear H1
   obtain rfl:=Option.some.inj H
   go_wp2
   go_ret
   exact⟨by first | rfl |(simp [errW_none,errW_some] <;> rfl) |(simp [*,errW_none,errW_some] <;> rfl),by repeat(first |(with_reducible first | exact HB.out | apply bwA | apply bwN | apply bw1) | exact HB.out)⟩

def w10_mod.f (a0 : Int) (a1 : Int) : Option (Int):=if(IntKind.u64.wrap (a1)) = 0 then(none) else(some (wrap64 (Int.tmod (IntKind.u64.wrap (a0)) (IntKind.u64.wrap (a1)))))
set_option maxHeartbeats 8000000 in
set_option maxRecDepth 100000 in
theorem w10_mod.calls (a0 : Int) (a1 : Int) (r : Int) (w : World) (h : w10_mod.f a0 a1 = some r) :
  Calls Try.prog 26 #[.int .i64 a0,.int .i64 a1] w fun e w'=>e = .returned (.int .i64 r)∧Drawn0 w w':=by
 have H :(if(IntKind.u64.wrap (a1)) = 0 then(none) else(some (wrap64 (Int.tmod (IntKind.u64.wrap (a0)) (IntKind.u64.wrap (a1)))))) = some r:=h
 clear h
 by_cases c3 :(IntKind.u64.wrap (a1)) = 0
 ·rw [if_pos c3] at H
  exact absurd H (by simp)
 rw [if_neg c3] at H
 have c3b0 :((IntKind.u64.wrap (a1)) == 0) = false:=beq_eq_false_iff_ne.mpr c3
 have c3b1 :((IntKind.u64.wrap (a1)) != 0) = true:=bne_iff_ne.mpr c3
 obtain rfl:=Option.some.inj H
 go_enter Try.func26,Try.ntmps26
 go_wp2
 go_ret
 exact⟨by first | rfl |(simp;done) |(simp [*];done),by repeat(first | exact Drawn0.refl _ | apply Drawn0.step)⟩

def q10_Sets.l0 : Nat → Int → List Int → Int → Option (Bool)
 | 0,_,_,_=>none
 | k + 1,x0,x1,x5=>if x5 < (x1.length : Int) then(if 0≤x5 then(if(rd x1 x5) < 1 then(some false) else(if(rd x1 x5) > x0 then(some false) else(if x5 > 0 then(if 0 ≤(wrap64 (x5 - 1)) then(if(wrap64 (x5 - 1)) < (x1.length : Int) then(if(rd x1 (wrap64 (x5 - 1))) ≥ (rd x1 x5) then(some false) else(q10_Sets.l0 k x0 x1 (wrap64 (x5 + 1)))) else(none)) else(none)) else(q10_Sets.l0 k x0 x1 (wrap64 (x5 + 1)))))) else(none)) else(some true)
def q10_Sets.f (k : Nat) (a0 : Int) (l1 : List Int) : Option (Bool):=q10_Sets.l0 k a0 l1 0
set_option maxHeartbeats 8000000 in
set_option maxRecDepth 100000 in
theorem q10_Sets.calls (k : Nat) (a0 : Int) (A1 : Option Addr) (c1 : Nat) (l1 : List Int) (r : Bool) (w : World) (hr1 : Kd.C (Kd.int .i64) w A1 l1.length l1) (hc1 : l1.length ≤ c1) (h : q10_Sets.f k a0 l1 = some r) :
  Calls Try.prog 35 #[.int .i64 a0,.slice A1 l1.length c1] w fun e w'=>e = .returned (.bool r)∧Drawn0 w w':=by
 have HR1:=Aside0.mk hr1
 have HC1:=Aside0.mk hc1
 clear hr1 hc1
 have H :(q10_Sets.l0 k a0 l1 0) = some r:=h
 clear h
 have H':=Aside0.mk H
 clear H
 go_enter Try.func35,Try.ntmps35
 go_wp2
 repeat(go_quiet (fail);try go_wp2)
 go_loopg [5] k (fun kq v5 w'=>∃ (x5_1 : Int),v5 = .int .i64 x5_1∧Aside0 (q10_Sets.l0 kq a0 l1 x5_1 = some r)∧Aside0 (kq≤k)∧Drawn0 w w')
 case atStart=>exact⟨(0),(by first | rfl |(simp;done) |(simp [*];done)),H',⟨Nat.le_refl _⟩,by repeat(first | exact Drawn0.refl _ | apply Drawn0.step)⟩
 clear H'
 try clear c1
 try clear p2
 obtain ⟨x5_1,rfl,HA,HK1,⟨m1,rfl⟩⟩:=hrel
 cases gk with
 | zero=>exact absurd HA.out (by simp [q10_Sets.l0])
 | succ k1 =>
  have H:=HA.out
  clear HA
  simp only [q10_Sets.l0] at H
  by_cases c3 : x5_1 < (l1.length : Int)
  rotate_left
  ·rw [if_neg c3] at H
   have c3b0 : decide (x5_1 < (l1.length : Int)) = false:=decide_eq_false c3
   clear c3
   obtain rfl:=Option.some.inj H
   go_wp2
   repeat(go_quiet (fail);try go_wp2)
   go_ret
   exact⟨by first | rfl |(simp;done) |(simp [*];done),by repeat(first | exact Drawn0.refl _ | apply Drawn0.step)⟩
  rw [if_pos c3] at H
  have c3b0 : decide (x5_1 < (l1.length : Int)) = true:=decide_eq_true c3
  clear c3
  by_cases c4 : 0≤x5_1
  rotate_left
  ·rw [if_neg c4] at H
   exact absurd H (by simp)
  rw [if_pos c4] at H
  have c4b0 : decide (0≤x5_1) = true:=decide_eq_true c4
  clear c4
  by_cases c5 :(rd l1 x5_1) < 1
  ·rw [if_pos c5] at H
   have c5b0 : decide ((rd l1 x5_1) < 1) = true:=decide_eq_true c5
   clear c5
   obtain rfl:=Option.some.inj H
   have p308 : 0 ≤(x5_1 : Int):=of_decide_eq_true (by first |(with_reducible assumption) | assumption)
   have q308 : x5_1 < (l1.length : Int):=of_decide_eq_true (by first |(with_reducible assumption) | assumption)
   obtain ⟨ad308,e308,hx308_0⟩:=Kd.at_int HR1.out x5_1 p308 q308
   cases e308
   replace p308:=eq_true p308
   replace q308:=eq_true q308
   go_wp2
   repeat(go_quiet (fail);try go_wp2)
   go_ret
   exact⟨by first | rfl |(simp;done) |(simp [*];done),by repeat(first | exact Drawn0.refl _ | apply Drawn0.step)⟩
  rw [if_neg c5] at H
  have c5b0 : decide ((rd l1 x5_1) < 1) = false:=decide_eq_false c5
  clear c5
  by_cases c6 :(rd l1 x5_1) > a0
  ·rw [if_pos c6] at H
   have c6b0 : decide (a0 < (rd l1 x5_1)) = true:=decide_eq_true c6
   clear c6
   obtain rfl:=Option.some.inj H
   have p308 : 0 ≤(x5_1 : Int):=of_decide_eq_true (by first |(with_reducible assumption) | assumption)
   have q308 : x5_1 < (l1.length : Int):=of_decide_eq_true (by first |(with_reducible assumption) | assumption)
   obtain ⟨ad308,e308,hx308_0⟩:=Kd.at_int HR1.out x5_1 p308 q308
   cases e308
   replace p308:=eq_true p308
   replace q308:=eq_true q308
   have p309 : 0 ≤(x5_1 : Int):=of_decide_eq_true (by first |(with_reducible assumption) | assumption)
   have q309 : x5_1 < (l1.length : Int):=of_decide_eq_true (by first |(with_reducible assumption) | assumption)
   obtain ⟨ad309,e309,hx309_0⟩:=Kd.at_int HR1.out x5_1 p309 q309
   obtain rfl : ad308 = ad309:=(by injection e309)
   replace p309:=eq_true p309
   replace q309:=eq_true q309
   go_wp2
   repeat(go_quiet (fail);try go_wp2)
   go_ret
   exact⟨by first | rfl |(simp;done) |(simp [*];done),by repeat(first | exact Drawn0.refl _ | apply Drawn0.step)⟩
  rw [if_neg c6] at H
  have c6b0 : decide (a0 < (rd l1 x5_1)) = false:=decide_eq_false c6
  clear c6
  by_cases c7 : x5_1 > 0
  rotate_left
  ·rw [if_neg c7] at H
   have c7b0 : decide (0 < x5_1) = false:=decide_eq_false c7
   clear c7
   have H':=Aside0.mk H
   clear H
   have p308 : 0 ≤(x5_1 : Int):=of_decide_eq_true (by first |(with_reducible assumption) | assumption)
   have q308 : x5_1 < (l1.length : Int):=of_decide_eq_true (by first |(with_reducible assumption) | assumption)
   obtain ⟨ad308,e308,hx308_0⟩:=Kd.at_int HR1.out x5_1 p308 q308
   cases e308
   replace p308:=eq_true p308
   replace q308:=eq_true q308
   have p309 : 0 ≤(x5_1 : Int):=of_decide_eq_true (by first |(with_reducible assumption) | assumption)
   have q309 : x5_1 < (l1.length : Int):=of_decide_eq_true (by first |(with_reducible assumption) | assumption)
   obtain ⟨ad309,e309,hx309_0⟩:=Kd.at_int HR1.out x5_1 p309 q309
   obtain rfl : ad308 = ad309:=(by injection e309)
   replace p309:=eq_true p309
   replace q309:=eq_true q309
   go_wp2
   repeat(go_quiet (fail);try go_wp2)
   go_roundg k1
   case measure=>have:=HK1.out;omega
   exact⟨(wrap64 (x5_1 + 1)),(by first | rfl |(simp;done) |(simp [*];done)),H',⟨by have:=HK1.out;omega⟩,by repeat(first | exact Drawn0.refl _ | apply Drawn0.step)⟩
  rw [if_pos c7] at H
  have c7b0 : decide (0 < x5_1) = true:=decide_eq_true c7
  clear c7
  obtain ⟨ji8,hji8⟩ : ∃ j_ : Int,(wrap64 (x5_1 - 1)) = j_:=⟨_,rfl⟩
  replace H :(if 0 ≤(ji8) then(if(ji8) < (l1.length : Int) then(if(rd l1 (ji8)) ≥ (rd l1 x5_1) then(some false) else(q10_Sets.l0 k1 a0 l1 (wrap64 (x5_1 + 1)))) else(none)) else(none)) = some r:=by first |(rw [hji8] at H;exact H) |(simp only [hji8] at H ⊢;exact H)
  have hji8w :(IntKind.i64.wrap (x5_1 - 1)) = ji8:=(i64_w _).trans hji8
  by_cases c9 : 0 ≤(ji8)
  rotate_left
  ·rw [if_neg c9] at H
   exact absurd H (by simp)
  rw [if_pos c9] at H
  have c9b0 : decide (0 ≤(ji8)) = true:=decide_eq_true c9
  clear c9
  by_cases c10 :(ji8) < (l1.length : Int)
  rotate_left
  ·rw [if_neg c10] at H
   exact absurd H (by simp)
  rw [if_pos c10] at H
  have c10b0 : decide ((ji8) < (l1.length : Int)) = true:=decide_eq_true c10
  clear c10
  by_cases c11 :(rd l1 (ji8)) ≥ (rd l1 x5_1)
  ·rw [if_pos c11] at H
   have c11b0 : decide ((rd l1 x5_1) ≤(rd l1 (ji8))) = true:=decide_eq_true c11
   clear c11
   obtain rfl:=Option.some.inj H
   have p308 : 0 ≤(x5_1 : Int):=of_decide_eq_true (by first |(with_reducible assumption) | assumption)
   have q308 : x5_1 < (l1.length : Int):=of_decide_eq_true (by first |(with_reducible assumption) | assumption)
   obtain ⟨ad308,e308,hx308_0⟩:=Kd.at_int HR1.out x5_1 p308 q308
   cases e308
   replace p308:=eq_true p308
   replace q308:=eq_true q308
   have p309 : 0 ≤(x5_1 : Int):=of_decide_eq_true (by first |(with_reducible assumption) | assumption)
   have q309 : x5_1 < (l1.length : Int):=of_decide_eq_true (by first |(with_reducible assumption) | assumption)
   obtain ⟨ad309,e309,hx309_0⟩:=Kd.at_int HR1.out x5_1 p309 q309
   obtain rfl : ad308 = ad309:=(by injection e309)
   replace p309:=eq_true p309
   replace q309:=eq_true q309
   have p310 : 0 ≤((ji8) : Int):=of_decide_eq_true (by first |(with_reducible assumption) | assumption)
   have q310 :(ji8) < (l1.length : Int):=of_decide_eq_true (by first |(with_reducible assumption) | assumption)
   obtain ⟨ad310,e310,hx310_0⟩:=Kd.at_int HR1.out (ji8) p310 q310
   obtain rfl : ad308 = ad310:=(by injection e310)
   replace p310:=eq_true p310
   replace q310:=eq_true q310
   have p311 : 0 ≤(x5_1 : Int):=of_decide_eq_true (by first |(with_reducible assumption) | assumption)
   have q311 : x5_1 < (l1.length : Int):=of_decide_eq_true (by first |(with_reducible assumption) | assumption)
   obtain ⟨ad311,e311,hx311_0⟩:=Kd.at_int HR1.out x5_1 p311 q311
   obtain rfl : ad308 = ad311:=(by injection e311)
   replace p311:=eq_true p311
   replace q311:=eq_true q311
   go_wp2
   repeat(go_quiet (fail);try go_wp2)
   go_ret
   exact⟨by first | rfl |(simp;done) |(simp only [← hji8] <;>(first | rfl | simp)) |(simp [*];done),by repeat(first | exact Drawn0.refl _ | apply Drawn0.step)⟩
  rw [if_neg c11] at H
  have c11b0 : decide ((rd l1 x5_1) ≤(rd l1 (ji8))) = false:=decide_eq_false c11
  clear c11
  have H':=Aside0.mk H
  clear H
  have p308 : 0 ≤(x5_1 : Int):=of_decide_eq_true (by first |(with_reducible assumption) | assumption)
  have q308 : x5_1 < (l1.length : Int):=of_decide_eq_true (by first |(with_reducible assumption) | assumption)
  obtain ⟨ad308,e308,hx308_0⟩:=Kd.at_int HR1.out x5_1 p308 q308
  cases e308
  replace p308:=eq_true p308
  replace q308:=eq_true q308
  have p309 : 0 ≤(x5_1 : Int):=of_decide_eq_true (by first |(with_reducible assumption) | assumption)
  have q309 : x5_1 < (l1.length : Int):=of_decide_eq_true (by first |(with_reducible assumption) | assumption)
  obtain ⟨ad309,e309,hx309_0⟩:=Kd.at_int HR1.out x5_1 p309 q309
  obtain rfl : ad308 = ad309:=(by injection e309)
  replace p309:=eq_true p309
  replace q309:=eq_true q309
  have p310 : 0 ≤((ji8) : Int):=of_decide_eq_true (by first |(with_reducible assumption) | assumption)
  have q310 :(ji8) < (l1.length : Int):=of_decide_eq_true (by first |(with_reducible assumption) | assumption)
  obtain ⟨ad310,e310,hx310_0⟩:=Kd.at_int HR1.out (ji8) p310 q310
  obtain rfl : ad308 = ad310:=(by injection e310)
  replace p310:=eq_true p310
  replace q310:=eq_true q310
  have p311 : 0 ≤(x5_1 : Int):=of_decide_eq_true (by first |(with_reducible assumption) | assumption)
  have q311 : x5_1 < (l1.length : Int):=of_decide_eq_true (by first |(with_reducible assumption) | assumption)
  obtain ⟨ad311,e311,hx311_0⟩:=Kd.at_int HR1.out x5_1 p311 q311
  obtain rfl : ad308 = ad311:=(by injection e311)
  replace p311:=eq_true p311
  replace q311:=eq_true q311
  go_wp2
  repeat(go_quiet (fail);try go_wp2)
  go_roundg k1
  case measure=>have:=HK1.out;omega
  exact⟨(wrap64 (x5_1 + 1)),(by first | rfl |(simp;done) |(simp [*];done)),H',⟨by have:=HK1.out;omega⟩,by repeat(first | exact Drawn0.refl _ | apply Drawn0.step)⟩

mutual
def w10_differ.l0 : Nat → List Int → List Int → Int → Int → Int → Int → Option (Int × Int)
 | 0,_,_,_,_,_,_=>none
 | k + 1,x0,x1,x6,x7,x8,x9=>if x6 < (x0.length : Int) then(w10_differ.j1 k x0 x1 x6 x7 x8 x9 true) else(w10_differ.j1 k x0 x1 x6 x7 x8 x9 (decide (x7 < (x1.length : Int))))
def w10_differ.j1 : Nat → List Int → List Int → Int → Int → Int → Int → Bool → Option (Int × Int)
 | 0,_,_,_,_,_,_,_=>none
 | k + 1,x0,x1,x6,x7,x8,x9,x19=>if x19 = true then(if x7 =(x1.length : Int) then(w10_differ.j2 k x0 x1 x6 x7 x8 x9 true) else(if x6 < (x0.length : Int) then(if 0≤x6 then(if 0≤x7 then(if x7 < (x1.length : Int) then(w10_differ.j2 k x0 x1 x6 x7 x8 x9 (decide ((rd x0 x6) < (rd x1 x7)))) else(none)) else(none)) else(none)) else(w10_differ.j2 k x0 x1 x6 x7 x8 x9 false))) else(some (x8,x9))
def w10_differ.j2 : Nat → List Int → List Int → Int → Int → Int → Int → Bool → Option (Int × Int)
 | 0,_,_,_,_,_,_,_=>none
 | k + 1,x0,x1,x6,x7,x8,x9,x24=>if x24 = true then(w10_differ.l0 k x0 x1 (wrap64 (x6 + 1)) x7 (wrap64 (x8 + 1)) x9) else(if x6 =(x0.length : Int) then(w10_differ.l0 k x0 x1 x6 (wrap64 (x7 + 1)) x8 (wrap64 (x9 + 1))) else(if 0≤x7 then(if x7 < (x1.length : Int) then(if 0≤x6 then(if x6 < (x0.length : Int) then(if(rd x1 x7) < (rd x0 x6) then(w10_differ.l0 k x0 x1 x6 (wrap64 (x7 + 1)) x8 (wrap64 (x9 + 1))) else(w10_differ.l0 k x0 x1 (wrap64 (x6 + 1)) (wrap64 (x7 + 1)) x8 x9)) else(none)) else(none)) else(none)) else(none)))
end
def w10_differ.f (k : Nat) (l0 : List Int) (l1 : List Int) : Option (Int×Int):=w10_differ.l0 k l0 l1 0 0 0 0
set_option maxHeartbeats 8000000 in
set_option maxRecDepth 100000 in
theorem w10_differ.calls (k : Nat) (A0 : Option Addr) (c0 : Nat) (l0 : List Int) (A1 : Option Addr) (c1 : Nat) (l1 : List Int) (r1 : Int) (r2 : Int) (w : World) (hr0 : Kd.C (Kd.int .i64) w A0 l0.length l0) (hc0 : l0.length ≤ c0) (hr1 : Kd.C (Kd.int .i64) w A1 l1.length l1) (hc1 : l1.length ≤ c1) (h : w10_differ.f k l0 l1 = some (r1, r2)) :
  Calls Try.prog 37 #[.slice A0 l0.length c0,.slice A1 l1.length c1] w fun e w'=>e = .returned (.tuple #[.int .i64 r1,.int .i64 r2])∧Drawn0 w w':=by
 have HR0:=Aside0.mk hr0
 have HC0:=Aside0.mk hc0
 clear hr0 hc0
 have HR1:=Aside0.mk hr1
 have HC1:=Aside0.mk hc1
 clear hr1 hc1
 have H :(w10_differ.l0 k l0 l1 0 0 0 0) = some (r1,r2):=h
 clear h
 have H':=Aside0.mk H
 clear H
 go_enter Try.func37,Try.ntmps37
 go_wp2
 repeat(go_quiet (fail);try go_wp2)
 go_loopg [6,7,8,9] k (fun kq v6 v7 v8 v9 w'=>∃ (x6_1 : Int) (x7_1 : Int) (x8_1 : Int) (x9_1 : Int),v6 = .int .i64 x6_1∧v7 = .int .i64 x7_1∧v8 = .int .i64 x8_1∧v9 = .int .i64 x9_1∧Aside0 (w10_differ.l0 kq l0 l1 x6_1 x7_1 x8_1 x9_1 = some (r1,r2))∧Aside0 (kq≤k)∧Drawn0 w w')
 case atStart=>exact⟨(0),(0),(0),(0),(by first | rfl |(simp;done) |(simp [*];done)),(by first | rfl |(simp;done) |(simp [*];done)),(by first | rfl |(simp;done) |(simp [*];done)),(by first | rfl |(simp;done) |(simp [*];done)),H',⟨Nat.le_refl _⟩,by repeat(first | exact Drawn0.refl _ | apply Drawn0.step)⟩
 clear H'
 try clear c1
 try clear p2
 obtain ⟨x6_1,x7_1,x8_1,x9_1,rfl,rfl,rfl,rfl,HA,HK1,⟨m1,rfl⟩⟩:=hrel
 cases gk with
 | zero=>exact absurd HA.out (by simp [w10_differ.l0])
 | succ k1 =>
  have H:=HA.out
  clear HA
  simp only [w10_differ.l0] at H
  have HC3:=Aside0.mk H
  clear H
  go_upto_region 2 with (fail)
  repeat(go_quiet (fail);go_upto_region 2 with (fail))
  go_cut [19] (fun v19 wc=>∃ (kq : Nat) (x19_2 : Bool),v19 = .bool x19_2∧Aside0 (w10_differ.j1 kq l0 l1 x6_1 x7_1 x8_1 x9_1 x19_2 = some (r1,r2))∧Aside0 (kq≤k1)∧Drawn0 w wc)
  case first =>
   have H:=HC3.out
   clear HC3
   by_cases c4 : x6_1 < (l0.length : Int)
   ·rw [if_pos c4] at H
    have c4b0 : decide (x6_1 < (l0.length : Int)) = true:=decide_eq_true c4
    clear c4
    (first | rw [c4b0] |(simp only [i64_w,i32_w];rw [c4b0]) | skip)
    have H':=Aside0.mk H
    clear H
    go_wp2
    repeat(go_quiet (fail);try go_wp2)
    go_meet
    exact⟨_,(true),(by first | rfl |(simp;done) |(simp [*];done)),H',⟨by have:=HK1.out;first | omega | exact Nat.le_refl _⟩,by repeat(first | exact Drawn0.refl _ | apply Drawn0.step)⟩
   rw [if_neg c4] at H
   have c4b0 : decide (x6_1 < (l0.length : Int)) = false:=decide_eq_false c4
   clear c4
   (first | rw [c4b0] |(simp only [i64_w,i32_w];rw [c4b0]) | skip)
   have H':=Aside0.mk H
   clear H
   go_wp2
   repeat(go_quiet (fail);try go_wp2)
   go_meet
   exact⟨_,(decide (x7_1 < (l1.length : Int))),(by first | rfl |(simp;done) |(simp [*];done)),H',⟨by have:=HK1.out;first | omega | exact Nat.le_refl _⟩,by repeat(first | exact Drawn0.refl _ | apply Drawn0.step)⟩
  case rest =>
   clear HC3
   try clear c1
   try clear p2
   try clear c3
   try clear c4
   try clear c4b0
   try clear p2
   obtain ⟨kq,x19_2,rfl,HA,HJ2,⟨mc2,rfl⟩⟩:=hcut
   cases kq with
   | zero=>exact absurd HA.out (by simp [w10_differ.j1])
   | succ kj2 =>
    have H:=HA.out
    clear HA
    simp only [w10_differ.j1] at H
    by_cases c5 : x19_2 = true
    rotate_left
    ·replace c5 := Bool.eq_false_iff.mpr c5
     subst c5
     have H1 :(some (x8_1,x9_1)) = some (r1,r2):=by rw [if_neg (show ¬ (false = true) by decide)] at H;exact H
     clear H
     have H:=H1
     clear H1
     simp only [Option.some.injEq,Prod.mk.injEq] at H
     obtain ⟨rfl,rfl⟩:=H
     go_wp2
     repeat(go_quiet (fail);try go_wp2)
     go_ret2
     exact⟨by first | rfl |(simp;done) |(simp [*];done),by repeat(first | exact Drawn0.refl _ | apply Drawn0.step)⟩
    subst c5
    have H1 :(if x7_1 =(l1.length : Int) then(w10_differ.j2 kj2 l0 l1 x6_1 x7_1 x8_1 x9_1 true) else(if x6_1 < (l0.length : Int) then(if 0≤x6_1 then(if 0≤x7_1 then(if x7_1 < (l1.length : Int) then(w10_differ.j2 kj2 l0 l1 x6_1 x7_1 x8_1 x9_1 (decide ((rd l0 x6_1) < (rd l1 x7_1)))) else(none)) else(none)) else(none)) else(w10_differ.j2 kj2 l0 l1 x6_1 x7_1 x8_1 x9_1 false))) = some (r1,r2):=by rw [if_pos rfl] at H;exact H
    clear H
    have H:=H1
    clear H1
    have HC6:=Aside0.mk H
    clear H
    go_upto_region 5 with (fail)
    repeat(go_quiet (fail);go_upto_region 5 with (fail))
    go_cut [24] (fun v24 wc=>∃ (kq : Nat) (x24_5 : Bool),v24 = .bool x24_5∧Aside0 (w10_differ.j2 kq l0 l1 x6_1 x7_1 x8_1 x9_1 x24_5 = some (r1,r2))∧Aside0 (kq≤kj2)∧Drawn0 w wc)
    case first =>
     have H:=HC6.out
     clear HC6
     by_cases c7 : x7_1 =(l1.length : Int)
     ·rw [if_pos c7] at H
      have c7b0 :(x7_1 ==(l1.length : Int)) = true:=beq_iff_eq.mpr c7
      have c7b1 :(x7_1 !=(l1.length : Int)) = false:=bne_eq_false_iff_eq.mpr c7
      clear c7
      (first | rw [c7b0] |(simp only [i64_w,i32_w];rw [c7b0]) | skip)
      have H':=Aside0.mk H
      clear H
      go_wp2
      repeat(go_quiet (fail);try go_wp2)
      go_meet
      exact⟨_,(true),(by first | rfl |(simp;done) |(simp [*];done)),H',⟨by have:=HK1.out;have:=HJ2.out;first | omega | exact Nat.le_refl _⟩,by repeat(first | exact Drawn0.refl _ | apply Drawn0.step)⟩
     rw [if_neg c7] at H
     have c7b0 :(x7_1 ==(l1.length : Int)) = false:=beq_eq_false_iff_ne.mpr c7
     have c7b1 :(x7_1 !=(l1.length : Int)) = true:=bne_iff_ne.mpr c7
     (first | rw [c7b0] |(simp only [i64_w,i32_w];rw [c7b0]) | skip)
     by_cases c8 : x6_1 < (l0.length : Int)
     rotate_left
     ·rw [if_neg c8] at H
      have c8b0 : decide (x6_1 < (l0.length : Int)) = false:=decide_eq_false c8
      clear c8
      have H':=Aside0.mk H
      clear H
      go_wp2
      repeat(go_quiet (fail);try go_wp2)
      go_meet
      exact⟨_,(false),(by first | rfl |(simp;done) |(simp [*];done)),H',⟨by have:=HK1.out;have:=HJ2.out;first | omega | exact Nat.le_refl _⟩,by repeat(first | exact Drawn0.refl _ | apply Drawn0.step)⟩
     rw [if_pos c8] at H
     have c8b0 : decide (x6_1 < (l0.length : Int)) = true:=decide_eq_true c8
     clear c8
     by_cases c9 : 0≤x6_1
     rotate_left
     ·rw [if_neg c9] at H
      exact absurd H (by simp)
     rw [if_pos c9] at H
     have c9b0 : decide (0≤x6_1) = true:=decide_eq_true c9
     clear c9
     by_cases c10 : 0≤x7_1
     rotate_left
     ·rw [if_neg c10] at H
      exact absurd H (by simp)
     rw [if_pos c10] at H
     have c10b0 : decide (0≤x7_1) = true:=decide_eq_true c10
     clear c10
     by_cases c11 : x7_1 < (l1.length : Int)
     rotate_left
     ·rw [if_neg c11] at H
      exact absurd H (by simp)
     rw [if_pos c11] at H
     have c11b0 : decide (x7_1 < (l1.length : Int)) = true:=decide_eq_true c11
     clear c11
     have H':=Aside0.mk H
     clear H
     have p339 : 0 ≤(x6_1 : Int):=of_decide_eq_true (by first |(with_reducible assumption) | assumption)
     have q339 : x6_1 < (l0.length : Int):=of_decide_eq_true (by first |(with_reducible assumption) | assumption)
     obtain ⟨ad339,e339,hx339_0⟩:=Kd.at_int HR0.out x6_1 p339 q339
     cases e339
     replace p339:=eq_true p339
     replace q339:=eq_true q339
     have p340 : 0 ≤(x7_1 : Int):=of_decide_eq_true (by first |(with_reducible assumption) | assumption)
     have q340 : x7_1 < (l1.length : Int):=of_decide_eq_true (by first |(with_reducible assumption) | assumption)
     obtain ⟨ad340,e340,hx340_0⟩:=Kd.at_int HR1.out x7_1 p340 q340
     cases e340
     replace p340:=eq_true p340
     replace q340:=eq_true q340
     go_wp2
     repeat(go_quiet (fail);try go_wp2)
     go_meet
     exact⟨_,(decide ((rd l0 x6_1) < (rd l1 x7_1))),(by first | rfl |(simp;done) |(simp [*];done)),H',⟨by have:=HK1.out;have:=HJ2.out;first | omega | exact Nat.le_refl _⟩,by repeat(first | exact Drawn0.refl _ | apply Drawn0.step)⟩
    case rest =>
     clear HC6
     try clear c1
     try clear c2
     try clear p2
     try clear c3
     try clear p3
     try clear q3
     try clear hx3
     try clear c4
     try clear c4b0
     try clear c5
     try clear c7
     try clear c7b0
     try clear c7b1
     try clear c8
     try clear c8b0
     try clear c9
     try clear c9b0
     try clear c10
     try clear c10b0
     try clear c11
     try clear c11b0
     try clear hx339_0
     try clear hx340_0
     try clear p2
     try clear p339
     try clear p340
     try clear q339
     try clear q340
     obtain ⟨kq,x24_5,rfl,HA,HJ5,⟨mc5,rfl⟩⟩:=hcut
     cases kq with
     | zero=>exact absurd HA.out (by simp [w10_differ.j2])
     | succ kj5 =>
      have H:=HA.out
      clear HA
      simp only [w10_differ.j2] at H
      by_cases c12 : x24_5 = true
      ·subst c12
       have H1 :(w10_differ.l0 kj5 l0 l1 (wrap64 (x6_1 + 1)) x7_1 (wrap64 (x8_1 + 1)) x9_1) = some (r1,r2):=by rw [if_pos rfl] at H;exact H
       clear H
       have H:=H1
       clear H1
       have H':=Aside0.mk H
       clear H
       go_wp2
       repeat(go_quiet (fail);try go_wp2)
       go_roundg kj5
       case measure=>have:=HK1.out;have:=HJ2.out;have:=HJ5.out;omega
       exact⟨(wrap64 (x6_1 + 1)),(x7_1),(wrap64 (x8_1 + 1)),(x9_1),(by first | rfl |(simp;done) |(simp [*];done)),(by first | rfl |(simp;done) |(simp [*];done)),(by first | rfl |(simp;done) |(simp [*];done)),(by first | rfl |(simp;done) |(simp [*];done)),H',⟨by have:=HK1.out;have:=HJ2.out;have:=HJ5.out;omega⟩,by repeat(first | exact Drawn0.refl _ | apply Drawn0.step)⟩
      replace c12:=Bool.eq_false_iff.mpr c12
      subst c12
      have H1 :(if x6_1 =(l0.length : Int) then(w10_differ.l0 kj5 l0 l1 x6_1 (wrap64 (x7_1 + 1)) x8_1 (wrap64 (x9_1 + 1))) else(if 0≤x7_1 then(if x7_1 < (l1.length : Int) then(if 0≤x6_1 then(if x6_1 < (l0.length : Int) then(if(rd l1 x7_1) < (rd l0 x6_1) then(w10_differ.l0 kj5 l0 l1 x6_1 (wrap64 (x7_1 + 1)) x8_1 (wrap64 (x9_1 + 1))) else(w10_differ.l0 kj5 l0 l1 (wrap64 (x6_1 + 1)) (wrap64 (x7_1 + 1)) x8_1 x9_1)) else(none)) else(none)) else(none)) else(none))) = some (r1,r2):=by rw [if_neg (show ¬ (false = true) by decide)] at H;exact H
      clear H
      have H:=H1
      clear H1
      by_cases c13 : x6_1 =(l0.length : Int)
      ·rw [if_pos c13] at H
       have c13b0 :(x6_1 ==(l0.length : Int)) = true:=beq_iff_eq.mpr c13
       have c13b1 :(x6_1 !=(l0.length : Int)) = false:=bne_eq_false_iff_eq.mpr c13
       clear c13
       have H':=Aside0.mk H
       clear H
       go_wp2
       repeat(go_quiet (fail);try go_wp2)
       go_roundg kj5
       case measure=>have:=HK1.out;have:=HJ2.out;have:=HJ5.out;omega
       exact⟨(x6_1),(wrap64 (x7_1 + 1)),(x8_1),(wrap64 (x9_1 + 1)),(by first | rfl |(simp;done) |(simp [*];done)),(by first | rfl |(simp;done) |(simp [*];done)),(by first | rfl |(simp;done) |(simp [*];done)),(by first | rfl |(simp;done) |(simp [*];done)),H',⟨by have:=HK1.out;have:=HJ2.out;have:=HJ5.out;omega⟩,by repeat(first | exact Drawn0.refl _ | apply Drawn0.step)⟩
      rw [if_neg c13] at H
      have c13b0 :(x6_1 ==(l0.length : Int)) = false:=beq_eq_false_iff_ne.mpr c13
      have c13b1 :(x6_1 !=(l0.length : Int)) = true:=bne_iff_ne.mpr c13
      by_cases c14 : 0≤x7_1
      rotate_left
      ·rw [if_neg c14] at H
       exact absurd H (by simp)
      rw [if_pos c14] at H
      have c14b0 : decide (0≤x7_1) = true:=decide_eq_true c14
      clear c14
      by_cases c15 : x7_1 < (l1.length : Int)
      rotate_left
      ·rw [if_neg c15] at H
       exact absurd H (by simp)
      rw [if_pos c15] at H
      have c15b0 : decide (x7_1 < (l1.length : Int)) = true:=decide_eq_true c15
      clear c15
      by_cases c16 : 0≤x6_1
      rotate_left
      ·rw [if_neg c16] at H
       exact absurd H (by simp)
      rw [if_pos c16] at H
      have c16b0 : decide (0≤x6_1) = true:=decide_eq_true c16
      clear c16
      by_cases c17 : x6_1 < (l0.length : Int)
      rotate_left
      ·rw [if_neg c17] at H
       exact absurd H (by simp)
      rw [if_pos c17] at H
      have c17b0 : decide (x6_1 < (l0.length : Int)) = true:=decide_eq_true c17
      clear c17
      by_cases c18 :(rd l1 x7_1) < (rd l0 x6_1)
      ·rw [if_pos c18] at H
       have c18b0 : decide ((rd l1 x7_1) < (rd l0 x6_1)) = true:=decide_eq_true c18
       clear c18
       have H':=Aside0.mk H
       clear H
       have p341 : 0 ≤(x7_1 : Int):=of_decide_eq_true (by first |(with_reducible assumption) | assumption)
       have q341 : x7_1 < (l1.length : Int):=of_decide_eq_true (by first |(with_reducible assumption) | assumption)
       obtain ⟨ad341,e341,hx341_0⟩:=Kd.at_int HR1.out x7_1 p341 q341
       cases e341
       replace p341:=eq_true p341
       replace q341:=eq_true q341
       have p342 : 0 ≤(x6_1 : Int):=of_decide_eq_true (by first |(with_reducible assumption) | assumption)
       have q342 : x6_1 < (l0.length : Int):=of_decide_eq_true (by first |(with_reducible assumption) | assumption)
       obtain ⟨ad342,e342,hx342_0⟩:=Kd.at_int HR0.out x6_1 p342 q342
       cases e342
       replace p342:=eq_true p342
       replace q342:=eq_true q342
       go_wp2
       repeat(go_quiet (fail);try go_wp2)
       go_roundg kj5
       case measure=>have:=HK1.out;have:=HJ2.out;have:=HJ5.out;omega
       exact⟨(x6_1),(wrap64 (x7_1 + 1)),(x8_1),(wrap64 (x9_1 + 1)),(by first | rfl |(simp;done) |(simp [*];done)),(by first | rfl |(simp;done) |(simp [*];done)),(by first | rfl |(simp;done) |(simp [*];done)),(by first | rfl |(simp;done) |(simp [*];done)),H',⟨by have:=HK1.out;have:=HJ2.out;have:=HJ5.out;omega⟩,by repeat(first | exact Drawn0.refl _ | apply Drawn0.step)⟩
      rw [if_neg c18] at H
      have c18b0 : decide ((rd l1 x7_1) < (rd l0 x6_1)) = false:=decide_eq_false c18
      clear c18
      have H':=Aside0.mk H
      clear H
      have p341 : 0 ≤(x7_1 : Int):=of_decide_eq_true (by first |(with_reducible assumption) | assumption)
      have q341 : x7_1 < (l1.length : Int):=of_decide_eq_true (by first |(with_reducible assumption) | assumption)
      obtain ⟨ad341,e341,hx341_0⟩:=Kd.at_int HR1.out x7_1 p341 q341
      cases e341
      replace p341:=eq_true p341
      replace q341:=eq_true q341
      have p342 : 0 ≤(x6_1 : Int):=of_decide_eq_true (by first |(with_reducible assumption) | assumption)
      have q342 : x6_1 < (l0.length : Int):=of_decide_eq_true (by first |(with_reducible assumption) | assumption)
      obtain ⟨ad342,e342,hx342_0⟩:=Kd.at_int HR0.out x6_1 p342 q342
      cases e342
      replace p342:=eq_true p342
      replace q342:=eq_true q342
      go_wp2
      repeat(go_quiet (fail);try go_wp2)
      go_roundg kj5
      case measure=>have:=HK1.out;have:=HJ2.out;have:=HJ5.out;omega
      exact⟨(wrap64 (x6_1 + 1)),(wrap64 (x7_1 + 1)),(x8_1),(x9_1),(by first | rfl |(simp;done) |(simp [*];done)),(by first | rfl |(simp;done) |(simp [*];done)),(by first | rfl |(simp;done) |(simp [*];done)),(by first | rfl |(simp;done) |(simp [*];done)),H',⟨by have:=HK1.out;have:=HJ2.out;have:=HJ5.out;omega⟩,by repeat(first | exact Drawn0.refl _ | apply Drawn0.step)⟩

def slices_Index_int_int.l0 : Nat → List Int → Int → Int → Int → Option (Int)
 | 0,_,_,_,_=>none
 | k + 1,x0,x1,x7,x8=>if x8 < x7 then(if 0≤x8 then(if x8 < (x0.length : Int) then(if x1 =(rd x0 x8) then(some x8) else(slices_Index_int_int.l0 k x0 x1 x7 (wrap64 (x8 + 1)))) else(none)) else(none)) else(some (-1))
def slices_Index_int_int.f (k : Nat) (l0 : List Int) (a1 : Int) : Option (Int):=slices_Index_int_int.l0 k l0 a1 (l0.length : Int) 0
set_option maxHeartbeats 8000000 in
set_option maxRecDepth 100000 in
theorem slices_Index_int_int.calls (k : Nat) (A0 : Option Addr) (c0 : Nat) (l0 : List Int) (a1 : Int) (r : Int) (w : World) (hr0 : Kd.C (Kd.int .i64) w A0 l0.length l0) (hc0 : l0.length ≤ c0) (h : slices_Index_int_int.f k l0 a1 = some r) :
  Calls Try.prog 72 #[.slice A0 l0.length c0,.int .i64 a1] w fun e w'=>e = .returned (.int .i64 r)∧Drawn0 w w':=by
 have HR0:=Aside0.mk hr0
 have HC0:=Aside0.mk hc0
 clear hr0 hc0
 have H :(slices_Index_int_int.l0 k l0 a1 (l0.length : Int) 0) = some r:=h
 clear h
 have H':=Aside0.mk H
 clear H
 go_enter Try.func72,Try.ntmps72
 go_wp2
 go_loopg [8] k (fun kq v8 w'=>∃ (x8_1 : Int),v8 = .int .i64 x8_1∧Aside0 (slices_Index_int_int.l0 kq l0 a1 (l0.length : Int) x8_1 = some r)∧Aside0 (kq≤k)∧Drawn0 w w')
 case atStart=>exact⟨(0),(by first | rfl |(simp;done) |(simp [*];done)),H',⟨Nat.le_refl _⟩,by repeat(first | exact Drawn0.refl _ | apply Drawn0.step)⟩
 clear H'
 try clear p2
 obtain ⟨x8_1,rfl,HA,HK1,⟨m1,rfl⟩⟩:=hrel
 cases gk with
 | zero=>exact absurd HA.out (by simp [slices_Index_int_int.l0])
 | succ k1 =>
  have H:=HA.out
  clear HA
  simp only [slices_Index_int_int.l0] at H
  by_cases c3 : x8_1 < (l0.length : Int)
  rotate_left
  ·rw [if_neg c3] at H
   have c3b0 : decide (x8_1 < (l0.length : Int)) = false:=decide_eq_false c3
   clear c3
   obtain rfl:=Option.some.inj H
   go_wp2
   go_ret
   exact⟨by first | rfl |(simp;done) |(simp [*];done),by repeat(first | exact Drawn0.refl _ | apply Drawn0.step)⟩
  rw [if_pos c3] at H
  have c3b0 : decide (x8_1 < (l0.length : Int)) = true:=decide_eq_true c3
  clear c3
  by_cases c4 : 0≤x8_1
  rotate_left
  ·rw [if_neg c4] at H
   exact absurd H (by simp)
  rw [if_pos c4] at H
  have c4b0 : decide (0≤x8_1) = true:=decide_eq_true c4
  clear c4
  by_cases c5 : x8_1 < (l0.length : Int)
  rotate_left
  ·rw [if_neg c5] at H
   exact absurd H (by simp)
  rw [if_pos c5] at H
  have c5b0 : decide (x8_1 < (l0.length : Int)) = true:=decide_eq_true c5
  clear c5
  by_cases c6 : a1 =(rd l0 x8_1)
  ·rw [if_pos c6] at H
   have c6b0 :(a1 ==(rd l0 x8_1)) = true:=beq_iff_eq.mpr c6
   have c6b1 :(a1 !=(rd l0 x8_1)) = false:=bne_eq_false_iff_eq.mpr c6
   clear c6
   obtain rfl:=Option.some.inj H
   have p430 : 0 ≤(x8_1 : Int):=of_decide_eq_true (by first |(with_reducible assumption) | assumption)
   have q430 : x8_1 < (l0.length : Int):=of_decide_eq_true (by first |(with_reducible assumption) | assumption)
   obtain ⟨ad430,e430,hx430_0⟩:=Kd.at_int HR0.out x8_1 p430 q430
   cases e430
   replace p430:=eq_true p430
   replace q430:=eq_true q430
   go_wp2
   go_ret
   exact⟨by first | rfl |(simp;done) |(simp [*];done),by repeat(first | exact Drawn0.refl _ | apply Drawn0.step)⟩
  rw [if_neg c6] at H
  have c6b0 :(a1 ==(rd l0 x8_1)) = false:=beq_eq_false_iff_ne.mpr c6
  have c6b1 :(a1 !=(rd l0 x8_1)) = true:=bne_iff_ne.mpr c6
  have H':=Aside0.mk H
  clear H
  have p430 : 0 ≤(x8_1 : Int):=of_decide_eq_true (by first |(with_reducible assumption) | assumption)
  have q430 : x8_1 < (l0.length : Int):=of_decide_eq_true (by first |(with_reducible assumption) | assumption)
  obtain ⟨ad430,e430,hx430_0⟩:=Kd.at_int HR0.out x8_1 p430 q430
  cases e430
  replace p430:=eq_true p430
  replace q430:=eq_true q430
  go_wp2
  go_roundg k1
  case measure=>have:=HK1.out;omega
  exact⟨(wrap64 (x8_1 + 1)),(by first | rfl |(simp;done) |(simp [*];done)),H',⟨by have:=HK1.out;omega⟩,by repeat(first | exact Drawn0.refl _ | apply Drawn0.step)⟩

def slices_Contains_int_int.f (k : Nat) (l0 : List Int) (a1 : Int) : Option (Bool):=(slices_Index_int_int.f k l0 a1).bind fun t431=>(some (decide (t431 ≥ 0)))
set_option maxHeartbeats 8000000 in
set_option maxRecDepth 100000 in
theorem slices_Contains_int_int.calls (k : Nat) (A0 : Option Addr) (c0 : Nat) (l0 : List Int) (a1 : Int) (r : Bool) (w : World) (hr0 : Kd.C (Kd.int .i64) w A0 l0.length l0) (hc0 : l0.length ≤ c0) (h : slices_Contains_int_int.f k l0 a1 = some r) :
  Calls Try.prog 63 #[.slice A0 l0.length c0,.int .i64 a1] w fun e w'=>e = .returned (.bool r)∧Drawn0 w w':=by
 have HR0:=Aside0.mk hr0
 have HC0:=Aside0.mk hc0
 clear hr0 hc0
 have H :((slices_Index_int_int.f k l0 a1).bind fun t431=>(some (decide (t431 ≥ 0)))) = some r:=h
 clear h
 replace H:=Option.bind_eq_some_iff.mp H
 obtain ⟨t431,A30,H⟩:=H
 replace H :(some (decide (t431 ≥ 0))) = some r:=H
 have A3:=Aside0.mk A30
 clear A30
 obtain rfl:=Option.some.inj H
 go_enter Try.func63,Try.ntmps63
 go_wp2_with (first |((with_reducible refine gate_callee (f:=72) rfl ?_);refine goesL_ (some 7) rfl rfl Try.func72 (by kernel_rfl) rfl #[.slice A0 l0.length c0,.int .i64 a1] rfl (by(try simp only [List.map_toArray,List.map_cons,List.map_nil]);first | done | rfl |(simp only [List.length_drop,List.length_take];rfl)) ?_;(with_reducible refine(slices_Index_int_int.calls k _ _ l0 a1 t431 _ ?side1 ?side2 A3.out).mono ?_);(case side1=>repeat(first | exact HR0.out |(with_reducible refine Kd.C_alloc ?_ _) |(with_reducible refine Kd.C_drewN ?_ _) |(with_reducible refine Kd.C_drew ?_)));(case side2=>exact HC0.out);rintro e w' ⟨rfl,⟨nd,rfl⟩⟩;refine⟨_,rfl,?_⟩))
 go_ret
 exact⟨by first | rfl |(simp;done) |(simp [*];done),by repeat(first | exact Drawn0.refl _ | apply Drawn0.step)⟩

mutual
def turns_SetAt.j0 : Nat → Int → List Int → Bool → Option (Int × Int)
 | 0,_,_,_=>none
 | k + 1,x0,x1,x16=>if x16 = true then(some (0,2)) else(turns_SetAt.l0 k x1 0 x0 0)
def turns_SetAt.l0 : Nat → List Int → Int → Int → Int → Option (Int × Int)
 | 0,_,_,_,_=>none
 | k + 1,x1,x6,x17,x18=>if x18 < x17 then((slices_Contains_int_int.f k x1 (wrap64 (x18 + 1))).bind fun t434=>(if t434 = true then(if 0≤x18 then(turns_SetAt.l0 k x1 (wrap64 ((wrap64 ((shl .i64 2 x18) - 1)) - x6)) x17 (wrap64 (x18 + 1))) else(none)) else(turns_SetAt.l0 k x1 x6 x17 (wrap64 (x18 + 1))))) else(some (x6,0))
end
def turns_SetAt.f (k : Nat) (a0 : Int) (l1 : List Int) : Option (Int×Int):=(turns_within.f a0 0 40).bind fun t432=>(if t432 = true then((turns_isSet.f k a0 l1).bind fun t433=>(turns_SetAt.j0 k a0 l1 (!t433))) else(turns_SetAt.j0 k a0 l1 true))
set_option maxHeartbeats 8000000 in
set_option maxRecDepth 100000 in
theorem turns_SetAt.calls (k : Nat) (a0 : Int) (A1 : Option Addr) (c1 : Nat) (l1 : List Int) (r1 : Int) (r2 : Int) (w : World) (hr1 : Kd.C (Kd.int .i64) w A1 l1.length l1) (hc1 : l1.length ≤ c1) (h : turns_SetAt.f k a0 l1 = some (r1, r2)) :
  Calls Try.prog 45 #[.int .i64 a0,.slice A1 l1.length c1] w fun e w'=>e = .returned (.tuple #[.int .i64 r1,.int .i64 r2])∧Drawn0 w w':=by
 have HR1:=Aside0.mk hr1
 have HC1:=Aside0.mk hc1
 clear hr1 hc1
 have H :((turns_within.f a0 0 40).bind fun t432=>(if t432 = true then((turns_isSet.f k a0 l1).bind fun t433=>(turns_SetAt.j0 k a0 l1 (!t433))) else(turns_SetAt.j0 k a0 l1 true))) = some (r1,r2):=h
 clear h
 have HC3:=Aside0.mk H
 clear H
 go_enter Try.func45,Try.ntmps45
 go_upto_region 1 with (fail)
 go_cut [16] (fun v16 wc=>∃ (kq : Nat) (x16_2 : Bool),v16 = .bool x16_2∧Aside0 (turns_SetAt.j0 kq a0 l1 x16_2 = some (r1,r2))∧Aside0 (kq≤k)∧Drawn0 w wc)
 case first =>
  have H:=HC3.out
  clear HC3
  replace H:=Option.bind_eq_some_iff.mp H
  obtain ⟨t432,A40,H⟩:=H
  replace H :(if t432 = true then((turns_isSet.f k a0 l1).bind fun t433=>(turns_SetAt.j0 k a0 l1 (!t433))) else(turns_SetAt.j0 k a0 l1 true)) = some (r1,r2):=H
  have A4:=Aside0.mk A40
  clear A40
  by_cases c5 : t432 = true
  rotate_left
  ·replace c5 := Bool.eq_false_iff.mpr c5
   subst c5
   have H1 :(turns_SetAt.j0 k a0 l1 true) = some (r1,r2):=by rw [if_neg (show ¬ (false = true) by decide)] at H;exact H
   clear H
   have H:=H1
   clear H1
   have H':=Aside0.mk H
   clear H
   go_wp2_with (first |((with_reducible refine gate_callee (f:=56) rfl ?_);refine goesL_ (some 9) rfl rfl Try.func56 (by kernel_rfl) rfl #[.int .i64 a0,.int .i64 0,.int .i64 40] rfl (by(try simp only [List.map_toArray,List.map_cons,List.map_nil]);first | done | rfl |(simp only [List.length_drop,List.length_take];rfl)) ?_;(with_reducible refine(turns_within.calls a0 0 40 false _ A4.out).mono ?_);rintro e w' ⟨rfl,⟨nd,rfl⟩⟩;refine⟨_,rfl,?_⟩))
   go_meet
   exact⟨_,(true),(by first | rfl |(simp;done) |(simp [*];done)),H',⟨by first | omega | exact Nat.le_refl _⟩,by repeat(first | exact Drawn0.refl _ | apply Drawn0.step)⟩
  subst c5
  have H1 :((turns_isSet.f k a0 l1).bind fun t433=>(turns_SetAt.j0 k a0 l1 (!t433))) = some (r1,r2):=by rw [if_pos rfl] at H;exact H
  clear H
  have H:=H1
  clear H1
  replace H:=Option.bind_eq_some_iff.mp H
  obtain ⟨t433,A60,H⟩:=H
  replace H :(turns_SetAt.j0 k a0 l1 (!t433)) = some (r1,r2):=H
  have A6:=Aside0.mk A60
  clear A60
  have H':=Aside0.mk H
  clear H
  go_wp2_with (first |((with_reducible refine gate_callee (f:=56) rfl ?_);refine goesL_ (some 9) rfl rfl Try.func56 (by kernel_rfl) rfl #[.int .i64 a0,.int .i64 0,.int .i64 40] rfl (by(try simp only [List.map_toArray,List.map_cons,List.map_nil]);first | done | rfl |(simp only [List.length_drop,List.length_take];rfl)) ?_;(with_reducible refine(turns_within.calls a0 0 40 true _ A4.out).mono ?_);rintro e w' ⟨rfl,⟨nd,rfl⟩⟩;refine⟨_,rfl,?_⟩) |(go_at_call 62;(with_reducible refine(turns_isSet.calls k a0 _ _ l1 t433 _ ?side1 ?side2 A6.out).mono ?_);(case side1=>repeat(first | exact HR1.out |(with_reducible refine Kd.C_alloc ?_ _) |(with_reducible refine Kd.C_drewN ?_ _) |(with_reducible refine Kd.C_drew ?_)));(case side2=>exact HC1.out);rintro e w' ⟨rfl,⟨nd,rfl⟩⟩))
  go_meet
  exact⟨_,(!t433),(by first | rfl |(simp;done) |(simp [*];done)),H',⟨by first | omega | exact Nat.le_refl _⟩,by repeat(first | exact Drawn0.refl _ | apply Drawn0.step)⟩
 case rest =>
  clear HC3
  try clear c1
  try clear p2
  try clear c4
  try clear c5
  obtain ⟨kq,x16_2,rfl,HA,HJ2,⟨mc2,rfl⟩⟩:=hcut
  cases kq with
  | zero=>exact absurd HA.out (by simp [turns_SetAt.j0])
  | succ kj2 =>
   have H:=HA.out
   clear HA
   simp only [turns_SetAt.j0] at H
   by_cases c7 : x16_2 = true
   ·subst c7
    have H1 :(some (0,2)) = some (r1,r2):=by rw [if_pos rfl] at H;exact H
    clear H
    have H:=H1
    clear H1
    simp only [Option.some.injEq,Prod.mk.injEq] at H
    obtain ⟨rfl,rfl⟩:=H
    go_wp2
    go_ret2
    exact⟨by first | rfl |(simp;done) |(simp [*];done),by repeat(first | exact Drawn0.refl _ | apply Drawn0.step)⟩
   replace c7:=Bool.eq_false_iff.mpr c7
   subst c7
   have H1 :(turns_SetAt.l0 kj2 l1 0 a0 0) = some (r1,r2):=by rw [if_neg (show ¬ (false = true) by decide)] at H;exact H
   clear H
   have H:=H1
   clear H1
   have H':=Aside0.mk H
   clear H
   go_wp2
   go_loopg [6,18] kj2 (fun kq v6 v18 w'=>∃ (x6_2 : Int) (x18_2 : Int),v6 = .int .i64 x6_2∧v18 = .int .i64 x18_2∧Aside0 (turns_SetAt.l0 kq l1 x6_2 a0 x18_2 = some (r1,r2))∧Aside0 (kq≤kj2)∧Drawn0 w w')
   case atStart=>exact⟨(0),(0),(by first | rfl |(simp;done) |(simp [*];done)),(by first | rfl |(simp;done) |(simp [*];done)),H',⟨Nat.le_refl _⟩,by repeat(first | exact Drawn0.refl _ | apply Drawn0.step)⟩
   clear H'
   try clear c1
   try clear c2
   try clear p2
   try clear c4
   try clear c5
   try clear c7
   try clear p2
   obtain ⟨x6_2,x18_2,rfl,rfl,HA,HK2,⟨m2,rfl⟩⟩:=hrel
   cases gk with
   | zero=>exact absurd HA.out (by simp [turns_SetAt.l0])
   | succ k2 =>
    have H:=HA.out
    clear HA
    simp only [turns_SetAt.l0] at H
    by_cases c8 : x18_2 < a0
    rotate_left
    ·rw [if_neg c8] at H
     have c8b0 : decide (x18_2 < a0) = false:=decide_eq_false c8
     clear c8
     simp only [Option.some.injEq,Prod.mk.injEq] at H
     obtain ⟨rfl,rfl⟩:=H
     go_wp2
     go_ret2
     exact⟨by first | rfl |(simp;done) |(simp [*];done),by repeat(first | exact Drawn0.refl _ | apply Drawn0.step)⟩
    rw [if_pos c8] at H
    have c8b0 : decide (x18_2 < a0) = true:=decide_eq_true c8
    clear c8
    replace H:=Option.bind_eq_some_iff.mp H
    obtain ⟨t434,A90,H⟩:=H
    replace H :(if t434 = true then(if 0≤x18_2 then(turns_SetAt.l0 k2 l1 (wrap64 ((wrap64 ((shl .i64 2 x18_2) - 1)) - x6_2)) a0 (wrap64 (x18_2 + 1))) else(none)) else(turns_SetAt.l0 k2 l1 x6_2 a0 (wrap64 (x18_2 + 1)))) = some (r1,r2):=H
    have A9:=Aside0.mk A90
    clear A90
    by_cases c10 : t434 = true
    rotate_left
    ·replace c10 := Bool.eq_false_iff.mpr c10
     subst c10
     have H1 :(turns_SetAt.l0 k2 l1 x6_2 a0 (wrap64 (x18_2 + 1))) = some (r1,r2):=by rw [if_neg (show ¬ (false = true) by decide)] at H;exact H
     clear H
     have H:=H1
     clear H1
     have H':=Aside0.mk H
     clear H
     go_wp2_with (first |((with_reducible refine gate_callee (f:=63) rfl ?_);refine goesL_ (some 24) rfl rfl Try.func63 (by kernel_rfl) rfl #[.slice A1 l1.length c1,.int .i64 (wrap64 (x18_2 + 1))] rfl (by(try simp only [List.map_toArray,List.map_cons,List.map_nil]);first | done | rfl |(simp only [List.length_drop,List.length_take];rfl)) ?_;(with_reducible refine(slices_Contains_int_int.calls k2 _ _ l1 (wrap64 (x18_2 + 1)) false _ ?side1 ?side2 A9.out).mono ?_);(case side1=>repeat(first | exact HR1.out |(with_reducible refine Kd.C_alloc ?_ _) |(with_reducible refine Kd.C_drewN ?_ _) |(with_reducible refine Kd.C_drew ?_)));(case side2=>exact HC1.out);rintro e w' ⟨rfl,⟨nd,rfl⟩⟩;refine⟨_,rfl,?_⟩))
     go_roundg k2
     case measure=>have:=HJ2.out;have:=HK2.out;omega
     exact⟨(x6_2),(wrap64 (x18_2 + 1)),(by first | rfl |(simp;done) |(simp [*];done)),(by first | rfl |(simp;done) |(simp [*];done)),H',⟨by have:=HJ2.out;have:=HK2.out;omega⟩,by repeat(first | exact Drawn0.refl _ | apply Drawn0.step)⟩
    subst c10
    have H1 :(if 0≤x18_2 then(turns_SetAt.l0 k2 l1 (wrap64 ((wrap64 ((shl .i64 2 x18_2) - 1)) - x6_2)) a0 (wrap64 (x18_2 + 1))) else(none)) = some (r1,r2):=by rw [if_pos rfl] at H;exact H
    clear H
    have H:=H1
    clear H1
    by_cases c11 : 0≤x18_2
    rotate_left
    ·rw [if_neg c11] at H
     exact absurd H (by simp)
    rw [if_pos c11] at H
    have c11b0:=eq_true c11
    have c11b1 : decide (0≤x18_2) = true:=decide_eq_true c11
    clear c11
    obtain ⟨ji12,hji12⟩ : ∃ j_ : Int,(shl .i64 2 x18_2) = j_:=⟨_,rfl⟩
    replace H :(turns_SetAt.l0 k2 l1 (wrap64 ((wrap64 ((ji12) - 1)) - x6_2)) a0 (wrap64 (x18_2 + 1))) = some (r1,r2):=by first |(rw [hji12] at H;exact H) |(simp only [hji12] at H ⊢;exact H)
    (try rw [hji12] at A9)
    have hji12_ :(IntKind.i64.wrap (2 * 2 ^ min x18_2.toNat 64)) = ji12:=hji12
    have hji12z : x18_2≤64 →(IntKind.i64.wrap (2 * 2 ^ x18_2.toNat)) = ji12:=shl_small hji12
    have hji12y :(wrap64 (2 * 2 ^ min x18_2.toNat 64)) = ji12:=(i64_w _).symm.trans hji12_
    have hji12x : x18_2≤64 →(wrap64 (2 * 2 ^ x18_2.toNat)) = ji12:=fun h_=>(i64_w _).symm.trans (hji12z h_)
    have H':=Aside0.mk H
    clear H
    go_wp2_with (first |((with_reducible refine gate_callee (f:=63) rfl ?_);refine goesL_ (some 24) rfl rfl Try.func63 (by kernel_rfl) rfl #[.slice A1 l1.length c1,.int .i64 (wrap64 (x18_2 + 1))] rfl (by(try simp only [List.map_toArray,List.map_cons,List.map_nil]);first | done | rfl |(simp only [List.length_drop,List.length_take];rfl)) ?_;(with_reducible refine(slices_Contains_int_int.calls k2 _ _ l1 (wrap64 (x18_2 + 1)) true _ ?side1 ?side2 A9.out).mono ?_);(case side1=>repeat(first | exact HR1.out |(with_reducible refine Kd.C_alloc ?_ _) |(with_reducible refine Kd.C_drewN ?_ _) |(with_reducible refine Kd.C_drew ?_)));(case side2=>exact HC1.out);rintro e w' ⟨rfl,⟨nd,rfl⟩⟩;refine⟨_,rfl,?_⟩))
    go_roundg k2
    case measure=>have:=HJ2.out;have:=HK2.out;omega
    exact⟨(wrap64 ((wrap64 ((ji12) - 1)) - x6_2)),(wrap64 (x18_2 + 1)),(by first | rfl |(simp;done) |(simp only [← hji12] <;>(first | rfl | simp)) |(simp [*];done)),(by first | rfl |(simp;done) |(simp [*];done)),H',⟨by have:=HJ2.out;have:=HK2.out;omega⟩,by repeat(first | exact Drawn0.refl _ | apply Drawn0.step)⟩

def w10_TurnsSetSteps.j0 : Nat → List Int → List Int → Bool → Option (Bool)
 | 0,_,_,_=>none
 | k + 1,x5,x7,x68=>if x68 = true then(some false) else((w10_differ.f k x5 x7).bind fun bt480=>(if(wrap64 (bt480.1 + bt480.2)) = 1 then((w10_awake.f k).bind fun t482=>(some t482)) else(some false)))
def w10_TurnsSetSteps.f (k : Nat) (a0 : Int) (a1 : Int) : Option (Bool):=(w10_mod.f a0 40).bind fun t466=>(if 0 ≤(wrap64 (1 + t466)) then((w10_mod.f a1 (shl .i64 1 (wrap64 (1 + t466)))).bind fun t467=>((turns_Set.f (wrap64 (1 + t466)) t467).bind fun bt468=>(if(shl .i64 1 (wrap64 (1 + t466))) = 0 then(none) else((turns_Set.f (wrap64 (1 + t466)) (Int.tmod (wrap64 (t467 + 1)) (shl .i64 1 (wrap64 (1 + t466))))).bind fun bt472=>((turns_SetAt.f k (wrap64 (1 + t466)) bt468.1).bind fun bt476=>(if bt468.2 = 0 then(if bt472.2 = 0 then(if bt476.2 = 0 then(if bt476.1 = t467 then((q10_Sets.f k (wrap64 (1 + t466)) bt468.1).bind fun t478=>(if t478 = true then((q10_Sets.f k (wrap64 (1 + t466)) bt472.1).bind fun t479=>(w10_TurnsSetSteps.j0 k bt468.1 bt472.1 (!t479))) else(w10_TurnsSetSteps.j0 k bt468.1 bt472.1 true))) else(w10_TurnsSetSteps.j0 k bt468.1 bt472.1 true)) else(w10_TurnsSetSteps.j0 k bt468.1 bt472.1 true)) else(w10_TurnsSetSteps.j0 k bt468.1 bt472.1 true)) else(w10_TurnsSetSteps.j0 k bt468.1 bt472.1 true))))))) else(none))
set_option maxHeartbeats 8000000 in
set_option maxRecDepth 100000 in
theorem w10_TurnsSetSteps.calls (k : Nat) (a0 : Int) (a1 : Int) (r : Bool) (w : World) (h : w10_TurnsSetSteps.f k a0 a1 = some r) :
  Calls Try.prog 11 #[.int .i64 a0,.int .i64 a1] w fun e w'=>e = .returned (.bool r)∧Below w.heap.size w w':=by
 have HB:=Aside0.mk (Below.refl w.heap.size w)
 have H :((w10_mod.f a0 40).bind fun t466=>(if 0 ≤(wrap64 (1 + t466)) then((w10_mod.f a1 (shl .i64 1 (wrap64 (1 + t466)))).bind fun t467=>((turns_Set.f (wrap64 (1 + t466)) t467).bind fun bt468=>(if(shl .i64 1 (wrap64 (1 + t466))) = 0 then(none) else((turns_Set.f (wrap64 (1 + t466)) (Int.tmod (wrap64 (t467 + 1)) (shl .i64 1 (wrap64 (1 + t466))))).bind fun bt472=>((turns_SetAt.f k (wrap64 (1 + t466)) bt468.1).bind fun bt476=>(if bt468.2 = 0 then(if bt472.2 = 0 then(if bt476.2 = 0 then(if bt476.1 = t467 then((q10_Sets.f k (wrap64 (1 + t466)) bt468.1).bind fun t478=>(if t478 = true then((q10_Sets.f k (wrap64 (1 + t466)) bt472.1).bind fun t479=>(w10_TurnsSetSteps.j0 k bt468.1 bt472.1 (!t479))) else(w10_TurnsSetSteps.j0 k bt468.1 bt472.1 true))) else(w10_TurnsSetSteps.j0 k bt468.1 bt472.1 true)) else(w10_TurnsSetSteps.j0 k bt468.1 bt472.1 true)) else(w10_TurnsSetSteps.j0 k bt468.1 bt472.1 true)) else(w10_TurnsSetSteps.j0 k bt468.1 bt472.1 true))))))) else(none))) = some r:=h
 clear h
 replace H:=Option.bind_eq_some_iff.mp H
 obtain ⟨t466,A30,H⟩:=H
 replace H :(if 0 ≤(wrap64 (1 + t466)) then((w10_mod.f a1 (shl .i64 1 (wrap64 (1 + t466)))).bind fun t467=>((turns_Set.f (wrap64 (1 + t466)) t467).bind fun bt468=>(if(shl .i64 1 (wrap64 (1 + t466))) = 0 then(none) else((turns_Set.f (wrap64 (1 + t466)) (Int.tmod (wrap64 (t467 + 1)) (shl .i64 1 (wrap64 (1 + t466))))).bind fun bt472=>((turns_SetAt.f k (wrap64 (1 + t466)) bt468.1).bind fun bt476=>(if bt468.2 = 0 then(if bt472.2 = 0 then(if bt476.2 = 0 then(if bt476.1 = t467 then((q10_Sets.f k (wrap64 (1 + t466)) bt468.1).bind fun t478=>(if t478 = true then((q10_Sets.f k (wrap64 (1 + t466)) bt472.1).bind fun t479=>(w10_TurnsSetSteps.j0 k bt468.1 bt472.1 (!t479))) else(w10_TurnsSetSteps.j0 k bt468.1 bt472.1 true))) else(w10_TurnsSetSteps.j0 k bt468.1 bt472.1 true)) else(w10_TurnsSetSteps.j0 k bt468.1 bt472.1 true)) else(w10_TurnsSetSteps.j0 k bt468.1 bt472.1 true)) else(w10_TurnsSetSteps.j0 k bt468.1 bt472.1 true))))))) else(none)) = some r:=H
 have A3:=Aside0.mk A30
 clear A30
 obtain ⟨ji4,hji4⟩ : ∃ j_ : Int,(wrap64 (1 + t466)) = j_:=⟨_,rfl⟩
 replace H :(if 0 ≤(ji4) then((w10_mod.f a1 (shl .i64 1 (ji4))).bind fun t467=>((turns_Set.f (ji4) t467).bind fun bt468=>(if(shl .i64 1 (ji4)) = 0 then(none) else((turns_Set.f (ji4) (Int.tmod (wrap64 (t467 + 1)) (shl .i64 1 (ji4)))).bind fun bt472=>((turns_SetAt.f k (ji4) bt468.1).bind fun bt476=>(if bt468.2 = 0 then(if bt472.2 = 0 then(if bt476.2 = 0 then(if bt476.1 = t467 then((q10_Sets.f k (ji4) bt468.1).bind fun t478=>(if t478 = true then((q10_Sets.f k (ji4) bt472.1).bind fun t479=>(w10_TurnsSetSteps.j0 k bt468.1 bt472.1 (!t479))) else(w10_TurnsSetSteps.j0 k bt468.1 bt472.1 true))) else(w10_TurnsSetSteps.j0 k bt468.1 bt472.1 true)) else(w10_TurnsSetSteps.j0 k bt468.1 bt472.1 true)) else(w10_TurnsSetSteps.j0 k bt468.1 bt472.1 true)) else(w10_TurnsSetSteps.j0 k bt468.1 bt472.1 true))))))) else(none)) = some r:=by first |(rw [hji4] at H;exact H) |(simp only [hji4] at H ⊢;exact H)
 (try rw [hji4] at A3)
 have hji4w :(IntKind.i64.wrap (1 + t466)) = ji4:=(i64_w _).trans hji4
 by_cases c5 : 0 ≤(ji4)
 rotate_left
 ·rw [if_neg c5] at H
  exact absurd H (by simp)
 rw [if_pos c5] at H
 have c5b0:=eq_true c5
 have c5b1 : decide (0 ≤(ji4)) = true:=decide_eq_true c5
 clear c5
 obtain ⟨ji6,hji6⟩ : ∃ j_ : Int,(shl .i64 1 (ji4)) = j_:=⟨_,rfl⟩
 replace H :((w10_mod.f a1 (ji6)).bind fun t467=>((turns_Set.f (ji4) t467).bind fun bt468=>(if(ji6) = 0 then(none) else((turns_Set.f (ji4) (Int.tmod (wrap64 (t467 + 1)) (ji6))).bind fun bt472=>((turns_SetAt.f k (ji4) bt468.1).bind fun bt476=>(if bt468.2 = 0 then(if bt472.2 = 0 then(if bt476.2 = 0 then(if bt476.1 = t467 then((q10_Sets.f k (ji4) bt468.1).bind fun t478=>(if t478 = true then((q10_Sets.f k (ji4) bt472.1).bind fun t479=>(w10_TurnsSetSteps.j0 k bt468.1 bt472.1 (!t479))) else(w10_TurnsSetSteps.j0 k bt468.1 bt472.1 true))) else(w10_TurnsSetSteps.j0 k bt468.1 bt472.1 true)) else(w10_TurnsSetSteps.j0 k bt468.1 bt472.1 true)) else(w10_TurnsSetSteps.j0 k bt468.1 bt472.1 true)) else(w10_TurnsSetSteps.j0 k bt468.1 bt472.1 true))))))) = some r:=by first |(rw [hji6] at H;exact H) |(simp only [hji6] at H ⊢;exact H)
 (try rw [hji6] at A3)
 have hji6_ :(IntKind.i64.wrap (1 * 2 ^ min (ji4).toNat 64)) = ji6:=hji6
 have hji6z :(ji4)≤64 →(IntKind.i64.wrap (1 * 2 ^ (ji4).toNat)) = ji6:=shl_small hji6
 have hji6u :(IntKind.i64.wrap (2 ^ min (ji4).toNat 64)) = ji6:=by have h_:=hji6_;rw [Int.one_mul] at h_;exact h_
 have hji6v :(ji4)≤64 →(IntKind.i64.wrap (2 ^ (ji4).toNat)) = ji6:=fun hle_=>by have h_:=hji6z hle_;rw [Int.one_mul] at h_;exact h_
 have hji6y :(wrap64 (1 * 2 ^ min (ji4).toNat 64)) = ji6:=(i64_w _).symm.trans hji6_
 have hji6x :(ji4)≤64 →(wrap64 (1 * 2 ^ (ji4).toNat)) = ji6:=fun h_=>(i64_w _).symm.trans (hji6z h_)
 replace H:=Option.bind_eq_some_iff.mp H
 obtain ⟨t467,A70,H⟩:=H
 replace H :((turns_Set.f (ji4) t467).bind fun bt468=>(if(ji6) = 0 then(none) else((turns_Set.f (ji4) (Int.tmod (wrap64 (t467 + 1)) (ji6))).bind fun bt472=>((turns_SetAt.f k (ji4) bt468.1).bind fun bt476=>(if bt468.2 = 0 then(if bt472.2 = 0 then(if bt476.2 = 0 then(if bt476.1 = t467 then((q10_Sets.f k (ji4) bt468.1).bind fun t478=>(if t478 = true then((q10_Sets.f k (ji4) bt472.1).bind fun t479=>(w10_TurnsSetSteps.j0 k bt468.1 bt472.1 (!t479))) else(w10_TurnsSetSteps.j0 k bt468.1 bt472.1 true))) else(w10_TurnsSetSteps.j0 k bt468.1 bt472.1 true)) else(w10_TurnsSetSteps.j0 k bt468.1 bt472.1 true)) else(w10_TurnsSetSteps.j0 k bt468.1 bt472.1 true)) else(w10_TurnsSetSteps.j0 k bt468.1 bt472.1 true)))))) = some r:=H
 have A7:=Aside0.mk A70
 clear A70
 replace H:=Option.bind_eq_some_iff.mp H
 obtain ⟨⟨t468,t469⟩,A80,H⟩:=H
 replace H :(if(ji6) = 0 then(none) else((turns_Set.f (ji4) (Int.tmod (wrap64 (t467 + 1)) (ji6))).bind fun bt472=>((turns_SetAt.f k (ji4) t468).bind fun bt476=>(if t469 = 0 then(if bt472.2 = 0 then(if bt476.2 = 0 then(if bt476.1 = t467 then((q10_Sets.f k (ji4) t468).bind fun t478=>(if t478 = true then((q10_Sets.f k (ji4) bt472.1).bind fun t479=>(w10_TurnsSetSteps.j0 k t468 bt472.1 (!t479))) else(w10_TurnsSetSteps.j0 k t468 bt472.1 true))) else(w10_TurnsSetSteps.j0 k t468 bt472.1 true)) else(w10_TurnsSetSteps.j0 k t468 bt472.1 true)) else(w10_TurnsSetSteps.j0 k t468 bt472.1 true)) else(w10_TurnsSetSteps.j0 k t468 bt472.1 true))))) = some r:=H
 have A8:=Aside0.mk A80
 clear A80
 have c9b0:=eq_true (of_decide_eq_true (by first |(with_reducible assumption) | assumption) : 0 ≤(ji4))
 by_cases c11 :(ji6) = 0
 ·rw [if_pos c11] at H
  exact absurd H (by simp)
 rw [if_neg c11] at H
 have c11b0 :((ji6) == 0) = false:=beq_eq_false_iff_ne.mpr c11
 have c11b1 :((ji6) != 0) = true:=bne_iff_ne.mpr c11
 replace H:=Option.bind_eq_some_iff.mp H
 obtain ⟨⟨t472,t473⟩,A120,H⟩:=H
 replace H :((turns_SetAt.f k (ji4) t468).bind fun bt476=>(if t469 = 0 then(if t473 = 0 then(if bt476.2 = 0 then(if bt476.1 = t467 then((q10_Sets.f k (ji4) t468).bind fun t478=>(if t478 = true then((q10_Sets.f k (ji4) t472).bind fun t479=>(w10_TurnsSetSteps.j0 k t468 t472 (!t479))) else(w10_TurnsSetSteps.j0 k t468 t472 true))) else(w10_TurnsSetSteps.j0 k t468 t472 true)) else(w10_TurnsSetSteps.j0 k t468 t472 true)) else(w10_TurnsSetSteps.j0 k t468 t472 true)) else(w10_TurnsSetSteps.j0 k t468 t472 true))) = some r:=H
 have A12:=Aside0.mk A120
 clear A120
 replace H:=Option.bind_eq_some_iff.mp H
 obtain ⟨⟨t476,t477⟩,A130,H⟩:=H
 replace H :(if t469 = 0 then(if t473 = 0 then(if t477 = 0 then(if t476 = t467 then((q10_Sets.f k (ji4) t468).bind fun t478=>(if t478 = true then((q10_Sets.f k (ji4) t472).bind fun t479=>(w10_TurnsSetSteps.j0 k t468 t472 (!t479))) else(w10_TurnsSetSteps.j0 k t468 t472 true))) else(w10_TurnsSetSteps.j0 k t468 t472 true)) else(w10_TurnsSetSteps.j0 k t468 t472 true)) else(w10_TurnsSetSteps.j0 k t468 t472 true)) else(w10_TurnsSetSteps.j0 k t468 t472 true)) = some r:=H
 have A13:=Aside0.mk A130
 clear A130
 have HC14:=Aside0.mk H
 clear H
 go_enter Try.func11,Try.ntmps11
 go_upto_region 6 with (first |((with_reducible refine gate_callee (f:=26) rfl ?_);refine goesL_ (some 14) rfl rfl Try.func26 (by kernel_rfl) rfl #[.int .i64 a0,.int .i64 40] rfl (by(try simp only [List.map_toArray,List.map_cons,List.map_nil]);first | done | rfl |(simp only [List.length_drop,List.length_take];rfl)) ?_;(with_reducible refine(w10_mod.calls a0 40 t466 _ A3.out).mono ?_);rintro e w' ⟨rfl,⟨nd,rfl⟩⟩;refine⟨_,rfl,?_⟩) |((with_reducible refine gate_callee (f:=26) rfl ?_);refine goesL_ (some 19) rfl rfl Try.func26 (by kernel_rfl) rfl #[.int .i64 a1,.int .i64 ji6] rfl (by(try simp only [List.map_toArray,List.map_cons,List.map_nil]);first | done |(simp only [hji6];rfl) | rfl |(simp only [List.length_drop,List.length_take];rfl)) ?_;(with_reducible refine(w10_mod.calls a1 ji6 t467 _ A7.out).mono ?_);rintro e w' ⟨rfl,⟨nd,rfl⟩⟩;refine⟨_,rfl,?_⟩) |((with_reducible refine gate_callee (f:=38) rfl ?_);refine goesL_ (some 23) rfl rfl Try.func38 (by kernel_rfl) rfl #[.int .i64 ji4,.int .i64 t467] rfl (by(try simp only [List.map_toArray,List.map_cons,List.map_nil]);first | done |(simp only [hji4];rfl) | rfl |(simp only [List.length_drop,List.length_take];rfl)) ?_;(with_reducible refine(turns_Set.calls ji4 t467 t468 t469 _ A8.out).mono ?_);rintro e w15 ⟨v470,rfl,ho0,hb⟩;refine⟨_,rfl,?_⟩;have n0_:=Aside0.mk (Kd.R_lower ho0 (bwZ (by repeat(first |(with_reducible first | exact HB.out | apply bwA | apply bwN | apply bw1) | exact HB.out))));have n1_:=Aside0.mk (bwT (by repeat(first |(with_reducible first | exact HB.out | apply bwA | apply bwN | apply bw1) | exact HB.out)) hb);clear HB;have HO471:=n0_;have HB:=n1_;clear n0_ n1_;(try clear hb);(try clear hb2);(try clear hk);(try clear hi);(try clear ho0)) |((with_reducible refine gate_callee (f:=38) rfl ?_);refine goesL_ (some 33) rfl rfl Try.func38 (by kernel_rfl) rfl #[.int .i64 ji4,.int .i64 (Int.tmod (wrap64 (t467 + 1)) (ji6))] rfl (by(try simp only [List.map_toArray,List.map_cons,List.map_nil]);first | done |(simp only [hji4,hji6];rfl) | rfl |(simp only [List.length_drop,List.length_take];rfl)) ?_;(with_reducible refine(turns_Set.calls ji4 (Int.tmod (wrap64 (t467 + 1)) (ji6)) t472 t473 _ A12.out).mono ?_);rintro e w16 ⟨v474,rfl,ho0,hb⟩;refine⟨_,rfl,?_⟩;have n0_:=Aside0.mk (Kd.R_elder' (by(with_reducible repeat(first | apply Kd.R_alloc | apply Kd.R_drewN | apply Kd.R_drew));exact HO471.out) (Kd.R_base ho0) hb);have n1_:=Aside0.mk (Kd.R_lower (Kd.R_new' ho0 (Kd.R_lt (by(with_reducible repeat(first | apply Kd.R_alloc | apply Kd.R_drewN | apply Kd.R_drew));exact HO471.out))) (bwZ (by repeat(first |(with_reducible first | exact HB.out | apply bwA | apply bwN | apply bw1) | exact HB.out))));have n2_:=Aside0.mk (bwT (by repeat(first |(with_reducible first | exact HB.out | apply bwA | apply bwN | apply bw1) | exact HB.out)) hb);clear HO471;clear HB;have HO471:=n0_;have HO475:=n1_;have HB:=n2_;clear n0_ n1_ n2_;(try clear hb);(try clear hb2);(try clear hk);(try clear hi);(try clear ho0);obtain ⟨Ao17,co17,eo17⟩:=Kd.R_slice HO471.out;subst eo17) |((with_reducible refine gate_callee (f:=45) rfl ?_);refine goesL_ (some 39) rfl rfl Try.func45 (by kernel_rfl) rfl #[.int .i64 ji4,.slice Ao17 t468.length co17] rfl (by(try simp only [List.map_toArray,List.map_cons,List.map_nil]);first | done |(simp only [hji4];rfl) | rfl |(simp only [List.length_drop,List.length_take];rfl)) ?_;(with_reducible refine(turns_SetAt.calls k ji4 _ _ t468 t476 t477 _ ?side1 ?side2 A13.out).mono ?_);(case side1=>repeat(first | exact(Kd.R_reads' HO471.out).2.2 |(with_reducible refine Kd.C_alloc ?_ _) |(with_reducible refine Kd.C_drewN ?_ _) |(with_reducible refine Kd.C_drew ?_)));(case side2=>exact(Kd.R_reads' HO471.out).2.1);rintro e w' ⟨rfl,⟨nd,rfl⟩⟩;refine⟨_,rfl,?_⟩))
 (try simp only [Act.put,List.setIfInBounds_toArray,List.set_cons_zero,List.set_cons_succ])
 go_cut [68] (fun v68 wc=>∃ (kq : Nat) (x68_13 : Bool),v68 = .bool x68_13∧Aside0 (w10_TurnsSetSteps.j0 kq t468 t472 x68_13 = some r)∧Aside0 (kq≤k)∧Aside0 (Kd.R (Kd.int .i64) 3 wc w.heap.size (fun k_=>some k_ ≠(v474 : Value).ownBlock) (.slice Ao17 t468.length co17) t468)∧Aside0 (Kd.R (Kd.int .i64) 3 wc w.heap.size (fun k_=>some k_ ≠((.slice Ao17 t468.length co17) : Value).ownBlock) v474 t472)∧Aside0 (Below w.heap.size w wc))
 case first =>
  have H:=HC14.out
  clear HC14
  by_cases c18 : t469 = 0
  rotate_left
  ·rw [if_neg c18] at H
   have c18b0 :(t469 == 0) = false:=beq_eq_false_iff_ne.mpr c18
   have c18b1 :(t469 != 0) = true:=bne_iff_ne.mpr c18
   (first | rw [c18b0] |(simp only [i64_w,i32_w];rw [c18b0]) | skip)
   have H':=Aside0.mk H
   clear H
   go_wp2
   go_meet
   exact⟨_,(true),(by first | rfl |(simp;done) |(simp [*];done)),H',⟨by first | omega | exact Nat.le_refl _⟩,⟨by(with_reducible repeat(first | apply Kd.R_alloc | apply Kd.R_drewN | apply Kd.R_drew));exact Kd.R_mono HO471.out (fun _ hk=>hk.2)⟩,⟨by(with_reducible repeat(first | apply Kd.R_alloc | apply Kd.R_drewN | apply Kd.R_drew));exact Kd.R_mono HO475.out (fun _ hk=>hk.2)⟩,⟨by repeat(first |(with_reducible first | exact HB.out | apply bwA | apply bwN | apply bw1) | exact HB.out)⟩⟩
  rw [if_pos c18] at H
  have c18b0 :(t469 == 0) = true:=beq_iff_eq.mpr c18
  have c18b1 :(t469 != 0) = false:=bne_eq_false_iff_eq.mpr c18
  clear c18
  (first | rw [c18b0] |(simp only [i64_w,i32_w];rw [c18b0]) | skip)
  by_cases c19 : t473 = 0
  rotate_left
  ·rw [if_neg c19] at H
   have c19b0 :(t473 == 0) = false:=beq_eq_false_iff_ne.mpr c19
   have c19b1 :(t473 != 0) = true:=bne_iff_ne.mpr c19
   have H':=Aside0.mk H
   clear H
   go_wp2
   go_meet
   exact⟨_,(true),(by first | rfl |(simp;done) |(simp [*];done)),H',⟨by first | omega | exact Nat.le_refl _⟩,⟨by(with_reducible repeat(first | apply Kd.R_alloc | apply Kd.R_drewN | apply Kd.R_drew));exact Kd.R_mono HO471.out (fun _ hk=>hk.2)⟩,⟨by(with_reducible repeat(first | apply Kd.R_alloc | apply Kd.R_drewN | apply Kd.R_drew));exact Kd.R_mono HO475.out (fun _ hk=>hk.2)⟩,⟨by repeat(first |(with_reducible first | exact HB.out | apply bwA | apply bwN | apply bw1) | exact HB.out)⟩⟩
  rw [if_pos c19] at H
  have c19b0 :(t473 == 0) = true:=beq_iff_eq.mpr c19
  have c19b1 :(t473 != 0) = false:=bne_eq_false_iff_eq.mpr c19
  clear c19
  by_cases c20 : t477 = 0
  rotate_left
  ·rw [if_neg c20] at H
   have c20b0 :(t477 == 0) = false:=beq_eq_false_iff_ne.mpr c20
   have c20b1 :(t477 != 0) = true:=bne_iff_ne.mpr c20
   have H':=Aside0.mk H
   clear H
   go_wp2
   go_meet
   exact⟨_,(true),(by first | rfl |(simp;done) |(simp [*];done)),H',⟨by first | omega | exact Nat.le_refl _⟩,⟨by(with_reducible repeat(first | apply Kd.R_alloc | apply Kd.R_drewN | apply Kd.R_drew));exact Kd.R_mono HO471.out (fun _ hk=>hk.2)⟩,⟨by(with_reducible repeat(first | apply Kd.R_alloc | apply Kd.R_drewN | apply Kd.R_drew));exact Kd.R_mono HO475.out (fun _ hk=>hk.2)⟩,⟨by repeat(first |(with_reducible first | exact HB.out | apply bwA | apply bwN | apply bw1) | exact HB.out)⟩⟩
  rw [if_pos c20] at H
  have c20b0 :(t477 == 0) = true:=beq_iff_eq.mpr c20
  have c20b1 :(t477 != 0) = false:=bne_eq_false_iff_eq.mpr c20
  clear c20
  by_cases c21 : t476 = t467
  rotate_left
  ·rw [if_neg c21] at H
   have c21b0 :(t476 == t467) = false:=beq_eq_false_iff_ne.mpr c21
   have c21b1 :(t476 != t467) = true:=bne_iff_ne.mpr c21
   have H':=Aside0.mk H
   clear H
   go_wp2
   go_meet
   exact⟨_,(true),(by first | rfl |(simp;done) |(simp [*];done)),H',⟨by first | omega | exact Nat.le_refl _⟩,⟨by(with_reducible repeat(first | apply Kd.R_alloc | apply Kd.R_drewN | apply Kd.R_drew));exact Kd.R_mono HO471.out (fun _ hk=>hk.2)⟩,⟨by(with_reducible repeat(first | apply Kd.R_alloc | apply Kd.R_drewN | apply Kd.R_drew));exact Kd.R_mono HO475.out (fun _ hk=>hk.2)⟩,⟨by repeat(first |(with_reducible first | exact HB.out | apply bwA | apply bwN | apply bw1) | exact HB.out)⟩⟩
  rw [if_pos c21] at H
  have c21b0 :(t476 == t467) = true:=beq_iff_eq.mpr c21
  have c21b1 :(t476 != t467) = false:=bne_eq_false_iff_eq.mpr c21
  clear c21
  replace H:=Option.bind_eq_some_iff.mp H
  obtain ⟨t478,A220,H⟩:=H
  replace H :(if t478 = true then((q10_Sets.f k (ji4) t472).bind fun t479=>(w10_TurnsSetSteps.j0 k t468 t472 (!t479))) else(w10_TurnsSetSteps.j0 k t468 t472 true)) = some r:=H
  have A22:=Aside0.mk A220
  clear A220
  by_cases c23 : t478 = true
  rotate_left
  ·replace c23 := Bool.eq_false_iff.mpr c23
   subst c23
   have H1 :(w10_TurnsSetSteps.j0 k t468 t472 true) = some r:=by rw [if_neg (show ¬ (false = true) by decide)] at H;exact H
   clear H
   have H:=H1
   clear H1
   have H':=Aside0.mk H
   clear H
   go_wp2_with (first |(go_at_call 35;(with_reducible refine(q10_Sets.calls k ji4 _ _ t468 false _ ?side1 ?side2 A22.out).mono ?_);(case side1=>repeat(first | exact(Kd.R_reads' HO471.out).2.2 |(with_reducible refine Kd.C_alloc ?_ _) |(with_reducible refine Kd.C_drewN ?_ _) |(with_reducible refine Kd.C_drew ?_)));(case side2=>exact(Kd.R_reads' HO471.out).2.1);rintro e w' ⟨rfl,⟨nd,rfl⟩⟩))
   go_meet
   exact⟨_,(true),(by first | rfl |(simp;done) |(simp [*];done)),H',⟨by first | omega | exact Nat.le_refl _⟩,⟨by(with_reducible repeat(first | apply Kd.R_alloc | apply Kd.R_drewN | apply Kd.R_drew));exact Kd.R_mono HO471.out (fun _ hk=>hk.2)⟩,⟨by(with_reducible repeat(first | apply Kd.R_alloc | apply Kd.R_drewN | apply Kd.R_drew));exact Kd.R_mono HO475.out (fun _ hk=>hk.2)⟩,⟨by repeat(first |(with_reducible first | exact HB.out | apply bwA | apply bwN | apply bw1) | exact HB.out)⟩⟩
  subst c23
  have H1 :((q10_Sets.f k (ji4) t472).bind fun t479=>(w10_TurnsSetSteps.j0 k t468 t472 (!t479))) = some r:=by rw [if_pos rfl] at H;exact H
  clear H
  have H:=H1
  clear H1
  replace H:=Option.bind_eq_some_iff.mp H
  obtain ⟨t479,A240,H⟩:=H
  replace H :(w10_TurnsSetSteps.j0 k t468 t472 (!t479)) = some r:=H
  have A24:=Aside0.mk A240
  clear A240
  have H':=Aside0.mk H
  clear H
  go_wp2_with (first |(go_at_call 35;(with_reducible refine(q10_Sets.calls k ji4 _ _ t468 true _ ?side1 ?side2 A22.out).mono ?_);(case side1=>repeat(first | exact(Kd.R_reads' HO471.out).2.2 |(with_reducible refine Kd.C_alloc ?_ _) |(with_reducible refine Kd.C_drewN ?_ _) |(with_reducible refine Kd.C_drew ?_)));(case side2=>exact(Kd.R_reads' HO471.out).2.1);rintro e w' ⟨rfl,⟨nd,rfl⟩⟩;obtain ⟨Ao25,co25,eo25⟩:=Kd.R_slice HO475.out;subst eo25) |(go_at_call 35;(with_reducible refine(q10_Sets.calls k ji4 _ _ t472 t479 _ ?side1 ?side2 A24.out).mono ?_);(case side1=>repeat(first | exact(Kd.R_reads' HO475.out).2.2 |(with_reducible refine Kd.C_alloc ?_ _) |(with_reducible refine Kd.C_drewN ?_ _) |(with_reducible refine Kd.C_drew ?_)));(case side2=>exact(Kd.R_reads' HO475.out).2.1);rintro e w' ⟨rfl,⟨nd,rfl⟩⟩))
  go_meet
  exact⟨_,(!t479),(by first | rfl |(simp;done) |(simp [*];done)),H',⟨by first | omega | exact Nat.le_refl _⟩,⟨by(with_reducible repeat(first | apply Kd.R_alloc | apply Kd.R_drewN | apply Kd.R_drew));exact Kd.R_mono HO471.out (fun _ hk=>hk.2)⟩,⟨by(with_reducible repeat(first | apply Kd.R_alloc | apply Kd.R_drewN | apply Kd.R_drew));exact Kd.R_mono HO475.out (fun _ hk=>hk.2)⟩,⟨by repeat(first |(with_reducible first | exact HB.out | apply bwA | apply bwN | apply bw1) | exact HB.out)⟩⟩
 case rest =>
  clear HC14
  try clear c1
  try clear c2
  try clear p2
  try clear c3
  try clear c4
  try clear c5
  try clear c5b0
  try clear c5b1
  try clear p6
  try clear c9
  try clear c9b0
  try clear c10
  try clear c10b0
  try clear c11
  try clear c11b0
  try clear c11b1
  try clear c18
  try clear c18b0
  try clear c18b1
  try clear c19
  try clear c19b0
  try clear c19b1
  try clear c20
  try clear c20b0
  try clear c20b1
  try clear c21
  try clear c21b0
  try clear c21b1
  try clear c23
  obtain ⟨kq,x68_13,rfl,HA,HJ13,HO_5,HO_7,HB⟩:=hcut
  cases kq with
  | zero=>exact absurd HA.out (by simp [w10_TurnsSetSteps.j0])
  | succ kj13 =>
   have H:=HA.out
   clear HA
   simp only [w10_TurnsSetSteps.j0] at H
   by_cases c26 : x68_13 = true
   ·subst c26
    have H1 :(some false) = some r:=by rw [if_pos rfl] at H;exact H
    clear H
    have H:=H1
    clear H1
    obtain rfl:=Option.some.inj H
    go_wp2
    go_ret
    exact⟨by first | rfl |(simp [errW_none,errW_some] <;> rfl) |(simp only [← hji4,← hji6];first | rfl |(simp [errW_none,errW_some] <;> rfl)) |(simp [*,errW_none,errW_some] <;> rfl),by repeat(first |(with_reducible first | exact HB.out | apply bwA | apply bwN | apply bw1) | exact HB.out)⟩
   replace c26:=Bool.eq_false_iff.mpr c26
   subst c26
   have H1 :((w10_differ.f kj13 t468 t472).bind fun bt480=>(if(wrap64 (bt480.1 + bt480.2)) = 1 then((w10_awake.f kj13).bind fun t482=>(some t482)) else(some false))) = some r:=by rw [if_neg (show ¬ (false = true) by decide)] at H;exact H
   clear H
   have H:=H1
   clear H1
   replace H:=Option.bind_eq_some_iff.mp H
   obtain ⟨⟨t480,t481⟩,A270,H⟩:=H
   replace H :(if(wrap64 (t480 + t481)) = 1 then((w10_awake.f kj13).bind fun t482=>(some t482)) else(some false)) = some r:=H
   have A27:=Aside0.mk A270
   clear A270
   by_cases c28 :(wrap64 (t480 + t481)) = 1
   rotate_left
   ·rw [if_neg c28] at H
    have c28b0 :((wrap64 (t480 + t481)) == 1) = false:=beq_eq_false_iff_ne.mpr c28
    have c28b1 :((wrap64 (t480 + t481)) != 1) = true:=bne_iff_ne.mpr c28
    obtain rfl:=Option.some.inj H
    obtain ⟨Ao32,co32,eo32⟩:=Kd.R_slice HO_7.out
    subst eo32
    go_wp2_with (first |((with_reducible refine gate_callee (f:=37) rfl ?_);refine goesL_ (some 72) rfl rfl Try.func37 (by kernel_rfl) rfl #[.slice Ao17 t468.length co17,.slice Ao32 t472.length co32] rfl (by(try simp only [List.map_toArray,List.map_cons,List.map_nil]);first | done | rfl |(simp only [List.length_drop,List.length_take];rfl)) ?_;(with_reducible refine(w10_differ.calls kj13 _ _ t468 _ _ t472 t480 t481 _ ?side1 ?side2 ?side3 ?side4 A27.out).mono ?_);(case side1=>repeat(first | exact(Kd.R_reads' HO_5.out).2.2 |(with_reducible refine Kd.C_alloc ?_ _) |(with_reducible refine Kd.C_drewN ?_ _) |(with_reducible refine Kd.C_drew ?_)));(case side2=>exact(Kd.R_reads' HO_5.out).2.1);(case side3=>repeat(first | exact(Kd.R_reads' HO_7.out).2.2 |(with_reducible refine Kd.C_alloc ?_ _) |(with_reducible refine Kd.C_drewN ?_ _) |(with_reducible refine Kd.C_drew ?_)));(case side4=>exact(Kd.R_reads' HO_7.out).2.1);rintro e w' ⟨rfl,⟨nd,rfl⟩⟩;refine⟨_,rfl,?_⟩))
    go_ret
    exact⟨by first | rfl |(simp [errW_none,errW_some] <;> rfl) |(simp only [← hji4,← hji6];first | rfl |(simp [errW_none,errW_some] <;> rfl)) |(simp [*,errW_none,errW_some] <;> rfl),by repeat(first |(with_reducible first | exact HB.out | apply bwA | apply bwN | apply bw1) | exact HB.out)⟩
   rw [if_pos c28] at H
   have c28b0 :((wrap64 (t480 + t481)) == 1) = true:=beq_iff_eq.mpr c28
   have c28b1 :((wrap64 (t480 + t481)) != 1) = false:=bne_eq_false_iff_eq.mpr c28
   clear c28
   replace H:=Option.bind_eq_some_iff.mp H
   obtain ⟨t482,A290,H⟩:=H
   replace H :(some t482) = some r:=H
   have A29:=Aside0.mk A290
   clear A290
   obtain rfl:=Option.some.inj H
   obtain ⟨Ao30,co30,eo30⟩:=Kd.R_slice HO_7.out
   subst eo30
   go_wp2_with (first |((with_reducible refine gate_callee (f:=37) rfl ?_);refine goesL_ (some 72) rfl rfl Try.func37 (by kernel_rfl) rfl #[.slice Ao17 t468.length co17,.slice Ao30 t472.length co30] rfl (by(try simp only [List.map_toArray,List.map_cons,List.map_nil]);first | done | rfl |(simp only [List.length_drop,List.length_take];rfl)) ?_;(with_reducible refine(w10_differ.calls kj13 _ _ t468 _ _ t472 t480 t481 _ ?side1 ?side2 ?side3 ?side4 A27.out).mono ?_);(case side1=>repeat(first | exact(Kd.R_reads' HO_5.out).2.2 |(with_reducible refine Kd.C_alloc ?_ _) |(with_reducible refine Kd.C_drewN ?_ _) |(with_reducible refine Kd.C_drew ?_)));(case side2=>exact(Kd.R_reads' HO_5.out).2.1);(case side3=>repeat(first | exact(Kd.R_reads' HO_7.out).2.2 |(with_reducible refine Kd.C_alloc ?_ _) |(with_reducible refine Kd.C_drewN ?_ _) |(with_reducible refine Kd.C_drew ?_)));(case side4=>exact(Kd.R_reads' HO_7.out).2.1);rintro e w' ⟨rfl,⟨nd,rfl⟩⟩;refine⟨_,rfl,?_⟩) |(go_at_call 20;(with_reducible refine(w10_awake.calls kj13  t482 _ A29.out).mono ?_);rintro e w31 ⟨rfl,hb⟩;have n0_:=Aside0.mk (Kd.R_below (by(with_reducible repeat(first | apply Kd.R_alloc | apply Kd.R_drewN | apply Kd.R_drew));exact HO_5.out) hb);have n1_:=Aside0.mk (Kd.R_below (by(with_reducible repeat(first | apply Kd.R_alloc | apply Kd.R_drewN | apply Kd.R_drew));exact HO_7.out) hb);have n2_:=Aside0.mk (bwT (by repeat(first |(with_reducible first | exact HB.out | apply bwA | apply bwN | apply bw1) | exact HB.out)) hb);clear HO_5;clear HO_7;clear HB;have HO_5:=n0_;have HO_7:=n1_;have HB:=n2_;clear n0_ n1_ n2_;(try clear hb);(try clear hb2);(try clear hk);(try clear hi)))
   go_ret
   exact⟨by first | rfl |(simp [errW_none,errW_some] <;> rfl) |(simp only [← hji4,← hji6];first | rfl |(simp [errW_none,errW_some] <;> rfl)) |(simp [*,errW_none,errW_some] <;> rfl),by repeat(first |(with_reducible first | exact HB.out | apply bwA | apply bwN | apply bw1) | exact HB.out)⟩
/-- THE ONE PURE STATEMENT of w10_TurnsSetSteps: yours. -/
def w10_TurnsSetSteps.Pure : Prop:=∀ (a0 : Int) (a1 : Int),(Lit.int .i64 a0).wf = true →(Lit.int .i64 a1).wf = true→∃ k,w10_TurnsSetSteps.f k a0 a1 = some true
theorem w10_TurnsSetSteps.walk (P : w10_TurnsSetSteps.Pure) (a0 : Int) (a1 : Int) (w : World) (w0 : (Lit.int .i64 a0).wf = true) (w1 : (Lit.int .i64 a1).wf = true) :
  Calls Try.prog 11 #[.int .i64 a0,.int .i64 a1] w fun e w'=>e = .returned (.bool true)∧Below w.heap.size w w':=by
 obtain ⟨k,h⟩:=P a0 a1 w0 w1
 refine(w10_TurnsSetSteps.calls k a0 a1 true w h).mono ?_
 rintro e w' ⟨rfl,hd⟩
 exact⟨rfl,hd⟩
end Go.Proofs.Ytbfhlaggllofdaa.S

namespace Go.Proofs.Ytbfhlaggllofdaa.P
open Go.RowKit Go.Proofs.Ytbfhlaggllofdaa.S Go.Proofs.YtbfhlaggllofdaaW.PrintWords Go.Proofs.YtbfhlaggllofdaaW.PrintLast Go.Proofs.YtbfhlaggllofdaaW.PrintMore
set_option linter.unusedVariables false
theorem ints_loop (a b : List Int) (he : a.length = b.length) (hl : a.length≤1000) : ∀ d i : Nat,i + d = a.length→Ev (fun k=>w10_ints.l0 k a b (i : Int)) (decide (a.drop i = b.drop i)):=by
 intro d
 induction d with
 | zero =>
  intro i h
  rw [List.drop_eq_nil_of_le (by omega),List.drop_eq_nil_of_le (by omega),decide_eq_true rfl]
  refine Ev.step (f:=fun _=>some true) (fun k=>?_) (Ev.now _)
  simp only [w10_ints.l0]
  rw [if_neg (by omega)]
 | succ d ih =>
  intro i h
  have w : wrap64 ((i : Int) + 1) =((i + 1 : Nat) : Int):=by rw [w64 (by omega) (by omega)];rfl
  have ea:=drop_cons a i (by omega)
  have eb:=drop_cons b i (by omega)
  by_cases c : rd a (i : Int) = rd b (i : Int)
  rotate_left
  ·have e : decide (a.drop i = b.drop i) = false := decide_eq_false (by rw [ea, eb]; simp [c])
   rw [e]
   refine Ev.step (f:=fun _=>some false) (fun k=>?_) (Ev.now _)
   simp only [w10_ints.l0]
   rw [if_pos (by omega),if_pos (by omega),if_pos (by omega),if_neg c]
  have e : decide (a.drop i = b.drop i) = decide (a.drop (i + 1) = b.drop (i + 1)):=by rw [ea,eb,c];simp
  rw [e]
  refine Ev.step (fun k=>?_) (ih (i + 1) (by omega))
  simp only [w10_ints.l0]
  rw [if_pos (by omega),if_pos (by omega),if_pos (by omega),if_pos c,w]
theorem ints_ev (a b : List Int) (hl : a.length≤1000) : Ev (fun k=>w10_ints.f k a b) (decide (a = b)):=by
 by_cases c : a.length = b.length
 ·refine Ev.congr (fun k => ?_) (ints_loop a b c hl a.length 0 (by omega))
  unfold w10_ints.f
  rw [if_pos (by omega)]
  rfl
 rw [decide_eq_false (fun h=>c (by rw [h]))]
 refine Ev.congr (fun k=>?_) (Ev.now _)
 unfold w10_ints.f
 rw [if_neg (by omega)]
end Go.Proofs.Ytbfhlaggllofdaa.P

namespace Go.Proofs.Ytbfhlaggllofdaa.P
open Go.RowKit Go.Proofs.Ytbfhlaggllofdaa.S Go.Proofs.Ytbfhlaggllofdaa.G Go.Proofs.Ytbfhlaggllofdaa.T Go.Proofs.YtbfhlaggllofdaaW.PrintWords Go.Proofs.YtbfhlaggllofdaaW.PrintLast Go.Proofs.YtbfhlaggllofdaaW.PrintMore
set_option linter.unusedVariables false
theorem awake_ev : Ev (fun k=>w10_awake.f k) true:=by
 have e1 : turns_Set.f 2 2 = some ([1,2],0):=by kernel_rfl
 have e2 : turns_Choice.f 3 2 1 = some ([2,3],0):=by kernel_rfl
 have e3 : turns_Order.f 3 3 = some ([3,2,1],0):=by kernel_rfl
 have e4 : turns_Groupings.f 5 = some (52,0):=by kernel_rfl
 have e5 : turns_Setting.f [2,3] 3 = some ([1,2],0):=by kernel_rfl
 have i1:=ints_ev [1,2] [1,2] (by decide)
 have i2:=ints_ev [2,3] [2,3] (by decide)
 have i3:=ints_ev [3,2,1] [3,2,1] (by decide)
 rw [decide_eq_true rfl] at i1 i2 i3
 have hj : Ev (fun k=>w10_awake.j0 k false) true:=by
  refine Ev.step (f:=fun _=>some true) (fun k=>?_) (Ev.now _)
  simp only [w10_awake.j0]
  rw [if_neg (by decide)]
 refine Ev.congr (f:=fun k=>(w10_ints.f k [1,2] [1,2]).bind fun t=>(if t = true then((w10_ints.f k [2,3] [2,3]).bind fun t=>(if t = true then((w10_ints.f k [3,2,1] [3,2,1]).bind fun t=>(if t = true then((w10_ints.f k [1,2] [1,2]).bind fun t=>w10_awake.j0 k (!t)) else w10_awake.j0 k true)) else w10_awake.j0 k true)) else w10_awake.j0 k true)) (fun k=>?_) ?_
 ·unfold w10_awake.f
  rw [e1,e2,e3,e4,e5]
  rfl
 refine Ev.bind (f:=fun k (t : Bool)=>_) i1 ?_
 refine Ev.congr (fun k=>if_pos rfl) ?_
 refine Ev.bind (f:=fun k (t : Bool)=>_) i2 ?_
 refine Ev.congr (fun k=>if_pos rfl) ?_
 refine Ev.bind (f:=fun k (t : Bool)=>_) i3 ?_
 refine Ev.congr (fun k=>if_pos rfl) ?_
 exact Ev.bind (f:=fun k (t : Bool)=>_) i1 hj
theorem awake_some : Ev (fun k=>(w10_awake.f k).bind fun z=>some z) true:=Ev.congr (fun k=>by cases w10_awake.f k <;> rfl) awake_ev
end Go.Proofs.Ytbfhlaggllofdaa.P

namespace Go.Proofs.Ytbfhlaggllofdaa.P
open Go.RowKit Go.Proofs.Ytbfhlaggllofdaa.S Go.Proofs.YtbfhlaggllofdaaW.PrintWords Go.Proofs.YtbfhlaggllofdaaW.PrintLast Go.Proofs.YtbfhlaggllofdaaW.PrintMore
set_option linter.unusedVariables false
theorem u64_nonneg (a : Int) : 0≤IntKind.u64.wrap a:=by
 simp [IntKind.wrap,IntKind.signed,IntKind.bits]
 omega
theorem u64_id {a : Int} (h0 : 0≤a) (h1 : a≤9000000000000000000) : IntKind.u64.wrap a = a:=by
 simp [IntKind.wrap,IntKind.signed,IntKind.bits]
 omega
theorem mod_ok (a : Int) {b : Int} (b1 : 1≤b) (b2 : b≤9000000000000000000) : ∃ m,w10_mod.f a b = some m∧0≤m∧m < b:=by
 unfold w10_mod.f
 rw [u64_id (by omega) (by omega),if_neg (by omega),Int.tmod_eq_emod_of_nonneg (u64_nonneg a)]
 have h0:=Int.emod_nonneg (IntKind.u64.wrap a) (show b≠0 by omega)
 have h1:=Int.emod_lt_of_pos (IntKind.u64.wrap a) (show 0 < b by omega)
 rw [w64 (by omega) (by omega)]
 exact⟨_,rfl,h0,h1⟩
end Go.Proofs.Ytbfhlaggllofdaa.P

namespace Go.Proofs.Ytbfhlaggllofdaa.P
open Go.RowKit Go.Proofs.Ytbfhlaggllofdaa.S Go.Proofs.Ytbfhlaggllofdaa.G Go.Proofs.Ytbfhlaggllofdaa.T Go.Proofs.YtbfhlaggllofdaaW.PrintWords Go.Proofs.YtbfhlaggllofdaaW.PrintLast Go.Proofs.YtbfhlaggllofdaaW.PrintMore
set_option linter.unusedVariables false
instance (n : Int) (l : List Int) : Decidable (IsS n l):=decidable_of_iff ((∀ x ∈ l,1≤x∧x≤n)∧l.Pairwise (· < ·)) ⟨fun h=>⟨h.1,h.2⟩,fun h=>⟨h.1,h.2⟩⟩
theorem isS_step {n : Int} {l : List Int} {i : Nat} (hi : i < l.length) : IsS n (l.take (i + 1))↔IsS n (l.take i) ∧(1≤rd l (i : Int)∧rd l (i : Int)≤n) ∧(0 < i→rd l ((i : Int) - 1) < rd l (i : Int)):=by
 have e : l.take (i + 1) = l.take i ++ [l[i]]:=List.take_succ_eq_append_getElem hi
 have r : rd l (i : Int) = l[i]:=rd_lt l i hi
 have r1 : 0 < i→rd l ((i : Int) - 1) = l[i - 1]:=fun h=>by rw [show(i : Int) - 1 =((i - 1 : Nat) : Int) by omega,rd_lt l _ (by omega)]
 rw [r]
 constructor
 ·intro h
  refine⟨?_,h.mem _ (by rw [e];exact List.mem_append_right _ (List.mem_singleton.2 rfl)),fun h0=>?_⟩
  ·have := h.take i
   rwa [List.take_take,show min i (i + 1) = i by omega] at this
  rw [r1 h0]
  have hp:=List.pairwise_iff_getElem.1 h.sorted (i - 1) i (by rw [List.length_take];omega) (by rw [List.length_take];omega) (by omega)
  simpa using hp
 intro ⟨h1,h2,h3⟩
 refine⟨fun x hx=>?_,?_⟩
 ·rw [e] at hx
  rcases List.mem_append.1 hx with hx | hx
  ·exact h1.mem x hx
  obtain rfl : x = l[i]:=by simpa using hx
  exact h2
 rw [e]
 refine List.pairwise_append.2 ⟨h1.sorted,by simp,fun x hx y hy=>?_⟩
 obtain rfl : y = l[i]:=by simpa using hy
 obtain ⟨j,hj,rfl⟩:=List.getElem_of_mem hx
 rw [List.length_take] at hj
 have h4:=h3 (by omega)
 rw [r1 (by omega)] at h4
 rw [List.getElem_take]
 by_cases c : j = i - 1
 ·subst c;exact h4
 have hp:=List.pairwise_iff_getElem.1 h1.sorted j (i - 1) (by rw [List.length_take];omega) (by rw [List.length_take];omega) (by omega)
 rw [List.getElem_take,List.getElem_take] at hp
 exact Int.lt_trans hp h4
theorem isS_not {n : Int} {l : List Int} (j : Nat) (h : ¬ IsS n (l.take j)) : decide (IsS n l) = false:=decide_eq_false (fun h'=>h (h'.take j))
theorem isS_nil (n : Int) : IsS n []:=⟨fun x hx=>by simp at hx,.nil⟩
theorem isSet_loop {n : Int} {l : List Int} (hl : l.length≤1000) : ∀ e i : Nat,i + e = l.length→IsS n (l.take i)→Ev (fun k=>turns_isSet.l0 k n l l (l.length : Int) (i : Int)) (decide (IsS n l)):=by
 intro e
 induction e with
 | zero =>
  intro i h hs
  rw [List.take_of_length_le (by omega)] at hs
  rw [decide_eq_true hs]
  refine Ev.step (f:=fun _=>some true) (fun k=>?_) (Ev.now _)
  simp only [turns_isSet.l0]
  rw [if_neg (by omega)]
 | succ e ih =>
  intro i h hs
  have w : wrap64 ((i : Int) + 1) =((i + 1 : Nat) : Int):=by rw [w64 (by omega) (by omega)];rfl
  have w2 : wrap64 ((i : Int) - 1) =(i : Int) - 1:=w64 (by omega) (by omega)
  have st:=isS_step (n:=n) (l:=l) (i:=i) (by omega)
  by_cases c : 1≤rd l (i : Int)∧rd l (i : Int)≤n
  rotate_left
  ·rw [isS_not (i + 1) (fun h => c ((st.1 h).2.1))]
   refine Ev.step (f:=fun _=>some false) (fun k=>?_) (Ev.now _)
   simp only [turns_isSet.l0]
   rw [if_pos (by omega),if_pos (by omega),if_pos (by omega),within_no c]
   rfl
  by_cases c0 : 0 < i
  rotate_left
  ·refine Ev.step (fun k => ?_) (ih (i + 1) (by omega) (st.2 ⟨hs, c, fun h => absurd h c0⟩))
   simp only [turns_isSet.l0]
   rw [if_pos (by omega),if_pos (by omega),if_pos (by omega),within_yes c]
   simp only [Option.bind_some,if_true]
   rw [if_neg (by omega),w]
  by_cases c1 : rd l ((i : Int) - 1) < rd l (i : Int)
  ·refine Ev.step (fun k => ?_) (ih (i + 1) (by omega) (st.2 ⟨hs, c, fun _ => c1⟩))
   simp only [turns_isSet.l0]
   rw [if_pos (by omega),if_pos (by omega),if_pos (by omega),within_yes c]
   simp only [Option.bind_some,if_true]
   rw [if_pos (by omega),w2,if_pos (by omega),if_pos (by omega),if_neg (by omega),w]
  rw [isS_not (i + 1) (fun h=>c1 ((st.1 h).2.2 c0))]
  refine Ev.step (f:=fun _=>some false) (fun k=>?_) (Ev.now _)
  simp only [turns_isSet.l0]
  rw [if_pos (by omega),if_pos (by omega),if_pos (by omega),within_yes c]
  simp only [Option.bind_some,if_true]
  rw [if_pos (by omega),w2,if_pos (by omega),if_pos (by omega),if_pos (by omega)]
theorem isSet_ev (n : Int) (l : List Int) (hl : l.length≤1000) : Ev (fun k=>turns_isSet.f k n l) (decide (IsS n l)):=isSet_loop hl l.length 0 (by omega) (isS_nil n)
theorem sets_loop {n : Int} {l : List Int} (hl : l.length≤1000) : ∀ e i : Nat,i + e = l.length→IsS n (l.take i)→Ev (fun k=>q10_Sets.l0 k n l (i : Int)) (decide (IsS n l)):=by
 intro e
 induction e with
 | zero =>
  intro i h hs
  rw [List.take_of_length_le (by omega)] at hs
  rw [decide_eq_true hs]
  refine Ev.step (f:=fun _=>some true) (fun k=>?_) (Ev.now _)
  simp only [q10_Sets.l0]
  rw [if_neg (by omega)]
 | succ e ih =>
  intro i h hs
  have w : wrap64 ((i : Int) + 1) =((i + 1 : Nat) : Int):=by rw [w64 (by omega) (by omega)];rfl
  have w2 : wrap64 ((i : Int) - 1) =(i : Int) - 1:=w64 (by omega) (by omega)
  have st:=isS_step (n:=n) (l:=l) (i:=i) (by omega)
  by_cases c : 1≤rd l (i : Int)∧rd l (i : Int)≤n
  rotate_left
  ·rw [isS_not (i + 1) (fun h => c ((st.1 h).2.1))]
   refine Ev.step (f:=fun _=>some false) (fun k=>?_) (Ev.now _)
   simp only [q10_Sets.l0]
   rw [if_pos (by omega),if_pos (by omega)]
   by_cases c1 : rd l (i : Int) < 1
   ·rw [if_pos c1]
   rw [if_neg c1,if_pos (by omega)]
  by_cases c0 : 0 < i
  rotate_left
  ·refine Ev.step (fun k => ?_) (ih (i + 1) (by omega) (st.2 ⟨hs, c, fun h => absurd h c0⟩))
   simp only [q10_Sets.l0]
   rw [if_pos (by omega),if_pos (by omega),if_neg (by omega),if_neg (by omega),if_neg (by omega),w]
  by_cases c1 : rd l ((i : Int) - 1) < rd l (i : Int)
  ·refine Ev.step (fun k => ?_) (ih (i + 1) (by omega) (st.2 ⟨hs, c, fun _ => c1⟩))
   simp only [q10_Sets.l0]
   rw [if_pos (by omega),if_pos (by omega),if_neg (by omega),if_neg (by omega),if_pos (by omega),w2,if_pos (by omega),if_pos (by omega),if_neg (by omega),w]
  rw [isS_not (i + 1) (fun h=>c1 ((st.1 h).2.2 c0))]
  refine Ev.step (f:=fun _=>some false) (fun k=>?_) (Ev.now _)
  simp only [q10_Sets.l0]
  rw [if_pos (by omega),if_pos (by omega),if_neg (by omega),if_neg (by omega),if_pos (by omega),w2,if_pos (by omega),if_pos (by omega),if_pos (by omega)]
theorem sets_ev (n : Int) (l : List Int) (hl : l.length≤1000) : Ev (fun k=>q10_Sets.f k n l) (decide (IsS n l)):=sets_loop hl l.length 0 (by omega) (isS_nil n)
theorem index_loop (l : List Int) (hl : l.length≤1000) (x : Int) : ∀ e i : Nat,i + e = l.length→x ∉ l.take i→Ev (fun k=>slices_Index_int_int.l0 k l x (l.length : Int) (i : Int)) (if x ∈ l then(l.idxOf x : Int) else -1):=by
 intro e
 induction e with
 | zero =>
  intro i h hs
  rw [List.take_of_length_le (by omega)] at hs
  rw [if_neg hs]
  refine Ev.step (f:=fun _=>some (-1)) (fun k=>?_) (Ev.now _)
  simp only [slices_Index_int_int.l0]
  rw [if_neg (by omega)]
 | succ e ih =>
  intro i h hs
  have w : wrap64 ((i : Int) + 1) =((i + 1 : Nat) : Int):=by rw [w64 (by omega) (by omega)];rfl
  have r : rd l (i : Int) = l[i]:=rd_lt l i (by omega)
  by_cases c : x = rd l (i : Int)
  rotate_left
  ·refine Ev.step (fun k=>?_) (ih (i + 1) (by omega) (fun h'=>by
    rw [List.take_succ_eq_append_getElem (show i < l.length by omega)] at h'
    rcases List.mem_append.1 h' with h' | h'
    ·exact hs h'
    ·exact c (by rw [r];simpa using h')))
   simp only [slices_Index_int_int.l0]
   rw [if_pos (by omega),if_pos (by omega),if_pos (by omega),if_neg c,w]
  have hm : x ∈ l:=by rw [c,r];exact List.getElem_mem _
  have hi : l.idxOf x = i:=by
   conv=>lhs;rw [← List.take_append_drop i l]
   rw [List.idxOf_append,if_neg hs,drop_cons l i (by omega),← c,List.idxOf_cons_self,List.length_take]
   omega
  rw [if_pos hm,hi]
  refine Ev.step (f:=fun _=>some (i : Int)) (fun k=>?_) (Ev.now _)
  simp only [slices_Index_int_int.l0]
  rw [if_pos (by omega),if_pos (by omega),if_pos (by omega),if_pos c]
theorem index_ev (l : List Int) (hl : l.length≤1000) (x : Int) : Ev (fun k=>slices_Index_int_int.f k l x) (if x ∈ l then(l.idxOf x : Int) else -1):=index_loop l hl x l.length 0 (by omega) (by simp)
theorem contains_ev (l : List Int) (hl : l.length≤1000) (x : Int) : Ev (fun k=>slices_Contains_int_int.f k l x) (decide (x ∈ l)):=by
 refine Ev.bind (f:=fun k (t : Int)=>some (decide (t ≥ 0))) (index_ev l hl x) ?_
 by_cases c : x ∈ l
 ·rw [if_pos c, decide_eq_true c, decide_eq_true (by omega)]
  exact Ev.now _
 rw [if_neg c,decide_eq_false c,decide_eq_false (by omega)]
 exact Ev.now _
theorem shl_ok {c : Int} (hc : 0≤c) {n : Nat} (hn : n≤60) (hb : c * 2 ^ n≤4611686018427387904) : shl .i64 c (n : Int) = c * 2 ^ n:=by
 have h0 : 0≤c * 2 ^ n:=Int.mul_nonneg hc (by have:=pow_pos2 n;omega)
 unfold shl
 rw [show min ((n : Int)).toNat IntKind.i64.bits = n by simp [IntKind.bits];omega]
 generalize c * 2 ^ n = z at *
 simp [IntKind.wrap,IntKind.signed,IntKind.bits]
 omega
theorem pow_le {n : Nat} (h : n≤41) :(1 : Int)≤2 ^ n ∧(2 : Int) ^ n≤2199023255552:=by
 refine⟨pow_pos2 n,?_⟩
 have :(2 : Nat) ^ n≤2 ^ 41:=Nat.pow_le_pow_right (by decide) h
 have e :((2 ^ n : Nat) : Int) =(2 : Int) ^ n:=by simp
 rw [← e]
 have :(2 ^ n : Nat)≤2199023255552:=by simpa using this
 omega
theorem shl1 {n : Nat} (h : n≤41) : shl .i64 1 (n : Int) = 2 ^ n:=by
 have:=pow_le h
 rw [shl_ok (by decide) (by omega) (by omega),Int.one_mul]
theorem shl2 {n : Nat} (h : n≤41) : shl .i64 2 (n : Int) = 2 * 2 ^ n:=by
 have:=pow_le h
 rw [shl_ok (by decide) (by omega) (by omega)]
theorem setAt_loop (l : List Int) (hl : l.length≤1000) (n : Nat) (hn : n≤40) : ∀ e m : Nat,m + e = n→Ev (fun k=>turns_SetAt.l0 k l (grayAt l m) (n : Int) (m : Int)) (grayAt l n,0):=by
 intro e
 induction e with
 | zero =>
  intro m h
  obtain rfl : m = n:=by omega
  refine Ev.step (f:=fun _=>some (grayAt l m,0)) (fun k=>?_) (Ev.now _)
  simp only [turns_SetAt.l0]
  rw [if_neg (by omega)]
 | succ e ih =>
  intro m h
  have w : wrap64 ((m : Int) + 1) =(m : Int) + 1:=w64 (by omega) (by omega)
  have hp:=pow_le (n:=m) (by omega)
  have hr:=grayAt_range l m
  have hih:=ih (m + 1) (by omega)
  refine Ev.step (f:=fun k=>(slices_Contains_int_int.f k l ((m : Int) + 1)).bind fun t434=>(if t434 = true then(if 0 ≤(m : Int) then(turns_SetAt.l0 k l (wrap64 ((wrap64 ((shl .i64 2 m) - 1)) - (grayAt l m))) n ((m : Int) + 1)) else(none)) else(turns_SetAt.l0 k l (grayAt l m) n ((m : Int) + 1)))) (fun k=>?_) ?_
  ·simp only [turns_SetAt.l0]
   rw [if_pos (by omega),w]
  refine Ev.bind (f:=fun k (t : Bool)=>_) (contains_ev l hl ((m : Int) + 1)) ?_
  by_cases c :(m : Int) + 1 ∈ l
  rotate_left
  ·rw [decide_eq_false c]
   have eg : grayAt l (m + 1) = grayAt l m:=by
    show(if(m : Int) + 1 ∈ l then _ else _) = _
    rw [if_neg c]
   rw [eg] at hih
   exact Ev.congr (fun k=>if_neg (by decide)) hih
  rw [decide_eq_true c]
  have eg : grayAt l (m + 1) = 2 * 2 ^ m - 1 - grayAt l m:=by
   show(if(m : Int) + 1 ∈ l then _ else _) = _
   rw [if_pos c]
  rw [eg] at hih
  refine Ev.congr (fun k=>?_) hih
  rw [if_pos rfl,if_pos (by omega),shl2 (by omega)]
  generalize (2 : Int) ^ m = P at *
  rw [w64 (x:=2 * P - 1) (by omega) (by omega),w64 (by omega) (by omega)]
  rfl
theorem setAt_ev (n : Int) (l : List Int) (hl : l.length≤1000) : Ev (fun k=>turns_SetAt.f k n l) (if(0≤n∧n≤40)∧IsS n l then(grayAt l n.toNat,0) else(0,2)):=by
 by_cases c : 0≤n∧n≤40
 rotate_left
 ·rw [if_neg (fun h => c h.1)]
  refine Ev.congr (f:=fun k=>turns_SetAt.j0 k n l true) (fun k=>?_) ?_
  ·unfold turns_SetAt.f
   rw [within_no c]
   rfl
  refine Ev.step (f:=fun _=>some (0,2)) (fun k=>?_) (Ev.now _)
  simp only [turns_SetAt.j0]
  rw [if_pos trivial]
 obtain ⟨m,rfl⟩ : ∃ m : Nat,n = m:=⟨n.toNat,by omega⟩
 refine Ev.congr (f:=fun k=>(turns_isSet.f k (m : Int) l).bind fun t433=>(turns_SetAt.j0 k (m : Int) l (!t433))) (fun k=>?_) ?_
 ·unfold turns_SetAt.f
  rw [within_yes c]
  rfl
 refine Ev.bind (f:=fun k (t : Bool)=>_) (isSet_ev m l hl) ?_
 by_cases c2 : IsS m l
 rotate_left
 ·rw [decide_eq_false c2, if_neg (fun h => c2 h.2)]
  refine Ev.step (f:=fun _=>some (0,2)) (fun k=>?_) (Ev.now _)
  simp only [turns_SetAt.j0]
  rw [if_pos (by decide)]
 rw [decide_eq_true c2,if_pos ⟨c,c2⟩]
 refine Ev.step (f:=fun k=>turns_SetAt.l0 k l 0 m 0) (fun k=>?_) ?_
 ·simp only [turns_SetAt.j0]
  rw [if_neg (by decide)]
 rw [show((m : Int)).toNat = m by omega]
 exact setAt_loop l hl m (by omega) m 0 (by omega)
theorem gray_len (n : Nat) (a : Int) :(gray n a).length≤n:=nodup_len n (gray n a) 0 ((gray_sorted n a).imp (fun h=>by omega)) (fun x hx=>by have:=gray_mem n _ x hx;omega)
end Go.Proofs.Ytbfhlaggllofdaa.P

namespace Go.Proofs.Ytbfhlaggllofdaa.P
open Go.RowKit Go.Proofs.Ytbfhlaggllofdaa.S Go.Proofs.Ytbfhlaggllofdaa.G Go.Proofs.YtbfhlaggllofdaaW.PrintWords Go.Proofs.YtbfhlaggllofdaaW.PrintLast Go.Proofs.YtbfhlaggllofdaaW.PrintMore
set_option linter.unusedVariables false
theorem w1s (i : Nat) (h : i≤1000) : wrap64 ((i : Int) + 1) =((i + 1 : Nat) : Int):=by rw [w64 (by omega) (by omega)];rfl
theorem w1i {m : Int} (h0 : 0≤m) (h : m≤1000) : wrap64 (m + 1) = m + 1:=w64 (by omega) (by omega)
theorem diffG_nn (m n : Int) : diffG [] [] m n =(m,n):=by rw [diffG]
theorem diffG_cn (x : Int) (a : List Int) (m n : Int) : diffG (x :: a) [] m n = diffG a [] (m + 1) n:=by rw [diffG]
theorem diffG_nc (y : Int) (b : List Int) (m n : Int) : diffG [] (y :: b) m n = diffG [] b m (n + 1):=by rw [diffG]
theorem diffG_cc (x : Int) (a : List Int) (y : Int) (b : List Int) (m n : Int) : diffG (x :: a) (y :: b) m n = if x < y then diffG a (y :: b) (m + 1) n else if y < x then diffG (x :: a) b m (n + 1) else diffG a b m n:=by rw [diffG]
theorem differ_loop {a b : List Int} (ha : a.length≤1000) (hb : b.length≤1000) : ∀ (d i j : Nat) (m n : Int),i≤a.length→j≤b.length →(a.length - i) + (b.length - j)≤d→0≤m→m≤i→0≤n→n≤j→Ev (fun k=>w10_differ.l0 k a b (i : Int) (j : Int) m n) (diffG (a.drop i) (b.drop j) m n):=by
 intro d
 induction d with
 | zero =>
  intro i j m n hi hj hd m0 m1 n0 n1
  rw [List.drop_eq_nil_of_le (by omega),List.drop_eq_nil_of_le (by omega)]
  refine Ev.step (f:=fun k=>w10_differ.j1 k a b (i : Int) (j : Int) m n false) (fun k=>?_) ?_
  ·simp only [w10_differ.l0]
   rw [if_neg (by omega),decide_eq_false (by omega)]
  refine Ev.step (f:=fun _=>some (m,n)) (fun k=>?_) (by rw [diffG_nn];exact Ev.now _)
  simp only [w10_differ.j1]
  rw [if_neg (by decide)]
 | succ d ih =>
  intro i j m n hi hj hd m0 m1 n0 n1
  have b1 : i≤1000:=by omega
  have b2 : j≤1000:=by omega
  have b3 : m≤1000:=by omega
  have b4 : n≤1000:=by omega
  by_cases ci : i < a.length
  rotate_left
  ·have en : a.drop i = [] := List.drop_eq_nil_of_le (by omega)
   by_cases cj : j < b.length
   rotate_left
   ·have eb : b.drop j = [] := List.drop_eq_nil_of_le (by omega)
    rw [en,eb]
    refine Ev.step (f:=fun k=>w10_differ.j1 k a b (i : Int) (j : Int) m n false) (fun k=>?_) ?_
    ·simp only [w10_differ.l0]
     rw [if_neg (by omega),decide_eq_false (by omega)]
    refine Ev.step (f:=fun _=>some (m,n)) (fun k=>?_) (by rw [diffG_nn];exact Ev.now _)
    simp only [w10_differ.j1]
    rw [if_neg (by decide)]
   have eb:=drop_cons b j cj
   have e : diffG (a.drop i) (b.drop j) m n = diffG (a.drop i) (b.drop (j + 1)) m (n + 1):=by
    rw [en,eb,diffG_nc]
   rw [e]
   refine Ev.step (f:=fun k=>w10_differ.j1 k a b (i : Int) (j : Int) m n true) (fun k=>?_) (Ev.step (f:=fun k=>w10_differ.j2 k a b (i : Int) (j : Int) m n false) (fun k=>?_) (Ev.step (fun k=>?_) (ih i (j + 1) m (n + 1) (by omega) (by omega) (by omega) m0 m1 (by omega) (by omega))))
   ·simp only [w10_differ.l0]
    rw [if_neg (by omega),decide_eq_true (by omega)]
   ·simp only [w10_differ.j1]
    rw [if_pos trivial,if_neg (by omega),if_neg (by omega)]
   simp only [w10_differ.j2]
   rw [if_neg (by decide),if_pos (by omega),w1s j b2,w1i n0 b4]
  have ea:=drop_cons a i ci
  have s0 : ∀ {r : Int×Int},Ev (fun k=>w10_differ.j1 k a b (i : Int) (j : Int) m n true) r→Ev (fun k=>w10_differ.l0 k a b (i : Int) (j : Int) m n) r:=fun h=>by
   refine Ev.step (fun k=>?_) h
   simp only [w10_differ.l0]
   rw [if_pos (by omega)]
  by_cases cj : j < b.length
  rotate_left
  ·have e : diffG (a.drop i) (b.drop j) m n = diffG (a.drop (i + 1)) (b.drop j) (m + 1) n:=by
    rw [ea,List.drop_eq_nil_of_le (show b.length≤j by omega),diffG_cn]
   rw [e]
   refine s0 (Ev.step (f:=fun k=>w10_differ.j2 k a b (i : Int) (j : Int) m n true) (fun k=>?_) (Ev.step (fun k=>?_) (ih (i + 1) j (m + 1) n (by omega) (by omega) (by omega) (by omega) (by omega) n0 n1)))
   ·simp only [w10_differ.j1]
    rw [if_pos trivial,if_pos (by omega)]
   simp only [w10_differ.j2]
   rw [if_pos trivial,w1s i b1,w1i m0 b3]
  have eb:=drop_cons b j cj
  by_cases c1 : rd a (i : Int) < rd b (j : Int)
  ·have e : diffG (a.drop i) (b.drop j) m n = diffG (a.drop (i + 1)) (b.drop j) (m + 1) n:=by
    rw [ea,eb,diffG_cc,if_pos c1]
   rw [e]
   refine s0 (Ev.step (f:=fun k=>w10_differ.j2 k a b (i : Int) (j : Int) m n true) (fun k=>?_) (Ev.step (fun k=>?_) (ih (i + 1) j (m + 1) n (by omega) (by omega) (by omega) (by omega) (by omega) n0 n1)))
   ·simp only [w10_differ.j1]
    rw [if_pos trivial,if_neg (by omega),if_pos (by omega),if_pos (by omega),if_pos (by omega),if_pos (by omega),decide_eq_true c1]
   simp only [w10_differ.j2]
   rw [if_pos trivial,w1s i b1,w1i m0 b3]
  have s1 : ∀ {r : Int×Int},Ev (fun k=>w10_differ.j2 k a b (i : Int) (j : Int) m n false) r→Ev (fun k=>w10_differ.j1 k a b (i : Int) (j : Int) m n true) r:=fun h=>by
   refine Ev.step (fun k=>?_) h
   simp only [w10_differ.j1]
   rw [if_pos trivial,if_neg (by omega),if_pos (by omega),if_pos (by omega),if_pos (by omega),if_pos (by omega),decide_eq_false c1]
  by_cases c2 : rd b (j : Int) < rd a (i : Int)
  rotate_left
  ·have e : diffG (a.drop i) (b.drop j) m n = diffG (a.drop (i + 1)) (b.drop (j + 1)) m n:=by
    rw [ea,eb,diffG_cc,if_neg c1,if_neg c2]
   rw [e]
   refine s0 (s1 (Ev.step (fun k=>?_) (ih (i + 1) (j + 1) m n (by omega) (by omega) (by omega) m0 (by omega) n0 (by omega))))
   simp only [w10_differ.j2]
   rw [if_neg (by decide),if_neg (by omega),if_pos (by omega),if_pos (by omega),if_pos (by omega),if_pos (by omega),if_neg c2,w1s i b1,w1s j b2]
  have e : diffG (a.drop i) (b.drop j) m n = diffG (a.drop i) (b.drop (j + 1)) m (n + 1):=by
   rw [ea,eb,diffG_cc,if_neg c1,if_pos c2]
  rw [e]
  refine s0 (s1 (Ev.step (fun k=>?_) (ih i (j + 1) m (n + 1) (by omega) (by omega) (by omega) m0 m1 (by omega) (by omega))))
  simp only [w10_differ.j2]
  rw [if_neg (by decide),if_neg (by omega),if_pos (by omega),if_pos (by omega),if_pos (by omega),if_pos (by omega),if_pos c2,w1s j b2,w1i n0 b4]
theorem differ_ev {a b : List Int} (ha : a.Pairwise (· < ·)) (hb : b.Pairwise (· < ·)) (la : a.length≤100) (lb : b.length≤100) : Ev (fun k=>w10_differ.f k a b) ((only a b : Int),(only b a : Int)):=by
 have h:=differ_loop (a:=a) (b:=b) (by omega) (by omega) (a.length + b.length) 0 0 0 0 (by omega) (by omega) (by omega) (by omega) (by omega) (by omega) (by omega)
 rw [List.drop_zero,List.drop_zero,diffG_eq a b 0 0 ha hb,Int.zero_add,Int.zero_add] at h
 exact h
end Go.Proofs.Ytbfhlaggllofdaa.P

namespace Go.Proofs.Ytbfhlaggllofdaa.P
open Go.RowKit Go.Proofs.Ytbfhlaggllofdaa.S Go.Proofs.Ytbfhlaggllofdaa.G Go.Proofs.Ytbfhlaggllofdaa.T Go.Proofs.YtbfhlaggllofdaaW.PrintWords Go.Proofs.YtbfhlaggllofdaaW.PrintLast Go.Proofs.YtbfhlaggllofdaaW.PrintMore
set_option linter.unusedVariables false
theorem gray_isS (n : Nat) (a : Int) : IsS (n : Int) (gray n a):=⟨fun x hx=>gray_mem n a x hx,gray_sorted n a⟩
theorem setAt_gray {n : Nat} {a : Int} (hn : n≤40) (h0 : 0≤a) (h1 : a < 2 ^ n) : Ev (fun k=>turns_SetAt.f k (n : Int) (gray n a)) (a,0):=by
 have h:=setAt_ev (n : Int) (gray n a) (by have:=gray_len n a;omega)
 rw [if_pos ⟨⟨by omega,by omega⟩,gray_isS n a⟩,show((n : Int)).toNat = n by omega,grayAt_gray n a h0 h1] at h
 exact h
theorem setSteps_j0 {x y : List Int} (hx : x.Pairwise (· < ·)) (hy : y.Pairwise (· < ·)) (lx : x.length≤100) (ly : y.length≤100) (h : only x y + only y x = 1) : Ev (fun k=>w10_TurnsSetSteps.j0 k x y (!true)) true:=by
 refine Ev.step (f:=fun k=>(w10_differ.f k x y).bind fun bt480=>(if(wrap64 (bt480.1 + bt480.2)) = 1 then((w10_awake.f k).bind fun t482=>(some t482)) else(some false))) (fun k=>?_) ?_
 ·simp only [w10_TurnsSetSteps.j0]
  rw [if_neg (by decide)]
 refine Ev.bind (f:=fun k (t : Int×Int)=>_) (differ_ev hx hy lx ly) ?_
 refine Ev.congr (fun k=>if_pos ?_) awake_some
 rw [w64 (by omega) (by omega)]
 omega
theorem turnsSetSteps_law (n a : Int) : ∃ k,w10_TurnsSetSteps.f k n a = some true:=by
 refine Ev.rounds ?_
 obtain ⟨q,hq,q0,q1⟩:=mod_ok n (b:=40) (by omega) (by omega)
 have w1 : wrap64 (1 + q) =((q.toNat + 1 : Nat) : Int):=by rw [w64 (by omega) (by omega)];omega
 obtain ⟨m,hm⟩ : ∃ m,q.toNat = m:=⟨_,rfl⟩
 rw [hm] at w1
 have hp:=pow_le (n:=m + 1) (by omega)
 have hs:=shl1 (n:=m + 1) (by omega)
 obtain ⟨P,hP⟩ : ∃ P,(2 : Int) ^ (m + 1) = P:=⟨_,rfl⟩
 rw [hP] at hp hs
 obtain ⟨at',ha,a0,a1⟩:=mod_ok a (b:=P) (by omega) (by omega)
 have w2 : wrap64 (at' + 1) = at' + 1:=w64 (by omega) (by omega)
 obtain ⟨b,hb⟩ : ∃ b,Int.tmod (at' + 1) P = b:=⟨_,rfl⟩
 have hb2 : b = if at' + 1 < P then at' + 1 else 0:=by
  rw [← hb,Int.tmod_eq_emod_of_nonneg (by omega)]
  split
  ·exact Int.emod_eq_of_lt (by omega) (by omega)
  ·rw [show at' + 1 = P by omega,Int.emod_self]
 have hb0 : 0≤b∧b < P:=by rw [hb2];split <;> omega
 have S1 : turns_Set.f ((m + 1 : Nat) : Int) at' = some (gray (m + 1) at',0):=by
  unfold turns_Set.f
  rw [show(((m + 1 : Nat) : Int)).toNat = m + 1 by omega,hP,if_pos ⟨by omega,by omega,by omega,by omega⟩]
 have S2 : turns_Set.f ((m + 1 : Nat) : Int) b = some (gray (m + 1) b,0):=by
  unfold turns_Set.f
  rw [show(((m + 1 : Nat) : Int)).toNat = m + 1 by omega,hP,if_pos ⟨by omega,by omega,by omega,by omega⟩]
 have l1:=gray_len (m + 1) at'
 have l2:=gray_len (m + 1) b
 have ev1:=sets_ev ((m + 1 : Nat) : Int) (gray (m + 1) at') (by omega)
 have ev2:=sets_ev ((m + 1 : Nat) : Int) (gray (m + 1) b) (by omega)
 rw [decide_eq_true (gray_isS _ _)] at ev1 ev2
 have hd : only (gray (m + 1) at') (gray (m + 1) b) + only (gray (m + 1) b) (gray (m + 1) at') = 1:=by
  by_cases c : at' + 1 < P
  ·rw [hb2, if_pos c]
   exact gray_adj (m + 1) at' a0 (by rw [hP];exact c)
  ·rw [hb2, if_neg c, gray_zero, show at' = 2 ^ (m + 1) - 1 by omega, gray_last]
   rw [only_nil,only_cons,only_nil]
   simp
 have hj:=setSteps_j0 (gray_sorted (m + 1) at') (gray_sorted (m + 1) b) (by omega) (by omega) hd
 unfold w10_TurnsSetSteps.f
 rw [hq]
 simp only [Option.bind_some]
 rw [w1]
 refine Ev.congr (fun k=>if_pos (by omega)) ?_
 rw [hs,ha]
 simp only [Option.bind_some]
 rw [S1,w2,hb]
 simp only [Option.bind_some]
 rw [S2]
 refine Ev.congr (fun k=>if_neg (by omega)) ?_
 simp only [Option.bind_some]
 refine Ev.bind (f:=fun k (t : Int×Int)=>_) (setAt_gray (by omega) a0 (by rw [hP];exact a1)) ?_
 refine Ev.congr (fun k=>if_pos rfl) ?_
 refine Ev.bind (f:=fun k (t : Bool)=>_) ev1 ?_
 refine Ev.congr (fun k=>if_pos rfl) ?_
 exact Ev.bind (f:=fun k (t : Bool)=>_) ev2 hj
end Go.Proofs.Ytbfhlaggllofdaa.P

namespace Go.Proofs.Ytbfhlaggllofdaa.Pure
open Go.RowKit Go.Proofs.Ytbfhlaggllofdaa.S Go.Proofs.YtbfhlaggllofdaaW.PrintWords Go.Proofs.YtbfhlaggllofdaaW.PrintLast
theorem TurnsSetSteps : w10_TurnsSetSteps.Pure:=fun a0 a1 _ _=>P.turnsSetSteps_law a0 a1
end Go.Proofs.Ytbfhlaggllofdaa.Pure
