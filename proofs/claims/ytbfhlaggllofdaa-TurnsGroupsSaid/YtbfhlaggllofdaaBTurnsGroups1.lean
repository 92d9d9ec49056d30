-- Written by wip/bundle2.py: texts of this claim, one behind the other.
import Derived.Test.YtbfhlaggllofdaaBTurnsGroups0
set_option linter.unusedVariables false
set_option linter.unusedSimpArgs false

namespace Go.Proofs.Ytbfhlaggllofdaa.S
open Go.Proofs.Ytbfhlaggllofdaa.Lib
open Go.Maps (Keyed)
open Go.RowKit Go.Proofs.YtbfhlaggllofdaaW.PrintWords Go.Proofs.YtbfhlaggllofdaaW.PrintLast Go.Proofs.YtbfhlaggllofdaaW.PrintMore
attribute [local go_sem] max2_int min2_int max_two min_two max_three min_three max_four min_four
set_option linter.unusedVariables false
set_option linter.unusedSimpArgs false

open Go.Proofs.Ytbfhlaggllofdaa.G Go.Proofs.Ytbfhlaggllofdaa.T Go.Proofs.Ytbfhlaggllofdaa.P
def turns_order.f (a0 a1 : Int) : Option (List Int):=if 0≤a0∧a0≤18∧0≤a1∧a1 < fact a0.toNat then some (sjt a0.toNat a1) else none
set_option maxHeartbeats 2000000 in
set_option maxRecDepth 100000 in
theorem turns_order.calls (a0 a1 : Int) (r : List Int) (w : World) (h : turns_order.f a0 a1 = some r) :
  Calls Try.prog 65 #[.int .i64 a0,.int .i64 a1] w fun e w'=>∃ v0_ : Value,e = .returned v0_∧Kd.R (Kd.int .i64) 3 w' w.heap.size (fun _=>True) v0_ r∧Below w.heap.size w w':=by
 unfold turns_order.f at h
 by_cases c0 : 0≤a0∧a0≤18∧0≤a1∧a1 < fact a0.toNat
 rotate_left
 ·rw [if_neg c0] at h
  cases h
 rw [if_pos c0] at h
 injection h with h
 obtain ⟨n,rfl⟩ : ∃ n : Nat,a0 = n:=⟨a0.toNat,by omega⟩
 rw [show((n : Int)).toNat = n by omega] at c0 h
 have HN:=Aside0.mk (show n≤18 by omega)
 have HA:=Aside0.mk c0.2.2
 have HR:=Aside0.mk h
 have n0:=eq_true (show(0 : Int) ≤(n : Int) by omega)
 have n1:=eq_true (show(n : Int) < 19 by omega)
 clear c0 h
 have hi76 :(Try.prog.info? 76).map (·.size) = some (facA 19).size:=by rw [facA_end];kernel_rfl
 go_enter Try.func65,Try.ntmps65
 go_upto_region 2 with (fail)
 refine wp_region_lit ?_
 refine goesL_ (some 11) rfl rfl Try.func64 (by kernel_rfl) rfl #[] rfl (by simp) ?_
 refine(fac_new _).mono ?_
 rintro e w1 ⟨rfl,hb⟩
 refine⟨_,rfl,?_⟩
 have HB1:=Aside0.mk hb
 clear hb
 refine wpList_plain rfl (fun K hK=>?_)
 go_simp
 refine hK _ _ ?_
 clear hK
 refine wpList_store_row rfl 76 (.tmp 6) (.tmp 11) rfl w1.heap.size (facA 19) rfl rfl 76 #[.int .i64 0,.int .i64 0,.int .i64 0,.int .i64 0,.int .i64 0,.int .i64 0,.int .i64 0,.int .i64 0,.int .i64 0,.int .i64 0,.int .i64 0,.int .i64 0,.int .i64 0,.int .i64 0,.int .i64 0,.int .i64 0,.int .i64 0,.int .i64 0,.int .i64 0] (heap_alloc_new _ _) hi76 rfl (by rw [facA_end];kernel_rfl) ?_
 obtain ⟨W0,hW0⟩ : ∃ W0,(w1.alloc (.cells #[.int .i64 0,.int .i64 0,.int .i64 0,.int .i64 0,.int .i64 0,.int .i64 0,.int .i64 0,.int .i64 0,.int .i64 0,.int .i64 0,.int .i64 0,.int .i64 0,.int .i64 0,.int .i64 0,.int .i64 0,.int .i64 0,.int .i64 0,.int .i64 0,.int .i64 0] 76)).setRow w1.heap.size (facA 19) = W0:=⟨_,rfl⟩
 have HF:=Aside0.mk (show W0.heap[w1.heap.size]? = some (.cells (facA 19) 76 (0,0)) by rw [← hW0];exact setRow_heap _ _ _ _ _ _ (heap_alloc_new _ _))
 have HB0:=Aside0.mk (show Below w.heap.size w W0 by rw [← hW0];exact below_setRow (bwA HB1.out _) HB1.out.size _)
 have HSZ:=Aside0.mk (show w1.heap.size + 1≤W0.heap.size by have:=(Array.getElem?_eq_some_iff.1 HF.out).1;omega)
 rw [hW0]
 clear hW0 hi76
 refine wpList_nil ?_
 obtain ⟨B,hB⟩ : ∃ B,w1.heap.size = B:=⟨_,rfl⟩
 rw [hB] at HF HSZ ⊢
 have HBW:=Aside0.mk (show w.heap.size≤B by rw [← hB];exact HB1.out.size)
 clear hB HB1
 obtain ⟨N0,hN0⟩ : ∃ N0,B + 1 = N0:=⟨_,rfl⟩
 have HNS:=Aside0.mk (show N0≤W0.heap.size by rw [← hN0];exact HSZ.out)
 have HNB0:=Aside0.mk (show B < N0 by omega)
 clear hN0
 go_wp2
 go_loopw [5,13] (fun v5 v13 wr=>∃ (i : Nat) (t : Int),v13 = .int .i64 (i : Int)∧Aside0 (i≤n)∧Aside0 (a1 / (fact n / fact i) = t)∧Aside0 (wr.ownsRow N0 3 1 v5 i ((sjt i t).map (Value.int .i64)))∧Aside0 (Below N0 W0 wr)) (fun v5 v13 _=>n - (intOf v13).toNat)
 case atStart=>exact⟨0,_,rfl,⟨Nat.zero_le _⟩,⟨rfl⟩,⟨World.ownsRow_nil _ _ _ _⟩,⟨Below.refl _ _⟩⟩
 obtain ⟨i,t0,rfl,HI,HT,HO,HB⟩:=hrel
 by_cases c : i < n
 rotate_left
 ·obtain rfl : i = n := by have := HI.out; omega
  have cb : decide ((i : Int) < (i : Int)) = false:=decide_eq_false (by omega)
  have cb1 : decide (i < i) = false:=decide_eq_false (by omega)
  have hp:=fact_pos i
  have ht : t0 = a1:=by rw [← HT.out,Int.ediv_self (by omega),Int.ediv_one]
  have hr : sjt i t0 = r:=by rw [ht];exact HR.out
  subst hr
  have HO' : Aside0 (wr.ownsRow N0 3 1 u5 (sjt i t0).length ((sjt i t0).map (Value.int .i64))):=⟨by rw [sjt_len];exact HO.out⟩
  clear c hp ht HR HT HO
  go_wp2
  go_ret
  exact⟨_,rfl,Kd.R_lower (Kd.R_of_own HO'.out (fun k e=>trivial)) (Nat.le_trans HBW.out (Nat.le_of_lt HNB0.out)),HB0.out.trans (HB.out.mono (Nat.le_trans HBW.out (Nat.le_of_lt HNB0.out)))⟩
 have hn:=HN.out
 have cb : decide ((i : Int) < (n : Int)) = true:=decide_eq_true (by omega)
 have cb1 : decide (i < n) = true:=decide_eq_true c
 have i0:=eq_true (show(0 : Int) ≤(i : Int) + 1 by omega)
 have i1:=eq_true (show(i : Int) + 1 < 19 by omega)
 have i2 :((i : Int) + 1 == 0) = false:=beq_eq_false_iff_ne.2 (by omega)
 have i3:=eq_false (show ¬ ((i : Int) + 1 = 0) by omega)
 have wi : wrap64 ((i : Int) + 1) =(i : Int) + 1:=w64 (by omega) (by omega)
 have HMS:=Aside0.mk (show n - (intOf (.int .i64 ((i : Int) + 1))).toNat < n - (intOf (.int .i64 (i : Int))).toNat by show n - ((i : Int) + 1).toNat < n - ((i : Int)).toNat;omega)
 have HN18:=Aside0.mk (show i≤100 by omega)
 have HI1:=Aside0.mk (show i + 1≤n by omega)
 obtain ⟨F,M,D,q,t,p,u,eF,eM,eq,et,⟨f0,f1,f2,f3⟩,⟨g0,g1,g2,g3⟩,⟨k1,k2,k3⟩,hu,hpar,wu,hs⟩:=order_step HN.out c HA.out.1 HA.out.2
 obtain rfl : t = t0:=et.symm.trans HT.out
 have HU:=Aside0.mk hu
 have HS:=Aside0.mk hs
 have HQ:=Aside0.mk eq
 have lf : wr.cell? ⟨B,n,none⟩ = some (.int .i64 F):=by
  rw [HB.out.cell (p:=⟨B,n,none⟩) HNB0.out]
  exact(bkC HF.out n).trans ((facA_get (by omega)).trans (by rw [eF]))
 have lm : wr.cell? ⟨B,i + 1,none⟩ = some (.int .i64 M):=by
  rw [HB.out.cell (p:=⟨B,i + 1,none⟩) HNB0.out]
  exact(bkC HF.out (i + 1)).trans ((facA_get (by omega)).trans (by rw [eM]))
 clear hn hu hs eq et HT eF eM c HI
 rcases hpar with ⟨z1,z2⟩ |⟨z1,z2⟩
 ·have wz : wrap64 ((i : Int) - p) = (u : Int) := by rw [z2]; exact wu
  clear z2
  go_wp2
  refine start_ (n:=10) (S:=fun W'=>W'.cell? ⟨B,n,none⟩ = some (.int .i64 F)∧W'.cell? ⟨B,i + 1,none⟩ = some (.int .i64 M)) (ds:=[]) #[false,false,false,false,false,false,false,false,false,false] (by kernel_rfl) rfl rfl ⟨lf,lm⟩ (fun hHeld=>?_)
  first
  |(refine px_ (i:=0) (N:=some 18) (v:=?_) (a':=?_) #[true,false,false,false,false,false,false,false,false,false] rfl rfl (by kernel_rfl) (fun _ _ _ h=>h) ?_ ?_ ?_;rotate_left 2;(focus refine Or.inl ⟨by rfl,?_⟩;intro w';go_simp;with_reducible rfl);(focus simp only [List.getElem_toArray,List.getElem_cons_succ,List.getElem_cons_zero,Act.put,List.setIfInBounds_toArray,List.set_cons_zero,List.set_cons_succ,i64_w,i32_w];rfl))
  |(refine tx_ (i:=0) (N:=some 18) (v:=?_) (a':=?_) #[true,false,false,false,false,false,false,false,false,false] rfl rfl (by kernel_rfl) (fun _ _ _ h=>h) ?_ hHeld ?_ ?_;rotate_left 2;(focus refine Or.inl ⟨by rfl,?_⟩;rintro w' ⟨s0,s1⟩;go_simp;with_reducible rfl);(focus simp only [List.getElem_toArray,List.getElem_cons_succ,List.getElem_cons_zero,Act.put,List.setIfInBounds_toArray,List.set_cons_zero,List.set_cons_succ,i64_w,i32_w];rfl))
  first
  |(refine px_ (i:=1) (N:=some 19) (v:=?_) (a':=?_) #[true,true,false,false,false,false,false,false,false,false] rfl rfl (by kernel_rfl) (fun _ _ _ h=>h) ?_ ?_ ?_;rotate_left 2;(focus refine Or.inl ⟨by rfl,?_⟩;intro w';go_simp;with_reducible rfl);(focus simp only [List.getElem_toArray,List.getElem_cons_succ,List.getElem_cons_zero,Act.put,List.setIfInBounds_toArray,List.set_cons_zero,List.set_cons_succ,i64_w,i32_w];rfl))
  |(refine tx_ (i:=1) (N:=some 19) (v:=?_) (a':=?_) #[true,true,false,false,false,false,false,false,false,false] rfl rfl (by kernel_rfl) (fun _ _ _ h=>h) ?_ hHeld ?_ ?_;rotate_left 2;(focus refine Or.inl ⟨by rfl,?_⟩;rintro w' ⟨s0,s1⟩;go_simp;with_reducible rfl);(focus simp only [List.getElem_toArray,List.getElem_cons_succ,List.getElem_cons_zero,Act.put,List.setIfInBounds_toArray,List.set_cons_zero,List.set_cons_succ,i64_w,i32_w];rfl))
  first
  |(refine px_ (i:=2) (N:=some 20) (v:=?_) (a':=?_) #[true,true,true,false,false,false,false,false,false,false] rfl rfl (by kernel_rfl) (fun _ _ _ h=>h) ?_ ?_ ?_;rotate_left 2;(focus refine Or.inl ⟨by rfl,?_⟩;intro w';go_simp;with_reducible rfl);(focus simp only [List.getElem_toArray,List.getElem_cons_succ,List.getElem_cons_zero,Act.put,List.setIfInBounds_toArray,List.set_cons_zero,List.set_cons_succ,i64_w,i32_w];rfl))
  |(refine tx_ (i:=2) (N:=some 20) (v:=?_) (a':=?_) #[true,true,true,false,false,false,false,false,false,false] rfl rfl (by kernel_rfl) (fun _ _ _ h=>h) ?_ hHeld ?_ ?_;rotate_left 2;(focus refine Or.inl ⟨by rfl,?_⟩;rintro w' ⟨s0,s1⟩;go_simp;with_reducible rfl);(focus simp only [List.getElem_toArray,List.getElem_cons_succ,List.getElem_cons_zero,Act.put,List.setIfInBounds_toArray,List.set_cons_zero,List.set_cons_succ,i64_w,i32_w];rfl))
  first
  |(refine px_ (i:=3) (N:=some 21) (v:=?_) (a':=?_) #[true,true,true,true,false,false,false,false,false,false] rfl rfl (by kernel_rfl) (fun _ _ _ h=>h) ?_ ?_ ?_;rotate_left 2;(focus refine Or.inl ⟨by rfl,?_⟩;intro w';go_simp;with_reducible rfl);(focus simp only [List.getElem_toArray,List.getElem_cons_succ,List.getElem_cons_zero,Act.put,List.setIfInBounds_toArray,List.set_cons_zero,List.set_cons_succ,i64_w,i32_w];rfl))
  |(refine tx_ (i:=3) (N:=some 21) (v:=?_) (a':=?_) #[true,true,true,true,false,false,false,false,false,false] rfl rfl (by kernel_rfl) (fun _ _ _ h=>h) ?_ hHeld ?_ ?_;rotate_left 2;(focus refine Or.inl ⟨by rfl,?_⟩;rintro w' ⟨s0,s1⟩;go_simp;with_reducible rfl);(focus simp only [List.getElem_toArray,List.getElem_cons_succ,List.getElem_cons_zero,Act.put,List.setIfInBounds_toArray,List.set_cons_zero,List.set_cons_succ,i64_w,i32_w];rfl))
  first
  |(refine px_ (i:=4) (N:=some 22) (v:=?_) (a':=?_) #[true,true,true,true,true,false,false,false,false,false] rfl rfl (by kernel_rfl) (fun _ _ _ h=>h) ?_ ?_ ?_;rotate_left 2;(focus refine Or.inl ⟨by rfl,?_⟩;intro w';go_simp;with_reducible rfl);(focus simp only [List.getElem_toArray,List.getElem_cons_succ,List.getElem_cons_zero,Act.put,List.setIfInBounds_toArray,List.set_cons_zero,List.set_cons_succ,i64_w,i32_w];rfl))
  |(refine tx_ (i:=4) (N:=some 22) (v:=?_) (a':=?_) #[true,true,true,true,true,false,false,false,false,false] rfl rfl (by kernel_rfl) (fun _ _ _ h=>h) ?_ hHeld ?_ ?_;rotate_left 2;(focus refine Or.inl ⟨by rfl,?_⟩;rintro w' ⟨s0,s1⟩;go_simp;with_reducible rfl);(focus simp only [List.getElem_toArray,List.getElem_cons_succ,List.getElem_cons_zero,Act.put,List.setIfInBounds_toArray,List.set_cons_zero,List.set_cons_succ,i64_w,i32_w];rfl))
  first
  |(refine px_ (i:=5) (N:=some 23) (v:=?_) (a':=?_) #[true,true,true,true,true,true,false,false,false,false] rfl rfl (by kernel_rfl) (fun _ _ _ h=>h) ?_ ?_ ?_;rotate_left 2;(focus refine Or.inl ⟨by rfl,?_⟩;intro w';go_simp;with_reducible rfl);(focus simp only [List.getElem_toArray,List.getElem_cons_succ,List.getElem_cons_zero,Act.put,List.setIfInBounds_toArray,List.set_cons_zero,List.set_cons_succ,i64_w,i32_w];rfl))
  |(refine tx_ (i:=5) (N:=some 23) (v:=?_) (a':=?_) #[true,true,true,true,true,true,false,false,false,false] rfl rfl (by kernel_rfl) (fun _ _ _ h=>h) ?_ hHeld ?_ ?_;rotate_left 2;(focus refine Or.inl ⟨by rfl,?_⟩;rintro w' ⟨s0,s1⟩;go_simp;with_reducible rfl);(focus simp only [List.getElem_toArray,List.getElem_cons_succ,List.getElem_cons_zero,Act.put,List.setIfInBounds_toArray,List.set_cons_zero,List.set_cons_succ,i64_w,i32_w];rfl))
  first
  |(refine px_ (i:=6) (N:=some 24) (v:=?_) (a':=?_) #[true,true,true,true,true,true,true,false,false,false] rfl rfl (by kernel_rfl) (fun _ _ _ h=>h) ?_ ?_ ?_;rotate_left 2;(focus refine Or.inl ⟨by rfl,?_⟩;intro w';go_simp;with_reducible rfl);(focus simp only [List.getElem_toArray,List.getElem_cons_succ,List.getElem_cons_zero,Act.put,List.setIfInBounds_toArray,List.set_cons_zero,List.set_cons_succ,i64_w,i32_w];rfl))
  |(refine tx_ (i:=6) (N:=some 24) (v:=?_) (a':=?_) #[true,true,true,true,true,true,true,false,false,false] rfl rfl (by kernel_rfl) (fun _ _ _ h=>h) ?_ hHeld ?_ ?_;rotate_left 2;(focus refine Or.inl ⟨by rfl,?_⟩;rintro w' ⟨s0,s1⟩;go_simp;with_reducible rfl);(focus simp only [List.getElem_toArray,List.getElem_cons_succ,List.getElem_cons_zero,Act.put,List.setIfInBounds_toArray,List.set_cons_zero,List.set_cons_succ,i64_w,i32_w];rfl))
  first
  |(refine px_ (i:=7) (N:=some 25) (v:=?_) (a':=?_) #[true,true,true,true,true,true,true,true,false,false] rfl rfl (by kernel_rfl) (fun _ _ _ h=>h) ?_ ?_ ?_;rotate_left 2;(focus refine Or.inl ⟨by rfl,?_⟩;intro w';go_simp;with_reducible rfl);(focus simp only [List.getElem_toArray,List.getElem_cons_succ,List.getElem_cons_zero,Act.put,List.setIfInBounds_toArray,List.set_cons_zero,List.set_cons_succ,i64_w,i32_w];rfl))
  |(refine tx_ (i:=7) (N:=some 25) (v:=?_) (a':=?_) #[true,true,true,true,true,true,true,true,false,false] rfl rfl (by kernel_rfl) (fun _ _ _ h=>h) ?_ hHeld ?_ ?_;rotate_left 2;(focus refine Or.inl ⟨by rfl,?_⟩;rintro w' ⟨s0,s1⟩;go_simp;with_reducible rfl);(focus simp only [List.getElem_toArray,List.getElem_cons_succ,List.getElem_cons_zero,Act.put,List.setIfInBounds_toArray,List.set_cons_zero,List.set_cons_succ,i64_w,i32_w];rfl))
  first
  |(refine px_ (i:=8) (N:=some 26) (v:=?_) (a':=?_) #[true,true,true,true,true,true,true,true,true,false] rfl rfl (by kernel_rfl) (fun _ _ _ h=>h) ?_ ?_ ?_;rotate_left 2;(focus refine Or.inl ⟨by rfl,?_⟩;intro w';go_simp;with_reducible rfl);(focus simp only [List.getElem_toArray,List.getElem_cons_succ,List.getElem_cons_zero,Act.put,List.setIfInBounds_toArray,List.set_cons_zero,List.set_cons_succ,i64_w,i32_w];rfl))
  |(refine tx_ (i:=8) (N:=some 26) (v:=?_) (a':=?_) #[true,true,true,true,true,true,true,true,true,false] rfl rfl (by kernel_rfl) (fun _ _ _ h=>h) ?_ hHeld ?_ ?_;rotate_left 2;(focus refine Or.inl ⟨by rfl,?_⟩;rintro w' ⟨s0,s1⟩;go_simp;with_reducible rfl);(focus simp only [List.getElem_toArray,List.getElem_cons_succ,List.getElem_cons_zero,Act.put,List.setIfInBounds_toArray,List.set_cons_zero,List.set_cons_succ,i64_w,i32_w];rfl))
  first
  |(refine px_ (i:=9) (N:=some 9) (v:=?_) (a':=?_) #[true,true,true,true,true,true,true,true,true,true] rfl rfl (by kernel_rfl) (fun _ _ _ h=>h) ?_ ?_ ?_;rotate_left 2;(focus refine Or.inl ⟨by rfl,?_⟩;intro w';go_simp;with_reducible rfl);(focus simp only [List.getElem_toArray,List.getElem_cons_succ,List.getElem_cons_zero,Act.put,List.setIfInBounds_toArray,List.set_cons_zero,List.set_cons_succ,i64_w,i32_w];rfl))
  |(refine tx_ (i:=9) (N:=some 9) (v:=?_) (a':=?_) #[true,true,true,true,true,true,true,true,true,true] rfl rfl (by kernel_rfl) (fun _ _ _ h=>h) ?_ hHeld ?_ ?_;rotate_left 2;(focus refine Or.inl ⟨by rfl,?_⟩;rintro w' ⟨s0,s1⟩;go_simp;with_reducible rfl);(focus simp only [List.getElem_toArray,List.getElem_cons_succ,List.getElem_cons_zero,Act.put,List.setIfInBounds_toArray,List.set_cons_zero,List.set_cons_succ,i64_w,i32_w];rfl))
  refine done_ (by kernel_rfl) ?_
  clear hHeld lf lm
  obtain ⟨WR,hWR⟩ : ∃ W,W = wr.drew:=⟨_,rfl⟩
  have HNB : Aside0 (N0≤WR.heap.size):=⟨by rw [hWR];exact Nat.le_trans HNS.out HB.out.size⟩
  have HBR : Aside0 (Below N0 W0 WR):=⟨by rw [hWR];exact HB.out.drew⟩
  replace HO : Aside0 (WR.ownsRow N0 3 1 u5 i ((sjt i t).map (Value.int .i64))):=⟨by rw [hWR];exact HO.out⟩
  rw [← hWR]
  clear hWR HB
  go_wp2_with (go_at_call 73;go_must (refine(insert_own (W:=WR) HO.out HNB.out HN18.out HU.out ((i : Int) + 1)).mono ?_;rintro e wx ⟨v',rfl,ho,hb⟩;have HO1:=Aside0.mk ho;have HB2:=Aside0.mk hb;clear ho hb))
  go_roundw
  case rel=>exact⟨i + 1,q,by simp [wi],HI1,HQ,⟨by rw [HS.out];exact HO1.out⟩,⟨HBR.out.trans HB2.out⟩⟩
  case measure=>(first | exact HMS.out |(rw [wi];exact HMS.out) |(simp only [wi];exact HMS.out))
     
 subst z2
 go_wp2
 refine start_ (n:=10) (S:=fun W'=>W'.cell? ⟨B,n,none⟩ = some (.int .i64 F)∧W'.cell? ⟨B,i + 1,none⟩ = some (.int .i64 M)) (ds:=[]) #[false,false,false,false,false,false,false,false,false,false] (by kernel_rfl) rfl rfl ⟨lf,lm⟩ (fun hHeld=>?_)
 first
 |(refine px_ (i:=0) (N:=some 18) (v:=?_) (a':=?_) #[true,false,false,false,false,false,false,false,false,false] rfl rfl (by kernel_rfl) (fun _ _ _ h=>h) ?_ ?_ ?_;rotate_left 2;(focus refine Or.inl ⟨by rfl,?_⟩;intro w';go_simp;with_reducible rfl);(focus simp only [List.getElem_toArray,List.getElem_cons_succ,List.getElem_cons_zero,Act.put,List.setIfInBounds_toArray,List.set_cons_zero,List.set_cons_succ,i64_w,i32_w];rfl))
 |(refine tx_ (i:=0) (N:=some 18) (v:=?_) (a':=?_) #[true,false,false,false,false,false,false,false,false,false] rfl rfl (by kernel_rfl) (fun _ _ _ h=>h) ?_ hHeld ?_ ?_;rotate_left 2;(focus refine Or.inl ⟨by rfl,?_⟩;rintro w' ⟨s0,s1⟩;go_simp;with_reducible rfl);(focus simp only [List.getElem_toArray,List.getElem_cons_succ,List.getElem_cons_zero,Act.put,List.setIfInBounds_toArray,List.set_cons_zero,List.set_cons_succ,i64_w,i32_w];rfl))
 first
 |(refine px_ (i:=1) (N:=some 19) (v:=?_) (a':=?_) #[true,true,false,false,false,false,false,false,false,false] rfl rfl (by kernel_rfl) (fun _ _ _ h=>h) ?_ ?_ ?_;rotate_left 2;(focus refine Or.inl ⟨by rfl,?_⟩;intro w';go_simp;with_reducible rfl);(focus simp only [List.getElem_toArray,List.getElem_cons_succ,List.getElem_cons_zero,Act.put,List.setIfInBounds_toArray,List.set_cons_zero,List.set_cons_succ,i64_w,i32_w];rfl))
 |(refine tx_ (i:=1) (N:=some 19) (v:=?_) (a':=?_) #[true,true,false,false,false,false,false,false,false,false] rfl rfl (by kernel_rfl) (fun _ _ _ h=>h) ?_ hHeld ?_ ?_;rotate_left 2;(focus refine Or.inl ⟨by rfl,?_⟩;rintro w' ⟨s0,s1⟩;go_simp;with_reducible rfl);(focus simp only [List.getElem_toArray,List.getElem_cons_succ,List.getElem_cons_zero,Act.put,List.setIfInBounds_toArray,List.set_cons_zero,List.set_cons_succ,i64_w,i32_w];rfl))
 first
 |(refine px_ (i:=2) (N:=some 20) (v:=?_) (a':=?_) #[true,true,true,false,false,false,false,false,false,false] rfl rfl (by kernel_rfl) (fun _ _ _ h=>h) ?_ ?_ ?_;rotate_left 2;(focus refine Or.inl ⟨by rfl,?_⟩;intro w';go_simp;with_reducible rfl);(focus simp only [List.getElem_toArray,List.getElem_cons_succ,List.getElem_cons_zero,Act.put,List.setIfInBounds_toArray,List.set_cons_zero,List.set_cons_succ,i64_w,i32_w];rfl))
 |(refine tx_ (i:=2) (N:=some 20) (v:=?_) (a':=?_) #[true,true,true,false,false,false,false,false,false,false] rfl rfl (by kernel_rfl) (fun _ _ _ h=>h) ?_ hHeld ?_ ?_;rotate_left 2;(focus refine Or.inl ⟨by rfl,?_⟩;rintro w' ⟨s0,s1⟩;go_simp;with_reducible rfl);(focus simp only [List.getElem_toArray,List.getElem_cons_succ,List.getElem_cons_zero,Act.put,List.setIfInBounds_toArray,List.set_cons_zero,List.set_cons_succ,i64_w,i32_w];rfl))
 first
 |(refine px_ (i:=3) (N:=some 21) (v:=?_) (a':=?_) #[true,true,true,true,false,false,false,false,false,false] rfl rfl (by kernel_rfl) (fun _ _ _ h=>h) ?_ ?_ ?_;rotate_left 2;(focus refine Or.inl ⟨by rfl,?_⟩;intro w';go_simp;with_reducible rfl);(focus simp only [List.getElem_toArray,List.getElem_cons_succ,List.getElem_cons_zero,Act.put,List.setIfInBounds_toArray,List.set_cons_zero,List.set_cons_succ,i64_w,i32_w];rfl))
 |(refine tx_ (i:=3) (N:=some 21) (v:=?_) (a':=?_) #[true,true,true,true,false,false,false,false,false,false] rfl rfl (by kernel_rfl) (fun _ _ _ h=>h) ?_ hHeld ?_ ?_;rotate_left 2;(focus refine Or.inl ⟨by rfl,?_⟩;rintro w' ⟨s0,s1⟩;go_simp;with_reducible rfl);(focus simp only [List.getElem_toArray,List.getElem_cons_succ,List.getElem_cons_zero,Act.put,List.setIfInBounds_toArray,List.set_cons_zero,List.set_cons_succ,i64_w,i32_w];rfl))
 first
 |(refine px_ (i:=4) (N:=some 22) (v:=?_) (a':=?_) #[true,true,true,true,true,false,false,false,false,false] rfl rfl (by kernel_rfl) (fun _ _ _ h=>h) ?_ ?_ ?_;rotate_left 2;(focus refine Or.inl ⟨by rfl,?_⟩;intro w';go_simp;with_reducible rfl);(focus simp only [List.getElem_toArray,List.getElem_cons_succ,List.getElem_cons_zero,Act.put,List.setIfInBounds_toArray,List.set_cons_zero,List.set_cons_succ,i64_w,i32_w];rfl))
 |(refine tx_ (i:=4) (N:=some 22) (v:=?_) (a':=?_) #[true,true,true,true,true,false,false,false,false,false] rfl rfl (by kernel_rfl) (fun _ _ _ h=>h) ?_ hHeld ?_ ?_;rotate_left 2;(focus refine Or.inl ⟨by rfl,?_⟩;rintro w' ⟨s0,s1⟩;go_simp;with_reducible rfl);(focus simp only [List.getElem_toArray,List.getElem_cons_succ,List.getElem_cons_zero,Act.put,List.setIfInBounds_toArray,List.set_cons_zero,List.set_cons_succ,i64_w,i32_w];rfl))
 first
 |(refine px_ (i:=5) (N:=some 23) (v:=?_) (a':=?_) #[true,true,true,true,true,true,false,false,false,false] rfl rfl (by kernel_rfl) (fun _ _ _ h=>h) ?_ ?_ ?_;rotate_left 2;(focus refine Or.inl ⟨by rfl,?_⟩;intro w';go_simp;with_reducible rfl);(focus simp only [List.getElem_toArray,List.getElem_cons_succ,List.getElem_cons_zero,Act.put,List.setIfInBounds_toArray,List.set_cons_zero,List.set_cons_succ,i64_w,i32_w];rfl))
 |(refine tx_ (i:=5) (N:=some 23) (v:=?_) (a':=?_) #[true,true,true,true,true,true,false,false,false,false] rfl rfl (by kernel_rfl) (fun _ _ _ h=>h) ?_ hHeld ?_ ?_;rotate_left 2;(focus refine Or.inl ⟨by rfl,?_⟩;rintro w' ⟨s0,s1⟩;go_simp;with_reducible rfl);(focus simp only [List.getElem_toArray,List.getElem_cons_succ,List.getElem_cons_zero,Act.put,List.setIfInBounds_toArray,List.set_cons_zero,List.set_cons_succ,i64_w,i32_w];rfl))
 first
 |(refine px_ (i:=6) (N:=some 24) (v:=?_) (a':=?_) #[true,true,true,true,true,true,true,false,false,false] rfl rfl (by kernel_rfl) (fun _ _ _ h=>h) ?_ ?_ ?_;rotate_left 2;(focus refine Or.inl ⟨by rfl,?_⟩;intro w';go_simp;with_reducible rfl);(focus simp only [List.getElem_toArray,List.getElem_cons_succ,List.getElem_cons_zero,Act.put,List.setIfInBounds_toArray,List.set_cons_zero,List.set_cons_succ,i64_w,i32_w];rfl))
 |(refine tx_ (i:=6) (N:=some 24) (v:=?_) (a':=?_) #[true,true,true,true,true,true,true,false,false,false] rfl rfl (by kernel_rfl) (fun _ _ _ h=>h) ?_ hHeld ?_ ?_;rotate_left 2;(focus refine Or.inl ⟨by rfl,?_⟩;rintro w' ⟨s0,s1⟩;go_simp;with_reducible rfl);(focus simp only [List.getElem_toArray,List.getElem_cons_succ,List.getElem_cons_zero,Act.put,List.setIfInBounds_toArray,List.set_cons_zero,List.set_cons_succ,i64_w,i32_w];rfl))
 first
 |(refine px_ (i:=7) (N:=some 25) (v:=?_) (a':=?_) #[true,true,true,true,true,true,true,true,false,false] rfl rfl (by kernel_rfl) (fun _ _ _ h=>h) ?_ ?_ ?_;rotate_left 2;(focus refine Or.inl ⟨by rfl,?_⟩;intro w';go_simp;with_reducible rfl);(focus simp only [List.getElem_toArray,List.getElem_cons_succ,List.getElem_cons_zero,Act.put,List.setIfInBounds_toArray,List.set_cons_zero,List.set_cons_succ,i64_w,i32_w];rfl))
 |(refine tx_ (i:=7) (N:=some 25) (v:=?_) (a':=?_) #[true,true,true,true,true,true,true,true,false,false] rfl rfl (by kernel_rfl) (fun _ _ _ h=>h) ?_ hHeld ?_ ?_;rotate_left 2;(focus refine Or.inl ⟨by rfl,?_⟩;rintro w' ⟨s0,s1⟩;go_simp;with_reducible rfl);(focus simp only [List.getElem_toArray,List.getElem_cons_succ,List.getElem_cons_zero,Act.put,List.setIfInBounds_toArray,List.set_cons_zero,List.set_cons_succ,i64_w,i32_w];rfl))
 first
 |(refine px_ (i:=8) (N:=some 26) (v:=?_) (a':=?_) #[true,true,true,true,true,true,true,true,true,false] rfl rfl (by kernel_rfl) (fun _ _ _ h=>h) ?_ ?_ ?_;rotate_left 2;(focus refine Or.inl ⟨by rfl,?_⟩;intro w';go_simp;with_reducible rfl);(focus simp only [List.getElem_toArray,List.getElem_cons_succ,List.getElem_cons_zero,Act.put,List.setIfInBounds_toArray,List.set_cons_zero,List.set_cons_succ,i64_w,i32_w];rfl))
 |(refine tx_ (i:=8) (N:=some 26) (v:=?_) (a':=?_) #[true,true,true,true,true,true,true,true,true,false] rfl rfl (by kernel_rfl) (fun _ _ _ h=>h) ?_ hHeld ?_ ?_;rotate_left 2;(focus refine Or.inl ⟨by rfl,?_⟩;rintro w' ⟨s0,s1⟩;go_simp;with_reducible rfl);(focus simp only [List.getElem_toArray,List.getElem_cons_succ,List.getElem_cons_zero,Act.put,List.setIfInBounds_toArray,List.set_cons_zero,List.set_cons_succ,i64_w,i32_w];rfl))
 first
 |(refine px_ (i:=9) (N:=some 9) (v:=?_) (a':=?_) #[true,true,true,true,true,true,true,true,true,true] rfl rfl (by kernel_rfl) (fun _ _ _ h=>h) ?_ ?_ ?_;rotate_left 2;(focus refine Or.inl ⟨by rfl,?_⟩;intro w';go_simp;with_reducible rfl);(focus simp only [List.getElem_toArray,List.getElem_cons_succ,List.getElem_cons_zero,Act.put,List.setIfInBounds_toArray,List.set_cons_zero,List.set_cons_succ,i64_w,i32_w];rfl))
 |(refine tx_ (i:=9) (N:=some 9) (v:=?_) (a':=?_) #[true,true,true,true,true,true,true,true,true,true] rfl rfl (by kernel_rfl) (fun _ _ _ h=>h) ?_ hHeld ?_ ?_;rotate_left 2;(focus refine Or.inl ⟨by rfl,?_⟩;rintro w' ⟨s0,s1⟩;go_simp;with_reducible rfl);(focus simp only [List.getElem_toArray,List.getElem_cons_succ,List.getElem_cons_zero,Act.put,List.setIfInBounds_toArray,List.set_cons_zero,List.set_cons_succ,i64_w,i32_w];rfl))
 refine done_ (by kernel_rfl) ?_
 clear hHeld lf lm
 obtain ⟨WR,hWR⟩ : ∃ W,W = wr.drew:=⟨_,rfl⟩
 have HNB : Aside0 (N0≤WR.heap.size):=⟨by rw [hWR];exact Nat.le_trans HNS.out HB.out.size⟩
 have HBR : Aside0 (Below N0 W0 WR):=⟨by rw [hWR];exact HB.out.drew⟩
 replace HO : Aside0 (WR.ownsRow N0 3 1 u5 i ((sjt i t).map (Value.int .i64))):=⟨by rw [hWR];exact HO.out⟩
 rw [← hWR]
 clear hWR HB
 go_wp2_with (go_at_call 73;go_must (refine(insert_own (W:=WR) HO.out HNB.out HN18.out HU.out ((i : Int) + 1)).mono ?_;rintro e wx ⟨v',rfl,ho,hb⟩;have HO1:=Aside0.mk ho;have HB2:=Aside0.mk hb;clear ho hb))
 go_roundw
 case rel=>exact⟨i + 1,q,by simp [wi],HI1,HQ,⟨by rw [HS.out];exact HO1.out⟩,⟨HBR.out.trans HB2.out⟩⟩
 case measure=>(first | exact HMS.out |(rw [wi];exact HMS.out) |(simp only [wi];exact HMS.out))
     

open Go.Proofs.Ytbfhlaggllofdaa.G Go.Proofs.Ytbfhlaggllofdaa.T Go.Proofs.Ytbfhlaggllofdaa.P
def turns_Order.f (a0 a1 : Int) : Option (List Int×Int):=some (if 0≤a0∧a0≤18∧0≤a1∧a1≤fact a0.toNat - 1 then(sjt a0.toNat a1,0) else([],2))
set_option maxHeartbeats 400000 in
set_option maxRecDepth 100000 in
theorem turns_Order.calls (a0 a1 : Int) (r1 : List Int) (r2 : Int) (w : World) (h : turns_Order.f a0 a1 = some (r1, r2)) :
  Calls Try.prog 48 #[.int .i64 a0,.int .i64 a1] w fun e w'=>∃ v0_ : Value,e = .returned (.tuple #[v0_,.int .i64 r2])∧Kd.R (Kd.int .i64) 3 w' w.heap.size (fun _=>True) v0_ r1∧Below w.heap.size w w':=by
 replace h:=Option.some.inj h
 have HB:=Aside0.mk (Below.refl w.heap.size w)
 by_cases c0 : 0≤a0∧a0≤18
 rotate_left
 ·rw [if_neg (fun hh => c0 ⟨hh.1, hh.2.1⟩)] at h
  injection h with h1 h2
  subst h1;subst h2
  have hi1:=Aside0.mk (within_no c0)
  clear c0
  go_enter Try.func48,Try.ntmps48
  go_wp2_with (go_at_call 56;go_must (with_reducible refine(turns_within.calls a0 0 18 false _ hi1.out).mono ?_;rintro e w' ⟨rfl,⟨nd,rfl⟩⟩))
  go_ret2
  exact⟨_,rfl,Kd.R_nil _ _ _ _ _,by repeat(first |(with_reducible first | exact HB.out | apply bwN | apply bw1) | exact HB.out)⟩
 have hi1:=Aside0.mk (within_yes c0)
 obtain ⟨n,rfl⟩ : ∃ n : Nat,a0 = n:=⟨a0.toNat,by omega⟩
 rw [show((n : Int)).toNat = n by omega] at h
 have bf:=fact_le (n:=n) (by omega)
 have w0 : wrap64 (fact n - 1) = fact n - 1:=w64 (by omega) (by omega)
 have lx : ∀ W,Sem.run Try.prog (Instr.index 76 (.agg (facA 19)) (.int .i64 (n : Int))) W = .ok (.int .i64 (fact n)) W:=fac_index (by omega)
 by_cases c1 : 0≤a1∧a1≤fact n - 1
 rotate_left
 ·rw [if_neg (fun hh => c1 hh.2.2)] at h
  injection h with h1 h2
  subst h1;subst h2
  have hi2:=Aside0.mk (within_no c1)
  obtain ⟨F,hF⟩ : ∃ F,fact n = F:=⟨_,rfl⟩
  rw [hF] at lx w0 hi2
  clear c0 c1 bf hF
  go_enter Try.func48,Try.ntmps48
  go_wp2_with (first |(go_at_call 56;go_must (first |(with_reducible refine(turns_within.calls (n : Int) 0 18 true _ hi1.out).mono ?_;rintro e w' ⟨rfl,⟨nd,rfl⟩⟩) |(with_reducible refine(turns_within.calls a1 0 (F - 1) false _ hi2.out).mono ?_;rintro e w' ⟨rfl,⟨nd,rfl⟩⟩))) |(go_at_call 64;go_must (refine(fac_new _).mono ?_;rintro e w1 ⟨rfl,hb⟩;have HB1:=Aside0.mk (bwT (by repeat(first |(with_reducible first | exact HB.out | apply bwN) | exact HB.out)) hb);clear hb)))
  go_ret2
  exact⟨_,rfl,Kd.R_nil _ _ _ _ _,by repeat(first |(with_reducible first | exact HB1.out | apply bwN | apply bw1) | exact HB1.out)⟩
 rw [if_pos ⟨c0.1,c0.2,c1⟩] at h
 injection h with h1 h2
 subst h2
 have hi2:=Aside0.mk (within_yes c1)
 have HO:=Aside0.mk (show turns_order.f (n : Int) a1 = some r1 by unfold turns_order.f;rw [if_pos ⟨c0.1,c0.2,c1.1,by rw [show((n : Int)).toNat = n by omega];omega⟩,show((n : Int)).toNat = n by omega,h1])
 obtain ⟨F,hF⟩ : ∃ F,fact n = F:=⟨_,rfl⟩
 rw [hF] at lx w0 hi2
 clear c0 c1 bf hF h1
 go_enter Try.func48,Try.ntmps48
 go_wp2_with (first |(go_at_call 56;go_must (first |(with_reducible refine(turns_within.calls (n : Int) 0 18 true _ hi1.out).mono ?_;rintro e w' ⟨rfl,⟨nd,rfl⟩⟩) |(with_reducible refine(turns_within.calls a1 0 (F - 1) true _ hi2.out).mono ?_;rintro e w' ⟨rfl,⟨nd,rfl⟩⟩))) |(go_at_call 64;go_must (refine(fac_new _).mono ?_;rintro e w1 ⟨rfl,hb⟩;have HB1:=Aside0.mk (bwT (by repeat(first |(with_reducible first | exact HB.out | apply bwN) | exact HB.out)) hb);clear hb)) |(go_at_call 65;go_must (refine(turns_order.calls (n : Int) a1 r1 _ HO.out).mono ?_;rintro e w2 ⟨v0,rfl,ho,hb⟩;have HO1:=Aside0.mk ho;have HB2:=Aside0.mk hb;clear ho hb)))
 go_ret2
 exact⟨_,rfl,Kd.R_lower HO1.out (bwZ (by repeat(first |(with_reducible first | exact HB1.out | apply bwN | apply bw1) | exact HB1.out))),bwT (by repeat(first |(with_reducible first | exact HB1.out | apply bwN | apply bw1) | exact HB1.out)) HB2.out⟩

def w10_awake.j0 : Nat → Bool → Option (Bool)
 | 0,_=>none
 | k + 1,x77=>if x77 = true then(some false) else(some true)
def w10_awake.f (k : Nat)  : Option (Bool):=(turns_Set.f 2 2).bind fun bt128=>((turns_Choice.f 3 2 1).bind fun bt132=>((turns_Order.f 3 3).bind fun bt136=>((turns_Groupings.f 5).bind fun bt140=>((turns_Setting.f (([2,3] : List Int)) 3).bind fun bt145=>(if bt128.2 = 0 then((w10_ints.f k bt128.1 (([1,2] : List Int))).bind fun t152=>(if t152 = true then(if bt132.2 = 0 then((w10_ints.f k bt132.1 (([2,3] : List Int))).bind fun t156=>(if t156 = true then(if bt136.2 = 0 then((w10_ints.f k bt136.1 (([3,2,1] : List Int))).bind fun t160=>(if t160 = true then(if bt140.2 = 0 then(if bt140.1 = 52 then(if bt145.2 = 0 then((w10_ints.f k bt145.1 (([1,2] : List Int))).bind fun t164=>(w10_awake.j0 k (!t164))) else(w10_awake.j0 k true)) else(w10_awake.j0 k true)) else(w10_awake.j0 k true)) else(w10_awake.j0 k true))) else(w10_awake.j0 k true)) else(w10_awake.j0 k true))) else(w10_awake.j0 k true)) else(w10_awake.j0 k true))) else(w10_awake.j0 k true))))))
set_option maxHeartbeats 8000000 in
set_option maxRecDepth 100000 in
theorem w10_awake.calls (k : Nat)  (r : Bool) (w : World) (h : w10_awake.f k  = some r) :
  Calls Try.prog 20 #[] w fun e w'=>e = .returned (.bool r)∧Below w.heap.size w w':=by
 have HB:=Aside0.mk (Below.refl w.heap.size w)
 have H :((turns_Set.f 2 2).bind fun bt128=>((turns_Choice.f 3 2 1).bind fun bt132=>((turns_Order.f 3 3).bind fun bt136=>((turns_Groupings.f 5).bind fun bt140=>((turns_Setting.f (([2,3] : List Int)) 3).bind fun bt145=>(if bt128.2 = 0 then((w10_ints.f k bt128.1 (([1,2] : List Int))).bind fun t152=>(if t152 = true then(if bt132.2 = 0 then((w10_ints.f k bt132.1 (([2,3] : List Int))).bind fun t156=>(if t156 = true then(if bt136.2 = 0 then((w10_ints.f k bt136.1 (([3,2,1] : List Int))).bind fun t160=>(if t160 = true then(if bt140.2 = 0 then(if bt140.1 = 52 then(if bt145.2 = 0 then((w10_ints.f k bt145.1 (([1,2] : List Int))).bind fun t164=>(w10_awake.j0 k (!t164))) else(w10_awake.j0 k true)) else(w10_awake.j0 k true)) else(w10_awake.j0 k true)) else(w10_awake.j0 k true))) else(w10_awake.j0 k true)) else(w10_awake.j0 k true))) else(w10_awake.j0 k true)) else(w10_awake.j0 k true))) else(w10_awake.j0 k true))))))) = some r:=h
 clear h
 replace H:=Option.bind_eq_some_iff.mp H
 obtain ⟨⟨t128,t129⟩,A10,H⟩:=H
 replace H :((turns_Choice.f 3 2 1).bind fun bt132=>((turns_Order.f 3 3).bind fun bt136=>((turns_Groupings.f 5).bind fun bt140=>((turns_Setting.f (([2,3] : List Int)) 3).bind fun bt145=>(if t129 = 0 then((w10_ints.f k t128 (([1,2] : List Int))).bind fun t152=>(if t152 = true then(if bt132.2 = 0 then((w10_ints.f k bt132.1 (([2,3] : List Int))).bind fun t156=>(if t156 = true then(if bt136.2 = 0 then((w10_ints.f k bt136.1 (([3,2,1] : List Int))).bind fun t160=>(if t160 = true then(if bt140.2 = 0 then(if bt140.1 = 52 then(if bt145.2 = 0 then((w10_ints.f k bt145.1 (([1,2] : List Int))).bind fun t164=>(w10_awake.j0 k (!t164))) else(w10_awake.j0 k true)) else(w10_awake.j0 k true)) else(w10_awake.j0 k true)) else(w10_awake.j0 k true))) else(w10_awake.j0 k true)) else(w10_awake.j0 k true))) else(w10_awake.j0 k true)) else(w10_awake.j0 k true))) else(w10_awake.j0 k true)))))) = some r:=H
 have A1:=Aside0.mk A10
 clear A10
 replace H:=Option.bind_eq_some_iff.mp H
 obtain ⟨⟨t132,t133⟩,A20,H⟩:=H
 replace H :((turns_Order.f 3 3).bind fun bt136=>((turns_Groupings.f 5).bind fun bt140=>((turns_Setting.f (([2,3] : List Int)) 3).bind fun bt145=>(if t129 = 0 then((w10_ints.f k t128 (([1,2] : List Int))).bind fun t152=>(if t152 = true then(if t133 = 0 then((w10_ints.f k t132 (([2,3] : List Int))).bind fun t156=>(if t156 = true then(if bt136.2 = 0 then((w10_ints.f k bt136.1 (([3,2,1] : List Int))).bind fun t160=>(if t160 = true then(if bt140.2 = 0 then(if bt140.1 = 52 then(if bt145.2 = 0 then((w10_ints.f k bt145.1 (([1,2] : List Int))).bind fun t164=>(w10_awake.j0 k (!t164))) else(w10_awake.j0 k true)) else(w10_awake.j0 k true)) else(w10_awake.j0 k true)) else(w10_awake.j0 k true))) else(w10_awake.j0 k true)) else(w10_awake.j0 k true))) else(w10_awake.j0 k true)) else(w10_awake.j0 k true))) else(w10_awake.j0 k true))))) = some r:=H
 have A2:=Aside0.mk A20
 clear A20
 replace H:=Option.bind_eq_some_iff.mp H
 obtain ⟨⟨t136,t137⟩,A30,H⟩:=H
 replace H :((turns_Groupings.f 5).bind fun bt140=>((turns_Setting.f (([2,3] : List Int)) 3).bind fun bt145=>(if t129 = 0 then((w10_ints.f k t128 (([1,2] : List Int))).bind fun t152=>(if t152 = true then(if t133 = 0 then((w10_ints.f k t132 (([2,3] : List Int))).bind fun t156=>(if t156 = true then(if t137 = 0 then((w10_ints.f k t136 (([3,2,1] : List Int))).bind fun t160=>(if t160 = true then(if bt140.2 = 0 then(if bt140.1 = 52 then(if bt145.2 = 0 then((w10_ints.f k bt145.1 (([1,2] : List Int))).bind fun t164=>(w10_awake.j0 k (!t164))) else(w10_awake.j0 k true)) else(w10_awake.j0 k true)) else(w10_awake.j0 k true)) else(w10_awake.j0 k true))) else(w10_awake.j0 k true)) else(w10_awake.j0 k true))) else(w10_awake.j0 k true)) else(w10_awake.j0 k true))) else(w10_awake.j0 k true)))) = some r:=H
 have A3:=Aside0.mk A30
 clear A30
 replace H:=Option.bind_eq_some_iff.mp H
 obtain ⟨⟨t140,t141⟩,A40,H⟩:=H
 replace H :((turns_Setting.f (([2,3] : List Int)) 3).bind fun bt145=>(if t129 = 0 then((w10_ints.f k t128 (([1,2] : List Int))).bind fun t152=>(if t152 = true then(if t133 = 0 then((w10_ints.f k t132 (([2,3] : List Int))).bind fun t156=>(if t156 = true then(if t137 = 0 then((w10_ints.f k t136 (([3,2,1] : List Int))).bind fun t160=>(if t160 = true then(if t141 = 0 then(if t140 = 52 then(if bt145.2 = 0 then((w10_ints.f k bt145.1 (([1,2] : List Int))).bind fun t164=>(w10_awake.j0 k (!t164))) else(w10_awake.j0 k true)) else(w10_awake.j0 k true)) else(w10_awake.j0 k true)) else(w10_awake.j0 k true))) else(w10_awake.j0 k true)) else(w10_awake.j0 k true))) else(w10_awake.j0 k true)) else(w10_awake.j0 k true))) else(w10_awake.j0 k true))) = some r:=H
 have A4:=Aside0.mk A40
 clear A40
 obtain ⟨y142,hy142⟩ : ∃ y_ : List Int,y_ =(([2,3] : List Int)):=⟨_,rfl⟩
 replace H :((turns_Setting.f y142 3).bind fun bt145=>(if t129 = 0 then((w10_ints.f k t128 (([1,2] : List Int))).bind fun t152=>(if t152 = true then(if t133 = 0 then((w10_ints.f k t132 (([2,3] : List Int))).bind fun t156=>(if t156 = true then(if t137 = 0 then((w10_ints.f k t136 (([3,2,1] : List Int))).bind fun t160=>(if t160 = true then(if t141 = 0 then(if t140 = 52 then(if bt145.2 = 0 then((w10_ints.f k bt145.1 (([1,2] : List Int))).bind fun t164=>(w10_awake.j0 k (!t164))) else(w10_awake.j0 k true)) else(w10_awake.j0 k true)) else(w10_awake.j0 k true)) else(w10_awake.j0 k true))) else(w10_awake.j0 k true)) else(w10_awake.j0 k true))) else(w10_awake.j0 k true)) else(w10_awake.j0 k true))) else(w10_awake.j0 k true))) = some r:=by first |(rw [hy142];with_reducible exact H) |(have H2_:=(Option.bind_some _ _).symm.trans H;rw [hy142];with_reducible exact H2_) |(have H2_:=(Option.bind_some _ _).symm.trans H;with_reducible exact H2_) | with_reducible exact H |(rw [hy142];exact H) | exact H
 have Ny142:=Aside0.mk hy142
 clear hy142
 replace H:=Option.bind_eq_some_iff.mp H
 obtain ⟨⟨t145,t146⟩,A50,H⟩:=H
 replace H :(if t129 = 0 then((w10_ints.f k t128 (([1,2] : List Int))).bind fun t152=>(if t152 = true then(if t133 = 0 then((w10_ints.f k t132 (([2,3] : List Int))).bind fun t156=>(if t156 = true then(if t137 = 0 then((w10_ints.f k t136 (([3,2,1] : List Int))).bind fun t160=>(if t160 = true then(if t141 = 0 then(if t140 = 52 then(if t146 = 0 then((w10_ints.f k t145 (([1,2] : List Int))).bind fun t164=>(w10_awake.j0 k (!t164))) else(w10_awake.j0 k true)) else(w10_awake.j0 k true)) else(w10_awake.j0 k true)) else(w10_awake.j0 k true))) else(w10_awake.j0 k true)) else(w10_awake.j0 k true))) else(w10_awake.j0 k true)) else(w10_awake.j0 k true))) else(w10_awake.j0 k true)) = some r:=H
 have A5:=Aside0.mk A50
 clear A50
 have HC6:=Aside0.mk H
 clear H
 go_enter Try.func20,Try.ntmps20
 go_upto_region 6 with (first |((with_reducible refine gate_callee (f:=38) rfl ?_);refine goesL_ (some 12) rfl rfl Try.func38 (by kernel_rfl) rfl #[.int .i64 2,.int .i64 2] rfl (by(try simp only [List.map_toArray,List.map_cons,List.map_nil]);first | done | rfl |(simp only [List.length_drop,List.length_take];rfl)) ?_;(with_reducible refine(turns_Set.calls 2 2 t128 t129 _ A1.out).mono ?_);rintro e w7 ⟨v130,rfl,ho0,hb⟩;refine⟨_,rfl,?_⟩;have n0_:=Aside0.mk (Kd.R_lower ho0 (bwZ (by repeat(first |(with_reducible first | exact HB.out | apply bwA | apply bwN | apply bw1) | exact HB.out))));have n1_:=Aside0.mk (bwT (by repeat(first |(with_reducible first | exact HB.out | apply bwA | apply bwN | apply bw1) | exact HB.out)) hb);clear HB;have HO131:=n0_;have HB:=n1_;clear n0_ n1_;(try clear hb);(try clear hb2);(try clear hk);(try clear hi);(try clear ho0)) |((with_reducible refine gate_callee (f:=31) rfl ?_);refine goesL_ (some 16) rfl rfl Try.func31 (by kernel_rfl) rfl #[.int .i64 3,.int .i64 2,.int .i64 1] rfl (by(try simp only [List.map_toArray,List.map_cons,List.map_nil]);first | done | rfl |(simp only [List.length_drop,List.length_take];rfl)) ?_;(with_reducible refine(turns_Choice.calls 3 2 1 t132 t133 _ A2.out).mono ?_);rintro e w8 ⟨v134,rfl,ho0,hb⟩;refine⟨_,rfl,?_⟩;have n0_:=Aside0.mk (Kd.R_elder' (by(with_reducible repeat(first | apply Kd.R_alloc | apply Kd.R_drewN | apply Kd.R_drew));exact HO131.out) (Kd.R_base ho0) hb);have n1_:=Aside0.mk (Kd.R_lower (Kd.R_new' ho0 (Kd.R_lt (by(with_reducible repeat(first | apply Kd.R_alloc | apply Kd.R_drewN | apply Kd.R_drew));exact HO131.out))) (bwZ (by repeat(first |(with_reducible first | exact HB.out | apply bwA | apply bwN | apply bw1) | exact HB.out))));have n2_:=Aside0.mk (bwT (by repeat(first |(with_reducible first | exact HB.out | apply bwA | apply bwN | apply bw1) | exact HB.out)) hb);clear HO131;clear HB;have HO131:=n0_;have HO135:=n1_;have HB:=n2_;clear n0_ n1_ n2_;(try clear hb);(try clear hb2);(try clear hk);(try clear hi);(try clear ho0)) |((with_reducible refine gate_callee (f:=48) rfl ?_);refine goesL_ (some 20) rfl rfl Try.func48 (by kernel_rfl) rfl #[.int .i64 3,.int .i64 3] rfl (by(try simp only [List.map_toArray,List.map_cons,List.map_nil]);first | done | rfl |(simp only [List.length_drop,List.length_take];rfl)) ?_;(with_reducible refine(turns_Order.calls 3 3 t136 t137 _ A3.out).mono ?_);rintro e w9 ⟨v138,rfl,ho0,hb⟩;refine⟨_,rfl,?_⟩;have n0_:=Aside0.mk (Kd.R_elder' (by(with_reducible repeat(first | apply Kd.R_alloc | apply Kd.R_drewN | apply Kd.R_drew));exact HO131.out) (Kd.R_base ho0) hb);have n1_:=Aside0.mk (Kd.R_elder' (by(with_reducible repeat(first | apply Kd.R_alloc | apply Kd.R_drewN | apply Kd.R_drew));exact HO135.out) (Kd.R_base ho0) hb);have n2_:=Aside0.mk (Kd.R_lower (Kd.R_new' (Kd.R_new' ho0 (Kd.R_lt (by(with_reducible repeat(first | apply Kd.R_alloc | apply Kd.R_drewN | apply Kd.R_drew));exact HO131.out))) (Kd.R_lt (by(with_reducible repeat(first | apply Kd.R_alloc | apply Kd.R_drewN | apply Kd.R_drew));exact HO135.out))) (bwZ (by repeat(first |(with_reducible first | exact HB.out | apply bwA | apply bwN | apply bw1) | exact HB.out))));have n3_:=Aside0.mk (bwT (by repeat(first |(with_reducible first | exact HB.out | apply bwA | apply bwN | apply bw1) | exact HB.out)) hb);clear HO131;clear HO135;clear HB;have HO131:=n0_;have HO135:=n1_;have HO139:=n2_;have HB:=n3_;clear n0_ n1_ n2_ n3_;(try clear hb);(try clear hb2);(try clear hk);(try clear hi);(try clear ho0)) |((with_reducible refine gate_callee (f:=28) rfl ?_);refine goesL_ (some 24) rfl rfl Try.func28 (by kernel_rfl) rfl #[.int .i64 5] rfl (by(try simp only [List.map_toArray,List.map_cons,List.map_nil]);first | done | rfl |(simp only [List.length_drop,List.length_take];rfl)) ?_;(with_reducible refine(turns_Groupings.calls 5 t140 t141 _ A4.out).mono ?_);rintro e w10 ⟨rfl,hb⟩;refine⟨_,rfl,?_⟩;have n0_:=Aside0.mk (Kd.R_below (by(with_reducible repeat(first | apply Kd.R_alloc | apply Kd.R_drewN | apply Kd.R_drew));exact HO131.out) hb);have n1_:=Aside0.mk (Kd.R_below (by(with_reducible repeat(first | apply Kd.R_alloc | apply Kd.R_drewN | apply Kd.R_drew));exact HO135.out) hb);have n2_:=Aside0.mk (Kd.R_below (by(with_reducible repeat(first | apply Kd.R_alloc | apply Kd.R_drewN | apply Kd.R_drew));exact HO139.out) hb);have n3_:=Aside0.mk (bwT (by repeat(first |(with_reducible first | exact HB.out | apply bwA | apply bwN | apply bw1) | exact HB.out)) hb);clear HO131;clear HO135;clear HO139;clear HB;have HO131:=n0_;have HO135:=n1_;have HO139:=n2_;have HB:=n3_;clear n0_ n1_ n2_ n3_;(try clear hb);(try clear hb2);(try clear hk);(try clear hi)) |((with_reducible refine gate_dst (N:=28) rfl ?_);(try(refine gate_guard (by rfl) ?_;dsimp only));refine Kd.R_lit (Kd.int .i64) _ 3 ?hg (N:=28) ?hd (xs:=([2,3] : List Int)) (inner:=[.int .i64 2,.int .i64 3]) (ok:=fun _=>True) (okp:=fun _=>True) ?hr ?hp (fun _ hk=>hk) trivial (Below.refl _ _) (Nat.le_refl _) (by simp) ?_;(case hd=>rfl);(case hg=>rfl);(case hr=>first |(go_simp;done) |(go_simp;rfl));(case hp=>exact(Reps.one (show Kd.M (Kd.int .i64) _ _ _ 2 [.int .i64 2] from rfl) (Reps.one (show Kd.M (Kd.int .i64) _ _ _ 3 [.int .i64 3] from rfl) (Reps.none _ _))));intro v143 w11 ho12 hb hg_ hnew_;clear hg_ hnew_;(first | rw [← Ny142.out] at ho12 |(simp only [Int.reduceToNat] at ho12;rw [← Ny142.out] at ho12));have n0_:=Aside0.mk (Kd.R_elder' (by(with_reducible repeat(first | apply Kd.R_alloc | apply Kd.R_drewN | apply Kd.R_drew));exact HO131.out) (Kd.R_base ho12) hb);have n1_:=Aside0.mk (Kd.R_elder' (by(with_reducible repeat(first | apply Kd.R_alloc | apply Kd.R_drewN | apply Kd.R_drew));exact HO135.out) (Kd.R_base ho12) hb);have n2_:=Aside0.mk (Kd.R_elder' (by(with_reducible repeat(first | apply Kd.R_alloc | apply Kd.R_drewN | apply Kd.R_drew));exact HO139.out) (Kd.R_base ho12) hb);have n3_:=Aside0.mk (Kd.R_lower (Kd.R_new' (Kd.R_new' (Kd.R_new' ho12 (Kd.R_lt (by(with_reducible repeat(first | apply Kd.R_alloc | apply Kd.R_drewN | apply Kd.R_drew));exact HO131.out))) (Kd.R_lt (by(with_reducible repeat(first | apply Kd.R_alloc | apply Kd.R_drewN | apply Kd.R_drew));exact HO135.out))) (Kd.R_lt (by(with_reducible repeat(first | apply Kd.R_alloc | apply Kd.R_drewN | apply Kd.R_drew));exact HO139.out))) (bwZ (by repeat(first |(with_reducible first | exact HB.out | apply bwA | apply bwN | apply bw1) | exact HB.out))));have n4_:=Aside0.mk (bwT (by repeat(first |(with_reducible first | exact HB.out | apply bwA | apply bwN | apply bw1) | exact HB.out)) hb);clear HO131;clear HO135;clear HO139;clear HB;have HO131:=n0_;have HO135:=n1_;have HO139:=n2_;have HO144:=n3_;have HB:=n4_;clear n0_ n1_ n2_ n3_ n4_;clear hb ho12;obtain ⟨Ao13,co13,eo13⟩:=Kd.R_slice HO144.out;subst eo13) |((with_reducible refine gate_callee (f:=17) rfl ?_);refine goesL_ (some 29) rfl rfl Try.func17 (by kernel_rfl) rfl #[.slice Ao13 y142.length co13,.int .i64 3] rfl (by(try simp only [List.map_toArray,List.map_cons,List.map_nil]);first | done | rfl |(simp only [List.length_drop,List.length_take];rfl)) ?_;(with_reducible refine(turns_Setting.calls _ _ y142 3 t145 t146 _ ?side1 ?side2 A5.out).mono ?_);(case side1=>repeat(first | exact(Kd.R_reads' HO144.out).2.2 |(with_reducible refine Kd.C_alloc ?_ _) |(with_reducible refine Kd.C_drewN ?_ _) |(with_reducible refine Kd.C_drew ?_)));(case side2=>exact(Kd.R_reads' HO144.out).2.1);rintro e w14 ⟨v147,rfl,ho0,hb⟩;refine⟨_,rfl,?_⟩;have n0_:=Aside0.mk (Kd.R_elder' (by(with_reducible repeat(first | apply Kd.R_alloc | apply Kd.R_drewN | apply Kd.R_drew));exact HO131.out) (Kd.R_base ho0) hb);have n1_:=Aside0.mk (Kd.R_elder' (by(with_reducible repeat(first | apply Kd.R_alloc | apply Kd.R_drewN | apply Kd.R_drew));exact HO135.out) (Kd.R_base ho0) hb);have n2_:=Aside0.mk (Kd.R_elder' (by(with_reducible repeat(first | apply Kd.R_alloc | apply Kd.R_drewN | apply Kd.R_drew));exact HO139.out) (Kd.R_base ho0) hb);have n3_:=Aside0.mk (Kd.R_elder' (by(with_reducible repeat(first | apply Kd.R_alloc | apply Kd.R_drewN | apply Kd.R_drew));exact HO144.out) (Kd.R_base ho0) hb);have n4_:=Aside0.mk (Kd.R_lower (Kd.R_new' (Kd.R_new' (Kd.R_new' (Kd.R_new' ho0 (Kd.R_lt (by(with_reducible repeat(first | apply Kd.R_alloc | apply Kd.R_drewN | apply Kd.R_drew));exact HO131.out))) (Kd.R_lt (by(with_reducible repeat(first | apply Kd.R_alloc | apply Kd.R_drewN | apply Kd.R_drew));exact HO135.out))) (Kd.R_lt (by(with_reducible repeat(first | apply Kd.R_alloc | apply Kd.R_drewN | apply Kd.R_drew));exact HO139.out))) (Kd.R_lt (by(with_reducible repeat(first | apply Kd.R_alloc | apply Kd.R_drewN | apply Kd.R_drew));exact HO144.out))) (bwZ (by repeat(first |(with_reducible first | exact HB.out | apply bwA | apply bwN | apply bw1) | exact HB.out))));have n5_:=Aside0.mk (bwT (by repeat(first |(with_reducible first | exact HB.out | apply bwA | apply bwN | apply bw1) | exact HB.out)) hb);clear HO131;clear HO135;clear HO139;clear HO144;clear HB;have HO131:=n0_;have HO135:=n1_;have HO139:=n2_;have HO144:=n3_;have HO148:=n4_;have HB:=n5_;clear n0_ n1_ n2_ n3_ n4_ n5_;(try clear hb);(try clear hb2);(try clear hk);(try clear hi);(try clear ho0)))
 (try simp only [Act.put,List.setIfInBounds_toArray,List.set_cons_zero,List.set_cons_succ])
 go_cut [77] (fun v77 wc=>∃ (kq : Nat) (x77_5 : Bool),v77 = .bool x77_5∧Aside0 (w10_awake.j0 kq x77_5 = some r)∧Aside0 (kq≤k)∧Aside0 (Below w.heap.size w wc))
 case first =>
  have H:=HC6.out
  clear HC6
  by_cases c15 : t129 = 0
  rotate_left
  ·rw [if_neg c15] at H
   have c15b0 :(t129 == 0) = false:=beq_eq_false_iff_ne.mpr c15
   have c15b1 :(t129 != 0) = true:=bne_iff_ne.mpr c15
   (first | rw [c15b0] |(simp only [i64_w,i32_w];rw [c15b0]) | skip)
   have H':=Aside0.mk H
   clear H
   go_wp2
   go_meet
   exact⟨_,(true),(by first | rfl |(simp;done) |(simp [*];done)),H',⟨by first | omega | exact Nat.le_refl _⟩,⟨by repeat(first |(with_reducible first | exact HB.out | apply bwA | apply bwN | apply bw1) | exact HB.out)⟩⟩
  rw [if_pos c15] at H
  have c15b0 :(t129 == 0) = true:=beq_iff_eq.mpr c15
  have c15b1 :(t129 != 0) = false:=bne_eq_false_iff_eq.mpr c15
  clear c15
  (first | rw [c15b0] |(simp only [i64_w,i32_w];rw [c15b0]) | skip)
  obtain ⟨y149,hy149⟩ : ∃ y_ : List Int,y_ =(([1,2] : List Int)):=⟨_,rfl⟩
  replace H :((w10_ints.f k t128 y149).bind fun t152=>(if t152 = true then(if t133 = 0 then((w10_ints.f k t132 (([2,3] : List Int))).bind fun t156=>(if t156 = true then(if t137 = 0 then((w10_ints.f k t136 (([3,2,1] : List Int))).bind fun t160=>(if t160 = true then(if t141 = 0 then(if t140 = 52 then(if t146 = 0 then((w10_ints.f k t145 (([1,2] : List Int))).bind fun t164=>(w10_awake.j0 k (!t164))) else(w10_awake.j0 k true)) else(w10_awake.j0 k true)) else(w10_awake.j0 k true)) else(w10_awake.j0 k true))) else(w10_awake.j0 k true)) else(w10_awake.j0 k true))) else(w10_awake.j0 k true)) else(w10_awake.j0 k true))) = some r:=by first |(rw [hy149];with_reducible exact H) |(have H2_:=(Option.bind_some _ _).symm.trans H;rw [hy149];with_reducible exact H2_) |(have H2_:=(Option.bind_some _ _).symm.trans H;with_reducible exact H2_) | with_reducible exact H |(rw [hy149];exact H) | exact H
  have Ny149:=Aside0.mk hy149
  clear hy149
  replace H:=Option.bind_eq_some_iff.mp H
  obtain ⟨t152,A160,H⟩:=H
  replace H :(if t152 = true then(if t133 = 0 then((w10_ints.f k t132 (([2,3] : List Int))).bind fun t156=>(if t156 = true then(if t137 = 0 then((w10_ints.f k t136 (([3,2,1] : List Int))).bind fun t160=>(if t160 = true then(if t141 = 0 then(if t140 = 52 then(if t146 = 0 then((w10_ints.f k t145 (([1,2] : List Int))).bind fun t164=>(w10_awake.j0 k (!t164))) else(w10_awake.j0 k true)) else(w10_awake.j0 k true)) else(w10_awake.j0 k true)) else(w10_awake.j0 k true))) else(w10_awake.j0 k true)) else(w10_awake.j0 k true))) else(w10_awake.j0 k true)) else(w10_awake.j0 k true)) = some r:=H
  have A16:=Aside0.mk A160
  clear A160
  by_cases c17 : t152 = true
  rotate_left
  ·replace c17 := Bool.eq_false_iff.mpr c17
   subst c17
   have H1 :(w10_awake.j0 k true) = some r:=by rw [if_neg (show ¬ (false = true) by decide)] at H;exact H
   clear H
   have H:=H1
   clear H1
   have H':=Aside0.mk H
   clear H
   go_wp2_with (first |((with_reducible refine gate_dst (N:=36) rfl ?_);(try(refine gate_guard (by rfl) ?_;dsimp only));refine Kd.R_lit (Kd.int .i64) _ 3 ?hg (N:=36) ?hd (xs:=([1,2] : List Int)) (inner:=[.int .i64 1,.int .i64 2]) (ok:=fun _=>True) (okp:=fun _=>True) ?hr ?hp (fun _ hk=>hk) trivial (Below.refl _ _) (Nat.le_refl _) (by simp) ?_;(case hd=>rfl);(case hg=>rfl);(case hr=>first |(go_simp;done) |(go_simp;rfl));(case hp=>exact(Reps.one (show Kd.M (Kd.int .i64) _ _ _ 1 [.int .i64 1] from rfl) (Reps.one (show Kd.M (Kd.int .i64) _ _ _ 2 [.int .i64 2] from rfl) (Reps.none _ _))));intro v150 w112 ho113 hb hg_ hnew_;clear hg_ hnew_;(first | rw [← Ny149.out] at ho113 |(simp only [Int.reduceToNat] at ho113;rw [← Ny149.out] at ho113));have n0_:=Aside0.mk (Kd.R_elder' (by(with_reducible repeat(first | apply Kd.R_alloc | apply Kd.R_drewN | apply Kd.R_drew));exact HO131.out) (Kd.R_base ho113) hb);have n1_:=Aside0.mk (Kd.R_elder' (by(with_reducible repeat(first | apply Kd.R_alloc | apply Kd.R_drewN | apply Kd.R_drew));exact HO135.out) (Kd.R_base ho113) hb);have n2_:=Aside0.mk (Kd.R_elder' (by(with_reducible repeat(first | apply Kd.R_alloc | apply Kd.R_drewN | apply Kd.R_drew));exact HO139.out) (Kd.R_base ho113) hb);have n3_:=Aside0.mk (Kd.R_elder' (by(with_reducible repeat(first | apply Kd.R_alloc | apply Kd.R_drewN | apply Kd.R_drew));exact HO144.out) (Kd.R_base ho113) hb);have n4_:=Aside0.mk (Kd.R_elder' (by(with_reducible repeat(first | apply Kd.R_alloc | apply Kd.R_drewN | apply Kd.R_drew));exact HO148.out) (Kd.R_base ho113) hb);have n5_:=Aside0.mk (Kd.R_lower (Kd.R_new' (Kd.R_new' (Kd.R_new' (Kd.R_new' (Kd.R_new' ho113 (Kd.R_lt (by(with_reducible repeat(first | apply Kd.R_alloc | apply Kd.R_drewN | apply Kd.R_drew));exact HO131.out))) (Kd.R_lt (by(with_reducible repeat(first | apply Kd.R_alloc | apply Kd.R_drewN | apply Kd.R_drew));exact HO135.out))) (Kd.R_lt (by(with_reducible repeat(first | apply Kd.R_alloc | apply Kd.R_drewN | apply Kd.R_drew));exact HO139.out))) (Kd.R_lt (by(with_reducible repeat(first | apply Kd.R_alloc | apply Kd.R_drewN | apply Kd.R_drew));exact HO144.out))) (Kd.R_lt (by(with_reducible repeat(first | apply Kd.R_alloc | apply Kd.R_drewN | apply Kd.R_drew));exact HO148.out))) (bwZ (by repeat(first |(with_reducible first | exact HB.out | apply bwA | apply bwN | apply bw1) | exact HB.out))));have n6_:=Aside0.mk (bwT (by repeat(first |(with_reducible first | exact HB.out | apply bwA | apply bwN | apply bw1) | exact HB.out)) hb);clear HO131;clear HO135;clear HO139;clear HO144;clear HO148;clear HB;have HO131:=n0_;have HO135:=n1_;have HO139:=n2_;have HO144:=n3_;have HO148:=n4_;have HO151:=n5_;have HB:=n6_;clear n0_ n1_ n2_ n3_ n4_ n5_ n6_;clear hb ho113;obtain ⟨Ao114,co114,eo114⟩:=Kd.R_slice HO131.out;subst eo114;obtain ⟨Ao115,co115,eo115⟩:=Kd.R_slice HO151.out;subst eo115) |(go_at_call 22;(with_reducible refine(w10_ints.calls k _ _ t128 _ _ y149 false _ ?side1 ?side2 ?side3 ?side4 A16.out).mono ?_);(case side1=>repeat(first | exact(Kd.R_reads' HO131.out).2.2 |(with_reducible refine Kd.C_alloc ?_ _) |(with_reducible refine Kd.C_drewN ?_ _) |(with_reducible refine Kd.C_drew ?_)));(case side2=>exact(Kd.R_reads' HO131.out).2.1);(case side3=>repeat(first | exact(Kd.R_reads' HO151.out).2.2 |(with_reducible refine Kd.C_alloc ?_ _) |(with_reducible refine Kd.C_drewN ?_ _) |(with_reducible refine Kd.C_drew ?_)));(case side4=>exact(Kd.R_reads' HO151.out).2.1);rintro e w' ⟨rfl,⟨nd,rfl⟩⟩))
   go_meet
   exact⟨_,(true),(by first | rfl |(simp;done) |(simp [*];done)),H',⟨by first | omega | exact Nat.le_refl _⟩,⟨by repeat(first |(with_reducible first | exact HB.out | apply bwA | apply bwN | apply bw1) | exact HB.out)⟩⟩
  subst c17
  have H1 :(if t133 = 0 then((w10_ints.f k t132 (([2,3] : List Int))).bind fun t156=>(if t156 = true then(if t137 = 0 then((w10_ints.f k t136 (([3,2,1] : List Int))).bind fun t160=>(if t160 = true then(if t141 = 0 then(if t140 = 52 then(if t146 = 0 then((w10_ints.f k t145 (([1,2] : List Int))).bind fun t164=>(w10_awake.j0 k (!t164))) else(w10_awake.j0 k true)) else(w10_awake.j0 k true)) else(w10_awake.j0 k true)) else(w10_awake.j0 k true))) else(w10_awake.j0 k true)) else(w10_awake.j0 k true))) else(w10_awake.j0 k true)) = some r:=by rw [if_pos rfl] at H;exact H
  clear H
  have H:=H1
  clear H1
  by_cases c18 : t133 = 0
  rotate_left
  ·rw [if_neg c18] at H
   have c18b0 :(t133 == 0) = false:=beq_eq_false_iff_ne.mpr c18
   have c18b1 :(t133 != 0) = true:=bne_iff_ne.mpr c18
   have H':=Aside0.mk H
   clear H
   go_wp2_with (first |((with_reducible refine gate_dst (N:=36) rfl ?_);(try(refine gate_guard (by rfl) ?_;dsimp only));refine Kd.R_lit (Kd.int .i64) _ 3 ?hg (N:=36) ?hd (xs:=([1,2] : List Int)) (inner:=[.int .i64 1,.int .i64 2]) (ok:=fun _=>True) (okp:=fun _=>True) ?hr ?hp (fun _ hk=>hk) trivial (Below.refl _ _) (Nat.le_refl _) (by simp) ?_;(case hd=>rfl);(case hg=>rfl);(case hr=>first |(go_simp;done) |(go_simp;rfl));(case hp=>exact(Reps.one (show Kd.M (Kd.int .i64) _ _ _ 1 [.int .i64 1] from rfl) (Reps.one (show Kd.M (Kd.int .i64) _ _ _ 2 [.int .i64 2] from rfl) (Reps.none _ _))));intro v150 w108 ho109 hb hg_ hnew_;clear hg_ hnew_;(first | rw [← Ny149.out] at ho109 |(simp only [Int.reduceToNat] at ho109;rw [← Ny149.out] at ho109));have n0_:=Aside0.mk (Kd.R_elder' (by(with_reducible repeat(first | apply Kd.R_alloc | apply Kd.R_drewN | apply Kd.R_drew));exact HO131.out) (Kd.R_base ho109) hb);have n1_:=Aside0.mk (Kd.R_elder' (by(with_reducible repeat(first | apply Kd.R_alloc | apply Kd.R_drewN | apply Kd.R_drew));exact HO135.out) (Kd.R_base ho109) hb);have n2_:=Aside0.mk (Kd.R_elder' (by(with_reducible repeat(first | apply Kd.R_alloc | apply Kd.R_drewN | apply Kd.R_drew));exact HO139.out) (Kd.R_base ho109) hb);have n3_:=Aside0.mk (Kd.R_elder' (by(with_reducible repeat(first | apply Kd.R_alloc | apply Kd.R_drewN | apply Kd.R_drew));exact HO144.out) (Kd.R_base ho109) hb);have n4_:=Aside0.mk (Kd.R_elder' (by(with_reducible repeat(first | apply Kd.R_alloc | apply Kd.R_drewN | apply Kd.R_drew));exact HO148.out) (Kd.R_base ho109) hb);have n5_:=Aside0.mk (Kd.R_lower (Kd.R_new' (Kd.R_new' (Kd.R_new' (Kd.R_new' (Kd.R_new' ho109 (Kd.R_lt (by(with_reducible repeat(first | apply Kd.R_alloc | apply Kd.R_drewN | apply Kd.R_drew));exact HO131.out))) (Kd.R_lt (by(with_reducible repeat(first | apply Kd.R_alloc | apply Kd.R_drewN | apply Kd.R_drew));exact HO135.out))) (Kd.R_lt (by(with_reducible repeat(first | apply Kd.R_alloc | apply Kd.R_drewN | apply Kd.R_drew));exact HO139.out))) (Kd.R_lt (by(with_reducible repeat(first | apply Kd.R_alloc | apply Kd.R_drewN | apply Kd.R_drew));exact HO144.out))) (Kd.R_lt (by(with_reducible repeat(first | apply Kd.R_alloc | apply Kd.R_drewN | apply Kd.R_drew));exact HO148.out))) (bwZ (by repeat(first |(with_reducible first | exact HB.out | apply bwA | apply bwN | apply bw1) | exact HB.out))));have n6_:=Aside0.mk (bwT (by repeat(first |(with_reducible first | exact HB.out | apply bwA | apply bwN | apply bw1) | exact HB.out)) hb);clear HO131;clear HO135;clear HO139;clear HO144;clear HO148;clear HB;have HO131:=n0_;have HO135:=n1_;have HO139:=n2_;have HO144:=n3_;have HO148:=n4_;have HO151:=n5_;have HB:=n6_;clear n0_ n1_ n2_ n3_ n4_ n5_ n6_;clear hb ho109;obtain ⟨Ao110,co110,eo110⟩:=Kd.R_slice HO131.out;subst eo110;obtain ⟨Ao111,co111,eo111⟩:=Kd.R_slice HO151.out;subst eo111) |(go_at_call 22;(with_reducible refine(w10_ints.calls k _ _ t128 _ _ y149 true _ ?side1 ?side2 ?side3 ?side4 A16.out).mono ?_);(case side1=>repeat(first | exact(Kd.R_reads' HO131.out).2.2 |(with_reducible refine Kd.C_alloc ?_ _) |(with_reducible refine Kd.C_drewN ?_ _) |(with_reducible refine Kd.C_drew ?_)));(case side2=>exact(Kd.R_reads' HO131.out).2.1);(case side3=>repeat(first | exact(Kd.R_reads' HO151.out).2.2 |(with_reducible refine Kd.C_alloc ?_ _) |(with_reducible refine Kd.C_drewN ?_ _) |(with_reducible refine Kd.C_drew ?_)));(case side4=>exact(Kd.R_reads' HO151.out).2.1);rintro e w' ⟨rfl,⟨nd,rfl⟩⟩))
   go_meet
   exact⟨_,(true),(by first | rfl |(simp;done) |(simp [*];done)),H',⟨by first | omega | exact Nat.le_refl _⟩,⟨by repeat(first |(with_reducible first | exact HB.out | apply bwA | apply bwN | apply bw1) | exact HB.out)⟩⟩
  rw [if_pos c18] at H
  have c18b0 :(t133 == 0) = true:=beq_iff_eq.mpr c18
  have c18b1 :(t133 != 0) = false:=bne_eq_false_iff_eq.mpr c18
  clear c18
  obtain ⟨y153,hy153⟩ : ∃ y_ : List Int,y_ =(([2,3] : List Int)):=⟨_,rfl⟩
  replace H :((w10_ints.f k t132 y153).bind fun t156=>(if t156 = true then(if t137 = 0 then((w10_ints.f k t136 (([3,2,1] : List Int))).bind fun t160=>(if t160 = true then(if t141 = 0 then(if t140 = 52 then(if t146 = 0 then((w10_ints.f k t145 (([1,2] : List Int))).bind fun t164=>(w10_awake.j0 k (!t164))) else(w10_awake.j0 k true)) else(w10_awake.j0 k true)) else(w10_awake.j0 k true)) else(w10_awake.j0 k true))) else(w10_awake.j0 k true)) else(w10_awake.j0 k true))) = some r:=by first |(rw [hy153];with_reducible exact H) |(have H2_:=(Option.bind_some _ _).symm.trans H;rw [hy153];with_reducible exact H2_) |(have H2_:=(Option.bind_some _ _).symm.trans H;with_reducible exact H2_) | with_reducible exact H |(rw [hy153];exact H) | exact H
  have Ny153:=Aside0.mk hy153
  clear hy153
  replace H:=Option.bind_eq_some_iff.mp H
  obtain ⟨t156,A190,H⟩:=H
  replace H :(if t156 = true then(if t137 = 0 then((w10_ints.f k t136 (([3,2,1] : List Int))).bind fun t160=>(if t160 = true then(if t141 = 0 then(if t140 = 52 then(if t146 = 0 then((w10_ints.f k t145 (([1,2] : List Int))).bind fun t164=>(w10_awake.j0 k (!t164))) else(w10_awake.j0 k true)) else(w10_awake.j0 k true)) else(w10_awake.j0 k true)) else(w10_awake.j0 k true))) else(w10_awake.j0 k true)) else(w10_awake.j0 k true)) = some r:=H
  have A19:=Aside0.mk A190
  clear A190
  by_cases c20 : t156 = true
  rotate_left
  ·replace c20 := Bool.eq_false_iff.mpr c20
   subst c20
   have H1 :(w10_awake.j0 k true) = some r:=by rw [if_neg (show ¬ (false = true) by decide)] at H;exact H
   clear H
   have H:=H1
   clear H1
   have H':=Aside0.mk H
   clear H
   go_wp2_with (first |((with_reducible refine gate_dst (N:=36) rfl ?_);(try(refine gate_guard (by rfl) ?_;dsimp only));refine Kd.R_lit (Kd.int .i64) _ 3 ?hg (N:=36) ?hd (xs:=([1,2] : List Int)) (inner:=[.int .i64 1,.int .i64 2]) (ok:=fun _=>True) (okp:=fun _=>True) ?hr ?hp (fun _ hk=>hk) trivial (Below.refl _ _) (Nat.le_refl _) (by simp) ?_;(case hd=>rfl);(case hg=>rfl);(case hr=>first |(go_simp;done) |(go_simp;rfl));(case hp=>exact(Reps.one (show Kd.M (Kd.int .i64) _ _ _ 1 [.int .i64 1] from rfl) (Reps.one (show Kd.M (Kd.int .i64) _ _ _ 2 [.int .i64 2] from rfl) (Reps.none _ _))));intro v150 w100 ho101 hb hg_ hnew_;clear hg_ hnew_;(first | rw [← Ny149.out] at ho101 |(simp only [Int.reduceToNat] at ho101;rw [← Ny149.out] at ho101));have n0_:=Aside0.mk (Kd.R_elder' (by(with_reducible repeat(first | apply Kd.R_alloc | apply Kd.R_drewN | apply Kd.R_drew));exact HO131.out) (Kd.R_base ho101) hb);have n1_:=Aside0.mk (Kd.R_elder' (by(with_reducible repeat(first | apply Kd.R_alloc | apply Kd.R_drewN | apply Kd.R_drew));exact HO135.out) (Kd.R_base ho101) hb);have n2_:=Aside0.mk (Kd.R_elder' (by(with_reducible repeat(first | apply Kd.R_alloc | apply Kd.R_drewN | apply Kd.R_drew));exact HO139.out) (Kd.R_base ho101) hb);have n3_:=Aside0.mk (Kd.R_elder' (by(with_reducible repeat(first | apply Kd.R_alloc | apply Kd.R_drewN | apply Kd.R_drew));exact HO144.out) (Kd.R_base ho101) hb);have n4_:=Aside0.mk (Kd.R_elder' (by(with_reducible repeat(first | apply Kd.R_alloc | apply Kd.R_drewN | apply Kd.R_drew));exact HO148.out) (Kd.R_base ho101) hb);have n5_:=Aside0.mk (Kd.R_lower (Kd.R_new' (Kd.R_new' (Kd.R_new' (Kd.R_new' (Kd.R_new' ho101 (Kd.R_lt (by(with_reducible repeat(first | apply Kd.R_alloc | apply Kd.R_drewN | apply Kd.R_drew));exact HO131.out))) (Kd.R_lt (by(with_reducible repeat(first | apply Kd.R_alloc | apply Kd.R_drewN | apply Kd.R_drew));exact HO135.out))) (Kd.R_lt (by(with_reducible repeat(first | apply Kd.R_alloc | apply Kd.R_drewN | apply Kd.R_drew));exact HO139.out))) (Kd.R_lt (by(with_reducible repeat(first | apply Kd.R_alloc | apply Kd.R_drewN | apply Kd.R_drew));exact HO144.out))) (Kd.R_lt (by(with_reducible repeat(first | apply Kd.R_alloc | apply Kd.R_drewN | apply Kd.R_drew));exact HO148.out))) (bwZ (by repeat(first |(with_reducible first | exact HB.out | apply bwA | apply bwN | apply bw1) | exact HB.out))));have n6_:=Aside0.mk (bwT (by repeat(first |(with_reducible first | exact HB.out | apply bwA | apply bwN | apply bw1) | exact HB.out)) hb);clear HO131;clear HO135;clear HO139;clear HO144;clear HO148;clear HB;have HO131:=n0_;have HO135:=n1_;have HO139:=n2_;have HO144:=n3_;have HO148:=n4_;have HO151:=n5_;have HB:=n6_;clear n0_ n1_ n2_ n3_ n4_ n5_ n6_;clear hb ho101;obtain ⟨Ao102,co102,eo102⟩:=Kd.R_slice HO131.out;subst eo102;obtain ⟨Ao103,co103,eo103⟩:=Kd.R_slice HO151.out;subst eo103) |(go_at_call 22;(with_reducible refine(w10_ints.calls k _ _ t128 _ _ y149 true _ ?side1 ?side2 ?side3 ?side4 A16.out).mono ?_);(case side1=>repeat(first | exact(Kd.R_reads' HO131.out).2.2 |(with_reducible refine Kd.C_alloc ?_ _) |(with_reducible refine Kd.C_drewN ?_ _) |(with_reducible refine Kd.C_drew ?_)));(case side2=>exact(Kd.R_reads' HO131.out).2.1);(case side3=>repeat(first | exact(Kd.R_reads' HO151.out).2.2 |(with_reducible refine Kd.C_alloc ?_ _) |(with_reducible refine Kd.C_drewN ?_ _) |(with_reducible refine Kd.C_drew ?_)));(case side4=>exact(Kd.R_reads' HO151.out).2.1);rintro e w' ⟨rfl,⟨nd,rfl⟩⟩) |((with_reducible refine gate_dst (N:=46) rfl ?_);(try(refine gate_guard (by rfl) ?_;dsimp only));refine Kd.R_lit (Kd.int .i64) _ 3 ?hg (N:=46) ?hd (xs:=([2,3] : List Int)) (inner:=[.int .i64 2,.int .i64 3]) (ok:=fun _=>True) (okp:=fun _=>True) ?hr ?hp (fun _ hk=>hk) trivial (Below.refl _ _) (Nat.le_refl _) (by simp) ?_;(case hd=>rfl);(case hg=>rfl);(case hr=>first |(go_simp;done) |(go_simp;rfl));(case hp=>exact(Reps.one (show Kd.M (Kd.int .i64) _ _ _ 2 [.int .i64 2] from rfl) (Reps.one (show Kd.M (Kd.int .i64) _ _ _ 3 [.int .i64 3] from rfl) (Reps.none _ _))));intro v154 w104 ho105 hb hg_ hnew_;clear hg_ hnew_;(first | rw [← Ny153.out] at ho105 |(simp only [Int.reduceToNat] at ho105;rw [← Ny153.out] at ho105));have n0_:=Aside0.mk (Kd.R_elder' (by(with_reducible repeat(first | apply Kd.R_alloc | apply Kd.R_drewN | apply Kd.R_drew));exact HO131.out) (Kd.R_base ho105) hb);have n1_:=Aside0.mk (Kd.R_elder' (by(with_reducible repeat(first | apply Kd.R_alloc | apply Kd.R_drewN | apply Kd.R_drew));exact HO135.out) (Kd.R_base ho105) hb);have n2_:=Aside0.mk (Kd.R_elder' (by(with_reducible repeat(first | apply Kd.R_alloc | apply Kd.R_drewN | apply Kd.R_drew));exact HO139.out) (Kd.R_base ho105) hb);have n3_:=Aside0.mk (Kd.R_elder' (by(with_reducible repeat(first | apply Kd.R_alloc | apply Kd.R_drewN | apply Kd.R_drew));exact HO144.out) (Kd.R_base ho105) hb);have n4_:=Aside0.mk (Kd.R_elder' (by(with_reducible repeat(first | apply Kd.R_alloc | apply Kd.R_drewN | apply Kd.R_drew));exact HO148.out) (Kd.R_base ho105) hb);have n5_:=Aside0.mk (Kd.R_elder' (by(with_reducible repeat(first | apply Kd.R_alloc | apply Kd.R_drewN | apply Kd.R_drew));exact HO151.out) (Kd.R_base ho105) hb);have n6_:=Aside0.mk (Kd.R_lower (Kd.R_new' (Kd.R_new' (Kd.R_new' (Kd.R_new' (Kd.R_new' (Kd.R_new' ho105 (Kd.R_lt (by(with_reducible repeat(first | apply Kd.R_alloc | apply Kd.R_drewN | apply Kd.R_drew));exact HO131.out))) (Kd.R_lt (by(with_reducible repeat(first | apply Kd.R_alloc | apply Kd.R_drewN | apply Kd.R_drew));exact HO135.out))) (Kd.R_lt (by(with_reducible repeat(first | apply Kd.R_alloc | apply Kd.R_drewN | apply Kd.R_drew));exact HO139.out))) (Kd.R_lt (by(with_reducible repeat(first | apply Kd.R_alloc | apply Kd.R_drewN | apply Kd.R_drew));exact HO144.out))) (Kd.R_lt (by(with_reducible repeat(first | apply Kd.R_alloc | apply Kd.R_drewN | apply Kd.R_drew));exact HO148.out))) (Kd.R_lt (by(with_reducible repeat(first | apply Kd.R_alloc | apply Kd.R_drewN | apply Kd.R_drew));exact HO151.out))) (bwZ (by repeat(first |(with_reducible first | exact HB.out | apply bwA | apply bwN | apply bw1) | exact HB.out))));have n7_:=Aside0.mk (bwT (by repeat(first |(with_reducible first | exact HB.out | apply bwA | apply bwN | apply bw1) | exact HB.out)) hb);clear HO131;clear HO135;clear HO139;clear HO144;clear HO148;clear HO151;clear HB;have HO131:=n0_;have HO135:=n1_;have HO139:=n2_;have HO144:=n3_;have HO148:=n4_;have HO151:=n5_;have HO155:=n6_;have HB:=n7_;clear n0_ n1_ n2_ n3_ n4_ n5_ n6_ n7_;clear hb ho105;obtain ⟨Ao106,co106,eo106⟩:=Kd.R_slice HO135.out;subst eo106;obtain ⟨Ao107,co107,eo107⟩:=Kd.R_slice HO155.out;subst eo107) |(go_at_call 22;(with_reducible refine(w10_ints.calls k _ _ t132 _ _ y153 false _ ?side1 ?side2 ?side3 ?side4 A19.out).mono ?_);(case side1=>repeat(first | exact(Kd.R_reads' HO135.out).2.2 |(with_reducible refine Kd.C_alloc ?_ _) |(with_reducible refine Kd.C_drewN ?_ _) |(with_reducible refine Kd.C_drew ?_)));(case side2=>exact(Kd.R_reads' HO135.out).2.1);(case side3=>repeat(first | exact(Kd.R_reads' HO155.out).2.2 |(with_reducible refine Kd.C_alloc ?_ _) |(with_reducible refine Kd.C_drewN ?_ _) |(with_reducible refine Kd.C_drew ?_)));(case side4=>exact(Kd.R_reads' HO155.out).2.1);rintro e w' ⟨rfl,⟨nd,rfl⟩⟩))
   go_meet
   exact⟨_,(true),(by first | rfl |(simp;done) |(simp [*];done)),H',⟨by first | omega | exact Nat.le_refl _⟩,⟨by repeat(first |(with_reducible first | exact HB.out | apply bwA | apply bwN | apply bw1) | exact HB.out)⟩⟩
  subst c20
  have H1 :(if t137 = 0 then((w10_ints.f k t136 (([3,2,1] : List Int))).bind fun t160=>(if t160 = true then(if t141 = 0 then(if t140 = 52 then(if t146 = 0 then((w10_ints.f k t145 (([1,2] : List Int))).bind fun t164=>(w10_awake.j0 k (!t164))) else(w10_awake.j0 k true)) else(w10_awake.j0 k true)) else(w10_awake.j0 k true)) else(w10_awake.j0 k true))) else(w10_awake.j0 k true)) = some r:=by rw [if_pos rfl] at H;exact H
  clear H
  have H:=H1
  clear H1
  by_cases c21 : t137 = 0
  rotate_left
  ·rw [if_neg c21] at H
   have c21b0 :(t137 == 0) = false:=beq_eq_false_iff_ne.mpr c21
   have c21b1 :(t137 != 0) = true:=bne_iff_ne.mpr c21
   have H':=Aside0.mk H
   clear H
   go_wp2_with (first |((with_reducible refine gate_dst (N:=36) rfl ?_);(try(refine gate_guard (by rfl) ?_;dsimp only));refine Kd.R_lit (Kd.int .i64) _ 3 ?hg (N:=36) ?hd (xs:=([1,2] : List Int)) (inner:=[.int .i64 1,.int .i64 2]) (ok:=fun _=>True) (okp:=fun _=>True) ?hr ?hp (fun _ hk=>hk) trivial (Below.refl _ _) (Nat.le_refl _) (by simp) ?_;(case hd=>rfl);(case hg=>rfl);(case hr=>first |(go_simp;done) |(go_simp;rfl));(case hp=>exact(Reps.one (show Kd.M (Kd.int .i64) _ _ _ 1 [.int .i64 1] from rfl) (Reps.one (show Kd.M (Kd.int .i64) _ _ _ 2 [.int .i64 2] from rfl) (Reps.none _ _))));intro v150 w92 ho93 hb hg_ hnew_;clear hg_ hnew_;(first | rw [← Ny149.out] at ho93 |(simp only [Int.reduceToNat] at ho93;rw [← Ny149.out] at ho93));have n0_:=Aside0.mk (Kd.R_elder' (by(with_reducible repeat(first | apply Kd.R_alloc | apply Kd.R_drewN | apply Kd.R_drew));exact HO131.out) (Kd.R_base ho93) hb);have n1_:=Aside0.mk (Kd.R_elder' (by(with_reducible repeat(first | apply Kd.R_alloc | apply Kd.R_drewN | apply Kd.R_drew));exact HO135.out) (Kd.R_base ho93) hb);have n2_:=Aside0.mk (Kd.R_elder' (by(with_reducible repeat(first | apply Kd.R_alloc | apply Kd.R_drewN | apply Kd.R_drew));exact HO139.out) (Kd.R_base ho93) hb);have n3_:=Aside0.mk (Kd.R_elder' (by(with_reducible repeat(first | apply Kd.R_alloc | apply Kd.R_drewN | apply Kd.R_drew));exact HO144.out) (Kd.R_base ho93) hb);have n4_:=Aside0.mk (Kd.R_elder' (by(with_reducible repeat(first | apply Kd.R_alloc | apply Kd.R_drewN | apply Kd.R_drew));exact HO148.out) (Kd.R_base ho93) hb);have n5_:=Aside0.mk (Kd.R_lower (Kd.R_new' (Kd.R_new' (Kd.R_new' (Kd.R_new' (Kd.R_new' ho93 (Kd.R_lt (by(with_reducible repeat(first | apply Kd.R_alloc | apply Kd.R_drewN | apply Kd.R_drew));exact HO131.out))) (Kd.R_lt (by(with_reducible repeat(first | apply Kd.R_alloc | apply Kd.R_drewN | apply Kd.R_drew));exact HO135.out))) (Kd.R_lt (by(with_reducible repeat(first | apply Kd.R_alloc | apply Kd.R_drewN | apply Kd.R_drew));exact HO139.out))) (Kd.R_lt (by(with_reducible repeat(first | apply Kd.R_alloc | apply Kd.R_drewN | apply Kd.R_drew));exact HO144.out))) (Kd.R_lt (by(with_reducible repeat(first | apply Kd.R_alloc | apply Kd.R_drewN | apply Kd.R_drew));exact HO148.out))) (bwZ (by repeat(first |(with_reducible first | exact HB.out | apply bwA | apply bwN | apply bw1) | exact HB.out))));have n6_:=Aside0.mk (bwT (by repeat(first |(with_reducible first | exact HB.out | apply bwA | apply bwN | apply bw1) | exact HB.out)) hb);clear HO131;clear HO135;clear HO139;clear HO144;clear HO148;clear HB;have HO131:=n0_;have HO135:=n1_;have HO139:=n2_;have HO144:=n3_;have HO148:=n4_;have HO151:=n5_;have HB:=n6_;clear n0_ n1_ n2_ n3_ n4_ n5_ n6_;clear hb ho93;obtain ⟨Ao94,co94,eo94⟩:=Kd.R_slice HO131.out;subst eo94;obtain ⟨Ao95,co95,eo95⟩:=Kd.R_slice HO151.out;subst eo95) |(go_at_call 22;(with_reducible refine(w10_ints.calls k _ _ t128 _ _ y149 true _ ?side1 ?side2 ?side3 ?side4 A16.out).mono ?_);(case side1=>repeat(first | exact(Kd.R_reads' HO131.out).2.2 |(with_reducible refine Kd.C_alloc ?_ _) |(with_reducible refine Kd.C_drewN ?_ _) |(with_reducible refine Kd.C_drew ?_)));(case side2=>exact(Kd.R_reads' HO131.out).2.1);(case side3=>repeat(first | exact(Kd.R_reads' HO151.out).2.2 |(with_reducible refine Kd.C_alloc ?_ _) |(with_reducible refine Kd.C_drewN ?_ _) |(with_reducible refine Kd.C_drew ?_)));(case side4=>exact(Kd.R_reads' HO151.out).2.1);rintro e w' ⟨rfl,⟨nd,rfl⟩⟩) |((with_reducible refine gate_dst (N:=46) rfl ?_);(try(refine gate_guard (by rfl) ?_;dsimp only));refine Kd.R_lit (Kd.int .i64) _ 3 ?hg (N:=46) ?hd (xs:=([2,3] : List Int)) (inner:=[.int .i64 2,.int .i64 3]) (ok:=fun _=>True) (okp:=fun _=>True) ?hr ?hp (fun _ hk=>hk) trivial (Below.refl _ _) (Nat.le_refl _) (by simp) ?_;(case hd=>rfl);(case hg=>rfl);(case hr=>first |(go_simp;done) |(go_simp;rfl));(case hp=>exact(Reps.one (show Kd.M (Kd.int .i64) _ _ _ 2 [.int .i64 2] from rfl) (Reps.one (show Kd.M (Kd.int .i64) _ _ _ 3 [.int .i64 3] from rfl) (Reps.none _ _))));intro v154 w96 ho97 hb hg_ hnew_;clear hg_ hnew_;(first | rw [← Ny153.out] at ho97 |(simp only [Int.reduceToNat] at ho97;rw [← Ny153.out] at ho97));have n0_:=Aside0.mk (Kd.R_elder' (by(with_reducible repeat(first | apply Kd.R_alloc | apply Kd.R_drewN | apply Kd.R_drew));exact HO131.out) (Kd.R_base ho97) hb);have n1_:=Aside0.mk (Kd.R_elder' (by(with_reducible repeat(first | apply Kd.R_alloc | apply Kd.R_drewN | apply Kd.R_drew));exact HO135.out) (Kd.R_base ho97) hb);have n2_:=Aside0.mk (Kd.R_elder' (by(with_reducible repeat(first | apply Kd.R_alloc | apply Kd.R_drewN | apply Kd.R_drew));exact HO139.out) (Kd.R_base ho97) hb);have n3_:=Aside0.mk (Kd.R_elder' (by(with_reducible repeat(first | apply Kd.R_alloc | apply Kd.R_drewN | apply Kd.R_drew));exact HO144.out) (Kd.R_base ho97) hb);have n4_:=Aside0.mk (Kd.R_elder' (by(with_reducible repeat(first | apply Kd.R_alloc | apply Kd.R_drewN | apply Kd.R_drew));exact HO148.out) (Kd.R_base ho97) hb);have n5_:=Aside0.mk (Kd.R_elder' (by(with_reducible repeat(first | apply Kd.R_alloc | apply Kd.R_drewN | apply Kd.R_drew));exact HO151.out) (Kd.R_base ho97) hb);have n6_:=Aside0.mk (Kd.R_lower (Kd.R_new' (Kd.R_new' (Kd.R_new' (Kd.R_new' (Kd.R_new' (Kd.R_new' ho97 (Kd.R_lt (by(with_reducible repeat(first | apply Kd.R_alloc | apply Kd.R_drewN | apply Kd.R_drew));exact HO131.out))) (Kd.R_lt (by(with_reducible repeat(first | apply Kd.R_alloc | apply Kd.R_drewN | apply Kd.R_drew));exact HO135.out))) (Kd.R_lt (by(with_reducible repeat(first | apply Kd.R_alloc | apply Kd.R_drewN | apply Kd.R_drew));exact HO139.out))) (Kd.R_lt (by(with_reducible repeat(first | apply Kd.R_alloc | apply Kd.R_drewN | apply Kd.R_drew));exact HO144.out))) (Kd.R_lt (by(with_reducible repeat(first | apply Kd.R_alloc | apply Kd.R_drewN | apply Kd.R_drew));exact HO148.out))) (Kd.R_lt (by(with_reducible repeat(first | apply Kd.R_alloc | apply Kd.R_drewN | apply Kd.R_drew));exact HO151.out))) (bwZ (by repeat(first |(with_reducible first | exact HB.out | apply bwA | apply bwN | apply bw1) | exact HB.out))));have n7_:=Aside0.mk (bwT (by repeat(first |(with_reducible first | exact HB.out | apply bwA | apply bwN | apply bw1) | exact HB.out)) hb);clear HO131;clear HO135;clear HO139;clear HO144;clear HO148;clear HO151;clear HB;have HO131:=n0_;have HO135:=n1_;have HO139:=n2_;have HO144:=n3_;have HO148:=n4_;have HO151:=n5_;have HO155:=n6_;have HB:=n7_;clear n0_ n1_ n2_ n3_ n4_ n5_ n6_ n7_;clear hb ho97;obtain ⟨Ao98,co98,eo98⟩:=Kd.R_slice HO135.out;subst eo98;obtain ⟨Ao99,co99,eo99⟩:=Kd.R_slice HO155.out;subst eo99) |(go_at_call 22;(with_reducible refine(w10_ints.calls k _ _ t132 _ _ y153 true _ ?side1 ?side2 ?side3 ?side4 A19.out).mono ?_);(case side1=>repeat(first | exact(Kd.R_reads' HO135.out).2.2 |(with_reducible refine Kd.C_alloc ?_ _) |(with_reducible refine Kd.C_drewN ?_ _) |(with_reducible refine Kd.C_drew ?_)));(case side2=>exact(Kd.R_reads' HO135.out).2.1);(case side3=>repeat(first | exact(Kd.R_reads' HO155.out).2.2 |(with_reducible refine Kd.C_alloc ?_ _) |(with_reducible refine Kd.C_drewN ?_ _) |(with_reducible refine Kd.C_drew ?_)));(case side4=>exact(Kd.R_reads' HO155.out).2.1);rintro e w' ⟨rfl,⟨nd,rfl⟩⟩))
   go_meet
   exact⟨_,(true),(by first | rfl |(simp;done) |(simp [*];done)),H',⟨by first | omega | exact Nat.le_refl _⟩,⟨by repeat(first |(with_reducible first | exact HB.out | apply bwA | apply bwN | apply bw1) | exact HB.out)⟩⟩
  rw [if_pos c21] at H
  have c21b0 :(t137 == 0) = true:=beq_iff_eq.mpr c21
  have c21b1 :(t137 != 0) = false:=bne_eq_false_iff_eq.mpr c21
  clear c21
  obtain ⟨y157,hy157⟩ : ∃ y_ : List Int,y_ =(([3,2,1] : List Int)):=⟨_,rfl⟩
  replace H :((w10_ints.f k t136 y157).bind fun t160=>(if t160 = true then(if t141 = 0 then(if t140 = 52 then(if t146 = 0 then((w10_ints.f k t145 (([1,2] : List Int))).bind fun t164=>(w10_awake.j0 k (!t164))) else(w10_awake.j0 k true)) else(w10_awake.j0 k true)) else(w10_awake.j0 k true)) else(w10_awake.j0 k true))) = some r:=by first |(rw [hy157];with_reducible exact H) |(have H2_:=(Option.bind_some _ _).symm.trans H;rw [hy157];with_reducible exact H2_) |(have H2_:=(Option.bind_some _ _).symm.trans H;with_reducible exact H2_) | with_reducible exact H |(rw [hy157];exact H) | exact H
  have Ny157:=Aside0.mk hy157
  clear hy157
  replace H:=Option.bind_eq_some_iff.mp H
  obtain ⟨t160,A220,H⟩:=H
  replace H :(if t160 = true then(if t141 = 0 then(if t140 = 52 then(if t146 = 0 then((w10_ints.f k t145 (([1,2] : List Int))).bind fun t164=>(w10_awake.j0 k (!t164))) else(w10_awake.j0 k true)) else(w10_awake.j0 k true)) else(w10_awake.j0 k true)) else(w10_awake.j0 k true)) = some r:=H
  have A22:=Aside0.mk A220
  clear A220
  by_cases c23 : t160 = true
  rotate_left
  ·replace c23 := Bool.eq_false_iff.mpr c23
   subst c23
   have H1 :(w10_awake.j0 k true) = some r:=by rw [if_neg (show ¬ (false = true) by decide)] at H;exact H
   clear H
   have H:=H1
   clear H1
   have H':=Aside0.mk H
   clear H
   go_wp2_with (first |((with_reducible refine gate_dst (N:=36) rfl ?_);(try(refine gate_guard (by rfl) ?_;dsimp only));refine Kd.R_lit (Kd.int .i64) _ 3 ?hg (N:=36) ?hd (xs:=([1,2] : List Int)) (inner:=[.int .i64 1,.int .i64 2]) (ok:=fun _=>True) (okp:=fun _=>True) ?hr ?hp (fun _ hk=>hk) trivial (Below.refl _ _) (Nat.le_refl _) (by simp) ?_;(case hd=>rfl);(case hg=>rfl);(case hr=>first |(go_simp;done) |(go_simp;rfl));(case hp=>exact(Reps.one (show Kd.M (Kd.int .i64) _ _ _ 1 [.int .i64 1] from rfl) (Reps.one (show Kd.M (Kd.int .i64) _ _ _ 2 [.int .i64 2] from rfl) (Reps.none _ _))));intro v150 w80 ho81 hb hg_ hnew_;clear hg_ hnew_;(first | rw [← Ny149.out] at ho81 |(simp only [Int.reduceToNat] at ho81;rw [← Ny149.out] at ho81));have n0_:=Aside0.mk (Kd.R_elder' (by(with_reducible repeat(first | apply Kd.R_alloc | apply Kd.R_drewN | apply Kd.R_drew));exact HO131.out) (Kd.R_base ho81) hb);have n1_:=Aside0.mk (Kd.R_elder' (by(with_reducible repeat(first | apply Kd.R_alloc | apply Kd.R_drewN | apply Kd.R_drew));exact HO135.out) (Kd.R_base ho81) hb);have n2_:=Aside0.mk (Kd.R_elder' (by(with_reducible repeat(first | apply Kd.R_alloc | apply Kd.R_drewN | apply Kd.R_drew));exact HO139.out) (Kd.R_base ho81) hb);have n3_:=Aside0.mk (Kd.R_elder' (by(with_reducible repeat(first | apply Kd.R_alloc | apply Kd.R_drewN | apply Kd.R_drew));exact HO144.out) (Kd.R_base ho81) hb);have n4_:=Aside0.mk (Kd.R_elder' (by(with_reducible repeat(first | apply Kd.R_alloc | apply Kd.R_drewN | apply Kd.R_drew));exact HO148.out) (Kd.R_base ho81) hb);have n5_:=Aside0.mk (Kd.R_lower (Kd.R_new' (Kd.R_new' (Kd.R_new' (Kd.R_new' (Kd.R_new' ho81 (Kd.R_lt (by(with_reducible repeat(first | apply Kd.R_alloc | apply Kd.R_drewN | apply Kd.R_drew));exact HO131.out))) (Kd.R_lt (by(with_reducible repeat(first | apply Kd.R_alloc | apply Kd.R_drewN | apply Kd.R_drew));exact HO135.out))) (Kd.R_lt (by(with_reducible repeat(first | apply Kd.R_alloc | apply Kd.R_drewN | apply Kd.R_drew));exact HO139.out))) (Kd.R_lt (by(with_reducible repeat(first | apply Kd.R_alloc | apply Kd.R_drewN | apply Kd.R_drew));exact HO144.out))) (Kd.R_lt (by(with_reducible repeat(first | apply Kd.R_alloc | apply Kd.R_drewN | apply Kd.R_drew));exact HO148.out))) (bwZ (by repeat(first |(with_reducible first | exact HB.out | apply bwA | apply bwN | apply bw1) | exact HB.out))));have n6_:=Aside0.mk (bwT (by repeat(first |(with_reducible first | exact HB.out | apply bwA | apply bwN | apply bw1) | exact HB.out)) hb);clear HO131;clear HO135;clear HO139;clear HO144;clear HO148;clear HB;have HO131:=n0_;have HO135:=n1_;have HO139:=n2_;have HO144:=n3_;have HO148:=n4_;have HO151:=n5_;have HB:=n6_;clear n0_ n1_ n2_ n3_ n4_ n5_ n6_;clear hb ho81;obtain ⟨Ao82,co82,eo82⟩:=Kd.R_slice HO131.out;subst eo82;obtain ⟨Ao83,co83,eo83⟩:=Kd.R_slice HO151.out;subst eo83) |(go_at_call 22;(with_reducible refine(w10_ints.calls k _ _ t128 _ _ y149 true _ ?side1 ?side2 ?side3 ?side4 A16.out).mono ?_);(case side1=>repeat(first | exact(Kd.R_reads' HO131.out).2.2 |(with_reducible refine Kd.C_alloc ?_ _) |(with_reducible refine Kd.C_drewN ?_ _) |(with_reducible refine Kd.C_drew ?_)));(case side2=>exact(Kd.R_reads' HO131.out).2.1);(case side3=>repeat(first | exact(Kd.R_reads' HO151.out).2.2 |(with_reducible refine Kd.C_alloc ?_ _) |(with_reducible refine Kd.C_drewN ?_ _) |(with_reducible refine Kd.C_drew ?_)));(case side4=>exact(Kd.R_reads' HO151.out).2.1);rintro e w' ⟨rfl,⟨nd,rfl⟩⟩) |((with_reducible refine gate_dst (N:=46) rfl ?_);(try(refine gate_guard (by rfl) ?_;dsimp only));refine Kd.R_lit (Kd.int .i64) _ 3 ?hg (N:=46) ?hd (xs:=([2,3] : List Int)) (inner:=[.int .i64 2,.int .i64 3]) (ok:=fun _=>True) (okp:=fun _=>True) ?hr ?hp (fun _ hk=>hk) trivial (Below.refl _ _) (Nat.le_refl _) (by simp) ?_;(case hd=>rfl);(case hg=>rfl);(case hr=>first |(go_simp;done) |(go_simp;rfl));(case hp=>exact(Reps.one (show Kd.M (Kd.int .i64) _ _ _ 2 [.int .i64 2] from rfl) (Reps.one (show Kd.M (Kd.int .i64) _ _ _ 3 [.int .i64 3] from rfl) (Reps.none _ _))));intro v154 w84 ho85 hb hg_ hnew_;clear hg_ hnew_;(first | rw [← Ny153.out] at ho85 |(simp only [Int.reduceToNat] at ho85;rw [← Ny153.out] at ho85));have n0_:=Aside0.mk (Kd.R_elder' (by(with_reducible repeat(first | apply Kd.R_alloc | apply Kd.R_drewN | apply Kd.R_drew));exact HO131.out) (Kd.R_base ho85) hb);have n1_:=Aside0.mk (Kd.R_elder' (by(with_reducible repeat(first | apply Kd.R_alloc | apply Kd.R_drewN | apply Kd.R_drew));exact HO135.out) (Kd.R_base ho85) hb);have n2_:=Aside0.mk (Kd.R_elder' (by(with_reducible repeat(first | apply Kd.R_alloc | apply Kd.R_drewN | apply Kd.R_drew));exact HO139.out) (Kd.R_base ho85) hb);have n3_:=Aside0.mk (Kd.R_elder' (by(with_reducible repeat(first | apply Kd.R_alloc | apply Kd.R_drewN | apply Kd.R_drew));exact HO144.out) (Kd.R_base ho85) hb);have n4_:=Aside0.mk (Kd.R_elder' (by(with_reducible repeat(first | apply Kd.R_alloc | apply Kd.R_drewN | apply Kd.R_drew));exact HO148.out) (Kd.R_base ho85) hb);have n5_:=Aside0.mk (Kd.R_elder' (by(with_reducible repeat(first | apply Kd.R_alloc | apply Kd.R_drewN | apply Kd.R_drew));exact HO151.out) (Kd.R_base ho85) hb);have n6_:=Aside0.mk (Kd.R_lower (Kd.R_new' (Kd.R_new' (Kd.R_new' (Kd.R_new' (Kd.R_new' (Kd.R_new' ho85 (Kd.R_lt (by(with_reducible repeat(first | apply Kd.R_alloc | apply Kd.R_drewN | apply Kd.R_drew));exact HO131.out))) (Kd.R_lt (by(with_reducible repeat(first | apply Kd.R_alloc | apply Kd.R_drewN | apply Kd.R_drew));exact HO135.out))) (Kd.R_lt (by(with_reducible repeat(first | apply Kd.R_alloc | apply Kd.R_drewN | apply Kd.R_drew));exact HO139.out))) (Kd.R_lt (by(with_reducible repeat(first | apply Kd.R_alloc | apply Kd.R_drewN | apply Kd.R_drew));exact HO144.out))) (Kd.R_lt (by(with_reducible repeat(first | apply Kd.R_alloc | apply Kd.R_drewN | apply Kd.R_drew));exact HO148.out))) (Kd.R_lt (by(with_reducible repeat(first | apply Kd.R_alloc | apply Kd.R_drewN | apply Kd.R_drew));exact HO151.out))) (bwZ (by repeat(first |(with_reducible first | exact HB.out | apply bwA | apply bwN | apply bw1) | exact HB.out))));have n7_:=Aside0.mk (bwT (by repeat(first |(with_reducible first | exact HB.out | apply bwA | apply bwN | apply bw1) | exact HB.out)) hb);clear HO131;clear HO135;clear HO139;clear HO144;clear HO148;clear HO151;clear HB;have HO131:=n0_;have HO135:=n1_;have HO139:=n2_;have HO144:=n3_;have HO148:=n4_;have HO151:=n5_;have HO155:=n6_;have HB:=n7_;clear n0_ n1_ n2_ n3_ n4_ n5_ n6_ n7_;clear hb ho85;obtain ⟨Ao86,co86,eo86⟩:=Kd.R_slice HO135.out;subst eo86;obtain ⟨Ao87,co87,eo87⟩:=Kd.R_slice HO155.out;subst eo87) |(go_at_call 22;(with_reducible refine(w10_ints.calls k _ _ t132 _ _ y153 true _ ?side1 ?side2 ?side3 ?side4 A19.out).mono ?_);(case side1=>repeat(first | exact(Kd.R_reads' HO135.out).2.2 |(with_reducible refine Kd.C_alloc ?_ _) |(with_reducible refine Kd.C_drewN ?_ _) |(with_reducible refine Kd.C_drew ?_)));(case side2=>exact(Kd.R_reads' HO135.out).2.1);(case side3=>repeat(first | exact(Kd.R_reads' HO155.out).2.2 |(with_reducible refine Kd.C_alloc ?_ _) |(with_reducible refine Kd.C_drewN ?_ _) |(with_reducible refine Kd.C_drew ?_)));(case side4=>exact(Kd.R_reads' HO155.out).2.1);rintro e w' ⟨rfl,⟨nd,rfl⟩⟩) |((with_reducible refine gate_dst (N:=56) rfl ?_);(try(refine gate_guard (by rfl) ?_;dsimp only));refine Kd.R_lit (Kd.int .i64) _ 3 ?hg (N:=56) ?hd (xs:=([3,2,1] : List Int)) (inner:=[.int .i64 3,.int .i64 2,.int .i64 1]) (ok:=fun _=>True) (okp:=fun _=>True) ?hr ?hp (fun _ hk=>hk) trivial (Below.refl _ _) (Nat.le_refl _) (by simp) ?_;(case hd=>rfl);(case hg=>rfl);(case hr=>first |(go_simp;done) |(go_simp;rfl));(case hp=>exact(Reps.one (show Kd.M (Kd.int .i64) _ _ _ 3 [.int .i64 3] from rfl) (Reps.one (show Kd.M (Kd.int .i64) _ _ _ 2 [.int .i64 2] from rfl) (Reps.one (show Kd.M (Kd.int .i64) _ _ _ 1 [.int .i64 1] from rfl) (Reps.none _ _)))));intro v158 w88 ho89 hb hg_ hnew_;clear hg_ hnew_;(first | rw [← Ny157.out] at ho89 |(simp only [Int.reduceToNat] at ho89;rw [← Ny157.out] at ho89));have n0_:=Aside0.mk (Kd.R_elder' (by(with_reducible repeat(first | apply Kd.R_alloc | apply Kd.R_drewN | apply Kd.R_drew));exact HO131.out) (Kd.R_base ho89) hb);have n1_:=Aside0.mk (Kd.R_elder' (by(with_reducible repeat(first | apply Kd.R_alloc | apply Kd.R_drewN | apply Kd.R_drew));exact HO135.out) (Kd.R_base ho89) hb);have n2_:=Aside0.mk (Kd.R_elder' (by(with_reducible repeat(first | apply Kd.R_alloc | apply Kd.R_drewN | apply Kd.R_drew));exact HO139.out) (Kd.R_base ho89) hb);have n3_:=Aside0.mk (Kd.R_elder' (by(with_reducible repeat(first | apply Kd.R_alloc | apply Kd.R_drewN | apply Kd.R_drew));exact HO144.out) (Kd.R_base ho89) hb);have n4_:=Aside0.mk (Kd.R_elder' (by(with_reducible repeat(first | apply Kd.R_alloc | apply Kd.R_drewN | apply Kd.R_drew));exact HO148.out) (Kd.R_base ho89) hb);have n5_:=Aside0.mk (Kd.R_elder' (by(with_reducible repeat(first | apply Kd.R_alloc | apply Kd.R_drewN | apply Kd.R_drew));exact HO151.out) (Kd.R_base ho89) hb);have n6_:=Aside0.mk (Kd.R_elder' (by(with_reducible repeat(first | apply Kd.R_alloc | apply Kd.R_drewN | apply Kd.R_drew));exact HO155.out) (Kd.R_base ho89) hb);have n7_:=Aside0.mk (Kd.R_lower (Kd.R_new' (Kd.R_new' (Kd.R_new' (Kd.R_new' (Kd.R_new' (Kd.R_new' (Kd.R_new' ho89 (Kd.R_lt (by(with_reducible repeat(first | apply Kd.R_alloc | apply Kd.R_drewN | apply Kd.R_drew));exact HO131.out))) (Kd.R_lt (by(with_reducible repeat(first | apply Kd.R_alloc | apply Kd.R_drewN | apply Kd.R_drew));exact HO135.out))) (Kd.R_lt (by(with_reducible repeat(first | apply Kd.R_alloc | apply Kd.R_drewN | apply Kd.R_drew));exact HO139.out))) (Kd.R_lt (by(with_reducible repeat(first | apply Kd.R_alloc | apply Kd.R_drewN | apply Kd.R_drew));exact HO144.out))) (Kd.R_lt (by(with_reducible repeat(first | apply Kd.R_alloc | apply Kd.R_drewN | apply Kd.R_drew));exact HO148.out))) (Kd.R_lt (by(with_reducible repeat(first | apply Kd.R_alloc | apply Kd.R_drewN | apply Kd.R_drew));exact HO151.out))) (Kd.R_lt (by(with_reducible repeat(first | apply Kd.R_alloc | apply Kd.R_drewN | apply Kd.R_drew));exact HO155.out))) (bwZ (by repeat(first |(with_reducible first | exact HB.out | apply bwA | apply bwN | apply bw1) | exact HB.out))));have n8_:=Aside0.mk (bwT (by repeat(first |(with_reducible first | exact HB.out | apply bwA | apply bwN | apply bw1) | exact HB.out)) hb);clear HO131;clear HO135;clear HO139;clear HO144;clear HO148;clear HO151;clear HO155;clear HB;have HO131:=n0_;have HO135:=n1_;have HO139:=n2_;have HO144:=n3_;have HO148:=n4_;have HO151:=n5_;have HO155:=n6_;have HO159:=n7_;have HB:=n8_;clear n0_ n1_ n2_ n3_ n4_ n5_ n6_ n7_ n8_;clear hb ho89;obtain ⟨Ao90,co90,eo90⟩:=Kd.R_slice HO139.out;subst eo90;obtain ⟨Ao91,co91,eo91⟩:=Kd.R_slice HO159.out;subst eo91) |(go_at_call 22;(with_reducible refine(w10_ints.calls k _ _ t136 _ _ y157 false _ ?side1 ?side2 ?side3 ?side4 A22.out).mono ?_);(case side1=>repeat(first | exact(Kd.R_reads' HO139.out).2.2 |(with_reducible refine Kd.C_alloc ?_ _) |(with_reducible refine Kd.C_drewN ?_ _) |(with_reducible refine Kd.C_drew ?_)));(case side2=>exact(Kd.R_reads' HO139.out).2.1);(case side3=>repeat(first | exact(Kd.R_reads' HO159.out).2.2 |(with_reducible refine Kd.C_alloc ?_ _) |(with_reducible refine Kd.C_drewN ?_ _) |(with_reducible refine Kd.C_drew ?_)));(case side4=>exact(Kd.R_reads' HO159.out).2.1);rintro e w' ⟨rfl,⟨nd,rfl⟩⟩))
   go_meet
   exact⟨_,(true),(by first | rfl |(simp;done) |(simp [*];done)),H',⟨by first | omega | exact Nat.le_refl _⟩,⟨by repeat(first |(with_reducible first | exact HB.out | apply bwA | apply bwN | apply bw1) | exact HB.out)⟩⟩
  subst c23
  have H1 :(if t141 = 0 then(if t140 = 52 then(if t146 = 0 then((w10_ints.f k t145 (([1,2] : List Int))).bind fun t164=>(w10_awake.j0 k (!t164))) else(w10_awake.j0 k true)) else(w10_awake.j0 k true)) else(w10_awake.j0 k true)) = some r:=by rw [if_pos rfl] at H;exact H
  clear H
  have H:=H1
  clear H1
  by_cases c24 : t141 = 0
  rotate_left
  ·rw [if_neg c24] at H
   have c24b0 :(t141 == 0) = false:=beq_eq_false_iff_ne.mpr c24
   have c24b1 :(t141 != 0) = true:=bne_iff_ne.mpr c24
   have H':=Aside0.mk H
   clear H
   go_wp2_with (first |((with_reducible refine gate_dst (N:=36) rfl ?_);(try(refine gate_guard (by rfl) ?_;dsimp only));refine Kd.R_lit (Kd.int .i64) _ 3 ?hg (N:=36) ?hd (xs:=([1,2] : List Int)) (inner:=[.int .i64 1,.int .i64 2]) (ok:=fun _=>True) (okp:=fun _=>True) ?hr ?hp (fun _ hk=>hk) trivial (Below.refl _ _) (Nat.le_refl _) (by simp) ?_;(case hd=>rfl);(case hg=>rfl);(case hr=>first |(go_simp;done) |(go_simp;rfl));(case hp=>exact(Reps.one (show Kd.M (Kd.int .i64) _ _ _ 1 [.int .i64 1] from rfl) (Reps.one (show Kd.M (Kd.int .i64) _ _ _ 2 [.int .i64 2] from rfl) (Reps.none _ _))));intro v150 w68 ho69 hb hg_ hnew_;clear hg_ hnew_;(first | rw [← Ny149.out] at ho69 |(simp only [Int.reduceToNat] at ho69;rw [← Ny149.out] at ho69));have n0_:=Aside0.mk (Kd.R_elder' (by(with_reducible repeat(first | apply Kd.R_alloc | apply Kd.R_drewN | apply Kd.R_drew));exact HO131.out) (Kd.R_base ho69) hb);have n1_:=Aside0.mk (Kd.R_elder' (by(with_reducible repeat(first | apply Kd.R_alloc | apply Kd.R_drewN | apply Kd.R_drew));exact HO135.out) (Kd.R_base ho69) hb);have n2_:=Aside0.mk (Kd.R_elder' (by(with_reducible repeat(first | apply Kd.R_alloc | apply Kd.R_drewN | apply Kd.R_drew));exact HO139.out) (Kd.R_base ho69) hb);have n3_:=Aside0.mk (Kd.R_elder' (by(with_reducible repeat(first | apply Kd.R_alloc | apply Kd.R_drewN | apply Kd.R_drew));exact HO144.out) (Kd.R_base ho69) hb);have n4_:=Aside0.mk (Kd.R_elder' (by(with_reducible repeat(first | apply Kd.R_alloc | apply Kd.R_drewN | apply Kd.R_drew));exact HO148.out) (Kd.R_base ho69) hb);have n5_:=Aside0.mk (Kd.R_lower (Kd.R_new' (Kd.R_new' (Kd.R_new' (Kd.R_new' (Kd.R_new' ho69 (Kd.R_lt (by(with_reducible repeat(first | apply Kd.R_alloc | apply Kd.R_drewN | apply Kd.R_drew));exact HO131.out))) (Kd.R_lt (by(with_reducible repeat(first | apply Kd.R_alloc | apply Kd.R_drewN | apply Kd.R_drew));exact HO135.out))) (Kd.R_lt (by(with_reducible repeat(first | apply Kd.R_alloc | apply Kd.R_drewN | apply Kd.R_drew));exact HO139.out))) (Kd.R_lt (by(with_reducible repeat(first | apply Kd.R_alloc | apply Kd.R_drewN | apply Kd.R_drew));exact HO144.out))) (Kd.R_lt (by(with_reducible repeat(first | apply Kd.R_alloc | apply Kd.R_drewN | apply Kd.R_drew));exact HO148.out))) (bwZ (by repeat(first |(with_reducible first | exact HB.out | apply bwA | apply bwN | apply bw1) | exact HB.out))));have n6_:=Aside0.mk (bwT (by repeat(first |(with_reducible first | exact HB.out | apply bwA | apply bwN | apply bw1) | exact HB.out)) hb);clear HO131;clear HO135;clear HO139;clear HO144;clear HO148;clear HB;have HO131:=n0_;have HO135:=n1_;have HO139:=n2_;have HO144:=n3_;have HO148:=n4_;have HO151:=n5_;have HB:=n6_;clear n0_ n1_ n2_ n3_ n4_ n5_ n6_;clear hb ho69;obtain ⟨Ao70,co70,eo70⟩:=Kd.R_slice HO131.out;subst eo70;obtain ⟨Ao71,co71,eo71⟩:=Kd.R_slice HO151.out;subst eo71) |(go_at_call 22;(with_reducible refine(w10_ints.calls k _ _ t128 _ _ y149 true _ ?side1 ?side2 ?side3 ?side4 A16.out).mono ?_);(case side1=>repeat(first | exact(Kd.R_reads' HO131.out).2.2 |(with_reducible refine Kd.C_alloc ?_ _) |(with_reducible refine Kd.C_drewN ?_ _) |(with_reducible refine Kd.C_drew ?_)));(case side2=>exact(Kd.R_reads' HO131.out).2.1);(case side3=>repeat(first | exact(Kd.R_reads' HO151.out).2.2 |(with_reducible refine Kd.C_alloc ?_ _) |(with_reducible refine Kd.C_drewN ?_ _) |(with_reducible refine Kd.C_drew ?_)));(case side4=>exact(Kd.R_reads' HO151.out).2.1);rintro e w' ⟨rfl,⟨nd,rfl⟩⟩) |((with_reducible refine gate_dst (N:=46) rfl ?_);(try(refine gate_guard (by rfl) ?_;dsimp only));refine Kd.R_lit (Kd.int .i64) _ 3 ?hg (N:=46) ?hd (xs:=([2,3] : List Int)) (inner:=[.int .i64 2,.int .i64 3]) (ok:=fun _=>True) (okp:=fun _=>True) ?hr ?hp (fun _ hk=>hk) trivial (Below.refl _ _) (Nat.le_refl _) (by simp) ?_;(case hd=>rfl);(case hg=>rfl);(case hr=>first |(go_simp;done) |(go_simp;rfl));(case hp=>exact(Reps.one (show Kd.M (Kd.int .i64) _ _ _ 2 [.int .i64 2] from rfl) (Reps.one (show Kd.M (Kd.int .i64) _ _ _ 3 [.int .i64 3] from rfl) (Reps.none _ _))));intro v154 w72 ho73 hb hg_ hnew_;clear hg_ hnew_;(first | rw [← Ny153.out] at ho73 |(simp only [Int.reduceToNat] at ho73;rw [← Ny153.out] at ho73));have n0_:=Aside0.mk (Kd.R_elder' (by(with_reducible repeat(first | apply Kd.R_alloc | apply Kd.R_drewN | apply Kd.R_drew));exact HO131.out) (Kd.R_base ho73) hb);have n1_:=Aside0.mk (Kd.R_elder' (by(with_reducible repeat(first | apply Kd.R_alloc | apply Kd.R_drewN | apply Kd.R_drew));exact HO135.out) (Kd.R_base ho73) hb);have n2_:=Aside0.mk (Kd.R_elder' (by(with_reducible repeat(first | apply Kd.R_alloc | apply Kd.R_drewN | apply Kd.R_drew));exact HO139.out) (Kd.R_base ho73) hb);have n3_:=Aside0.mk (Kd.R_elder' (by(with_reducible repeat(first | apply Kd.R_alloc | apply Kd.R_drewN | apply Kd.R_drew));exact HO144.out) (Kd.R_base ho73) hb);have n4_:=Aside0.mk (Kd.R_elder' (by(with_reducible repeat(first | apply Kd.R_alloc | apply Kd.R_drewN | apply Kd.R_drew));exact HO148.out) (Kd.R_base ho73) hb);have n5_:=Aside0.mk (Kd.R_elder' (by(with_reducible repeat(first | apply Kd.R_alloc | apply Kd.R_drewN | apply Kd.R_drew));exact HO151.out) (Kd.R_base ho73) hb);have n6_:=Aside0.mk (Kd.R_lower (Kd.R_new' (Kd.R_new' (Kd.R_new' (Kd.R_new' (Kd.R_new' (Kd.R_new' ho73 (Kd.R_lt (by(with_reducible repeat(first | apply Kd.R_alloc | apply Kd.R_drewN | apply Kd.R_drew));exact HO131.out))) (Kd.R_lt (by(with_reducible repeat(first | apply Kd.R_alloc | apply Kd.R_drewN | apply Kd.R_drew));exact HO135.out))) (Kd.R_lt (by(with_reducible repeat(first | apply Kd.R_alloc | apply Kd.R_drewN | apply Kd.R_drew));exact HO139.out))) (Kd.R_lt (by(with_reducible repeat(first | apply Kd.R_alloc | apply Kd.R_drewN | apply Kd.R_drew));exact HO144.out))) (Kd.R_lt (by(with_reducible repeat(first | apply Kd.R_alloc | apply Kd.R_drewN | apply Kd.R_drew));exact HO148.out))) (Kd.R_lt (by(with_reducible repeat(first | apply Kd.R_alloc | apply Kd.R_drewN | apply Kd.R_drew));exact HO151.out))) (bwZ (by repeat(first |(with_reducible first | exact HB.out | apply bwA | apply bwN | apply bw1) | exact HB.out))));have n7_:=Aside0.mk (bwT (by repeat(first |(with_reducible first | exact HB.out | apply bwA | apply bwN | apply bw1) | exact HB.out)) hb);clear HO131;clear HO135;clear HO139;clear HO144;clear HO148;clear HO151;clear HB;have HO131:=n0_;have HO135:=n1_;have HO139:=n2_;have HO144:=n3_;have HO148:=n4_;have HO151:=n5_;have HO155:=n6_;have HB:=n7_;clear n0_ n1_ n2_ n3_ n4_ n5_ n6_ n7_;clear hb ho73;obtain ⟨Ao74,co74,eo74⟩:=Kd.R_slice HO135.out;subst eo74;obtain ⟨Ao75,co75,eo75⟩:=Kd.R_slice HO155.out;subst eo75) |(go_at_call 22;(with_reducible refine(w10_ints.calls k _ _ t132 _ _ y153 true _ ?side1 ?side2 ?side3 ?side4 A19.out).mono ?_);(case side1=>repeat(first | exact(Kd.R_reads' HO135.out).2.2 |(with_reducible refine Kd.C_alloc ?_ _) |(with_reducible refine Kd.C_drewN ?_ _) |(with_reducible refine Kd.C_drew ?_)));(case side2=>exact(Kd.R_reads' HO135.out).2.1);(case side3=>repeat(first | exact(Kd.R_reads' HO155.out).2.2 |(with_reducible refine Kd.C_alloc ?_ _) |(with_reducible refine Kd.C_drewN ?_ _) |(with_reducible refine Kd.C_drew ?_)));(case side4=>exact(Kd.R_reads' HO155.out).2.1);rintro e w' ⟨rfl,⟨nd,rfl⟩⟩) |((with_reducible refine gate_dst (N:=56) rfl ?_);(try(refine gate_guard (by rfl) ?_;dsimp only));refine Kd.R_lit (Kd.int .i64) _ 3 ?hg (N:=56) ?hd (xs:=([3,2,1] : List Int)) (inner:=[.int .i64 3,.int .i64 2,.int .i64 1]) (ok:=fun _=>True) (okp:=fun _=>True) ?hr ?hp (fun _ hk=>hk) trivial (Below.refl _ _) (Nat.le_refl _) (by simp) ?_;(case hd=>rfl);(case hg=>rfl);(case hr=>first |(go_simp;done) |(go_simp;rfl));(case hp=>exact(Reps.one (show Kd.M (Kd.int .i64) _ _ _ 3 [.int .i64 3] from rfl) (Reps.one (show Kd.M (Kd.int .i64) _ _ _ 2 [.int .i64 2] from rfl) (Reps.one (show Kd.M (Kd.int .i64) _ _ _ 1 [.int .i64 1] from rfl) (Reps.none _ _)))));intro v158 w76 ho77 hb hg_ hnew_;clear hg_ hnew_;(first | rw [← Ny157.out] at ho77 |(simp only [Int.reduceToNat] at ho77;rw [← Ny157.out] at ho77));have n0_:=Aside0.mk (Kd.R_elder' (by(with_reducible repeat(first | apply Kd.R_alloc | apply Kd.R_drewN | apply Kd.R_drew));exact HO131.out) (Kd.R_base ho77) hb);have n1_:=Aside0.mk (Kd.R_elder' (by(with_reducible repeat(first | apply Kd.R_alloc | apply Kd.R_drewN | apply Kd.R_drew));exact HO135.out) (Kd.R_base ho77) hb);have n2_:=Aside0.mk (Kd.R_elder' (by(with_reducible repeat(first | apply Kd.R_alloc | apply Kd.R_drewN | apply Kd.R_drew));exact HO139.out) (Kd.R_base ho77) hb);have n3_:=Aside0.mk (Kd.R_elder' (by(with_reducible repeat(first | apply Kd.R_alloc | apply Kd.R_drewN | apply Kd.R_drew));exact HO144.out) (Kd.R_base ho77) hb);have n4_:=Aside0.mk (Kd.R_elder' (by(with_reducible repeat(first | apply Kd.R_alloc | apply Kd.R_drewN | apply Kd.R_drew));exact HO148.out) (Kd.R_base ho77) hb);have n5_:=Aside0.mk (Kd.R_elder' (by(with_reducible repeat(first | apply Kd.R_alloc | apply Kd.R_drewN | apply Kd.R_drew));exact HO151.out) (Kd.R_base ho77) hb);have n6_:=Aside0.mk (Kd.R_elder' (by(with_reducible repeat(first | apply Kd.R_alloc | apply Kd.R_drewN | apply Kd.R_drew));exact HO155.out) (Kd.R_base ho77) hb);have n7_:=Aside0.mk (Kd.R_lower (Kd.R_new' (Kd.R_new' (Kd.R_new' (Kd.R_new' (Kd.R_new' (Kd.R_new' (Kd.R_new' ho77 (Kd.R_lt (by(with_reducible repeat(first | apply Kd.R_alloc | apply Kd.R_drewN | apply Kd.R_drew));exact HO131.out))) (Kd.R_lt (by(with_reducible repeat(first | apply Kd.R_alloc | apply Kd.R_drewN | apply Kd.R_drew));exact HO135.out))) (Kd.R_lt (by(with_reducible repeat(first | apply Kd.R_alloc | apply Kd.R_drewN | apply Kd.R_drew));exact HO139.out))) (Kd.R_lt (by(with_reducible repeat(first | apply Kd.R_alloc | apply Kd.R_drewN | apply Kd.R_drew));exact HO144.out))) (Kd.R_lt (by(with_reducible repeat(first | apply Kd.R_alloc | apply Kd.R_drewN | apply Kd.R_drew));exact HO148.out))) (Kd.R_lt (by(with_reducible repeat(first | apply Kd.R_alloc | apply Kd.R_drewN | apply Kd.R_drew));exact HO151.out))) (Kd.R_lt (by(with_reducible repeat(first | apply Kd.R_alloc | apply Kd.R_drewN | apply Kd.R_drew));exact HO155.out))) (bwZ (by repeat(first |(with_reducible first | exact HB.out | apply bwA | apply bwN | apply bw1) | exact HB.out))));have n8_:=Aside0.mk (bwT (by repeat(first |(with_reducible first | exact HB.out | apply bwA | apply bwN | apply bw1) | exact HB.out)) hb);clear HO131;clear HO135;clear HO139;clear HO144;clear HO148;clear HO151;clear HO155;clear HB;have HO131:=n0_;have HO135:=n1_;have HO139:=n2_;have HO144:=n3_;have HO148:=n4_;have HO151:=n5_;have HO155:=n6_;have HO159:=n7_;have HB:=n8_;clear n0_ n1_ n2_ n3_ n4_ n5_ n6_ n7_ n8_;clear hb ho77;obtain ⟨Ao78,co78,eo78⟩:=Kd.R_slice HO139.out;subst eo78;obtain ⟨Ao79,co79,eo79⟩:=Kd.R_slice HO159.out;subst eo79) |(go_at_call 22;(with_reducible refine(w10_ints.calls k _ _ t136 _ _ y157 true _ ?side1 ?side2 ?side3 ?side4 A22.out).mono ?_);(case side1=>repeat(first | exact(Kd.R_reads' HO139.out).2.2 |(with_reducible refine Kd.C_alloc ?_ _) |(with_reducible refine Kd.C_drewN ?_ _) |(with_reducible refine Kd.C_drew ?_)));(case side2=>exact(Kd.R_reads' HO139.out).2.1);(case side3=>repeat(first | exact(Kd.R_reads' HO159.out).2.2 |(with_reducible refine Kd.C_alloc ?_ _) |(with_reducible refine Kd.C_drewN ?_ _) |(with_reducible refine Kd.C_drew ?_)));(case side4=>exact(Kd.R_reads' HO159.out).2.1);rintro e w' ⟨rfl,⟨nd,rfl⟩⟩))
   go_meet
   exact⟨_,(true),(by first | rfl |(simp;done) |(simp [*];done)),H',⟨by first | omega | exact Nat.le_refl _⟩,⟨by repeat(first |(with_reducible first | exact HB.out | apply bwA | apply bwN | apply bw1) | exact HB.out)⟩⟩
  rw [if_pos c24] at H
  have c24b0 :(t141 == 0) = true:=beq_iff_eq.mpr c24
  have c24b1 :(t141 != 0) = false:=bne_eq_false_iff_eq.mpr c24
  clear c24
  by_cases c25 : t140 = 52
  rotate_left
  ·rw [if_neg c25] at H
   have c25b0 :(t140 == 52) = false:=beq_eq_false_iff_ne.mpr c25
   have c25b1 :(t140 != 52) = true:=bne_iff_ne.mpr c25
   have H':=Aside0.mk H
   clear H
   go_wp2_with (first |((with_reducible refine gate_dst (N:=36) rfl ?_);(try(refine gate_guard (by rfl) ?_;dsimp only));refine Kd.R_lit (Kd.int .i64) _ 3 ?hg (N:=36) ?hd (xs:=([1,2] : List Int)) (inner:=[.int .i64 1,.int .i64 2]) (ok:=fun _=>True) (okp:=fun _=>True) ?hr ?hp (fun _ hk=>hk) trivial (Below.refl _ _) (Nat.le_refl _) (by simp) ?_;(case hd=>rfl);(case hg=>rfl);(case hr=>first |(go_simp;done) |(go_simp;rfl));(case hp=>exact(Reps.one (show Kd.M (Kd.int .i64) _ _ _ 1 [.int .i64 1] from rfl) (Reps.one (show Kd.M (Kd.int .i64) _ _ _ 2 [.int .i64 2] from rfl) (Reps.none _ _))));intro v150 w56 ho57 hb hg_ hnew_;clear hg_ hnew_;(first | rw [← Ny149.out] at ho57 |(simp only [Int.reduceToNat] at ho57;rw [← Ny149.out] at ho57));have n0_:=Aside0.mk (Kd.R_elder' (by(with_reducible repeat(first | apply Kd.R_alloc | apply Kd.R_drewN | apply Kd.R_drew));exact HO131.out) (Kd.R_base ho57) hb);have n1_:=Aside0.mk (Kd.R_elder' (by(with_reducible repeat(first | apply Kd.R_alloc | apply Kd.R_drewN | apply Kd.R_drew));exact HO135.out) (Kd.R_base ho57) hb);have n2_:=Aside0.mk (Kd.R_elder' (by(with_reducible repeat(first | apply Kd.R_alloc | apply Kd.R_drewN | apply Kd.R_drew));exact HO139.out) (Kd.R_base ho57) hb);have n3_:=Aside0.mk (Kd.R_elder' (by(with_reducible repeat(first | apply Kd.R_alloc | apply Kd.R_drewN | apply Kd.R_drew));exact HO144.out) (Kd.R_base ho57) hb);have n4_:=Aside0.mk (Kd.R_elder' (by(with_reducible repeat(first | apply Kd.R_alloc | apply Kd.R_drewN | apply Kd.R_drew));exact HO148.out) (Kd.R_base ho57) hb);have n5_:=Aside0.mk (Kd.R_lower (Kd.R_new' (Kd.R_new' (Kd.R_new' (Kd.R_new' (Kd.R_new' ho57 (Kd.R_lt (by(with_reducible repeat(first | apply Kd.R_alloc | apply Kd.R_drewN | apply Kd.R_drew));exact HO131.out))) (Kd.R_lt (by(with_reducible repeat(first | apply Kd.R_alloc | apply Kd.R_drewN | apply Kd.R_drew));exact HO135.out))) (Kd.R_lt (by(with_reducible repeat(first | apply Kd.R_alloc | apply Kd.R_drewN | apply Kd.R_drew));exact HO139.out))) (Kd.R_lt (by(with_reducible repeat(first | apply Kd.R_alloc | apply Kd.R_drewN | apply Kd.R_drew));exact HO144.out))) (Kd.R_lt (by(with_reducible repeat(first | apply Kd.R_alloc | apply Kd.R_drewN | apply Kd.R_drew));exact HO148.out))) (bwZ (by repeat(first |(with_reducible first | exact HB.out | apply bwA | apply bwN | apply bw1) | exact HB.out))));have n6_:=Aside0.mk (bwT (by repeat(first |(with_reducible first | exact HB.out | apply bwA | apply bwN | apply bw1) | exact HB.out)) hb);clear HO131;clear HO135;clear HO139;clear HO144;clear HO148;clear HB;have HO131:=n0_;have HO135:=n1_;have HO139:=n2_;have HO144:=n3_;have HO148:=n4_;have HO151:=n5_;have HB:=n6_;clear n0_ n1_ n2_ n3_ n4_ n5_ n6_;clear hb ho57;obtain ⟨Ao58,co58,eo58⟩:=Kd.R_slice HO131.out;subst eo58;obtain ⟨Ao59,co59,eo59⟩:=Kd.R_slice HO151.out;subst eo59) |(go_at_call 22;(with_reducible refine(w10_ints.calls k _ _ t128 _ _ y149 true _ ?side1 ?side2 ?side3 ?side4 A16.out).mono ?_);(case side1=>repeat(first | exact(Kd.R_reads' HO131.out).2.2 |(with_reducible refine Kd.C_alloc ?_ _) |(with_reducible refine Kd.C_drewN ?_ _) |(with_reducible refine Kd.C_drew ?_)));(case side2=>exact(Kd.R_reads' HO131.out).2.1);(case side3=>repeat(first | exact(Kd.R_reads' HO151.out).2.2 |(with_reducible refine Kd.C_alloc ?_ _) |(with_reducible refine Kd.C_drewN ?_ _) |(with_reducible refine Kd.C_drew ?_)));(case side4=>exact(Kd.R_reads' HO151.out).2.1);rintro e w' ⟨rfl,⟨nd,rfl⟩⟩) |((with_reducible refine gate_dst (N:=46) rfl ?_);(try(refine gate_guard (by rfl) ?_;dsimp only));refine Kd.R_lit (Kd.int .i64) _ 3 ?hg (N:=46) ?hd (xs:=([2,3] : List Int)) (inner:=[.int .i64 2,.int .i64 3]) (ok:=fun _=>True) (okp:=fun _=>True) ?hr ?hp (fun _ hk=>hk) trivial (Below.refl _ _) (Nat.le_refl _) (by simp) ?_;(case hd=>rfl);(case hg=>rfl);(case hr=>first |(go_simp;done) |(go_simp;rfl));(case hp=>exact(Reps.one (show Kd.M (Kd.int .i64) _ _ _ 2 [.int .i64 2] from rfl) (Reps.one (show Kd.M (Kd.int .i64) _ _ _ 3 [.int .i64 3] from rfl) (Reps.none _ _))));intro v154 w60 ho61 hb hg_ hnew_;clear hg_ hnew_;(first | rw [← Ny153.out] at ho61 |(simp only [Int.reduceToNat] at ho61;rw [← Ny153.out] at ho61));have n0_:=Aside0.mk (Kd.R_elder' (by(with_reducible repeat(first | apply Kd.R_alloc | apply Kd.R_drewN | apply Kd.R_drew));exact HO131.out) (Kd.R_base ho61) hb);have n1_:=Aside0.mk (Kd.R_elder' (by(with_reducible repeat(first | apply Kd.R_alloc | apply Kd.R_drewN | apply Kd.R_drew));exact HO135.out) (Kd.R_base ho61) hb);have n2_:=Aside0.mk (Kd.R_elder' (by(with_reducible repeat(first | apply Kd.R_alloc | apply Kd.R_drewN | apply Kd.R_drew));exact HO139.out) (Kd.R_base ho61) hb);have n3_:=Aside0.mk (Kd.R_elder' (by(with_reducible repeat(first | apply Kd.R_alloc | apply Kd.R_drewN | apply Kd.R_drew));exact HO144.out) (Kd.R_base ho61) hb);have n4_:=Aside0.mk (Kd.R_elder' (by(with_reducible repeat(first | apply Kd.R_alloc | apply Kd.R_drewN | apply Kd.R_drew));exact HO148.out) (Kd.R_base ho61) hb);have n5_:=Aside0.mk (Kd.R_elder' (by(with_reducible repeat(first | apply Kd.R_alloc | apply Kd.R_drewN | apply Kd.R_drew));exact HO151.out) (Kd.R_base ho61) hb);have n6_:=Aside0.mk (Kd.R_lower (Kd.R_new' (Kd.R_new' (Kd.R_new' (Kd.R_new' (Kd.R_new' (Kd.R_new' ho61 (Kd.R_lt (by(with_reducible repeat(first | apply Kd.R_alloc | apply Kd.R_drewN | apply Kd.R_drew));exact HO131.out))) (Kd.R_lt (by(with_reducible repeat(first | apply Kd.R_alloc | apply Kd.R_drewN | apply Kd.R_drew));exact HO135.out))) (Kd.R_lt (by(with_reducible repeat(first | apply Kd.R_alloc | apply Kd.R_drewN | apply Kd.R_drew));exact HO139.out))) (Kd.R_lt (by(with_reducible repeat(first | apply Kd.R_alloc | apply Kd.R_drewN | apply Kd.R_drew));exact HO144.out))) (Kd.R_lt (by(with_reducible repeat(first | apply Kd.R_alloc | apply Kd.R_drewN | apply Kd.R_drew));exact HO148.out))) (Kd.R_lt (by(with_reducible repeat(first | apply Kd.R_alloc | apply Kd.R_drewN | apply Kd.R_drew));exact HO151.out))) (bwZ (by repeat(first |(with_reducible first | exact HB.out | apply bwA | apply bwN | apply bw1) | exact HB.out))));have n7_:=Aside0.mk (bwT (by repeat(first |(with_reducible first | exact HB.out | apply bwA | apply bwN | apply bw1) | exact HB.out)) hb);clear HO131;clear HO135;clear HO139;clear HO144;clear HO148;clear HO151;clear HB;have HO131:=n0_;have HO135:=n1_;have HO139:=n2_;have HO144:=n3_;have HO148:=n4_;have HO151:=n5_;have HO155:=n6_;have HB:=n7_;clear n0_ n1_ n2_ n3_ n4_ n5_ n6_ n7_;clear hb ho61;obtain ⟨Ao62,co62,eo62⟩:=Kd.R_slice HO135.out;subst eo62;obtain ⟨Ao63,co63,eo63⟩:=Kd.R_slice HO155.out;subst eo63) |(go_at_call 22;(with_reducible refine(w10_ints.calls k _ _ t132 _ _ y153 true _ ?side1 ?side2 ?side3 ?side4 A19.out).mono ?_);(case side1=>repeat(first | exact(Kd.R_reads' HO135.out).2.2 |(with_reducible refine Kd.C_alloc ?_ _) |(with_reducible refine Kd.C_drewN ?_ _) |(with_reducible refine Kd.C_drew ?_)));(case side2=>exact(Kd.R_reads' HO135.out).2.1);(case side3=>repeat(first | exact(Kd.R_reads' HO155.out).2.2 |(with_reducible refine Kd.C_alloc ?_ _) |(with_reducible refine Kd.C_drewN ?_ _) |(with_reducible refine Kd.C_drew ?_)));(case side4=>exact(Kd.R_reads' HO155.out).2.1);rintro e w' ⟨rfl,⟨nd,rfl⟩⟩) |((with_reducible refine gate_dst (N:=56) rfl ?_);(try(refine gate_guard (by rfl) ?_;dsimp only));refine Kd.R_lit (Kd.int .i64) _ 3 ?hg (N:=56) ?hd (xs:=([3,2,1] : List Int)) (inner:=[.int .i64 3,.int .i64 2,.int .i64 1]) (ok:=fun _=>True) (okp:=fun _=>True) ?hr ?hp (fun _ hk=>hk) trivial (Below.refl _ _) (Nat.le_refl _) (by simp) ?_;(case hd=>rfl);(case hg=>rfl);(case hr=>first |(go_simp;done) |(go_simp;rfl));(case hp=>exact(Reps.one (show Kd.M (Kd.int .i64) _ _ _ 3 [.int .i64 3] from rfl) (Reps.one (show Kd.M (Kd.int .i64) _ _ _ 2 [.int .i64 2] from rfl) (Reps.one (show Kd.M (Kd.int .i64) _ _ _ 1 [.int .i64 1] from rfl) (Reps.none _ _)))));intro v158 w64 ho65 hb hg_ hnew_;clear hg_ hnew_;(first | rw [← Ny157.out] at ho65 |(simp only [Int.reduceToNat] at ho65;rw [← Ny157.out] at ho65));have n0_:=Aside0.mk (Kd.R_elder' (by(with_reducible repeat(first | apply Kd.R_alloc | apply Kd.R_drewN | apply Kd.R_drew));exact HO131.out) (Kd.R_base ho65) hb);have n1_:=Aside0.mk (Kd.R_elder' (by(with_reducible repeat(first | apply Kd.R_alloc | apply Kd.R_drewN | apply Kd.R_drew));exact HO135.out) (Kd.R_base ho65) hb);have n2_:=Aside0.mk (Kd.R_elder' (by(with_reducible repeat(first | apply Kd.R_alloc | apply Kd.R_drewN | apply Kd.R_drew));exact HO139.out) (Kd.R_base ho65) hb);have n3_:=Aside0.mk (Kd.R_elder' (by(with_reducible repeat(first | apply Kd.R_alloc | apply Kd.R_drewN | apply Kd.R_drew));exact HO144.out) (Kd.R_base ho65) hb);have n4_:=Aside0.mk (Kd.R_elder' (by(with_reducible repeat(first | apply Kd.R_alloc | apply Kd.R_drewN | apply Kd.R_drew));exact HO148.out) (Kd.R_base ho65) hb);have n5_:=Aside0.mk (Kd.R_elder' (by(with_reducible repeat(first | apply Kd.R_alloc | apply Kd.R_drewN | apply Kd.R_drew));exact HO151.out) (Kd.R_base ho65) hb);have n6_:=Aside0.mk (Kd.R_elder' (by(with_reducible repeat(first | apply Kd.R_alloc | apply Kd.R_drewN | apply Kd.R_drew));exact HO155.out) (Kd.R_base ho65) hb);have n7_:=Aside0.mk (Kd.R_lower (Kd.R_new' (Kd.R_new' (Kd.R_new' (Kd.R_new' (Kd.R_new' (Kd.R_new' (Kd.R_new' ho65 (Kd.R_lt (by(with_reducible repeat(first | apply Kd.R_alloc | apply Kd.R_drewN | apply Kd.R_drew));exact HO131.out))) (Kd.R_lt (by(with_reducible repeat(first | apply Kd.R_alloc | apply Kd.R_drewN | apply Kd.R_drew));exact HO135.out))) (Kd.R_lt (by(with_reducible repeat(first | apply Kd.R_alloc | apply Kd.R_drewN | apply Kd.R_drew));exact HO139.out))) (Kd.R_lt (by(with_reducible repeat(first | apply Kd.R_alloc | apply Kd.R_drewN | apply Kd.R_drew));exact HO144.out))) (Kd.R_lt (by(with_reducible repeat(first | apply Kd.R_alloc | apply Kd.R_drewN | apply Kd.R_drew));exact HO148.out))) (Kd.R_lt (by(with_reducible repeat(first | apply Kd.R_alloc | apply Kd.R_drewN | apply Kd.R_drew));exact HO151.out))) (Kd.R_lt (by(with_reducible repeat(first | apply Kd.R_alloc | apply Kd.R_drewN | apply Kd.R_drew));exact HO155.out))) (bwZ (by repeat(first |(with_reducible first | exact HB.out | apply bwA | apply bwN | apply bw1) | exact HB.out))));have n8_:=Aside0.mk (bwT (by repeat(first |(with_reducible first | exact HB.out | apply bwA | apply bwN | apply bw1) | exact HB.out)) hb);clear HO131;clear HO135;clear HO139;clear HO144;clear HO148;clear HO151;clear HO155;clear HB;have HO131:=n0_;have HO135:=n1_;have HO139:=n2_;have HO144:=n3_;have HO148:=n4_;have HO151:=n5_;have HO155:=n6_;have HO159:=n7_;have HB:=n8_;clear n0_ n1_ n2_ n3_ n4_ n5_ n6_ n7_ n8_;clear hb ho65;obtain ⟨Ao66,co66,eo66⟩:=Kd.R_slice HO139.out;subst eo66;obtain ⟨Ao67,co67,eo67⟩:=Kd.R_slice HO159.out;subst eo67) |(go_at_call 22;(with_reducible refine(w10_ints.calls k _ _ t136 _ _ y157 true _ ?side1 ?side2 ?side3 ?side4 A22.out).mono ?_);(case side1=>repeat(first | exact(Kd.R_reads' HO139.out).2.2 |(with_reducible refine Kd.C_alloc ?_ _) |(with_reducible refine Kd.C_drewN ?_ _) |(with_reducible refine Kd.C_drew ?_)));(case side2=>exact(Kd.R_reads' HO139.out).2.1);(case side3=>repeat(first | exact(Kd.R_reads' HO159.out).2.2 |(with_reducible refine Kd.C_alloc ?_ _) |(with_reducible refine Kd.C_drewN ?_ _) |(with_reducible refine Kd.C_drew ?_)));(case side4=>exact(Kd.R_reads' HO159.out).2.1);rintro e w' ⟨rfl,⟨nd,rfl⟩⟩))
   go_meet
   exact⟨_,(true),(by first | rfl |(simp;done) |(simp [*];done)),H',⟨by first | omega | exact Nat.le_refl _⟩,⟨by repeat(first |(with_reducible first | exact HB.out | apply bwA | apply bwN | apply bw1) | exact HB.out)⟩⟩
  rw [if_pos c25] at H
  have c25b0 :(t140 == 52) = true:=beq_iff_eq.mpr c25
  have c25b1 :(t140 != 52) = false:=bne_eq_false_iff_eq.mpr c25
  clear c25
  by_cases c26 : t146 = 0
  rotate_left
  ·rw [if_neg c26] at H
   have c26b0 :(t146 == 0) = false:=beq_eq_false_iff_ne.mpr c26
   have c26b1 :(t146 != 0) = true:=bne_iff_ne.mpr c26
   have H':=Aside0.mk H
   clear H
   go_wp2_with (first |((with_reducible refine gate_dst (N:=36) rfl ?_);(try(refine gate_guard (by rfl) ?_;dsimp only));refine Kd.R_lit (Kd.int .i64) _ 3 ?hg (N:=36) ?hd (xs:=([1,2] : List Int)) (inner:=[.int .i64 1,.int .i64 2]) (ok:=fun _=>True) (okp:=fun _=>True) ?hr ?hp (fun _ hk=>hk) trivial (Below.refl _ _) (Nat.le_refl _) (by simp) ?_;(case hd=>rfl);(case hg=>rfl);(case hr=>first |(go_simp;done) |(go_simp;rfl));(case hp=>exact(Reps.one (show Kd.M (Kd.int .i64) _ _ _ 1 [.int .i64 1] from rfl) (Reps.one (show Kd.M (Kd.int .i64) _ _ _ 2 [.int .i64 2] from rfl) (Reps.none _ _))));intro v150 w44 ho45 hb hg_ hnew_;clear hg_ hnew_;(first | rw [← Ny149.out] at ho45 |(simp only [Int.reduceToNat] at ho45;rw [← Ny149.out] at ho45));have n0_:=Aside0.mk (Kd.R_elder' (by(with_reducible repeat(first | apply Kd.R_alloc | apply Kd.R_drewN | apply Kd.R_drew));exact HO131.out) (Kd.R_base ho45) hb);have n1_:=Aside0.mk (Kd.R_elder' (by(with_reducible repeat(first | apply Kd.R_alloc | apply Kd.R_drewN | apply Kd.R_drew));exact HO135.out) (Kd.R_base ho45) hb);have n2_:=Aside0.mk (Kd.R_elder' (by(with_reducible repeat(first | apply Kd.R_alloc | apply Kd.R_drewN | apply Kd.R_drew));exact HO139.out) (Kd.R_base ho45) hb);have n3_:=Aside0.mk (Kd.R_elder' (by(with_reducible repeat(first | apply Kd.R_alloc | apply Kd.R_drewN | apply Kd.R_drew));exact HO144.out) (Kd.R_base ho45) hb);have n4_:=Aside0.mk (Kd.R_elder' (by(with_reducible repeat(first | apply Kd.R_alloc | apply Kd.R_drewN | apply Kd.R_drew));exact HO148.out) (Kd.R_base ho45) hb);have n5_:=Aside0.mk (Kd.R_lower (Kd.R_new' (Kd.R_new' (Kd.R_new' (Kd.R_new' (Kd.R_new' ho45 (Kd.R_lt (by(with_reducible repeat(first | apply Kd.R_alloc | apply Kd.R_drewN | apply Kd.R_drew));exact HO131.out))) (Kd.R_lt (by(with_reducible repeat(first | apply Kd.R_alloc | apply Kd.R_drewN | apply Kd.R_drew));exact HO135.out))) (Kd.R_lt (by(with_reducible repeat(first | apply Kd.R_alloc | apply Kd.R_drewN | apply Kd.R_drew));exact HO139.out))) (Kd.R_lt (by(with_reducible repeat(first | apply Kd.R_alloc | apply Kd.R_drewN | apply Kd.R_drew));exact HO144.out))) (Kd.R_lt (by(with_reducible repeat(first | apply Kd.R_alloc | apply Kd.R_drewN | apply Kd.R_drew));exact HO148.out))) (bwZ (by repeat(first |(with_reducible first | exact HB.out | apply bwA | apply bwN | apply bw1) | exact HB.out))));have n6_:=Aside0.mk (bwT (by repeat(first |(with_reducible first | exact HB.out | apply bwA | apply bwN | apply bw1) | exact HB.out)) hb);clear HO131;clear HO135;clear HO139;clear HO144;clear HO148;clear HB;have HO131:=n0_;have HO135:=n1_;have HO139:=n2_;have HO144:=n3_;have HO148:=n4_;have HO151:=n5_;have HB:=n6_;clear n0_ n1_ n2_ n3_ n4_ n5_ n6_;clear hb ho45;obtain ⟨Ao46,co46,eo46⟩:=Kd.R_slice HO131.out;subst eo46;obtain ⟨Ao47,co47,eo47⟩:=Kd.R_slice HO151.out;subst eo47) |(go_at_call 22;(with_reducible refine(w10_ints.calls k _ _ t128 _ _ y149 true _ ?side1 ?side2 ?side3 ?side4 A16.out).mono ?_);(case side1=>repeat(first | exact(Kd.R_reads' HO131.out).2.2 |(with_reducible refine Kd.C_alloc ?_ _) |(with_reducible refine Kd.C_drewN ?_ _) |(with_reducible refine Kd.C_drew ?_)));(case side2=>exact(Kd.R_reads' HO131.out).2.1);(case side3=>repeat(first | exact(Kd.R_reads' HO151.out).2.2 |(with_reducible refine Kd.C_alloc ?_ _) |(with_reducible refine Kd.C_drewN ?_ _) |(with_reducible refine Kd.C_drew ?_)));(case side4=>exact(Kd.R_reads' HO151.out).2.1);rintro e w' ⟨rfl,⟨nd,rfl⟩⟩) |((with_reducible refine gate_dst (N:=46) rfl ?_);(try(refine gate_guard (by rfl) ?_;dsimp only));refine Kd.R_lit (Kd.int .i64) _ 3 ?hg (N:=46) ?hd (xs:=([2,3] : List Int)) (inner:=[.int .i64 2,.int .i64 3]) (ok:=fun _=>True) (okp:=fun _=>True) ?hr ?hp (fun _ hk=>hk) trivial (Below.refl _ _) (Nat.le_refl _) (by simp) ?_;(case hd=>rfl);(case hg=>rfl);(case hr=>first |(go_simp;done) |(go_simp;rfl));(case hp=>exact(Reps.one (show Kd.M (Kd.int .i64) _ _ _ 2 [.int .i64 2] from rfl) (Reps.one (show Kd.M (Kd.int .i64) _ _ _ 3 [.int .i64 3] from rfl) (Reps.none _ _))));intro v154 w48 ho49 hb hg_ hnew_;clear hg_ hnew_;(first | rw [← Ny153.out] at ho49 |(simp only [Int.reduceToNat] at ho49;rw [← Ny153.out] at ho49));have n0_:=Aside0.mk (Kd.R_elder' (by(with_reducible repeat(first | apply Kd.R_alloc | apply Kd.R_drewN | apply Kd.R_drew));exact HO131.out) (Kd.R_base ho49) hb);have n1_:=Aside0.mk (Kd.R_elder' (by(with_reducible repeat(first | apply Kd.R_alloc | apply Kd.R_drewN | apply Kd.R_drew));exact HO135.out) (Kd.R_base ho49) hb);have n2_:=Aside0.mk (Kd.R_elder' (by(with_reducible repeat(first | apply Kd.R_alloc | apply Kd.R_drewN | apply Kd.R_drew));exact HO139.out) (Kd.R_base ho49) hb);have n3_:=Aside0.mk (Kd.R_elder' (by(with_reducible repeat(first | apply Kd.R_alloc | apply Kd.R_drewN | apply Kd.R_drew));exact HO144.out) (Kd.R_base ho49) hb);have n4_:=Aside0.mk (Kd.R_elder' (by(with_reducible repeat(first | apply Kd.R_alloc | apply Kd.R_drewN | apply Kd.R_drew));exact HO148.out) (Kd.R_base ho49) hb);have n5_:=Aside0.mk (Kd.R_elder' (by(with_reducible repeat(first | apply Kd.R_alloc | apply Kd.R_drewN | apply Kd.R_drew));exact HO151.out) (Kd.R_base ho49) hb);have n6_:=Aside0.mk (Kd.R_lower (Kd.R_new' (Kd.R_new' (Kd.R_new' (Kd.R_new' (Kd.R_new' (Kd.R_new' ho49 (Kd.R_lt (by(with_reducible repeat(first | apply Kd.R_alloc | apply Kd.R_drewN | apply Kd.R_drew));exact HO131.out))) (Kd.R_lt (by(with_reducible repeat(first | apply Kd.R_alloc | apply Kd.R_drewN | apply Kd.R_drew));exact HO135.out))) (Kd.R_lt (by(with_reducible repeat(first | apply Kd.R_alloc | apply Kd.R_drewN | apply Kd.R_drew));exact HO139.out))) (Kd.R_lt (by(with_reducible repeat(first | apply Kd.R_alloc | apply Kd.R_drewN | apply Kd.R_drew));exact HO144.out))) (Kd.R_lt (by(with_reducible repeat(first | apply Kd.R_alloc | apply Kd.R_drewN | apply Kd.R_drew));exact HO148.out))) (Kd.R_lt (by(with_reducible repeat(first | apply Kd.R_alloc | apply Kd.R_drewN | apply Kd.R_drew));exact HO151.out))) (bwZ (by repeat(first |(with_reducible first | exact HB.out | apply bwA | apply bwN | apply bw1) | exact HB.out))));have n7_:=Aside0.mk (bwT (by repeat(first |(with_reducible first | exact HB.out | apply bwA | apply bwN | apply bw1) | exact HB.out)) hb);clear HO131;clear HO135;clear HO139;clear HO144;clear HO148;clear HO151;clear HB;have HO131:=n0_;have HO135:=n1_;have HO139:=n2_;have HO144:=n3_;have HO148:=n4_;have HO151:=n5_;have HO155:=n6_;have HB:=n7_;clear n0_ n1_ n2_ n3_ n4_ n5_ n6_ n7_;clear hb ho49;obtain ⟨Ao50,co50,eo50⟩:=Kd.R_slice HO135.out;subst eo50;obtain ⟨Ao51,co51,eo51⟩:=Kd.R_slice HO155.out;subst eo51) |(go_at_call 22;(with_reducible refine(w10_ints.calls k _ _ t132 _ _ y153 true _ ?side1 ?side2 ?side3 ?side4 A19.out).mono ?_);(case side1=>repeat(first | exact(Kd.R_reads' HO135.out).2.2 |(with_reducible refine Kd.C_alloc ?_ _) |(with_reducible refine Kd.C_drewN ?_ _) |(with_reducible refine Kd.C_drew ?_)));(case side2=>exact(Kd.R_reads' HO135.out).2.1);(case side3=>repeat(first | exact(Kd.R_reads' HO155.out).2.2 |(with_reducible refine Kd.C_alloc ?_ _) |(with_reducible refine Kd.C_drewN ?_ _) |(with_reducible refine Kd.C_drew ?_)));(case side4=>exact(Kd.R_reads' HO155.out).2.1);rintro e w' ⟨rfl,⟨nd,rfl⟩⟩) |((with_reducible refine gate_dst (N:=56) rfl ?_);(try(refine gate_guard (by rfl) ?_;dsimp only));refine Kd.R_lit (Kd.int .i64) _ 3 ?hg (N:=56) ?hd (xs:=([3,2,1] : List Int)) (inner:=[.int .i64 3,.int .i64 2,.int .i64 1]) (ok:=fun _=>True) (okp:=fun _=>True) ?hr ?hp (fun _ hk=>hk) trivial (Below.refl _ _) (Nat.le_refl _) (by simp) ?_;(case hd=>rfl);(case hg=>rfl);(case hr=>first |(go_simp;done) |(go_simp;rfl));(case hp=>exact(Reps.one (show Kd.M (Kd.int .i64) _ _ _ 3 [.int .i64 3] from rfl) (Reps.one (show Kd.M (Kd.int .i64) _ _ _ 2 [.int .i64 2] from rfl) (Reps.one (show Kd.M (Kd.int .i64) _ _ _ 1 [.int .i64 1] from rfl) (Reps.none _ _)))));intro v158 w52 ho53 hb hg_ hnew_;clear hg_ hnew_;(first | rw [← Ny157.out] at ho53 |(simp only [Int.reduceToNat] at ho53;rw [← Ny157.out] at ho53));have n0_:=Aside0.mk (Kd.R_elder' (by(with_reducible repeat(first | apply Kd.R_alloc | apply Kd.R_drewN | apply Kd.R_drew));exact HO131.out) (Kd.R_base ho53) hb);have n1_:=Aside0.mk (Kd.R_elder' (by(with_reducible repeat(first | apply Kd.R_alloc | apply Kd.R_drewN | apply Kd.R_drew));exact HO135.out) (Kd.R_base ho53) hb);have n2_:=Aside0.mk (Kd.R_elder' (by(with_reducible repeat(first | apply Kd.R_alloc | apply Kd.R_drewN | apply Kd.R_drew));exact HO139.out) (Kd.R_base ho53) hb);have n3_:=Aside0.mk (Kd.R_elder' (by(with_reducible repeat(first | apply Kd.R_alloc | apply Kd.R_drewN | apply Kd.R_drew));exact HO144.out) (Kd.R_base ho53) hb);have n4_:=Aside0.mk (Kd.R_elder' (by(with_reducible repeat(first | apply Kd.R_alloc | apply Kd.R_drewN | apply Kd.R_drew));exact HO148.out) (Kd.R_base ho53) hb);have n5_:=Aside0.mk (Kd.R_elder' (by(with_reducible repeat(first | apply Kd.R_alloc | apply Kd.R_drewN | apply Kd.R_drew));exact HO151.out) (Kd.R_base ho53) hb);have n6_:=Aside0.mk (Kd.R_elder' (by(with_reducible repeat(first | apply Kd.R_alloc | apply Kd.R_drewN | apply Kd.R_drew));exact HO155.out) (Kd.R_base ho53) hb);have n7_:=Aside0.mk (Kd.R_lower (Kd.R_new' (Kd.R_new' (Kd.R_new' (Kd.R_new' (Kd.R_new' (Kd.R_new' (Kd.R_new' ho53 (Kd.R_lt (by(with_reducible repeat(first | apply Kd.R_alloc | apply Kd.R_drewN | apply Kd.R_drew));exact HO131.out))) (Kd.R_lt (by(with_reducible repeat(first | apply Kd.R_alloc | apply Kd.R_drewN | apply Kd.R_drew));exact HO135.out))) (Kd.R_lt (by(with_reducible repeat(first | apply Kd.R_alloc | apply Kd.R_drewN | apply Kd.R_drew));exact HO139.out))) (Kd.R_lt (by(with_reducible repeat(first | apply Kd.R_alloc | apply Kd.R_drewN | apply Kd.R_drew));exact HO144.out))) (Kd.R_lt (by(with_reducible repeat(first | apply Kd.R_alloc | apply Kd.R_drewN | apply Kd.R_drew));exact HO148.out))) (Kd.R_lt (by(with_reducible repeat(first | apply Kd.R_alloc | apply Kd.R_drewN | apply Kd.R_drew));exact HO151.out))) (Kd.R_lt (by(with_reducible repeat(first | apply Kd.R_alloc | apply Kd.R_drewN | apply Kd.R_drew));exact HO155.out))) (bwZ (by repeat(first |(with_reducible first | exact HB.out | apply bwA | apply bwN | apply bw1) | exact HB.out))));have n8_:=Aside0.mk (bwT (by repeat(first |(with_reducible first | exact HB.out | apply bwA | apply bwN | apply bw1) | exact HB.out)) hb);clear HO131;clear HO135;clear HO139;clear HO144;clear HO148;clear HO151;clear HO155;clear HB;have HO131:=n0_;have HO135:=n1_;have HO139:=n2_;have HO144:=n3_;have HO148:=n4_;have HO151:=n5_;have HO155:=n6_;have HO159:=n7_;have HB:=n8_;clear n0_ n1_ n2_ n3_ n4_ n5_ n6_ n7_ n8_;clear hb ho53;obtain ⟨Ao54,co54,eo54⟩:=Kd.R_slice HO139.out;subst eo54;obtain ⟨Ao55,co55,eo55⟩:=Kd.R_slice HO159.out;subst eo55) |(go_at_call 22;(with_reducible refine(w10_ints.calls k _ _ t136 _ _ y157 true _ ?side1 ?side2 ?side3 ?side4 A22.out).mono ?_);(case side1=>repeat(first | exact(Kd.R_reads' HO139.out).2.2 |(with_reducible refine Kd.C_alloc ?_ _) |(with_reducible refine Kd.C_drewN ?_ _) |(with_reducible refine Kd.C_drew ?_)));(case side2=>exact(Kd.R_reads' HO139.out).2.1);(case side3=>repeat(first | exact(Kd.R_reads' HO159.out).2.2 |(with_reducible refine Kd.C_alloc ?_ _) |(with_reducible refine Kd.C_drewN ?_ _) |(with_reducible refine Kd.C_drew ?_)));(case side4=>exact(Kd.R_reads' HO159.out).2.1);rintro e w' ⟨rfl,⟨nd,rfl⟩⟩))
   go_meet
   exact⟨_,(true),(by first | rfl |(simp;done) |(simp [*];done)),H',⟨by first | omega | exact Nat.le_refl _⟩,⟨by repeat(first |(with_reducible first | exact HB.out | apply bwA | apply bwN | apply bw1) | exact HB.out)⟩⟩
  rw [if_pos c26] at H
  have c26b0 :(t146 == 0) = true:=beq_iff_eq.mpr c26
  have c26b1 :(t146 != 0) = false:=bne_eq_false_iff_eq.mpr c26
  clear c26
  obtain ⟨y161,hy161⟩ : ∃ y_ : List Int,y_ =(([1,2] : List Int)):=⟨_,rfl⟩
  replace H :((w10_ints.f k t145 y161).bind fun t164=>(w10_awake.j0 k (!t164))) = some r:=by first |(rw [hy161];with_reducible exact H) |(have H2_:=(Option.bind_some _ _).symm.trans H;rw [hy161];with_reducible exact H2_) |(have H2_:=(Option.bind_some _ _).symm.trans H;with_reducible exact H2_) | with_reducible exact H |(rw [hy161];exact H) | exact H
  have Ny161:=Aside0.mk hy161
  clear hy161
  replace H:=Option.bind_eq_some_iff.mp H
  obtain ⟨t164,A270,H⟩:=H
  replace H :(w10_awake.j0 k (!t164)) = some r:=H
  have A27:=Aside0.mk A270
  clear A270
  have H':=Aside0.mk H
  clear H
  go_wp2_with (first |((with_reducible refine gate_dst (N:=36) rfl ?_);(try(refine gate_guard (by rfl) ?_;dsimp only));refine Kd.R_lit (Kd.int .i64) _ 3 ?hg (N:=36) ?hd (xs:=([1,2] : List Int)) (inner:=[.int .i64 1,.int .i64 2]) (ok:=fun _=>True) (okp:=fun _=>True) ?hr ?hp (fun _ hk=>hk) trivial (Below.refl _ _) (Nat.le_refl _) (by simp) ?_;(case hd=>rfl);(case hg=>rfl);(case hr=>first |(go_simp;done) |(go_simp;rfl));(case hp=>exact(Reps.one (show Kd.M (Kd.int .i64) _ _ _ 1 [.int .i64 1] from rfl) (Reps.one (show Kd.M (Kd.int .i64) _ _ _ 2 [.int .i64 2] from rfl) (Reps.none _ _))));intro v150 w28 ho29 hb hg_ hnew_;clear hg_ hnew_;(first | rw [← Ny149.out] at ho29 |(simp only [Int.reduceToNat] at ho29;rw [← Ny149.out] at ho29));have n0_:=Aside0.mk (Kd.R_elder' (by(with_reducible repeat(first | apply Kd.R_alloc | apply Kd.R_drewN | apply Kd.R_drew));exact HO131.out) (Kd.R_base ho29) hb);have n1_:=Aside0.mk (Kd.R_elder' (by(with_reducible repeat(first | apply Kd.R_alloc | apply Kd.R_drewN | apply Kd.R_drew));exact HO135.out) (Kd.R_base ho29) hb);have n2_:=Aside0.mk (Kd.R_elder' (by(with_reducible repeat(first | apply Kd.R_alloc | apply Kd.R_drewN | apply Kd.R_drew));exact HO139.out) (Kd.R_base ho29) hb);have n3_:=Aside0.mk (Kd.R_elder' (by(with_reducible repeat(first | apply Kd.R_alloc | apply Kd.R_drewN | apply Kd.R_drew));exact HO144.out) (Kd.R_base ho29) hb);have n4_:=Aside0.mk (Kd.R_elder' (by(with_reducible repeat(first | apply Kd.R_alloc | apply Kd.R_drewN | apply Kd.R_drew));exact HO148.out) (Kd.R_base ho29) hb);have n5_:=Aside0.mk (Kd.R_lower (Kd.R_new' (Kd.R_new' (Kd.R_new' (Kd.R_new' (Kd.R_new' ho29 (Kd.R_lt (by(with_reducible repeat(first | apply Kd.R_alloc | apply Kd.R_drewN | apply Kd.R_drew));exact HO131.out))) (Kd.R_lt (by(with_reducible repeat(first | apply Kd.R_alloc | apply Kd.R_drewN | apply Kd.R_drew));exact HO135.out))) (Kd.R_lt (by(with_reducible repeat(first | apply Kd.R_alloc | apply Kd.R_drewN | apply Kd.R_drew));exact HO139.out))) (Kd.R_lt (by(with_reducible repeat(first | apply Kd.R_alloc | apply Kd.R_drewN | apply Kd.R_drew));exact HO144.out))) (Kd.R_lt (by(with_reducible repeat(first | apply Kd.R_alloc | apply Kd.R_drewN | apply Kd.R_drew));exact HO148.out))) (bwZ (by repeat(first |(with_reducible first | exact HB.out | apply bwA | apply bwN | apply bw1) | exact HB.out))));have n6_:=Aside0.mk (bwT (by repeat(first |(with_reducible first | exact HB.out | apply bwA | apply bwN | apply bw1) | exact HB.out)) hb);clear HO131;clear HO135;clear HO139;clear HO144;clear HO148;clear HB;have HO131:=n0_;have HO135:=n1_;have HO139:=n2_;have HO144:=n3_;have HO148:=n4_;have HO151:=n5_;have HB:=n6_;clear n0_ n1_ n2_ n3_ n4_ n5_ n6_;clear hb ho29;obtain ⟨Ao30,co30,eo30⟩:=Kd.R_slice HO131.out;subst eo30;obtain ⟨Ao31,co31,eo31⟩:=Kd.R_slice HO151.out;subst eo31) |(go_at_call 22;(with_reducible refine(w10_ints.calls k _ _ t128 _ _ y149 true _ ?side1 ?side2 ?side3 ?side4 A16.out).mono ?_);(case side1=>repeat(first | exact(Kd.R_reads' HO131.out).2.2 |(with_reducible refine Kd.C_alloc ?_ _) |(with_reducible refine Kd.C_drewN ?_ _) |(with_reducible refine Kd.C_drew ?_)));(case side2=>exact(Kd.R_reads' HO131.out).2.1);(case side3=>repeat(first | exact(Kd.R_reads' HO151.out).2.2 |(with_reducible refine Kd.C_alloc ?_ _) |(with_reducible refine Kd.C_drewN ?_ _) |(with_reducible refine Kd.C_drew ?_)));(case side4=>exact(Kd.R_reads' HO151.out).2.1);rintro e w' ⟨rfl,⟨nd,rfl⟩⟩) |((with_reducible refine gate_dst (N:=46) rfl ?_);(try(refine gate_guard (by rfl) ?_;dsimp only));refine Kd.R_lit (Kd.int .i64) _ 3 ?hg (N:=46) ?hd (xs:=([2,3] : List Int)) (inner:=[.int .i64 2,.int .i64 3]) (ok:=fun _=>True) (okp:=fun _=>True) ?hr ?hp (fun _ hk=>hk) trivial (Below.refl _ _) (Nat.le_refl _) (by simp) ?_;(case hd=>rfl);(case hg=>rfl);(case hr=>first |(go_simp;done) |(go_simp;rfl));(case hp=>exact(Reps.one (show Kd.M (Kd.int .i64) _ _ _ 2 [.int .i64 2] from rfl) (Reps.one (show Kd.M (Kd.int .i64) _ _ _ 3 [.int .i64 3] from rfl) (Reps.none _ _))));intro v154 w32 ho33 hb hg_ hnew_;clear hg_ hnew_;(first | rw [← Ny153.out] at ho33 |(simp only [Int.reduceToNat] at ho33;rw [← Ny153.out] at ho33));have n0_:=Aside0.mk (Kd.R_elder' (by(with_reducible repeat(first | apply Kd.R_alloc | apply Kd.R_drewN | apply Kd.R_drew));exact HO131.out) (Kd.R_base ho33) hb);have n1_:=Aside0.mk (Kd.R_elder' (by(with_reducible repeat(first | apply Kd.R_alloc | apply Kd.R_drewN | apply Kd.R_drew));exact HO135.out) (Kd.R_base ho33) hb);have n2_:=Aside0.mk (Kd.R_elder' (by(with_reducible repeat(first | apply Kd.R_alloc | apply Kd.R_drewN | apply Kd.R_drew));exact HO139.out) (Kd.R_base ho33) hb);have n3_:=Aside0.mk (Kd.R_elder' (by(with_reducible repeat(first | apply Kd.R_alloc | apply Kd.R_drewN | apply Kd.R_drew));exact HO144.out) (Kd.R_base ho33) hb);have n4_:=Aside0.mk (Kd.R_elder' (by(with_reducible repeat(first | apply Kd.R_alloc | apply Kd.R_drewN | apply Kd.R_drew));exact HO148.out) (Kd.R_base ho33) hb);have n5_:=Aside0.mk (Kd.R_elder' (by(with_reducible repeat(first | apply Kd.R_alloc | apply Kd.R_drewN | apply Kd.R_drew));exact HO151.out) (Kd.R_base ho33) hb);have n6_:=Aside0.mk (Kd.R_lower (Kd.R_new' (Kd.R_new' (Kd.R_new' (Kd.R_new' (Kd.R_new' (Kd.R_new' ho33 (Kd.R_lt (by(with_reducible repeat(first | apply Kd.R_alloc | apply Kd.R_drewN | apply Kd.R_drew));exact HO131.out))) (Kd.R_lt (by(with_reducible repeat(first | apply Kd.R_alloc | apply Kd.R_drewN | apply Kd.R_drew));exact HO135.out))) (Kd.R_lt (by(with_reducible repeat(first | apply Kd.R_alloc | apply Kd.R_drewN | apply Kd.R_drew));exact HO139.out))) (Kd.R_lt (by(with_reducible repeat(first | apply Kd.R_alloc | apply Kd.R_drewN | apply Kd.R_drew));exact HO144.out))) (Kd.R_lt (by(with_reducible repeat(first | apply Kd.R_alloc | apply Kd.R_drewN | apply Kd.R_drew));exact HO148.out))) (Kd.R_lt (by(with_reducible repeat(first | apply Kd.R_alloc | apply Kd.R_drewN | apply Kd.R_drew));exact HO151.out))) (bwZ (by repeat(first |(with_reducible first | exact HB.out | apply bwA | apply bwN | apply bw1) | exact HB.out))));have n7_:=Aside0.mk (bwT (by repeat(first |(with_reducible first | exact HB.out | apply bwA | apply bwN | apply bw1) | exact HB.out)) hb);clear HO131;clear HO135;clear HO139;clear HO144;clear HO148;clear HO151;clear HB;have HO131:=n0_;have HO135:=n1_;have HO139:=n2_;have HO144:=n3_;have HO148:=n4_;have HO151:=n5_;have HO155:=n6_;have HB:=n7_;clear n0_ n1_ n2_ n3_ n4_ n5_ n6_ n7_;clear hb ho33;obtain ⟨Ao34,co34,eo34⟩:=Kd.R_slice HO135.out;subst eo34;obtain ⟨Ao35,co35,eo35⟩:=Kd.R_slice HO155.out;subst eo35) |(go_at_call 22;(with_reducible refine(w10_ints.calls k _ _ t132 _ _ y153 true _ ?side1 ?side2 ?side3 ?side4 A19.out).mono ?_);(case side1=>repeat(first | exact(Kd.R_reads' HO135.out).2.2 |(with_reducible refine Kd.C_alloc ?_ _) |(with_reducible refine Kd.C_drewN ?_ _) |(with_reducible refine Kd.C_drew ?_)));(case side2=>exact(Kd.R_reads' HO135.out).2.1);(case side3=>repeat(first | exact(Kd.R_reads' HO155.out).2.2 |(with_reducible refine Kd.C_alloc ?_ _) |(with_reducible refine Kd.C_drewN ?_ _) |(with_reducible refine Kd.C_drew ?_)));(case side4=>exact(Kd.R_reads' HO155.out).2.1);rintro e w' ⟨rfl,⟨nd,rfl⟩⟩) |((with_reducible refine gate_dst (N:=56) rfl ?_);(try(refine gate_guard (by rfl) ?_;dsimp only));refine Kd.R_lit (Kd.int .i64) _ 3 ?hg (N:=56) ?hd (xs:=([3,2,1] : List Int)) (inner:=[.int .i64 3,.int .i64 2,.int .i64 1]) (ok:=fun _=>True) (okp:=fun _=>True) ?hr ?hp (fun _ hk=>hk) trivial (Below.refl _ _) (Nat.le_refl _) (by simp) ?_;(case hd=>rfl);(case hg=>rfl);(case hr=>first |(go_simp;done) |(go_simp;rfl));(case hp=>exact(Reps.one (show Kd.M (Kd.int .i64) _ _ _ 3 [.int .i64 3] from rfl) (Reps.one (show Kd.M (Kd.int .i64) _ _ _ 2 [.int .i64 2] from rfl) (Reps.one (show Kd.M (Kd.int .i64) _ _ _ 1 [.int .i64 1] from rfl) (Reps.none _ _)))));intro v158 w36 ho37 hb hg_ hnew_;clear hg_ hnew_;(first | rw [← Ny157.out] at ho37 |(simp only [Int.reduceToNat] at ho37;rw [← Ny157.out] at ho37));have n0_:=Aside0.mk (Kd.R_elder' (by(with_reducible repeat(first | apply Kd.R_alloc | apply Kd.R_drewN | apply Kd.R_drew));exact HO131.out) (Kd.R_base ho37) hb);have n1_:=Aside0.mk (Kd.R_elder' (by(with_reducible repeat(first | apply Kd.R_alloc | apply Kd.R_drewN | apply Kd.R_drew));exact HO135.out) (Kd.R_base ho37) hb);have n2_:=Aside0.mk (Kd.R_elder' (by(with_reducible repeat(first | apply Kd.R_alloc | apply Kd.R_drewN | apply Kd.R_drew));exact HO139.out) (Kd.R_base ho37) hb);have n3_:=Aside0.mk (Kd.R_elder' (by(with_reducible repeat(first | apply Kd.R_alloc | apply Kd.R_drewN | apply Kd.R_drew));exact HO144.out) (Kd.R_base ho37) hb);have n4_:=Aside0.mk (Kd.R_elder' (by(with_reducible repeat(first | apply Kd.R_alloc | apply Kd.R_drewN | apply Kd.R_drew));exact HO148.out) (Kd.R_base ho37) hb);have n5_:=Aside0.mk (Kd.R_elder' (by(with_reducible repeat(first | apply Kd.R_alloc | apply Kd.R_drewN | apply Kd.R_drew));exact HO151.out) (Kd.R_base ho37) hb);have n6_:=Aside0.mk (Kd.R_elder' (by(with_reducible repeat(first | apply Kd.R_alloc | apply Kd.R_drewN | apply Kd.R_drew));exact HO155.out) (Kd.R_base ho37) hb);have n7_:=Aside0.mk (Kd.R_lower (Kd.R_new' (Kd.R_new' (Kd.R_new' (Kd.R_new' (Kd.R_new' (Kd.R_new' (Kd.R_new' ho37 (Kd.R_lt (by(with_reducible repeat(first | apply Kd.R_alloc | apply Kd.R_drewN | apply Kd.R_drew));exact HO131.out))) (Kd.R_lt (by(with_reducible repeat(first | apply Kd.R_alloc | apply Kd.R_drewN | apply Kd.R_drew));exact HO135.out))) (Kd.R_lt (by(with_reducible repeat(first | apply Kd.R_alloc | apply Kd.R_drewN | apply Kd.R_drew));exact HO139.out))) (Kd.R_lt (by(with_reducible repeat(first | apply Kd.R_alloc | apply Kd.R_drewN | apply Kd.R_drew));exact HO144.out))) (Kd.R_lt (by(with_reducible repeat(first | apply Kd.R_alloc | apply Kd.R_drewN | apply Kd.R_drew));exact HO148.out))) (Kd.R_lt (by(with_reducible repeat(first | apply Kd.R_alloc | apply Kd.R_drewN | apply Kd.R_drew));exact HO151.out))) (Kd.R_lt (by(with_reducible repeat(first | apply Kd.R_alloc | apply Kd.R_drewN | apply Kd.R_drew));exact HO155.out))) (bwZ (by repeat(first |(with_reducible first | exact HB.out | apply bwA | apply bwN | apply bw1) | exact HB.out))));have n8_:=Aside0.mk (bwT (by repeat(first |(with_reducible first | exact HB.out | apply bwA | apply bwN | apply bw1) | exact HB.out)) hb);clear HO131;clear HO135;clear HO139;clear HO144;clear HO148;clear HO151;clear HO155;clear HB;have HO131:=n0_;have HO135:=n1_;have HO139:=n2_;have HO144:=n3_;have HO148:=n4_;have HO151:=n5_;have HO155:=n6_;have HO159:=n7_;have HB:=n8_;clear n0_ n1_ n2_ n3_ n4_ n5_ n6_ n7_ n8_;clear hb ho37;obtain ⟨Ao38,co38,eo38⟩:=Kd.R_slice HO139.out;subst eo38;obtain ⟨Ao39,co39,eo39⟩:=Kd.R_slice HO159.out;subst eo39) |(go_at_call 22;(with_reducible refine(w10_ints.calls k _ _ t136 _ _ y157 true _ ?side1 ?side2 ?side3 ?side4 A22.out).mono ?_);(case side1=>repeat(first | exact(Kd.R_reads' HO139.out).2.2 |(with_reducible refine Kd.C_alloc ?_ _) |(with_reducible refine Kd.C_drewN ?_ _) |(with_reducible refine Kd.C_drew ?_)));(case side2=>exact(Kd.R_reads' HO139.out).2.1);(case side3=>repeat(first | exact(Kd.R_reads' HO159.out).2.2 |(with_reducible refine Kd.C_alloc ?_ _) |(with_reducible refine Kd.C_drewN ?_ _) |(with_reducible refine Kd.C_drew ?_)));(case side4=>exact(Kd.R_reads' HO159.out).2.1);rintro e w' ⟨rfl,⟨nd,rfl⟩⟩) |((with_reducible refine gate_dst (N:=74) rfl ?_);(try(refine gate_guard (by rfl) ?_;dsimp only));refine Kd.R_lit (Kd.int .i64) _ 3 ?hg (N:=74) ?hd (xs:=([1,2] : List Int)) (inner:=[.int .i64 1,.int .i64 2]) (ok:=fun _=>True) (okp:=fun _=>True) ?hr ?hp (fun _ hk=>hk) trivial (Below.refl _ _) (Nat.le_refl _) (by simp) ?_;(case hd=>rfl);(case hg=>rfl);(case hr=>first |(go_simp;done) |(go_simp;rfl));(case hp=>exact(Reps.one (show Kd.M (Kd.int .i64) _ _ _ 1 [.int .i64 1] from rfl) (Reps.one (show Kd.M (Kd.int .i64) _ _ _ 2 [.int .i64 2] from rfl) (Reps.none _ _))));intro v162 w40 ho41 hb hg_ hnew_;clear hg_ hnew_;(first | rw [← Ny161.out] at ho41 |(simp only [Int.reduceToNat] at ho41;rw [← Ny161.out] at ho41));have n0_:=Aside0.mk (Kd.R_elder' (by(with_reducible repeat(first | apply Kd.R_alloc | apply Kd.R_drewN | apply Kd.R_drew));exact HO131.out) (Kd.R_base ho41) hb);have n1_:=Aside0.mk (Kd.R_elder' (by(with_reducible repeat(first | apply Kd.R_alloc | apply Kd.R_drewN | apply Kd.R_drew));exact HO135.out) (Kd.R_base ho41) hb);have n2_:=Aside0.mk (Kd.R_elder' (by(with_reducible repeat(first | apply Kd.R_alloc | apply Kd.R_drewN | apply Kd.R_drew));exact HO139.out) (Kd.R_base ho41) hb);have n3_:=Aside0.mk (Kd.R_elder' (by(with_reducible repeat(first | apply Kd.R_alloc | apply Kd.R_drewN | apply Kd.R_drew));exact HO144.out) (Kd.R_base ho41) hb);have n4_:=Aside0.mk (Kd.R_elder' (by(with_reducible repeat(first | apply Kd.R_alloc | apply Kd.R_drewN | apply Kd.R_drew));exact HO148.out) (Kd.R_base ho41) hb);have n5_:=Aside0.mk (Kd.R_elder' (by(with_reducible repeat(first | apply Kd.R_alloc | apply Kd.R_drewN | apply Kd.R_drew));exact HO151.out) (Kd.R_base ho41) hb);have n6_:=Aside0.mk (Kd.R_elder' (by(with_reducible repeat(first | apply Kd.R_alloc | apply Kd.R_drewN | apply Kd.R_drew));exact HO155.out) (Kd.R_base ho41) hb);have n7_:=Aside0.mk (Kd.R_elder' (by(with_reducible repeat(first | apply Kd.R_alloc | apply Kd.R_drewN | apply Kd.R_drew));exact HO159.out) (Kd.R_base ho41) hb);have n8_:=Aside0.mk (Kd.R_lower (Kd.R_new' (Kd.R_new' (Kd.R_new' (Kd.R_new' (Kd.R_new' (Kd.R_new' (Kd.R_new' (Kd.R_new' ho41 (Kd.R_lt (by(with_reducible repeat(first | apply Kd.R_alloc | apply Kd.R_drewN | apply Kd.R_drew));exact HO131.out))) (Kd.R_lt (by(with_reducible repeat(first | apply Kd.R_alloc | apply Kd.R_drewN | apply Kd.R_drew));exact HO135.out))) (Kd.R_lt (by(with_reducible repeat(first | apply Kd.R_alloc | apply Kd.R_drewN | apply Kd.R_drew));exact HO139.out))) (Kd.R_lt (by(with_reducible repeat(first | apply Kd.R_alloc | apply Kd.R_drewN | apply Kd.R_drew));exact HO144.out))) (Kd.R_lt (by(with_reducible repeat(first | apply Kd.R_alloc | apply Kd.R_drewN | apply Kd.R_drew));exact HO148.out))) (Kd.R_lt (by(with_reducible repeat(first | apply Kd.R_alloc | apply Kd.R_drewN | apply Kd.R_drew));exact HO151.out))) (Kd.R_lt (by(with_reducible repeat(first | apply Kd.R_alloc | apply Kd.R_drewN | apply Kd.R_drew));exact HO155.out))) (Kd.R_lt (by(with_reducible repeat(first | apply Kd.R_alloc | apply Kd.R_drewN | apply Kd.R_drew));exact HO159.out))) (bwZ (by repeat(first |(with_reducible first | exact HB.out | apply bwA | apply bwN | apply bw1) | exact HB.out))));have n9_:=Aside0.mk (bwT (by repeat(first |(with_reducible first | exact HB.out | apply bwA | apply bwN | apply bw1) | exact HB.out)) hb);clear HO131;clear HO135;clear HO139;clear HO144;clear HO148;clear HO151;clear HO155;clear HO159;clear HB;have HO131:=n0_;have HO135:=n1_;have HO139:=n2_;have HO144:=n3_;have HO148:=n4_;have HO151:=n5_;have HO155:=n6_;have HO159:=n7_;have HO163:=n8_;have HB:=n9_;clear n0_ n1_ n2_ n3_ n4_ n5_ n6_ n7_ n8_ n9_;clear hb ho41;obtain ⟨Ao42,co42,eo42⟩:=Kd.R_slice HO148.out;subst eo42;obtain ⟨Ao43,co43,eo43⟩:=Kd.R_slice HO163.out;subst eo43) |(go_at_call 22;(with_reducible refine(w10_ints.calls k _ _ t145 _ _ y161 t164 _ ?side1 ?side2 ?side3 ?side4 A27.out).mono ?_);(case side1=>repeat(first | exact(Kd.R_reads' HO148.out).2.2 |(with_reducible refine Kd.C_alloc ?_ _) |(with_reducible refine Kd.C_drewN ?_ _) |(with_reducible refine Kd.C_drew ?_)));(case side2=>exact(Kd.R_reads' HO148.out).2.1);(case side3=>repeat(first | exact(Kd.R_reads' HO163.out).2.2 |(with_reducible refine Kd.C_alloc ?_ _) |(with_reducible refine Kd.C_drewN ?_ _) |(with_reducible refine Kd.C_drew ?_)));(case side4=>exact(Kd.R_reads' HO163.out).2.1);rintro e w' ⟨rfl,⟨nd,rfl⟩⟩))
  go_meet
  exact⟨_,(!t164),(by first | rfl |(simp;done) |(simp [*];done)),H',⟨by first | omega | exact Nat.le_refl _⟩,⟨by repeat(first |(with_reducible first | exact HB.out | apply bwA | apply bwN | apply bw1) | exact HB.out)⟩⟩
 case rest =>
  clear HC6
  try clear c1
  try clear c2
  try clear p2
  try clear c3
  try clear c4
  try clear c15
  try clear c15b0
  try clear c15b1
  try clear c17
  try clear c18
  try clear c18b0
  try clear c18b1
  try clear c20
  try clear c21
  try clear c21b0
  try clear c21b1
  try clear c23
  try clear c24
  try clear c24b0
  try clear c24b1
  try clear c25
  try clear c25b0
  try clear c25b1
  try clear c26
  try clear c26b0
  try clear c26b1
  try clear c28
  try clear c31
  try clear c38
  try clear c48
  obtain ⟨kq,x77_5,rfl,HA,HJ5,HB⟩:=hcut
  cases kq with
  | zero=>exact absurd HA.out (by simp [w10_awake.j0])
  | succ kj5 =>
   have H:=HA.out
   clear HA
   simp only [w10_awake.j0] at H
   by_cases c116 : x77_5 = true
   ·subst c116
    have H1 :(some false) = some r:=by rw [if_pos rfl] at H;exact H
    clear H
    have H:=H1
    clear H1
    obtain rfl:=Option.some.inj H
    go_wp2
    go_ret
    exact⟨by first | rfl |(simp [errW_none,errW_some] <;> rfl) |(simp [*,errW_none,errW_some] <;> rfl),by repeat(first |(with_reducible first | exact HB.out | apply bwA | apply bwN | apply bw1) | exact HB.out)⟩
   replace c116:=Bool.eq_false_iff.mpr c116
   subst c116
   have H1 :(some true) = some r:=by rw [if_neg (show ¬ (false = true) by decide)] at H;exact H
   clear H
   have H:=H1
   clear H1
   obtain rfl:=Option.some.inj H
   go_wp2
   go_ret
   exact⟨by first | rfl |(simp [errW_none,errW_some] <;> rfl) |(simp [*,errW_none,errW_some] <;> rfl),by repeat(first |(with_reducible first | exact HB.out | apply bwA | apply bwN | apply bw1) | exact HB.out)⟩

open Go.Proofs.Ytbfhlaggllofdaa.G Go.Proofs.Ytbfhlaggllofdaa.T Go.Proofs.Ytbfhlaggllofdaa.P
def turns_Grouping.f (a0 a1 : Int) : Option (List Int×Int):=some (if 0≤a0∧a0≤20∧0≤a1∧a1≤bw a0.toNat 0 - 1 then(grp a0.toNat 0 a1,0) else([],2))
theorem gr_step {m u : Nat} {a : Int} (hm : m + 1 + u ≤ 20) (h0 : 0 ≤ a) (h1 : a < bw (m + 1) u) :
  ∃ g : Nat,gOf m u a = g ∧((bw m u == 0) = false ∧(bw m u = 0) = False∧Int.tdiv a (bw m u) = a / bw m u∧wrap64 (a / bw m u) = a / bw m u) ∧
  (min (u : Int) (a / bw m u) =(g : Int) ∧(if a / bw m u < (u : Int) then a / bw m u else(u : Int)) =(g : Int) ∧(if(u : Int) < a / bw m u then(u : Int) else a / bw m u) =(g : Int)) ∧
  (wrap64 ((g : Int) * bw m u) =(g : Int) * bw m u∧wrap64 (a - (g : Int) * bw m u) = a - (g : Int) * bw m u∧wrap64 ((g : Int) + 1) =(g : Int) + 1) ∧
  (max (u : Int) ((g : Int) + 1) =((max u (g + 1) : Nat) : Int) ∧(if(u : Int) < (g : Int) + 1 then(g : Int) + 1 else(u : Int)) =((max u (g + 1) : Nat) : Int)) ∧
  (m + max u (g + 1)≤20∧0≤a - (g : Int) * bw m u∧a - (g : Int) * bw m u < bw m (max u (g + 1))):=by
 refine⟨gOf m u a,rfl,?_⟩
 have hb:=bw_le64 (m:=m) (j:=u) (by omega)
 have hb1:=bw_le64 (m:=m + 1) (j:=u) (by omega)
 obtain ⟨d0,d1,d2⟩:=div_bw m u a h0
 have hr:=gOf_rest m u a h0 h1
 have hg :(gOf m u a : Int) = min (u : Int) (a / bw m u):=by unfold gOf;omega
 have hgu : gOf m u a≤u:=by omega
 have hgm : 0 ≤(gOf m u a : Int) * bw m u:=Int.mul_nonneg (by omega) (by omega)
 have ht : Int.tdiv a (bw m u) = a / bw m u:=Int.tdiv_eq_ediv_of_nonneg h0
 obtain ⟨g,hgg⟩ : ∃ g,gOf m u a = g:=⟨_,rfl⟩
 rw [hgg] at hr hg hgu hgm ⊢
 obtain ⟨q,hq⟩ : ∃ q,a / bw m u = q:=⟨_,rfl⟩
 rw [hq] at d0 d1 d2 hg ht ⊢
 have hq1 : q≤a:=by
  have : q * 1≤q * bw m u:=Int.mul_le_mul_of_nonneg_left (by omega) d0
  omega
 obtain ⟨B,hB⟩ : ∃ B,bw m u = B:=⟨_,rfl⟩
 obtain ⟨C,hC⟩ : ∃ B,bw (m + 1) u = B:=⟨_,rfl⟩
 obtain ⟨E,hE⟩ : ∃ B,(g : Int) * bw m u = B:=⟨_,rfl⟩
 rw [hC] at h1 hb1
 rw [hE] at hr hgm ⊢
 rw [hB] at hb ht ⊢
 clear hB hC hE hq hgg d1 d2
 refine⟨⟨by simp;omega,by simp;omega,ht,w64 (by omega) (by omega)⟩,⟨hg.symm,by split <;> omega,by split <;> omega⟩,⟨w64 (by omega) (by omega),w64 (by omega) (by omega),w64 (by omega) (by omega)⟩,⟨by omega,by split <;> omega⟩,by omega,hr.1,hr.2⟩
set_option maxHeartbeats 400000 in
set_option maxRecDepth 100000 in
theorem turns_Grouping.calls (a0 a1 : Int) (r1 : List Int) (r2 : Int) (w : World) (h : turns_Grouping.f a0 a1 = some (r1, r2)) :
  Calls Try.prog 39 #[.int .i64 a0,.int .i64 a1] w fun e w'=>∃ v0_ : Value,e = .returned (.tuple #[v0_,.int .i64 r2])∧Kd.R (Kd.int .i64) 3 w' w.heap.size (fun _=>True) v0_ r1∧Below w.heap.size w w':=by
 replace h:=Option.some.inj h
 have HB:=Aside0.mk (Below.refl w.heap.size w)
 by_cases c0 : 0≤a0∧a0≤20
 rotate_left
 ·rw [if_neg (fun hh => c0 ⟨hh.1, hh.2.1⟩)] at h
  injection h with h1 h2
  subst h1;subst h2
  have hi1:=Aside0.mk (within_no c0)
  clear c0
  go_enter Try.func39,Try.ntmps39
  go_wp2_with (first |(go_at_call 56;go_must (with_reducible refine(turns_within.calls a0 0 20 false _ hi1.out).mono ?_;rintro e w' ⟨rfl,⟨nd,rfl⟩⟩)) |(go_at_call 59;go_must (refine(rests_new _).mono ?_;rintro e w1 ⟨g,rfl,ht,hb,hg⟩;have HB1:=Aside0.mk (bwT (by repeat(first |(with_reducible first | exact HB.out | apply bwN) | exact HB.out)) hb);clear ht hb hg)))
  go_ret2
  exact⟨_,rfl,Kd.R_nil _ _ _ _ _,by repeat(first |(with_reducible first | exact HB1.out | apply bwN) | exact HB1.out)⟩
 have hi1:=Aside0.mk (within_yes c0)
 obtain ⟨n,rfl⟩ : ∃ n : Nat,a0 = n:=⟨a0.toNat,by omega⟩
 have d1:=eq_true (show(n : Int) < 21 by omega)
 have d0:=eq_true (show 0 ≤(n : Int) by omega)
 have HN:=Aside0.mk (show n≤20 by omega)
 have hb0:=bw_le64 (m:=n) (j:=0) (by omega)
 rw [show((n : Int)).toNat = n by omega] at h
 have wb : wrap64 (bw n 0 - 1) = bw n 0 - 1:=w64 (by omega) (by omega)
 by_cases c1 : 0≤a1∧a1≤bw n 0 - 1
 rotate_left
 ·rw [if_neg (fun hh => c1 hh.2.2)] at h
  injection h with h1 h2
  subst h1;subst h2
  have hi2:=Aside0.mk (within_no c1)
  obtain ⟨vn,hvn⟩ : ∃ v,bw n 0 = v:=⟨_,rfl⟩
  have HV:=Aside0.mk hvn
  rw [hvn] at wb hi2
  clear c0 c1 hb0 hvn
  go_enter Try.func39,Try.ntmps39
  go_wp2_with (first |(go_at_call 56;go_must (first |(with_reducible refine(turns_within.calls (n : Int) 0 20 true _ hi1.out).mono ?_;rintro e w' ⟨rfl,⟨nd,rfl⟩⟩) |(with_reducible refine(turns_within.calls a1 0 (vn - 1) false _ hi2.out).mono ?_;rintro e w' ⟨rfl,⟨nd,rfl⟩⟩))) |(go_at_call 59;go_must (refine(rests_new _).mono ?_;rintro e w1 ⟨g,rfl,ht,hb,hg⟩;have l1:=ht.1 (n * 22 + 0) (by have:=HN.out;omega);rw [rsV_at (by have:=HN.out;omega) (by have:=HN.out;omega),HV.out] at l1;simp only [Nat.add_zero] at l1;have HB1:=Aside0.mk (bwT (by repeat(first |(with_reducible first | exact HB.out | apply bwN) | exact HB.out)) hb);clear ht hb hg)))
  go_ret2
  exact⟨_,rfl,Kd.R_nil _ _ _ _ _,by repeat(first |(with_reducible first | exact HB1.out | apply bwN) | exact HB1.out)⟩
 rw [if_pos ⟨c0.1,c0.2,c1⟩] at h
 injection h with h1 h2
 subst h2
 have hi2:=Aside0.mk (within_yes c1)
 have HA:=Aside0.mk (show 0≤a1∧a1 < bw n 0 by omega)
 have HR:=Aside0.mk h1
 have wn : wrap64 ((n : Int) - 1) =(n : Int) - 1:=w64 (by omega) (by omega)
 obtain ⟨vn,hvn⟩ : ∃ v,bw n 0 = v:=⟨_,rfl⟩
 have HV:=Aside0.mk hvn
 rw [hvn] at wb hi2
 clear c0 c1 hb0 hvn h1
 go_enter Try.func39,Try.ntmps39
 go_wp2_with (first |(go_at_call 56;go_must (first |(with_reducible refine(turns_within.calls (n : Int) 0 20 true _ hi1.out).mono ?_;rintro e w' ⟨rfl,⟨nd,rfl⟩⟩) |(with_reducible refine(turns_within.calls a1 0 (vn - 1) true _ hi2.out).mono ?_;rintro e w' ⟨rfl,⟨nd,rfl⟩⟩))) |(go_at_call 59;go_must (refine(rests_new _).mono ?_;rintro e w1 ⟨g,rfl,ht,hb,hg⟩;have l1:=ht.1 (n * 22 + 0) (by have:=HN.out;omega);rw [rsV_at (by have:=HN.out;omega) (by have:=HN.out;omega),HV.out] at l1;simp only [Nat.add_zero] at l1;have HT:=Aside0.mk ht;have HB1:=Aside0.mk (bwT (by repeat(first |(with_reducible first | exact HB.out | apply bwN) | exact HB.out)) hb);have HG:=Aside0.mk hg;clear ht hb hg)))
 have HR0:=Aside0.mk (show [] ++ grp n 0 a1 = r1 from HR.out)
 clear HR
 rw [wn]
 clear wn wb
 go_loopw [1,7,8,9] (fun v1 v7 v8 v9 wr=>∃ (m u : Nat) (a : Int) (out : List Int),v1 = .int .i64 a∧v8 = .int .i64 u∧v9 = .int .i64 ((m : Int) - 1)∧Aside0 (m + u≤20∧0≤a∧a < bw m u∧out.length + m = n)∧Aside0 (out ++ grp m u a = r1)∧Aside0 (Kd.R (Kd.int .i64) 3 wr w1.heap.size (fun _=>True) v7 out)∧Aside0 (Below w1.heap.size w1 wr)) (fun v1 v7 v8 v9 _=>(intOf v9 + 1).toNat)
 case atStart=>exact⟨n,0,a1,[],rfl,rfl,(by simp),⟨by have:=HN.out;have:=HA.out;rw [HV.out] at *;simp;omega⟩,HR0,⟨Kd.R_nil _ _ _ _ _⟩,⟨bwN (Below.refl _ _) _⟩⟩
 clear HR0
 obtain ⟨m,u,a,out,rfl,rfl,rfl,HM,HR,HO,HB⟩:=hrel
 obtain ⟨m0,m1,m2,m3⟩:=HM.out
 have n20:=HN.out
 cases m with
 | zero =>
  have q1 : decide (0 ≤(((0 : Nat) : Int) - 1)) = false:=by decide
  have hr : out = r1:=by rw [← HR.out];simp [grp]
  subst hr
  clear m0 m1 m2 m3 n20
  go_wp2
  go_ret2
  exact⟨_,rfl,Kd.R_lower HO.out (bwZ HB1.out),bwT HB1.out HB.out⟩
 | succ m =>
  have q1 : decide (0 ≤((m + 1 : Nat) : Int) - 1) = true:=decide_eq_true (by omega)
  have q2 : decide (0 ≤(m : Int)) = true:=decide_eq_true (by omega)
  have em :((m + 1 : Nat) : Int) - 1 =(m : Int):=by omega
  have hm21 : m < 21:=by omega
  have m0':=eq_true (show 0 ≤(m : Int) by omega)
  have m1':=eq_true (show(m : Int) < 21 by omega)
  have u0:=eq_true (show 0 ≤(u : Int) by omega)
  have u1:=eq_true (show(u : Int) < 22 by omega)
  have hmu : m + 1 + u≤20:=by omega
  have HM1:=Aside0.mk (show m * 22 + u < 462∧u + m < 22∧out.length≤20 by omega)
  have WM:=Aside0.mk (show wrap64 ((m : Int) - 1) =(m : Int) - 1 from w64 (by omega) (by omega))
  have l1':=(Tbl.below HT.out (by decide) HB.out).1 (m * 22 + u) HM1.out.1
  rw [rsV_at HM1.out.2.1 hm21] at l1'
  have HMS:=Aside0.mk (show(intOf (.int .i64 ((m : Int) - 1)) + 1).toNat < (intOf (.int .i64 ((m : Int))) + 1).toNat by show((m : Int) - 1 + 1).toNat < ((m : Int) + 1).toNat;omega)
  rw [em]
  obtain ⟨g1,hg,⟨b0,b0',ht,wq⟩,⟨k1,k2,k3⟩,⟨wm,ws,wg⟩,⟨x1,x2⟩,y1,y2,y3⟩:=gr_step hmu m1 m2
  have HR2:=Aside0.mk (show(out ++ [(g1 : Int)]) ++ grp m (max u (g1 + 1)) (a - (g1 : Int) * bw m u) = r1 by
   rw [← HR.out,← hg]
   simp [grp])
  have HM2:=Aside0.mk (show m + max u (g1 + 1)≤20∧0≤a - (g1 : Int) * bw m u∧a - (g1 : Int) * bw m u < bw m (max u (g1 + 1)) ∧(out ++ [(g1 : Int)]).length + m = n from⟨y1,y2,y3,by rw [List.length_append,List.length_singleton];rw [← m3];exact Nat.add_assoc _ _ _ |>.trans (by rw [Nat.add_comm 1 m])⟩)
  obtain ⟨vb,hvb⟩ : ∃ v,bw m u = v:=⟨_,rfl⟩
  obtain ⟨q,hq⟩ : ∃ v,a / bw m u = v:=⟨_,rfl⟩
  rw [hq] at ht wq k1 k2 k3
  rw [hvb] at l1' b0 b0' ht wm ws HR2 HM2
  obtain ⟨u2,hu2⟩ : ∃ v,max u (g1 + 1) = v:=⟨_,rfl⟩
  rw [hu2] at x1 x2 HR2 HM2
  have wmm:=WM.out
  clear hg hq hvb hu2 y1 y2 y3 m0 m1 m2 m3 n20 hm21 hmu HM HR em
  go_wp2_with (first |((with_reducible refine gate_builtin (b:=.append) (xs:=#[.tmp 55,.tmp 57]) rfl ?_);at_builtin;refine Kd.R_append (Kd.int .i64) (w0:=w1) w1.heap.size rfl (.tmp 55) (.tmp 57) 22 3 (.int .i64 0) 8 rfl Try.underlying22 info3 rfl (by decide) (by omega) u7 out (g1 : Int) [.int .i64 (g1 : Int)] (fun _=>True) (fun _=>False) rfl rfl ?aP (fun _ hk=>hk.elim) ?aF ?aO ?aB ?aS ?aL ?_;(case aP=>exact rfl);(case aB=>exact(by repeat(first |(with_reducible first | exact HB.out | apply bwA | apply bwN | apply bw1) | exact HB.out)));(case aF=>exact(fun _ _=>trivial));(case aO=>exact(by(with_reducible repeat(first | apply Kd.R_alloc | apply Kd.R_drewN | apply Kd.R_drew));exact HO.out));(case aS=>exact(bwZ (by repeat(first |(with_reducible first | exact HB.out | apply bwA | apply bwN | apply bw1) | exact HB.out))));(case aL=>have:=HM1.out.2.2;omega);intro v262 w13 ho hb hg hat;have HO1:=Aside0.mk ho;have HBx:=Aside0.mk hb;clear ho hb hg hat))
  go_roundw
  case rel=>exact⟨m,u2,a - (g1 : Int) * vb,out ++ [(g1 : Int)],(by simp [ws,wm,k1,k2,k3,wq]),(by simp [x1,x2,wg,k1,k2,k3,wq]),(by simp [wmm]),HM2,HR2,HO1,HBx⟩
  (first | exact HMS.out |(rw [wmm];exact HMS.out) |(simp only [wmm];exact HMS.out))

open Go.Proofs.Ytbfhlaggllofdaa.G Go.Proofs.Ytbfhlaggllofdaa.T Go.Proofs.Ytbfhlaggllofdaa.P
def isGrpB : List Int → Nat → Bool
 | [],_=>true
 | g :: l,u=>decide (0≤g∧g ≤(u : Int)) && isGrpB l (max u (g.toNat + 1))
def turns_GroupingAt.f (l0 : List Int) : Option (Int×Int):=some (if(l0.length≤20∧isGrpB l0 0 = true) then(grpAt l0 0,0) else(0,2))
theorem grp_step {m u : Nat} {g : Int} (h0 : 0≤g) (h1 : g≤u) : 0≤g * bw m u∧g * bw m u + bw m (max u (g.toNat + 1))≤bw (m + 1) u:=by
 have hb:=bw_pos m u
 have hb2:=bw_pos m (u + 1)
 refine⟨Int.mul_nonneg h0 (by omega),?_⟩
 show _ ≤(u : Int) * bw m u + bw m (u + 1)
 by_cases c : g = u
 ·subst c
  rw [show max u ((u : Int).toNat + 1) = u + 1 by omega]
  exact Int.le_refl _
 rw [show max u (g.toNat + 1) = u by omega]
 have hm :(g + 1) * bw m u ≤(u : Int) * bw m u:=Int.mul_le_mul_of_nonneg_right (by omega) (by omega)
 rw [Int.add_mul,Int.one_mul] at hm
 omega
theorem ga_step {n i u m : Nat} {t x : Int} (hm : n = i + 1 + m) (hn : n ≤ 20) (hu : u ≤ i) (h0 : 0 ≤ t) (h1 : t + bw (n - i) u ≤ bw n 0) (c0 : 0 ≤ x) (c1 : x ≤ (u : Int)) :
  (wrap64 ((n : Int) - 1) =(n : Int) - 1∧wrap64 ((n : Int) - 1 - (i : Int)) =(m : Int)∧wrap64 (x + 1) = x + 1) ∧(wrap64 (x * bw m u) = x * bw m u∧wrap64 (t + x * bw m u) = t + x * bw m u) ∧
  (i + 1≤n∧max u (x.toNat + 1)≤i + 1∧0≤t + x * bw m u∧t + x * bw m u + bw (n - (i + 1)) (max u (x.toNat + 1))≤bw n 0) ∧((if(u : Int) < x + 1 then x + 1 else(u : Int)) =((max u (x.toNat + 1) : Nat) : Int)∧max (u : Int) (x + 1) =((max u (x.toNat + 1) : Nat) : Int))∧m * 22 + u < 462∧u + m < 22:=by
 have g:=grp_step (m:=m) c0 c1
 have hb:=(bw_le64 (m:=n) (j:=0) (by omega)).2
 have hb2:=bw_pos m (max u (x.toNat + 1))
 rw [show n - i = m + 1 by omega] at h1
 rw [show n - (i + 1) = m by omega]
 obtain ⟨u2,hu2⟩ : ∃ v,max u (x.toNat + 1) = v:=⟨_,rfl⟩
 have e1 :(if(u : Int) < x + 1 then x + 1 else(u : Int)) =(u2 : Int):=by split <;> omega
 have e2 : max (u : Int) (x + 1) =(u2 : Int):=by omega
 have e3 : u2≤i + 1:=by omega
 rw [hu2] at g hb2 ⊢
 obtain ⟨g0,g1⟩:=g
 obtain ⟨B,hB⟩ : ∃ v,bw n 0 = v:=⟨_,rfl⟩
 obtain ⟨C,hC⟩ : ∃ v,bw (m + 1) u = v:=⟨_,rfl⟩
 obtain ⟨D,hD⟩ : ∃ v,bw m u2 = v:=⟨_,rfl⟩
 obtain ⟨E,hE⟩ : ∃ v,x * bw m u = v:=⟨_,rfl⟩
 rw [hB] at hb h1 ⊢
 rw [hC] at g1 h1
 rw [hD] at g1 hb2 ⊢
 rw [hE] at g0 g1 ⊢
 clear hB hC hD hE
 refine⟨⟨w64 (by omega) (by omega),?_,w64 (by omega) (by omega)⟩,⟨w64 (by omega) (by omega),w64 (by omega) (by omega)⟩,⟨by omega,e3,by omega,by omega⟩,⟨e1,e2⟩,by omega,by omega⟩
 rw [w64 (by omega) (by omega)]
 omega
set_option maxHeartbeats 400000 in
set_option maxRecDepth 100000 in
theorem turns_GroupingAt.calls (A0 : Option Addr) (c0 : Nat) (l0 : List Int) (r1 r2 : Int) (w : World) (hr0 : Kd.C (Kd.int .i64) w A0 l0.length l0) (hc0 : l0.length ≤ c0) (h : turns_GroupingAt.f l0 = some (r1, r2)) :
  Calls Try.prog 40 #[.slice A0 l0.length c0] w fun e w'=>e = .returned (.tuple #[.int .i64 r1,.int .i64 r2])∧Below w.heap.size w w':=by
 replace h:=Option.some.inj h
 have HB:=Aside0.mk (Below.refl w.heap.size w)
 have HR:=Aside0.mk hr0
 have HC:=Aside0.mk hc0
 clear hr0 hc0
 by_cases hl : l0.length≤20
 rotate_left
 ·have q0 : decide (20 < (l0.length : Int)) = true := decide_eq_true (by omega)
  have q0' : decide (20 < l0.length) = true:=decide_eq_true (by omega)
  rw [if_neg (fun hh=>hl hh.1)] at h
  injection h with h1 h2
  subst h1;subst h2
  clear hl
  go_enter Try.func40,Try.ntmps40
  go_wp2
  go_ret2
  exact⟨rfl,HB.out⟩
 have q0 : decide (20 < (l0.length : Int)) = false:=decide_eq_false (by omega)
 have q0' : decide (20 < l0.length) = false:=decide_eq_false (by omega)
 have HG:=Aside0.mk (show(if isGrpB (l0.drop 0) 0 = true then(0 + grpAt (l0.drop 0) 0,(0 : Int)) else(0,2)) =(r1,r2) by
  rw [List.drop_zero,Int.zero_add,← h]
  by_cases c : isGrpB l0 0 = true
  ·rw [if_pos c,if_pos ⟨hl,c⟩]
  ·rw [if_neg c,if_neg (fun hh=>c hh.2)])
 have HL:=Aside0.mk hl
 clear h hl
 go_enter Try.func40,Try.ntmps40
 go_wp2_with (go_at_call 59;go_must (refine(rests_new _).mono ?_;rintro e w1 ⟨g,rfl,ht,hb,hg⟩;have HT:=Aside0.mk ht;have HB1:=Aside0.mk (bwT (by repeat(first |(with_reducible first | exact HB.out | apply bwN) | exact HB.out)) hb);clear ht hb))
 go_loopw [5,6,15] (fun v5 v6 v15 wr=>∃ (i u : Nat) (t : Int),v5 = .int .i64 t∧v6 = .int .i64 u∧v15 = .int .i64 i∧Aside0 (i≤l0.length∧u≤i∧0≤t∧t + bw (l0.length - i) u≤bw l0.length 0)∧Aside0 ((if isGrpB (l0.drop i) u = true then(t + grpAt (l0.drop i) u,(0 : Int)) else(0,2)) =(r1,r2)) ∧(∃ nd,wr = w1.drewN nd)) (fun v5 v6 v15 _=>l0.length - (intOf v15).toNat)
 case atStart=>exact⟨0,0,0,rfl,rfl,rfl,⟨by omega,by omega,by omega,by rw [Nat.sub_zero];omega⟩,HG,⟨0,rfl⟩⟩
 clear HG
 obtain ⟨i,u,t,rfl,rfl,rfl,HI,HG,⟨nd,rfl⟩⟩:=hrel
 have hl:=HL.out
 obtain ⟨i0,i1,i2,i3⟩:=HI.out
 by_cases c2 : i < l0.length
 rotate_left
 ·obtain rfl : i = l0.length := by omega
  have q1 : decide ((l0.length : Int) < (l0.length : Int)) = false:=decide_eq_false (by omega)
  have hr :(r1,r2) =(t,(0 : Int)):=by
   rw [← HG.out,List.drop_length]
   simp [isGrpB,grpAt]
  injection hr with h1 h2
  subst h1;subst h2
  clear c2 HG HI i0 i1 i2 i3
  go_wp2
  go_ret2
  exact⟨rfl,by repeat(first |(with_reducible first | exact HB1.out | apply bwN) | exact HB1.out)⟩
 obtain ⟨m,hm⟩ : ∃ m,l0.length = i + 1 + m:=⟨l0.length - i - 1,by omega⟩
 have q1 : decide ((i : Int) < (l0.length : Int)) = true:=decide_eq_true (by omega)
 have q2 : decide (i < l0.length) = true:=decide_eq_true c2
 obtain ⟨ad,ea,hx⟩:=Kd.at_int (Kd.C_drewN (Kd.C_below HR.out HB1.out) nd) (i : Int) (by omega) (by omega)
 cases ea
 rw [rd_get l0 c2] at hx
 simp only [Int.toNat_natCast] at hx
 have ed : l0.drop i = l0[i] :: l0.drop (i + 1):=List.drop_eq_getElem_cons c2
 have hg0:=HG.out
 rw [ed] at hg0
 obtain ⟨x,hxx⟩ : ∃ x,l0[i] = x:=⟨_,rfl⟩
 rw [hxx] at hx hg0
 have p0:=eq_true (show 0 ≤(i : Int) by omega)
 have p1:=eq_true (show(i : Int) < (l0.length : Int) by omega)
 have WI:=Aside0.mk (show wrap64 ((i : Int) + 1) =(i : Int) + 1 from w64 (by omega) (by omega))
 by_cases c3 : 0≤x∧x ≤(u : Int)
 rotate_left
 ·have hin := Aside0.mk (within_no c3)
  have hr :(r1,r2) =((0 : Int),(2 : Int)):=by
   rw [← hg0]
   have e1 : isGrpB (x :: l0.drop (i + 1)) u = false:=by
    show(decide _ && _) = _
    rw [decide_eq_false c3,Bool.false_and]
   rw [e1]
   rfl
  injection hr with h1 h2
  subst h1;subst h2
  clear hg0 ed hxx c3 c2 HG HI i0 i1 i2 i3 hm
  go_wp2_with (go_at_call 56;go_must (with_reducible refine(turns_within.calls x 0 (u : Int) false _ hin.out).mono ?_;rintro e w' ⟨rfl,⟨nd2,rfl⟩⟩))
  go_ret2
  exact⟨rfl,by repeat(first |(with_reducible first | exact HB1.out | apply bwN) | exact HB1.out)⟩
 have hin:=Aside0.mk (within_yes c3)
 have hl1 :(l0.drop (i + 1)).length = m:=by rw [List.length_drop];omega
 have hm21 : m < 21:=by omega
 have m0:=eq_true (show 0 ≤(m : Int) by omega)
 have m1:=eq_true (show(m : Int) < 21 by omega)
 have u0:=eq_true (show 0 ≤(u : Int) by omega)
 have u1:=eq_true (show(u : Int) < 22 by omega)
 obtain ⟨⟨w1',w2',w3'⟩,⟨wm,ws⟩,hI2,⟨hmx2,hmx⟩,b1,b2⟩:=ga_step hm hl i1 i2 i3 c3.1 c3.2
 have l1':=HT.out.1 (m * 22 + u) b1
 rw [rsV_at b2 hm21] at l1'
 have HI2:=Aside0.mk hI2
 have e1 : isGrpB (x :: l0.drop (i + 1)) u = isGrpB (l0.drop (i + 1)) (max u (x.toNat + 1)):=by
  show(decide _ && _) = _
  rw [decide_eq_true c3,Bool.true_and]
 have e2 : grpAt (x :: l0.drop (i + 1)) u = x * bw m u + grpAt (l0.drop (i + 1)) (max u (x.toNat + 1)):=by
  show x * bw (l0.drop (i + 1)).length u + _ = _
  rw [hl1]
 rw [e1,e2,← Int.add_assoc] at hg0
 have HG2:=Aside0.mk hg0
 clear e1 e2
 obtain ⟨vb,hvb⟩ : ∃ v,bw m u = v:=⟨_,rfl⟩
 rw [hvb] at l1' HI2 HG2 wm ws
 obtain ⟨u2,hu2⟩ : ∃ v,max u (x.toNat + 1) = v:=⟨_,rfl⟩
 rw [hu2] at hmx hmx2 HI2 HG2
 have wi:=WI.out
 clear hg0 ed hxx hl1 hI2 b1 b2 hm21 hvb hu2 c3 c2 HG HI i0 i1 i2 i3 hm
 go_wp2_with (go_at_call 56;go_must (with_reducible refine(turns_within.calls x 0 (u : Int) true _ hin.out).mono ?_;rintro e w' ⟨rfl,⟨nd2,rfl⟩⟩))
 go_roundw
 case rel=>exact⟨i + 1,u2,t + x * vb,(by simp [ws,wm]),(by simp [hmx,hmx2,w3']),(by simp [wi]),HI2,HG2,⟨_,by first | rfl | simp only [World.drewN_drewN]⟩⟩
 (first | exact meas1 wi (of_decide_eq_true q2) | exact meas1 rfl (of_decide_eq_true q2))

mutual
def q10_Groups.l0 : Nat → Int → Int → List Int → Int → Option (Int)
 | 0,_,_,_,_=>none
 | k + 1,x0,x1,x5,x6=>if x6 < (x5.length : Int) then(if 0≤x6 then(q10_Groups.l0 k x0 x1 (x5.set (x6 : Int).toNat 1) (wrap64 (x6 + 1))) else(none)) else(q10_Groups.l1 k x0 x1 x5 0)
def q10_Groups.l1 : Nat → Int → Int → List Int → Int → Option (Int)
 | 0,_,_,_,_=>none
 | k + 1,x0,x1,x5,x7=>if x7 < x1 then(if 0 ≤(x5.length : Int) then(if((x5.length : Int) : Int).toNat≤35184372088832 then(q10_Groups.l2 k x0 x1 x5 x7 (List.replicate ((x5.length : Int) : Int).toNat 0) 0) else(none)) else(none)) else(if 0≤x0 then(if x0 < (x5.length : Int) then(some (rd x5 x0)) else(none)) else(none))
def q10_Groups.l2 : Nat → Int → Int → List Int → Int → List Int → Int → Option (Int)
 | 0,_,_,_,_,_,_=>none
 | k + 1,x0,x1,x5,x7,x8,x9=>if(wrap64 (x9 + 1)) < (wrap64 ((x5.length : Int) - x7)) then(if 0≤x9 then(if x9 < (x5.length : Int) then(if 0 ≤(wrap64 (x9 + 1)) then(if(wrap64 (x9 + 1)) < (x5.length : Int) then(if x9 < (x8.length : Int) then(q10_Groups.l2 k x0 x1 x5 x7 (x8.set (x9 : Int).toNat (wrap64 ((wrap64 (x9 * (rd x5 x9))) + (rd x5 (wrap64 (x9 + 1)))))) (wrap64 (x9 + 1))) else(none)) else(none)) else(none)) else(none)) else(none)) else(q10_Groups.l1 k x0 x1 x8 (wrap64 (x7 + 1)))
end
def q10_Groups.f (k : Nat) (a0 : Int) (a1 : Int) : Option (Int):=if 0 ≤(wrap64 ((wrap64 (a0 + a1)) + 2)) then(if(wrap64 ((wrap64 (a0 + a1)) + 2) : Int).toNat≤35184372088832 then(q10_Groups.l0 k a0 a1 (List.replicate (wrap64 ((wrap64 (a0 + a1)) + 2) : Int).toNat 0) 0) else(none)) else(none)
def q10_Groups.T13 : Bool×List (List Nat×List Nat):=(true,[([],[]),([],[]),([],[]),([],[]),([],[]),([3,4],[3,4]),([5],[5]),([2,6],[2,6]),([],[]),([],[]),([9],[9]),([8,10],[8,10]),([11],[11]),([7,12],[7,12]),([0,1,0,1,2,3,4,5,6,7,8,9,10,11,12,13],[0,1]),([14,13,0,1,2,3,4,5,6,7,8,9,10,11,12,13],[13,14])])
def q10_Groups.B13 : List Nat:=[0,0,0,0,0,24,56,124,0,0,512,1792,3840,8188,16383,32767]
theorem q10_Groups.tab13 : rtab .any (opsOf Try.f41 13) = q10_Groups.T13:=by kernel_rfl
theorem q10_Groups.bits13 : waitsOk q10_Groups.T13.2 q10_Groups.B13 = true:=by kernel_rfl
set_option maxHeartbeats 8000000 in
set_option maxRecDepth 100000 in
theorem q10_Groups.calls (k : Nat) (a0 : Int) (a1 : Int) (r : Int) (w : World) (h : q10_Groups.f k a0 a1 = some r) :
  Calls Try.prog 41 #[.int .i64 a0,.int .i64 a1] w fun e w'=>e = .returned (.int .i64 r)∧Below w.heap.size w w':=by
 have HB:=Aside0.mk (Below.refl w.heap.size w)
 have H :(if 0 ≤(wrap64 ((wrap64 (a0 + a1)) + 2)) then(if(wrap64 ((wrap64 (a0 + a1)) + 2) : Int).toNat≤35184372088832 then(q10_Groups.l0 k a0 a1 (List.replicate (wrap64 ((wrap64 (a0 + a1)) + 2) : Int).toNat 0) 0) else(none)) else(none)) = some r:=h
 clear h
 obtain ⟨ji3,hji3⟩ : ∃ j_ : Int,(wrap64 ((wrap64 (a0 + a1)) + 2)) = j_:=⟨_,rfl⟩
 replace H :(if 0 ≤(ji3) then(if(ji3 : Int).toNat≤35184372088832 then(q10_Groups.l0 k a0 a1 (List.replicate (ji3 : Int).toNat 0) 0) else(none)) else(none)) = some r:=by first |(rw [hji3] at H;exact H) |(simp only [hji3] at H ⊢;exact H)
 have hji3w :(IntKind.i64.wrap ((wrap64 (a0 + a1)) + 2)) = ji3:=(i64_w _).trans hji3
 by_cases c4 : 0 ≤(ji3)
 rotate_left
 ·rw [if_neg c4] at H
  exact absurd H (by simp)
 rw [if_pos c4] at H
 have c4b0:=eq_true c4
 have c4b1 : decide (0 ≤(ji3)) = true:=decide_eq_true c4
 clear c4
 by_cases c5 :(ji3 : Int).toNat≤35184372088832
 rotate_left
 ·rw [if_neg c5] at H
  exact absurd H (by simp)
 rw [if_pos c5] at H
 have c5b0:=eq_true c5
 have c5b1 : decide ((ji3 : Int).toNat≤35184372088832) = true:=decide_eq_true c5
 clear c5
 obtain ⟨y385,hy385⟩ : ∃ y_ : List Int,y_ =(List.replicate (ji3 : Int).toNat 0):=⟨_,rfl⟩
 replace H :(q10_Groups.l0 k a0 a1 y385 0) = some r:=by first |(rw [hy385];with_reducible exact H) |(have H2_:=(Option.bind_some _ _).symm.trans H;rw [hy385];with_reducible exact H2_) |(have H2_:=(Option.bind_some _ _).symm.trans H;with_reducible exact H2_) | with_reducible exact H |(rw [hy385];exact H) | exact H
 have Ny385:=Aside0.mk hy385
 clear hy385
 have H':=Aside0.mk H
 clear H
 go_enter Try.func41,Try.ntmps41
 go_wp2_with (first |((with_reducible refine gate_dst (N:=14) rfl ?_);refine Kd.R_make (Kd.int .i64) _ 3 rfl (N:=14) rfl 22 _ _ rfl ji3 rfl rfl Try.underlying22 (.int .i64 0) 8 info3 rfl (by decide) (by omega) 0 (ok:=fun _=>True) (okp:=fun _=>True) rfl (fun _ hk=>hk) trivial (of_decide_eq_true (by first |(with_reducible assumption) | assumption)) (Nat.le_trans (Nat.mul_le_mul_right _ (of_decide_eq_true (by first |(with_reducible assumption) | assumption) : ji3.toNat≤35184372088832)) (by omega)) (Below.refl _ _) (Nat.le_refl _) ?_;intro v386 w6 ho7 hb hg_ hnew_;clear hg_ hnew_;(first | rw [← Ny385.out] at ho7 |(simp only [Int.reduceToNat] at ho7;rw [← Ny385.out] at ho7));have n0_:=Aside0.mk (Kd.R_lower ho7 (bwZ (by repeat(first |(with_reducible first | exact HB.out | apply bwA | apply bwN | apply bw1) | exact HB.out))));have n1_:=Aside0.mk (bwT (by repeat(first |(with_reducible first | exact HB.out | apply bwA | apply bwN | apply bw1) | exact HB.out)) hb);clear HB;have HO387:=n0_;have HB:=n1_;clear n0_ n1_;clear hb ho7))
 go_loopg [6] k (fun kq v6 w'=>∃ (x5_1 : List Int) (x6_1 : Int),v6 = .int .i64 x6_1∧Aside0 (q10_Groups.l0 kq a0 a1 x5_1 x6_1 = some r)∧Aside0 (kq≤k)∧Aside0 (Kd.R (Kd.int .i64) 3 w' w.heap.size (fun _=>True) v386 x5_1)∧Aside0 (Below w.heap.size w w'))
 case atStart=>exact⟨(y385),(0),(by first | rfl |(simp;done) |(simp [*];done)),H',⟨Nat.le_refl _⟩,⟨by(with_reducible repeat(first | apply Kd.R_alloc | apply Kd.R_drewN | apply Kd.R_drew));exact HO387.out⟩,⟨by repeat(first |(with_reducible first | exact HB.out | apply bwA | apply bwN | apply bw1) | exact HB.out)⟩⟩
 clear H'
 try clear p2
 try clear c4
 try clear c4b0
 try clear c4b1
 try clear c5
 try clear c5b0
 try clear c5b1
 try clear p6
 obtain ⟨x5_1,x6_1,rfl,HA,HK1,HO_5,HB⟩:=hrel
 cases gk with
 | zero=>exact absurd HA.out (by simp [q10_Groups.l0])
 | succ k1 =>
  have H:=HA.out
  clear HA
  simp only [q10_Groups.l0] at H
  by_cases c8 : x6_1 < (x5_1.length : Int)
  ·rw [if_pos c8] at H
   have c8b0 : decide (x6_1 < (x5_1.length : Int)) = true:=decide_eq_true c8
   clear c8
   by_cases c9 : 0≤x6_1
   rotate_left
   ·rw [if_neg c9] at H
    exact absurd H (by simp)
   rw [if_pos c9] at H
   have c9b0 : decide (0≤x6_1) = true:=decide_eq_true c9
   clear c9
   obtain ⟨y388,hy388⟩ : ∃ y_ : List Int,y_ =(x5_1.set (x6_1 : Int).toNat 1):=⟨_,rfl⟩
   replace H :(q10_Groups.l0 k1 a0 a1 y388 (wrap64 (x6_1 + 1))) = some r:=by first |(rw [hy388];with_reducible exact H) |(have H2_:=(Option.bind_some _ _).symm.trans H;rw [hy388];with_reducible exact H2_) |(have H2_:=(Option.bind_some _ _).symm.trans H;with_reducible exact H2_) | with_reducible exact H |(rw [hy388];exact H) | exact H
   have Ny388:=Aside0.mk hy388
   clear hy388
   have H':=Aside0.mk H
   clear H
   obtain ⟨Ao11,co11,eo11⟩:=Kd.R_slice HO_5.out
   subst eo11
   have p10 : 0 ≤(x6_1 : Int):=of_decide_eq_true (by first |(with_reducible assumption) | assumption)
   have q10 :(x6_1 : Int) < ((x5_1.length : Int) : Int):=of_decide_eq_true (by first |(with_reducible assumption) | assumption)
   obtain ⟨go10,co10,eo10,gb10,gl10,cl10,HG10⟩:=Kd.R_form HO_5.out (by omega)
   (first | cases eo10 |(injection eo10 with ea_ en_ ec_;(first | subst ea_ |(injection ea_ with ea_;subst ea_));subst ec_;clear en_))
   have GB10:=Aside0.mk gb10
   have GG10:=Aside0.mk HG10
   clear gb10 gl10 HG10
   obtain ⟨hx10_0,hf10_0⟩:=Kd.R_celln 0 HO_5.out (x6_1 : Int) p10 q10
   replace p10:=eq_true p10
   replace q10:=eq_true q10
   have HP12:=Kd.R_putg HO_5.out (x6_1 : Int) 1
   go_wp2_with (first |((with_reducible refine gate_store (t:=3) (p:=23) rfl ?_);refine store_event (t:=3) (p:=23) (v:=?vo_w13) (w1:=(wr.setCell ⟨go10,(x6_1 : Int).toNat,none⟩ (.int .i64 1))) ?hg ?ho ?hn ?hr ?_;(case ho=>rfl);(case hg=>rfl);(case hn=>rfl);(case hr=>first |(go_simp;done) |(go_simp;rfl));intro w13 hw;have hg : wr.grownBy w13 (some go10):=(by rw [hw];exact HP12.2);have hp_ : Kd.R (Kd.int .i64) 3 w13 w.heap.size (fun _=>True) (.slice (some ⟨go10,0,none⟩) x5_1.length co11) y388:=(by rw [hw,Ny388.out];exact HP12.1);clear HP12;have n0_:=Aside0.mk (hp_);have n1_:=Aside0.mk ((by rw [hw];exact bwS (HB.out) GB10.out : Below w.heap.size w w13));clear HO_5;clear HB;have HO_5:=n0_;have HB:=n1_;clear n0_ n1_;clear hg hw hp_))
   go_roundg k1
   case measure=>have:=HK1.out;omega
   exact⟨(y388),(wrap64 (x6_1 + 1)),(by first | rfl |(simp;done) |(simp [*];done)),H',⟨by have:=HK1.out;omega⟩,⟨by(with_reducible repeat(first | apply Kd.R_alloc | apply Kd.R_drewN | apply Kd.R_drew));exact HO_5.out⟩,⟨by repeat(first |(with_reducible first | exact HB.out | apply bwA | apply bwN | apply bw1) | exact HB.out)⟩⟩
  rw [if_neg c8] at H
  have c8b0 : decide (x6_1 < (x5_1.length : Int)) = false:=decide_eq_false c8
  clear c8
  have H':=Aside0.mk H
  clear H
  obtain ⟨Ao14,co14,eo14⟩:=Kd.R_slice HO_5.out
  subst eo14
  go_wp2
  go_loopg [5,7] k1 (fun kq v5 v7 w'=>∃ (x5_2 : List Int) (x7_2 : Int),v7 = .int .i64 x7_2∧Aside0 (q10_Groups.l1 kq a0 a1 x5_2 x7_2 = some r)∧Aside0 (kq≤k1)∧Aside0 (Kd.R (Kd.int .i64) 3 w' w.heap.size (fun _=>True) v5 x5_2)∧Aside0 (Below w.heap.size w w'))
  case atStart=>exact⟨(x5_1),(0),(by first | rfl |(simp;done) |(simp [*];done)),H',⟨Nat.le_refl _⟩,⟨by(with_reducible repeat(first | apply Kd.R_alloc | apply Kd.R_drewN | apply Kd.R_drew));exact HO_5.out⟩,⟨by repeat(first |(with_reducible first | exact HB.out | apply bwA | apply bwN | apply bw1) | exact HB.out)⟩⟩
  clear H'
  try clear p1
  try clear q1
  try clear hx1
  try clear p2
  try clear c4
  try clear c4b0
  try clear c4b1
  try clear c5
  try clear c5b0
  try clear c5b1
  try clear p6
  try clear c8
  try clear c8b0
  try clear c9
  try clear c9b0
  try clear p10
  try clear q10
  try clear hx10
  try clear hf10
  try clear hx10_0
  try clear p10
  try clear p2
  try clear p6
  try clear q10
  obtain ⟨x5_2,x7_2,rfl,HA,HK2,HO_5,HB⟩:=hrel
  cases gk with
  | zero=>exact absurd HA.out (by simp [q10_Groups.l1])
  | succ k2 =>
   have H:=HA.out
   clear HA
   simp only [q10_Groups.l1] at H
   by_cases c15 : x7_2 < a1
   rotate_left
   ·rw [if_neg c15] at H
    have c15b0 : decide (x7_2 < a1) = false:=decide_eq_false c15
    clear c15
    by_cases c31 : 0≤a0
    rotate_left
    ·rw [if_neg c31] at H
     exact absurd H (by simp)
    rw [if_pos c31] at H
    have c31b0 : decide (0≤a0) = true:=decide_eq_true c31
    clear c31
    by_cases c32 : a0 < (x5_2.length : Int)
    rotate_left
    ·rw [if_neg c32] at H
     exact absurd H (by simp)
    rw [if_pos c32] at H
    have c32b0 : decide (a0 < (x5_2.length : Int)) = true:=decide_eq_true c32
    clear c32
    obtain rfl:=Option.some.inj H
    obtain ⟨Ao33,co33,eo33⟩:=Kd.R_slice HO_5.out
    subst eo33
    have p389 : 0 ≤(a0 : Int):=of_decide_eq_true (by first |(with_reducible assumption) | assumption)
    have q389 : a0 < (x5_2.length : Int):=of_decide_eq_true (by first |(with_reducible assumption) | assumption)
    obtain ⟨ad389,e389,hx389_0⟩:=Kd.at_int (Kd.R_reads' HO_5.out).2.2 a0 p389 q389
    cases e389
    replace p389:=eq_true p389
    replace q389:=eq_true q389
    go_wp2
    go_ret
    exact⟨by first | rfl |(simp [errW_none,errW_some] <;> rfl) |(simp only [← hji3];first | rfl |(simp [errW_none,errW_some] <;> rfl)) |(simp [*,errW_none,errW_some] <;> rfl),by repeat(first |(with_reducible first | exact HB.out | apply bwA | apply bwN | apply bw1) | exact HB.out)⟩
   rw [if_pos c15] at H
   have c15b0 : decide (x7_2 < a1) = true:=decide_eq_true c15
   clear c15
   by_cases c16 : 0 ≤(x5_2.length : Int)
   rotate_left
   ·rw [if_neg c16] at H
    exact absurd H (by simp)
   rw [if_pos c16] at H
   have c16b0:=eq_true c16
   have c16b1 : decide (0 ≤(x5_2.length : Int)) = true:=decide_eq_true c16
   clear c16
   by_cases c17 :((x5_2.length : Int) : Int).toNat≤35184372088832
   rotate_left
   ·rw [if_neg c17] at H
    exact absurd H (by simp)
   rw [if_pos c17] at H
   have c17b0:=eq_true c17
   have c17b1 : decide (((x5_2.length : Int) : Int).toNat≤35184372088832) = true:=decide_eq_true c17
   clear c17
   obtain ⟨y390,hy390⟩ : ∃ y_ : List Int,y_ =(List.replicate ((x5_2.length : Int) : Int).toNat 0):=⟨_,rfl⟩
   replace H :(q10_Groups.l2 k2 a0 a1 x5_2 x7_2 y390 0) = some r:=by first |(rw [hy390];with_reducible exact H) |(have H2_:=(Option.bind_some _ _).symm.trans H;rw [hy390];with_reducible exact H2_) |(have H2_:=(Option.bind_some _ _).symm.trans H;with_reducible exact H2_) | with_reducible exact H |(rw [hy390];exact H) | exact H
   have Ny390:=Aside0.mk hy390
   clear hy390
   have H':=Aside0.mk H
   clear H
   obtain ⟨Ao18,co18,eo18⟩:=Kd.R_slice HO_5.out
   subst eo18
   go_wp2_with (first |((with_reducible refine gate_dst (N:=31) rfl ?_);refine Kd.R_make (Kd.int .i64) _ 3 rfl (N:=31) rfl 22 _ _ rfl (x5_2.length : Int) rfl rfl Try.underlying22 (.int .i64 0) 8 info3 rfl (by decide) (by omega) 0 (ok:=fun _=>True) (okp:=fun _=>True) rfl (fun _ hk=>hk) trivial (of_decide_eq_true (by first |(with_reducible assumption) | assumption)) (Nat.le_trans (Nat.mul_le_mul_right _ (of_decide_eq_true (by first |(with_reducible assumption) | assumption) :(x5_2.length : Int).toNat≤35184372088832)) (by omega)) (Below.refl _ _) (Nat.le_refl _) ?_;intro v391 w19 ho20 hb hg_ hnew_;clear hg_ hnew_;(first | rw [← Ny390.out] at ho20 |(simp only [Int.reduceToNat] at ho20;rw [← Ny390.out] at ho20));have n0_:=Aside0.mk (Kd.R_elder' (by(with_reducible repeat(first | apply Kd.R_alloc | apply Kd.R_drewN | apply Kd.R_drew));exact HO_5.out) (Kd.R_base ho20) hb);have n1_:=Aside0.mk (Kd.R_lower (Kd.R_new' ho20 (Kd.R_lt (by(with_reducible repeat(first | apply Kd.R_alloc | apply Kd.R_drewN | apply Kd.R_drew));exact HO_5.out))) (bwZ (by repeat(first |(with_reducible first | exact HB.out | apply bwA | apply bwN | apply bw1) | exact HB.out))));have n2_:=Aside0.mk (bwT (by repeat(first |(with_reducible first | exact HB.out | apply bwA | apply bwN | apply bw1) | exact HB.out)) hb);clear HO_5;clear HB;have HO_5:=n0_;have HO392:=n1_;have HB:=n2_;clear n0_ n1_ n2_;clear hb ho20))
   go_loopg [9] k2 (fun kq v9 w'=>∃ (x8_3 : List Int) (x9_3 : Int),v9 = .int .i64 x9_3∧Aside0 (q10_Groups.l2 kq a0 a1 x5_2 x7_2 x8_3 x9_3 = some r)∧Aside0 (kq≤k2)∧Aside0 (Kd.R (Kd.int .i64) 3 w' w.heap.size (fun k_=>some k_ ≠(v391 : Value).ownBlock) (.slice Ao18 x5_2.length co18) x5_2)∧Aside0 (Kd.R (Kd.int .i64) 3 w' w.heap.size (fun k_=>some k_ ≠((.slice Ao18 x5_2.length co18) : Value).ownBlock) v391 x8_3)∧Aside0 (Below w.heap.size w w'))
   case atStart=>exact⟨(y390),(0),(by first | rfl |(simp;done) |(simp [*];done)),H',⟨Nat.le_refl _⟩,⟨by(with_reducible repeat(first | apply Kd.R_alloc | apply Kd.R_drewN | apply Kd.R_drew));exact Kd.R_mono HO_5.out (fun _ hk=>hk.2)⟩,⟨by(with_reducible repeat(first | apply Kd.R_alloc | apply Kd.R_drewN | apply Kd.R_drew));exact Kd.R_mono HO392.out (fun _ hk=>hk.2)⟩,⟨by repeat(first |(with_reducible first | exact HB.out | apply bwA | apply bwN | apply bw1) | exact HB.out)⟩⟩
   clear H'
   try clear c1
   try clear p1
   try clear q1
   try clear hx1
   try clear p2
   try clear c4
   try clear c4b0
   try clear c4b1
   try clear c5
   try clear c5b0
   try clear c5b1
   try clear p6
   try clear c8
   try clear c8b0
   try clear c9
   try clear c9b0
   try clear p10
   try clear q10
   try clear hx10
   try clear hf10
   try clear c15
   try clear c15b0
   try clear c16
   try clear c16b0
   try clear c16b1
   try clear c17
   try clear c17b0
   try clear c17b1
   try clear hx10_0
   try clear p1
   try clear p10
   try clear p2
   try clear p6
   try clear q1
   try clear q10
   obtain ⟨x8_3,x9_3,rfl,HA,HK3,HO_5,HO_8,HB⟩:=hrel
   cases gk with
   | zero=>exact absurd HA.out (by simp [q10_Groups.l2])
   | succ k3 =>
    have H:=HA.out
    clear HA
    simp only [q10_Groups.l2] at H
    by_cases c21 :(wrap64 (x9_3 + 1)) < (wrap64 ((x5_2.length : Int) - x7_2))
    rotate_left
    ·rw [if_neg c21] at H
     have c21b0 : decide ((wrap64 (x9_3 + 1)) < (wrap64 ((x5_2.length : Int) - x7_2))) = false:=decide_eq_false c21
     clear c21
     have H':=Aside0.mk H
     clear H
     go_wp2
     go_roundg k3
     case measure=>have:=HK1.out;have:=HK2.out;have:=HK3.out;omega
     exact⟨(x8_3),(wrap64 (x7_2 + 1)),(by first | rfl |(simp;done) |(simp [*];done)),H',⟨by have:=HK1.out;have:=HK2.out;have:=HK3.out;omega⟩,⟨by(with_reducible repeat(first | apply Kd.R_alloc | apply Kd.R_drewN | apply Kd.R_drew));exact Kd.R_mono HO_8.out (fun _ hk=>trivial)⟩,⟨by repeat(first |(with_reducible first | exact HB.out | apply bwA | apply bwN | apply bw1) | exact HB.out)⟩⟩
    rw [if_pos c21] at H
    have c21b0 : decide ((wrap64 (x9_3 + 1)) < (wrap64 ((x5_2.length : Int) - x7_2))) = true:=decide_eq_true c21
    clear c21
    by_cases c22 : 0≤x9_3
    rotate_left
    ·rw [if_neg c22] at H
     exact absurd H (by simp)
    rw [if_pos c22] at H
    have c22b0 : decide (0≤x9_3) = true:=decide_eq_true c22
    clear c22
    by_cases c23 : x9_3 < (x5_2.length : Int)
    rotate_left
    ·rw [if_neg c23] at H
     exact absurd H (by simp)
    rw [if_pos c23] at H
    have c23b0 : decide (x9_3 < (x5_2.length : Int)) = true:=decide_eq_true c23
    clear c23
    obtain ⟨ji24,hji24⟩ : ∃ j_ : Int,(wrap64 (x9_3 + 1)) = j_:=⟨_,rfl⟩
    replace H :(if 0 ≤(ji24) then(if(ji24) < (x5_2.length : Int) then(if x9_3 < (x8_3.length : Int) then(q10_Groups.l2 k3 a0 a1 x5_2 x7_2 (x8_3.set (x9_3 : Int).toNat (wrap64 ((wrap64 (x9_3 * (rd x5_2 x9_3))) + (rd x5_2 (ji24))))) ji24) else(none)) else(none)) else(none)) = some r:=by first |(rw [hji24] at H;exact H) |(simp only [hji24] at H ⊢;exact H)
    (try rw [hji24] at c21b0)
    have hji24w :(IntKind.i64.wrap (x9_3 + 1)) = ji24:=(i64_w _).trans hji24
    by_cases c25 : 0 ≤(ji24)
    rotate_left
    ·rw [if_neg c25] at H
     exact absurd H (by simp)
    rw [if_pos c25] at H
    have c25b0 : decide (0 ≤(ji24)) = true:=decide_eq_true c25
    clear c25
    by_cases c26 :(ji24) < (x5_2.length : Int)
    rotate_left
    ·rw [if_neg c26] at H
     exact absurd H (by simp)
    rw [if_pos c26] at H
    have c26b0 : decide ((ji24) < (x5_2.length : Int)) = true:=decide_eq_true c26
    clear c26
    by_cases c27 : x9_3 < (x8_3.length : Int)
    rotate_left
    ·rw [if_neg c27] at H
     exact absurd H (by simp)
    rw [if_pos c27] at H
    have c27b0 : decide (x9_3 < (x8_3.length : Int)) = true:=decide_eq_true c27
    clear c27
    obtain ⟨y395,hy395⟩ : ∃ y_ : List Int,y_ =(x8_3.set (x9_3 : Int).toNat (wrap64 ((wrap64 (x9_3 * (rd x5_2 x9_3))) + (rd x5_2 (ji24))))):=⟨_,rfl⟩
    replace H :(q10_Groups.l2 k3 a0 a1 x5_2 x7_2 y395 ji24) = some r:=by first |(rw [hy395];with_reducible exact H) |(have H2_:=(Option.bind_some _ _).symm.trans H;rw [hy395];with_reducible exact H2_) |(have H2_:=(Option.bind_some _ _).symm.trans H;with_reducible exact H2_) | with_reducible exact H |(rw [hy395];exact H) | exact H
    have Ny395:=Aside0.mk hy395
    clear hy395
    have H':=Aside0.mk H
    clear H
    try go_wp2
    have n0_:=Aside0.mk (Kd.R_drew HO_5.out)
    have n1_:=Aside0.mk (Kd.R_drew HO_8.out)
    have n2_:=Aside0.mk (bw1 HB.out)
    clear HO_5
    clear HO_8
    clear HB
    have HO_5:=n0_
    have HO_8:=n1_
    have HB:=n2_
    clear n0_ n1_ n2_
    have p393 : 0 ≤(x9_3 : Int):=of_decide_eq_true (by first |(with_reducible assumption) | assumption)
    have q393 : x9_3 < (x5_2.length : Int):=of_decide_eq_true (by first |(with_reducible assumption) | assumption)
    obtain ⟨ad393,e393,hx393_0⟩:=Kd.at_int (Kd.R_reads' HO_5.out).2.2 x9_3 p393 q393
    cases e393
    replace p393:=eq_true p393
    replace q393:=eq_true q393
    have p394 : 0 ≤((ji24) : Int):=of_decide_eq_true (by first |(with_reducible assumption) | assumption)
    have q394 :(ji24) < (x5_2.length : Int):=of_decide_eq_true (by first |(with_reducible assumption) | assumption)
    obtain ⟨ad394,e394,hx394_0⟩:=Kd.at_int (Kd.R_reads' HO_5.out).2.2 (ji24) p394 q394
    obtain rfl : ad393 = ad394:=(by injection e394)
    replace p394:=eq_true p394
    replace q394:=eq_true q394
    have p28 : 0 ≤(x9_3 : Int):=of_decide_eq_true (by first |(with_reducible assumption) | assumption)
    have q28 :(x9_3 : Int) < ((x8_3.length : Int) : Int):=of_decide_eq_true (by first |(with_reducible assumption) | assumption)
    obtain ⟨go28,co28,eo28,gb28,gl28,cl28,HG28⟩:=Kd.R_form HO_8.out (by omega)
    (first | cases eo28 |(injection eo28 with ea_ en_ ec_;(first | subst ea_ |(injection ea_ with ea_;subst ea_));subst ec_;clear en_))
    have GB28:=Aside0.mk gb28
    have GG28:=Aside0.mk HG28
    clear gb28 gl28 HG28
    obtain ⟨hx28_0,hf28_0⟩:=Kd.R_celln 0 HO_8.out (x9_3 : Int) p28 q28
    replace p28:=eq_true p28
    replace q28:=eq_true q28
    have HP30:=Kd.R_putn HO_8.out (x9_3 : Int) (wrap64 ((wrap64 (x9_3 * (rd x5_2 x9_3))) + (rd x5_2 (ji24))))
    rw [← Ny395.out] at HP30
    have HQ30:=Aside0.mk HP30
    clear HP30
    refine start_ (n:=16) (S:=fun w'=>w'.cell? (ad393.add (x9_3).toNat) = some (.int .i64 (rd x5_2 x9_3))∧w'.cell? (ad393.add ((ji24)).toNat) = some (.int .i64 (rd x5_2 (ji24)))) (ds:=[15]) #[false,false,false,false,false,false,false,false,false,false,false,false,false,false,false,false] (by kernel_rfl) rfl rfl ⟨hx393_0,hx394_0⟩ (fun hHeld=>?_);refine with_tabW q10_Groups.tab13 q10_Groups.bits13 (fun HT_ HW_=>?_)
    generalize wr.drew = w29 at HO_5 HO_8 HB GG28 HQ30 hf28_0 hx28_0 hx393_0 hx394_0 hHeld ⊢
    refine pure_ (i:=0) (N:=some 41) (v:=?_) (a':=?_) #[true,false,false,false,false,false,false,false,false,false,false,false,false,false,false,false] rfl rfl (any_of HT_.out (by kernel_rfl)) (fun _ _ _ h=>h) (Or.inl ⟨by rfl,?_⟩) ?_ ?_
    rotate_left
    ·intro w'
     go_simp
     with_reducible rfl
    rotate_left
    ·simp only [Act.put, List.setIfInBounds_toArray, List.set_cons_zero, List.set_cons_succ, i64_w, i32_w]
     rfl
    refine pure_ (i:=1) (N:=some 42) (v:=?_) (a':=?_) #[true,true,false,false,false,false,false,false,false,false,false,false,false,false,false,false] rfl rfl (any_of HT_.out (by kernel_rfl)) (fun _ _ _ h=>h) (Or.inl ⟨by rfl,?_⟩) ?_ ?_
    rotate_left
    ·intro w'
     go_simp
     with_reducible rfl
    rotate_left
    ·simp only [Act.put, List.setIfInBounds_toArray, List.set_cons_zero, List.set_cons_succ, i64_w, i32_w]
     rfl
    refine pure_ (i:=2) (N:=some 43) (v:=?_) (a':=?_) #[true,true,true,false,false,false,false,false,false,false,false,false,false,false,false,false] rfl rfl (any_of HT_.out (by kernel_rfl)) (fun _ _ _ h=>h) (Or.inl ⟨by rfl,?_⟩) ?_ ?_
    rotate_left
    ·intro w'
     go_simp
     with_reducible rfl
    rotate_left
    ·simp only [Act.put, List.setIfInBounds_toArray, List.set_cons_zero, List.set_cons_succ, i64_w, i32_w]
     rfl
    refine pure_ (i:=3) (N:=some 44) (v:=?_) (a':=?_) #[true,true,true,true,false,false,false,false,false,false,false,false,false,false,false,false] rfl rfl (any_of HT_.out (by kernel_rfl)) (fun _ _ _ h=>h) (Or.inl ⟨by rfl,?_⟩) ?_ ?_
    rotate_left
    ·intro w'
     go_simp
     with_reducible rfl
    rotate_left
    ·simp only [Act.put, List.setIfInBounds_toArray, List.set_cons_zero, List.set_cons_succ, i64_w, i32_w]
     rfl
    refine pure_ (i:=4) (N:=some 45) (v:=?_) (a':=?_) #[true,true,true,true,true,false,false,false,false,false,false,false,false,false,false,false] rfl rfl (any_of HT_.out (by kernel_rfl)) (fun _ _ _ h=>h) (Or.inl ⟨by rfl,?_⟩) ?_ ?_
    rotate_left
    ·intro w'
     go_simp
     with_reducible rfl
    rotate_left
    ·simp only [Act.put, List.setIfInBounds_toArray, List.set_cons_zero, List.set_cons_succ, i64_w, i32_w]
     rfl
    refine pure_ (i:=5) (N:=some 46) (v:=?_) (a':=?_) #[true,true,true,true,true,true,false,false,false,false,false,false,false,false,false,false] rfl rfl (any_of HT_.out (by kernel_rfl)) (fun _ _ _ h=>h) (Or.inl ⟨by rfl,?_⟩) ?_ ?_
    rotate_left
    ·intro w'
     go_simp
     with_reducible rfl
    rotate_left
    ·simp only [Act.put, List.setIfInBounds_toArray, List.set_cons_zero, List.set_cons_succ, i64_w, i32_w]
     rfl
    refine pure_ (i:=8) (N:=some 49) (v:=?_) (a':=?_) #[true,true,true,true,true,true,false,false,true,false,false,false,false,false,false,false] rfl rfl (any_of HT_.out (by kernel_rfl)) (fun _ _ _ h=>h) (Or.inl ⟨by rfl,?_⟩) ?_ ?_
    rotate_left
    ·intro w'
     go_simp
     with_reducible rfl
    rotate_left
    ·simp only [Act.put, List.setIfInBounds_toArray, List.set_cons_zero, List.set_cons_succ, i64_w, i32_w]
     rfl
    refine pure_ (i:=9) (N:=some 50) (v:=?_) (a':=?_) #[true,true,true,true,true,true,false,false,true,true,false,false,false,false,false,false] rfl rfl (any_of HT_.out (by kernel_rfl)) (fun _ _ _ h=>h) (Or.inl ⟨by rfl,?_⟩) ?_ ?_
    rotate_left
    ·intro w'
     go_simp
     with_reducible rfl
    rotate_left
    ·simp only [Act.put, List.setIfInBounds_toArray, List.set_cons_zero, List.set_cons_succ, i64_w, i32_w]
     rfl
    refine pure_ (i:=10) (N:=some 51) (v:=?_) (a':=?_) #[true,true,true,true,true,true,false,false,true,true,true,false,false,false,false,false] rfl rfl (any_of HT_.out (by kernel_rfl)) (fun _ _ _ h=>h) (Or.inl ⟨by rfl,?_⟩) ?_ ?_
    rotate_left
    ·intro w'
     go_simp
     with_reducible rfl
    rotate_left
    ·simp only [Act.put, List.setIfInBounds_toArray, List.set_cons_zero, List.set_cons_succ, i64_w, i32_w]
     rfl
    refine pure_ (i:=11) (N:=some 52) (v:=?_) (a':=?_) #[true,true,true,true,true,true,false,false,true,true,true,true,false,false,false,false] rfl rfl (any_of HT_.out (by kernel_rfl)) (fun _ _ _ h=>h) (Or.inl ⟨by rfl,?_⟩) ?_ ?_
    rotate_left
    ·intro w'
     go_simp
     with_reducible rfl
    rotate_left
    ·simp only [Act.put, List.setIfInBounds_toArray, List.set_cons_zero, List.set_cons_succ, i64_w, i32_w]
     rfl
    refine take_ (i:=6) (N:=some 47) (v:=?_) (a':=?_) #[true,true,true,true,true,true,true,false,true,true,true,true,false,false,false,false] rfl rfl (take_ofW HT_.out HW_.out (by kernel_rfl)) (fun _ _ _ h=>h) (Or.inl ⟨by rfl,?_⟩) hHeld ?_ ?_
    rotate_left
    ·rintro w' ⟨s0, s1⟩
     go_simp
     with_reducible rfl
    rotate_left
    ·simp only [Act.put, List.setIfInBounds_toArray, List.set_cons_zero, List.set_cons_succ, i64_w, i32_w]
     rfl
    refine pure_ (i:=7) (N:=some 48) (v:=?_) (a':=?_) #[true,true,true,true,true,true,true,true,true,true,true,true,false,false,false,false] rfl rfl (any_of HT_.out (by kernel_rfl)) (fun _ _ _ h=>h) (Or.inl ⟨by rfl,?_⟩) ?_ ?_
    rotate_left
    ·intro w'
     go_simp
     with_reducible rfl
    rotate_left
    ·simp only [Act.put, List.setIfInBounds_toArray, List.set_cons_zero, List.set_cons_succ, i64_w, i32_w]
     rfl
    refine take_ (i:=12) (N:=some 53) (v:=?_) (a':=?_) #[true,true,true,true,true,true,true,true,true,true,true,true,true,false,false,false] rfl rfl (take_ofW HT_.out HW_.out (by kernel_rfl)) (fun _ _ _ h=>h) (Or.inl ⟨by rfl,?_⟩) hHeld ?_ ?_
    rotate_left
    ·rintro w' ⟨s0, s1⟩
     go_simp
     with_reducible rfl
    rotate_left
    ·simp only [Act.put, List.setIfInBounds_toArray, List.set_cons_zero, List.set_cons_succ, i64_w, i32_w]
     rfl
    refine pure_ (i:=13) (N:=some 54) (v:=?_) (a':=?_) #[true,true,true,true,true,true,true,true,true,true,true,true,true,true,false,false] rfl rfl (any_of HT_.out (by kernel_rfl)) (fun _ _ _ h=>h) (Or.inl ⟨by rfl,?_⟩) ?_ ?_
    rotate_left
    ·intro w'
     go_simp
     with_reducible rfl
    rotate_left
    ·simp only [Act.put, List.setIfInBounds_toArray, List.set_cons_zero, List.set_cons_succ, i64_w, i32_w]
     rfl
    refine pure_ (i:=14) (N:=some 55) (v:=?_) (a':=?_) #[true,true,true,true,true,true,true,true,true,true,true,true,true,true,true,false] rfl rfl (any_of HT_.out (by kernel_rfl)) (fun _ _ _ h=>h) (Or.inl ⟨by rfl,?_⟩) ?_ ?_
    rotate_left
    ·intro w'
     go_simp
     with_reducible rfl
    rotate_left
    ·simp only [Act.put, List.setIfInBounds_toArray, List.set_cons_zero, List.set_cons_succ, i64_w, i32_w]
     rfl
    refine last_ (i:=15) (N:=none) #[true,true,true,true,true,true,true,true,true,true,true,true,true,true,true,true] rfl rfl (one_of HT_.out (by kernel_rfl)) (by decide) (fun K hK=>?_)
    refine skip_ (w1:=?_) (by rfl) rfl ?_ ?_
    rotate_left
    ·go_simp
     rfl
    refine hK.out _ _ ?_
    clear hK K
    refine done_ (done_of HT_.out (by kernel_rfl)) ?_
    try go_wp2
    go_roundg k3
    case measure=>have:=HK1.out;have:=HK2.out;have:=HK3.out;omega
    exact⟨(y395),(ji24),(by first | rfl |(simp;done) |(simp only [← hji24] <;>(first | rfl | simp)) |(simp [*];done)),H',⟨by have:=HK1.out;have:=HK2.out;have:=HK3.out;omega⟩,⟨by(with_reducible repeat(first | apply Kd.R_alloc | apply Kd.R_drewN | apply Kd.R_drew));exact Kd.R_mono (Kd.R_far (p:=⟨go28,(x9_3 : Int).toNat,none⟩) (Kd.R_mono HO_5.out (fun k_ hk=>(⟨hk,fun e_=>hk (by rw [e_];rfl)⟩ : _∧k_≠go28))) (fun _ hk=>hk.2) (.int .i64 (wrap64 ((wrap64 (x9_3 * (rd x5_2 x9_3))) + (rd x5_2 (ji24)))))) (fun _ hk=>hk.1)⟩,⟨by(with_reducible repeat(first | apply Kd.R_alloc | apply Kd.R_drewN | apply Kd.R_drew));exact HQ30.out⟩,⟨by repeat(first |(with_reducible first | exact HB.out | apply bwA | apply bwN | apply bw1 | refine bwS ?_ GB28.out) | exact HB.out)⟩⟩

mutual
def q10_Grouping.l0 : Nat → Int → Int → List Int → Int → Int → Option (List Int)
 | 0,_,_,_,_,_=>none
 | k + 1,x0,x1,x5,x6,x7=>if x7 < x0 then(q10_Grouping.l1 k x0 x1 x5 x6 x7 0) else(some x5)
def q10_Grouping.l1 : Nat → Int → Int → List Int → Int → Int → Int → Option (List Int)
 | 0,_,_,_,_,_,_=>none
 | k + 1,x0,x1,x5,x6,x7,x8=>if x8 < x6 then((q10_Groups.f k x6 (wrap64 ((wrap64 (x0 - 1)) - x7))).bind fun t396=>(if x1 ≥ t396 then((q10_Groups.f k x6 (wrap64 ((wrap64 (x0 - 1)) - x7))).bind fun t397=>(q10_Grouping.l1 k x0 (wrap64 (x1 - t397)) x5 x6 x7 (wrap64 (x8 + 1)))) else(if x5.length < 17592186044416 then(q10_Grouping.l0 k x0 x1 (x5 ++ [x8]) (mx x6 (wrap64 (x8 + 1))) (wrap64 (x7 + 1))) else(none)))) else(if x5.length < 17592186044416 then(q10_Grouping.l0 k x0 x1 (x5 ++ [x8]) (mx x6 (wrap64 (x8 + 1))) (wrap64 (x7 + 1))) else(none))
end
def q10_Grouping.f (k : Nat) (a0 : Int) (a1 : Int) : Option (List Int):=q10_Grouping.l0 k a0 a1 ([] : List Int) 0 0
set_option maxHeartbeats 8000000 in
set_option maxRecDepth 100000 in
theorem q10_Grouping.calls (k : Nat) (a0 : Int) (a1 : Int) (r : List Int) (w : World) (h : q10_Grouping.f k a0 a1 = some r) :
  Calls Try.prog 42 #[.int .i64 a0,.int .i64 a1] w fun e w'=>∃ v0_ : Value,e = .returned (v0_)∧Kd.R (Kd.int .i64) 3 w' w.heap.size (fun _=>True) v0_ r∧Below w.heap.size w w':=by
 have HB:=Aside0.mk (Below.refl w.heap.size w)
 have H :(q10_Grouping.l0 k a0 a1 ([] : List Int) 0 0) = some r:=h
 clear h
 have H':=Aside0.mk H
 clear H
 go_enter Try.func42,Try.ntmps42
 go_wp2
 go_loopg [1,5,6,7] k (fun kq v1 v5 v6 v7 w'=>∃ (x1_1 : Int) (x5_1 : List Int) (x6_1 : Int) (x7_1 : Int),v1 = .int .i64 x1_1∧v6 = .int .i64 x6_1∧v7 = .int .i64 x7_1∧Aside0 (q10_Grouping.l0 kq a0 x1_1 x5_1 x6_1 x7_1 = some r)∧Aside0 (kq≤k)∧Aside0 (Kd.R (Kd.int .i64) 3 w' w.heap.size (fun _=>True) v5 x5_1)∧Aside0 (Below w.heap.size w w'))
 case atStart=>exact⟨(a1),(([] : List Int)),(0),(0),(by first | rfl |(simp;done) |(simp [*];done)),(by first | rfl |(simp;done) |(simp [*];done)),(by first | rfl |(simp;done) |(simp [*];done)),H',⟨Nat.le_refl _⟩,⟨by first | exact Kd.R_nil _ _ _ _ _ | exact Kd.N_nil _ _ _ _ _ | exact Kd.V_nil _ _ _ _ _ | exact Kd.Q_nil _ _ _ _ _ | exact Kd.S_nil _ _ _ _ _⟩,⟨by repeat(first |(with_reducible first | exact HB.out | apply bwA | apply bwN | apply bw1) | exact HB.out)⟩⟩
 clear H'
 try clear p2
 obtain ⟨x1_1,x5_1,x6_1,x7_1,rfl,rfl,rfl,HA,HK1,HO_5,HB⟩:=hrel
 cases gk with
 | zero=>exact absurd HA.out (by simp [q10_Grouping.l0])
 | succ k1 =>
  have H:=HA.out
  clear HA
  simp only [q10_Grouping.l0] at H
  by_cases c3 : x7_1 < a0
  rotate_left
  ·rw [if_neg c3] at H
   have c3b0 : decide (x7_1 < a0) = false:=decide_eq_false c3
   clear c3
   obtain rfl:=Option.some.inj H
   go_wp2
   go_ret
   exact⟨_,by first | rfl |(simp [errW_none,errW_some] <;> rfl) |(simp [*,errW_none,errW_some] <;> rfl),by(with_reducible repeat(first | apply Kd.R_alloc | apply Kd.R_drewN | apply Kd.R_drew));exact HO_5.out,by repeat(first |(with_reducible first | exact HB.out | apply bwA | apply bwN | apply bw1) | exact HB.out)⟩
  rw [if_pos c3] at H
  have c3b0 : decide (x7_1 < a0) = true:=decide_eq_true c3
  clear c3
  have H':=Aside0.mk H
  clear H
  go_wp2
  go_loopg [1,8] k1 (fun kq v1 v8 w'=>∃ (x1_2 : Int) (x8_2 : Int),v1 = .int .i64 x1_2∧v8 = .int .i64 x8_2∧Aside0 (q10_Grouping.l1 kq a0 x1_2 x5_1 x6_1 x7_1 x8_2 = some r)∧Aside0 (kq≤k1)∧Aside0 (Kd.R (Kd.int .i64) 3 w' w.heap.size (fun _=>True) u5 x5_1)∧Aside0 (Below w.heap.size w w'))
  case atStart=>exact⟨(x1_1),(0),(by first | rfl |(simp;done) |(simp [*];done)),(by first | rfl |(simp;done) |(simp [*];done)),H',⟨Nat.le_refl _⟩,⟨by(with_reducible repeat(first | apply Kd.R_alloc | apply Kd.R_drewN | apply Kd.R_drew));exact HO_5.out⟩,⟨by repeat(first |(with_reducible first | exact HB.out | apply bwA | apply bwN | apply bw1) | exact HB.out)⟩⟩
  clear H'
  try clear p2
  try clear c3
  try clear c3b0
  try clear p2
  obtain ⟨x1_2,x8_2,rfl,rfl,HA,HK2,HO_5,HB⟩:=hrel
  cases gk with
  | zero=>exact absurd HA.out (by simp [q10_Grouping.l1])
  | succ k2 =>
   have H:=HA.out
   clear HA
   simp only [q10_Grouping.l1] at H
   by_cases c4 : x8_2 < x6_1
   rotate_left
   ·rw [if_neg c4] at H
    have c4b0 : decide (x8_2 < x6_1) = false:=decide_eq_false c4
    clear c4
    by_cases c14 : x5_1.length < 17592186044416
    rotate_left
    ·rw [if_neg c14] at H
     exact absurd H (by simp)
    rw [if_pos c14] at H
    have LMc14:=Aside0.mk c14
    clear c14
    obtain ⟨y401,hy401⟩ : ∃ y_ : List Int,y_ =(x5_1 ++ [x8_2]):=⟨_,rfl⟩
    replace H :(q10_Grouping.l0 k2 a0 x1_2 y401 (mx x6_1 (wrap64 (x8_2 + 1))) (wrap64 (x7_1 + 1))) = some r:=by first |(rw [hy401];with_reducible exact H) |(have H2_:=(Option.bind_some _ _).symm.trans H;rw [hy401];with_reducible exact H2_) |(have H2_:=(Option.bind_some _ _).symm.trans H;with_reducible exact H2_) | with_reducible exact H |(rw [hy401];exact H) | exact H
    have Ny401:=Aside0.mk hy401
    clear hy401
    obtain ⟨ji15,hji15⟩ : ∃ j_ : Int,(mx x6_1 (wrap64 (x8_2 + 1))) = j_:=⟨_,rfl⟩
    replace H :(q10_Grouping.l0 k2 a0 x1_2 y401 ji15 (wrap64 (x7_1 + 1))) = some r:=by first |(rw [hji15] at H;exact H) |(simp only [hji15] at H ⊢;exact H)
    have hji15_ :(if x6_1 < (wrap64 (x8_2 + 1)) then(wrap64 (x8_2 + 1)) else x6_1) = ji15:=hji15
    have H':=Aside0.mk H
    clear H
    go_wp2_with (first |((with_reducible refine gate_builtin (b:=.append) (xs:=#[.tmp 37,.tmp 39]) rfl ?_);at_builtin;refine Kd.R_append (Kd.int .i64) (w0:=w) w.heap.size rfl (.tmp 37) (.tmp 39) 22 3 (.int .i64 0) 8 rfl Try.underlying22 info3 rfl (by decide) (by omega) u5 x5_1 x8_2 [.int .i64 x8_2] (fun _=>True) (fun _=>False) rfl rfl ?aP (fun _ hk=>hk.elim) ?aF ?aO ?aB ?aS ?aL ?_;(case aP=>exact rfl);(case aB=>exact(by repeat(first |(with_reducible first | exact HB.out | apply bwA | apply bwN | apply bw1) | exact HB.out)));(case aF=>exact(fun _ _=>trivial));(case aO=>exact(by(with_reducible repeat(first | apply Kd.R_alloc | apply Kd.R_drewN | apply Kd.R_drew));exact HO_5.out));(case aS=>exact(bwZ (by repeat(first |(with_reducible first | exact HB.out | apply bwA | apply bwN | apply bw1) | exact HB.out))));(case aL=>have:=LMc14.out;omega);intro v402 w16 ho hb hg hat;rw [← Ny401.out] at ho;have n0_:=Aside0.mk (hb);have n1_:=Aside0.mk (ho);clear HB;clear HO_5;have HB:=n0_;have HO403:=n1_;clear n0_ n1_;clear ho hb hg hat))
    go_roundg k2
    case measure=>have:=HK1.out;have:=HK2.out;omega
    exact⟨(x1_2),(y401),(ji15),(wrap64 (x7_1 + 1)),(by first | rfl |(simp;done) |(simp [*];done)),(by first | rfl |(simp;done) |(simp only [← hji15] <;>(first | rfl | simp)) |(simp [*];done)),(by first | rfl |(simp;done) |(simp [*];done)),H',⟨by have:=HK1.out;have:=HK2.out;omega⟩,⟨by(with_reducible repeat(first | apply Kd.R_alloc | apply Kd.R_drewN | apply Kd.R_drew));exact HO403.out⟩,⟨by repeat(first |(with_reducible first | exact HB.out | apply bwA | apply bwN | apply bw1) | exact HB.out)⟩⟩
   rw [if_pos c4] at H
   have c4b0 : decide (x8_2 < x6_1) = true:=decide_eq_true c4
   clear c4
   replace H:=Option.bind_eq_some_iff.mp H
   obtain ⟨t396,A50,H⟩:=H
   replace H :(if x1_2 ≥ t396 then((q10_Groups.f k2 x6_1 (wrap64 ((wrap64 (a0 - 1)) - x7_1))).bind fun t397=>(q10_Grouping.l1 k2 a0 (wrap64 (x1_2 - t397)) x5_1 x6_1 x7_1 (wrap64 (x8_2 + 1)))) else(if x5_1.length < 17592186044416 then(q10_Grouping.l0 k2 a0 x1_2 (x5_1 ++ [x8_2]) (mx x6_1 (wrap64 (x8_2 + 1))) (wrap64 (x7_1 + 1))) else(none))) = some r:=H
   have A5:=Aside0.mk A50
   clear A50
   by_cases c6 : x1_2 ≥ t396
   ·rw [if_pos c6] at H
    have c6b0 : decide (t396≤x1_2) = true:=decide_eq_true c6
    clear c6
    replace H:=Option.bind_eq_some_iff.mp H
    obtain ⟨t397,A70,H⟩:=H
    replace H :(q10_Grouping.l1 k2 a0 (wrap64 (x1_2 - t397)) x5_1 x6_1 x7_1 (wrap64 (x8_2 + 1))) = some r:=H
    have A7:=Aside0.mk A70
    clear A70
    have H':=Aside0.mk H
    clear H
    go_wp2_with (first |(go_at_call 41;(with_reducible refine(q10_Groups.calls k2 x6_1 (wrap64 ((wrap64 (a0 - 1)) - x7_1)) t396 _ A5.out).mono ?_);rintro e w8 ⟨rfl,hb⟩;have n0_:=Aside0.mk (Kd.R_below (by(with_reducible repeat(first | apply Kd.R_alloc | apply Kd.R_drewN | apply Kd.R_drew));exact HO_5.out) hb);have n1_:=Aside0.mk (bwT (by repeat(first |(with_reducible first | exact HB.out | apply bwA | apply bwN | apply bw1) | exact HB.out)) hb);clear HO_5;clear HB;have HO_5:=n0_;have HB:=n1_;clear n0_ n1_;(try clear hb);(try clear hb2);(try clear hk);(try clear hi)) |((with_reducible refine gate_callee (f:=41) rfl ?_);refine goesL_ (some 33) rfl rfl Try.func41 (by kernel_rfl) rfl #[.int .i64 x6_1,.int .i64 (wrap64 ((wrap64 (a0 - 1)) - x7_1))] rfl (by(try simp only [List.map_toArray,List.map_cons,List.map_nil]);first | done | rfl |(simp only [List.length_drop,List.length_take];rfl)) ?_;(with_reducible refine(q10_Groups.calls k2 x6_1 (wrap64 ((wrap64 (a0 - 1)) - x7_1)) t397 _ A7.out).mono ?_);rintro e w9 ⟨rfl,hb⟩;refine⟨_,rfl,?_⟩;have n0_:=Aside0.mk (Kd.R_below (by(with_reducible repeat(first | apply Kd.R_alloc | apply Kd.R_drewN | apply Kd.R_drew));exact HO_5.out) hb);have n1_:=Aside0.mk (bwT (by repeat(first |(with_reducible first | exact HB.out | apply bwA | apply bwN | apply bw1) | exact HB.out)) hb);clear HO_5;clear HB;have HO_5:=n0_;have HB:=n1_;clear n0_ n1_;(try clear hb);(try clear hb2);(try clear hk);(try clear hi)))
    go_roundg k2
    case measure=>have:=HK1.out;have:=HK2.out;omega
    exact⟨(wrap64 (x1_2 - t397)),(wrap64 (x8_2 + 1)),(by first | rfl |(simp;done) |(simp [*];done)),(by first | rfl |(simp;done) |(simp [*];done)),H',⟨by have:=HK1.out;have:=HK2.out;omega⟩,⟨by(with_reducible repeat(first | apply Kd.R_alloc | apply Kd.R_drewN | apply Kd.R_drew));exact HO_5.out⟩,⟨by repeat(first |(with_reducible first | exact HB.out | apply bwA | apply bwN | apply bw1) | exact HB.out)⟩⟩
   rw [if_neg c6] at H
   have c6b0 : decide (t396≤x1_2) = false:=decide_eq_false c6
   clear c6
   by_cases c10 : x5_1.length < 17592186044416
   rotate_left
   ·rw [if_neg c10] at H
    exact absurd H (by simp)
   rw [if_pos c10] at H
   have LMc10:=Aside0.mk c10
   clear c10
   obtain ⟨y398,hy398⟩ : ∃ y_ : List Int,y_ =(x5_1 ++ [x8_2]):=⟨_,rfl⟩
   replace H :(q10_Grouping.l0 k2 a0 x1_2 y398 (mx x6_1 (wrap64 (x8_2 + 1))) (wrap64 (x7_1 + 1))) = some r:=by first |(rw [hy398];with_reducible exact H) |(have H2_:=(Option.bind_some _ _).symm.trans H;rw [hy398];with_reducible exact H2_) |(have H2_:=(Option.bind_some _ _).symm.trans H;with_reducible exact H2_) | with_reducible exact H |(rw [hy398];exact H) | exact H
   have Ny398:=Aside0.mk hy398
   clear hy398
   obtain ⟨ji11,hji11⟩ : ∃ j_ : Int,(mx x6_1 (wrap64 (x8_2 + 1))) = j_:=⟨_,rfl⟩
   replace H :(q10_Grouping.l0 k2 a0 x1_2 y398 ji11 (wrap64 (x7_1 + 1))) = some r:=by first |(rw [hji11] at H;exact H) |(simp only [hji11] at H ⊢;exact H)
   (try rw [hji11] at A5)
   have hji11_ :(if x6_1 < (wrap64 (x8_2 + 1)) then(wrap64 (x8_2 + 1)) else x6_1) = ji11:=hji11
   have H':=Aside0.mk H
   clear H
   go_wp2_with (first |(go_at_call 41;(with_reducible refine(q10_Groups.calls k2 x6_1 (wrap64 ((wrap64 (a0 - 1)) - x7_1)) t396 _ A5.out).mono ?_);rintro e w12 ⟨rfl,hb⟩;have n0_:=Aside0.mk (Kd.R_below (by(with_reducible repeat(first | apply Kd.R_alloc | apply Kd.R_drewN | apply Kd.R_drew));exact HO_5.out) hb);have n1_:=Aside0.mk (bwT (by repeat(first |(with_reducible first | exact HB.out | apply bwA | apply bwN | apply bw1) | exact HB.out)) hb);clear HO_5;clear HB;have HO_5:=n0_;have HB:=n1_;clear n0_ n1_;(try clear hb);(try clear hb2);(try clear hk);(try clear hi)) |((with_reducible refine gate_builtin (b:=.append) (xs:=#[.tmp 37,.tmp 39]) rfl ?_);at_builtin;refine Kd.R_append (Kd.int .i64) (w0:=w) w.heap.size rfl (.tmp 37) (.tmp 39) 22 3 (.int .i64 0) 8 rfl Try.underlying22 info3 rfl (by decide) (by omega) u5 x5_1 x8_2 [.int .i64 x8_2] (fun _=>True) (fun _=>False) rfl rfl ?aP (fun _ hk=>hk.elim) ?aF ?aO ?aB ?aS ?aL ?_;(case aP=>exact rfl);(case aB=>exact(by repeat(first |(with_reducible first | exact HB.out | apply bwA | apply bwN | apply bw1) | exact HB.out)));(case aF=>exact(fun _ _=>trivial));(case aO=>exact(by(with_reducible repeat(first | apply Kd.R_alloc | apply Kd.R_drewN | apply Kd.R_drew));exact HO_5.out));(case aS=>exact(bwZ (by repeat(first |(with_reducible first | exact HB.out | apply bwA | apply bwN | apply bw1) | exact HB.out))));(case aL=>have:=LMc10.out;omega);intro v399 w13 ho hb hg hat;rw [← Ny398.out] at ho;have n0_:=Aside0.mk (hb);have n1_:=Aside0.mk (ho);clear HB;clear HO_5;have HB:=n0_;have HO400:=n1_;clear n0_ n1_;clear ho hb hg hat))
   go_roundg k2
   case measure=>have:=HK1.out;have:=HK2.out;omega
   exact⟨(x1_2),(y398),(ji11),(wrap64 (x7_1 + 1)),(by first | rfl |(simp;done) |(simp [*];done)),(by first | rfl |(simp;done) |(simp only [← hji11] <;>(first | rfl | simp)) |(simp [*];done)),(by first | rfl |(simp;done) |(simp [*];done)),H',⟨by have:=HK1.out;have:=HK2.out;omega⟩,⟨by(with_reducible repeat(first | apply Kd.R_alloc | apply Kd.R_drewN | apply Kd.R_drew));exact HO400.out⟩,⟨by repeat(first |(with_reducible first | exact HB.out | apply bwA | apply bwN | apply bw1) | exact HB.out)⟩⟩

def q10_Groupings.l0 : Nat → List Int → Int → Int → Option (Bool)
 | 0,_,_,_=>none
 | k + 1,x0,x3,x4=>if x4 < (x0.length : Int) then(if 0≤x4 then(if(rd x0 x4) < 0 then(some false) else(if(rd x0 x4) > x3 then(some false) else(q10_Groupings.l0 k x0 (mx x3 (wrap64 ((rd x0 x4) + 1))) (wrap64 (x4 + 1))))) else(none)) else(some (decide ((x0.length : Int)≤20)))
def q10_Groupings.f (k : Nat) (l0 : List Int) : Option (Bool):=q10_Groupings.l0 k l0 0 0
set_option maxHeartbeats 8000000 in
set_option maxRecDepth 100000 in
theorem q10_Groupings.calls (k : Nat) (A0 : Option Addr) (c0 : Nat) (l0 : List Int) (r : Bool) (w : World) (hr0 : Kd.C (Kd.int .i64) w A0 l0.length l0) (hc0 : l0.length ≤ c0) (h : q10_Groupings.f k l0 = some r) :
  Calls Try.prog 43 #[.slice A0 l0.length c0] w fun e w'=>e = .returned (.bool r)∧Below w.heap.size w w':=by
 have HR0:=Aside0.mk hr0
 have HC0:=Aside0.mk hc0
 clear hr0 hc0
 have HB:=Aside0.mk (Below.refl w.heap.size w)
 have H :(q10_Groupings.l0 k l0 0 0) = some r:=h
 clear h
 have H':=Aside0.mk H
 clear H
 go_enter Try.func43,Try.ntmps43
 go_wp2
 go_loopg [3,4] k (fun kq v3 v4 w'=>∃ (x3_1 : Int) (x4_1 : Int),v3 = .int .i64 x3_1∧v4 = .int .i64 x4_1∧Aside0 (q10_Groupings.l0 kq l0 x3_1 x4_1 = some r)∧Aside0 (kq≤k)∧Aside0 (Below w.heap.size w w'))
 case atStart=>exact⟨(0),(0),(by first | rfl |(simp;done) |(simp [*];done)),(by first | rfl |(simp;done) |(simp [*];done)),H',⟨Nat.le_refl _⟩,⟨by repeat(first |(with_reducible first | exact HB.out | apply bwA | apply bwN | apply bw1) | exact HB.out)⟩⟩
 clear H'
 obtain ⟨x3_1,x4_1,rfl,rfl,HA,HK1,HB⟩:=hrel
 cases gk with
 | zero=>exact absurd HA.out (by simp [q10_Groupings.l0])
 | succ k1 =>
  have H:=HA.out
  clear HA
  simp only [q10_Groupings.l0] at H
  by_cases c2 : x4_1 < (l0.length : Int)
  rotate_left
  ·rw [if_neg c2] at H
   have c2b0 : decide (x4_1 < (l0.length : Int)) = false:=decide_eq_false c2
   clear c2
   obtain rfl:=Option.some.inj H
   go_wp2
   go_ret
   exact⟨by first | rfl |(simp [errW_none,errW_some] <;> rfl) |(simp [*,errW_none,errW_some] <;> rfl),by repeat(first |(with_reducible first | exact HB.out | apply bwA | apply bwN | apply bw1) | exact HB.out)⟩
  rw [if_pos c2] at H
  have c2b0 : decide (x4_1 < (l0.length : Int)) = true:=decide_eq_true c2
  clear c2
  by_cases c3 : 0≤x4_1
  rotate_left
  ·rw [if_neg c3] at H
   exact absurd H (by simp)
  rw [if_pos c3] at H
  have c3b0 : decide (0≤x4_1) = true:=decide_eq_true c3
  clear c3
  by_cases c4 :(rd l0 x4_1) < 0
  ·rw [if_pos c4] at H
   have c4b0 : decide ((rd l0 x4_1) < 0) = true:=decide_eq_true c4
   clear c4
   obtain rfl:=Option.some.inj H
   have p404 : 0 ≤(x4_1 : Int):=of_decide_eq_true (by first |(with_reducible assumption) | assumption)
   have q404 : x4_1 < (l0.length : Int):=of_decide_eq_true (by first |(with_reducible assumption) | assumption)
   obtain ⟨ad404,e404,hx404_0⟩:=Kd.at_int HR0.out x4_1 p404 q404
   cases e404
   replace hx404_0:=(HB.out.cell (World.block_lt_of_cell? w _ hx404_0)).trans hx404_0
   replace p404:=eq_true p404
   replace q404:=eq_true q404
   go_wp2
   go_ret
   exact⟨by first | rfl |(simp [errW_none,errW_some] <;> rfl) |(simp [*,errW_none,errW_some] <;> rfl),by repeat(first |(with_reducible first | exact HB.out | apply bwA | apply bwN | apply bw1) | exact HB.out)⟩
  rw [if_neg c4] at H
  have c4b0 : decide ((rd l0 x4_1) < 0) = false:=decide_eq_false c4
  clear c4
  by_cases c5 :(rd l0 x4_1) > x3_1
  ·rw [if_pos c5] at H
   have c5b0 : decide (x3_1 < (rd l0 x4_1)) = true:=decide_eq_true c5
   clear c5
   obtain rfl:=Option.some.inj H
   have p404 : 0 ≤(x4_1 : Int):=of_decide_eq_true (by first |(with_reducible assumption) | assumption)
   have q404 : x4_1 < (l0.length : Int):=of_decide_eq_true (by first |(with_reducible assumption) | assumption)
   obtain ⟨ad404,e404,hx404_0⟩:=Kd.at_int HR0.out x4_1 p404 q404
   cases e404
   replace hx404_0:=(HB.out.cell (World.block_lt_of_cell? w _ hx404_0)).trans hx404_0
   replace p404:=eq_true p404
   replace q404:=eq_true q404
   have p405 : 0 ≤(x4_1 : Int):=of_decide_eq_true (by first |(with_reducible assumption) | assumption)
   have q405 : x4_1 < (l0.length : Int):=of_decide_eq_true (by first |(with_reducible assumption) | assumption)
   obtain ⟨ad405,e405,hx405_0⟩:=Kd.at_int HR0.out x4_1 p405 q405
   obtain rfl : ad404 = ad405:=(by injection e405)
   replace hx405_0:=(HB.out.cell (World.block_lt_of_cell? w _ hx405_0)).trans hx405_0
   replace p405:=eq_true p405
   replace q405:=eq_true q405
   go_wp2
   go_ret
   exact⟨by first | rfl |(simp [errW_none,errW_some] <;> rfl) |(simp [*,errW_none,errW_some] <;> rfl),by repeat(first |(with_reducible first | exact HB.out | apply bwA | apply bwN | apply bw1) | exact HB.out)⟩
  rw [if_neg c5] at H
  have c5b0 : decide (x3_1 < (rd l0 x4_1)) = false:=decide_eq_false c5
  clear c5
  obtain ⟨ji6,hji6⟩ : ∃ j_ : Int,(mx x3_1 (wrap64 ((rd l0 x4_1) + 1))) = j_:=⟨_,rfl⟩
  replace H :(q10_Groupings.l0 k1 l0 ji6 (wrap64 (x4_1 + 1))) = some r:=by first |(rw [hji6] at H;exact H) |(simp only [hji6] at H ⊢;exact H)
  have hji6_ :(if x3_1 < (wrap64 ((rd l0 x4_1) + 1)) then(wrap64 ((rd l0 x4_1) + 1)) else x3_1) = ji6:=hji6
  have H':=Aside0.mk H
  clear H
  have p404 : 0 ≤(x4_1 : Int):=of_decide_eq_true (by first |(with_reducible assumption) | assumption)
  have q404 : x4_1 < (l0.length : Int):=of_decide_eq_true (by first |(with_reducible assumption) | assumption)
  obtain ⟨ad404,e404,hx404_0⟩:=Kd.at_int HR0.out x4_1 p404 q404
  cases e404
  replace hx404_0:=(HB.out.cell (World.block_lt_of_cell? w _ hx404_0)).trans hx404_0
  replace p404:=eq_true p404
  replace q404:=eq_true q404
  have p405 : 0 ≤(x4_1 : Int):=of_decide_eq_true (by first |(with_reducible assumption) | assumption)
  have q405 : x4_1 < (l0.length : Int):=of_decide_eq_true (by first |(with_reducible assumption) | assumption)
  obtain ⟨ad405,e405,hx405_0⟩:=Kd.at_int HR0.out x4_1 p405 q405
  obtain rfl : ad404 = ad405:=(by injection e405)
  replace hx405_0:=(HB.out.cell (World.block_lt_of_cell? w _ hx405_0)).trans hx405_0
  replace p405:=eq_true p405
  replace q405:=eq_true q405
  have p406 : 0 ≤(x4_1 : Int):=of_decide_eq_true (by first |(with_reducible assumption) | assumption)
  have q406 : x4_1 < (l0.length : Int):=of_decide_eq_true (by first |(with_reducible assumption) | assumption)
  obtain ⟨ad406,e406,hx406_0⟩:=Kd.at_int HR0.out x4_1 p406 q406
  obtain rfl : ad404 = ad406:=(by injection e406)
  replace hx406_0:=(HB.out.cell (World.block_lt_of_cell? w _ hx406_0)).trans hx406_0
  replace p406:=eq_true p406
  replace q406:=eq_true q406
  go_wp2
  go_roundg k1
  case measure=>have:=HK1.out;omega
  exact⟨(ji6),(wrap64 (x4_1 + 1)),(by first | rfl |(simp;done) |(simp only [← hji6] <;>(first | rfl | simp)) |(simp [*];done)),(by first | rfl |(simp;done) |(simp [*];done)),H',⟨by have:=HK1.out;omega⟩,⟨by repeat(first |(with_reducible first | exact HB.out | apply bwA | apply bwN | apply bw1) | exact HB.out)⟩⟩

def q10_GroupingAt.l0 : Nat → List Int → Int → Int → Int → Option (Int)
 | 0,_,_,_,_=>none
 | k + 1,x0,x3,x4,x5=>if x5 < (x0.length : Int) then(if 0≤x5 then((q10_Groups.f k x4 (wrap64 ((wrap64 ((x0.length : Int) - 1)) - x5))).bind fun t408=>(q10_GroupingAt.l0 k x0 (wrap64 (x3 + (wrap64 ((rd x0 x5) * t408)))) (mx x4 (wrap64 ((rd x0 x5) + 1))) (wrap64 (x5 + 1)))) else(none)) else(some x3)
def q10_GroupingAt.f (k : Nat) (l0 : List Int) : Option (Int):=q10_GroupingAt.l0 k l0 0 0 0
def q10_GroupingAt.T5 : Bool×List (List Nat×List Nat):=(true,[([],[]),([],[]),([],[]),([1,2],[1,2]),([3],[3]),([],[]),([],[]),([6],[6]),([7],[7]),([],[]),([8,9],[8,9]),([5,10],[5,10]),([4,11],[4,11]),([0,12],[0,12]),([13,11,0,1,2,3,4,5,6,7,8,9,10,11,12,13],[0,13])])
def q10_GroupingAt.B5 : List Nat:=[0,0,0,6,14,0,0,64,192,0,960,2016,4094,8191,16383]
theorem q10_GroupingAt.tab5 : rtab .any (opsOf Try.f44 5) = q10_GroupingAt.T5:=by kernel_rfl
theorem q10_GroupingAt.bits5 : waitsOk q10_GroupingAt.T5.2 q10_GroupingAt.B5 = true:=by kernel_rfl
set_option maxHeartbeats 8000000 in
set_option maxRecDepth 100000 in
theorem q10_GroupingAt.calls (k : Nat) (A0 : Option Addr) (c0 : Nat) (l0 : List Int) (r : Int) (w : World) (hr0 : Kd.C (Kd.int .i64) w A0 l0.length l0) (hc0 : l0.length ≤ c0) (h : q10_GroupingAt.f k l0 = some r) :
  Calls Try.prog 44 #[.slice A0 l0.length c0] w fun e w'=>e = .returned (.int .i64 r)∧Below w.heap.size w w':=by
 have HR0:=Aside0.mk hr0
 have HC0:=Aside0.mk hc0
 clear hr0 hc0
 have HB:=Aside0.mk (Below.refl w.heap.size w)
 have H :(q10_GroupingAt.l0 k l0 0 0 0) = some r:=h
 clear h
 have H':=Aside0.mk H
 clear H
 go_enter Try.func44,Try.ntmps44
 go_wp2
 go_loopg [3,4,5] k (fun kq v3 v4 v5 w'=>∃ (x3_1 : Int) (x4_1 : Int) (x5_1 : Int),v3 = .int .i64 x3_1∧v4 = .int .i64 x4_1∧v5 = .int .i64 x5_1∧Aside0 (q10_GroupingAt.l0 kq l0 x3_1 x4_1 x5_1 = some r)∧Aside0 (kq≤k)∧Aside0 (Below w.heap.size w w'))
 case atStart=>exact⟨(0),(0),(0),(by first | rfl |(simp;done) |(simp [*];done)),(by first | rfl |(simp;done) |(simp [*];done)),(by first | rfl |(simp;done) |(simp [*];done)),H',⟨Nat.le_refl _⟩,⟨by repeat(first |(with_reducible first | exact HB.out | apply bwA | apply bwN | apply bw1) | exact HB.out)⟩⟩
 clear H'
 obtain ⟨x3_1,x4_1,x5_1,rfl,rfl,rfl,HA,HK1,HB⟩:=hrel
 cases gk with
 | zero=>exact absurd HA.out (by simp [q10_GroupingAt.l0])
 | succ k1 =>
  have H:=HA.out
  clear HA
  simp only [q10_GroupingAt.l0] at H
  by_cases c2 : x5_1 < (l0.length : Int)
  rotate_left
  ·rw [if_neg c2] at H
   have c2b0 : decide (x5_1 < (l0.length : Int)) = false:=decide_eq_false c2
   clear c2
   obtain rfl:=Option.some.inj H
   go_wp2
   go_ret
   exact⟨by first | rfl |(simp [errW_none,errW_some] <;> rfl) |(simp [*,errW_none,errW_some] <;> rfl),by repeat(first |(with_reducible first | exact HB.out | apply bwA | apply bwN | apply bw1) | exact HB.out)⟩
  rw [if_pos c2] at H
  have c2b0 : decide (x5_1 < (l0.length : Int)) = true:=decide_eq_true c2
  clear c2
  by_cases c3 : 0≤x5_1
  rotate_left
  ·rw [if_neg c3] at H
   exact absurd H (by simp)
  rw [if_pos c3] at H
  have c3b0 : decide (0≤x5_1) = true:=decide_eq_true c3
  clear c3
  replace H:=Option.bind_eq_some_iff.mp H
  obtain ⟨t408,A40,H⟩:=H
  replace H :(q10_GroupingAt.l0 k1 l0 (wrap64 (x3_1 + (wrap64 ((rd l0 x5_1) * t408)))) (mx x4_1 (wrap64 ((rd l0 x5_1) + 1))) (wrap64 (x5_1 + 1))) = some r:=H
  have A4:=Aside0.mk A40
  clear A40
  obtain ⟨ji5,hji5⟩ : ∃ j_ : Int,(mx x4_1 (wrap64 ((rd l0 x5_1) + 1))) = j_:=⟨_,rfl⟩
  replace H :(q10_GroupingAt.l0 k1 l0 (wrap64 (x3_1 + (wrap64 ((rd l0 x5_1) * t408)))) ji5 (wrap64 (x5_1 + 1))) = some r:=by first |(rw [hji5] at H;exact H) |(simp only [hji5] at H ⊢;exact H)
  (try rw [hji5] at A4)
  have hji5_ :(if x4_1 < (wrap64 ((rd l0 x5_1) + 1)) then(wrap64 ((rd l0 x5_1) + 1)) else x4_1) = ji5:=hji5
  have H':=Aside0.mk H
  clear H
  try go_wp2
  have n0_:=Aside0.mk (bw1 HB.out)
  clear HB
  have HB:=n0_
  clear n0_
  have p407 : 0 ≤(x5_1 : Int):=of_decide_eq_true (by first |(with_reducible assumption) | assumption)
  have q407 : x5_1 < (l0.length : Int):=of_decide_eq_true (by first |(with_reducible assumption) | assumption)
  obtain ⟨ad407,e407,hx407_0⟩:=Kd.at_int HR0.out x5_1 p407 q407
  have hw407_0:=hx407_0
  cases e407
  replace hx407_0:=(HB.out.cell (World.block_lt_of_cell? w _ hx407_0)).trans hx407_0
  replace p407:=eq_true p407
  replace q407:=eq_true q407
  refine start_ (n:=15) (S:=fun w'=>w'.cell? (ad407.add (x5_1).toNat) = some (.int .i64 (rd l0 x5_1))) (ds:=[]) #[false,false,false,false,false,false,false,false,false,false,false,false,false,false,false] (by kernel_rfl) rfl rfl (((HB.out.cell (World.block_lt_of_cell? w _ hw407_0)).trans hw407_0)) (fun hHeld=>?_);refine with_tabW q10_GroupingAt.tab5 q10_GroupingAt.bits5 (fun HT_ HW_=>?_)
  generalize wr.drew = w6 at HB hx407_0 hHeld ⊢
  refine pure_ (i:=0) (N:=some 12) (v:=?_) (a':=?_) #[true,false,false,false,false,false,false,false,false,false,false,false,false,false,false] rfl rfl (any_of HT_.out (by kernel_rfl)) (fun _ _ _ h=>h) (Or.inl ⟨by rfl,?_⟩) ?_ ?_
  rotate_left
  ·intro w'
   go_simp
   with_reducible rfl
  rotate_left
  ·simp only [Act.put, List.setIfInBounds_toArray, List.set_cons_zero, List.set_cons_succ, i64_w, i32_w]
   rfl
  refine pure_ (i:=1) (N:=some 13) (v:=?_) (a':=?_) #[true,true,false,false,false,false,false,false,false,false,false,false,false,false,false] rfl rfl (any_of HT_.out (by kernel_rfl)) (fun _ _ _ h=>h) (Or.inl ⟨by rfl,?_⟩) ?_ ?_
  rotate_left
  ·intro w'
   go_simp
   with_reducible rfl
  rotate_left
  ·simp only [Act.put, List.setIfInBounds_toArray, List.set_cons_zero, List.set_cons_succ, i64_w, i32_w]
   rfl
  refine pure_ (i:=2) (N:=some 14) (v:=?_) (a':=?_) #[true,true,true,false,false,false,false,false,false,false,false,false,false,false,false] rfl rfl (any_of HT_.out (by kernel_rfl)) (fun _ _ _ h=>h) (Or.inl ⟨by rfl,?_⟩) ?_ ?_
  rotate_left
  ·intro w'
   go_simp
   with_reducible rfl
  rotate_left
  ·simp only [Act.put, List.setIfInBounds_toArray, List.set_cons_zero, List.set_cons_succ, i64_w, i32_w]
   rfl
  refine pure_ (i:=3) (N:=some 15) (v:=?_) (a':=?_) #[true,true,true,true,false,false,false,false,false,false,false,false,false,false,false] rfl rfl (any_of HT_.out (by kernel_rfl)) (fun _ _ _ h=>h) (Or.inl ⟨by rfl,?_⟩) ?_ ?_
  rotate_left
  ·intro w'
   go_simp
   with_reducible rfl
  rotate_left
  ·simp only [Act.put, List.setIfInBounds_toArray, List.set_cons_zero, List.set_cons_succ, i64_w, i32_w]
   rfl
  refine pure_ (i:=5) (N:=some 17) (v:=?_) (a':=?_) #[true,true,true,true,false,true,false,false,false,false,false,false,false,false,false] rfl rfl (any_of HT_.out (by kernel_rfl)) (fun _ _ _ h=>h) (Or.inl ⟨by rfl,?_⟩) ?_ ?_
  rotate_left
  ·intro w'
   go_simp
   with_reducible rfl
  rotate_left
  ·simp only [Act.put, List.setIfInBounds_toArray, List.set_cons_zero, List.set_cons_succ, i64_w, i32_w]
   rfl
  refine pure_ (i:=6) (N:=some 18) (v:=?_) (a':=?_) #[true,true,true,true,false,true,true,false,false,false,false,false,false,false,false] rfl rfl (any_of HT_.out (by kernel_rfl)) (fun _ _ _ h=>h) (Or.inl ⟨by rfl,?_⟩) ?_ ?_
  rotate_left
  ·intro w'
   go_simp
   with_reducible rfl
  rotate_left
  ·simp only [Act.put, List.setIfInBounds_toArray, List.set_cons_zero, List.set_cons_succ, i64_w, i32_w]
   rfl
  refine pure_ (i:=7) (N:=some 19) (v:=?_) (a':=?_) #[true,true,true,true,false,true,true,true,false,false,false,false,false,false,false] rfl rfl (any_of HT_.out (by kernel_rfl)) (fun _ _ _ h=>h) (Or.inl ⟨by rfl,?_⟩) ?_ ?_
  rotate_left
  ·intro w'
   go_simp
   with_reducible rfl
  rotate_left
  ·simp only [Act.put, List.setIfInBounds_toArray, List.set_cons_zero, List.set_cons_succ, i64_w, i32_w]
   rfl
  refine pure_ (i:=8) (N:=some 20) (v:=?_) (a':=?_) #[true,true,true,true,false,true,true,true,true,false,false,false,false,false,false] rfl rfl (any_of HT_.out (by kernel_rfl)) (fun _ _ _ h=>h) (Or.inl ⟨by rfl,?_⟩) ?_ ?_
  rotate_left
  ·intro w'
   go_simp
   with_reducible rfl
  rotate_left
  ·simp only [Act.put, List.setIfInBounds_toArray, List.set_cons_zero, List.set_cons_succ, i64_w, i32_w]
   rfl
  refine pure_ (i:=9) (N:=some 21) (v:=?_) (a':=?_) #[true,true,true,true,false,true,true,true,true,true,false,false,false,false,false] rfl rfl (any_of HT_.out (by kernel_rfl)) (fun _ _ _ h=>h) (Or.inl ⟨by rfl,?_⟩) ?_ ?_
  rotate_left
  ·intro w'
   go_simp
   with_reducible rfl
  rotate_left
  ·simp only [Act.put, List.setIfInBounds_toArray, List.set_cons_zero, List.set_cons_succ, i64_w, i32_w]
   rfl
  refine pure_ (i:=10) (N:=some 22) (v:=?_) (a':=?_) #[true,true,true,true,false,true,true,true,true,true,true,false,false,false,false] rfl rfl (any_of HT_.out (by kernel_rfl)) (fun _ _ _ h=>h) (Or.inl ⟨by rfl,?_⟩) ?_ ?_
  rotate_left
  ·intro w'
   go_simp
   with_reducible rfl
  rotate_left
  ·simp only [Act.put, List.setIfInBounds_toArray, List.set_cons_zero, List.set_cons_succ, i64_w, i32_w]
   rfl
  refine take_ (i:=4) (N:=some 16) (v:=?_) (a':=?_) #[true,true,true,true,true,true,true,true,true,true,true,false,false,false,false] rfl rfl (take_ofW HT_.out HW_.out (by kernel_rfl)) (fun _ _ _ h=>h) (Or.inl ⟨by rfl,?_⟩) hHeld ?_ ?_
  rotate_left
  ·intro w' s0
   go_simp
   with_reducible rfl
  rotate_left
  ·simp only [Act.put, List.setIfInBounds_toArray, List.set_cons_zero, List.set_cons_succ, i64_w, i32_w]
   rfl
  refine one_ (i:=11) (N:=some 23) #[true,true,true,true,true,true,true,true,true,true,true,true,false,false,false] rfl rfl (one_of HT_.out (by kernel_rfl)) (by decide) (fun K hK=>?_)
  refine goes_ Try.func41 (by kernel_rfl) rfl #[.int .i64 x4_1,.int .i64 (wrap64 ((wrap64 ((l0.length : Int) - 1)) - x5_1))] (by rfl) rfl rfl (by(try simp only [List.map_toArray,List.map_cons,List.map_nil]);first | done | rfl |(simp only [List.length_drop,List.length_take];rfl)) ?_
  with_reducible refine(q10_Groups.calls k1 x4_1 (wrap64 ((wrap64 ((l0.length : Int) - 1)) - x5_1)) t408 _ A4.out).mono ?_
  rintro e w7 ⟨rfl,hb⟩
  refine⟨_,rfl,?_⟩
  have n0_:=Aside0.mk (bwT (by repeat(first |(with_reducible first | exact HB.out | apply bwA | apply bwN | apply bw1) | exact HB.out)) hb)
  clear HB
  have HB:=n0_
  clear n0_
  (try clear hb)
  (try clear hb2)
  (try clear hk)
  (try clear hi)
  refine hK.out _ _ (((HB.out.cell (World.block_lt_of_cell? w _ hw407_0)).trans hw407_0)) (fun hHeld=>?_)
  clear hK K
  refine norm_ (a':=?_) ?_ ?_
  rotate_left
  ·show Act.put _ (some 23) _ = _
   simp only [Act.put,List.setIfInBounds_toArray,List.set_cons_zero,List.set_cons_succ,i64_w,i32_w]
   rfl
  refine pure_ (i:=12) (N:=some 24) (v:=?_) (a':=?_) #[true,true,true,true,true,true,true,true,true,true,true,true,true,false,false] rfl rfl (any_of HT_.out (by kernel_rfl)) (fun _ _ _ h=>h) (Or.inl ⟨by rfl,?_⟩) ?_ ?_
  rotate_left
  ·intro w'
   go_simp
   with_reducible rfl
  rotate_left
  ·simp only [Act.put, List.setIfInBounds_toArray, List.set_cons_zero, List.set_cons_succ, i64_w, i32_w]
   rfl
  refine pure_ (i:=13) (N:=some 25) (v:=?_) (a':=?_) #[true,true,true,true,true,true,true,true,true,true,true,true,true,true,false] rfl rfl (any_of HT_.out (by kernel_rfl)) (fun _ _ _ h=>h) (Or.inl ⟨by rfl,?_⟩) ?_ ?_
  rotate_left
  ·intro w'
   go_simp
   with_reducible rfl
  rotate_left
  ·simp only [Act.put, List.setIfInBounds_toArray, List.set_cons_zero, List.set_cons_succ, i64_w, i32_w]
   rfl
  refine pure_ (i:=14) (N:=some 3) (v:=?_) (a':=?_) #[true,true,true,true,true,true,true,true,true,true,true,true,true,true,true] rfl rfl (any_of HT_.out (by kernel_rfl)) (fun _ _ _ h=>h) (Or.inl ⟨by rfl,?_⟩) ?_ ?_
  rotate_left
  ·intro w'
   go_simp
   with_reducible rfl
  rotate_left
  ·simp only [Act.put, List.setIfInBounds_toArray, List.set_cons_zero, List.set_cons_succ, i64_w, i32_w]
   rfl
  refine done_ (done_of HT_.out (by kernel_rfl)) ?_
  have p409 : 0 ≤(x5_1 : Int):=of_decide_eq_true (by first |(with_reducible assumption) | assumption)
  have q409 : x5_1 < (l0.length : Int):=of_decide_eq_true (by first |(with_reducible assumption) | assumption)
  obtain ⟨ad409,e409,hx409_0⟩:=Kd.at_int HR0.out x5_1 p409 q409
  obtain rfl : ad407 = ad409:=(by injection e409)
  replace hx409_0:=(HB.out.cell (World.block_lt_of_cell? w _ hx409_0)).trans hx409_0
  replace p409:=eq_true p409
  replace q409:=eq_true q409
  try go_wp2
  go_roundg k1
  case measure=>have:=HK1.out;omega
  exact⟨(wrap64 (x3_1 + (wrap64 ((rd l0 x5_1) * t408)))),(ji5),(wrap64 (x5_1 + 1)),(by first | rfl |(simp;done) |(simp [*];done)),(by first | rfl |(simp;done) |(simp only [← hji5] <;>(first | rfl | simp)) |(simp [*];done)),(by first | rfl |(simp;done) |(simp [*];done)),H',⟨by have:=HK1.out;omega⟩,⟨by repeat(first |(with_reducible first | exact HB.out | apply bwA | apply bwN | apply bw1) | exact HB.out)⟩⟩
end Go.Proofs.Ytbfhlaggllofdaa.S
