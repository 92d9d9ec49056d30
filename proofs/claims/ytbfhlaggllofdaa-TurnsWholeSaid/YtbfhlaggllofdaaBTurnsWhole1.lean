-- Written by wip/bundle2.py: texts of this claim, one behind the other.
import Derived.Test.YtbfhlaggllofdaaBTurnsWhole0
set_option linter.unusedVariables false
set_option linter.unusedSimpArgs false

namespace Go.Proofs.Ytbfhlaggllofdaa.S
open Go.Proofs.Ytbfhlaggllofdaa.Lib
open Go.Maps (Keyed)
open Go.RowKit Go.Proofs.YtbfhlaggllofdaaW.PrintWords Go.Proofs.YtbfhlaggllofdaaW.PrintLast Go.Proofs.YtbfhlaggllofdaaW.PrintMore
attribute [local go_sem] max2_int min2_int max_two min_two max_three min_three max_four min_four
set_option linter.unusedVariables false
set_option linter.unusedSimpArgs false

open Go.Proofs.Ytbfhlaggllofdaa.G Go.Proofs.Ytbfhlaggllofdaa.T Go.Proofs.Ytbfhlaggllofdaa.P
def turns_order.f (a0 a1 : Int) : Option (List Int):=if 0≤a0∧a0≤18∧0≤a1∧a1 < fact a0.toNat then some (sjt a0.toNat a1) else none
set_option maxHeartbeats 2000000 in
set_option maxRecDepth 100000 in
theorem turns_order.calls (a0 a1 : Int) (r : List Int) (w : World) (h : turns_order.f a0 a1 = some r) :
  Calls Try.prog 65 #[.int .i64 a0,.int .i64 a1] w fun e w'=>∃ v0_ : Value,e = .returned v0_∧Kd.R (Kd.int .i64) 3 w' w.heap.size (fun _=>True) v0_ r∧Below w.heap.size w w':=by
 unfold turns_order.f at h
 by_cases c0 : 0≤a0∧a0≤18∧0≤a1∧a1 < fact a0.toNat
 rotate_left
 ·rw [if_neg c0] at h
  cases h
 rw [if_pos c0] at h
 injection h with h
 obtain ⟨n,rfl⟩ : ∃ n : Nat,a0 = n:=⟨a0.toNat,by omega⟩
 rw [show((n : Int)).toNat = n by omega] at c0 h
 have HN:=Aside0.mk (show n≤18 by omega)
 have HA:=Aside0.mk c0.2.2
 have HR:=Aside0.mk h
 have n0:=eq_true (show(0 : Int) ≤(n : Int) by omega)
 have n1:=eq_true (show(n : Int) < 19 by omega)
 clear c0 h
 have hi76 :(Try.prog.info? 76).map (·.size) = some (facA 19).size:=by rw [facA_end];kernel_rfl
 go_enter Try.func65,Try.ntmps65
 go_upto_region 2 with (fail)
 refine wp_region_lit ?_
 refine goesL_ (some 11) rfl rfl Try.func64 (by kernel_rfl) rfl #[] rfl (by simp) ?_
 refine(fac_new _).mono ?_
 rintro e w1 ⟨rfl,hb⟩
 refine⟨_,rfl,?_⟩
 have HB1:=Aside0.mk hb
 clear hb
 refine wpList_plain rfl (fun K hK=>?_)
 go_simp
 refine hK _ _ ?_
 clear hK
 refine wpList_store_row rfl 76 (.tmp 6) (.tmp 11) rfl w1.heap.size (facA 19) rfl rfl 76 #[.int .i64 0,.int .i64 0,.int .i64 0,.int .i64 0,.int .i64 0,.int .i64 0,.int .i64 0,.int .i64 0,.int .i64 0,.int .i64 0,.int .i64 0,.int .i64 0,.int .i64 0,.int .i64 0,.int .i64 0,.int .i64 0,.int .i64 0,.int .i64 0,.int .i64 0] (heap_alloc_new _ _) hi76 rfl (by rw [facA_end];kernel_rfl) ?_
 obtain ⟨W0,hW0⟩ : ∃ W0,(w1.alloc (.cells #[.int .i64 0,.int .i64 0,.int .i64 0,.int .i64 0,.int .i64 0,.int .i64 0,.int .i64 0,.int .i64 0,.int .i64 0,.int .i64 0,.int .i64 0,.int .i64 0,.int .i64 0,.int .i64 0,.int .i64 0,.int .i64 0,.int .i64 0,.int .i64 0,.int .i64 0] 76)).setRow w1.heap.size (facA 19) = W0:=⟨_,rfl⟩
 have HF:=Aside0.mk (show W0.heap[w1.heap.size]? = some (.cells (facA 19) 76 (0,0)) by rw [← hW0];exact setRow_heap _ _ _ _ _ _ (heap_alloc_new _ _))
 have HB0:=Aside0.mk (show Below w.heap.size w W0 by rw [← hW0];exact below_setRow (bwA HB1.out _) HB1.out.size _)
 have HSZ:=Aside0.mk (show w1.heap.size + 1≤W0.heap.size by have:=(Array.getElem?_eq_some_iff.1 HF.out).1;omega)
 rw [hW0]
 clear hW0 hi76
 refine wpList_nil ?_
 obtain ⟨B,hB⟩ : ∃ B,w1.heap.size = B:=⟨_,rfl⟩
 rw [hB] at HF HSZ ⊢
 have HBW:=Aside0.mk (show w.heap.size≤B by rw [← hB];exact HB1.out.size)
 clear hB HB1
 obtain ⟨N0,hN0⟩ : ∃ N0,B + 1 = N0:=⟨_,rfl⟩
 have HNS:=Aside0.mk (show N0≤W0.heap.size by rw [← hN0];exact HSZ.out)
 have HNB0:=Aside0.mk (show B < N0 by omega)
 clear hN0
 go_wp2
 go_loopw [5,13] (fun v5 v13 wr=>∃ (i : Nat) (t : Int),v13 = .int .i64 (i : Int)∧Aside0 (i≤n)∧Aside0 (a1 / (fact n / fact i) = t)∧Aside0 (wr.ownsRow N0 3 1 v5 i ((sjt i t).map (Value.int .i64)))∧Aside0 (Below N0 W0 wr)) (fun v5 v13 _=>n - (intOf v13).toNat)
 case atStart=>exact⟨0,_,rfl,⟨Nat.zero_le _⟩,⟨rfl⟩,⟨World.ownsRow_nil _ _ _ _⟩,⟨Below.refl _ _⟩⟩
 obtain ⟨i,t0,rfl,HI,HT,HO,HB⟩:=hrel
 by_cases c : i < n
 rotate_left
 ·obtain rfl : i = n := by have := HI.out; omega
  have cb : decide ((i : Int) < (i : Int)) = false:=decide_eq_false (by omega)
  have cb1 : decide (i < i) = false:=decide_eq_false (by omega)
  have hp:=fact_pos i
  have ht : t0 = a1:=by rw [← HT.out,Int.ediv_self (by omega),Int.ediv_one]
  have hr : sjt i t0 = r:=by rw [ht];exact HR.out
  subst hr
  have HO' : Aside0 (wr.ownsRow N0 3 1 u5 (sjt i t0).length ((sjt i t0).map (Value.int .i64))):=⟨by rw [sjt_len];exact HO.out⟩
  clear c hp ht HR HT HO
  go_wp2
  go_ret
  exact⟨_,rfl,Kd.R_lower (Kd.R_of_own HO'.out (fun k e=>trivial)) (Nat.le_trans HBW.out (Nat.le_of_lt HNB0.out)),HB0.out.trans (HB.out.mono (Nat.le_trans HBW.out (Nat.le_of_lt HNB0.out)))⟩
 have hn:=HN.out
 have cb : decide ((i : Int) < (n : Int)) = true:=decide_eq_true (by omega)
 have cb1 : decide (i < n) = true:=decide_eq_true c
 have i0:=eq_true (show(0 : Int) ≤(i : Int) + 1 by omega)
 have i1:=eq_true (show(i : Int) + 1 < 19 by omega)
 have i2 :((i : Int) + 1 == 0) = false:=beq_eq_false_iff_ne.2 (by omega)
 have i3:=eq_false (show ¬ ((i : Int) + 1 = 0) by omega)
 have wi : wrap64 ((i : Int) + 1) =(i : Int) + 1:=w64 (by omega) (by omega)
 have HMS:=Aside0.mk (show n - (intOf (.int .i64 ((i : Int) + 1))).toNat < n - (intOf (.int .i64 (i : Int))).toNat by show n - ((i : Int) + 1).toNat < n - ((i : Int)).toNat;omega)
 have HN18:=Aside0.mk (show i≤100 by omega)
 have HI1:=Aside0.mk (show i + 1≤n by omega)
 obtain ⟨F,M,D,q,t,p,u,eF,eM,eq,et,⟨f0,f1,f2,f3⟩,⟨g0,g1,g2,g3⟩,⟨k1,k2,k3⟩,hu,hpar,wu,hs⟩:=order_step HN.out c HA.out.1 HA.out.2
 obtain rfl : t = t0:=et.symm.trans HT.out
 have HU:=Aside0.mk hu
 have HS:=Aside0.mk hs
 have HQ:=Aside0.mk eq
 have lf : wr.cell? ⟨B,n,none⟩ = some (.int .i64 F):=by
  rw [HB.out.cell (p:=⟨B,n,none⟩) HNB0.out]
  exact(bkC HF.out n).trans ((facA_get (by omega)).trans (by rw [eF]))
 have lm : wr.cell? ⟨B,i + 1,none⟩ = some (.int .i64 M):=by
  rw [HB.out.cell (p:=⟨B,i + 1,none⟩) HNB0.out]
  exact(bkC HF.out (i + 1)).trans ((facA_get (by omega)).trans (by rw [eM]))
 clear hn hu hs eq et HT eF eM c HI
 rcases hpar with ⟨z1,z2⟩ |⟨z1,z2⟩
 ·have wz : wrap64 ((i : Int) - p) = (u : Int) := by rw [z2]; exact wu
  clear z2
  go_wp2
  refine start_ (n:=10) (S:=fun W'=>W'.cell? ⟨B,n,none⟩ = some (.int .i64 F)∧W'.cell? ⟨B,i + 1,none⟩ = some (.int .i64 M)) (ds:=[]) #[false,false,false,false,false,false,false,false,false,false] (by kernel_rfl) rfl rfl ⟨lf,lm⟩ (fun hHeld=>?_)
  first
  |(refine px_ (i:=0) (N:=some 18) (v:=?_) (a':=?_) #[true,false,false,false,false,false,false,false,false,false] rfl rfl (by kernel_rfl) (fun _ _ _ h=>h) ?_ ?_ ?_;rotate_left 2;(focus refine Or.inl ⟨by rfl,?_⟩;intro w';go_simp;with_reducible rfl);(focus simp only [List.getElem_toArray,List.getElem_cons_succ,List.getElem_cons_zero,Act.put,List.setIfInBounds_toArray,List.set_cons_zero,List.set_cons_succ,i64_w,i32_w];rfl))
  |(refine tx_ (i:=0) (N:=some 18) (v:=?_) (a':=?_) #[true,false,false,false,false,false,false,false,false,false] rfl rfl (by kernel_rfl) (fun _ _ _ h=>h) ?_ hHeld ?_ ?_;rotate_left 2;(focus refine Or.inl ⟨by rfl,?_⟩;rintro w' ⟨s0,s1⟩;go_simp;with_reducible rfl);(focus simp only [List.getElem_toArray,List.getElem_cons_succ,List.getElem_cons_zero,Act.put,List.setIfInBounds_toArray,List.set_cons_zero,List.set_cons_succ,i64_w,i32_w];rfl))
  first
  |(refine px_ (i:=1) (N:=some 19) (v:=?_) (a':=?_) #[true,true,false,false,false,false,false,false,false,false] rfl rfl (by kernel_rfl) (fun _ _ _ h=>h) ?_ ?_ ?_;rotate_left 2;(focus refine Or.inl ⟨by rfl,?_⟩;intro w';go_simp;with_reducible rfl);(focus simp only [List.getElem_toArray,List.getElem_cons_succ,List.getElem_cons_zero,Act.put,List.setIfInBounds_toArray,List.set_cons_zero,List.set_cons_succ,i64_w,i32_w];rfl))
  |(refine tx_ (i:=1) (N:=some 19) (v:=?_) (a':=?_) #[true,true,false,false,false,false,false,false,false,false] rfl rfl (by kernel_rfl) (fun _ _ _ h=>h) ?_ hHeld ?_ ?_;rotate_left 2;(focus refine Or.inl ⟨by rfl,?_⟩;rintro w' ⟨s0,s1⟩;go_simp;with_reducible rfl);(focus simp only [List.getElem_toArray,List.getElem_cons_succ,List.getElem_cons_zero,Act.put,List.setIfInBounds_toArray,List.set_cons_zero,List.set_cons_succ,i64_w,i32_w];rfl))
  first
  |(refine px_ (i:=2) (N:=some 20) (v:=?_) (a':=?_) #[true,true,true,false,false,false,false,false,false,false] rfl rfl (by kernel_rfl) (fun _ _ _ h=>h) ?_ ?_ ?_;rotate_left 2;(focus refine Or.inl ⟨by rfl,?_⟩;intro w';go_simp;with_reducible rfl);(focus simp only [List.getElem_toArray,List.getElem_cons_succ,List.getElem_cons_zero,Act.put,List.setIfInBounds_toArray,List.set_cons_zero,List.set_cons_succ,i64_w,i32_w];rfl))
  |(refine tx_ (i:=2) (N:=some 20) (v:=?_) (a':=?_) #[true,true,true,false,false,false,false,false,false,false] rfl rfl (by kernel_rfl) (fun _ _ _ h=>h) ?_ hHeld ?_ ?_;rotate_left 2;(focus refine Or.inl ⟨by rfl,?_⟩;rintro w' ⟨s0,s1⟩;go_simp;with_reducible rfl);(focus simp only [List.getElem_toArray,List.getElem_cons_succ,List.getElem_cons_zero,Act.put,List.setIfInBounds_toArray,List.set_cons_zero,List.set_cons_succ,i64_w,i32_w];rfl))
  first
  |(refine px_ (i:=3) (N:=some 21) (v:=?_) (a':=?_) #[true,true,true,true,false,false,false,false,false,false] rfl rfl (by kernel_rfl) (fun _ _ _ h=>h) ?_ ?_ ?_;rotate_left 2;(focus refine Or.inl ⟨by rfl,?_⟩;intro w';go_simp;with_reducible rfl);(focus simp only [List.getElem_toArray,List.getElem_cons_succ,List.getElem_cons_zero,Act.put,List.setIfInBounds_toArray,List.set_cons_zero,List.set_cons_succ,i64_w,i32_w];rfl))
  |(refine tx_ (i:=3) (N:=some 21) (v:=?_) (a':=?_) #[true,true,true,true,false,false,false,false,false,false] rfl rfl (by kernel_rfl) (fun _ _ _ h=>h) ?_ hHeld ?_ ?_;rotate_left 2;(focus refine Or.inl ⟨by rfl,?_⟩;rintro w' ⟨s0,s1⟩;go_simp;with_reducible rfl);(focus simp only [List.getElem_toArray,List.getElem_cons_succ,List.getElem_cons_zero,Act.put,List.setIfInBounds_toArray,List.set_cons_zero,List.set_cons_succ,i64_w,i32_w];rfl))
  first
  |(refine px_ (i:=4) (N:=some 22) (v:=?_) (a':=?_) #[true,true,true,true,true,false,false,false,false,false] rfl rfl (by kernel_rfl) (fun _ _ _ h=>h) ?_ ?_ ?_;rotate_left 2;(focus refine Or.inl ⟨by rfl,?_⟩;intro w';go_simp;with_reducible rfl);(focus simp only [List.getElem_toArray,List.getElem_cons_succ,List.getElem_cons_zero,Act.put,List.setIfInBounds_toArray,List.set_cons_zero,List.set_cons_succ,i64_w,i32_w];rfl))
  |(refine tx_ (i:=4) (N:=some 22) (v:=?_) (a':=?_) #[true,true,true,true,true,false,false,false,false,false] rfl rfl (by kernel_rfl) (fun _ _ _ h=>h) ?_ hHeld ?_ ?_;rotate_left 2;(focus refine Or.inl ⟨by rfl,?_⟩;rintro w' ⟨s0,s1⟩;go_simp;with_reducible rfl);(focus simp only [List.getElem_toArray,List.getElem_cons_succ,List.getElem_cons_zero,Act.put,List.setIfInBounds_toArray,List.set_cons_zero,List.set_cons_succ,i64_w,i32_w];rfl))
  first
  |(refine px_ (i:=5) (N:=some 23) (v:=?_) (a':=?_) #[true,true,true,true,true,true,false,false,false,false] rfl rfl (by kernel_rfl) (fun _ _ _ h=>h) ?_ ?_ ?_;rotate_left 2;(focus refine Or.inl ⟨by rfl,?_⟩;intro w';go_simp;with_reducible rfl);(focus simp only [List.getElem_toArray,List.getElem_cons_succ,List.getElem_cons_zero,Act.put,List.setIfInBounds_toArray,List.set_cons_zero,List.set_cons_succ,i64_w,i32_w];rfl))
  |(refine tx_ (i:=5) (N:=some 23) (v:=?_) (a':=?_) #[true,true,true,true,true,true,false,false,false,false] rfl rfl (by kernel_rfl) (fun _ _ _ h=>h) ?_ hHeld ?_ ?_;rotate_left 2;(focus refine Or.inl ⟨by rfl,?_⟩;rintro w' ⟨s0,s1⟩;go_simp;with_reducible rfl);(focus simp only [List.getElem_toArray,List.getElem_cons_succ,List.getElem_cons_zero,Act.put,List.setIfInBounds_toArray,List.set_cons_zero,List.set_cons_succ,i64_w,i32_w];rfl))
  first
  |(refine px_ (i:=6) (N:=some 24) (v:=?_) (a':=?_) #[true,true,true,true,true,true,true,false,false,false] rfl rfl (by kernel_rfl) (fun _ _ _ h=>h) ?_ ?_ ?_;rotate_left 2;(focus refine Or.inl ⟨by rfl,?_⟩;intro w';go_simp;with_reducible rfl);(focus simp only [List.getElem_toArray,List.getElem_cons_succ,List.getElem_cons_zero,Act.put,List.setIfInBounds_toArray,List.set_cons_zero,List.set_cons_succ,i64_w,i32_w];rfl))
  |(refine tx_ (i:=6) (N:=some 24) (v:=?_) (a':=?_) #[true,true,true,true,true,true,true,false,false,false] rfl rfl (by kernel_rfl) (fun _ _ _ h=>h) ?_ hHeld ?_ ?_;rotate_left 2;(focus refine Or.inl ⟨by rfl,?_⟩;rintro w' ⟨s0,s1⟩;go_simp;with_reducible rfl);(focus simp only [List.getElem_toArray,List.getElem_cons_succ,List.getElem_cons_zero,Act.put,List.setIfInBounds_toArray,List.set_cons_zero,List.set_cons_succ,i64_w,i32_w];rfl))
  first
  |(refine px_ (i:=7) (N:=some 25) (v:=?_) (a':=?_) #[true,true,true,true,true,true,true,true,false,false] rfl rfl (by kernel_rfl) (fun _ _ _ h=>h) ?_ ?_ ?_;rotate_left 2;(focus refine Or.inl ⟨by rfl,?_⟩;intro w';go_simp;with_reducible rfl);(focus simp only [List.getElem_toArray,List.getElem_cons_succ,List.getElem_cons_zero,Act.put,List.setIfInBounds_toArray,List.set_cons_zero,List.set_cons_succ,i64_w,i32_w];rfl))
  |(refine tx_ (i:=7) (N:=some 25) (v:=?_) (a':=?_) #[true,true,true,true,true,true,true,true,false,false] rfl rfl (by kernel_rfl) (fun _ _ _ h=>h) ?_ hHeld ?_ ?_;rotate_left 2;(focus refine Or.inl ⟨by rfl,?_⟩;rintro w' ⟨s0,s1⟩;go_simp;with_reducible rfl);(focus simp only [List.getElem_toArray,List.getElem_cons_succ,List.getElem_cons_zero,Act.put,List.setIfInBounds_toArray,List.set_cons_zero,List.set_cons_succ,i64_w,i32_w];rfl))
  first
  |(refine px_ (i:=8) (N:=some 26) (v:=?_) (a':=?_) #[true,true,true,true,true,true,true,true,true,false] rfl rfl (by kernel_rfl) (fun _ _ _ h=>h) ?_ ?_ ?_;rotate_left 2;(focus refine Or.inl ⟨by rfl,?_⟩;intro w';go_simp;with_reducible rfl);(focus simp only [List.getElem_toArray,List.getElem_cons_succ,List.getElem_cons_zero,Act.put,List.setIfInBounds_toArray,List.set_cons_zero,List.set_cons_succ,i64_w,i32_w];rfl))
  |(refine tx_ (i:=8) (N:=some 26) (v:=?_) (a':=?_) #[true,true,true,true,true,true,true,true,true,false] rfl rfl (by kernel_rfl) (fun _ _ _ h=>h) ?_ hHeld ?_ ?_;rotate_left 2;(focus refine Or.inl ⟨by rfl,?_⟩;rintro w' ⟨s0,s1⟩;go_simp;with_reducible rfl);(focus simp only [List.getElem_toArray,List.getElem_cons_succ,List.getElem_cons_zero,Act.put,List.setIfInBounds_toArray,List.set_cons_zero,List.set_cons_succ,i64_w,i32_w];rfl))
  first
  |(refine px_ (i:=9) (N:=some 9) (v:=?_) (a':=?_) #[true,true,true,true,true,true,true,true,true,true] rfl rfl (by kernel_rfl) (fun _ _ _ h=>h) ?_ ?_ ?_;rotate_left 2;(focus refine Or.inl ⟨by rfl,?_⟩;intro w';go_simp;with_reducible rfl);(focus simp only [List.getElem_toArray,List.getElem_cons_succ,List.getElem_cons_zero,Act.put,List.setIfInBounds_toArray,List.set_cons_zero,List.set_cons_succ,i64_w,i32_w];rfl))
  |(refine tx_ (i:=9) (N:=some 9) (v:=?_) (a':=?_) #[true,true,true,true,true,true,true,true,true,true] rfl rfl (by kernel_rfl) (fun _ _ _ h=>h) ?_ hHeld ?_ ?_;rotate_left 2;(focus refine Or.inl ⟨by rfl,?_⟩;rintro w' ⟨s0,s1⟩;go_simp;with_reducible rfl);(focus simp only [List.getElem_toArray,List.getElem_cons_succ,List.getElem_cons_zero,Act.put,List.setIfInBounds_toArray,List.set_cons_zero,List.set_cons_succ,i64_w,i32_w];rfl))
  refine done_ (by kernel_rfl) ?_
  clear hHeld lf lm
  obtain ⟨WR,hWR⟩ : ∃ W,W = wr.drew:=⟨_,rfl⟩
  have HNB : Aside0 (N0≤WR.heap.size):=⟨by rw [hWR];exact Nat.le_trans HNS.out HB.out.size⟩
  have HBR : Aside0 (Below N0 W0 WR):=⟨by rw [hWR];exact HB.out.drew⟩
  replace HO : Aside0 (WR.ownsRow N0 3 1 u5 i ((sjt i t).map (Value.int .i64))):=⟨by rw [hWR];exact HO.out⟩
  rw [← hWR]
  clear hWR HB
  go_wp2_with (go_at_call 73;go_must (refine(insert_own (W:=WR) HO.out HNB.out HN18.out HU.out ((i : Int) + 1)).mono ?_;rintro e wx ⟨v',rfl,ho,hb⟩;have HO1:=Aside0.mk ho;have HB2:=Aside0.mk hb;clear ho hb))
  go_roundw
  case rel=>exact⟨i + 1,q,by simp [wi],HI1,HQ,⟨by rw [HS.out];exact HO1.out⟩,⟨HBR.out.trans HB2.out⟩⟩
  case measure=>(first | exact HMS.out |(rw [wi];exact HMS.out) |(simp only [wi];exact HMS.out))
     
 subst z2
 go_wp2
 refine start_ (n:=10) (S:=fun W'=>W'.cell? ⟨B,n,none⟩ = some (.int .i64 F)∧W'.cell? ⟨B,i + 1,none⟩ = some (.int .i64 M)) (ds:=[]) #[false,false,false,false,false,false,false,false,false,false] (by kernel_rfl) rfl rfl ⟨lf,lm⟩ (fun hHeld=>?_)
 first
 |(refine px_ (i:=0) (N:=some 18) (v:=?_) (a':=?_) #[true,false,false,false,false,false,false,false,false,false] rfl rfl (by kernel_rfl) (fun _ _ _ h=>h) ?_ ?_ ?_;rotate_left 2;(focus refine Or.inl ⟨by rfl,?_⟩;intro w';go_simp;with_reducible rfl);(focus simp only [List.getElem_toArray,List.getElem_cons_succ,List.getElem_cons_zero,Act.put,List.setIfInBounds_toArray,List.set_cons_zero,List.set_cons_succ,i64_w,i32_w];rfl))
 |(refine tx_ (i:=0) (N:=some 18) (v:=?_) (a':=?_) #[true,false,false,false,false,false,false,false,false,false] rfl rfl (by kernel_rfl) (fun _ _ _ h=>h) ?_ hHeld ?_ ?_;rotate_left 2;(focus refine Or.inl ⟨by rfl,?_⟩;rintro w' ⟨s0,s1⟩;go_simp;with_reducible rfl);(focus simp only [List.getElem_toArray,List.getElem_cons_succ,List.getElem_cons_zero,Act.put,List.setIfInBounds_toArray,List.set_cons_zero,List.set_cons_succ,i64_w,i32_w];rfl))
 first
 |(refine px_ (i:=1) (N:=some 19) (v:=?_) (a':=?_) #[true,true,false,false,false,false,false,false,false,false] rfl rfl (by kernel_rfl) (fun _ _ _ h=>h) ?_ ?_ ?_;rotate_left 2;(focus refine Or.inl ⟨by rfl,?_⟩;intro w';go_simp;with_reducible rfl);(focus simp only [List.getElem_toArray,List.getElem_cons_succ,List.getElem_cons_zero,Act.put,List.setIfInBounds_toArray,List.set_cons_zero,List.set_cons_succ,i64_w,i32_w];rfl))
 |(refine tx_ (i:=1) (N:=some 19) (v:=?_) (a':=?_) #[true,true,false,false,false,false,false,false,false,false] rfl rfl (by kernel_rfl) (fun _ _ _ h=>h) ?_ hHeld ?_ ?_;rotate_left 2;(focus refine Or.inl ⟨by rfl,?_⟩;rintro w' ⟨s0,s1⟩;go_simp;with_reducible rfl);(focus simp only [List.getElem_toArray,List.getElem_cons_succ,List.getElem_cons_zero,Act.put,List.setIfInBounds_toArray,List.set_cons_zero,List.set_cons_succ,i64_w,i32_w];rfl))
 first
 |(refine px_ (i:=2) (N:=some 20) (v:=?_) (a':=?_) #[true,true,true,false,false,false,false,false,false,false] rfl rfl (by kernel_rfl) (fun _ _ _ h=>h) ?_ ?_ ?_;rotate_left 2;(focus refine Or.inl ⟨by rfl,?_⟩;intro w';go_simp;with_reducible rfl);(focus simp only [List.getElem_toArray,List.getElem_cons_succ,List.getElem_cons_zero,Act.put,List.setIfInBounds_toArray,List.set_cons_zero,List.set_cons_succ,i64_w,i32_w];rfl))
 |(refine tx_ (i:=2) (N:=some 20) (v:=?_) (a':=?_) #[true,true,true,false,false,false,false,false,false,false] rfl rfl (by kernel_rfl) (fun _ _ _ h=>h) ?_ hHeld ?_ ?_;rotate_left 2;(focus refine Or.inl ⟨by rfl,?_⟩;rintro w' ⟨s0,s1⟩;go_simp;with_reducible rfl);(focus simp only [List.getElem_toArray,List.getElem_cons_succ,List.getElem_cons_zero,Act.put,List.setIfInBounds_toArray,List.set_cons_zero,List.set_cons_succ,i64_w,i32_w];rfl))
 first
 |(refine px_ (i:=3) (N:=some 21) (v:=?_) (a':=?_) #[true,true,true,true,false,false,false,false,false,false] rfl rfl (by kernel_rfl) (fun _ _ _ h=>h) ?_ ?_ ?_;rotate_left 2;(focus refine Or.inl ⟨by rfl,?_⟩;intro w';go_simp;with_reducible rfl);(focus simp only [List.getElem_toArray,List.getElem_cons_succ,List.getElem_cons_zero,Act.put,List.setIfInBounds_toArray,List.set_cons_zero,List.set_cons_succ,i64_w,i32_w];rfl))
 |(refine tx_ (i:=3) (N:=some 21) (v:=?_) (a':=?_) #[true,true,true,true,false,false,false,false,false,false] rfl rfl (by kernel_rfl) (fun _ _ _ h=>h) ?_ hHeld ?_ ?_;rotate_left 2;(focus refine Or.inl ⟨by rfl,?_⟩;rintro w' ⟨s0,s1⟩;go_simp;with_reducible rfl);(focus simp only [List.getElem_toArray,List.getElem_cons_succ,List.getElem_cons_zero,Act.put,List.setIfInBounds_toArray,List.set_cons_zero,List.set_cons_succ,i64_w,i32_w];rfl))
 first
 |(refine px_ (i:=4) (N:=some 22) (v:=?_) (a':=?_) #[true,true,true,true,true,false,false,false,false,false] rfl rfl (by kernel_rfl) (fun _ _ _ h=>h) ?_ ?_ ?_;rotate_left 2;(focus refine Or.inl ⟨by rfl,?_⟩;intro w';go_simp;with_reducible rfl);(focus simp only [List.getElem_toArray,List.getElem_cons_succ,List.getElem_cons_zero,Act.put,List.setIfInBounds_toArray,List.set_cons_zero,List.set_cons_succ,i64_w,i32_w];rfl))
 |(refine tx_ (i:=4) (N:=some 22) (v:=?_) (a':=?_) #[true,true,true,true,true,false,false,false,false,false] rfl rfl (by kernel_rfl) (fun _ _ _ h=>h) ?_ hHeld ?_ ?_;rotate_left 2;(focus refine Or.inl ⟨by rfl,?_⟩;rintro w' ⟨s0,s1⟩;go_simp;with_reducible rfl);(focus simp only [List.getElem_toArray,List.getElem_cons_succ,List.getElem_cons_zero,Act.put,List.setIfInBounds_toArray,List.set_cons_zero,List.set_cons_succ,i64_w,i32_w];rfl))
 first
 |(refine px_ (i:=5) (N:=some 23) (v:=?_) (a':=?_) #[true,true,true,true,true,true,false,false,false,false] rfl rfl (by kernel_rfl) (fun _ _ _ h=>h) ?_ ?_ ?_;rotate_left 2;(focus refine Or.inl ⟨by rfl,?_⟩;intro w';go_simp;with_reducible rfl);(focus simp only [List.getElem_toArray,List.getElem_cons_succ,List.getElem_cons_zero,Act.put,List.setIfInBounds_toArray,List.set_cons_zero,List.set_cons_succ,i64_w,i32_w];rfl))
 |(refine tx_ (i:=5) (N:=some 23) (v:=?_) (a':=?_) #[true,true,true,true,true,true,false,false,false,false] rfl rfl (by kernel_rfl) (fun _ _ _ h=>h) ?_ hHeld ?_ ?_;rotate_left 2;(focus refine Or.inl ⟨by rfl,?_⟩;rintro w' ⟨s0,s1⟩;go_simp;with_reducible rfl);(focus simp only [List.getElem_toArray,List.getElem_cons_succ,List.getElem_cons_zero,Act.put,List.setIfInBounds_toArray,List.set_cons_zero,List.set_cons_succ,i64_w,i32_w];rfl))
 first
 |(refine px_ (i:=6) (N:=some 24) (v:=?_) (a':=?_) #[true,true,true,true,true,true,true,false,false,false] rfl rfl (by kernel_rfl) (fun _ _ _ h=>h) ?_ ?_ ?_;rotate_left 2;(focus refine Or.inl ⟨by rfl,?_⟩;intro w';go_simp;with_reducible rfl);(focus simp only [List.getElem_toArray,List.getElem_cons_succ,List.getElem_cons_zero,Act.put,List.setIfInBounds_toArray,List.set_cons_zero,List.set_cons_succ,i64_w,i32_w];rfl))
 |(refine tx_ (i:=6) (N:=some 24) (v:=?_) (a':=?_) #[true,true,true,true,true,true,true,false,false,false] rfl rfl (by kernel_rfl) (fun _ _ _ h=>h) ?_ hHeld ?_ ?_;rotate_left 2;(focus refine Or.inl ⟨by rfl,?_⟩;rintro w' ⟨s0,s1⟩;go_simp;with_reducible rfl);(focus simp only [List.getElem_toArray,List.getElem_cons_succ,List.getElem_cons_zero,Act.put,List.setIfInBounds_toArray,List.set_cons_zero,List.set_cons_succ,i64_w,i32_w];rfl))
 first
 |(refine px_ (i:=7) (N:=some 25) (v:=?_) (a':=?_) #[true,true,true,true,true,true,true,true,false,false] rfl rfl (by kernel_rfl) (fun _ _ _ h=>h) ?_ ?_ ?_;rotate_left 2;(focus refine Or.inl ⟨by rfl,?_⟩;intro w';go_simp;with_reducible rfl);(focus simp only [List.getElem_toArray,List.getElem_cons_succ,List.getElem_cons_zero,Act.put,List.setIfInBounds_toArray,List.set_cons_zero,List.set_cons_succ,i64_w,i32_w];rfl))
 |(refine tx_ (i:=7) (N:=some 25) (v:=?_) (a':=?_) #[true,true,true,true,true,true,true,true,false,false] rfl rfl (by kernel_rfl) (fun _ _ _ h=>h) ?_ hHeld ?_ ?_;rotate_left 2;(focus refine Or.inl ⟨by rfl,?_⟩;rintro w' ⟨s0,s1⟩;go_simp;with_reducible rfl);(focus simp only [List.getElem_toArray,List.getElem_cons_succ,List.getElem_cons_zero,Act.put,List.setIfInBounds_toArray,List.set_cons_zero,List.set_cons_succ,i64_w,i32_w];rfl))
 first
 |(refine px_ (i:=8) (N:=some 26) (v:=?_) (a':=?_) #[true,true,true,true,true,true,true,true,true,false] rfl rfl (by kernel_rfl) (fun _ _ _ h=>h) ?_ ?_ ?_;rotate_left 2;(focus refine Or.inl ⟨by rfl,?_⟩;intro w';go_simp;with_reducible rfl);(focus simp only [List.getElem_toArray,List.getElem_cons_succ,List.getElem_cons_zero,Act.put,List.setIfInBounds_toArray,List.set_cons_zero,List.set_cons_succ,i64_w,i32_w];rfl))
 |(refine tx_ (i:=8) (N:=some 26) (v:=?_) (a':=?_) #[true,true,true,true,true,true,true,true,true,false] rfl rfl (by kernel_rfl) (fun _ _ _ h=>h) ?_ hHeld ?_ ?_;rotate_left 2;(focus refine Or.inl ⟨by rfl,?_⟩;rintro w' ⟨s0,s1⟩;go_simp;with_reducible rfl);(focus simp only [List.getElem_toArray,List.getElem_cons_succ,List.getElem_cons_zero,Act.put,List.setIfInBounds_toArray,List.set_cons_zero,List.set_cons_succ,i64_w,i32_w];rfl))
 first
 |(refine px_ (i:=9) (N:=some 9) (v:=?_) (a':=?_) #[true,true,true,true,true,true,true,true,true,true] rfl rfl (by kernel_rfl) (fun _ _ _ h=>h) ?_ ?_ ?_;rotate_left 2;(focus refine Or.inl ⟨by rfl,?_⟩;intro w';go_simp;with_reducible rfl);(focus simp only [List.getElem_toArray,List.getElem_cons_succ,List.getElem_cons_zero,Act.put,List.setIfInBounds_toArray,List.set_cons_zero,List.set_cons_succ,i64_w,i32_w];rfl))
 |(refine tx_ (i:=9) (N:=some 9) (v:=?_) (a':=?_) #[true,true,true,true,true,true,true,true,true,true] rfl rfl (by kernel_rfl) (fun _ _ _ h=>h) ?_ hHeld ?_ ?_;rotate_left 2;(focus refine Or.inl ⟨by rfl,?_⟩;rintro w' ⟨s0,s1⟩;go_simp;with_reducible rfl);(focus simp only [List.getElem_toArray,List.getElem_cons_succ,List.getElem_cons_zero,Act.put,List.setIfInBounds_toArray,List.set_cons_zero,List.set_cons_succ,i64_w,i32_w];rfl))
 refine done_ (by kernel_rfl) ?_
 clear hHeld lf lm
 obtain ⟨WR,hWR⟩ : ∃ W,W = wr.drew:=⟨_,rfl⟩
 have HNB : Aside0 (N0≤WR.heap.size):=⟨by rw [hWR];exact Nat.le_trans HNS.out HB.out.size⟩
 have HBR : Aside0 (Below N0 W0 WR):=⟨by rw [hWR];exact HB.out.drew⟩
 replace HO : Aside0 (WR.ownsRow N0 3 1 u5 i ((sjt i t).map (Value.int .i64))):=⟨by rw [hWR];exact HO.out⟩
 rw [← hWR]
 clear hWR HB
 go_wp2_with (go_at_call 73;go_must (refine(insert_own (W:=WR) HO.out HNB.out HN18.out HU.out ((i : Int) + 1)).mono ?_;rintro e wx ⟨v',rfl,ho,hb⟩;have HO1:=Aside0.mk ho;have HB2:=Aside0.mk hb;clear ho hb))
 go_roundw
 case rel=>exact⟨i + 1,q,by simp [wi],HI1,HQ,⟨by rw [HS.out];exact HO1.out⟩,⟨HBR.out.trans HB2.out⟩⟩
 case measure=>(first | exact HMS.out |(rw [wi];exact HMS.out) |(simp only [wi];exact HMS.out))
     

open Go.Proofs.Ytbfhlaggllofdaa.G Go.Proofs.Ytbfhlaggllofdaa.T Go.Proofs.Ytbfhlaggllofdaa.P
def turns_Order.f (a0 a1 : Int) : Option (List Int×Int):=some (if 0≤a0∧a0≤18∧0≤a1∧a1≤fact a0.toNat - 1 then(sjt a0.toNat a1,0) else([],2))
set_option maxHeartbeats 400000 in
set_option maxRecDepth 100000 in
theorem turns_Order.calls (a0 a1 : Int) (r1 : List Int) (r2 : Int) (w : World) (h : turns_Order.f a0 a1 = some (r1, r2)) :
  Calls Try.prog 48 #[.int .i64 a0,.int .i64 a1] w fun e w'=>∃ v0_ : Value,e = .returned (.tuple #[v0_,.int .i64 r2])∧Kd.R (Kd.int .i64) 3 w' w.heap.size (fun _=>True) v0_ r1∧Below w.heap.size w w':=by
 replace h:=Option.some.inj h
 have HB:=Aside0.mk (Below.refl w.heap.size w)
 by_cases c0 : 0≤a0∧a0≤18
 rotate_left
 ·rw [if_neg (fun hh => c0 ⟨hh.1, hh.2.1⟩)] at h
  injection h with h1 h2
  subst h1;subst h2
  have hi1:=Aside0.mk (within_no c0)
  clear c0
  go_enter Try.func48,Try.ntmps48
  go_wp2_with (go_at_call 56;go_must (with_reducible refine(turns_within.calls a0 0 18 false _ hi1.out).mono ?_;rintro e w' ⟨rfl,⟨nd,rfl⟩⟩))
  go_ret2
  exact⟨_,rfl,Kd.R_nil _ _ _ _ _,by repeat(first |(with_reducible first | exact HB.out | apply bwN | apply bw1) | exact HB.out)⟩
 have hi1:=Aside0.mk (within_yes c0)
 obtain ⟨n,rfl⟩ : ∃ n : Nat,a0 = n:=⟨a0.toNat,by omega⟩
 rw [show((n : Int)).toNat = n by omega] at h
 have bf:=fact_le (n:=n) (by omega)
 have w0 : wrap64 (fact n - 1) = fact n - 1:=w64 (by omega) (by omega)
 have lx : ∀ W,Sem.run Try.prog (Instr.index 76 (.agg (facA 19)) (.int .i64 (n : Int))) W = .ok (.int .i64 (fact n)) W:=fac_index (by omega)
 by_cases c1 : 0≤a1∧a1≤fact n - 1
 rotate_left
 ·rw [if_neg (fun hh => c1 hh.2.2)] at h
  injection h with h1 h2
  subst h1;subst h2
  have hi2:=Aside0.mk (within_no c1)
  obtain ⟨F,hF⟩ : ∃ F,fact n = F:=⟨_,rfl⟩
  rw [hF] at lx w0 hi2
  clear c0 c1 bf hF
  go_enter Try.func48,Try.ntmps48
  go_wp2_with (first |(go_at_call 56;go_must (first |(with_reducible refine(turns_within.calls (n : Int) 0 18 true _ hi1.out).mono ?_;rintro e w' ⟨rfl,⟨nd,rfl⟩⟩) |(with_reducible refine(turns_within.calls a1 0 (F - 1) false _ hi2.out).mono ?_;rintro e w' ⟨rfl,⟨nd,rfl⟩⟩))) |(go_at_call 64;go_must (refine(fac_new _).mono ?_;rintro e w1 ⟨rfl,hb⟩;have HB1:=Aside0.mk (bwT (by repeat(first |(with_reducible first | exact HB.out | apply bwN) | exact HB.out)) hb);clear hb)))
  go_ret2
  exact⟨_,rfl,Kd.R_nil _ _ _ _ _,by repeat(first |(with_reducible first | exact HB1.out | apply bwN | apply bw1) | exact HB1.out)⟩
 rw [if_pos ⟨c0.1,c0.2,c1⟩] at h
 injection h with h1 h2
 subst h2
 have hi2:=Aside0.mk (within_yes c1)
 have HO:=Aside0.mk (show turns_order.f (n : Int) a1 = some r1 by unfold turns_order.f;rw [if_pos ⟨c0.1,c0.2,c1.1,by rw [show((n : Int)).toNat = n by omega];omega⟩,show((n : Int)).toNat = n by omega,h1])
 obtain ⟨F,hF⟩ : ∃ F,fact n = F:=⟨_,rfl⟩
 rw [hF] at lx w0 hi2
 clear c0 c1 bf hF h1
 go_enter Try.func48,Try.ntmps48
 go_wp2_with (first |(go_at_call 56;go_must (first |(with_reducible refine(turns_within.calls (n : Int) 0 18 true _ hi1.out).mono ?_;rintro e w' ⟨rfl,⟨nd,rfl⟩⟩) |(with_reducible refine(turns_within.calls a1 0 (F - 1) true _ hi2.out).mono ?_;rintro e w' ⟨rfl,⟨nd,rfl⟩⟩))) |(go_at_call 64;go_must (refine(fac_new _).mono ?_;rintro e w1 ⟨rfl,hb⟩;have HB1:=Aside0.mk (bwT (by repeat(first |(with_reducible first | exact HB.out | apply bwN) | exact HB.out)) hb);clear hb)) |(go_at_call 65;go_must (refine(turns_order.calls (n : Int) a1 r1 _ HO.out).mono ?_;rintro e w2 ⟨v0,rfl,ho,hb⟩;have HO1:=Aside0.mk ho;have HB2:=Aside0.mk hb;clear ho hb)))
 go_ret2
 exact⟨_,rfl,Kd.R_lower HO1.out (bwZ (by repeat(first |(with_reducible first | exact HB1.out | apply bwN | apply bw1) | exact HB1.out))),bwT (by repeat(first |(with_reducible first | exact HB1.out | apply bwN | apply bw1) | exact HB1.out)) HB2.out⟩

def w10_awake.j0 : Nat → Bool → Option (Bool)
 | 0,_=>none
 | k + 1,x77=>if x77 = true then(some false) else(some true)
def w10_awake.f (k : Nat)  : Option (Bool):=(turns_Set.f 2 2).bind fun bt128=>((turns_Choice.f 3 2 1).bind fun bt132=>((turns_Order.f 3 3).bind fun bt136=>((turns_Groupings.f 5).bind fun bt140=>((turns_Setting.f (([2,3] : List Int)) 3).bind fun bt145=>(if bt128.2 = 0 then((w10_ints.f k bt128.1 (([1,2] : List Int))).bind fun t152=>(if t152 = true then(if bt132.2 = 0 then((w10_ints.f k bt132.1 (([2,3] : List Int))).bind fun t156=>(if t156 = true then(if bt136.2 = 0 then((w10_ints.f k bt136.1 (([3,2,1] : List Int))).bind fun t160=>(if t160 = true then(if bt140.2 = 0 then(if bt140.1 = 52 then(if bt145.2 = 0 then((w10_ints.f k bt145.1 (([1,2] : List Int))).bind fun t164=>(w10_awake.j0 k (!t164))) else(w10_awake.j0 k true)) else(w10_awake.j0 k true)) else(w10_awake.j0 k true)) else(w10_awake.j0 k true))) else(w10_awake.j0 k true)) else(w10_awake.j0 k true))) else(w10_awake.j0 k true)) else(w10_awake.j0 k true))) else(w10_awake.j0 k true))))))
set_option maxHeartbeats 8000000 in
set_option maxRecDepth 100000 in
theorem w10_awake.calls (k : Nat)  (r : Bool) (w : World) (h : w10_awake.f k  = some r) :
  Calls Try.prog 20 #[] w fun e w'=>e = .returned (.bool r)∧Below w.heap.size w w':=by
 have HB:=Aside0.mk (Below.refl w.heap.size w)
 have H :((turns_Set.f 2 2).bind fun bt128=>((turns_Choice.f 3 2 1).bind fun bt132=>((turns_Order.f 3 3).bind fun bt136=>((turns_Groupings.f 5).bind fun bt140=>((turns_Setting.f (([2,3] : List Int)) 3).bind fun bt145=>(if bt128.2 = 0 then((w10_ints.f k bt128.1 (([1,2] : List Int))).bind fun t152=>(if t152 = true then(if bt132.2 = 0 then((w10_ints.f k bt132.1 (([2,3] : List Int))).bind fun t156=>(if t156 = true then(if bt136.2 = 0 then((w10_ints.f k bt136.1 (([3,2,1] : List Int))).bind fun t160=>(if t160 = true then(if bt140.2 = 0 then(if bt140.1 = 52 then(if bt145.2 = 0 then((w10_ints.f k bt145.1 (([1,2] : List Int))).bind fun t164=>(w10_awake.j0 k (!t164))) else(w10_awake.j0 k true)) else(w10_awake.j0 k true)) else(w10_awake.j0 k true)) else(w10_awake.j0 k true))) else(w10_awake.j0 k true)) else(w10_awake.j0 k true))) else(w10_awake.j0 k true)) else(w10_awake.j0 k true))) else(w10_awake.j0 k true))))))) = some r:=h
 clear h
 replace H:=Option.bind_eq_some_iff.mp H
 obtain ⟨⟨t128,t129⟩,A10,H⟩:=H
 replace H :((turns_Choice.f 3 2 1).bind fun bt132=>((turns_Order.f 3 3).bind fun bt136=>((turns_Groupings.f 5).bind fun bt140=>((turns_Setting.f (([2,3] : List Int)) 3).bind fun bt145=>(if t129 = 0 then((w10_ints.f k t128 (([1,2] : List Int))).bind fun t152=>(if t152 = true then(if bt132.2 = 0 then((w10_ints.f k bt132.1 (([2,3] : List Int))).bind fun t156=>(if t156 = true then(if bt136.2 = 0 then((w10_ints.f k bt136.1 (([3,2,1] : List Int))).bind fun t160=>(if t160 = true then(if bt140.2 = 0 then(if bt140.1 = 52 then(if bt145.2 = 0 then((w10_ints.f k bt145.1 (([1,2] : List Int))).bind fun t164=>(w10_awake.j0 k (!t164))) else(w10_awake.j0 k true)) else(w10_awake.j0 k true)) else(w10_awake.j0 k true)) else(w10_awake.j0 k true))) else(w10_awake.j0 k true)) else(w10_awake.j0 k true))) else(w10_awake.j0 k true)) else(w10_awake.j0 k true))) else(w10_awake.j0 k true)))))) = some r:=H
 have A1:=Aside0.mk A10
 clear A10
 replace H:=Option.bind_eq_some_iff.mp H
 obtain ⟨⟨t132,t133⟩,A20,H⟩:=H
 replace H :((turns_Order.f 3 3).bind fun bt136=>((turns_Groupings.f 5).bind fun bt140=>((turns_Setting.f (([2,3] : List Int)) 3).bind fun bt145=>(if t129 = 0 then((w10_ints.f k t128 (([1,2] : List Int))).bind fun t152=>(if t152 = true then(if t133 = 0 then((w10_ints.f k t132 (([2,3] : List Int))).bind fun t156=>(if t156 = true then(if bt136.2 = 0 then((w10_ints.f k bt136.1 (([3,2,1] : List Int))).bind fun t160=>(if t160 = true then(if bt140.2 = 0 then(if bt140.1 = 52 then(if bt145.2 = 0 then((w10_ints.f k bt145.1 (([1,2] : List Int))).bind fun t164=>(w10_awake.j0 k (!t164))) else(w10_awake.j0 k true)) else(w10_awake.j0 k true)) else(w10_awake.j0 k true)) else(w10_awake.j0 k true))) else(w10_awake.j0 k true)) else(w10_awake.j0 k true))) else(w10_awake.j0 k true)) else(w10_awake.j0 k true))) else(w10_awake.j0 k true))))) = some r:=H
 have A2:=Aside0.mk A20
 clear A20
 replace H:=Option.bind_eq_some_iff.mp H
 obtain ⟨⟨t136,t137⟩,A30,H⟩:=H
 replace H :((turns_Groupings.f 5).bind fun bt140=>((turns_Setting.f (([2,3] : List Int)) 3).bind fun bt145=>(if t129 = 0 then((w10_ints.f k t128 (([1,2] : List Int))).bind fun t152=>(if t152 = true then(if t133 = 0 then((w10_ints.f k t132 (([2,3] : List Int))).bind fun t156=>(if t156 = true then(if t137 = 0 then((w10_ints.f k t136 (([3,2,1] : List Int))).bind fun t160=>(if t160 = true then(if bt140.2 = 0 then(if bt140.1 = 52 then(if bt145.2 = 0 then((w10_ints.f k bt145.1 (([1,2] : List Int))).bind fun t164=>(w10_awake.j0 k (!t164))) else(w10_awake.j0 k true)) else(w10_awake.j0 k true)) else(w10_awake.j0 k true)) else(w10_awake.j0 k true))) else(w10_awake.j0 k true)) else(w10_awake.j0 k true))) else(w10_awake.j0 k true)) else(w10_awake.j0 k true))) else(w10_awake.j0 k true)))) = some r:=H
 have A3:=Aside0.mk A30
 clear A30
 replace H:=Option.bind_eq_some_iff.mp H
 obtain ⟨⟨t140,t141⟩,A40,H⟩:=H
 replace H :((turns_Setting.f (([2,3] : List Int)) 3).bind fun bt145=>(if t129 = 0 then((w10_ints.f k t128 (([1,2] : List Int))).bind fun t152=>(if t152 = true then(if t133 = 0 then((w10_ints.f k t132 (([2,3] : List Int))).bind fun t156=>(if t156 = true then(if t137 = 0 then((w10_ints.f k t136 (([3,2,1] : List Int))).bind fun t160=>(if t160 = true then(if t141 = 0 then(if t140 = 52 then(if bt145.2 = 0 then((w10_ints.f k bt145.1 (([1,2] : List Int))).bind fun t164=>(w10_awake.j0 k (!t164))) else(w10_awake.j0 k true)) else(w10_awake.j0 k true)) else(w10_awake.j0 k true)) else(w10_awake.j0 k true))) else(w10_awake.j0 k true)) else(w10_awake.j0 k true))) else(w10_awake.j0 k true)) else(w10_awake.j0 k true))) else(w10_awake.j0 k true))) = some r:=H
 have A4:=Aside0.mk A40
 clear A40
 obtain ⟨y142,hy142⟩ : ∃ y_ : List Int,y_ =(([2,3] : List Int)):=⟨_,rfl⟩
 replace H :((turns_Setting.f y142 3).bind fun bt145=>(if t129 = 0 then((w10_ints.f k t128 (([1,2] : List Int))).bind fun t152=>(if t152 = true then(if t133 = 0 then((w10_ints.f k t132 (([2,3] : List Int))).bind fun t156=>(if t156 = true then(if t137 = 0 then((w10_ints.f k t136 (([3,2,1] : List Int))).bind fun t160=>(if t160 = true then(if t141 = 0 then(if t140 = 52 then(if bt145.2 = 0 then((w10_ints.f k bt145.1 (([1,2] : List Int))).bind fun t164=>(w10_awake.j0 k (!t164))) else(w10_awake.j0 k true)) else(w10_awake.j0 k true)) else(w10_awake.j0 k true)) else(w10_awake.j0 k true))) else(w10_awake.j0 k true)) else(w10_awake.j0 k true))) else(w10_awake.j0 k true)) else(w10_awake.j0 k true))) else(w10_awake.j0 k true))) = some r:=by first |(rw [hy142];with_reducible exact H) |(have H2_:=(Option.bind_some _ _).symm.trans H;rw [hy142];with_reducible exact H2_) |(have H2_:=(Option.bind_some _ _).symm.trans H;with_reducible exact H2_) | with_reducible exact H |(rw [hy142];exact H) | exact H
 have Ny142:=Aside0.mk hy142
 clear hy142
 replace H:=Option.bind_eq_some_iff.mp H
 obtain ⟨⟨t145,t146⟩,A50,H⟩:=H
 replace H :(if t129 = 0 then((w10_ints.f k t128 (([1,2] : List Int))).bind fun t152=>(if t152 = true then(if t133 = 0 then((w10_ints.f k t132 (([2,3] : List Int))).bind fun t156=>(if t156 = true then(if t137 = 0 then((w10_ints.f k t136 (([3,2,1] : List Int))).bind fun t160=>(if t160 = true then(if t141 = 0 then(if t140 = 52 then(if t146 = 0 then((w10_ints.f k t145 (([1,2] : List Int))).bind fun t164=>(w10_awake.j0 k (!t164))) else(w10_awake.j0 k true)) else(w10_awake.j0 k true)) else(w10_awake.j0 k true)) else(w10_awake.j0 k true))) else(w10_awake.j0 k true)) else(w10_awake.j0 k true))) else(w10_awake.j0 k true)) else(w10_awake.j0 k true))) else(w10_awake.j0 k true)) = some r:=H
 have A5:=Aside0.mk A50
 clear A50
 have HC6:=Aside0.mk H
 clear H
 go_enter Try.func20,Try.ntmps20
 go_upto_region 6 with (first |((with_reducible refine gate_callee (f:=38) rfl ?_);refine goesL_ (some 12) rfl rfl Try.func38 (by kernel_rfl) rfl #[.int .i64 2,.int .i64 2] rfl (by(try simp only [List.map_toArray,List.map_cons,List.map_nil]);first | done | rfl |(simp only [List.length_drop,List.length_take];rfl)) ?_;(with_reducible refine(turns_Set.calls 2 2 t128 t129 _ A1.out).mono ?_);rintro e w7 ⟨v130,rfl,ho0,hb⟩;refine⟨_,rfl,?_⟩;have n0_:=Aside0.mk (Kd.R_lower ho0 (bwZ (by repeat(first |(with_reducible first | exact HB.out | apply bwA | apply bwN | apply bw1) | exact HB.out))));have n1_:=Aside0.mk (bwT (by repeat(first |(with_reducible first | exact HB.out | apply bwA | apply bwN | apply bw1) | exact HB.out)) hb);clear HB;have HO131:=n0_;have HB:=n1_;clear n0_ n1_;(try clear hb);(try clear hb2);(try clear hk);(try clear hi);(try clear ho0)) |((with_reducible refine gate_callee (f:=31) rfl ?_);refine goesL_ (some 16) rfl rfl Try.func31 (by kernel_rfl) rfl #[.int .i64 3,.int .i64 2,.int .i64 1] rfl (by(try simp only [List.map_toArray,List.map_cons,List.map_nil]);first | done | rfl |(simp only [List.length_drop,List.length_take];rfl)) ?_;(with_reducible refine(turns_Choice.calls 3 2 1 t132 t133 _ A2.out).mono ?_);rintro e w8 ⟨v134,rfl,ho0,hb⟩;refine⟨_,rfl,?_⟩;have n0_:=Aside0.mk (Kd.R_elder' (by(with_reducible repeat(first | apply Kd.R_alloc | apply Kd.R_drewN | apply Kd.R_drew));exact HO131.out) (Kd.R_base ho0) hb);have n1_:=Aside0.mk (Kd.R_lower (Kd.R_new' ho0 (Kd.R_lt (by(with_reducible repeat(first | apply Kd.R_alloc | apply Kd.R_drewN | apply Kd.R_drew));exact HO131.out))) (bwZ (by repeat(first |(with_reducible first | exact HB.out | apply bwA | apply bwN | apply bw1) | exact HB.out))));have n2_:=Aside0.mk (bwT (by repeat(first |(with_reducible first | exact HB.out | apply bwA | apply bwN | apply bw1) | exact HB.out)) hb);clear HO131;clear HB;have HO131:=n0_;have HO135:=n1_;have HB:=n2_;clear n0_ n1_ n2_;(try clear hb);(try clear hb2);(try clear hk);(try clear hi);(try clear ho0)) |((with_reducible refine gate_callee (f:=48) rfl ?_);refine goesL_ (some 20) rfl rfl Try.func48 (by kernel_rfl) rfl #[.int .i64 3,.int .i64 3] rfl (by(try simp only [List.map_toArray,List.map_cons,List.map_nil]);first | done | rfl |(simp only [List.length_drop,List.length_take];rfl)) ?_;(with_reducible refine(turns_Order.calls 3 3 t136 t137 _ A3.out).mono ?_);rintro e w9 ⟨v138,rfl,ho0,hb⟩;refine⟨_,rfl,?_⟩;have n0_:=Aside0.mk (Kd.R_elder' (by(with_reducible repeat(first | apply Kd.R_alloc | apply Kd.R_drewN | apply Kd.R_drew));exact HO131.out) (Kd.R_base ho0) hb);have n1_:=Aside0.mk (Kd.R_elder' (by(with_reducible repeat(first | apply Kd.R_alloc | apply Kd.R_drewN | apply Kd.R_drew));exact HO135.out) (Kd.R_base ho0) hb);have n2_:=Aside0.mk (Kd.R_lower (Kd.R_new' (Kd.R_new' ho0 (Kd.R_lt (by(with_reducible repeat(first | apply Kd.R_alloc | apply Kd.R_drewN | apply Kd.R_drew));exact HO131.out))) (Kd.R_lt (by(with_reducible repeat(first | apply Kd.R_alloc | apply Kd.R_drewN | apply Kd.R_drew));exact HO135.out))) (bwZ (by repeat(first |(with_reducible first | exact HB.out | apply bwA | apply bwN | apply bw1) | exact HB.out))));have n3_:=Aside0.mk (bwT (by repeat(first |(with_reducible first | exact HB.out | apply bwA | apply bwN | apply bw1) | exact HB.out)) hb);clear HO131;clear HO135;clear HB;have HO131:=n0_;have HO135:=n1_;have HO139:=n2_;have HB:=n3_;clear n0_ n1_ n2_ n3_;(try clear hb);(try clear hb2);(try clear hk);(try clear hi);(try clear ho0)) |((with_reducible refine gate_callee (f:=28) rfl ?_);refine goesL_ (some 24) rfl rfl Try.func28 (by kernel_rfl) rfl #[.int .i64 5] rfl (by(try simp only [List.map_toArray,List.map_cons,List.map_nil]);first | done | rfl |(simp only [List.length_drop,List.length_take];rfl)) ?_;(with_reducible refine(turns_Groupings.calls 5 t140 t141 _ A4.out).mono ?_);rintro e w10 ⟨rfl,hb⟩;refine⟨_,rfl,?_⟩;have n0_:=Aside0.mk (Kd.R_below (by(with_reducible repeat(first | apply Kd.R_alloc | apply Kd.R_drewN | apply Kd.R_drew));exact HO131.out) hb);have n1_:=Aside0.mk (Kd.R_below (by(with_reducible repeat(first | apply Kd.R_alloc | apply Kd.R_drewN | apply Kd.R_drew));exact HO135.out) hb);have n2_:=Aside0.mk (Kd.R_below (by(with_reducible repeat(first | apply Kd.R_alloc | apply Kd.R_drewN | apply Kd.R_drew));exact HO139.out) hb);have n3_:=Aside0.mk (bwT (by repeat(first |(with_reducible first | exact HB.out | apply bwA | apply bwN | apply bw1) | exact HB.out)) hb);clear HO131;clear HO135;clear HO139;clear HB;have HO131:=n0_;have HO135:=n1_;have HO139:=n2_;have HB:=n3_;clear n0_ n1_ n2_ n3_;(try clear hb);(try clear hb2);(try clear hk);(try clear hi)) |((with_reducible refine gate_dst (N:=28) rfl ?_);(try(refine gate_guard (by rfl) ?_;dsimp only));refine Kd.R_lit (Kd.int .i64) _ 3 ?hg (N:=28) ?hd (xs:=([2,3] : List Int)) (inner:=[.int .i64 2,.int .i64 3]) (ok:=fun _=>True) (okp:=fun _=>True) ?hr ?hp (fun _ hk=>hk) trivial (Below.refl _ _) (Nat.le_refl _) (by simp) ?_;(case hd=>rfl);(case hg=>rfl);(case hr=>first |(go_simp;done) |(go_simp;rfl));(case hp=>exact(Reps.one (show Kd.M (Kd.int .i64) _ _ _ 2 [.int .i64 2] from rfl) (Reps.one (show Kd.M (Kd.int .i64) _ _ _ 3 [.int .i64 3] from rfl) (Reps.none _ _))));intro v143 w11 ho12 hb hg_ hnew_;clear hg_ hnew_;(first | rw [← Ny142.out] at ho12 |(simp only [Int.reduceToNat] at ho12;rw [← Ny142.out] at ho12));have n0_:=Aside0.mk (Kd.R_elder' (by(with_reducible repeat(first | apply Kd.R_alloc | apply Kd.R_drewN | apply Kd.R_drew));exact HO131.out) (Kd.R_base ho12) hb);have n1_:=Aside0.mk (Kd.R_elder' (by(with_reducible repeat(first | apply Kd.R_alloc | apply Kd.R_drewN | apply Kd.R_drew));exact HO135.out) (Kd.R_base ho12) hb);have n2_:=Aside0.mk (Kd.R_elder' (by(with_reducible repeat(first | apply Kd.R_alloc | apply Kd.R_drewN | apply Kd.R_drew));exact HO139.out) (Kd.R_base ho12) hb);have n3_:=Aside0.mk (Kd.R_lower (Kd.R_new' (Kd.R_new' (Kd.R_new' ho12 (Kd.R_lt (by(with_reducible repeat(first | apply Kd.R_alloc | apply Kd.R_drewN | apply Kd.R_drew));exact HO131.out))) (Kd.R_lt (by(with_reducible repeat(first | apply Kd.R_alloc | apply Kd.R_drewN | apply Kd.R_drew));exact HO135.out))) (Kd.R_lt (by(with_reducible repeat(first | apply Kd.R_alloc | apply Kd.R_drewN | apply Kd.R_drew));exact HO139.out))) (bwZ (by repeat(first |(with_reducible first | exact HB.out | apply bwA | apply bwN | apply bw1) | exact HB.out))));have n4_:=Aside0.mk (bwT (by repeat(first |(with_reducible first | exact HB.out | apply bwA | apply bwN | apply bw1) | exact HB.out)) hb);clear HO131;clear HO135;clear HO139;clear HB;have HO131:=n0_;have HO135:=n1_;have HO139:=n2_;have HO144:=n3_;have HB:=n4_;clear n0_ n1_ n2_ n3_ n4_;clear hb ho12;obtain ⟨Ao13,co13,eo13⟩:=Kd.R_slice HO144.out;subst eo13) |((with_reducible refine gate_callee (f:=17) rfl ?_);refine goesL_ (some 29) rfl rfl Try.func17 (by kernel_rfl) rfl #[.slice Ao13 y142.length co13,.int .i64 3] rfl (by(try simp only [List.map_toArray,List.map_cons,List.map_nil]);first | done | rfl |(simp only [List.length_drop,List.length_take];rfl)) ?_;(with_reducible refine(turns_Setting.calls _ _ y142 3 t145 t146 _ ?side1 ?side2 A5.out).mono ?_);(case side1=>repeat(first | exact(Kd.R_reads' HO144.out).2.2 |(with_reducible refine Kd.C_alloc ?_ _) |(with_reducible refine Kd.C_drewN ?_ _) |(with_reducible refine Kd.C_drew ?_)));(case side2=>exact(Kd.R_reads' HO144.out).2.1);rintro e w14 ⟨v147,rfl,ho0,hb⟩;refine⟨_,rfl,?_⟩;have n0_:=Aside0.mk (Kd.R_elder' (by(with_reducible repeat(first | apply Kd.R_alloc | apply Kd.R_drewN | apply Kd.R_drew));exact HO131.out) (Kd.R_base ho0) hb);have n1_:=Aside0.mk (Kd.R_elder' (by(with_reducible repeat(first | apply Kd.R_alloc | apply Kd.R_drewN | apply Kd.R_drew));exact HO135.out) (Kd.R_base ho0) hb);have n2_:=Aside0.mk (Kd.R_elder' (by(with_reducible repeat(first | apply Kd.R_alloc | apply Kd.R_drewN | apply Kd.R_drew));exact HO139.out) (Kd.R_base ho0) hb);have n3_:=Aside0.mk (Kd.R_elder' (by(with_reducible repeat(first | apply Kd.R_alloc | apply Kd.R_drewN | apply Kd.R_drew));exact HO144.out) (Kd.R_base ho0) hb);have n4_:=Aside0.mk (Kd.R_lower (Kd.R_new' (Kd.R_new' (Kd.R_new' (Kd.R_new' ho0 (Kd.R_lt (by(with_reducible repeat(first | apply Kd.R_alloc | apply Kd.R_drewN | apply Kd.R_drew));exact HO131.out))) (Kd.R_lt (by(with_reducible repeat(first | apply Kd.R_alloc | apply Kd.R_drewN | apply Kd.R_drew));exact HO135.out))) (Kd.R_lt (by(with_reducible repeat(first | apply Kd.R_alloc | apply Kd.R_drewN | apply Kd.R_drew));exact HO139.out))) (Kd.R_lt (by(with_reducible repeat(first | apply Kd.R_alloc | apply Kd.R_drewN | apply Kd.R_drew));exact HO144.out))) (bwZ (by repeat(first |(with_reducible first | exact HB.out | apply bwA | apply bwN | apply bw1) | exact HB.out))));have n5_:=Aside0.mk (bwT (by repeat(first |(with_reducible first | exact HB.out | apply bwA | apply bwN | apply bw1) | exact HB.out)) hb);clear HO131;clear HO135;clear HO139;clear HO144;clear HB;have HO131:=n0_;have HO135:=n1_;have HO139:=n2_;have HO144:=n3_;have HO148:=n4_;have HB:=n5_;clear n0_ n1_ n2_ n3_ n4_ n5_;(try clear hb);(try clear hb2);(try clear hk);(try clear hi);(try clear ho0)))
 (try simp only [Act.put,List.setIfInBounds_toArray,List.set_cons_zero,List.set_cons_succ])
 go_cut [77] (fun v77 wc=>∃ (kq : Nat) (x77_5 : Bool),v77 = .bool x77_5∧Aside0 (w10_awake.j0 kq x77_5 = some r)∧Aside0 (kq≤k)∧Aside0 (Below w.heap.size w wc))
 case first =>
  have H:=HC6.out
  clear HC6
  by_cases c15 : t129 = 0
  rotate_left
  ·rw [if_neg c15] at H
   have c15b0 :(t129 == 0) = false:=beq_eq_false_iff_ne.mpr c15
   have c15b1 :(t129 != 0) = true:=bne_iff_ne.mpr c15
   (first | rw [c15b0] |(simp only [i64_w,i32_w];rw [c15b0]) | skip)
   have H':=Aside0.mk H
   clear H
   go_wp2
   go_meet
   exact⟨_,(true),(by first | rfl |(simp;done) |(simp [*];done)),H',⟨by first | omega | exact Nat.le_refl _⟩,⟨by repeat(first |(with_reducible first | exact HB.out | apply bwA | apply bwN | apply bw1) | exact HB.out)⟩⟩
  rw [if_pos c15] at H
  have c15b0 :(t129 == 0) = true:=beq_iff_eq.mpr c15
  have c15b1 :(t129 != 0) = false:=bne_eq_false_iff_eq.mpr c15
  clear c15
  (first | rw [c15b0] |(simp only [i64_w,i32_w];rw [c15b0]) | skip)
  obtain ⟨y149,hy149⟩ : ∃ y_ : List Int,y_ =(([1,2] : List Int)):=⟨_,rfl⟩
  replace H :((w10_ints.f k t128 y149).bind fun t152=>(if t152 = true then(if t133 = 0 then((w10_ints.f k t132 (([2,3] : List Int))).bind fun t156=>(if t156 = true then(if t137 = 0 then((w10_ints.f k t136 (([3,2,1] : List Int))).bind fun t160=>(if t160 = true then(if t141 = 0 then(if t140 = 52 then(if t146 = 0 then((w10_ints.f k t145 (([1,2] : List Int))).bind fun t164=>(w10_awake.j0 k (!t164))) else(w10_awake.j0 k true)) else(w10_awake.j0 k true)) else(w10_awake.j0 k true)) else(w10_awake.j0 k true))) else(w10_awake.j0 k true)) else(w10_awake.j0 k true))) else(w10_awake.j0 k true)) else(w10_awake.j0 k true))) = some r:=by first |(rw [hy149];with_reducible exact H) |(have H2_:=(Option.bind_some _ _).symm.trans H;rw [hy149];with_reducible exact H2_) |(have H2_:=(Option.bind_some _ _).symm.trans H;with_reducible exact H2_) | with_reducible exact H |(rw [hy149];exact H) | exact H
  have Ny149:=Aside0.mk hy149
  clear hy149
  replace H:=Option.bind_eq_some_iff.mp H
  obtain ⟨t152,A160,H⟩:=H
  replace H :(if t152 = true then(if t133 = 0 then((w10_ints.f k t132 (([2,3] : List Int))).bind fun t156=>(if t156 = true then(if t137 = 0 then((w10_ints.f k t136 (([3,2,1] : List Int))).bind fun t160=>(if t160 = true then(if t141 = 0 then(if t140 = 52 then(if t146 = 0 then((w10_ints.f k t145 (([1,2] : List Int))).bind fun t164=>(w10_awake.j0 k (!t164))) else(w10_awake.j0 k true)) else(w10_awake.j0 k true)) else(w10_awake.j0 k true)) else(w10_awake.j0 k true))) else(w10_awake.j0 k true)) else(w10_awake.j0 k true))) else(w10_awake.j0 k true)) else(w10_awake.j0 k true)) = some r:=H
  have A16:=Aside0.mk A160
  clear A160
  by_cases c17 : t152 = true
  rotate_left
  ·replace c17 := Bool.eq_false_iff.mpr c17
   subst c17
   have H1 :(w10_awake.j0 k true) = some r:=by rw [if_neg (show ¬ (false = true) by decide)] at H;exact H
   clear H
   have H:=H1
   clear H1
   have H':=Aside0.mk H
   clear H
   go_wp2_with (first |((with_reducible refine gate_dst (N:=36) rfl ?_);(try(refine gate_guard (by rfl) ?_;dsimp only));refine Kd.R_lit (Kd.int .i64) _ 3 ?hg (N:=36) ?hd (xs:=([1,2] : List Int)) (inner:=[.int .i64 1,.int .i64 2]) (ok:=fun _=>True) (okp:=fun _=>True) ?hr ?hp (fun _ hk=>hk) trivial (Below.refl _ _) (Nat.le_refl _) (by simp) ?_;(case hd=>rfl);(case hg=>rfl);(case hr=>first |(go_simp;done) |(go_simp;rfl));(case hp=>exact(Reps.one (show Kd.M (Kd.int .i64) _ _ _ 1 [.int .i64 1] from rfl) (Reps.one (show Kd.M (Kd.int .i64) _ _ _ 2 [.int .i64 2] from rfl) (Reps.none _ _))));intro v150 w112 ho113 hb hg_ hnew_;clear hg_ hnew_;(first | rw [← Ny149.out] at ho113 |(simp only [Int.reduceToNat] at ho113;rw [← Ny149.out] at ho113));have n0_:=Aside0.mk (Kd.R_elder' (by(with_reducible repeat(first | apply Kd.R_alloc | apply Kd.R_drewN | apply Kd.R_drew));exact HO131.out) (Kd.R_base ho113) hb);have n1_:=Aside0.mk (Kd.R_elder' (by(with_reducible repeat(first | apply Kd.R_alloc | apply Kd.R_drewN | apply Kd.R_drew));exact HO135.out) (Kd.R_base ho113) hb);have n2_:=Aside0.mk (Kd.R_elder' (by(with_reducible repeat(first | apply Kd.R_alloc | apply Kd.R_drewN | apply Kd.R_drew));exact HO139.out) (Kd.R_base ho113) hb);have n3_:=Aside0.mk (Kd.R_elder' (by(with_reducible repeat(first | apply Kd.R_alloc | apply Kd.R_drewN | apply Kd.R_drew));exact HO144.out) (Kd.R_base ho113) hb);have n4_:=Aside0.mk (Kd.R_elder' (by(with_reducible repeat(first | apply Kd.R_alloc | apply Kd.R_drewN | apply Kd.R_drew));exact HO148.out) (Kd.R_base ho113) hb);have n5_:=Aside0.mk (Kd.R_lower (Kd.R_new' (Kd.R_new' (Kd.R_new' (Kd.R_new' (Kd.R_new' ho113 (Kd.R_lt (by(with_reducible repeat(first | apply Kd.R_alloc | apply Kd.R_drewN | apply Kd.R_drew));exact HO131.out))) (Kd.R_lt (by(with_reducible repeat(first | apply Kd.R_alloc | apply Kd.R_drewN | apply Kd.R_drew));exact HO135.out))) (Kd.R_lt (by(with_reducible repeat(first | apply Kd.R_alloc | apply Kd.R_drewN | apply Kd.R_drew));exact HO139.out))) (Kd.R_lt (by(with_reducible repeat(first | apply Kd.R_alloc | apply Kd.R_drewN | apply Kd.R_drew));exact HO144.out))) (Kd.R_lt (by(with_reducible repeat(first | apply Kd.R_alloc | apply Kd.R_drewN | apply Kd.R_drew));exact HO148.out))) (bwZ (by repeat(first |(with_reducible first | exact HB.out | apply bwA | apply bwN | apply bw1) | exact HB.out))));have n6_:=Aside0.mk (bwT (by repeat(first |(with_reducible first | exact HB.out | apply bwA | apply bwN | apply bw1) | exact HB.out)) hb);clear HO131;clear HO135;clear HO139;clear HO144;clear HO148;clear HB;have HO131:=n0_;have HO135:=n1_;have HO139:=n2_;have HO144:=n3_;have HO148:=n4_;have HO151:=n5_;have HB:=n6_;clear n0_ n1_ n2_ n3_ n4_ n5_ n6_;clear hb ho113;obtain ⟨Ao114,co114,eo114⟩:=Kd.R_slice HO131.out;subst eo114;obtain ⟨Ao115,co115,eo115⟩:=Kd.R_slice HO151.out;subst eo115) |(go_at_call 22;(with_reducible refine(w10_ints.calls k _ _ t128 _ _ y149 false _ ?side1 ?side2 ?side3 ?side4 A16.out).mono ?_);(case side1=>repeat(first | exact(Kd.R_reads' HO131.out).2.2 |(with_reducible refine Kd.C_alloc ?_ _) |(with_reducible refine Kd.C_drewN ?_ _) |(with_reducible refine Kd.C_drew ?_)));(case side2=>exact(Kd.R_reads' HO131.out).2.1);(case side3=>repeat(first | exact(Kd.R_reads' HO151.out).2.2 |(with_reducible refine Kd.C_alloc ?_ _) |(with_reducible refine Kd.C_drewN ?_ _) |(with_reducible refine Kd.C_drew ?_)));(case side4=>exact(Kd.R_reads' HO151.out).2.1);rintro e w' ⟨rfl,⟨nd,rfl⟩⟩))
   go_meet
   exact⟨_,(true),(by first | rfl |(simp;done) |(simp [*];done)),H',⟨by first | omega | exact Nat.le_refl _⟩,⟨by repeat(first |(with_reducible first | exact HB.out | apply bwA | apply bwN | apply bw1) | exact HB.out)⟩⟩
  subst c17
  have H1 :(if t133 = 0 then((w10_ints.f k t132 (([2,3] : List Int))).bind fun t156=>(if t156 = true then(if t137 = 0 then((w10_ints.f k t136 (([3,2,1] : List Int))).bind fun t160=>(if t160 = true then(if t141 = 0 then(if t140 = 52 then(if t146 = 0 then((w10_ints.f k t145 (([1,2] : List Int))).bind fun t164=>(w10_awake.j0 k (!t164))) else(w10_awake.j0 k true)) else(w10_awake.j0 k true)) else(w10_awake.j0 k true)) else(w10_awake.j0 k true))) else(w10_awake.j0 k true)) else(w10_awake.j0 k true))) else(w10_awake.j0 k true)) = some r:=by rw [if_pos rfl] at H;exact H
  clear H
  have H:=H1
  clear H1
  by_cases c18 : t133 = 0
  rotate_left
  ·rw [if_neg c18] at H
   have c18b0 :(t133 == 0) = false:=beq_eq_false_iff_ne.mpr c18
   have c18b1 :(t133 != 0) = true:=bne_iff_ne.mpr c18
   have H':=Aside0.mk H
   clear H
   go_wp2_with (first |((with_reducible refine gate_dst (N:=36) rfl ?_);(try(refine gate_guard (by rfl) ?_;dsimp only));refine Kd.R_lit (Kd.int .i64) _ 3 ?hg (N:=36) ?hd (xs:=([1,2] : List Int)) (inner:=[.int .i64 1,.int .i64 2]) (ok:=fun _=>True) (okp:=fun _=>True) ?hr ?hp (fun _ hk=>hk) trivial (Below.refl _ _) (Nat.le_refl _) (by simp) ?_;(case hd=>rfl);(case hg=>rfl);(case hr=>first |(go_simp;done) |(go_simp;rfl));(case hp=>exact(Reps.one (show Kd.M (Kd.int .i64) _ _ _ 1 [.int .i64 1] from rfl) (Reps.one (show Kd.M (Kd.int .i64) _ _ _ 2 [.int .i64 2] from rfl) (Reps.none _ _))));intro v150 w108 ho109 hb hg_ hnew_;clear hg_ hnew_;(first | rw [← Ny149.out] at ho109 |(simp only [Int.reduceToNat] at ho109;rw [← Ny149.out] at ho109));have n0_:=Aside0.mk (Kd.R_elder' (by(with_reducible repeat(first | apply Kd.R_alloc | apply Kd.R_drewN | apply Kd.R_drew));exact HO131.out) (Kd.R_base ho109) hb);have n1_:=Aside0.mk (Kd.R_elder' (by(with_reducible repeat(first | apply Kd.R_alloc | apply Kd.R_drewN | apply Kd.R_drew));exact HO135.out) (Kd.R_base ho109) hb);have n2_:=Aside0.mk (Kd.R_elder' (by(with_reducible repeat(first | apply Kd.R_alloc | apply Kd.R_drewN | apply Kd.R_drew));exact HO139.out) (Kd.R_base ho109) hb);have n3_:=Aside0.mk (Kd.R_elder' (by(with_reducible repeat(first | apply Kd.R_alloc | apply Kd.R_drewN | apply Kd.R_drew));exact HO144.out) (Kd.R_base ho109) hb);have n4_:=Aside0.mk (Kd.R_elder' (by(with_reducible repeat(first | apply Kd.R_alloc | apply Kd.R_drewN | apply Kd.R_drew));exact HO148.out) (Kd.R_base ho109) hb);have n5_:=Aside0.mk (Kd.R_lower (Kd.R_new' (Kd.R_new' (Kd.R_new' (Kd.R_new' (Kd.R_new' ho109 (Kd.R_lt (by(with_reducible repeat(first | apply Kd.R_alloc | apply Kd.R_drewN | apply Kd.R_drew));exact HO131.out))) (Kd.R_lt (by(with_reducible repeat(first | apply Kd.R_alloc | apply Kd.R_drewN | apply Kd.R_drew));exact HO135.out))) (Kd.R_lt (by(with_reducible repeat(first | apply Kd.R_alloc | apply Kd.R_drewN | apply Kd.R_drew));exact HO139.out))) (Kd.R_lt (by(with_reducible repeat(first | apply Kd.R_alloc | apply Kd.R_drewN | apply Kd.R_drew));exact HO144.out))) (Kd.R_lt (by(with_reducible repeat(first | apply Kd.R_alloc | apply Kd.R_drewN | apply Kd.R_drew));exact HO148.out))) (bwZ (by repeat(first |(with_reducible first | exact HB.out | apply bwA | apply bwN | apply bw1) | exact HB.out))));have n6_:=Aside0.mk (bwT (by repeat(first |(with_reducible first | exact HB.out | apply bwA | apply bwN | apply bw1) | exact HB.out)) hb);clear HO131;clear HO135;clear HO139;clear HO144;clear HO148;clear HB;have HO131:=n0_;have HO135:=n1_;have HO139:=n2_;have HO144:=n3_;have HO148:=n4_;have HO151:=n5_;have HB:=n6_;clear n0_ n1_ n2_ n3_ n4_ n5_ n6_;clear hb ho109;obtain ⟨Ao110,co110,eo110⟩:=Kd.R_slice HO131.out;subst eo110;obtain ⟨Ao111,co111,eo111⟩:=Kd.R_slice HO151.out;subst eo111) |(go_at_call 22;(with_reducible refine(w10_ints.calls k _ _ t128 _ _ y149 true _ ?side1 ?side2 ?side3 ?side4 A16.out).mono ?_);(case side1=>repeat(first | exact(Kd.R_reads' HO131.out).2.2 |(with_reducible refine Kd.C_alloc ?_ _) |(with_reducible refine Kd.C_drewN ?_ _) |(with_reducible refine Kd.C_drew ?_)));(case side2=>exact(Kd.R_reads' HO131.out).2.1);(case side3=>repeat(first | exact(Kd.R_reads' HO151.out).2.2 |(with_reducible refine Kd.C_alloc ?_ _) |(with_reducible refine Kd.C_drewN ?_ _) |(with_reducible refine Kd.C_drew ?_)));(case side4=>exact(Kd.R_reads' HO151.out).2.1);rintro e w' ⟨rfl,⟨nd,rfl⟩⟩))
   go_meet
   exact⟨_,(true),(by first | rfl |(simp;done) |(simp [*];done)),H',⟨by first | omega | exact Nat.le_refl _⟩,⟨by repeat(first |(with_reducible first | exact HB.out | apply bwA | apply bwN | apply bw1) | exact HB.out)⟩⟩
  rw [if_pos c18] at H
  have c18b0 :(t133 == 0) = true:=beq_iff_eq.mpr c18
  have c18b1 :(t133 != 0) = false:=bne_eq_false_iff_eq.mpr c18
  clear c18
  obtain ⟨y153,hy153⟩ : ∃ y_ : List Int,y_ =(([2,3] : List Int)):=⟨_,rfl⟩
  replace H :((w10_ints.f k t132 y153).bind fun t156=>(if t156 = true then(if t137 = 0 then((w10_ints.f k t136 (([3,2,1] : List Int))).bind fun t160=>(if t160 = true then(if t141 = 0 then(if t140 = 52 then(if t146 = 0 then((w10_ints.f k t145 (([1,2] : List Int))).bind fun t164=>(w10_awake.j0 k (!t164))) else(w10_awake.j0 k true)) else(w10_awake.j0 k true)) else(w10_awake.j0 k true)) else(w10_awake.j0 k true))) else(w10_awake.j0 k true)) else(w10_awake.j0 k true))) = some r:=by first |(rw [hy153];with_reducible exact H) |(have H2_:=(Option.bind_some _ _).symm.trans H;rw [hy153];with_reducible exact H2_) |(have H2_:=(Option.bind_some _ _).symm.trans H;with_reducible exact H2_) | with_reducible exact H |(rw [hy153];exact H) | exact H
  have Ny153:=Aside0.mk hy153
  clear hy153
  replace H:=Option.bind_eq_some_iff.mp H
  obtain ⟨t156,A190,H⟩:=H
  replace H :(if t156 = true then(if t137 = 0 then((w10_ints.f k t136 (([3,2,1] : List Int))).bind fun t160=>(if t160 = true then(if t141 = 0 then(if t140 = 52 then(if t146 = 0 then((w10_ints.f k t145 (([1,2] : List Int))).bind fun t164=>(w10_awake.j0 k (!t164))) else(w10_awake.j0 k true)) else(w10_awake.j0 k true)) else(w10_awake.j0 k true)) else(w10_awake.j0 k true))) else(w10_awake.j0 k true)) else(w10_awake.j0 k true)) = some r:=H
  have A19:=Aside0.mk A190
  clear A190
  by_cases c20 : t156 = true
  rotate_left
  ·replace c20 := Bool.eq_false_iff.mpr c20
   subst c20
   have H1 :(w10_awake.j0 k true) = some r:=by rw [if_neg (show ¬ (false = true) by decide)] at H;exact H
   clear H
   have H:=H1
   clear H1
   have H':=Aside0.mk H
   clear H
   go_wp2_with (first |((with_reducible refine gate_dst (N:=36) rfl ?_);(try(refine gate_guard (by rfl) ?_;dsimp only));refine Kd.R_lit (Kd.int .i64) _ 3 ?hg (N:=36) ?hd (xs:=([1,2] : List Int)) (inner:=[.int .i64 1,.int .i64 2]) (ok:=fun _=>True) (okp:=fun _=>True) ?hr ?hp (fun _ hk=>hk) trivial (Below.refl _ _) (Nat.le_refl _) (by simp) ?_;(case hd=>rfl);(case hg=>rfl);(case hr=>first |(go_simp;done) |(go_simp;rfl));(case hp=>exact(Reps.one (show Kd.M (Kd.int .i64) _ _ _ 1 [.int .i64 1] from rfl) (Reps.one (show Kd.M (Kd.int .i64) _ _ _ 2 [.int .i64 2] from rfl) (Reps.none _ _))));intro v150 w100 ho101 hb hg_ hnew_;clear hg_ hnew_;(first | rw [← Ny149.out] at ho101 |(simp only [Int.reduceToNat] at ho101;rw [← Ny149.out] at ho101));have n0_:=Aside0.mk (Kd.R_elder' (by(with_reducible repeat(first | apply Kd.R_alloc | apply Kd.R_drewN | apply Kd.R_drew));exact HO131.out) (Kd.R_base ho101) hb);have n1_:=Aside0.mk (Kd.R_elder' (by(with_reducible repeat(first | apply Kd.R_alloc | apply Kd.R_drewN | apply Kd.R_drew));exact HO135.out) (Kd.R_base ho101) hb);have n2_:=Aside0.mk (Kd.R_elder' (by(with_reducible repeat(first | apply Kd.R_alloc | apply Kd.R_drewN | apply Kd.R_drew));exact HO139.out) (Kd.R_base ho101) hb);have n3_:=Aside0.mk (Kd.R_elder' (by(with_reducible repeat(first | apply Kd.R_alloc | apply Kd.R_drewN | apply Kd.R_drew));exact HO144.out) (Kd.R_base ho101) hb);have n4_:=Aside0.mk (Kd.R_elder' (by(with_reducible repeat(first | apply Kd.R_alloc | apply Kd.R_drewN | apply Kd.R_drew));exact HO148.out) (Kd.R_base ho101) hb);have n5_:=Aside0.mk (Kd.R_lower (Kd.R_new' (Kd.R_new' (Kd.R_new' (Kd.R_new' (Kd.R_new' ho101 (Kd.R_lt (by(with_reducible repeat(first | apply Kd.R_alloc | apply Kd.R_drewN | apply Kd.R_drew));exact HO131.out))) (Kd.R_lt (by(with_reducible repeat(first | apply Kd.R_alloc | apply Kd.R_drewN | apply Kd.R_drew));exact HO135.out))) (Kd.R_lt (by(with_reducible repeat(first | apply Kd.R_alloc | apply Kd.R_drewN | apply Kd.R_drew));exact HO139.out))) (Kd.R_lt (by(with_reducible repeat(first | apply Kd.R_alloc | apply Kd.R_drewN | apply Kd.R_drew));exact HO144.out))) (Kd.R_lt (by(with_reducible repeat(first | apply Kd.R_alloc | apply Kd.R_drewN | apply Kd.R_drew));exact HO148.out))) (bwZ (by repeat(first |(with_reducible first | exact HB.out | apply bwA | apply bwN | apply bw1) | exact HB.out))));have n6_:=Aside0.mk (bwT (by repeat(first |(with_reducible first | exact HB.out | apply bwA | apply bwN | apply bw1) | exact HB.out)) hb);clear HO131;clear HO135;clear HO139;clear HO144;clear HO148;clear HB;have HO131:=n0_;have HO135:=n1_;have HO139:=n2_;have HO144:=n3_;have HO148:=n4_;have HO151:=n5_;have HB:=n6_;clear n0_ n1_ n2_ n3_ n4_ n5_ n6_;clear hb ho101;obtain ⟨Ao102,co102,eo102⟩:=Kd.R_slice HO131.out;subst eo102;obtain ⟨Ao103,co103,eo103⟩:=Kd.R_slice HO151.out;subst eo103) |(go_at_call 22;(with_reducible refine(w10_ints.calls k _ _ t128 _ _ y149 true _ ?side1 ?side2 ?side3 ?side4 A16.out).mono ?_);(case side1=>repeat(first | exact(Kd.R_reads' HO131.out).2.2 |(with_reducible refine Kd.C_alloc ?_ _) |(with_reducible refine Kd.C_drewN ?_ _) |(with_reducible refine Kd.C_drew ?_)));(case side2=>exact(Kd.R_reads' HO131.out).2.1);(case side3=>repeat(first | exact(Kd.R_reads' HO151.out).2.2 |(with_reducible refine Kd.C_alloc ?_ _) |(with_reducible refine Kd.C_drewN ?_ _) |(with_reducible refine Kd.C_drew ?_)));(case side4=>exact(Kd.R_reads' HO151.out).2.1);rintro e w' ⟨rfl,⟨nd,rfl⟩⟩) |((with_reducible refine gate_dst (N:=46) rfl ?_);(try(refine gate_guard (by rfl) ?_;dsimp only));refine Kd.R_lit (Kd.int .i64) _ 3 ?hg (N:=46) ?hd (xs:=([2,3] : List Int)) (inner:=[.int .i64 2,.int .i64 3]) (ok:=fun _=>True) (okp:=fun _=>True) ?hr ?hp (fun _ hk=>hk) trivial (Below.refl _ _) (Nat.le_refl _) (by simp) ?_;(case hd=>rfl);(case hg=>rfl);(case hr=>first |(go_simp;done) |(go_simp;rfl));(case hp=>exact(Reps.one (show Kd.M (Kd.int .i64) _ _ _ 2 [.int .i64 2] from rfl) (Reps.one (show Kd.M (Kd.int .i64) _ _ _ 3 [.int .i64 3] from rfl) (Reps.none _ _))));intro v154 w104 ho105 hb hg_ hnew_;clear hg_ hnew_;(first | rw [← Ny153.out] at ho105 |(simp only [Int.reduceToNat] at ho105;rw [← Ny153.out] at ho105));have n0_:=Aside0.mk (Kd.R_elder' (by(with_reducible repeat(first | apply Kd.R_alloc | apply Kd.R_drewN | apply Kd.R_drew));exact HO131.out) (Kd.R_base ho105) hb);have n1_:=Aside0.mk (Kd.R_elder' (by(with_reducible repeat(first | apply Kd.R_alloc | apply Kd.R_drewN | apply Kd.R_drew));exact HO135.out) (Kd.R_base ho105) hb);have n2_:=Aside0.mk (Kd.R_elder' (by(with_reducible repeat(first | apply Kd.R_alloc | apply Kd.R_drewN | apply Kd.R_drew));exact HO139.out) (Kd.R_base ho105) hb);have n3_:=Aside0.mk (Kd.R_elder' (by(with_reducible repeat(first | apply Kd.R_alloc | apply Kd.R_drewN | apply Kd.R_drew));exact HO144.out) (Kd.R_base ho105) hb);have n4_:=Aside0.mk (Kd.R_elder' (by(with_reducible repeat(first | apply Kd.R_alloc | apply Kd.R_drewN | apply Kd.R_drew));exact HO148.out) (Kd.R_base ho105) hb);have n5_:=Aside0.mk (Kd.R_elder' (by(with_reducible repeat(first | apply Kd.R_alloc | apply Kd.R_drewN | apply Kd.R_drew));exact HO151.out) (Kd.R_base ho105) hb);have n6_:=Aside0.mk (Kd.R_lower (Kd.R_new' (Kd.R_new' (Kd.R_new' (Kd.R_new' (Kd.R_new' (Kd.R_new' ho105 (Kd.R_lt (by(with_reducible repeat(first | apply Kd.R_alloc | apply Kd.R_drewN | apply Kd.R_drew));exact HO131.out))) (Kd.R_lt (by(with_reducible repeat(first | apply Kd.R_alloc | apply Kd.R_drewN | apply Kd.R_drew));exact HO135.out))) (Kd.R_lt (by(with_reducible repeat(first | apply Kd.R_alloc | apply Kd.R_drewN | apply Kd.R_drew));exact HO139.out))) (Kd.R_lt (by(with_reducible repeat(first | apply Kd.R_alloc | apply Kd.R_drewN | apply Kd.R_drew));exact HO144.out))) (Kd.R_lt (by(with_reducible repeat(first | apply Kd.R_alloc | apply Kd.R_drewN | apply Kd.R_drew));exact HO148.out))) (Kd.R_lt (by(with_reducible repeat(first | apply Kd.R_alloc | apply Kd.R_drewN | apply Kd.R_drew));exact HO151.out))) (bwZ (by repeat(first |(with_reducible first | exact HB.out | apply bwA | apply bwN | apply bw1) | exact HB.out))));have n7_:=Aside0.mk (bwT (by repeat(first |(with_reducible first | exact HB.out | apply bwA | apply bwN | apply bw1) | exact HB.out)) hb);clear HO131;clear HO135;clear HO139;clear HO144;clear HO148;clear HO151;clear HB;have HO131:=n0_;have HO135:=n1_;have HO139:=n2_;have HO144:=n3_;have HO148:=n4_;have HO151:=n5_;have HO155:=n6_;have HB:=n7_;clear n0_ n1_ n2_ n3_ n4_ n5_ n6_ n7_;clear hb ho105;obtain ⟨Ao106,co106,eo106⟩:=Kd.R_slice HO135.out;subst eo106;obtain ⟨Ao107,co107,eo107⟩:=Kd.R_slice HO155.out;subst eo107) |(go_at_call 22;(with_reducible refine(w10_ints.calls k _ _ t132 _ _ y153 false _ ?side1 ?side2 ?side3 ?side4 A19.out).mono ?_);(case side1=>repeat(first | exact(Kd.R_reads' HO135.out).2.2 |(with_reducible refine Kd.C_alloc ?_ _) |(with_reducible refine Kd.C_drewN ?_ _) |(with_reducible refine Kd.C_drew ?_)));(case side2=>exact(Kd.R_reads' HO135.out).2.1);(case side3=>repeat(first | exact(Kd.R_reads' HO155.out).2.2 |(with_reducible refine Kd.C_alloc ?_ _) |(with_reducible refine Kd.C_drewN ?_ _) |(with_reducible refine Kd.C_drew ?_)));(case side4=>exact(Kd.R_reads' HO155.out).2.1);rintro e w' ⟨rfl,⟨nd,rfl⟩⟩))
   go_meet
   exact⟨_,(true),(by first | rfl |(simp;done) |(simp [*];done)),H',⟨by first | omega | exact Nat.le_refl _⟩,⟨by repeat(first |(with_reducible first | exact HB.out | apply bwA | apply bwN | apply bw1) | exact HB.out)⟩⟩
  subst c20
  have H1 :(if t137 = 0 then((w10_ints.f k t136 (([3,2,1] : List Int))).bind fun t160=>(if t160 = true then(if t141 = 0 then(if t140 = 52 then(if t146 = 0 then((w10_ints.f k t145 (([1,2] : List Int))).bind fun t164=>(w10_awake.j0 k (!t164))) else(w10_awake.j0 k true)) else(w10_awake.j0 k true)) else(w10_awake.j0 k true)) else(w10_awake.j0 k true))) else(w10_awake.j0 k true)) = some r:=by rw [if_pos rfl] at H;exact H
  clear H
  have H:=H1
  clear H1
  by_cases c21 : t137 = 0
  rotate_left
  ·rw [if_neg c21] at H
   have c21b0 :(t137 == 0) = false:=beq_eq_false_iff_ne.mpr c21
   have c21b1 :(t137 != 0) = true:=bne_iff_ne.mpr c21
   have H':=Aside0.mk H
   clear H
   go_wp2_with (first |((with_reducible refine gate_dst (N:=36) rfl ?_);(try(refine gate_guard (by rfl) ?_;dsimp only));refine Kd.R_lit (Kd.int .i64) _ 3 ?hg (N:=36) ?hd (xs:=([1,2] : List Int)) (inner:=[.int .i64 1,.int .i64 2]) (ok:=fun _=>True) (okp:=fun _=>True) ?hr ?hp (fun _ hk=>hk) trivial (Below.refl _ _) (Nat.le_refl _) (by simp) ?_;(case hd=>rfl);(case hg=>rfl);(case hr=>first |(go_simp;done) |(go_simp;rfl));(case hp=>exact(Reps.one (show Kd.M (Kd.int .i64) _ _ _ 1 [.int .i64 1] from rfl) (Reps.one (show Kd.M (Kd.int .i64) _ _ _ 2 [.int .i64 2] from rfl) (Reps.none _ _))));intro v150 w92 ho93 hb hg_ hnew_;clear hg_ hnew_;(first | rw [← Ny149.out] at ho93 |(simp only [Int.reduceToNat] at ho93;rw [← Ny149.out] at ho93));have n0_:=Aside0.mk (Kd.R_elder' (by(with_reducible repeat(first | apply Kd.R_alloc | apply Kd.R_drewN | apply Kd.R_drew));exact HO131.out) (Kd.R_base ho93) hb);have n1_:=Aside0.mk (Kd.R_elder' (by(with_reducible repeat(first | apply Kd.R_alloc | apply Kd.R_drewN | apply Kd.R_drew));exact HO135.out) (Kd.R_base ho93) hb);have n2_:=Aside0.mk (Kd.R_elder' (by(with_reducible repeat(first | apply Kd.R_alloc | apply Kd.R_drewN | apply Kd.R_drew));exact HO139.out) (Kd.R_base ho93) hb);have n3_:=Aside0.mk (Kd.R_elder' (by(with_reducible repeat(first | apply Kd.R_alloc | apply Kd.R_drewN | apply Kd.R_drew));exact HO144.out) (Kd.R_base ho93) hb);have n4_:=Aside0.mk (Kd.R_elder' (by(with_reducible repeat(first | apply Kd.R_alloc | apply Kd.R_drewN | apply Kd.R_drew));exact HO148.out) (Kd.R_base ho93) hb);have n5_:=Aside0.mk (Kd.R_lower (Kd.R_new' (Kd.R_new' (Kd.R_new' (Kd.R_new' (Kd.R_new' ho93 (Kd.R_lt (by(with_reducible repeat(first | apply Kd.R_alloc | apply Kd.R_drewN | apply Kd.R_drew));exact HO131.out))) (Kd.R_lt (by(with_reducible repeat(first | apply Kd.R_alloc | apply Kd.R_drewN | apply Kd.R_drew));exact HO135.out))) (Kd.R_lt (by(with_reducible repeat(first | apply Kd.R_alloc | apply Kd.R_drewN | apply Kd.R_drew));exact HO139.out))) (Kd.R_lt (by(with_reducible repeat(first | apply Kd.R_alloc | apply Kd.R_drewN | apply Kd.R_drew));exact HO144.out))) (Kd.R_lt (by(with_reducible repeat(first | apply Kd.R_alloc | apply Kd.R_drewN | apply Kd.R_drew));exact HO148.out))) (bwZ (by repeat(first |(with_reducible first | exact HB.out | apply bwA | apply bwN | apply bw1) | exact HB.out))));have n6_:=Aside0.mk (bwT (by repeat(first |(with_reducible first | exact HB.out | apply bwA | apply bwN | apply bw1) | exact HB.out)) hb);clear HO131;clear HO135;clear HO139;clear HO144;clear HO148;clear HB;have HO131:=n0_;have HO135:=n1_;have HO139:=n2_;have HO144:=n3_;have HO148:=n4_;have HO151:=n5_;have HB:=n6_;clear n0_ n1_ n2_ n3_ n4_ n5_ n6_;clear hb ho93;obtain ⟨Ao94,co94,eo94⟩:=Kd.R_slice HO131.out;subst eo94;obtain ⟨Ao95,co95,eo95⟩:=Kd.R_slice HO151.out;subst eo95) |(go_at_call 22;(with_reducible refine(w10_ints.calls k _ _ t128 _ _ y149 true _ ?side1 ?side2 ?side3 ?side4 A16.out).mono ?_);(case side1=>repeat(first | exact(Kd.R_reads' HO131.out).2.2 |(with_reducible refine Kd.C_alloc ?_ _) |(with_reducible refine Kd.C_drewN ?_ _) |(with_reducible refine Kd.C_drew ?_)));(case side2=>exact(Kd.R_reads' HO131.out).2.1);(case side3=>repeat(first | exact(Kd.R_reads' HO151.out).2.2 |(with_reducible refine Kd.C_alloc ?_ _) |(with_reducible refine Kd.C_drewN ?_ _) |(with_reducible refine Kd.C_drew ?_)));(case side4=>exact(Kd.R_reads' HO151.out).2.1);rintro e w' ⟨rfl,⟨nd,rfl⟩⟩) |((with_reducible refine gate_dst (N:=46) rfl ?_);(try(refine gate_guard (by rfl) ?_;dsimp only));refine Kd.R_lit (Kd.int .i64) _ 3 ?hg (N:=46) ?hd (xs:=([2,3] : List Int)) (inner:=[.int .i64 2,.int .i64 3]) (ok:=fun _=>True) (okp:=fun _=>True) ?hr ?hp (fun _ hk=>hk) trivial (Below.refl _ _) (Nat.le_refl _) (by simp) ?_;(case hd=>rfl);(case hg=>rfl);(case hr=>first |(go_simp;done) |(go_simp;rfl));(case hp=>exact(Reps.one (show Kd.M (Kd.int .i64) _ _ _ 2 [.int .i64 2] from rfl) (Reps.one (show Kd.M (Kd.int .i64) _ _ _ 3 [.int .i64 3] from rfl) (Reps.none _ _))));intro v154 w96 ho97 hb hg_ hnew_;clear hg_ hnew_;(first | rw [← Ny153.out] at ho97 |(simp only [Int.reduceToNat] at ho97;rw [← Ny153.out] at ho97));have n0_:=Aside0.mk (Kd.R_elder' (by(with_reducible repeat(first | apply Kd.R_alloc | apply Kd.R_drewN | apply Kd.R_drew));exact HO131.out) (Kd.R_base ho97) hb);have n1_:=Aside0.mk (Kd.R_elder' (by(with_reducible repeat(first | apply Kd.R_alloc | apply Kd.R_drewN | apply Kd.R_drew));exact HO135.out) (Kd.R_base ho97) hb);have n2_:=Aside0.mk (Kd.R_elder' (by(with_reducible repeat(first | apply Kd.R_alloc | apply Kd.R_drewN | apply Kd.R_drew));exact HO139.out) (Kd.R_base ho97) hb);have n3_:=Aside0.mk (Kd.R_elder' (by(with_reducible repeat(first | apply Kd.R_alloc | apply Kd.R_drewN | apply Kd.R_drew));exact HO144.out) (Kd.R_base ho97) hb);have n4_:=Aside0.mk (Kd.R_elder' (by(with_reducible repeat(first | apply Kd.R_alloc | apply Kd.R_drewN | apply Kd.R_drew));exact HO148.out) (Kd.R_base ho97) hb);have n5_:=Aside0.mk (Kd.R_elder' (by(with_reducible repeat(first | apply Kd.R_alloc | apply Kd.R_drewN | apply Kd.R_drew));exact HO151.out) (Kd.R_base ho97) hb);have n6_:=Aside0.mk (Kd.R_lower (Kd.R_new' (Kd.R_new' (Kd.R_new' (Kd.R_new' (Kd.R_new' (Kd.R_new' ho97 (Kd.R_lt (by(with_reducible repeat(first | apply Kd.R_alloc | apply Kd.R_drewN | apply Kd.R_drew));exact HO131.out))) (Kd.R_lt (by(with_reducible repeat(first | apply Kd.R_alloc | apply Kd.R_drewN | apply Kd.R_drew));exact HO135.out))) (Kd.R_lt (by(with_reducible repeat(first | apply Kd.R_alloc | apply Kd.R_drewN | apply Kd.R_drew));exact HO139.out))) (Kd.R_lt (by(with_reducible repeat(first | apply Kd.R_alloc | apply Kd.R_drewN | apply Kd.R_drew));exact HO144.out))) (Kd.R_lt (by(with_reducible repeat(first | apply Kd.R_alloc | apply Kd.R_drewN | apply Kd.R_drew));exact HO148.out))) (Kd.R_lt (by(with_reducible repeat(first | apply Kd.R_alloc | apply Kd.R_drewN | apply Kd.R_drew));exact HO151.out))) (bwZ (by repeat(first |(with_reducible first | exact HB.out | apply bwA | apply bwN | apply bw1) | exact HB.out))));have n7_:=Aside0.mk (bwT (by repeat(first |(with_reducible first | exact HB.out | apply bwA | apply bwN | apply bw1) | exact HB.out)) hb);clear HO131;clear HO135;clear HO139;clear HO144;clear HO148;clear HO151;clear HB;have HO131:=n0_;have HO135:=n1_;have HO139:=n2_;have HO144:=n3_;have HO148:=n4_;have HO151:=n5_;have HO155:=n6_;have HB:=n7_;clear n0_ n1_ n2_ n3_ n4_ n5_ n6_ n7_;clear hb ho97;obtain ⟨Ao98,co98,eo98⟩:=Kd.R_slice HO135.out;subst eo98;obtain ⟨Ao99,co99,eo99⟩:=Kd.R_slice HO155.out;subst eo99) |(go_at_call 22;(with_reducible refine(w10_ints.calls k _ _ t132 _ _ y153 true _ ?side1 ?side2 ?side3 ?side4 A19.out).mono ?_);(case side1=>repeat(first | exact(Kd.R_reads' HO135.out).2.2 |(with_reducible refine Kd.C_alloc ?_ _) |(with_reducible refine Kd.C_drewN ?_ _) |(with_reducible refine Kd.C_drew ?_)));(case side2=>exact(Kd.R_reads' HO135.out).2.1);(case side3=>repeat(first | exact(Kd.R_reads' HO155.out).2.2 |(with_reducible refine Kd.C_alloc ?_ _) |(with_reducible refine Kd.C_drewN ?_ _) |(with_reducible refine Kd.C_drew ?_)));(case side4=>exact(Kd.R_reads' HO155.out).2.1);rintro e w' ⟨rfl,⟨nd,rfl⟩⟩))
   go_meet
   exact⟨_,(true),(by first | rfl |(simp;done) |(simp [*];done)),H',⟨by first | omega | exact Nat.le_refl _⟩,⟨by repeat(first |(with_reducible first | exact HB.out | apply bwA | apply bwN | apply bw1) | exact HB.out)⟩⟩
  rw [if_pos c21] at H
  have c21b0 :(t137 == 0) = true:=beq_iff_eq.mpr c21
  have c21b1 :(t137 != 0) = false:=bne_eq_false_iff_eq.mpr c21
  clear c21
  obtain ⟨y157,hy157⟩ : ∃ y_ : List Int,y_ =(([3,2,1] : List Int)):=⟨_,rfl⟩
  replace H :((w10_ints.f k t136 y157).bind fun t160=>(if t160 = true then(if t141 = 0 then(if t140 = 52 then(if t146 = 0 then((w10_ints.f k t145 (([1,2] : List Int))).bind fun t164=>(w10_awake.j0 k (!t164))) else(w10_awake.j0 k true)) else(w10_awake.j0 k true)) else(w10_awake.j0 k true)) else(w10_awake.j0 k true))) = some r:=by first |(rw [hy157];with_reducible exact H) |(have H2_:=(Option.bind_some _ _).symm.trans H;rw [hy157];with_reducible exact H2_) |(have H2_:=(Option.bind_some _ _).symm.trans H;with_reducible exact H2_) | with_reducible exact H |(rw [hy157];exact H) | exact H
  have Ny157:=Aside0.mk hy157
  clear hy157
  replace H:=Option.bind_eq_some_iff.mp H
  obtain ⟨t160,A220,H⟩:=H
  replace H :(if t160 = true then(if t141 = 0 then(if t140 = 52 then(if t146 = 0 then((w10_ints.f k t145 (([1,2] : List Int))).bind fun t164=>(w10_awake.j0 k (!t164))) else(w10_awake.j0 k true)) else(w10_awake.j0 k true)) else(w10_awake.j0 k true)) else(w10_awake.j0 k true)) = some r:=H
  have A22:=Aside0.mk A220
  clear A220
  by_cases c23 : t160 = true
  rotate_left
  ·replace c23 := Bool.eq_false_iff.mpr c23
   subst c23
   have H1 :(w10_awake.j0 k true) = some r:=by rw [if_neg (show ¬ (false = true) by decide)] at H;exact H
   clear H
   have H:=H1
   clear H1
   have H':=Aside0.mk H
   clear H
   go_wp2_with (first |((with_reducible refine gate_dst (N:=36) rfl ?_);(try(refine gate_guard (by rfl) ?_;dsimp only));refine Kd.R_lit (Kd.int .i64) _ 3 ?hg (N:=36) ?hd (xs:=([1,2] : List Int)) (inner:=[.int .i64 1,.int .i64 2]) (ok:=fun _=>True) (okp:=fun _=>True) ?hr ?hp (fun _ hk=>hk) trivial (Below.refl _ _) (Nat.le_refl _) (by simp) ?_;(case hd=>rfl);(case hg=>rfl);(case hr=>first |(go_simp;done) |(go_simp;rfl));(case hp=>exact(Reps.one (show Kd.M (Kd.int .i64) _ _ _ 1 [.int .i64 1] from rfl) (Reps.one (show Kd.M (Kd.int .i64) _ _ _ 2 [.int .i64 2] from rfl) (Reps.none _ _))));intro v150 w80 ho81 hb hg_ hnew_;clear hg_ hnew_;(first | rw [← Ny149.out] at ho81 |(simp only [Int.reduceToNat] at ho81;rw [← Ny149.out] at ho81));have n0_:=Aside0.mk (Kd.R_elder' (by(with_reducible repeat(first | apply Kd.R_alloc | apply Kd.R_drewN | apply Kd.R_drew));exact HO131.out) (Kd.R_base ho81) hb);have n1_:=Aside0.mk (Kd.R_elder' (by(with_reducible repeat(first | apply Kd.R_alloc | apply Kd.R_drewN | apply Kd.R_drew));exact HO135.out) (Kd.R_base ho81) hb);have n2_:=Aside0.mk (Kd.R_elder' (by(with_reducible repeat(first | apply Kd.R_alloc | apply Kd.R_drewN | apply Kd.R_drew));exact HO139.out) (Kd.R_base ho81) hb);have n3_:=Aside0.mk (Kd.R_elder' (by(with_reducible repeat(first | apply Kd.R_alloc | apply Kd.R_drewN | apply Kd.R_drew));exact HO144.out) (Kd.R_base ho81) hb);have n4_:=Aside0.mk (Kd.R_elder' (by(with_reducible repeat(first | apply Kd.R_alloc | apply Kd.R_drewN | apply Kd.R_drew));exact HO148.out) (Kd.R_base ho81) hb);have n5_:=Aside0.mk (Kd.R_lower (Kd.R_new' (Kd.R_new' (Kd.R_new' (Kd.R_new' (Kd.R_new' ho81 (Kd.R_lt (by(with_reducible repeat(first | apply Kd.R_alloc | apply Kd.R_drewN | apply Kd.R_drew));exact HO131.out))) (Kd.R_lt (by(with_reducible repeat(first | apply Kd.R_alloc | apply Kd.R_drewN | apply Kd.R_drew));exact HO135.out))) (Kd.R_lt (by(with_reducible repeat(first | apply Kd.R_alloc | apply Kd.R_drewN | apply Kd.R_drew));exact HO139.out))) (Kd.R_lt (by(with_reducible repeat(first | apply Kd.R_alloc | apply Kd.R_drewN | apply Kd.R_drew));exact HO144.out))) (Kd.R_lt (by(with_reducible repeat(first | apply Kd.R_alloc | apply Kd.R_drewN | apply Kd.R_drew));exact HO148.out))) (bwZ (by repeat(first |(with_reducible first | exact HB.out | apply bwA | apply bwN | apply bw1) | exact HB.out))));have n6_:=Aside0.mk (bwT (by repeat(first |(with_reducible first | exact HB.out | apply bwA | apply bwN | apply bw1) | exact HB.out)) hb);clear HO131;clear HO135;clear HO139;clear HO144;clear HO148;clear HB;have HO131:=n0_;have HO135:=n1_;have HO139:=n2_;have HO144:=n3_;have HO148:=n4_;have HO151:=n5_;have HB:=n6_;clear n0_ n1_ n2_ n3_ n4_ n5_ n6_;clear hb ho81;obtain ⟨Ao82,co82,eo82⟩:=Kd.R_slice HO131.out;subst eo82;obtain ⟨Ao83,co83,eo83⟩:=Kd.R_slice HO151.out;subst eo83) |(go_at_call 22;(with_reducible refine(w10_ints.calls k _ _ t128 _ _ y149 true _ ?side1 ?side2 ?side3 ?side4 A16.out).mono ?_);(case side1=>repeat(first | exact(Kd.R_reads' HO131.out).2.2 |(with_reducible refine Kd.C_alloc ?_ _) |(with_reducible refine Kd.C_drewN ?_ _) |(with_reducible refine Kd.C_drew ?_)));(case side2=>exact(Kd.R_reads' HO131.out).2.1);(case side3=>repeat(first | exact(Kd.R_reads' HO151.out).2.2 |(with_reducible refine Kd.C_alloc ?_ _) |(with_reducible refine Kd.C_drewN ?_ _) |(with_reducible refine Kd.C_drew ?_)));(case side4=>exact(Kd.R_reads' HO151.out).2.1);rintro e w' ⟨rfl,⟨nd,rfl⟩⟩) |((with_reducible refine gate_dst (N:=46) rfl ?_);(try(refine gate_guard (by rfl) ?_;dsimp only));refine Kd.R_lit (Kd.int .i64) _ 3 ?hg (N:=46) ?hd (xs:=([2,3] : List Int)) (inner:=[.int .i64 2,.int .i64 3]) (ok:=fun _=>True) (okp:=fun _=>True) ?hr ?hp (fun _ hk=>hk) trivial (Below.refl _ _) (Nat.le_refl _) (by simp) ?_;(case hd=>rfl);(case hg=>rfl);(case hr=>first |(go_simp;done) |(go_simp;rfl));(case hp=>exact(Reps.one (show Kd.M (Kd.int .i64) _ _ _ 2 [.int .i64 2] from rfl) (Reps.one (show Kd.M (Kd.int .i64) _ _ _ 3 [.int .i64 3] from rfl) (Reps.none _ _))));intro v154 w84 ho85 hb hg_ hnew_;clear hg_ hnew_;(first | rw [← Ny153.out] at ho85 |(simp only [Int.reduceToNat] at ho85;rw [← Ny153.out] at ho85));have n0_:=Aside0.mk (Kd.R_elder' (by(with_reducible repeat(first | apply Kd.R_alloc | apply Kd.R_drewN | apply Kd.R_drew));exact HO131.out) (Kd.R_base ho85) hb);have n1_:=Aside0.mk (Kd.R_elder' (by(with_reducible repeat(first | apply Kd.R_alloc | apply Kd.R_drewN | apply Kd.R_drew));exact HO135.out) (Kd.R_base ho85) hb);have n2_:=Aside0.mk (Kd.R_elder' (by(with_reducible repeat(first | apply Kd.R_alloc | apply Kd.R_drewN | apply Kd.R_drew));exact HO139.out) (Kd.R_base ho85) hb);have n3_:=Aside0.mk (Kd.R_elder' (by(with_reducible repeat(first | apply Kd.R_alloc | apply Kd.R_drewN | apply Kd.R_drew));exact HO144.out) (Kd.R_base ho85) hb);have n4_:=Aside0.mk (Kd.R_elder' (by(with_reducible repeat(first | apply Kd.R_alloc | apply Kd.R_drewN | apply Kd.R_drew));exact HO148.out) (Kd.R_base ho85) hb);have n5_:=Aside0.mk (Kd.R_elder' (by(with_reducible repeat(first | apply Kd.R_alloc | apply Kd.R_drewN | apply Kd.R_drew));exact HO151.out) (Kd.R_base ho85) hb);have n6_:=Aside0.mk (Kd.R_lower (Kd.R_new' (Kd.R_new' (Kd.R_new' (Kd.R_new' (Kd.R_new' (Kd.R_new' ho85 (Kd.R_lt (by(with_reducible repeat(first | apply Kd.R_alloc | apply Kd.R_drewN | apply Kd.R_drew));exact HO131.out))) (Kd.R_lt (by(with_reducible repeat(first | apply Kd.R_alloc | apply Kd.R_drewN | apply Kd.R_drew));exact HO135.out))) (Kd.R_lt (by(with_reducible repeat(first | apply Kd.R_alloc | apply Kd.R_drewN | apply Kd.R_drew));exact HO139.out))) (Kd.R_lt (by(with_reducible repeat(first | apply Kd.R_alloc | apply Kd.R_drewN | apply Kd.R_drew));exact HO144.out))) (Kd.R_lt (by(with_reducible repeat(first | apply Kd.R_alloc | apply Kd.R_drewN | apply Kd.R_drew));exact HO148.out))) (Kd.R_lt (by(with_reducible repeat(first | apply Kd.R_alloc | apply Kd.R_drewN | apply Kd.R_drew));exact HO151.out))) (bwZ (by repeat(first |(with_reducible first | exact HB.out | apply bwA | apply bwN | apply bw1) | exact HB.out))));have n7_:=Aside0.mk (bwT (by repeat(first |(with_reducible first | exact HB.out | apply bwA | apply bwN | apply bw1) | exact HB.out)) hb);clear HO131;clear HO135;clear HO139;clear HO144;clear HO148;clear HO151;clear HB;have HO131:=n0_;have HO135:=n1_;have HO139:=n2_;have HO144:=n3_;have HO148:=n4_;have HO151:=n5_;have HO155:=n6_;have HB:=n7_;clear n0_ n1_ n2_ n3_ n4_ n5_ n6_ n7_;clear hb ho85;obtain ⟨Ao86,co86,eo86⟩:=Kd.R_slice HO135.out;subst eo86;obtain ⟨Ao87,co87,eo87⟩:=Kd.R_slice HO155.out;subst eo87) |(go_at_call 22;(with_reducible refine(w10_ints.calls k _ _ t132 _ _ y153 true _ ?side1 ?side2 ?side3 ?side4 A19.out).mono ?_);(case side1=>repeat(first | exact(Kd.R_reads' HO135.out).2.2 |(with_reducible refine Kd.C_alloc ?_ _) |(with_reducible refine Kd.C_drewN ?_ _) |(with_reducible refine Kd.C_drew ?_)));(case side2=>exact(Kd.R_reads' HO135.out).2.1);(case side3=>repeat(first | exact(Kd.R_reads' HO155.out).2.2 |(with_reducible refine Kd.C_alloc ?_ _) |(with_reducible refine Kd.C_drewN ?_ _) |(with_reducible refine Kd.C_drew ?_)));(case side4=>exact(Kd.R_reads' HO155.out).2.1);rintro e w' ⟨rfl,⟨nd,rfl⟩⟩) |((with_reducible refine gate_dst (N:=56) rfl ?_);(try(refine gate_guard (by rfl) ?_;dsimp only));refine Kd.R_lit (Kd.int .i64) _ 3 ?hg (N:=56) ?hd (xs:=([3,2,1] : List Int)) (inner:=[.int .i64 3,.int .i64 2,.int .i64 1]) (ok:=fun _=>True) (okp:=fun _=>True) ?hr ?hp (fun _ hk=>hk) trivial (Below.refl _ _) (Nat.le_refl _) (by simp) ?_;(case hd=>rfl);(case hg=>rfl);(case hr=>first |(go_simp;done) |(go_simp;rfl));(case hp=>exact(Reps.one (show Kd.M (Kd.int .i64) _ _ _ 3 [.int .i64 3] from rfl) (Reps.one (show Kd.M (Kd.int .i64) _ _ _ 2 [.int .i64 2] from rfl) (Reps.one (show Kd.M (Kd.int .i64) _ _ _ 1 [.int .i64 1] from rfl) (Reps.none _ _)))));intro v158 w88 ho89 hb hg_ hnew_;clear hg_ hnew_;(first | rw [← Ny157.out] at ho89 |(simp only [Int.reduceToNat] at ho89;rw [← Ny157.out] at ho89));have n0_:=Aside0.mk (Kd.R_elder' (by(with_reducible repeat(first | apply Kd.R_alloc | apply Kd.R_drewN | apply Kd.R_drew));exact HO131.out) (Kd.R_base ho89) hb);have n1_:=Aside0.mk (Kd.R_elder' (by(with_reducible repeat(first | apply Kd.R_alloc | apply Kd.R_drewN | apply Kd.R_drew));exact HO135.out) (Kd.R_base ho89) hb);have n2_:=Aside0.mk (Kd.R_elder' (by(with_reducible repeat(first | apply Kd.R_alloc | apply Kd.R_drewN | apply Kd.R_drew));exact HO139.out) (Kd.R_base ho89) hb);have n3_:=Aside0.mk (Kd.R_elder' (by(with_reducible repeat(first | apply Kd.R_alloc | apply Kd.R_drewN | apply Kd.R_drew));exact HO144.out) (Kd.R_base ho89) hb);have n4_:=Aside0.mk (Kd.R_elder' (by(with_reducible repeat(first | apply Kd.R_alloc | apply Kd.R_drewN | apply Kd.R_drew));exact HO148.out) (Kd.R_base ho89) hb);have n5_:=Aside0.mk (Kd.R_elder' (by(with_reducible repeat(first | apply Kd.R_alloc | apply Kd.R_drewN | apply Kd.R_drew));exact HO151.out) (Kd.R_base ho89) hb);have n6_:=Aside0.mk (Kd.R_elder' (by(with_reducible repeat(first | apply Kd.R_alloc | apply Kd.R_drewN | apply Kd.R_drew));exact HO155.out) (Kd.R_base ho89) hb);have n7_:=Aside0.mk (Kd.R_lower (Kd.R_new' (Kd.R_new' (Kd.R_new' (Kd.R_new' (Kd.R_new' (Kd.R_new' (Kd.R_new' ho89 (Kd.R_lt (by(with_reducible repeat(first | apply Kd.R_alloc | apply Kd.R_drewN | apply Kd.R_drew));exact HO131.out))) (Kd.R_lt (by(with_reducible repeat(first | apply Kd.R_alloc | apply Kd.R_drewN | apply Kd.R_drew));exact HO135.out))) (Kd.R_lt (by(with_reducible repeat(first | apply Kd.R_alloc | apply Kd.R_drewN | apply Kd.R_drew));exact HO139.out))) (Kd.R_lt (by(with_reducible repeat(first | apply Kd.R_alloc | apply Kd.R_drewN | apply Kd.R_drew));exact HO144.out))) (Kd.R_lt (by(with_reducible repeat(first | apply Kd.R_alloc | apply Kd.R_drewN | apply Kd.R_drew));exact HO148.out))) (Kd.R_lt (by(with_reducible repeat(first | apply Kd.R_alloc | apply Kd.R_drewN | apply Kd.R_drew));exact HO151.out))) (Kd.R_lt (by(with_reducible repeat(first | apply Kd.R_alloc | apply Kd.R_drewN | apply Kd.R_drew));exact HO155.out))) (bwZ (by repeat(first |(with_reducible first | exact HB.out | apply bwA | apply bwN | apply bw1) | exact HB.out))));have n8_:=Aside0.mk (bwT (by repeat(first |(with_reducible first | exact HB.out | apply bwA | apply bwN | apply bw1) | exact HB.out)) hb);clear HO131;clear HO135;clear HO139;clear HO144;clear HO148;clear HO151;clear HO155;clear HB;have HO131:=n0_;have HO135:=n1_;have HO139:=n2_;have HO144:=n3_;have HO148:=n4_;have HO151:=n5_;have HO155:=n6_;have HO159:=n7_;have HB:=n8_;clear n0_ n1_ n2_ n3_ n4_ n5_ n6_ n7_ n8_;clear hb ho89;obtain ⟨Ao90,co90,eo90⟩:=Kd.R_slice HO139.out;subst eo90;obtain ⟨Ao91,co91,eo91⟩:=Kd.R_slice HO159.out;subst eo91) |(go_at_call 22;(with_reducible refine(w10_ints.calls k _ _ t136 _ _ y157 false _ ?side1 ?side2 ?side3 ?side4 A22.out).mono ?_);(case side1=>repeat(first | exact(Kd.R_reads' HO139.out).2.2 |(with_reducible refine Kd.C_alloc ?_ _) |(with_reducible refine Kd.C_drewN ?_ _) |(with_reducible refine Kd.C_drew ?_)));(case side2=>exact(Kd.R_reads' HO139.out).2.1);(case side3=>repeat(first | exact(Kd.R_reads' HO159.out).2.2 |(with_reducible refine Kd.C_alloc ?_ _) |(with_reducible refine Kd.C_drewN ?_ _) |(with_reducible refine Kd.C_drew ?_)));(case side4=>exact(Kd.R_reads' HO159.out).2.1);rintro e w' ⟨rfl,⟨nd,rfl⟩⟩))
   go_meet
   exact⟨_,(true),(by first | rfl |(simp;done) |(simp [*];done)),H',⟨by first | omega | exact Nat.le_refl _⟩,⟨by repeat(first |(with_reducible first | exact HB.out | apply bwA | apply bwN | apply bw1) | exact HB.out)⟩⟩
  subst c23
  have H1 :(if t141 = 0 then(if t140 = 52 then(if t146 = 0 then((w10_ints.f k t145 (([1,2] : List Int))).bind fun t164=>(w10_awake.j0 k (!t164))) else(w10_awake.j0 k true)) else(w10_awake.j0 k true)) else(w10_awake.j0 k true)) = some r:=by rw [if_pos rfl] at H;exact H
  clear H
  have H:=H1
  clear H1
  by_cases c24 : t141 = 0
  rotate_left
  ·rw [if_neg c24] at H
   have c24b0 :(t141 == 0) = false:=beq_eq_false_iff_ne.mpr c24
   have c24b1 :(t141 != 0) = true:=bne_iff_ne.mpr c24
   have H':=Aside0.mk H
   clear H
   go_wp2_with (first |((with_reducible refine gate_dst (N:=36) rfl ?_);(try(refine gate_guard (by rfl) ?_;dsimp only));refine Kd.R_lit (Kd.int .i64) _ 3 ?hg (N:=36) ?hd (xs:=([1,2] : List Int)) (inner:=[.int .i64 1,.int .i64 2]) (ok:=fun _=>True) (okp:=fun _=>True) ?hr ?hp (fun _ hk=>hk) trivial (Below.refl _ _) (Nat.le_refl _) (by simp) ?_;(case hd=>rfl);(case hg=>rfl);(case hr=>first |(go_simp;done) |(go_simp;rfl));(case hp=>exact(Reps.one (show Kd.M (Kd.int .i64) _ _ _ 1 [.int .i64 1] from rfl) (Reps.one (show Kd.M (Kd.int .i64) _ _ _ 2 [.int .i64 2] from rfl) (Reps.none _ _))));intro v150 w68 ho69 hb hg_ hnew_;clear hg_ hnew_;(first | rw [← Ny149.out] at ho69 |(simp only [Int.reduceToNat] at ho69;rw [← Ny149.out] at ho69));have n0_:=Aside0.mk (Kd.R_elder' (by(with_reducible repeat(first | apply Kd.R_alloc | apply Kd.R_drewN | apply Kd.R_drew));exact HO131.out) (Kd.R_base ho69) hb);have n1_:=Aside0.mk (Kd.R_elder' (by(with_reducible repeat(first | apply Kd.R_alloc | apply Kd.R_drewN | apply Kd.R_drew));exact HO135.out) (Kd.R_base ho69) hb);have n2_:=Aside0.mk (Kd.R_elder' (by(with_reducible repeat(first | apply Kd.R_alloc | apply Kd.R_drewN | apply Kd.R_drew));exact HO139.out) (Kd.R_base ho69) hb);have n3_:=Aside0.mk (Kd.R_elder' (by(with_reducible repeat(first | apply Kd.R_alloc | apply Kd.R_drewN | apply Kd.R_drew));exact HO144.out) (Kd.R_base ho69) hb);have n4_:=Aside0.mk (Kd.R_elder' (by(with_reducible repeat(first | apply Kd.R_alloc | apply Kd.R_drewN | apply Kd.R_drew));exact HO148.out) (Kd.R_base ho69) hb);have n5_:=Aside0.mk (Kd.R_lower (Kd.R_new' (Kd.R_new' (Kd.R_new' (Kd.R_new' (Kd.R_new' ho69 (Kd.R_lt (by(with_reducible repeat(first | apply Kd.R_alloc | apply Kd.R_drewN | apply Kd.R_drew));exact HO131.out))) (Kd.R_lt (by(with_reducible repeat(first | apply Kd.R_alloc | apply Kd.R_drewN | apply Kd.R_drew));exact HO135.out))) (Kd.R_lt (by(with_reducible repeat(first | apply Kd.R_alloc | apply Kd.R_drewN | apply Kd.R_drew));exact HO139.out))) (Kd.R_lt (by(with_reducible repeat(first | apply Kd.R_alloc | apply Kd.R_drewN | apply Kd.R_drew));exact HO144.out))) (Kd.R_lt (by(with_reducible repeat(first | apply Kd.R_alloc | apply Kd.R_drewN | apply Kd.R_drew));exact HO148.out))) (bwZ (by repeat(first |(with_reducible first | exact HB.out | apply bwA | apply bwN | apply bw1) | exact HB.out))));have n6_:=Aside0.mk (bwT (by repeat(first |(with_reducible first | exact HB.out | apply bwA | apply bwN | apply bw1) | exact HB.out)) hb);clear HO131;clear HO135;clear HO139;clear HO144;clear HO148;clear HB;have HO131:=n0_;have HO135:=n1_;have HO139:=n2_;have HO144:=n3_;have HO148:=n4_;have HO151:=n5_;have HB:=n6_;clear n0_ n1_ n2_ n3_ n4_ n5_ n6_;clear hb ho69;obtain ⟨Ao70,co70,eo70⟩:=Kd.R_slice HO131.out;subst eo70;obtain ⟨Ao71,co71,eo71⟩:=Kd.R_slice HO151.out;subst eo71) |(go_at_call 22;(with_reducible refine(w10_ints.calls k _ _ t128 _ _ y149 true _ ?side1 ?side2 ?side3 ?side4 A16.out).mono ?_);(case side1=>repeat(first | exact(Kd.R_reads' HO131.out).2.2 |(with_reducible refine Kd.C_alloc ?_ _) |(with_reducible refine Kd.C_drewN ?_ _) |(with_reducible refine Kd.C_drew ?_)));(case side2=>exact(Kd.R_reads' HO131.out).2.1);(case side3=>repeat(first | exact(Kd.R_reads' HO151.out).2.2 |(with_reducible refine Kd.C_alloc ?_ _) |(with_reducible refine Kd.C_drewN ?_ _) |(with_reducible refine Kd.C_drew ?_)));(case side4=>exact(Kd.R_reads' HO151.out).2.1);rintro e w' ⟨rfl,⟨nd,rfl⟩⟩) |((with_reducible refine gate_dst (N:=46) rfl ?_);(try(refine gate_guard (by rfl) ?_;dsimp only));refine Kd.R_lit (Kd.int .i64) _ 3 ?hg (N:=46) ?hd (xs:=([2,3] : List Int)) (inner:=[.int .i64 2,.int .i64 3]) (ok:=fun _=>True) (okp:=fun _=>True) ?hr ?hp (fun _ hk=>hk) trivial (Below.refl _ _) (Nat.le_refl _) (by simp) ?_;(case hd=>rfl);(case hg=>rfl);(case hr=>first |(go_simp;done) |(go_simp;rfl));(case hp=>exact(Reps.one (show Kd.M (Kd.int .i64) _ _ _ 2 [.int .i64 2] from rfl) (Reps.one (show Kd.M (Kd.int .i64) _ _ _ 3 [.int .i64 3] from rfl) (Reps.none _ _))));intro v154 w72 ho73 hb hg_ hnew_;clear hg_ hnew_;(first | rw [← Ny153.out] at ho73 |(simp only [Int.reduceToNat] at ho73;rw [← Ny153.out] at ho73));have n0_:=Aside0.mk (Kd.R_elder' (by(with_reducible repeat(first | apply Kd.R_alloc | apply Kd.R_drewN | apply Kd.R_drew));exact HO131.out) (Kd.R_base ho73) hb);have n1_:=Aside0.mk (Kd.R_elder' (by(with_reducible repeat(first | apply Kd.R_alloc | apply Kd.R_drewN | apply Kd.R_drew));exact HO135.out) (Kd.R_base ho73) hb);have n2_:=Aside0.mk (Kd.R_elder' (by(with_reducible repeat(first | apply Kd.R_alloc | apply Kd.R_drewN | apply Kd.R_drew));exact HO139.out) (Kd.R_base ho73) hb);have n3_:=Aside0.mk (Kd.R_elder' (by(with_reducible repeat(first | apply Kd.R_alloc | apply Kd.R_drewN | apply Kd.R_drew));exact HO144.out) (Kd.R_base ho73) hb);have n4_:=Aside0.mk (Kd.R_elder' (by(with_reducible repeat(first | apply Kd.R_alloc | apply Kd.R_drewN | apply Kd.R_drew));exact HO148.out) (Kd.R_base ho73) hb);have n5_:=Aside0.mk (Kd.R_elder' (by(with_reducible repeat(first | apply Kd.R_alloc | apply Kd.R_drewN | apply Kd.R_drew));exact HO151.out) (Kd.R_base ho73) hb);have n6_:=Aside0.mk (Kd.R_lower (Kd.R_new' (Kd.R_new' (Kd.R_new' (Kd.R_new' (Kd.R_new' (Kd.R_new' ho73 (Kd.R_lt (by(with_reducible repeat(first | apply Kd.R_alloc | apply Kd.R_drewN | apply Kd.R_drew));exact HO131.out))) (Kd.R_lt (by(with_reducible repeat(first | apply Kd.R_alloc | apply Kd.R_drewN | apply Kd.R_drew));exact HO135.out))) (Kd.R_lt (by(with_reducible repeat(first | apply Kd.R_alloc | apply Kd.R_drewN | apply Kd.R_drew));exact HO139.out))) (Kd.R_lt (by(with_reducible repeat(first | apply Kd.R_alloc | apply Kd.R_drewN | apply Kd.R_drew));exact HO144.out))) (Kd.R_lt (by(with_reducible repeat(first | apply Kd.R_alloc | apply Kd.R_drewN | apply Kd.R_drew));exact HO148.out))) (Kd.R_lt (by(with_reducible repeat(first | apply Kd.R_alloc | apply Kd.R_drewN | apply Kd.R_drew));exact HO151.out))) (bwZ (by repeat(first |(with_reducible first | exact HB.out | apply bwA | apply bwN | apply bw1) | exact HB.out))));have n7_:=Aside0.mk (bwT (by repeat(first |(with_reducible first | exact HB.out | apply bwA | apply bwN | apply bw1) | exact HB.out)) hb);clear HO131;clear HO135;clear HO139;clear HO144;clear HO148;clear HO151;clear HB;have HO131:=n0_;have HO135:=n1_;have HO139:=n2_;have HO144:=n3_;have HO148:=n4_;have HO151:=n5_;have HO155:=n6_;have HB:=n7_;clear n0_ n1_ n2_ n3_ n4_ n5_ n6_ n7_;clear hb ho73;obtain ⟨Ao74,co74,eo74⟩:=Kd.R_slice HO135.out;subst eo74;obtain ⟨Ao75,co75,eo75⟩:=Kd.R_slice HO155.out;subst eo75) |(go_at_call 22;(with_reducible refine(w10_ints.calls k _ _ t132 _ _ y153 true _ ?side1 ?side2 ?side3 ?side4 A19.out).mono ?_);(case side1=>repeat(first | exact(Kd.R_reads' HO135.out).2.2 |(with_reducible refine Kd.C_alloc ?_ _) |(with_reducible refine Kd.C_drewN ?_ _) |(with_reducible refine Kd.C_drew ?_)));(case side2=>exact(Kd.R_reads' HO135.out).2.1);(case side3=>repeat(first | exact(Kd.R_reads' HO155.out).2.2 |(with_reducible refine Kd.C_alloc ?_ _) |(with_reducible refine Kd.C_drewN ?_ _) |(with_reducible refine Kd.C_drew ?_)));(case side4=>exact(Kd.R_reads' HO155.out).2.1);rintro e w' ⟨rfl,⟨nd,rfl⟩⟩) |((with_reducible refine gate_dst (N:=56) rfl ?_);(try(refine gate_guard (by rfl) ?_;dsimp only));refine Kd.R_lit (Kd.int .i64) _ 3 ?hg (N:=56) ?hd (xs:=([3,2,1] : List Int)) (inner:=[.int .i64 3,.int .i64 2,.int .i64 1]) (ok:=fun _=>True) (okp:=fun _=>True) ?hr ?hp (fun _ hk=>hk) trivial (Below.refl _ _) (Nat.le_refl _) (by simp) ?_;(case hd=>rfl);(case hg=>rfl);(case hr=>first |(go_simp;done) |(go_simp;rfl));(case hp=>exact(Reps.one (show Kd.M (Kd.int .i64) _ _ _ 3 [.int .i64 3] from rfl) (Reps.one (show Kd.M (Kd.int .i64) _ _ _ 2 [.int .i64 2] from rfl) (Reps.one (show Kd.M (Kd.int .i64) _ _ _ 1 [.int .i64 1] from rfl) (Reps.none _ _)))));intro v158 w76 ho77 hb hg_ hnew_;clear hg_ hnew_;(first | rw [← Ny157.out] at ho77 |(simp only [Int.reduceToNat] at ho77;rw [← Ny157.out] at ho77));have n0_:=Aside0.mk (Kd.R_elder' (by(with_reducible repeat(first | apply Kd.R_alloc | apply Kd.R_drewN | apply Kd.R_drew));exact HO131.out) (Kd.R_base ho77) hb);have n1_:=Aside0.mk (Kd.R_elder' (by(with_reducible repeat(first | apply Kd.R_alloc | apply Kd.R_drewN | apply Kd.R_drew));exact HO135.out) (Kd.R_base ho77) hb);have n2_:=Aside0.mk (Kd.R_elder' (by(with_reducible repeat(first | apply Kd.R_alloc | apply Kd.R_drewN | apply Kd.R_drew));exact HO139.out) (Kd.R_base ho77) hb);have n3_:=Aside0.mk (Kd.R_elder' (by(with_reducible repeat(first | apply Kd.R_alloc | apply Kd.R_drewN | apply Kd.R_drew));exact HO144.out) (Kd.R_base ho77) hb);have n4_:=Aside0.mk (Kd.R_elder' (by(with_reducible repeat(first | apply Kd.R_alloc | apply Kd.R_drewN | apply Kd.R_drew));exact HO148.out) (Kd.R_base ho77) hb);have n5_:=Aside0.mk (Kd.R_elder' (by(with_reducible repeat(first | apply Kd.R_alloc | apply Kd.R_drewN | apply Kd.R_drew));exact HO151.out) (Kd.R_base ho77) hb);have n6_:=Aside0.mk (Kd.R_elder' (by(with_reducible repeat(first | apply Kd.R_alloc | apply Kd.R_drewN | apply Kd.R_drew));exact HO155.out) (Kd.R_base ho77) hb);have n7_:=Aside0.mk (Kd.R_lower (Kd.R_new' (Kd.R_new' (Kd.R_new' (Kd.R_new' (Kd.R_new' (Kd.R_new' (Kd.R_new' ho77 (Kd.R_lt (by(with_reducible repeat(first | apply Kd.R_alloc | apply Kd.R_drewN | apply Kd.R_drew));exact HO131.out))) (Kd.R_lt (by(with_reducible repeat(first | apply Kd.R_alloc | apply Kd.R_drewN | apply Kd.R_drew));exact HO135.out))) (Kd.R_lt (by(with_reducible repeat(first | apply Kd.R_alloc | apply Kd.R_drewN | apply Kd.R_drew));exact HO139.out))) (Kd.R_lt (by(with_reducible repeat(first | apply Kd.R_alloc | apply Kd.R_drewN | apply Kd.R_drew));exact HO144.out))) (Kd.R_lt (by(with_reducible repeat(first | apply Kd.R_alloc | apply Kd.R_drewN | apply Kd.R_drew));exact HO148.out))) (Kd.R_lt (by(with_reducible repeat(first | apply Kd.R_alloc | apply Kd.R_drewN | apply Kd.R_drew));exact HO151.out))) (Kd.R_lt (by(with_reducible repeat(first | apply Kd.R_alloc | apply Kd.R_drewN | apply Kd.R_drew));exact HO155.out))) (bwZ (by repeat(first |(with_reducible first | exact HB.out | apply bwA | apply bwN | apply bw1) | exact HB.out))));have n8_:=Aside0.mk (bwT (by repeat(first |(with_reducible first | exact HB.out | apply bwA | apply bwN | apply bw1) | exact HB.out)) hb);clear HO131;clear HO135;clear HO139;clear HO144;clear HO148;clear HO151;clear HO155;clear HB;have HO131:=n0_;have HO135:=n1_;have HO139:=n2_;have HO144:=n3_;have HO148:=n4_;have HO151:=n5_;have HO155:=n6_;have HO159:=n7_;have HB:=n8_;clear n0_ n1_ n2_ n3_ n4_ n5_ n6_ n7_ n8_;clear hb ho77;obtain ⟨Ao78,co78,eo78⟩:=Kd.R_slice HO139.out;subst eo78;obtain ⟨Ao79,co79,eo79⟩:=Kd.R_slice HO159.out;subst eo79) |(go_at_call 22;(with_reducible refine(w10_ints.calls k _ _ t136 _ _ y157 true _ ?side1 ?side2 ?side3 ?side4 A22.out).mono ?_);(case side1=>repeat(first | exact(Kd.R_reads' HO139.out).2.2 |(with_reducible refine Kd.C_alloc ?_ _) |(with_reducible refine Kd.C_drewN ?_ _) |(with_reducible refine Kd.C_drew ?_)));(case side2=>exact(Kd.R_reads' HO139.out).2.1);(case side3=>repeat(first | exact(Kd.R_reads' HO159.out).2.2 |(with_reducible refine Kd.C_alloc ?_ _) |(with_reducible refine Kd.C_drewN ?_ _) |(with_reducible refine Kd.C_drew ?_)));(case side4=>exact(Kd.R_reads' HO159.out).2.1);rintro e w' ⟨rfl,⟨nd,rfl⟩⟩))
   go_meet
   exact⟨_,(true),(by first | rfl |(simp;done) |(simp [*];done)),H',⟨by first | omega | exact Nat.le_refl _⟩,⟨by repeat(first |(with_reducible first | exact HB.out | apply bwA | apply bwN | apply bw1) | exact HB.out)⟩⟩
  rw [if_pos c24] at H
  have c24b0 :(t141 == 0) = true:=beq_iff_eq.mpr c24
  have c24b1 :(t141 != 0) = false:=bne_eq_false_iff_eq.mpr c24
  clear c24
  by_cases c25 : t140 = 52
  rotate_left
  ·rw [if_neg c25] at H
   have c25b0 :(t140 == 52) = false:=beq_eq_false_iff_ne.mpr c25
   have c25b1 :(t140 != 52) = true:=bne_iff_ne.mpr c25
   have H':=Aside0.mk H
   clear H
   go_wp2_with (first |((with_reducible refine gate_dst (N:=36) rfl ?_);(try(refine gate_guard (by rfl) ?_;dsimp only));refine Kd.R_lit (Kd.int .i64) _ 3 ?hg (N:=36) ?hd (xs:=([1,2] : List Int)) (inner:=[.int .i64 1,.int .i64 2]) (ok:=fun _=>True) (okp:=fun _=>True) ?hr ?hp (fun _ hk=>hk) trivial (Below.refl _ _) (Nat.le_refl _) (by simp) ?_;(case hd=>rfl);(case hg=>rfl);(case hr=>first |(go_simp;done) |(go_simp;rfl));(case hp=>exact(Reps.one (show Kd.M (Kd.int .i64) _ _ _ 1 [.int .i64 1] from rfl) (Reps.one (show Kd.M (Kd.int .i64) _ _ _ 2 [.int .i64 2] from rfl) (Reps.none _ _))));intro v150 w56 ho57 hb hg_ hnew_;clear hg_ hnew_;(first | rw [← Ny149.out] at ho57 |(simp only [Int.reduceToNat] at ho57;rw [← Ny149.out] at ho57));have n0_:=Aside0.mk (Kd.R_elder' (by(with_reducible repeat(first | apply Kd.R_alloc | apply Kd.R_drewN | apply Kd.R_drew));exact HO131.out) (Kd.R_base ho57) hb);have n1_:=Aside0.mk (Kd.R_elder' (by(with_reducible repeat(first | apply Kd.R_alloc | apply Kd.R_drewN | apply Kd.R_drew));exact HO135.out) (Kd.R_base ho57) hb);have n2_:=Aside0.mk (Kd.R_elder' (by(with_reducible repeat(first | apply Kd.R_alloc | apply Kd.R_drewN | apply Kd.R_drew));exact HO139.out) (Kd.R_base ho57) hb);have n3_:=Aside0.mk (Kd.R_elder' (by(with_reducible repeat(first | apply Kd.R_alloc | apply Kd.R_drewN | apply Kd.R_drew));exact HO144.out) (Kd.R_base ho57) hb);have n4_:=Aside0.mk (Kd.R_elder' (by(with_reducible repeat(first | apply Kd.R_alloc | apply Kd.R_drewN | apply Kd.R_drew));exact HO148.out) (Kd.R_base ho57) hb);have n5_:=Aside0.mk (Kd.R_lower (Kd.R_new' (Kd.R_new' (Kd.R_new' (Kd.R_new' (Kd.R_new' ho57 (Kd.R_lt (by(with_reducible repeat(first | apply Kd.R_alloc | apply Kd.R_drewN | apply Kd.R_drew));exact HO131.out))) (Kd.R_lt (by(with_reducible repeat(first | apply Kd.R_alloc | apply Kd.R_drewN | apply Kd.R_drew));exact HO135.out))) (Kd.R_lt (by(with_reducible repeat(first | apply Kd.R_alloc | apply Kd.R_drewN | apply Kd.R_drew));exact HO139.out))) (Kd.R_lt (by(with_reducible repeat(first | apply Kd.R_alloc | apply Kd.R_drewN | apply Kd.R_drew));exact HO144.out))) (Kd.R_lt (by(with_reducible repeat(first | apply Kd.R_alloc | apply Kd.R_drewN | apply Kd.R_drew));exact HO148.out))) (bwZ (by repeat(first |(with_reducible first | exact HB.out | apply bwA | apply bwN | apply bw1) | exact HB.out))));have n6_:=Aside0.mk (bwT (by repeat(first |(with_reducible first | exact HB.out | apply bwA | apply bwN | apply bw1) | exact HB.out)) hb);clear HO131;clear HO135;clear HO139;clear HO144;clear HO148;clear HB;have HO131:=n0_;have HO135:=n1_;have HO139:=n2_;have HO144:=n3_;have HO148:=n4_;have HO151:=n5_;have HB:=n6_;clear n0_ n1_ n2_ n3_ n4_ n5_ n6_;clear hb ho57;obtain ⟨Ao58,co58,eo58⟩:=Kd.R_slice HO131.out;subst eo58;obtain ⟨Ao59,co59,eo59⟩:=Kd.R_slice HO151.out;subst eo59) |(go_at_call 22;(with_reducible refine(w10_ints.calls k _ _ t128 _ _ y149 true _ ?side1 ?side2 ?side3 ?side4 A16.out).mono ?_);(case side1=>repeat(first | exact(Kd.R_reads' HO131.out).2.2 |(with_reducible refine Kd.C_alloc ?_ _) |(with_reducible refine Kd.C_drewN ?_ _) |(with_reducible refine Kd.C_drew ?_)));(case side2=>exact(Kd.R_reads' HO131.out).2.1);(case side3=>repeat(first | exact(Kd.R_reads' HO151.out).2.2 |(with_reducible refine Kd.C_alloc ?_ _) |(with_reducible refine Kd.C_drewN ?_ _) |(with_reducible refine Kd.C_drew ?_)));(case side4=>exact(Kd.R_reads' HO151.out).2.1);rintro e w' ⟨rfl,⟨nd,rfl⟩⟩) |((with_reducible refine gate_dst (N:=46) rfl ?_);(try(refine gate_guard (by rfl) ?_;dsimp only));refine Kd.R_lit (Kd.int .i64) _ 3 ?hg (N:=46) ?hd (xs:=([2,3] : List Int)) (inner:=[.int .i64 2,.int .i64 3]) (ok:=fun _=>True) (okp:=fun _=>True) ?hr ?hp (fun _ hk=>hk) trivial (Below.refl _ _) (Nat.le_refl _) (by simp) ?_;(case hd=>rfl);(case hg=>rfl);(case hr=>first |(go_simp;done) |(go_simp;rfl));(case hp=>exact(Reps.one (show Kd.M (Kd.int .i64) _ _ _ 2 [.int .i64 2] from rfl) (Reps.one (show Kd.M (Kd.int .i64) _ _ _ 3 [.int .i64 3] from rfl) (Reps.none _ _))));intro v154 w60 ho61 hb hg_ hnew_;clear hg_ hnew_;(first | rw [← Ny153.out] at ho61 |(simp only [Int.reduceToNat] at ho61;rw [← Ny153.out] at ho61));have n0_:=Aside0.mk (Kd.R_elder' (by(with_reducible repeat(first | apply Kd.R_alloc | apply Kd.R_drewN | apply Kd.R_drew));exact HO131.out) (Kd.R_base ho61) hb);have n1_:=Aside0.mk (Kd.R_elder' (by(with_reducible repeat(first | apply Kd.R_alloc | apply Kd.R_drewN | apply Kd.R_drew));exact HO135.out) (Kd.R_base ho61) hb);have n2_:=Aside0.mk (Kd.R_elder' (by(with_reducible repeat(first | apply Kd.R_alloc | apply Kd.R_drewN | apply Kd.R_drew));exact HO139.out) (Kd.R_base ho61) hb);have n3_:=Aside0.mk (Kd.R_elder' (by(with_reducible repeat(first | apply Kd.R_alloc | apply Kd.R_drewN | apply Kd.R_drew));exact HO144.out) (Kd.R_base ho61) hb);have n4_:=Aside0.mk (Kd.R_elder' (by(with_reducible repeat(first | apply Kd.R_alloc | apply Kd.R_drewN | apply Kd.R_drew));exact HO148.out) (Kd.R_base ho61) hb);have n5_:=Aside0.mk (Kd.R_elder' (by(with_reducible repeat(first | apply Kd.R_alloc | apply Kd.R_drewN | apply Kd.R_drew));exact HO151.out) (Kd.R_base ho61) hb);have n6_:=Aside0.mk (Kd.R_lower (Kd.R_new' (Kd.R_new' (Kd.R_new' (Kd.R_new' (Kd.R_new' (Kd.R_new' ho61 (Kd.R_lt (by(with_reducible repeat(first | apply Kd.R_alloc | apply Kd.R_drewN | apply Kd.R_drew));exact HO131.out))) (Kd.R_lt (by(with_reducible repeat(first | apply Kd.R_alloc | apply Kd.R_drewN | apply Kd.R_drew));exact HO135.out))) (Kd.R_lt (by(with_reducible repeat(first | apply Kd.R_alloc | apply Kd.R_drewN | apply Kd.R_drew));exact HO139.out))) (Kd.R_lt (by(with_reducible repeat(first | apply Kd.R_alloc | apply Kd.R_drewN | apply Kd.R_drew));exact HO144.out))) (Kd.R_lt (by(with_reducible repeat(first | apply Kd.R_alloc | apply Kd.R_drewN | apply Kd.R_drew));exact HO148.out))) (Kd.R_lt (by(with_reducible repeat(first | apply Kd.R_alloc | apply Kd.R_drewN | apply Kd.R_drew));exact HO151.out))) (bwZ (by repeat(first |(with_reducible first | exact HB.out | apply bwA | apply bwN | apply bw1) | exact HB.out))));have n7_:=Aside0.mk (bwT (by repeat(first |(with_reducible first | exact HB.out | apply bwA | apply bwN | apply bw1) | exact HB.out)) hb);clear HO131;clear HO135;clear HO139;clear HO144;clear HO148;clear HO151;clear HB;have HO131:=n0_;have HO135:=n1_;have HO139:=n2_;have HO144:=n3_;have HO148:=n4_;have HO151:=n5_;have HO155:=n6_;have HB:=n7_;clear n0_ n1_ n2_ n3_ n4_ n5_ n6_ n7_;clear hb ho61;obtain ⟨Ao62,co62,eo62⟩:=Kd.R_slice HO135.out;subst eo62;obtain ⟨Ao63,co63,eo63⟩:=Kd.R_slice HO155.out;subst eo63) |(go_at_call 22;(with_reducible refine(w10_ints.calls k _ _ t132 _ _ y153 true _ ?side1 ?side2 ?side3 ?side4 A19.out).mono ?_);(case side1=>repeat(first | exact(Kd.R_reads' HO135.out).2.2 |(with_reducible refine Kd.C_alloc ?_ _) |(with_reducible refine Kd.C_drewN ?_ _) |(with_reducible refine Kd.C_drew ?_)));(case side2=>exact(Kd.R_reads' HO135.out).2.1);(case side3=>repeat(first | exact(Kd.R_reads' HO155.out).2.2 |(with_reducible refine Kd.C_alloc ?_ _) |(with_reducible refine Kd.C_drewN ?_ _) |(with_reducible refine Kd.C_drew ?_)));(case side4=>exact(Kd.R_reads' HO155.out).2.1);rintro e w' ⟨rfl,⟨nd,rfl⟩⟩) |((with_reducible refine gate_dst (N:=56) rfl ?_);(try(refine gate_guard (by rfl) ?_;dsimp only));refine Kd.R_lit (Kd.int .i64) _ 3 ?hg (N:=56) ?hd (xs:=([3,2,1] : List Int)) (inner:=[.int .i64 3,.int .i64 2,.int .i64 1]) (ok:=fun _=>True) (okp:=fun _=>True) ?hr ?hp (fun _ hk=>hk) trivial (Below.refl _ _) (Nat.le_refl _) (by simp) ?_;(case hd=>rfl);(case hg=>rfl);(case hr=>first |(go_simp;done) |(go_simp;rfl));(case hp=>exact(Reps.one (show Kd.M (Kd.int .i64) _ _ _ 3 [.int .i64 3] from rfl) (Reps.one (show Kd.M (Kd.int .i64) _ _ _ 2 [.int .i64 2] from rfl) (Reps.one (show Kd.M (Kd.int .i64) _ _ _ 1 [.int .i64 1] from rfl) (Reps.none _ _)))));intro v158 w64 ho65 hb hg_ hnew_;clear hg_ hnew_;(first | rw [← Ny157.out] at ho65 |(simp only [Int.reduceToNat] at ho65;rw [← Ny157.out] at ho65));have n0_:=Aside0.mk (Kd.R_elder' (by(with_reducible repeat(first | apply Kd.R_alloc | apply Kd.R_drewN | apply Kd.R_drew));exact HO131.out) (Kd.R_base ho65) hb);have n1_:=Aside0.mk (Kd.R_elder' (by(with_reducible repeat(first | apply Kd.R_alloc | apply Kd.R_drewN | apply Kd.R_drew));exact HO135.out) (Kd.R_base ho65) hb);have n2_:=Aside0.mk (Kd.R_elder' (by(with_reducible repeat(first | apply Kd.R_alloc | apply Kd.R_drewN | apply Kd.R_drew));exact HO139.out) (Kd.R_base ho65) hb);have n3_:=Aside0.mk (Kd.R_elder' (by(with_reducible repeat(first | apply Kd.R_alloc | apply Kd.R_drewN | apply Kd.R_drew));exact HO144.out) (Kd.R_base ho65) hb);have n4_:=Aside0.mk (Kd.R_elder' (by(with_reducible repeat(first | apply Kd.R_alloc | apply Kd.R_drewN | apply Kd.R_drew));exact HO148.out) (Kd.R_base ho65) hb);have n5_:=Aside0.mk (Kd.R_elder' (by(with_reducible repeat(first | apply Kd.R_alloc | apply Kd.R_drewN | apply Kd.R_drew));exact HO151.out) (Kd.R_base ho65) hb);have n6_:=Aside0.mk (Kd.R_elder' (by(with_reducible repeat(first | apply Kd.R_alloc | apply Kd.R_drewN | apply Kd.R_drew));exact HO155.out) (Kd.R_base ho65) hb);have n7_:=Aside0.mk (Kd.R_lower (Kd.R_new' (Kd.R_new' (Kd.R_new' (Kd.R_new' (Kd.R_new' (Kd.R_new' (Kd.R_new' ho65 (Kd.R_lt (by(with_reducible repeat(first | apply Kd.R_alloc | apply Kd.R_drewN | apply Kd.R_drew));exact HO131.out))) (Kd.R_lt (by(with_reducible repeat(first | apply Kd.R_alloc | apply Kd.R_drewN | apply Kd.R_drew));exact HO135.out))) (Kd.R_lt (by(with_reducible repeat(first | apply Kd.R_alloc | apply Kd.R_drewN | apply Kd.R_drew));exact HO139.out))) (Kd.R_lt (by(with_reducible repeat(first | apply Kd.R_alloc | apply Kd.R_drewN | apply Kd.R_drew));exact HO144.out))) (Kd.R_lt (by(with_reducible repeat(first | apply Kd.R_alloc | apply Kd.R_drewN | apply Kd.R_drew));exact HO148.out))) (Kd.R_lt (by(with_reducible repeat(first | apply Kd.R_alloc | apply Kd.R_drewN | apply Kd.R_drew));exact HO151.out))) (Kd.R_lt (by(with_reducible repeat(first | apply Kd.R_alloc | apply Kd.R_drewN | apply Kd.R_drew));exact HO155.out))) (bwZ (by repeat(first |(with_reducible first | exact HB.out | apply bwA | apply bwN | apply bw1) | exact HB.out))));have n8_:=Aside0.mk (bwT (by repeat(first |(with_reducible first | exact HB.out | apply bwA | apply bwN | apply bw1) | exact HB.out)) hb);clear HO131;clear HO135;clear HO139;clear HO144;clear HO148;clear HO151;clear HO155;clear HB;have HO131:=n0_;have HO135:=n1_;have HO139:=n2_;have HO144:=n3_;have HO148:=n4_;have HO151:=n5_;have HO155:=n6_;have HO159:=n7_;have HB:=n8_;clear n0_ n1_ n2_ n3_ n4_ n5_ n6_ n7_ n8_;clear hb ho65;obtain ⟨Ao66,co66,eo66⟩:=Kd.R_slice HO139.out;subst eo66;obtain ⟨Ao67,co67,eo67⟩:=Kd.R_slice HO159.out;subst eo67) |(go_at_call 22;(with_reducible refine(w10_ints.calls k _ _ t136 _ _ y157 true _ ?side1 ?side2 ?side3 ?side4 A22.out).mono ?_);(case side1=>repeat(first | exact(Kd.R_reads' HO139.out).2.2 |(with_reducible refine Kd.C_alloc ?_ _) |(with_reducible refine Kd.C_drewN ?_ _) |(with_reducible refine Kd.C_drew ?_)));(case side2=>exact(Kd.R_reads' HO139.out).2.1);(case side3=>repeat(first | exact(Kd.R_reads' HO159.out).2.2 |(with_reducible refine Kd.C_alloc ?_ _) |(with_reducible refine Kd.C_drewN ?_ _) |(with_reducible refine Kd.C_drew ?_)));(case side4=>exact(Kd.R_reads' HO159.out).2.1);rintro e w' ⟨rfl,⟨nd,rfl⟩⟩))
   go_meet
   exact⟨_,(true),(by first | rfl |(simp;done) |(simp [*];done)),H',⟨by first | omega | exact Nat.le_refl _⟩,⟨by repeat(first |(with_reducible first | exact HB.out | apply bwA | apply bwN | apply bw1) | exact HB.out)⟩⟩
  rw [if_pos c25] at H
  have c25b0 :(t140 == 52) = true:=beq_iff_eq.mpr c25
  have c25b1 :(t140 != 52) = false:=bne_eq_false_iff_eq.mpr c25
  clear c25
  by_cases c26 : t146 = 0
  rotate_left
  ·rw [if_neg c26] at H
   have c26b0 :(t146 == 0) = false:=beq_eq_false_iff_ne.mpr c26
   have c26b1 :(t146 != 0) = true:=bne_iff_ne.mpr c26
   have H':=Aside0.mk H
   clear H
   go_wp2_with (first |((with_reducible refine gate_dst (N:=36) rfl ?_);(try(refine gate_guard (by rfl) ?_;dsimp only));refine Kd.R_lit (Kd.int .i64) _ 3 ?hg (N:=36) ?hd (xs:=([1,2] : List Int)) (inner:=[.int .i64 1,.int .i64 2]) (ok:=fun _=>True) (okp:=fun _=>True) ?hr ?hp (fun _ hk=>hk) trivial (Below.refl _ _) (Nat.le_refl _) (by simp) ?_;(case hd=>rfl);(case hg=>rfl);(case hr=>first |(go_simp;done) |(go_simp;rfl));(case hp=>exact(Reps.one (show Kd.M (Kd.int .i64) _ _ _ 1 [.int .i64 1] from rfl) (Reps.one (show Kd.M (Kd.int .i64) _ _ _ 2 [.int .i64 2] from rfl) (Reps.none _ _))));intro v150 w44 ho45 hb hg_ hnew_;clear hg_ hnew_;(first | rw [← Ny149.out] at ho45 |(simp only [Int.reduceToNat] at ho45;rw [← Ny149.out] at ho45));have n0_:=Aside0.mk (Kd.R_elder' (by(with_reducible repeat(first | apply Kd.R_alloc | apply Kd.R_drewN | apply Kd.R_drew));exact HO131.out) (Kd.R_base ho45) hb);have n1_:=Aside0.mk (Kd.R_elder' (by(with_reducible repeat(first | apply Kd.R_alloc | apply Kd.R_drewN | apply Kd.R_drew));exact HO135.out) (Kd.R_base ho45) hb);have n2_:=Aside0.mk (Kd.R_elder' (by(with_reducible repeat(first | apply Kd.R_alloc | apply Kd.R_drewN | apply Kd.R_drew));exact HO139.out) (Kd.R_base ho45) hb);have n3_:=Aside0.mk (Kd.R_elder' (by(with_reducible repeat(first | apply Kd.R_alloc | apply Kd.R_drewN | apply Kd.R_drew));exact HO144.out) (Kd.R_base ho45) hb);have n4_:=Aside0.mk (Kd.R_elder' (by(with_reducible repeat(first | apply Kd.R_alloc | apply Kd.R_drewN | apply Kd.R_drew));exact HO148.out) (Kd.R_base ho45) hb);have n5_:=Aside0.mk (Kd.R_lower (Kd.R_new' (Kd.R_new' (Kd.R_new' (Kd.R_new' (Kd.R_new' ho45 (Kd.R_lt (by(with_reducible repeat(first | apply Kd.R_alloc | apply Kd.R_drewN | apply Kd.R_drew));exact HO131.out))) (Kd.R_lt (by(with_reducible repeat(first | apply Kd.R_alloc | apply Kd.R_drewN | apply Kd.R_drew));exact HO135.out))) (Kd.R_lt (by(with_reducible repeat(first | apply Kd.R_alloc | apply Kd.R_drewN | apply Kd.R_drew));exact HO139.out))) (Kd.R_lt (by(with_reducible repeat(first | apply Kd.R_alloc | apply Kd.R_drewN | apply Kd.R_drew));exact HO144.out))) (Kd.R_lt (by(with_reducible repeat(first | apply Kd.R_alloc | apply Kd.R_drewN | apply Kd.R_drew));exact HO148.out))) (bwZ (by repeat(first |(with_reducible first | exact HB.out | apply bwA | apply bwN | apply bw1) | exact HB.out))));have n6_:=Aside0.mk (bwT (by repeat(first |(with_reducible first | exact HB.out | apply bwA | apply bwN | apply bw1) | exact HB.out)) hb);clear HO131;clear HO135;clear HO139;clear HO144;clear HO148;clear HB;have HO131:=n0_;have HO135:=n1_;have HO139:=n2_;have HO144:=n3_;have HO148:=n4_;have HO151:=n5_;have HB:=n6_;clear n0_ n1_ n2_ n3_ n4_ n5_ n6_;clear hb ho45;obtain ⟨Ao46,co46,eo46⟩:=Kd.R_slice HO131.out;subst eo46;obtain ⟨Ao47,co47,eo47⟩:=Kd.R_slice HO151.out;subst eo47) |(go_at_call 22;(with_reducible refine(w10_ints.calls k _ _ t128 _ _ y149 true _ ?side1 ?side2 ?side3 ?side4 A16.out).mono ?_);(case side1=>repeat(first | exact(Kd.R_reads' HO131.out).2.2 |(with_reducible refine Kd.C_alloc ?_ _) |(with_reducible refine Kd.C_drewN ?_ _) |(with_reducible refine Kd.C_drew ?_)));(case side2=>exact(Kd.R_reads' HO131.out).2.1);(case side3=>repeat(first | exact(Kd.R_reads' HO151.out).2.2 |(with_reducible refine Kd.C_alloc ?_ _) |(with_reducible refine Kd.C_drewN ?_ _) |(with_reducible refine Kd.C_drew ?_)));(case side4=>exact(Kd.R_reads' HO151.out).2.1);rintro e w' ⟨rfl,⟨nd,rfl⟩⟩) |((with_reducible refine gate_dst (N:=46) rfl ?_);(try(refine gate_guard (by rfl) ?_;dsimp only));refine Kd.R_lit (Kd.int .i64) _ 3 ?hg (N:=46) ?hd (xs:=([2,3] : List Int)) (inner:=[.int .i64 2,.int .i64 3]) (ok:=fun _=>True) (okp:=fun _=>True) ?hr ?hp (fun _ hk=>hk) trivial (Below.refl _ _) (Nat.le_refl _) (by simp) ?_;(case hd=>rfl);(case hg=>rfl);(case hr=>first |(go_simp;done) |(go_simp;rfl));(case hp=>exact(Reps.one (show Kd.M (Kd.int .i64) _ _ _ 2 [.int .i64 2] from rfl) (Reps.one (show Kd.M (Kd.int .i64) _ _ _ 3 [.int .i64 3] from rfl) (Reps.none _ _))));intro v154 w48 ho49 hb hg_ hnew_;clear hg_ hnew_;(first | rw [← Ny153.out] at ho49 |(simp only [Int.reduceToNat] at ho49;rw [← Ny153.out] at ho49));have n0_:=Aside0.mk (Kd.R_elder' (by(with_reducible repeat(first | apply Kd.R_alloc | apply Kd.R_drewN | apply Kd.R_drew));exact HO131.out) (Kd.R_base ho49) hb);have n1_:=Aside0.mk (Kd.R_elder' (by(with_reducible repeat(first | apply Kd.R_alloc | apply Kd.R_drewN | apply Kd.R_drew));exact HO135.out) (Kd.R_base ho49) hb);have n2_:=Aside0.mk (Kd.R_elder' (by(with_reducible repeat(first | apply Kd.R_alloc | apply Kd.R_drewN | apply Kd.R_drew));exact HO139.out) (Kd.R_base ho49) hb);have n3_:=Aside0.mk (Kd.R_elder' (by(with_reducible repeat(first | apply Kd.R_alloc | apply Kd.R_drewN | apply Kd.R_drew));exact HO144.out) (Kd.R_base ho49) hb);have n4_:=Aside0.mk (Kd.R_elder' (by(with_reducible repeat(first | apply Kd.R_alloc | apply Kd.R_drewN | apply Kd.R_drew));exact HO148.out) (Kd.R_base ho49) hb);have n5_:=Aside0.mk (Kd.R_elder' (by(with_reducible repeat(first | apply Kd.R_alloc | apply Kd.R_drewN | apply Kd.R_drew));exact HO151.out) (Kd.R_base ho49) hb);have n6_:=Aside0.mk (Kd.R_lower (Kd.R_new' (Kd.R_new' (Kd.R_new' (Kd.R_new' (Kd.R_new' (Kd.R_new' ho49 (Kd.R_lt (by(with_reducible repeat(first | apply Kd.R_alloc | apply Kd.R_drewN | apply Kd.R_drew));exact HO131.out))) (Kd.R_lt (by(with_reducible repeat(first | apply Kd.R_alloc | apply Kd.R_drewN | apply Kd.R_drew));exact HO135.out))) (Kd.R_lt (by(with_reducible repeat(first | apply Kd.R_alloc | apply Kd.R_drewN | apply Kd.R_drew));exact HO139.out))) (Kd.R_lt (by(with_reducible repeat(first | apply Kd.R_alloc | apply Kd.R_drewN | apply Kd.R_drew));exact HO144.out))) (Kd.R_lt (by(with_reducible repeat(first | apply Kd.R_alloc | apply Kd.R_drewN | apply Kd.R_drew));exact HO148.out))) (Kd.R_lt (by(with_reducible repeat(first | apply Kd.R_alloc | apply Kd.R_drewN | apply Kd.R_drew));exact HO151.out))) (bwZ (by repeat(first |(with_reducible first | exact HB.out | apply bwA | apply bwN | apply bw1) | exact HB.out))));have n7_:=Aside0.mk (bwT (by repeat(first |(with_reducible first | exact HB.out | apply bwA | apply bwN | apply bw1) | exact HB.out)) hb);clear HO131;clear HO135;clear HO139;clear HO144;clear HO148;clear HO151;clear HB;have HO131:=n0_;have HO135:=n1_;have HO139:=n2_;have HO144:=n3_;have HO148:=n4_;have HO151:=n5_;have HO155:=n6_;have HB:=n7_;clear n0_ n1_ n2_ n3_ n4_ n5_ n6_ n7_;clear hb ho49;obtain ⟨Ao50,co50,eo50⟩:=Kd.R_slice HO135.out;subst eo50;obtain ⟨Ao51,co51,eo51⟩:=Kd.R_slice HO155.out;subst eo51) |(go_at_call 22;(with_reducible refine(w10_ints.calls k _ _ t132 _ _ y153 true _ ?side1 ?side2 ?side3 ?side4 A19.out).mono ?_);(case side1=>repeat(first | exact(Kd.R_reads' HO135.out).2.2 |(with_reducible refine Kd.C_alloc ?_ _) |(with_reducible refine Kd.C_drewN ?_ _) |(with_reducible refine Kd.C_drew ?_)));(case side2=>exact(Kd.R_reads' HO135.out).2.1);(case side3=>repeat(first | exact(Kd.R_reads' HO155.out).2.2 |(with_reducible refine Kd.C_alloc ?_ _) |(with_reducible refine Kd.C_drewN ?_ _) |(with_reducible refine Kd.C_drew ?_)));(case side4=>exact(Kd.R_reads' HO155.out).2.1);rintro e w' ⟨rfl,⟨nd,rfl⟩⟩) |((with_reducible refine gate_dst (N:=56) rfl ?_);(try(refine gate_guard (by rfl) ?_;dsimp only));refine Kd.R_lit (Kd.int .i64) _ 3 ?hg (N:=56) ?hd (xs:=([3,2,1] : List Int)) (inner:=[.int .i64 3,.int .i64 2,.int .i64 1]) (ok:=fun _=>True) (okp:=fun _=>True) ?hr ?hp (fun _ hk=>hk) trivial (Below.refl _ _) (Nat.le_refl _) (by simp) ?_;(case hd=>rfl);(case hg=>rfl);(case hr=>first |(go_simp;done) |(go_simp;rfl));(case hp=>exact(Reps.one (show Kd.M (Kd.int .i64) _ _ _ 3 [.int .i64 3] from rfl) (Reps.one (show Kd.M (Kd.int .i64) _ _ _ 2 [.int .i64 2] from rfl) (Reps.one (show Kd.M (Kd.int .i64) _ _ _ 1 [.int .i64 1] from rfl) (Reps.none _ _)))));intro v158 w52 ho53 hb hg_ hnew_;clear hg_ hnew_;(first | rw [← Ny157.out] at ho53 |(simp only [Int.reduceToNat] at ho53;rw [← Ny157.out] at ho53));have n0_:=Aside0.mk (Kd.R_elder' (by(with_reducible repeat(first | apply Kd.R_alloc | apply Kd.R_drewN | apply Kd.R_drew));exact HO131.out) (Kd.R_base ho53) hb);have n1_:=Aside0.mk (Kd.R_elder' (by(with_reducible repeat(first | apply Kd.R_alloc | apply Kd.R_drewN | apply Kd.R_drew));exact HO135.out) (Kd.R_base ho53) hb);have n2_:=Aside0.mk (Kd.R_elder' (by(with_reducible repeat(first | apply Kd.R_alloc | apply Kd.R_drewN | apply Kd.R_drew));exact HO139.out) (Kd.R_base ho53) hb);have n3_:=Aside0.mk (Kd.R_elder' (by(with_reducible repeat(first | apply Kd.R_alloc | apply Kd.R_drewN | apply Kd.R_drew));exact HO144.out) (Kd.R_base ho53) hb);have n4_:=Aside0.mk (Kd.R_elder' (by(with_reducible repeat(first | apply Kd.R_alloc | apply Kd.R_drewN | apply Kd.R_drew));exact HO148.out) (Kd.R_base ho53) hb);have n5_:=Aside0.mk (Kd.R_elder' (by(with_reducible repeat(first | apply Kd.R_alloc | apply Kd.R_drewN | apply Kd.R_drew));exact HO151.out) (Kd.R_base ho53) hb);have n6_:=Aside0.mk (Kd.R_elder' (by(with_reducible repeat(first | apply Kd.R_alloc | apply Kd.R_drewN | apply Kd.R_drew));exact HO155.out) (Kd.R_base ho53) hb);have n7_:=Aside0.mk (Kd.R_lower (Kd.R_new' (Kd.R_new' (Kd.R_new' (Kd.R_new' (Kd.R_new' (Kd.R_new' (Kd.R_new' ho53 (Kd.R_lt (by(with_reducible repeat(first | apply Kd.R_alloc | apply Kd.R_drewN | apply Kd.R_drew));exact HO131.out))) (Kd.R_lt (by(with_reducible repeat(first | apply Kd.R_alloc | apply Kd.R_drewN | apply Kd.R_drew));exact HO135.out))) (Kd.R_lt (by(with_reducible repeat(first | apply Kd.R_alloc | apply Kd.R_drewN | apply Kd.R_drew));exact HO139.out))) (Kd.R_lt (by(with_reducible repeat(first | apply Kd.R_alloc | apply Kd.R_drewN | apply Kd.R_drew));exact HO144.out))) (Kd.R_lt (by(with_reducible repeat(first | apply Kd.R_alloc | apply Kd.R_drewN | apply Kd.R_drew));exact HO148.out))) (Kd.R_lt (by(with_reducible repeat(first | apply Kd.R_alloc | apply Kd.R_drewN | apply Kd.R_drew));exact HO151.out))) (Kd.R_lt (by(with_reducible repeat(first | apply Kd.R_alloc | apply Kd.R_drewN | apply Kd.R_drew));exact HO155.out))) (bwZ (by repeat(first |(with_reducible first | exact HB.out | apply bwA | apply bwN | apply bw1) | exact HB.out))));have n8_:=Aside0.mk (bwT (by repeat(first |(with_reducible first | exact HB.out | apply bwA | apply bwN | apply bw1) | exact HB.out)) hb);clear HO131;clear HO135;clear HO139;clear HO144;clear HO148;clear HO151;clear HO155;clear HB;have HO131:=n0_;have HO135:=n1_;have HO139:=n2_;have HO144:=n3_;have HO148:=n4_;have HO151:=n5_;have HO155:=n6_;have HO159:=n7_;have HB:=n8_;clear n0_ n1_ n2_ n3_ n4_ n5_ n6_ n7_ n8_;clear hb ho53;obtain ⟨Ao54,co54,eo54⟩:=Kd.R_slice HO139.out;subst eo54;obtain ⟨Ao55,co55,eo55⟩:=Kd.R_slice HO159.out;subst eo55) |(go_at_call 22;(with_reducible refine(w10_ints.calls k _ _ t136 _ _ y157 true _ ?side1 ?side2 ?side3 ?side4 A22.out).mono ?_);(case side1=>repeat(first | exact(Kd.R_reads' HO139.out).2.2 |(with_reducible refine Kd.C_alloc ?_ _) |(with_reducible refine Kd.C_drewN ?_ _) |(with_reducible refine Kd.C_drew ?_)));(case side2=>exact(Kd.R_reads' HO139.out).2.1);(case side3=>repeat(first | exact(Kd.R_reads' HO159.out).2.2 |(with_reducible refine Kd.C_alloc ?_ _) |(with_reducible refine Kd.C_drewN ?_ _) |(with_reducible refine Kd.C_drew ?_)));(case side4=>exact(Kd.R_reads' HO159.out).2.1);rintro e w' ⟨rfl,⟨nd,rfl⟩⟩))
   go_meet
   exact⟨_,(true),(by first | rfl |(simp;done) |(simp [*];done)),H',⟨by first | omega | exact Nat.le_refl _⟩,⟨by repeat(first |(with_reducible first | exact HB.out | apply bwA | apply bwN | apply bw1) | exact HB.out)⟩⟩
  rw [if_pos c26] at H
  have c26b0 :(t146 == 0) = true:=beq_iff_eq.mpr c26
  have c26b1 :(t146 != 0) = false:=bne_eq_false_iff_eq.mpr c26
  clear c26
  obtain ⟨y161,hy161⟩ : ∃ y_ : List Int,y_ =(([1,2] : List Int)):=⟨_,rfl⟩
  replace H :((w10_ints.f k t145 y161).bind fun t164=>(w10_awake.j0 k (!t164))) = some r:=by first |(rw [hy161];with_reducible exact H) |(have H2_:=(Option.bind_some _ _).symm.trans H;rw [hy161];with_reducible exact H2_) |(have H2_:=(Option.bind_some _ _).symm.trans H;with_reducible exact H2_) | with_reducible exact H |(rw [hy161];exact H) | exact H
  have Ny161:=Aside0.mk hy161
  clear hy161
  replace H:=Option.bind_eq_some_iff.mp H
  obtain ⟨t164,A270,H⟩:=H
  replace H :(w10_awake.j0 k (!t164)) = some r:=H
  have A27:=Aside0.mk A270
  clear A270
  have H':=Aside0.mk H
  clear H
  go_wp2_with (first |((with_reducible refine gate_dst (N:=36) rfl ?_);(try(refine gate_guard (by rfl) ?_;dsimp only));refine Kd.R_lit (Kd.int .i64) _ 3 ?hg (N:=36) ?hd (xs:=([1,2] : List Int)) (inner:=[.int .i64 1,.int .i64 2]) (ok:=fun _=>True) (okp:=fun _=>True) ?hr ?hp (fun _ hk=>hk) trivial (Below.refl _ _) (Nat.le_refl _) (by simp) ?_;(case hd=>rfl);(case hg=>rfl);(case hr=>first |(go_simp;done) |(go_simp;rfl));(case hp=>exact(Reps.one (show Kd.M (Kd.int .i64) _ _ _ 1 [.int .i64 1] from rfl) (Reps.one (show Kd.M (Kd.int .i64) _ _ _ 2 [.int .i64 2] from rfl) (Reps.none _ _))));intro v150 w28 ho29 hb hg_ hnew_;clear hg_ hnew_;(first | rw [← Ny149.out] at ho29 |(simp only [Int.reduceToNat] at ho29;rw [← Ny149.out] at ho29));have n0_:=Aside0.mk (Kd.R_elder' (by(with_reducible repeat(first | apply Kd.R_alloc | apply Kd.R_drewN | apply Kd.R_drew));exact HO131.out) (Kd.R_base ho29) hb);have n1_:=Aside0.mk (Kd.R_elder' (by(with_reducible repeat(first | apply Kd.R_alloc | apply Kd.R_drewN | apply Kd.R_drew));exact HO135.out) (Kd.R_base ho29) hb);have n2_:=Aside0.mk (Kd.R_elder' (by(with_reducible repeat(first | apply Kd.R_alloc | apply Kd.R_drewN | apply Kd.R_drew));exact HO139.out) (Kd.R_base ho29) hb);have n3_:=Aside0.mk (Kd.R_elder' (by(with_reducible repeat(first | apply Kd.R_alloc | apply Kd.R_drewN | apply Kd.R_drew));exact HO144.out) (Kd.R_base ho29) hb);have n4_:=Aside0.mk (Kd.R_elder' (by(with_reducible repeat(first | apply Kd.R_alloc | apply Kd.R_drewN | apply Kd.R_drew));exact HO148.out) (Kd.R_base ho29) hb);have n5_:=Aside0.mk (Kd.R_lower (Kd.R_new' (Kd.R_new' (Kd.R_new' (Kd.R_new' (Kd.R_new' ho29 (Kd.R_lt (by(with_reducible repeat(first | apply Kd.R_alloc | apply Kd.R_drewN | apply Kd.R_drew));exact HO131.out))) (Kd.R_lt (by(with_reducible repeat(first | apply Kd.R_alloc | apply Kd.R_drewN | apply Kd.R_drew));exact HO135.out))) (Kd.R_lt (by(with_reducible repeat(first | apply Kd.R_alloc | apply Kd.R_drewN | apply Kd.R_drew));exact HO139.out))) (Kd.R_lt (by(with_reducible repeat(first | apply Kd.R_alloc | apply Kd.R_drewN | apply Kd.R_drew));exact HO144.out))) (Kd.R_lt (by(with_reducible repeat(first | apply Kd.R_alloc | apply Kd.R_drewN | apply Kd.R_drew));exact HO148.out))) (bwZ (by repeat(first |(with_reducible first | exact HB.out | apply bwA | apply bwN | apply bw1) | exact HB.out))));have n6_:=Aside0.mk (bwT (by repeat(first |(with_reducible first | exact HB.out | apply bwA | apply bwN | apply bw1) | exact HB.out)) hb);clear HO131;clear HO135;clear HO139;clear HO144;clear HO148;clear HB;have HO131:=n0_;have HO135:=n1_;have HO139:=n2_;have HO144:=n3_;have HO148:=n4_;have HO151:=n5_;have HB:=n6_;clear n0_ n1_ n2_ n3_ n4_ n5_ n6_;clear hb ho29;obtain ⟨Ao30,co30,eo30⟩:=Kd.R_slice HO131.out;subst eo30;obtain ⟨Ao31,co31,eo31⟩:=Kd.R_slice HO151.out;subst eo31) |(go_at_call 22;(with_reducible refine(w10_ints.calls k _ _ t128 _ _ y149 true _ ?side1 ?side2 ?side3 ?side4 A16.out).mono ?_);(case side1=>repeat(first | exact(Kd.R_reads' HO131.out).2.2 |(with_reducible refine Kd.C_alloc ?_ _) |(with_reducible refine Kd.C_drewN ?_ _) |(with_reducible refine Kd.C_drew ?_)));(case side2=>exact(Kd.R_reads' HO131.out).2.1);(case side3=>repeat(first | exact(Kd.R_reads' HO151.out).2.2 |(with_reducible refine Kd.C_alloc ?_ _) |(with_reducible refine Kd.C_drewN ?_ _) |(with_reducible refine Kd.C_drew ?_)));(case side4=>exact(Kd.R_reads' HO151.out).2.1);rintro e w' ⟨rfl,⟨nd,rfl⟩⟩) |((with_reducible refine gate_dst (N:=46) rfl ?_);(try(refine gate_guard (by rfl) ?_;dsimp only));refine Kd.R_lit (Kd.int .i64) _ 3 ?hg (N:=46) ?hd (xs:=([2,3] : List Int)) (inner:=[.int .i64 2,.int .i64 3]) (ok:=fun _=>True) (okp:=fun _=>True) ?hr ?hp (fun _ hk=>hk) trivial (Below.refl _ _) (Nat.le_refl _) (by simp) ?_;(case hd=>rfl);(case hg=>rfl);(case hr=>first |(go_simp;done) |(go_simp;rfl));(case hp=>exact(Reps.one (show Kd.M (Kd.int .i64) _ _ _ 2 [.int .i64 2] from rfl) (Reps.one (show Kd.M (Kd.int .i64) _ _ _ 3 [.int .i64 3] from rfl) (Reps.none _ _))));intro v154 w32 ho33 hb hg_ hnew_;clear hg_ hnew_;(first | rw [← Ny153.out] at ho33 |(simp only [Int.reduceToNat] at ho33;rw [← Ny153.out] at ho33));have n0_:=Aside0.mk (Kd.R_elder' (by(with_reducible repeat(first | apply Kd.R_alloc | apply Kd.R_drewN | apply Kd.R_drew));exact HO131.out) (Kd.R_base ho33) hb);have n1_:=Aside0.mk (Kd.R_elder' (by(with_reducible repeat(first | apply Kd.R_alloc | apply Kd.R_drewN | apply Kd.R_drew));exact HO135.out) (Kd.R_base ho33) hb);have n2_:=Aside0.mk (Kd.R_elder' (by(with_reducible repeat(first | apply Kd.R_alloc | apply Kd.R_drewN | apply Kd.R_drew));exact HO139.out) (Kd.R_base ho33) hb);have n3_:=Aside0.mk (Kd.R_elder' (by(with_reducible repeat(first | apply Kd.R_alloc | apply Kd.R_drewN | apply Kd.R_drew));exact HO144.out) (Kd.R_base ho33) hb);have n4_:=Aside0.mk (Kd.R_elder' (by(with_reducible repeat(first | apply Kd.R_alloc | apply Kd.R_drewN | apply Kd.R_drew));exact HO148.out) (Kd.R_base ho33) hb);have n5_:=Aside0.mk (Kd.R_elder' (by(with_reducible repeat(first | apply Kd.R_alloc | apply Kd.R_drewN | apply Kd.R_drew));exact HO151.out) (Kd.R_base ho33) hb);have n6_:=Aside0.mk (Kd.R_lower (Kd.R_new' (Kd.R_new' (Kd.R_new' (Kd.R_new' (Kd.R_new' (Kd.R_new' ho33 (Kd.R_lt (by(with_reducible repeat(first | apply Kd.R_alloc | apply Kd.R_drewN | apply Kd.R_drew));exact HO131.out))) (Kd.R_lt (by(with_reducible repeat(first | apply Kd.R_alloc | apply Kd.R_drewN | apply Kd.R_drew));exact HO135.out))) (Kd.R_lt (by(with_reducible repeat(first | apply Kd.R_alloc | apply Kd.R_drewN | apply Kd.R_drew));exact HO139.out))) (Kd.R_lt (by(with_reducible repeat(first | apply Kd.R_alloc | apply Kd.R_drewN | apply Kd.R_drew));exact HO144.out))) (Kd.R_lt (by(with_reducible repeat(first | apply Kd.R_alloc | apply Kd.R_drewN | apply Kd.R_drew));exact HO148.out))) (Kd.R_lt (by(with_reducible repeat(first | apply Kd.R_alloc | apply Kd.R_drewN | apply Kd.R_drew));exact HO151.out))) (bwZ (by repeat(first |(with_reducible first | exact HB.out | apply bwA | apply bwN | apply bw1) | exact HB.out))));have n7_:=Aside0.mk (bwT (by repeat(first |(with_reducible first | exact HB.out | apply bwA | apply bwN | apply bw1) | exact HB.out)) hb);clear HO131;clear HO135;clear HO139;clear HO144;clear HO148;clear HO151;clear HB;have HO131:=n0_;have HO135:=n1_;have HO139:=n2_;have HO144:=n3_;have HO148:=n4_;have HO151:=n5_;have HO155:=n6_;have HB:=n7_;clear n0_ n1_ n2_ n3_ n4_ n5_ n6_ n7_;clear hb ho33;obtain ⟨Ao34,co34,eo34⟩:=Kd.R_slice HO135.out;subst eo34;obtain ⟨Ao35,co35,eo35⟩:=Kd.R_slice HO155.out;subst eo35) |(go_at_call 22;(with_reducible refine(w10_ints.calls k _ _ t132 _ _ y153 true _ ?side1 ?side2 ?side3 ?side4 A19.out).mono ?_);(case side1=>repeat(first | exact(Kd.R_reads' HO135.out).2.2 |(with_reducible refine Kd.C_alloc ?_ _) |(with_reducible refine Kd.C_drewN ?_ _) |(with_reducible refine Kd.C_drew ?_)));(case side2=>exact(Kd.R_reads' HO135.out).2.1);(case side3=>repeat(first | exact(Kd.R_reads' HO155.out).2.2 |(with_reducible refine Kd.C_alloc ?_ _) |(with_reducible refine Kd.C_drewN ?_ _) |(with_reducible refine Kd.C_drew ?_)));(case side4=>exact(Kd.R_reads' HO155.out).2.1);rintro e w' ⟨rfl,⟨nd,rfl⟩⟩) |((with_reducible refine gate_dst (N:=56) rfl ?_);(try(refine gate_guard (by rfl) ?_;dsimp only));refine Kd.R_lit (Kd.int .i64) _ 3 ?hg (N:=56) ?hd (xs:=([3,2,1] : List Int)) (inner:=[.int .i64 3,.int .i64 2,.int .i64 1]) (ok:=fun _=>True) (okp:=fun _=>True) ?hr ?hp (fun _ hk=>hk) trivial (Below.refl _ _) (Nat.le_refl _) (by simp) ?_;(case hd=>rfl);(case hg=>rfl);(case hr=>first |(go_simp;done) |(go_simp;rfl));(case hp=>exact(Reps.one (show Kd.M (Kd.int .i64) _ _ _ 3 [.int .i64 3] from rfl) (Reps.one (show Kd.M (Kd.int .i64) _ _ _ 2 [.int .i64 2] from rfl) (Reps.one (show Kd.M (Kd.int .i64) _ _ _ 1 [.int .i64 1] from rfl) (Reps.none _ _)))));intro v158 w36 ho37 hb hg_ hnew_;clear hg_ hnew_;(first | rw [← Ny157.out] at ho37 |(simp only [Int.reduceToNat] at ho37;rw [← Ny157.out] at ho37));have n0_:=Aside0.mk (Kd.R_elder' (by(with_reducible repeat(first | apply Kd.R_alloc | apply Kd.R_drewN | apply Kd.R_drew));exact HO131.out) (Kd.R_base ho37) hb);have n1_:=Aside0.mk (Kd.R_elder' (by(with_reducible repeat(first | apply Kd.R_alloc | apply Kd.R_drewN | apply Kd.R_drew));exact HO135.out) (Kd.R_base ho37) hb);have n2_:=Aside0.mk (Kd.R_elder' (by(with_reducible repeat(first | apply Kd.R_alloc | apply Kd.R_drewN | apply Kd.R_drew));exact HO139.out) (Kd.R_base ho37) hb);have n3_:=Aside0.mk (Kd.R_elder' (by(with_reducible repeat(first | apply Kd.R_alloc | apply Kd.R_drewN | apply Kd.R_drew));exact HO144.out) (Kd.R_base ho37) hb);have n4_:=Aside0.mk (Kd.R_elder' (by(with_reducible repeat(first | apply Kd.R_alloc | apply Kd.R_drewN | apply Kd.R_drew));exact HO148.out) (Kd.R_base ho37) hb);have n5_:=Aside0.mk (Kd.R_elder' (by(with_reducible repeat(first | apply Kd.R_alloc | apply Kd.R_drewN | apply Kd.R_drew));exact HO151.out) (Kd.R_base ho37) hb);have n6_:=Aside0.mk (Kd.R_elder' (by(with_reducible repeat(first | apply Kd.R_alloc | apply Kd.R_drewN | apply Kd.R_drew));exact HO155.out) (Kd.R_base ho37) hb);have n7_:=Aside0.mk (Kd.R_lower (Kd.R_new' (Kd.R_new' (Kd.R_new' (Kd.R_new' (Kd.R_new' (Kd.R_new' (Kd.R_new' ho37 (Kd.R_lt (by(with_reducible repeat(first | apply Kd.R_alloc | apply Kd.R_drewN | apply Kd.R_drew));exact HO131.out))) (Kd.R_lt (by(with_reducible repeat(first | apply Kd.R_alloc | apply Kd.R_drewN | apply Kd.R_drew));exact HO135.out))) (Kd.R_lt (by(with_reducible repeat(first | apply Kd.R_alloc | apply Kd.R_drewN | apply Kd.R_drew));exact HO139.out))) (Kd.R_lt (by(with_reducible repeat(first | apply Kd.R_alloc | apply Kd.R_drewN | apply Kd.R_drew));exact HO144.out))) (Kd.R_lt (by(with_reducible repeat(first | apply Kd.R_alloc | apply Kd.R_drewN | apply Kd.R_drew));exact HO148.out))) (Kd.R_lt (by(with_reducible repeat(first | apply Kd.R_alloc | apply Kd.R_drewN | apply Kd.R_drew));exact HO151.out))) (Kd.R_lt (by(with_reducible repeat(first | apply Kd.R_alloc | apply Kd.R_drewN | apply Kd.R_drew));exact HO155.out))) (bwZ (by repeat(first |(with_reducible first | exact HB.out | apply bwA | apply bwN | apply bw1) | exact HB.out))));have n8_:=Aside0.mk (bwT (by repeat(first |(with_reducible first | exact HB.out | apply bwA | apply bwN | apply bw1) | exact HB.out)) hb);clear HO131;clear HO135;clear HO139;clear HO144;clear HO148;clear HO151;clear HO155;clear HB;have HO131:=n0_;have HO135:=n1_;have HO139:=n2_;have HO144:=n3_;have HO148:=n4_;have HO151:=n5_;have HO155:=n6_;have HO159:=n7_;have HB:=n8_;clear n0_ n1_ n2_ n3_ n4_ n5_ n6_ n7_ n8_;clear hb ho37;obtain ⟨Ao38,co38,eo38⟩:=Kd.R_slice HO139.out;subst eo38;obtain ⟨Ao39,co39,eo39⟩:=Kd.R_slice HO159.out;subst eo39) |(go_at_call 22;(with_reducible refine(w10_ints.calls k _ _ t136 _ _ y157 true _ ?side1 ?side2 ?side3 ?side4 A22.out).mono ?_);(case side1=>repeat(first | exact(Kd.R_reads' HO139.out).2.2 |(with_reducible refine Kd.C_alloc ?_ _) |(with_reducible refine Kd.C_drewN ?_ _) |(with_reducible refine Kd.C_drew ?_)));(case side2=>exact(Kd.R_reads' HO139.out).2.1);(case side3=>repeat(first | exact(Kd.R_reads' HO159.out).2.2 |(with_reducible refine Kd.C_alloc ?_ _) |(with_reducible refine Kd.C_drewN ?_ _) |(with_reducible refine Kd.C_drew ?_)));(case side4=>exact(Kd.R_reads' HO159.out).2.1);rintro e w' ⟨rfl,⟨nd,rfl⟩⟩) |((with_reducible refine gate_dst (N:=74) rfl ?_);(try(refine gate_guard (by rfl) ?_;dsimp only));refine Kd.R_lit (Kd.int .i64) _ 3 ?hg (N:=74) ?hd (xs:=([1,2] : List Int)) (inner:=[.int .i64 1,.int .i64 2]) (ok:=fun _=>True) (okp:=fun _=>True) ?hr ?hp (fun _ hk=>hk) trivial (Below.refl _ _) (Nat.le_refl _) (by simp) ?_;(case hd=>rfl);(case hg=>rfl);(case hr=>first |(go_simp;done) |(go_simp;rfl));(case hp=>exact(Reps.one (show Kd.M (Kd.int .i64) _ _ _ 1 [.int .i64 1] from rfl) (Reps.one (show Kd.M (Kd.int .i64) _ _ _ 2 [.int .i64 2] from rfl) (Reps.none _ _))));intro v162 w40 ho41 hb hg_ hnew_;clear hg_ hnew_;(first | rw [← Ny161.out] at ho41 |(simp only [Int.reduceToNat] at ho41;rw [← Ny161.out] at ho41));have n0_:=Aside0.mk (Kd.R_elder' (by(with_reducible repeat(first | apply Kd.R_alloc | apply Kd.R_drewN | apply Kd.R_drew));exact HO131.out) (Kd.R_base ho41) hb);have n1_:=Aside0.mk (Kd.R_elder' (by(with_reducible repeat(first | apply Kd.R_alloc | apply Kd.R_drewN | apply Kd.R_drew));exact HO135.out) (Kd.R_base ho41) hb);have n2_:=Aside0.mk (Kd.R_elder' (by(with_reducible repeat(first | apply Kd.R_alloc | apply Kd.R_drewN | apply Kd.R_drew));exact HO139.out) (Kd.R_base ho41) hb);have n3_:=Aside0.mk (Kd.R_elder' (by(with_reducible repeat(first | apply Kd.R_alloc | apply Kd.R_drewN | apply Kd.R_drew));exact HO144.out) (Kd.R_base ho41) hb);have n4_:=Aside0.mk (Kd.R_elder' (by(with_reducible repeat(first | apply Kd.R_alloc | apply Kd.R_drewN | apply Kd.R_drew));exact HO148.out) (Kd.R_base ho41) hb);have n5_:=Aside0.mk (Kd.R_elder' (by(with_reducible repeat(first | apply Kd.R_alloc | apply Kd.R_drewN | apply Kd.R_drew));exact HO151.out) (Kd.R_base ho41) hb);have n6_:=Aside0.mk (Kd.R_elder' (by(with_reducible repeat(first | apply Kd.R_alloc | apply Kd.R_drewN | apply Kd.R_drew));exact HO155.out) (Kd.R_base ho41) hb);have n7_:=Aside0.mk (Kd.R_elder' (by(with_reducible repeat(first | apply Kd.R_alloc | apply Kd.R_drewN | apply Kd.R_drew));exact HO159.out) (Kd.R_base ho41) hb);have n8_:=Aside0.mk (Kd.R_lower (Kd.R_new' (Kd.R_new' (Kd.R_new' (Kd.R_new' (Kd.R_new' (Kd.R_new' (Kd.R_new' (Kd.R_new' ho41 (Kd.R_lt (by(with_reducible repeat(first | apply Kd.R_alloc | apply Kd.R_drewN | apply Kd.R_drew));exact HO131.out))) (Kd.R_lt (by(with_reducible repeat(first | apply Kd.R_alloc | apply Kd.R_drewN | apply Kd.R_drew));exact HO135.out))) (Kd.R_lt (by(with_reducible repeat(first | apply Kd.R_alloc | apply Kd.R_drewN | apply Kd.R_drew));exact HO139.out))) (Kd.R_lt (by(with_reducible repeat(first | apply Kd.R_alloc | apply Kd.R_drewN | apply Kd.R_drew));exact HO144.out))) (Kd.R_lt (by(with_reducible repeat(first | apply Kd.R_alloc | apply Kd.R_drewN | apply Kd.R_drew));exact HO148.out))) (Kd.R_lt (by(with_reducible repeat(first | apply Kd.R_alloc | apply Kd.R_drewN | apply Kd.R_drew));exact HO151.out))) (Kd.R_lt (by(with_reducible repeat(first | apply Kd.R_alloc | apply Kd.R_drewN | apply Kd.R_drew));exact HO155.out))) (Kd.R_lt (by(with_reducible repeat(first | apply Kd.R_alloc | apply Kd.R_drewN | apply Kd.R_drew));exact HO159.out))) (bwZ (by repeat(first |(with_reducible first | exact HB.out | apply bwA | apply bwN | apply bw1) | exact HB.out))));have n9_:=Aside0.mk (bwT (by repeat(first |(with_reducible first | exact HB.out | apply bwA | apply bwN | apply bw1) | exact HB.out)) hb);clear HO131;clear HO135;clear HO139;clear HO144;clear HO148;clear HO151;clear HO155;clear HO159;clear HB;have HO131:=n0_;have HO135:=n1_;have HO139:=n2_;have HO144:=n3_;have HO148:=n4_;have HO151:=n5_;have HO155:=n6_;have HO159:=n7_;have HO163:=n8_;have HB:=n9_;clear n0_ n1_ n2_ n3_ n4_ n5_ n6_ n7_ n8_ n9_;clear hb ho41;obtain ⟨Ao42,co42,eo42⟩:=Kd.R_slice HO148.out;subst eo42;obtain ⟨Ao43,co43,eo43⟩:=Kd.R_slice HO163.out;subst eo43) |(go_at_call 22;(with_reducible refine(w10_ints.calls k _ _ t145 _ _ y161 t164 _ ?side1 ?side2 ?side3 ?side4 A27.out).mono ?_);(case side1=>repeat(first | exact(Kd.R_reads' HO148.out).2.2 |(with_reducible refine Kd.C_alloc ?_ _) |(with_reducible refine Kd.C_drewN ?_ _) |(with_reducible refine Kd.C_drew ?_)));(case side2=>exact(Kd.R_reads' HO148.out).2.1);(case side3=>repeat(first | exact(Kd.R_reads' HO163.out).2.2 |(with_reducible refine Kd.C_alloc ?_ _) |(with_reducible refine Kd.C_drewN ?_ _) |(with_reducible refine Kd.C_drew ?_)));(case side4=>exact(Kd.R_reads' HO163.out).2.1);rintro e w' ⟨rfl,⟨nd,rfl⟩⟩))
  go_meet
  exact⟨_,(!t164),(by first | rfl |(simp;done) |(simp [*];done)),H',⟨by first | omega | exact Nat.le_refl _⟩,⟨by repeat(first |(with_reducible first | exact HB.out | apply bwA | apply bwN | apply bw1) | exact HB.out)⟩⟩
 case rest =>
  clear HC6
  try clear c1
  try clear c2
  try clear p2
  try clear c3
  try clear c4
  try clear c15
  try clear c15b0
  try clear c15b1
  try clear c17
  try clear c18
  try clear c18b0
  try clear c18b1
  try clear c20
  try clear c21
  try clear c21b0
  try clear c21b1
  try clear c23
  try clear c24
  try clear c24b0
  try clear c24b1
  try clear c25
  try clear c25b0
  try clear c25b1
  try clear c26
  try clear c26b0
  try clear c26b1
  try clear c28
  try clear c31
  try clear c38
  try clear c48
  obtain ⟨kq,x77_5,rfl,HA,HJ5,HB⟩:=hcut
  cases kq with
  | zero=>exact absurd HA.out (by simp [w10_awake.j0])
  | succ kj5 =>
   have H:=HA.out
   clear HA
   simp only [w10_awake.j0] at H
   by_cases c116 : x77_5 = true
   ·subst c116
    have H1 :(some false) = some r:=by rw [if_pos rfl] at H;exact H
    clear H
    have H:=H1
    clear H1
    obtain rfl:=Option.some.inj H
    go_wp2
    go_ret
    exact⟨by first | rfl |(simp [errW_none,errW_some] <;> rfl) |(simp [*,errW_none,errW_some] <;> rfl),by repeat(first |(with_reducible first | exact HB.out | apply bwA | apply bwN | apply bw1) | exact HB.out)⟩
   replace c116:=Bool.eq_false_iff.mpr c116
   subst c116
   have H1 :(some true) = some r:=by rw [if_neg (show ¬ (false = true) by decide)] at H;exact H
   clear H
   have H:=H1
   clear H1
   obtain rfl:=Option.some.inj H
   go_wp2
   go_ret
   exact⟨by first | rfl |(simp [errW_none,errW_some] <;> rfl) |(simp [*,errW_none,errW_some] <;> rfl),by repeat(first |(with_reducible first | exact HB.out | apply bwA | apply bwN | apply bw1) | exact HB.out)⟩

def q10_Product.l0 : Nat → List Int → Int → Int → Option (Int)
 | 0,_,_,_=>none
 | k + 1,x0,x3,x4=>if x4 < (x0.length : Int) then(if 0≤x4 then(q10_Product.l0 k x0 (wrap64 (x3 * (rd x0 x4))) (wrap64 (x4 + 1))) else(none)) else(some x3)
def q10_Product.f (k : Nat) (l0 : List Int) : Option (Int):=q10_Product.l0 k l0 1 0
set_option maxHeartbeats 8000000 in
set_option maxRecDepth 100000 in
theorem q10_Product.calls (k : Nat) (A0 : Option Addr) (c0 : Nat) (l0 : List Int) (r : Int) (w : World) (hr0 : Kd.C (Kd.int .i64) w A0 l0.length l0) (hc0 : l0.length ≤ c0) (h : q10_Product.f k l0 = some r) :
  Calls Try.prog 21 #[.slice A0 l0.length c0] w fun e w'=>e = .returned (.int .i64 r)∧Drawn0 w w':=by
 have HR0:=Aside0.mk hr0
 have HC0:=Aside0.mk hc0
 clear hr0 hc0
 have H :(q10_Product.l0 k l0 1 0) = some r:=h
 clear h
 have H':=Aside0.mk H
 clear H
 go_enter Try.func21,Try.ntmps21
 go_wp2
 go_loopg [3,4] k (fun kq v3 v4 w'=>∃ (x3_1 : Int) (x4_1 : Int),v3 = .int .i64 x3_1∧v4 = .int .i64 x4_1∧Aside0 (q10_Product.l0 kq l0 x3_1 x4_1 = some r)∧Aside0 (kq≤k)∧Drawn0 w w')
 case atStart=>exact⟨(1),(0),(by first | rfl |(simp;done) |(simp [*];done)),(by first | rfl |(simp;done) |(simp [*];done)),H',⟨Nat.le_refl _⟩,by repeat(first | exact Drawn0.refl _ | apply Drawn0.step)⟩
 clear H'
 obtain ⟨x3_1,x4_1,rfl,rfl,HA,HK1,⟨m1,rfl⟩⟩:=hrel
 cases gk with
 | zero=>exact absurd HA.out (by simp [q10_Product.l0])
 | succ k1 =>
  have H:=HA.out
  clear HA
  simp only [q10_Product.l0] at H
  by_cases c2 : x4_1 < (l0.length : Int)
  rotate_left
  ·rw [if_neg c2] at H
   have c2b0 : decide (x4_1 < (l0.length : Int)) = false:=decide_eq_false c2
   clear c2
   obtain rfl:=Option.some.inj H
   go_wp2
   go_ret
   exact⟨by first | rfl |(simp;done) |(simp [*];done),by repeat(first | exact Drawn0.refl _ | apply Drawn0.step)⟩
  rw [if_pos c2] at H
  have c2b0 : decide (x4_1 < (l0.length : Int)) = true:=decide_eq_true c2
  clear c2
  by_cases c3 : 0≤x4_1
  rotate_left
  ·rw [if_neg c3] at H
   exact absurd H (by simp)
  rw [if_pos c3] at H
  have c3b0 : decide (0≤x4_1) = true:=decide_eq_true c3
  clear c3
  have H':=Aside0.mk H
  clear H
  have p165 : 0 ≤(x4_1 : Int):=of_decide_eq_true (by first |(with_reducible assumption) | assumption)
  have q165 : x4_1 < (l0.length : Int):=of_decide_eq_true (by first |(with_reducible assumption) | assumption)
  obtain ⟨ad165,e165,hx165_0⟩:=Kd.at_int HR0.out x4_1 p165 q165
  cases e165
  replace p165:=eq_true p165
  replace q165:=eq_true q165
  go_wp2
  go_roundg k1
  case measure=>have:=HK1.out;omega
  exact⟨(wrap64 (x3_1 * (rd l0 x4_1))),(wrap64 (x4_1 + 1)),(by first | rfl |(simp;done) |(simp [*];done)),(by first | rfl |(simp;done) |(simp [*];done)),H',⟨by have:=HK1.out;omega⟩,by repeat(first | exact Drawn0.refl _ | apply Drawn0.step)⟩

def w10_mod.f (a0 : Int) (a1 : Int) : Option (Int):=if(IntKind.u64.wrap (a1)) = 0 then(none) else(some (wrap64 (Int.tmod (IntKind.u64.wrap (a0)) (IntKind.u64.wrap (a1)))))
set_option maxHeartbeats 8000000 in
set_option maxRecDepth 100000 in
theorem w10_mod.calls (a0 : Int) (a1 : Int) (r : Int) (w : World) (h : w10_mod.f a0 a1 = some r) :
  Calls Try.prog 26 #[.int .i64 a0,.int .i64 a1] w fun e w'=>e = .returned (.int .i64 r)∧Drawn0 w w':=by
 have H :(if(IntKind.u64.wrap (a1)) = 0 then(none) else(some (wrap64 (Int.tmod (IntKind.u64.wrap (a0)) (IntKind.u64.wrap (a1)))))) = some r:=h
 clear h
 by_cases c3 :(IntKind.u64.wrap (a1)) = 0
 ·rw [if_pos c3] at H
  exact absurd H (by simp)
 rw [if_neg c3] at H
 have c3b0 :((IntKind.u64.wrap (a1)) == 0) = false:=beq_eq_false_iff_ne.mpr c3
 have c3b1 :((IntKind.u64.wrap (a1)) != 0) = true:=bne_iff_ne.mpr c3
 obtain rfl:=Option.some.inj H
 go_enter Try.func26,Try.ntmps26
 go_wp2
 go_ret
 exact⟨by first | rfl |(simp;done) |(simp [*];done),by repeat(first | exact Drawn0.refl _ | apply Drawn0.step)⟩

open Go.Proofs.Ytbfhlaggllofdaa.G Go.Proofs.Ytbfhlaggllofdaa.T Go.Proofs.Ytbfhlaggllofdaa.P
def turns_Many.f (a0 a1 : Int) : Option (Int×Int):=some (if 0≤a0∧a0≤40∧0≤a1∧a1≤a0 then(ch a0.toNat a1.toNat,0) else(0,2))
set_option maxHeartbeats 800000 in
theorem turns_Many.calls (a0 a1 : Int) (r1 r2 : Int) (w : World) (h : turns_Many.f a0 a1 = some (r1, r2)) :
  Calls Try.prog 27 #[.int .i64 a0,.int .i64 a1] w fun e w'=>e = .returned (.tuple #[.int .i64 r1,.int .i64 r2])∧Below w.heap.size w w':=by
 replace h:=Option.some.inj h
 have HB:=Aside0.mk (Below.refl w.heap.size w)
 by_cases c0 : 0≤a0∧a0≤40
 rotate_left
 ·rw [if_neg (fun h => c0 ⟨h.1, h.2.1⟩)] at h
  injection h with h1 h2
  subst h1;subst h2
  have hi1:=Aside0.mk (within_no c0)
  clear c0
  go_enter Try.func27,Try.ntmps27
  go_wp2_with (go_at_call 56;go_must (with_reducible refine(turns_within.calls a0 0 40 false _ hi1.out).mono ?_;rintro e w' ⟨rfl,⟨nd,rfl⟩⟩))
  go_ret2
  exact⟨rfl,by repeat(first |(with_reducible first | exact HB.out | apply bwN) | exact HB.out)⟩
 by_cases c1 : 0≤a1∧a1≤a0
 rotate_left
 ·rw [if_neg (fun h => c1 h.2.2)] at h
  injection h with h1 h2
  subst h1;subst h2
  have hi1:=Aside0.mk (within_yes c0)
  have hi2:=Aside0.mk (within_no c1)
  clear c0 c1
  go_enter Try.func27,Try.ntmps27
  go_wp2_with (go_at_call 56;go_must (first |(with_reducible refine(turns_within.calls a0 0 40 true _ hi1.out).mono ?_;rintro e w' ⟨rfl,⟨nd,rfl⟩⟩) |(with_reducible refine(turns_within.calls a1 0 a0 false _ hi2.out).mono ?_;rintro e w' ⟨rfl,⟨nd,rfl⟩⟩)))
  go_ret2
  exact⟨rfl,by repeat(first |(with_reducible first | exact HB.out | apply bwN) | exact HB.out)⟩
 rw [if_pos ⟨c0.1,c0.2,c1⟩] at h
 obtain ⟨n,rfl⟩ : ∃ n : Nat,a0 = n:=⟨a0.toNat,by omega⟩
 obtain ⟨k,rfl⟩ : ∃ k : Nat,a1 = k:=⟨a1.toNat,by omega⟩
 injection h with h1 h2
 rw [show((n : Int)).toNat = n by omega,show((k : Int)).toNat = k by omega] at h1
 subst h1;subst h2
 have hi1:=Aside0.mk (within_yes c0)
 have hi2:=Aside0.mk (within_yes c1)
 have d1:=eq_true (show(n : Int) < 41 by omega)
 have d2:=eq_true (show(k : Int) < 41 by omega)
 have HN:=Aside0.mk (show n≤40∧k≤n by omega)
 clear c0 c1
 go_enter Try.func27,Try.ntmps27
 go_wp2_with (first |(go_at_call 56;go_must (first |(with_reducible refine(turns_within.calls (n : Int) 0 40 true _ hi1.out).mono ?_;rintro e w' ⟨rfl,⟨nd,rfl⟩⟩) |(with_reducible refine(turns_within.calls (k : Int) 0 (n : Int) true _ hi2.out).mono ?_;rintro e w' ⟨rfl,⟨nd,rfl⟩⟩))) |(go_at_call 58;go_must (refine(choices_new _).mono ?_;rintro e w1 ⟨g,rfl,ht,hb,hg⟩;have l1:=ht.1 (n * 41 + k) (by have:=HN.out;omega);rw [chV_at (by have:=HN.out;omega) (by have:=HN.out;omega)] at l1;have HB1:=Aside0.mk (below_then (bwN HB.out _) (Nat.le_refl _) hb);clear ht hb)))
 go_ret2
 exact⟨rfl,HB1.out⟩

def q10_Factorial.l0 : Nat → Int → Int → Int → Option (Int)
 | 0,_,_,_=>none
 | k + 1,x0,x3,x4=>if x4≤x0 then(q10_Factorial.l0 k x0 (wrap64 (x3 * x4)) (wrap64 (x4 + 1))) else(some x3)
def q10_Factorial.f (k : Nat) (a0 : Int) : Option (Int):=q10_Factorial.l0 k a0 1 2
set_option maxHeartbeats 8000000 in
set_option maxRecDepth 100000 in
theorem q10_Factorial.calls (k : Nat) (a0 : Int) (r : Int) (w : World) (h : q10_Factorial.f k a0 = some r) :
  Calls Try.prog 29 #[.int .i64 a0] w fun e w'=>e = .returned (.int .i64 r)∧Drawn0 w w':=by
 have H :(q10_Factorial.l0 k a0 1 2) = some r:=h
 clear h
 have H':=Aside0.mk H
 clear H
 go_enter Try.func29,Try.ntmps29
 go_wp2
 go_loopg [3,4] k (fun kq v3 v4 w'=>∃ (x3_1 : Int) (x4_1 : Int),v3 = .int .i64 x3_1∧v4 = .int .i64 x4_1∧Aside0 (q10_Factorial.l0 kq a0 x3_1 x4_1 = some r)∧Aside0 (kq≤k)∧Drawn0 w w')
 case atStart=>exact⟨(1),(2),(by first | rfl |(simp;done) |(simp [*];done)),(by first | rfl |(simp;done) |(simp [*];done)),H',⟨Nat.le_refl _⟩,by repeat(first | exact Drawn0.refl _ | apply Drawn0.step)⟩
 clear H'
 obtain ⟨x3_1,x4_1,rfl,rfl,HA,HK1,⟨m1,rfl⟩⟩:=hrel
 cases gk with
 | zero=>exact absurd HA.out (by simp [q10_Factorial.l0])
 | succ k1 =>
  have H:=HA.out
  clear HA
  simp only [q10_Factorial.l0] at H
  by_cases c2 : x4_1≤a0
  rotate_left
  ·rw [if_neg c2] at H
   have c2b0 : decide (x4_1≤a0) = false:=decide_eq_false c2
   clear c2
   obtain rfl:=Option.some.inj H
   go_wp2
   go_ret
   exact⟨by first | rfl |(simp;done) |(simp [*];done),by repeat(first | exact Drawn0.refl _ | apply Drawn0.step)⟩
  rw [if_pos c2] at H
  have c2b0 : decide (x4_1≤a0) = true:=decide_eq_true c2
  clear c2
  have H':=Aside0.mk H
  clear H
  go_wp2
  go_roundg k1
  case measure=>have:=HK1.out;omega
  exact⟨(wrap64 (x3_1 * x4_1)),(wrap64 (x4_1 + 1)),(by first | rfl |(simp;done) |(simp [*];done)),(by first | rfl |(simp;done) |(simp [*];done)),H',⟨by have:=HK1.out;omega⟩,by repeat(first | exact Drawn0.refl _ | apply Drawn0.step)⟩

open Go.Proofs.Ytbfhlaggllofdaa.G Go.Proofs.Ytbfhlaggllofdaa.T Go.Proofs.Ytbfhlaggllofdaa.P
def turns_Grouping.f (a0 a1 : Int) : Option (List Int×Int):=some (if 0≤a0∧a0≤20∧0≤a1∧a1≤bw a0.toNat 0 - 1 then(grp a0.toNat 0 a1,0) else([],2))
theorem gr_step {m u : Nat} {a : Int} (hm : m + 1 + u ≤ 20) (h0 : 0 ≤ a) (h1 : a < bw (m + 1) u) :
  ∃ g : Nat,gOf m u a = g ∧((bw m u == 0) = false ∧(bw m u = 0) = False∧Int.tdiv a (bw m u) = a / bw m u∧wrap64 (a / bw m u) = a / bw m u) ∧
  (min (u : Int) (a / bw m u) =(g : Int) ∧(if a / bw m u < (u : Int) then a / bw m u else(u : Int)) =(g : Int) ∧(if(u : Int) < a / bw m u then(u : Int) else a / bw m u) =(g : Int)) ∧
  (wrap64 ((g : Int) * bw m u) =(g : Int) * bw m u∧wrap64 (a - (g : Int) * bw m u) = a - (g : Int) * bw m u∧wrap64 ((g : Int) + 1) =(g : Int) + 1) ∧
  (max (u : Int) ((g : Int) + 1) =((max u (g + 1) : Nat) : Int) ∧(if(u : Int) < (g : Int) + 1 then(g : Int) + 1 else(u : Int)) =((max u (g + 1) : Nat) : Int)) ∧
  (m + max u (g + 1)≤20∧0≤a - (g : Int) * bw m u∧a - (g : Int) * bw m u < bw m (max u (g + 1))):=by
 refine⟨gOf m u a,rfl,?_⟩
 have hb:=bw_le64 (m:=m) (j:=u) (by omega)
 have hb1:=bw_le64 (m:=m + 1) (j:=u) (by omega)
 obtain ⟨d0,d1,d2⟩:=div_bw m u a h0
 have hr:=gOf_rest m u a h0 h1
 have hg :(gOf m u a : Int) = min (u : Int) (a / bw m u):=by unfold gOf;omega
 have hgu : gOf m u a≤u:=by omega
 have hgm : 0 ≤(gOf m u a : Int) * bw m u:=Int.mul_nonneg (by omega) (by omega)
 have ht : Int.tdiv a (bw m u) = a / bw m u:=Int.tdiv_eq_ediv_of_nonneg h0
 obtain ⟨g,hgg⟩ : ∃ g,gOf m u a = g:=⟨_,rfl⟩
 rw [hgg] at hr hg hgu hgm ⊢
 obtain ⟨q,hq⟩ : ∃ q,a / bw m u = q:=⟨_,rfl⟩
 rw [hq] at d0 d1 d2 hg ht ⊢
 have hq1 : q≤a:=by
  have : q * 1≤q * bw m u:=Int.mul_le_mul_of_nonneg_left (by omega) d0
  omega
 obtain ⟨B,hB⟩ : ∃ B,bw m u = B:=⟨_,rfl⟩
 obtain ⟨C,hC⟩ : ∃ B,bw (m + 1) u = B:=⟨_,rfl⟩
 obtain ⟨E,hE⟩ : ∃ B,(g : Int) * bw m u = B:=⟨_,rfl⟩
 rw [hC] at h1 hb1
 rw [hE] at hr hgm ⊢
 rw [hB] at hb ht ⊢
 clear hB hC hE hq hgg d1 d2
 refine⟨⟨by simp;omega,by simp;omega,ht,w64 (by omega) (by omega)⟩,⟨hg.symm,by split <;> omega,by split <;> omega⟩,⟨w64 (by omega) (by omega),w64 (by omega) (by omega),w64 (by omega) (by omega)⟩,⟨by omega,by split <;> omega⟩,by omega,hr.1,hr.2⟩
set_option maxHeartbeats 400000 in
set_option maxRecDepth 100000 in
theorem turns_Grouping.calls (a0 a1 : Int) (r1 : List Int) (r2 : Int) (w : World) (h : turns_Grouping.f a0 a1 = some (r1, r2)) :
  Calls Try.prog 39 #[.int .i64 a0,.int .i64 a1] w fun e w'=>∃ v0_ : Value,e = .returned (.tuple #[v0_,.int .i64 r2])∧Kd.R (Kd.int .i64) 3 w' w.heap.size (fun _=>True) v0_ r1∧Below w.heap.size w w':=by
 replace h:=Option.some.inj h
 have HB:=Aside0.mk (Below.refl w.heap.size w)
 by_cases c0 : 0≤a0∧a0≤20
 rotate_left
 ·rw [if_neg (fun hh => c0 ⟨hh.1, hh.2.1⟩)] at h
  injection h with h1 h2
  subst h1;subst h2
  have hi1:=Aside0.mk (within_no c0)
  clear c0
  go_enter Try.func39,Try.ntmps39
  go_wp2_with (first |(go_at_call 56;go_must (with_reducible refine(turns_within.calls a0 0 20 false _ hi1.out).mono ?_;rintro e w' ⟨rfl,⟨nd,rfl⟩⟩)) |(go_at_call 59;go_must (refine(rests_new _).mono ?_;rintro e w1 ⟨g,rfl,ht,hb,hg⟩;have HB1:=Aside0.mk (bwT (by repeat(first |(with_reducible first | exact HB.out | apply bwN) | exact HB.out)) hb);clear ht hb hg)))
  go_ret2
  exact⟨_,rfl,Kd.R_nil _ _ _ _ _,by repeat(first |(with_reducible first | exact HB1.out | apply bwN) | exact HB1.out)⟩
 have hi1:=Aside0.mk (within_yes c0)
 obtain ⟨n,rfl⟩ : ∃ n : Nat,a0 = n:=⟨a0.toNat,by omega⟩
 have d1:=eq_true (show(n : Int) < 21 by omega)
 have d0:=eq_true (show 0 ≤(n : Int) by omega)
 have HN:=Aside0.mk (show n≤20 by omega)
 have hb0:=bw_le64 (m:=n) (j:=0) (by omega)
 rw [show((n : Int)).toNat = n by omega] at h
 have wb : wrap64 (bw n 0 - 1) = bw n 0 - 1:=w64 (by omega) (by omega)
 by_cases c1 : 0≤a1∧a1≤bw n 0 - 1
 rotate_left
 ·rw [if_neg (fun hh => c1 hh.2.2)] at h
  injection h with h1 h2
  subst h1;subst h2
  have hi2:=Aside0.mk (within_no c1)
  obtain ⟨vn,hvn⟩ : ∃ v,bw n 0 = v:=⟨_,rfl⟩
  have HV:=Aside0.mk hvn
  rw [hvn] at wb hi2
  clear c0 c1 hb0 hvn
  go_enter Try.func39,Try.ntmps39
  go_wp2_with (first |(go_at_call 56;go_must (first |(with_reducible refine(turns_within.calls (n : Int) 0 20 true _ hi1.out).mono ?_;rintro e w' ⟨rfl,⟨nd,rfl⟩⟩) |(with_reducible refine(turns_within.calls a1 0 (vn - 1) false _ hi2.out).mono ?_;rintro e w' ⟨rfl,⟨nd,rfl⟩⟩))) |(go_at_call 59;go_must (refine(rests_new _).mono ?_;rintro e w1 ⟨g,rfl,ht,hb,hg⟩;have l1:=ht.1 (n * 22 + 0) (by have:=HN.out;omega);rw [rsV_at (by have:=HN.out;omega) (by have:=HN.out;omega),HV.out] at l1;simp only [Nat.add_zero] at l1;have HB1:=Aside0.mk (bwT (by repeat(first |(with_reducible first | exact HB.out | apply bwN) | exact HB.out)) hb);clear ht hb hg)))
  go_ret2
  exact⟨_,rfl,Kd.R_nil _ _ _ _ _,by repeat(first |(with_reducible first | exact HB1.out | apply bwN) | exact HB1.out)⟩
 rw [if_pos ⟨c0.1,c0.2,c1⟩] at h
 injection h with h1 h2
 subst h2
 have hi2:=Aside0.mk (within_yes c1)
 have HA:=Aside0.mk (show 0≤a1∧a1 < bw n 0 by omega)
 have HR:=Aside0.mk h1
 have wn : wrap64 ((n : Int) - 1) =(n : Int) - 1:=w64 (by omega) (by omega)
 obtain ⟨vn,hvn⟩ : ∃ v,bw n 0 = v:=⟨_,rfl⟩
 have HV:=Aside0.mk hvn
 rw [hvn] at wb hi2
 clear c0 c1 hb0 hvn h1
 go_enter Try.func39,Try.ntmps39
 go_wp2_with (first |(go_at_call 56;go_must (first |(with_reducible refine(turns_within.calls (n : Int) 0 20 true _ hi1.out).mono ?_;rintro e w' ⟨rfl,⟨nd,rfl⟩⟩) |(with_reducible refine(turns_within.calls a1 0 (vn - 1) true _ hi2.out).mono ?_;rintro e w' ⟨rfl,⟨nd,rfl⟩⟩))) |(go_at_call 59;go_must (refine(rests_new _).mono ?_;rintro e w1 ⟨g,rfl,ht,hb,hg⟩;have l1:=ht.1 (n * 22 + 0) (by have:=HN.out;omega);rw [rsV_at (by have:=HN.out;omega) (by have:=HN.out;omega),HV.out] at l1;simp only [Nat.add_zero] at l1;have HT:=Aside0.mk ht;have HB1:=Aside0.mk (bwT (by repeat(first |(with_reducible first | exact HB.out | apply bwN) | exact HB.out)) hb);have HG:=Aside0.mk hg;clear ht hb hg)))
 have HR0:=Aside0.mk (show [] ++ grp n 0 a1 = r1 from HR.out)
 clear HR
 rw [wn]
 clear wn wb
 go_loopw [1,7,8,9] (fun v1 v7 v8 v9 wr=>∃ (m u : Nat) (a : Int) (out : List Int),v1 = .int .i64 a∧v8 = .int .i64 u∧v9 = .int .i64 ((m : Int) - 1)∧Aside0 (m + u≤20∧0≤a∧a < bw m u∧out.length + m = n)∧Aside0 (out ++ grp m u a = r1)∧Aside0 (Kd.R (Kd.int .i64) 3 wr w1.heap.size (fun _=>True) v7 out)∧Aside0 (Below w1.heap.size w1 wr)) (fun v1 v7 v8 v9 _=>(intOf v9 + 1).toNat)
 case atStart=>exact⟨n,0,a1,[],rfl,rfl,(by simp),⟨by have:=HN.out;have:=HA.out;rw [HV.out] at *;simp;omega⟩,HR0,⟨Kd.R_nil _ _ _ _ _⟩,⟨bwN (Below.refl _ _) _⟩⟩
 clear HR0
 obtain ⟨m,u,a,out,rfl,rfl,rfl,HM,HR,HO,HB⟩:=hrel
 obtain ⟨m0,m1,m2,m3⟩:=HM.out
 have n20:=HN.out
 cases m with
 | zero =>
  have q1 : decide (0 ≤(((0 : Nat) : Int) - 1)) = false:=by decide
  have hr : out = r1:=by rw [← HR.out];simp [grp]
  subst hr
  clear m0 m1 m2 m3 n20
  go_wp2
  go_ret2
  exact⟨_,rfl,Kd.R_lower HO.out (bwZ HB1.out),bwT HB1.out HB.out⟩
 | succ m =>
  have q1 : decide (0 ≤((m + 1 : Nat) : Int) - 1) = true:=decide_eq_true (by omega)
  have q2 : decide (0 ≤(m : Int)) = true:=decide_eq_true (by omega)
  have em :((m + 1 : Nat) : Int) - 1 =(m : Int):=by omega
  have hm21 : m < 21:=by omega
  have m0':=eq_true (show 0 ≤(m : Int) by omega)
  have m1':=eq_true (show(m : Int) < 21 by omega)
  have u0:=eq_true (show 0 ≤(u : Int) by omega)
  have u1:=eq_true (show(u : Int) < 22 by omega)
  have hmu : m + 1 + u≤20:=by omega
  have HM1:=Aside0.mk (show m * 22 + u < 462∧u + m < 22∧out.length≤20 by omega)
  have WM:=Aside0.mk (show wrap64 ((m : Int) - 1) =(m : Int) - 1 from w64 (by omega) (by omega))
  have l1':=(Tbl.below HT.out (by decide) HB.out).1 (m * 22 + u) HM1.out.1
  rw [rsV_at HM1.out.2.1 hm21] at l1'
  have HMS:=Aside0.mk (show(intOf (.int .i64 ((m : Int) - 1)) + 1).toNat < (intOf (.int .i64 ((m : Int))) + 1).toNat by show((m : Int) - 1 + 1).toNat < ((m : Int) + 1).toNat;omega)
  rw [em]
  obtain ⟨g1,hg,⟨b0,b0',ht,wq⟩,⟨k1,k2,k3⟩,⟨wm,ws,wg⟩,⟨x1,x2⟩,y1,y2,y3⟩:=gr_step hmu m1 m2
  have HR2:=Aside0.mk (show(out ++ [(g1 : Int)]) ++ grp m (max u (g1 + 1)) (a - (g1 : Int) * bw m u) = r1 by
   rw [← HR.out,← hg]
   simp [grp])
  have HM2:=Aside0.mk (show m + max u (g1 + 1)≤20∧0≤a - (g1 : Int) * bw m u∧a - (g1 : Int) * bw m u < bw m (max u (g1 + 1)) ∧(out ++ [(g1 : Int)]).length + m = n from⟨y1,y2,y3,by rw [List.length_append,List.length_singleton];rw [← m3];exact Nat.add_assoc _ _ _ |>.trans (by rw [Nat.add_comm 1 m])⟩)
  obtain ⟨vb,hvb⟩ : ∃ v,bw m u = v:=⟨_,rfl⟩
  obtain ⟨q,hq⟩ : ∃ v,a / bw m u = v:=⟨_,rfl⟩
  rw [hq] at ht wq k1 k2 k3
  rw [hvb] at l1' b0 b0' ht wm ws HR2 HM2
  obtain ⟨u2,hu2⟩ : ∃ v,max u (g1 + 1) = v:=⟨_,rfl⟩
  rw [hu2] at x1 x2 HR2 HM2
  have wmm:=WM.out
  clear hg hq hvb hu2 y1 y2 y3 m0 m1 m2 m3 n20 hm21 hmu HM HR em
  go_wp2_with (first |((with_reducible refine gate_builtin (b:=.append) (xs:=#[.tmp 55,.tmp 57]) rfl ?_);at_builtin;refine Kd.R_append (Kd.int .i64) (w0:=w1) w1.heap.size rfl (.tmp 55) (.tmp 57) 22 3 (.int .i64 0) 8 rfl Try.underlying22 info3 rfl (by decide) (by omega) u7 out (g1 : Int) [.int .i64 (g1 : Int)] (fun _=>True) (fun _=>False) rfl rfl ?aP (fun _ hk=>hk.elim) ?aF ?aO ?aB ?aS ?aL ?_;(case aP=>exact rfl);(case aB=>exact(by repeat(first |(with_reducible first | exact HB.out | apply bwA | apply bwN | apply bw1) | exact HB.out)));(case aF=>exact(fun _ _=>trivial));(case aO=>exact(by(with_reducible repeat(first | apply Kd.R_alloc | apply Kd.R_drewN | apply Kd.R_drew));exact HO.out));(case aS=>exact(bwZ (by repeat(first |(with_reducible first | exact HB.out | apply bwA | apply bwN | apply bw1) | exact HB.out))));(case aL=>have:=HM1.out.2.2;omega);intro v262 w13 ho hb hg hat;have HO1:=Aside0.mk ho;have HBx:=Aside0.mk hb;clear ho hb hg hat))
  go_roundw
  case rel=>exact⟨m,u2,a - (g1 : Int) * vb,out ++ [(g1 : Int)],(by simp [ws,wm,k1,k2,k3,wq]),(by simp [x1,x2,wg,k1,k2,k3,wq]),(by simp [wmm]),HM2,HR2,HO1,HBx⟩
  (first | exact HMS.out |(rw [wmm];exact HMS.out) |(simp only [wmm];exact HMS.out))
end Go.Proofs.Ytbfhlaggllofdaa.S

namespace Go.Proofs.Ytbfhlaggllofdaa.S
open Go.Maps (Keyed)
open Go.RowKit Go.Proofs.YtbfhlaggllofdaaW.PrintWords Go.Proofs.YtbfhlaggllofdaaW.PrintLast Go.Proofs.YtbfhlaggllofdaaW.PrintMore
attribute [local go_sem] max2_int min2_int max_two min_two max_three min_three max_four min_four
set_option linter.unusedVariables false
set_option linter.unusedSimpArgs false

def w10_item.f (a0 : Int) (a1 : Int) (a2 : Int) (l3 : List Int) (a4 : Int) : Option (List Int×Int):=if a0 = 0 then((turns_Set.f a1 a4).bind fun bt247=>(some (bt247.1,bt247.2))) else(if a0 = 1 then((turns_Choice.f a1 a2 a4).bind fun bt251=>(some (bt251.1,bt251.2))) else(if a0 = 2 then((turns_Order.f a1 a4).bind fun bt255=>(some (bt255.1,bt255.2))) else(if a0 = 3 then((turns_Grouping.f a1 a4).bind fun bt259=>(some (bt259.1,bt259.2))) else((turns_Setting.f l3 a4).bind fun bt263=>(some (bt263.1,bt263.2))))))
set_option maxHeartbeats 8000000 in
set_option maxRecDepth 100000 in
theorem w10_item.calls (a0 : Int) (a1 : Int) (a2 : Int) (A3 : Option Addr) (c3 : Nat) (l3 : List Int) (a4 : Int) (r1 : List Int) (r2 : Int) (w : World) (hr3 : Kd.C (Kd.int .i64) w A3 l3.length l3) (hc3 : l3.length ≤ c3) (h : w10_item.f a0 a1 a2 l3 a4 = some (r1, r2)) :
  Calls Try.prog 30 #[.int .i64 a0,.int .i64 a1,.int .i64 a2,.slice A3 l3.length c3,.int .i64 a4] w fun e w'=>∃ v0_ : Value,e = .returned (.tuple #[v0_,.int .i64 r2])∧Kd.R (Kd.int .i64) 3 w' w.heap.size (fun _=>True) v0_ r1∧Below w.heap.size w w':=by
 have HR3:=Aside0.mk hr3
 have HC3:=Aside0.mk hc3
 clear hr3 hc3
 have HB:=Aside0.mk (Below.refl w.heap.size w)
 have H :(if a0 = 0 then((turns_Set.f a1 a4).bind fun bt247=>(some (bt247.1,bt247.2))) else(if a0 = 1 then((turns_Choice.f a1 a2 a4).bind fun bt251=>(some (bt251.1,bt251.2))) else(if a0 = 2 then((turns_Order.f a1 a4).bind fun bt255=>(some (bt255.1,bt255.2))) else(if a0 = 3 then((turns_Grouping.f a1 a4).bind fun bt259=>(some (bt259.1,bt259.2))) else((turns_Setting.f l3 a4).bind fun bt263=>(some (bt263.1,bt263.2))))))) = some (r1,r2):=h
 clear h
 by_cases c6 : a0 = 0
 ·rw [if_pos c6] at H
  have c6b0 :(a0 == 0) = true:=beq_iff_eq.mpr c6
  have c6b1 :(a0 != 0) = false:=bne_eq_false_iff_eq.mpr c6
  clear c6
  replace H:=Option.bind_eq_some_iff.mp H
  obtain ⟨⟨t247,t248⟩,A70,H⟩:=H
  replace H :(some (t247,t248)) = some (r1,r2):=H
  have A7:=Aside0.mk A70
  clear A70
  simp only [Option.some.injEq,Prod.mk.injEq] at H
  obtain ⟨rfl,rfl⟩:=H
  go_enter Try.func30,Try.ntmps30
  go_wp2_with (first |((with_reducible refine gate_callee (f:=38) rfl ?_);refine goesL_ (some 17) rfl rfl Try.func38 (by kernel_rfl) rfl #[.int .i64 a1,.int .i64 a4] rfl (by(try simp only [List.map_toArray,List.map_cons,List.map_nil]);first | done | rfl |(simp only [List.length_drop,List.length_take];rfl)) ?_;(with_reducible refine(turns_Set.calls a1 a4 t247 t248 _ A7.out).mono ?_);rintro e w8 ⟨v249,rfl,ho0,hb⟩;refine⟨_,rfl,?_⟩;have n0_:=Aside0.mk (Kd.R_lower ho0 (bwZ (by repeat(first |(with_reducible first | exact HB.out | apply bwA | apply bwN | apply bw1) | exact HB.out))));have n1_:=Aside0.mk (bwT (by repeat(first |(with_reducible first | exact HB.out | apply bwA | apply bwN | apply bw1) | exact HB.out)) hb);clear HB;have HO250:=n0_;have HB:=n1_;clear n0_ n1_;(try clear hb);(try clear hb2);(try clear hk);(try clear hi);(try clear ho0)))
  go_ret2
  exact⟨_,by first | rfl |(simp [errW_none,errW_some] <;> rfl) |(simp [*,errW_none,errW_some] <;> rfl),by(with_reducible repeat(first | apply Kd.R_alloc | apply Kd.R_drewN | apply Kd.R_drew));exact HO250.out,by repeat(first |(with_reducible first | exact HB.out | apply bwA | apply bwN | apply bw1) | exact HB.out)⟩
 rw [if_neg c6] at H
 have c6b0 :(a0 == 0) = false:=beq_eq_false_iff_ne.mpr c6
 have c6b1 :(a0 != 0) = true:=bne_iff_ne.mpr c6
 by_cases c9 : a0 = 1
 ·rw [if_pos c9] at H
  have c9b0 :(a0 == 1) = true:=beq_iff_eq.mpr c9
  have c9b1 :(a0 != 1) = false:=bne_eq_false_iff_eq.mpr c9
  clear c9
  replace H:=Option.bind_eq_some_iff.mp H
  obtain ⟨⟨t251,t252⟩,A100,H⟩:=H
  replace H :(some (t251,t252)) = some (r1,r2):=H
  have A10:=Aside0.mk A100
  clear A100
  simp only [Option.some.injEq,Prod.mk.injEq] at H
  obtain ⟨rfl,rfl⟩:=H
  go_enter Try.func30,Try.ntmps30
  go_wp2_with (first |((with_reducible refine gate_callee (f:=31) rfl ?_);refine goesL_ (some 25) rfl rfl Try.func31 (by kernel_rfl) rfl #[.int .i64 a1,.int .i64 a2,.int .i64 a4] rfl (by(try simp only [List.map_toArray,List.map_cons,List.map_nil]);first | done | rfl |(simp only [List.length_drop,List.length_take];rfl)) ?_;(with_reducible refine(turns_Choice.calls a1 a2 a4 t251 t252 _ A10.out).mono ?_);rintro e w11 ⟨v253,rfl,ho0,hb⟩;refine⟨_,rfl,?_⟩;have n0_:=Aside0.mk (Kd.R_lower ho0 (bwZ (by repeat(first |(with_reducible first | exact HB.out | apply bwA | apply bwN | apply bw1) | exact HB.out))));have n1_:=Aside0.mk (bwT (by repeat(first |(with_reducible first | exact HB.out | apply bwA | apply bwN | apply bw1) | exact HB.out)) hb);clear HB;have HO254:=n0_;have HB:=n1_;clear n0_ n1_;(try clear hb);(try clear hb2);(try clear hk);(try clear hi);(try clear ho0)))
  go_ret2
  exact⟨_,by first | rfl |(simp [errW_none,errW_some] <;> rfl) |(simp [*,errW_none,errW_some] <;> rfl),by(with_reducible repeat(first | apply Kd.R_alloc | apply Kd.R_drewN | apply Kd.R_drew));exact HO254.out,by repeat(first |(with_reducible first | exact HB.out | apply bwA | apply bwN | apply bw1) | exact HB.out)⟩
 rw [if_neg c9] at H
 have c9b0 :(a0 == 1) = false:=beq_eq_false_iff_ne.mpr c9
 have c9b1 :(a0 != 1) = true:=bne_iff_ne.mpr c9
 by_cases c12 : a0 = 2
 ·rw [if_pos c12] at H
  have c12b0 :(a0 == 2) = true:=beq_iff_eq.mpr c12
  have c12b1 :(a0 != 2) = false:=bne_eq_false_iff_eq.mpr c12
  clear c12
  replace H:=Option.bind_eq_some_iff.mp H
  obtain ⟨⟨t255,t256⟩,A130,H⟩:=H
  replace H :(some (t255,t256)) = some (r1,r2):=H
  have A13:=Aside0.mk A130
  clear A130
  simp only [Option.some.injEq,Prod.mk.injEq] at H
  obtain ⟨rfl,rfl⟩:=H
  go_enter Try.func30,Try.ntmps30
  go_wp2_with (first |((with_reducible refine gate_callee (f:=48) rfl ?_);refine goesL_ (some 32) rfl rfl Try.func48 (by kernel_rfl) rfl #[.int .i64 a1,.int .i64 a4] rfl (by(try simp only [List.map_toArray,List.map_cons,List.map_nil]);first | done | rfl |(simp only [List.length_drop,List.length_take];rfl)) ?_;(with_reducible refine(turns_Order.calls a1 a4 t255 t256 _ A13.out).mono ?_);rintro e w14 ⟨v257,rfl,ho0,hb⟩;refine⟨_,rfl,?_⟩;have n0_:=Aside0.mk (Kd.R_lower ho0 (bwZ (by repeat(first |(with_reducible first | exact HB.out | apply bwA | apply bwN | apply bw1) | exact HB.out))));have n1_:=Aside0.mk (bwT (by repeat(first |(with_reducible first | exact HB.out | apply bwA | apply bwN | apply bw1) | exact HB.out)) hb);clear HB;have HO258:=n0_;have HB:=n1_;clear n0_ n1_;(try clear hb);(try clear hb2);(try clear hk);(try clear hi);(try clear ho0)))
  go_ret2
  exact⟨_,by first | rfl |(simp [errW_none,errW_some] <;> rfl) |(simp [*,errW_none,errW_some] <;> rfl),by(with_reducible repeat(first | apply Kd.R_alloc | apply Kd.R_drewN | apply Kd.R_drew));exact HO258.out,by repeat(first |(with_reducible first | exact HB.out | apply bwA | apply bwN | apply bw1) | exact HB.out)⟩
 rw [if_neg c12] at H
 have c12b0 :(a0 == 2) = false:=beq_eq_false_iff_ne.mpr c12
 have c12b1 :(a0 != 2) = true:=bne_iff_ne.mpr c12
 by_cases c15 : a0 = 3
 ·rw [if_pos c15] at H
  have c15b0 :(a0 == 3) = true:=beq_iff_eq.mpr c15
  have c15b1 :(a0 != 3) = false:=bne_eq_false_iff_eq.mpr c15
  clear c15
  replace H:=Option.bind_eq_some_iff.mp H
  obtain ⟨⟨t259,t260⟩,A160,H⟩:=H
  replace H :(some (t259,t260)) = some (r1,r2):=H
  have A16:=Aside0.mk A160
  clear A160
  simp only [Option.some.injEq,Prod.mk.injEq] at H
  obtain ⟨rfl,rfl⟩:=H
  go_enter Try.func30,Try.ntmps30
  go_wp2_with (first |((with_reducible refine gate_callee (f:=39) rfl ?_);refine goesL_ (some 39) rfl rfl Try.func39 (by kernel_rfl) rfl #[.int .i64 a1,.int .i64 a4] rfl (by(try simp only [List.map_toArray,List.map_cons,List.map_nil]);first | done | rfl |(simp only [List.length_drop,List.length_take];rfl)) ?_;(with_reducible refine(turns_Grouping.calls a1 a4 t259 t260 _ A16.out).mono ?_);rintro e w17 ⟨v261,rfl,ho0,hb⟩;refine⟨_,rfl,?_⟩;have n0_:=Aside0.mk (Kd.R_lower ho0 (bwZ (by repeat(first |(with_reducible first | exact HB.out | apply bwA | apply bwN | apply bw1) | exact HB.out))));have n1_:=Aside0.mk (bwT (by repeat(first |(with_reducible first | exact HB.out | apply bwA | apply bwN | apply bw1) | exact HB.out)) hb);clear HB;have HO262:=n0_;have HB:=n1_;clear n0_ n1_;(try clear hb);(try clear hb2);(try clear hk);(try clear hi);(try clear ho0)))
  go_ret2
  exact⟨_,by first | rfl |(simp [errW_none,errW_some] <;> rfl) |(simp [*,errW_none,errW_some] <;> rfl),by(with_reducible repeat(first | apply Kd.R_alloc | apply Kd.R_drewN | apply Kd.R_drew));exact HO262.out,by repeat(first |(with_reducible first | exact HB.out | apply bwA | apply bwN | apply bw1) | exact HB.out)⟩
 rw [if_neg c15] at H
 have c15b0 :(a0 == 3) = false:=beq_eq_false_iff_ne.mpr c15
 have c15b1 :(a0 != 3) = true:=bne_iff_ne.mpr c15
 replace H:=Option.bind_eq_some_iff.mp H
 obtain ⟨⟨t263,t264⟩,A180,H⟩:=H
 replace H :(some (t263,t264)) = some (r1,r2):=H
 have A18:=Aside0.mk A180
 clear A180
 simp only [Option.some.injEq,Prod.mk.injEq] at H
 obtain ⟨rfl,rfl⟩:=H
 go_enter Try.func30,Try.ntmps30
 go_wp2_with (first |((with_reducible refine gate_callee (f:=17) rfl ?_);refine goesL_ (some 44) rfl rfl Try.func17 (by kernel_rfl) rfl #[.slice A3 l3.length c3,.int .i64 a4] rfl (by(try simp only [List.map_toArray,List.map_cons,List.map_nil]);first | done | rfl |(simp only [List.length_drop,List.length_take];rfl)) ?_;(with_reducible refine(turns_Setting.calls _ _ l3 a4 t263 t264 _ ?side1 ?side2 A18.out).mono ?_);(case side1=>repeat(first | exact HR3.out |(with_reducible refine Kd.C_alloc ?_ _) |(with_reducible refine Kd.C_drewN ?_ _) |(with_reducible refine Kd.C_drew ?_)));(case side2=>exact HC3.out);rintro e w19 ⟨v265,rfl,ho0,hb⟩;refine⟨_,rfl,?_⟩;have n0_:=Aside0.mk (Kd.R_lower ho0 (bwZ (by repeat(first |(with_reducible first | exact HB.out | apply bwA | apply bwN | apply bw1) | exact HB.out))));have n1_:=Aside0.mk (bwT (by repeat(first |(with_reducible first | exact HB.out | apply bwA | apply bwN | apply bw1) | exact HB.out)) hb);clear HB;have HO266:=n0_;have HB:=n1_;clear n0_ n1_;(try clear hb);(try clear hb2);(try clear hk);(try clear hi);(try clear ho0)))
 go_ret2
 exact⟨_,by first | rfl |(simp [errW_none,errW_some] <;> rfl) |(simp [*,errW_none,errW_some] <;> rfl),by(with_reducible repeat(first | apply Kd.R_alloc | apply Kd.R_drewN | apply Kd.R_drew));exact HO266.out,by repeat(first |(with_reducible first | exact HB.out | apply bwA | apply bwN | apply bw1) | exact HB.out)⟩
end Go.Proofs.Ytbfhlaggllofdaa.S

namespace Go.Proofs.Ytbfhlaggllofdaa.S
open Go.Maps (Keyed)
open Go.Proofs.Ytbfhlaggllofdaa.T
open Go.RowKit Go.Proofs.YtbfhlaggllofdaaW.PrintWords Go.Proofs.YtbfhlaggllofdaaW.PrintLast Go.Proofs.YtbfhlaggllofdaaW.PrintMore
attribute [local go_sem] max2_int min2_int max_two min_two max_three min_three max_four min_four
set_option linter.unusedVariables false
set_option linter.unusedSimpArgs false

theorem info22 :(Try.prog.info? 22).map (fun i=>(i.zero,i.size,i.bytes)) = some (some (.slice none 0 0),1,24):=by kernel_rfl
mutual
def w10_TurnsWhole.j0 : Nat → Int → Int → List Int → Int → Int → Bool → Option (Bool)
 | 0,_,_,_,_,_,_=>none
 | k + 1,x0,x1,x2,x7,x9,x60=>if x60 = true then(some false) else(w10_TurnsWhole.l0 k x0 x1 x2 x7 x9 ([] : List Int) 0)
def w10_TurnsWhole.j2 : Nat → Int → Int → Int → Int → List Int → Option (Bool)
 | 0,_,_,_,_,_=>none
 | k + 1,x0,x1,x7,x9,x11=>if 0≤x0 then((q10_Factorial.f k x0).bind fun t278=>((q10_Product.f k x11).bind fun t279=>(w10_TurnsWhole.l1 k x0 x1 x11 (([shl .i64 1 x0,x7,t278,x9,t279] : List Int)) 0))) else(none)
def w10_TurnsWhole.l1 : Nat → Int → Int → List Int → List Int → Int → Option (Bool)
 | 0,_,_,_,_,_=>none
 | k + 1,x0,x1,x11,x13,x14=>if x14 < 5 then(w10_TurnsWhole.l2 k x0 x1 x11 x13 x14 ([] : List (List Int)) 0) else((w10_awake.f k).bind fun t283=>(some t283))
def w10_TurnsWhole.l2 : Nat → Int → Int → List Int → List Int → Int → List (List Int) → Int → Option (Bool)
 | 0,_,_,_,_,_,_,_=>none
 | k + 1,x0,x1,x11,x13,x14,x15,x16=>if 0≤x14 then(if x14 < (x13.length : Int) then(if x16 < (rd x13 x14) then((w10_item.f x14 x0 x1 x11 x16).bind fun bt290=>(if bt290.2 = 0 then(w10_TurnsWhole.l3 k x0 x1 x11 x13 x14 x15 x16 bt290.1 0) else(some false))) else((w10_item.f x14 x0 x1 x11 (rd x13 x14)).bind fun bt286=>(if bt286.2 = 2 then(w10_TurnsWhole.l1 k x0 x1 x11 x13 (wrap64 (x14 + 1))) else(some false)))) else(none)) else(none)
def w10_TurnsWhole.l3 : Nat → Int → Int → List Int → List Int → Int → List (List Int) → Int → List Int → Int → Option (Bool)
 | 0,_,_,_,_,_,_,_,_,_=>none
 | k + 1,x0,x1,x11,x13,x14,x15,x16,x17,x19=>if x19 < (x15.length : Int) then(if 0≤x19 then((w10_ints.f k (rd_L1 x15 x19) x17).bind fun t295=>(if t295 = true then(some false) else(w10_TurnsWhole.l3 k x0 x1 x11 x13 x14 x15 x16 x17 (wrap64 (x19 + 1))))) else(none)) else(if x15.length < 5864062014805 then(w10_TurnsWhole.l2 k x0 x1 x11 x13 x14 (x15 ++ [x17]) (wrap64 (x16 + 1))) else(none))
def w10_TurnsWhole.l0 : Nat → Int → Int → List Int → Int → Int → List Int → Int → Option (Bool)
 | 0,_,_,_,_,_,_,_=>none
 | k + 1,x0,x1,x2,x7,x9,x11,x12=>if x12 < (x2.length : Int) then(if x12 < 4 then(if 0≤x12 then((w10_mod.f (rd x2 x12) 4).bind fun t274=>(if x11.length < 17592186044416 then(w10_TurnsWhole.l0 k x0 x1 x2 x7 x9 (x11 ++ [wrap64 (1 + t274)]) (wrap64 (x12 + 1))) else(none))) else(none)) else(w10_TurnsWhole.j2 k x0 x1 x7 x9 x11)) else(w10_TurnsWhole.j2 k x0 x1 x7 x9 x11)
end
def w10_TurnsWhole.f (k : Nat) (a0 : Int) (a1 : Int) (l2 : List Int) : Option (Bool):=(w10_mod.f a0 6).bind fun t267=>((w10_mod.f a1 (wrap64 (t267 + 1))).bind fun t268=>((turns_Many.f t267 t268).bind fun bt269=>((turns_Groupings.f t267).bind fun bt271=>(if bt269.2 = 0 then(if bt271.2 = 0 then(if bt269.1 < 1 then(w10_TurnsWhole.j0 k t267 t268 l2 bt269.1 bt271.1 true) else(if bt271.1 < 1 then(w10_TurnsWhole.j0 k t267 t268 l2 bt269.1 bt271.1 true) else(if bt269.1 > 1000 then(w10_TurnsWhole.j0 k t267 t268 l2 bt269.1 bt271.1 true) else(w10_TurnsWhole.j0 k t267 t268 l2 bt269.1 bt271.1 (decide (bt271.1 > 1000)))))) else(w10_TurnsWhole.j0 k t267 t268 l2 bt269.1 bt271.1 true)) else(w10_TurnsWhole.j0 k t267 t268 l2 bt269.1 bt271.1 true)))))
def w10_TurnsWhole.T12 : Bool×List (List Nat×List Nat):=(true,[([],[]),([0],[0]),([],[]),([],[]),([3],[3]),([],[]),([],[]),([6,4],[6]),([1,2,4,5,7],[1,2,4,5,7]),([],[]),([9,8,7,0,1,2,3,4,5,6,7,8,9],[8,9])])
def w10_TurnsWhole.B12 : List Nat:=[0,1,0,0,8,0,0,88,255,0,1023]
theorem w10_TurnsWhole.tab12 : rtab .any (opsOf Try.f5 12) = w10_TurnsWhole.T12:=by kernel_rfl
theorem w10_TurnsWhole.bits12 : waitsOk w10_TurnsWhole.T12.2 w10_TurnsWhole.B12 = true:=by kernel_rfl
set_option maxHeartbeats 8000000 in
set_option maxRecDepth 100000 in
theorem w10_TurnsWhole.calls (k : Nat) (a0 : Int) (a1 : Int) (A2 : Option Addr) (c2 : Nat) (l2 : List Int) (r : Bool) (w : World) (hr2 : Kd.C (Kd.int .i64) w A2 l2.length l2) (hc2 : l2.length ≤ c2) (h : w10_TurnsWhole.f k a0 a1 l2 = some r) :
  Calls Try.prog 5 #[.int .i64 a0,.int .i64 a1,.slice A2 l2.length c2] w fun e w'=>e = .returned (.bool r)∧Below w.heap.size w w':=by
 have HR2:=Aside0.mk hr2
 have HC2:=Aside0.mk hc2
 clear hr2 hc2
 have HB:=Aside0.mk (Below.refl w.heap.size w)
 have H :((w10_mod.f a0 6).bind fun t267=>((w10_mod.f a1 (wrap64 (t267 + 1))).bind fun t268=>((turns_Many.f t267 t268).bind fun bt269=>((turns_Groupings.f t267).bind fun bt271=>(if bt269.2 = 0 then(if bt271.2 = 0 then(if bt269.1 < 1 then(w10_TurnsWhole.j0 k t267 t268 l2 bt269.1 bt271.1 true) else(if bt271.1 < 1 then(w10_TurnsWhole.j0 k t267 t268 l2 bt269.1 bt271.1 true) else(if bt269.1 > 1000 then(w10_TurnsWhole.j0 k t267 t268 l2 bt269.1 bt271.1 true) else(w10_TurnsWhole.j0 k t267 t268 l2 bt269.1 bt271.1 (decide (bt271.1 > 1000)))))) else(w10_TurnsWhole.j0 k t267 t268 l2 bt269.1 bt271.1 true)) else(w10_TurnsWhole.j0 k t267 t268 l2 bt269.1 bt271.1 true)))))) = some r:=h
 clear h
 replace H:=Option.bind_eq_some_iff.mp H
 obtain ⟨t267,A40,H⟩:=H
 replace H :((w10_mod.f a1 (wrap64 (t267 + 1))).bind fun t268=>((turns_Many.f t267 t268).bind fun bt269=>((turns_Groupings.f t267).bind fun bt271=>(if bt269.2 = 0 then(if bt271.2 = 0 then(if bt269.1 < 1 then(w10_TurnsWhole.j0 k t267 t268 l2 bt269.1 bt271.1 true) else(if bt271.1 < 1 then(w10_TurnsWhole.j0 k t267 t268 l2 bt269.1 bt271.1 true) else(if bt269.1 > 1000 then(w10_TurnsWhole.j0 k t267 t268 l2 bt269.1 bt271.1 true) else(w10_TurnsWhole.j0 k t267 t268 l2 bt269.1 bt271.1 (decide (bt271.1 > 1000)))))) else(w10_TurnsWhole.j0 k t267 t268 l2 bt269.1 bt271.1 true)) else(w10_TurnsWhole.j0 k t267 t268 l2 bt269.1 bt271.1 true))))) = some r:=H
 have A4:=Aside0.mk A40
 clear A40
 replace H:=Option.bind_eq_some_iff.mp H
 obtain ⟨t268,A50,H⟩:=H
 replace H :((turns_Many.f t267 t268).bind fun bt269=>((turns_Groupings.f t267).bind fun bt271=>(if bt269.2 = 0 then(if bt271.2 = 0 then(if bt269.1 < 1 then(w10_TurnsWhole.j0 k t267 t268 l2 bt269.1 bt271.1 true) else(if bt271.1 < 1 then(w10_TurnsWhole.j0 k t267 t268 l2 bt269.1 bt271.1 true) else(if bt269.1 > 1000 then(w10_TurnsWhole.j0 k t267 t268 l2 bt269.1 bt271.1 true) else(w10_TurnsWhole.j0 k t267 t268 l2 bt269.1 bt271.1 (decide (bt271.1 > 1000)))))) else(w10_TurnsWhole.j0 k t267 t268 l2 bt269.1 bt271.1 true)) else(w10_TurnsWhole.j0 k t267 t268 l2 bt269.1 bt271.1 true)))) = some r:=H
 have A5:=Aside0.mk A50
 clear A50
 replace H:=Option.bind_eq_some_iff.mp H
 obtain ⟨⟨t269,t270⟩,A60,H⟩:=H
 replace H :((turns_Groupings.f t267).bind fun bt271=>(if t270 = 0 then(if bt271.2 = 0 then(if t269 < 1 then(w10_TurnsWhole.j0 k t267 t268 l2 t269 bt271.1 true) else(if bt271.1 < 1 then(w10_TurnsWhole.j0 k t267 t268 l2 t269 bt271.1 true) else(if t269 > 1000 then(w10_TurnsWhole.j0 k t267 t268 l2 t269 bt271.1 true) else(w10_TurnsWhole.j0 k t267 t268 l2 t269 bt271.1 (decide (bt271.1 > 1000)))))) else(w10_TurnsWhole.j0 k t267 t268 l2 t269 bt271.1 true)) else(w10_TurnsWhole.j0 k t267 t268 l2 t269 bt271.1 true))) = some r:=H
 have A6:=Aside0.mk A60
 clear A60
 replace H:=Option.bind_eq_some_iff.mp H
 obtain ⟨⟨t271,t272⟩,A70,H⟩:=H
 replace H :(if t270 = 0 then(if t272 = 0 then(if t269 < 1 then(w10_TurnsWhole.j0 k t267 t268 l2 t269 t271 true) else(if t271 < 1 then(w10_TurnsWhole.j0 k t267 t268 l2 t269 t271 true) else(if t269 > 1000 then(w10_TurnsWhole.j0 k t267 t268 l2 t269 t271 true) else(w10_TurnsWhole.j0 k t267 t268 l2 t269 t271 (decide (t271 > 1000)))))) else(w10_TurnsWhole.j0 k t267 t268 l2 t269 t271 true)) else(w10_TurnsWhole.j0 k t267 t268 l2 t269 t271 true)) = some r:=H
 have A7:=Aside0.mk A70
 clear A70
 have HC8:=Aside0.mk H
 clear H
 go_enter Try.func5,Try.ntmps5
 go_upto_region 5 with (first |((with_reducible refine gate_callee (f:=26) rfl ?_);refine goesL_ (some 23) rfl rfl Try.func26 (by kernel_rfl) rfl #[.int .i64 a0,.int .i64 6] rfl (by(try simp only [List.map_toArray,List.map_cons,List.map_nil]);first | done | rfl |(simp only [List.length_drop,List.length_take];rfl)) ?_;(with_reducible refine(w10_mod.calls a0 6 t267 _ A4.out).mono ?_);rintro e w' ⟨rfl,⟨nd,rfl⟩⟩;refine⟨_,rfl,?_⟩) |((with_reducible refine gate_callee (f:=26) rfl ?_);refine goesL_ (some 27) rfl rfl Try.func26 (by kernel_rfl) rfl #[.int .i64 a1,.int .i64 (wrap64 (t267 + 1))] rfl (by(try simp only [List.map_toArray,List.map_cons,List.map_nil]);first | done | rfl |(simp only [List.length_drop,List.length_take];rfl)) ?_;(with_reducible refine(w10_mod.calls a1 (wrap64 (t267 + 1)) t268 _ A5.out).mono ?_);rintro e w' ⟨rfl,⟨nd,rfl⟩⟩;refine⟨_,rfl,?_⟩) |((with_reducible refine gate_callee (f:=27) rfl ?_);refine goesL_ (some 31) rfl rfl Try.func27 (by kernel_rfl) rfl #[.int .i64 t267,.int .i64 t268] rfl (by(try simp only [List.map_toArray,List.map_cons,List.map_nil]);first | done | rfl |(simp only [List.length_drop,List.length_take];rfl)) ?_;(with_reducible refine(turns_Many.calls t267 t268 t269 t270 _ A6.out).mono ?_);rintro e w9 ⟨rfl,hb⟩;refine⟨_,rfl,?_⟩;have n0_:=Aside0.mk (bwT (by repeat(first |(with_reducible first | exact HB.out | apply bwA | apply bwN | apply bw1) | exact HB.out)) hb);clear HB;have HB:=n0_;clear n0_;(try clear hb);(try clear hb2);(try clear hk);(try clear hi)) |((with_reducible refine gate_callee (f:=28) rfl ?_);refine goesL_ (some 36) rfl rfl Try.func28 (by kernel_rfl) rfl #[.int .i64 t267] rfl (by(try simp only [List.map_toArray,List.map_cons,List.map_nil]);first | done | rfl |(simp only [List.length_drop,List.length_take];rfl)) ?_;(with_reducible refine(turns_Groupings.calls t267 t271 t272 _ A7.out).mono ?_);rintro e w10 ⟨rfl,hb⟩;refine⟨_,rfl,?_⟩;have n0_:=Aside0.mk (bwT (by repeat(first |(with_reducible first | exact HB.out | apply bwA | apply bwN | apply bw1) | exact HB.out)) hb);clear HB;have HB:=n0_;clear n0_;(try clear hb);(try clear hb2);(try clear hk);(try clear hi)))
 (try simp only [Act.put,List.setIfInBounds_toArray,List.set_cons_zero,List.set_cons_succ])
 go_cut [60] (fun v60 wc=>∃ (kq : Nat) (x60_7 : Bool),v60 = .bool x60_7∧Aside0 (w10_TurnsWhole.j0 kq t267 t268 l2 t269 t271 x60_7 = some r)∧Aside0 (kq≤k)∧Aside0 (Below w.heap.size w wc))
 case first =>
  have H:=HC8.out
  clear HC8
  by_cases c11 : t270 = 0
  rotate_left
  ·rw [if_neg c11] at H
   have c11b0 :(t270 == 0) = false:=beq_eq_false_iff_ne.mpr c11
   have c11b1 :(t270 != 0) = true:=bne_iff_ne.mpr c11
   (first | rw [c11b0] |(simp only [i64_w,i32_w];rw [c11b0]) | skip)
   have H':=Aside0.mk H
   clear H
   go_wp2
   go_meet
   exact⟨_,(true),(by first | rfl |(simp;done) |(simp [*];done)),H',⟨by first | omega | exact Nat.le_refl _⟩,⟨by repeat(first |(with_reducible first | exact HB.out | apply bwA | apply bwN | apply bw1) | exact HB.out)⟩⟩
  rw [if_pos c11] at H
  have c11b0 :(t270 == 0) = true:=beq_iff_eq.mpr c11
  have c11b1 :(t270 != 0) = false:=bne_eq_false_iff_eq.mpr c11
  clear c11
  (first | rw [c11b0] |(simp only [i64_w,i32_w];rw [c11b0]) | skip)
  by_cases c12 : t272 = 0
  rotate_left
  ·rw [if_neg c12] at H
   have c12b0 :(t272 == 0) = false:=beq_eq_false_iff_ne.mpr c12
   have c12b1 :(t272 != 0) = true:=bne_iff_ne.mpr c12
   have H':=Aside0.mk H
   clear H
   go_wp2
   go_meet
   exact⟨_,(true),(by first | rfl |(simp;done) |(simp [*];done)),H',⟨by first | omega | exact Nat.le_refl _⟩,⟨by repeat(first |(with_reducible first | exact HB.out | apply bwA | apply bwN | apply bw1) | exact HB.out)⟩⟩
  rw [if_pos c12] at H
  have c12b0 :(t272 == 0) = true:=beq_iff_eq.mpr c12
  have c12b1 :(t272 != 0) = false:=bne_eq_false_iff_eq.mpr c12
  clear c12
  by_cases c13 : t269 < 1
  ·rw [if_pos c13] at H
   have c13b0 : decide (t269 < 1) = true:=decide_eq_true c13
   clear c13
   have H':=Aside0.mk H
   clear H
   go_wp2
   go_meet
   exact⟨_,(true),(by first | rfl |(simp;done) |(simp [*];done)),H',⟨by first | omega | exact Nat.le_refl _⟩,⟨by repeat(first |(with_reducible first | exact HB.out | apply bwA | apply bwN | apply bw1) | exact HB.out)⟩⟩
  rw [if_neg c13] at H
  have c13b0 : decide (t269 < 1) = false:=decide_eq_false c13
  clear c13
  by_cases c14 : t271 < 1
  ·rw [if_pos c14] at H
   have c14b0 : decide (t271 < 1) = true:=decide_eq_true c14
   clear c14
   have H':=Aside0.mk H
   clear H
   go_wp2
   go_meet
   exact⟨_,(true),(by first | rfl |(simp;done) |(simp [*];done)),H',⟨by first | omega | exact Nat.le_refl _⟩,⟨by repeat(first |(with_reducible first | exact HB.out | apply bwA | apply bwN | apply bw1) | exact HB.out)⟩⟩
  rw [if_neg c14] at H
  have c14b0 : decide (t271 < 1) = false:=decide_eq_false c14
  clear c14
  by_cases c15 : t269 > 1000
  ·rw [if_pos c15] at H
   have c15b0 : decide (1000 < t269) = true:=decide_eq_true c15
   clear c15
   have H':=Aside0.mk H
   clear H
   go_wp2
   go_meet
   exact⟨_,(true),(by first | rfl |(simp;done) |(simp [*];done)),H',⟨by first | omega | exact Nat.le_refl _⟩,⟨by repeat(first |(with_reducible first | exact HB.out | apply bwA | apply bwN | apply bw1) | exact HB.out)⟩⟩
  rw [if_neg c15] at H
  have c15b0 : decide (1000 < t269) = false:=decide_eq_false c15
  clear c15
  have H':=Aside0.mk H
  clear H
  go_wp2
  go_meet
  exact⟨_,(decide (t271 > 1000)),(by first | rfl |(simp;done) |(simp [*];done)),H',⟨by first | omega | exact Nat.le_refl _⟩,⟨by repeat(first |(with_reducible first | exact HB.out | apply bwA | apply bwN | apply bw1) | exact HB.out)⟩⟩
 case rest =>
  clear HC8
  try clear c1
  try clear c2
  try clear p2
  try clear c5
  try clear p6
  try clear c11
  try clear c11b0
  try clear c11b1
  try clear c12
  try clear c12b0
  try clear c12b1
  try clear c13
  try clear c13b0
  try clear c14
  try clear c14b0
  try clear c15
  try clear c15b0
  obtain ⟨kq,x60_7,rfl,HA,HJ7,HB⟩:=hcut
  cases kq with
  | zero=>exact absurd HA.out (by simp [w10_TurnsWhole.j0])
  | succ kj7 =>
   have H:=HA.out
   clear HA
   simp only [w10_TurnsWhole.j0] at H
   by_cases c16 : x60_7 = true
   ·subst c16
    have H1 :(some false) = some r:=by rw [if_pos rfl] at H;exact H
    clear H
    have H:=H1
    clear H1
    obtain rfl:=Option.some.inj H
    go_wp2
    go_ret
    exact⟨by first | rfl |(simp [errW_none,errW_some] <;> rfl) |(simp [*,errW_none,errW_some] <;> rfl),by repeat(first |(with_reducible first | exact HB.out | apply bwA | apply bwN | apply bw1) | exact HB.out)⟩
   replace c16:=Bool.eq_false_iff.mpr c16
   subst c16
   have H1 :(w10_TurnsWhole.l0 kj7 t267 t268 l2 t269 t271 ([] : List Int) 0) = some r:=by rw [if_neg (show ¬ (false = true) by decide)] at H;exact H
   clear H
   have H:=H1
   clear H1
   have HC17:=Aside0.mk H
   clear H
   go_upto_block 0 with (fail)
   go_cut [11] (fun v11 wc=>∃ (kq : Nat) (x11_16 : List Int),Aside0 (w10_TurnsWhole.j2 kq t267 t268 t269 t271 x11_16 = some r)∧Aside0 (kq≤kj7)∧Aside0 (Kd.R (Kd.int .i64) 3 wc w.heap.size (fun _=>True) v11 x11_16)∧Aside0 (Below w.heap.size w wc))
   case first =>
    have H:=HC17.out
    clear HC17
    have H':=Aside0.mk H
    clear H
    go_wp2
    go_loopg [11,12] kj7 (fun kq v11 v12 w'=>∃ (x11_2 : List Int) (x12_2 : Int),v12 = .int .i64 x12_2∧Aside0 (w10_TurnsWhole.l0 kq t267 t268 l2 t269 t271 x11_2 x12_2 = some r)∧Aside0 (kq≤kj7)∧Aside0 (Kd.R (Kd.int .i64) 3 w' w.heap.size (fun _=>True) v11 x11_2)∧Aside0 (Below w.heap.size w w'))
    case atStart=>exact⟨(([] : List Int)),(0),(by first | rfl |(simp;done) |(simp [*];done)),H',⟨Nat.le_refl _⟩,⟨by first | exact Kd.R_nil _ _ _ _ _ | exact Kd.N_nil _ _ _ _ _ | exact Kd.V_nil _ _ _ _ _ | exact Kd.Q_nil _ _ _ _ _ | exact Kd.S_nil _ _ _ _ _⟩,⟨by repeat(first |(with_reducible first | exact HB.out | apply bwA | apply bwN | apply bw1) | exact HB.out)⟩⟩
    clear H'
    try clear c1
    try clear c2
    try clear p2
    try clear c5
    try clear p6
    try clear c11
    try clear c11b0
    try clear c11b1
    try clear c12
    try clear c12b0
    try clear c12b1
    try clear c13
    try clear c13b0
    try clear c14
    try clear c14b0
    try clear c15
    try clear c15b0
    try clear c16
    try clear p2
    try clear p6
    obtain ⟨x11_2,x12_2,rfl,HA,HK2,HO_11,HB⟩:=hrel
    cases gk with
    | zero=>exact absurd HA.out (by simp [w10_TurnsWhole.l0])
    | succ k2 =>
     have H:=HA.out
     clear HA
     simp only [w10_TurnsWhole.l0] at H
     by_cases c18 : x12_2 < (l2.length : Int)
     rotate_left
     ·rw [if_neg c18] at H
      have c18b0 : decide (x12_2 < (l2.length : Int)) = false:=decide_eq_false c18
      clear c18
      (first | rw [c18b0] |(simp only [i64_w,i32_w];rw [c18b0]) | skip)
      have H':=Aside0.mk H
      clear H
      go_wp2
      go_meet
      exact⟨_,(x11_2),H',⟨by have:=HJ7.out;have:=HK2.out;first | omega | exact Nat.le_refl _⟩,⟨by(with_reducible repeat(first | apply Kd.R_alloc | apply Kd.R_drewN | apply Kd.R_drew));exact HO_11.out⟩,⟨by repeat(first |(with_reducible first | exact HB.out | apply bwA | apply bwN | apply bw1) | exact HB.out)⟩⟩
     rw [if_pos c18] at H
     have c18b0 : decide (x12_2 < (l2.length : Int)) = true:=decide_eq_true c18
     clear c18
     (first | rw [c18b0] |(simp only [i64_w,i32_w];rw [c18b0]) | skip)
     by_cases c19 : x12_2 < 4
     rotate_left
     ·rw [if_neg c19] at H
      have c19b0 : decide (x12_2 < 4) = false:=decide_eq_false c19
      clear c19
      have H':=Aside0.mk H
      clear H
      go_wp2
      go_meet
      exact⟨_,(x11_2),H',⟨by have:=HJ7.out;have:=HK2.out;first | omega | exact Nat.le_refl _⟩,⟨by(with_reducible repeat(first | apply Kd.R_alloc | apply Kd.R_drewN | apply Kd.R_drew));exact HO_11.out⟩,⟨by repeat(first |(with_reducible first | exact HB.out | apply bwA | apply bwN | apply bw1) | exact HB.out)⟩⟩
     rw [if_pos c19] at H
     have c19b0 : decide (x12_2 < 4) = true:=decide_eq_true c19
     clear c19
     by_cases c20 : 0≤x12_2
     rotate_left
     ·rw [if_neg c20] at H
      exact absurd H (by simp)
     rw [if_pos c20] at H
     have c20b0 : decide (0≤x12_2) = true:=decide_eq_true c20
     clear c20
     replace H:=Option.bind_eq_some_iff.mp H
     obtain ⟨t274,A210,H⟩:=H
     replace H :(if x11_2.length < 17592186044416 then(w10_TurnsWhole.l0 k2 t267 t268 l2 t269 t271 (x11_2 ++ [wrap64 (1 + t274)]) (wrap64 (x12_2 + 1))) else(none)) = some r:=H
     have A21:=Aside0.mk A210
     clear A210
     by_cases c22 : x11_2.length < 17592186044416
     rotate_left
     ·rw [if_neg c22] at H
      exact absurd H (by simp)
     rw [if_pos c22] at H
     have LMc22:=Aside0.mk c22
     clear c22
     obtain ⟨y275,hy275⟩ : ∃ y_ : List Int,y_ =(x11_2 ++ [wrap64 (1 + t274)]):=⟨_,rfl⟩
     replace H :(w10_TurnsWhole.l0 k2 t267 t268 l2 t269 t271 y275 (wrap64 (x12_2 + 1))) = some r:=by first |(rw [hy275];with_reducible exact H) |(have H2_:=(Option.bind_some _ _).symm.trans H;rw [hy275];with_reducible exact H2_) |(have H2_:=(Option.bind_some _ _).symm.trans H;with_reducible exact H2_) | with_reducible exact H |(rw [hy275];exact H) | exact H
     have Ny275:=Aside0.mk hy275
     clear hy275
     have H':=Aside0.mk H
     clear H
     have p273 : 0 ≤(x12_2 : Int):=of_decide_eq_true (by first |(with_reducible assumption) | assumption)
     have q273 : x12_2 < (l2.length : Int):=of_decide_eq_true (by first |(with_reducible assumption) | assumption)
     obtain ⟨ad273,e273,hx273_0⟩:=Kd.at_int HR2.out x12_2 p273 q273
     cases e273
     replace hx273_0:=(HB.out.cell (World.block_lt_of_cell? w _ hx273_0)).trans hx273_0
     replace p273:=eq_true p273
     replace q273:=eq_true q273
     go_wp2_with (first |((with_reducible refine gate_callee (f:=26) rfl ?_);refine goesL_ (some 76) rfl rfl Try.func26 (by kernel_rfl) rfl #[.int .i64 (rd l2 x12_2),.int .i64 4] rfl (by(try simp only [List.map_toArray,List.map_cons,List.map_nil]);first | done | rfl |(simp only [List.length_drop,List.length_take];rfl)) ?_;(with_reducible refine(w10_mod.calls (rd l2 x12_2) 4 t274 _ A21.out).mono ?_);rintro e w' ⟨rfl,⟨nd,rfl⟩⟩;refine⟨_,rfl,?_⟩) |((with_reducible refine gate_builtin (b:=.append) (xs:=#[.tmp 71,.tmp 78]) rfl ?_);at_builtin;refine Kd.R_append (Kd.int .i64) (w0:=w) w.heap.size rfl (.tmp 71) (.tmp 78) 22 3 (.int .i64 0) 8 rfl Try.underlying22 info3 rfl (by decide) (by omega) u11 x11_2 (wrap64 (1 + t274)) [.int .i64 (wrap64 (1 + t274))] (fun _=>True) (fun _=>False) rfl rfl ?aP (fun _ hk=>hk.elim) ?aF ?aO ?aB ?aS ?aL ?_;(case aP=>exact rfl);(case aB=>exact(by repeat(first |(with_reducible first | exact HB.out | apply bwA | apply bwN | apply bw1) | exact HB.out)));(case aF=>exact(fun _ _=>trivial));(case aO=>exact(by(with_reducible repeat(first | apply Kd.R_alloc | apply Kd.R_drewN | apply Kd.R_drew));exact HO_11.out));(case aS=>exact(bwZ (by repeat(first |(with_reducible first | exact HB.out | apply bwA | apply bwN | apply bw1) | exact HB.out))));(case aL=>have:=LMc22.out;omega);intro v276 w23 ho hb hg hat;rw [← Ny275.out] at ho;have n0_:=Aside0.mk (hb);have n1_:=Aside0.mk (ho);clear HB;clear HO_11;have HB:=n0_;have HO277:=n1_;clear n0_ n1_;clear ho hb hg hat))
     go_roundg k2
     case measure=>have:=HJ7.out;have:=HK2.out;omega
     exact⟨(y275),(wrap64 (x12_2 + 1)),(by first | rfl |(simp;done) |(simp [*];done)),H',⟨by have:=HJ7.out;have:=HK2.out;omega⟩,⟨by(with_reducible repeat(first | apply Kd.R_alloc | apply Kd.R_drewN | apply Kd.R_drew));exact HO277.out⟩,⟨by repeat(first |(with_reducible first | exact HB.out | apply bwA | apply bwN | apply bw1) | exact HB.out)⟩⟩
   case rest =>
    clear HC17
    try clear c1
    try clear c2
    try clear p2
    try clear q2
    try clear hx2
    try clear c5
    try clear p6
    try clear c11
    try clear c11b0
    try clear c11b1
    try clear c12
    try clear c12b0
    try clear c12b1
    try clear c13
    try clear c13b0
    try clear c14
    try clear c14b0
    try clear c15
    try clear c15b0
    try clear c16
    try clear c18
    try clear c18b0
    try clear c19
    try clear c19b0
    try clear c20
    try clear c20b0
    try clear c22
    try clear hx273_0
    try clear p2
    try clear p273
    try clear p6
    try clear q273
    obtain ⟨kq,x11_16,HA,HJ16,HO_11,HB⟩:=hcut
    cases kq with
    | zero=>exact absurd HA.out (by simp [w10_TurnsWhole.j2])
    | succ kj16 =>
     have H:=HA.out
     clear HA
     simp only [w10_TurnsWhole.j2] at H
     by_cases c24 : 0≤t267
     rotate_left
     ·rw [if_neg c24] at H
      exact absurd H (by simp)
     rw [if_pos c24] at H
     have c24b0:=eq_true c24
     have c24b1 : decide (0≤t267) = true:=decide_eq_true c24
     clear c24
     obtain ⟨ji25,hji25⟩ : ∃ j_ : Int,(shl .i64 1 t267) = j_:=⟨_,rfl⟩
     replace H :((q10_Factorial.f kj16 t267).bind fun t278=>((q10_Product.f kj16 x11_16).bind fun t279=>(w10_TurnsWhole.l1 kj16 t267 t268 x11_16 (([ji25,t269,t278,t271,t279] : List Int)) 0))) = some r:=by first |(rw [hji25] at H;exact H) |(simp only [hji25] at H ⊢;exact H)
     have hji25_ :(IntKind.i64.wrap (1 * 2 ^ min t267.toNat 64)) = ji25:=hji25
     have hji25z : t267≤64 →(IntKind.i64.wrap (1 * 2 ^ t267.toNat)) = ji25:=shl_small hji25
     have hji25u :(IntKind.i64.wrap (2 ^ min t267.toNat 64)) = ji25:=by have h_:=hji25_;rw [Int.one_mul] at h_;exact h_
     have hji25v : t267≤64 →(IntKind.i64.wrap (2 ^ t267.toNat)) = ji25:=fun hle_=>by have h_:=hji25z hle_;rw [Int.one_mul] at h_;exact h_
     have hji25y :(wrap64 (1 * 2 ^ min t267.toNat 64)) = ji25:=(i64_w _).symm.trans hji25_
     have hji25x : t267≤64 →(wrap64 (1 * 2 ^ t267.toNat)) = ji25:=fun h_=>(i64_w _).symm.trans (hji25z h_)
     replace H:=Option.bind_eq_some_iff.mp H
     obtain ⟨t278,A260,H⟩:=H
     replace H :((q10_Product.f kj16 x11_16).bind fun t279=>(w10_TurnsWhole.l1 kj16 t267 t268 x11_16 (([ji25,t269,t278,t271,t279] : List Int)) 0)) = some r:=H
     have A26:=Aside0.mk A260
     clear A260
     replace H:=Option.bind_eq_some_iff.mp H
     obtain ⟨t279,A270,H⟩:=H
     replace H :(w10_TurnsWhole.l1 kj16 t267 t268 x11_16 (([ji25,t269,t278,t271,t279] : List Int)) 0) = some r:=H
     have A27:=Aside0.mk A270
     clear A270
     obtain ⟨y280,hy280⟩ : ∃ y_ : List Int,y_ =(([ji25,t269,t278,t271,t279] : List Int)):=⟨_,rfl⟩
     replace H :(w10_TurnsWhole.l1 kj16 t267 t268 x11_16 y280 0) = some r:=by first |(rw [hy280];with_reducible exact H) |(have H2_:=(Option.bind_some _ _).symm.trans H;rw [hy280];with_reducible exact H2_) |(have H2_:=(Option.bind_some _ _).symm.trans H;with_reducible exact H2_) | with_reducible exact H |(rw [hy280];exact H) | exact H
     have Ny280:=Aside0.mk hy280
     clear hy280
     have H':=Aside0.mk H
     clear H
     obtain ⟨Ao29,co29,eo29⟩:=Kd.R_slice HO_11.out
     subst eo29
     go_step
     go_step
     go_cut [13] (fun v13 wc=>∃ ad : Addr,v13 = .pointer (some ad)∧Aside0 (Kd.R (Kd.int .i64) 3 wc w.heap.size (fun k_=>some k_ ≠(.slice (some ad) 5 5 : Value).ownBlock) (.slice Ao29 x11_16.length co29) x11_16)∧Aside0 (Kd.R (Kd.int .i64) 41 wc w.heap.size (fun k_=>some k_ ≠((.slice Ao29 x11_16.length co29) : Value).ownBlock) (.slice (some ad) 5 5 : Value) y280)∧Aside0 (Below w.heap.size w wc))
     case first =>
      try go_wp2
      have n0_:=Aside0.mk (Kd.R_drew HO_11.out)
      have n1_:=Aside0.mk (bw1 HB.out)
      clear HO_11
      clear HB
      have HO_11:=n0_
      have HB:=n1_
      clear n0_ n1_
      refine start_ (n:=11) (S:=fun w'=>True) (ds:=[]) #[false,false,false,false,false,false,false,false,false,false,false] (by kernel_rfl) rfl rfl trivial (fun hHeld=>?_);refine with_tabW w10_TurnsWhole.tab12 w10_TurnsWhole.bits12 (fun HT_ HW_=>?_)
      generalize wc.drew = w28 at HO_11 HB hHeld ⊢
      refine pure_ (i:=0) (N:=some 80) (v:=?_) (a':=?_) #[true,false,false,false,false,false,false,false,false,false,false] rfl rfl (any_of HT_.out (by kernel_rfl)) (fun _ _ _ h=>h) (Or.inl ⟨by rfl,?_⟩) ?_ ?_
      rotate_left
      ·intro w'
       go_simp
       with_reducible rfl
      rotate_left
      ·simp only [Act.put, List.setIfInBounds_toArray, List.set_cons_zero, List.set_cons_succ, i64_w, i32_w]
       rfl
      refine pure_ (i:=1) (N:=some 81) (v:=?_) (a':=?_) #[true,true,false,false,false,false,false,false,false,false,false] rfl rfl (any_of HT_.out (by kernel_rfl)) (fun _ _ _ h=>h) (Or.inl ⟨by rfl,?_⟩) ?_ ?_
      rotate_left
      ·intro w'
       go_simp
       with_reducible rfl
      rotate_left
      ·simp only [Act.put, List.setIfInBounds_toArray, List.set_cons_zero, List.set_cons_succ, i64_w, i32_w]
       rfl
      refine pure_ (i:=2) (N:=some 82) (v:=?_) (a':=?_) #[true,true,true,false,false,false,false,false,false,false,false] rfl rfl (any_of HT_.out (by kernel_rfl)) (fun _ _ _ h=>h) (Or.inl ⟨by rfl,?_⟩) ?_ ?_
      rotate_left
      ·intro w'
       go_simp
       with_reducible rfl
      rotate_left
      ·simp only [Act.put, List.setIfInBounds_toArray, List.set_cons_zero, List.set_cons_succ, i64_w, i32_w]
       rfl
      refine pure_ (i:=3) (N:=some 83) (v:=?_) (a':=?_) #[true,true,true,true,false,false,false,false,false,false,false] rfl rfl (any_of HT_.out (by kernel_rfl)) (fun _ _ _ h=>h) (Or.inl ⟨by rfl,?_⟩) ?_ ?_
      rotate_left
      ·intro w'
       go_simp
       with_reducible rfl
      rotate_left
      ·simp only [Act.put, List.setIfInBounds_toArray, List.set_cons_zero, List.set_cons_succ, i64_w, i32_w]
       rfl
      refine pure_ (i:=5) (N:=some 85) (v:=?_) (a':=?_) #[true,true,true,true,false,true,false,false,false,false,false] rfl rfl (any_of HT_.out (by kernel_rfl)) (fun _ _ _ h=>h) (Or.inl ⟨by rfl,?_⟩) ?_ ?_
      rotate_left
      ·intro w'
       go_simp
       with_reducible rfl
      rotate_left
      ·simp only [Act.put, List.setIfInBounds_toArray, List.set_cons_zero, List.set_cons_succ, i64_w, i32_w]
       rfl
      refine pure_ (i:=6) (N:=some 86) (v:=?_) (a':=?_) #[true,true,true,true,false,true,true,false,false,false,false] rfl rfl (any_of HT_.out (by kernel_rfl)) (fun _ _ _ h=>h) (Or.inl ⟨by rfl,?_⟩) ?_ ?_
      rotate_left
      ·intro w'
       go_simp
       with_reducible rfl
      rotate_left
      ·simp only [Act.put, List.setIfInBounds_toArray, List.set_cons_zero, List.set_cons_succ, i64_w, i32_w]
       rfl
      refine two_ (i:=4) (j:=9) (Ni:=some 84) (Nj:=some 13) #[true,true,true,true,true,true,true,false,false,false,false] #[true,true,true,true,false,true,true,false,false,true,false] rfl rfl rfl rfl (two_of HT_.out (by kernel_rfl)) (by decide) (by decide) (fun K hK=>?_) (fun K hK=>?_)
      ·refine goes_ Try.func29 (by kernel_rfl) rfl #[.int .i64 t267] (by rfl) rfl rfl (by (try simp only [List.map_toArray, List.map_cons, List.map_nil]); first | done | rfl) ?_
       with_reducible refine(q10_Factorial.calls kj16 t267 t278 _ A26.out).mono ?_
       rintro e w' ⟨rfl,⟨nd,rfl⟩⟩
       refine⟨_,rfl,?_⟩
       refine hK.out _ _ trivial (fun hHeld=>?_)
       clear hK K
       refine norm_ (a':=?_) ?_ ?_
       rotate_left
       ·show Act.put _ (some 84) _ = _
        simp only [Act.put,List.setIfInBounds_toArray,List.set_cons_zero,List.set_cons_succ,i64_w,i32_w]
        rfl
       refine two_ (i:=7) (j:=9) (Ni:=some 87) (Nj:=some 13) #[true,true,true,true,true,true,true,true,false,false,false] #[true,true,true,true,true,true,true,false,false,true,false] rfl rfl rfl rfl (two_of HT_.out (by kernel_rfl)) (by decide) (by decide) (fun K hK=>?_) (fun K hK=>?_)
       ·refine goes_ Try.func21 (by kernel_rfl) rfl #[.slice Ao29 x11_16.length co29] (by rfl) rfl rfl (by (try simp only [List.map_toArray, List.map_cons, List.map_nil]); first | done | rfl) ?_
        with_reducible refine(q10_Product.calls kj16 _ _ x11_16 t279 _ ?side1 ?side2 A27.out).mono ?_
        (case side1=>repeat(first | exact(Kd.R_reads' HO_11.out).2.2 |(with_reducible refine Kd.C_alloc ?_ _) |(with_reducible refine Kd.C_drewN ?_ _) |(with_reducible refine Kd.C_drew ?_)))
        (case side2=>exact(Kd.R_reads' HO_11.out).2.1)
        rintro e w' ⟨rfl,⟨nd,rfl⟩⟩
        refine⟨_,rfl,?_⟩
        refine hK.out _ _ trivial (fun hHeld=>?_)
        clear hK K
        refine norm_ (a':=?_) ?_ ?_
        rotate_left
        ·show Act.put _ (some 87) _ = _
         simp only [Act.put,List.setIfInBounds_toArray,List.set_cons_zero,List.set_cons_succ,i64_w,i32_w]
         rfl
        refine pure_ (i:=8) (N:=some 88) (v:=?_) (a':=?_) #[true,true,true,true,true,true,true,true,true,false,false] rfl rfl (any_of HT_.out (by kernel_rfl)) (fun _ _ _ h=>h) (Or.inl ⟨by rfl,?_⟩) ?_ ?_
        rotate_left
        ·intro w'
         go_simp
         with_reducible rfl
        rotate_left
        ·simp only [Act.put, List.setIfInBounds_toArray, List.set_cons_zero, List.set_cons_succ, i64_w, i32_w]
         rfl
        refine one_ (i:=9) (N:=some 13) #[true,true,true,true,true,true,true,true,true,true,false] rfl rfl (one_of HT_.out (by kernel_rfl)) (by decide) (fun K hK=>?_)
        refine box_step (by rfl) (N:=13) rfl (cs:=#[.int .i64 0,.int .i64 0,.int .i64 0,.int .i64 0,.int .i64 0]) (t:=41) ?hr ?_
        (case hr=>first |(go_simp;done) |(go_simp;rfl))
        intro gb hg w30 hbox hb
        have hl_ : ∀ k,(.slice Ao29 x11_16.length co29 : Value).ownBlock = some k→k < gb:=by rw [hg];exact Kd.R_lt (by(with_reducible repeat(first | apply Kd.R_alloc | apply Kd.R_drewN | apply Kd.R_drew));exact HO_11.out)
        have n0_:=Aside0.mk (Kd.R_elder' (v:=.slice (some ⟨gb,0,none⟩) 5 5) (by(with_reducible repeat(first | apply Kd.R_alloc | apply Kd.R_drewN | apply Kd.R_drew));exact HO_11.out) (fun k hk=>own_ge hg hk) hb)
        have HNE:=Aside0.mk (fun h_ : some gb =(.slice Ao29 x11_16.length co29 : Value).ownBlock=>own_no hl_ h_)
        have GE:=Aside0.mk (by rw [hg];exact bwZ (by repeat(first |(with_reducible first | exact HB.out | apply bwA | apply bwN | apply bw1) | exact HB.out)) : w.heap.size≤gb)
        have HBOX:=Aside0.mk hbox
        have n1_:=Aside0.mk (bwT (by repeat(first |(with_reducible first | exact HB.out | apply bwA | apply bwN | apply bw1) | exact HB.out)) hb)
        clear HO_11
        clear HB
        have HO_11:=n0_
        have HB:=n1_
        clear n0_ n1_ hl_
        clear hg hb hbox
        refine hK.out _ _ trivial (fun hHeld=>?_)
        clear hK K
        refine norm_ (a':=?_) ?_ ?_
        rotate_left
        ·show Act.put _ (some 13) _ = _
         simp only [Act.put,List.setIfInBounds_toArray,List.set_cons_zero,List.set_cons_succ,i64_w,i32_w]
         rfl
        refine one_ (i:=10) (N:=none) #[true,true,true,true,true,true,true,true,true,true,true] rfl rfl (one_of HT_.out (by kernel_rfl)) (by decide) (fun K hK=>?_)
        rw [if_pos (by rfl)]
        refine wp_store_row 41 (.tmp 13) (.tmp 88) rfl gb #[.int .i64 ji25,.int .i64 t269,.int .i64 t278,.int .i64 t271,.int .i64 t279] rfl rfl 41 #[.int .i64 0,.int .i64 0,.int .i64 0,.int .i64 0,.int .i64 0] (by(with_reducible repeat(first | refine bkN ?_ _ | refine bkD ?_ | refine bkA ?_ _));exact HBOX.out) (by kernel_rfl) rfl (cells5 _ _ _ _ _) ?_
        refine hK.out _ _ trivial (fun hHeld=>?_)
        clear hK K
        refine norm_ (a':=?_) ?_ ?_
        rotate_left
        ·show Act.put _ (none) _ = _
         simp only [Act.put,List.setIfInBounds_toArray,List.set_cons_zero,List.set_cons_succ,i64_w,i32_w]
         rfl
        refine done_ (done_of HT_.out (by kernel_rfl)) ?_
        try go_wp2
        go_meet
        exact⟨⟨gb,0,none⟩,rfl,⟨Kd.R_mono (ok:=fun k_=>True∧some k_ ≠(.slice (some ⟨gb,0,none⟩) 5 5 : Value).ownBlock) (Kd.R_step (ok:=fun k_=>True∧some k_ ≠(.slice (some ⟨gb,0,none⟩) 5 5 : Value).ownBlock) (by(with_reducible repeat(first | apply Kd.R_alloc | apply Kd.R_drewN | apply Kd.R_drew));exact HO_11.out) (fun k ho hk=>setRow_other _ _ _ _ (fun e_=>ho.2 (by rw [e_];rfl)))) (fun _ hk=>hk.2)⟩,⟨by rw [Ny280.out];exact R_blk5 (setRow_heap _ _ _ _ _ _ (by(with_reducible repeat(first | refine bkN ?_ _ | refine bkD ?_ | refine bkA ?_ _));exact HBOX.out)) GE.out HNE.out⟩,⟨below_setRow (by repeat(first |(with_reducible first | exact HB.out | apply bwA | apply bwN | apply bw1) | exact HB.out)) GE.out _⟩⟩
       refine box_step (by rfl) (N:=13) rfl (cs:=#[.int .i64 0,.int .i64 0,.int .i64 0,.int .i64 0,.int .i64 0]) (t:=41) ?hr ?_
       (case hr=>first |(go_simp;done) |(go_simp;rfl))
       intro gb hg w30 hbox hb
       have hl_ : ∀ k,(.slice Ao29 x11_16.length co29 : Value).ownBlock = some k→k < gb:=by rw [hg];exact Kd.R_lt (by(with_reducible repeat(first | apply Kd.R_alloc | apply Kd.R_drewN | apply Kd.R_drew));exact HO_11.out)
       have n0_:=Aside0.mk (Kd.R_elder' (v:=.slice (some ⟨gb,0,none⟩) 5 5) (by(with_reducible repeat(first | apply Kd.R_alloc | apply Kd.R_drewN | apply Kd.R_drew));exact HO_11.out) (fun k hk=>own_ge hg hk) hb)
       have HNE:=Aside0.mk (fun h_ : some gb =(.slice Ao29 x11_16.length co29 : Value).ownBlock=>own_no hl_ h_)
       have GE:=Aside0.mk (by rw [hg];exact bwZ (by repeat(first |(with_reducible first | exact HB.out | apply bwA | apply bwN | apply bw1) | exact HB.out)) : w.heap.size≤gb)
       have HBOX:=Aside0.mk hbox
       have n1_:=Aside0.mk (bwT (by repeat(first |(with_reducible first | exact HB.out | apply bwA | apply bwN | apply bw1) | exact HB.out)) hb)
       clear HO_11
       clear HB
       have HO_11:=n0_
       have HB:=n1_
       clear n0_ n1_ hl_
       clear hg hb hbox
       refine hK.out _ _ trivial (fun hHeld=>?_)
       clear hK K
       refine norm_ (a':=?_) ?_ ?_
       rotate_left
       ·show Act.put _ (some 13) _ = _
        simp only [Act.put,List.setIfInBounds_toArray,List.set_cons_zero,List.set_cons_succ,i64_w,i32_w]
        rfl
       refine one_ (i:=7) (N:=some 87) #[true,true,true,true,true,true,true,true,false,true,false] rfl rfl (one_of HT_.out (by kernel_rfl)) (by decide) (fun K hK=>?_)
       refine goes_ Try.func21 (by kernel_rfl) rfl #[.slice Ao29 x11_16.length co29] (by rfl) rfl rfl (by(try simp only [List.map_toArray,List.map_cons,List.map_nil]);first | done | rfl) ?_
       with_reducible refine(q10_Product.calls kj16 _ _ x11_16 t279 _ ?side1 ?side2 A27.out).mono ?_
       (case side1=>repeat(first | exact(Kd.R_reads' HO_11.out).2.2 |(with_reducible refine Kd.C_alloc ?_ _) |(with_reducible refine Kd.C_drewN ?_ _) |(with_reducible refine Kd.C_drew ?_)))
       (case side2=>exact(Kd.R_reads' HO_11.out).2.1)
       rintro e w' ⟨rfl,⟨nd,rfl⟩⟩
       refine⟨_,rfl,?_⟩
       refine hK.out _ _ trivial (fun hHeld=>?_)
       clear hK K
       refine norm_ (a':=?_) ?_ ?_
       rotate_left
       ·show Act.put _ (some 87) _ = _
        simp only [Act.put,List.setIfInBounds_toArray,List.set_cons_zero,List.set_cons_succ,i64_w,i32_w]
        rfl
       refine pure_ (i:=8) (N:=some 88) (v:=?_) (a':=?_) #[true,true,true,true,true,true,true,true,true,true,false] rfl rfl (any_of HT_.out (by kernel_rfl)) (fun _ _ _ h=>h) (Or.inl ⟨by rfl,?_⟩) ?_ ?_
       rotate_left
       ·intro w'
        go_simp
        with_reducible rfl
       rotate_left
       ·simp only [Act.put, List.setIfInBounds_toArray, List.set_cons_zero, List.set_cons_succ, i64_w, i32_w]
        rfl
       refine one_ (i:=10) (N:=none) #[true,true,true,true,true,true,true,true,true,true,true] rfl rfl (one_of HT_.out (by kernel_rfl)) (by decide) (fun K hK=>?_)
       rw [if_pos (by rfl)]
       refine wp_store_row 41 (.tmp 13) (.tmp 88) rfl gb #[.int .i64 ji25,.int .i64 t269,.int .i64 t278,.int .i64 t271,.int .i64 t279] rfl rfl 41 #[.int .i64 0,.int .i64 0,.int .i64 0,.int .i64 0,.int .i64 0] (by(with_reducible repeat(first | refine bkN ?_ _ | refine bkD ?_ | refine bkA ?_ _));exact HBOX.out) (by kernel_rfl) rfl (cells5 _ _ _ _ _) ?_
       refine hK.out _ _ trivial (fun hHeld=>?_)
       clear hK K
       refine norm_ (a':=?_) ?_ ?_
       rotate_left
       ·show Act.put _ (none) _ = _
        simp only [Act.put,List.setIfInBounds_toArray,List.set_cons_zero,List.set_cons_succ,i64_w,i32_w]
        rfl
       refine done_ (done_of HT_.out (by kernel_rfl)) ?_
       try go_wp2
       go_meet
       exact⟨⟨gb,0,none⟩,rfl,⟨Kd.R_mono (ok:=fun k_=>True∧some k_ ≠(.slice (some ⟨gb,0,none⟩) 5 5 : Value).ownBlock) (Kd.R_step (ok:=fun k_=>True∧some k_ ≠(.slice (some ⟨gb,0,none⟩) 5 5 : Value).ownBlock) (by(with_reducible repeat(first | apply Kd.R_alloc | apply Kd.R_drewN | apply Kd.R_drew));exact HO_11.out) (fun k ho hk=>setRow_other _ _ _ _ (fun e_=>ho.2 (by rw [e_];rfl)))) (fun _ hk=>hk.2)⟩,⟨by rw [Ny280.out];exact R_blk5 (setRow_heap _ _ _ _ _ _ (by(with_reducible repeat(first | refine bkN ?_ _ | refine bkD ?_ | refine bkA ?_ _));exact HBOX.out)) GE.out HNE.out⟩,⟨below_setRow (by repeat(first |(with_reducible first | exact HB.out | apply bwA | apply bwN | apply bw1) | exact HB.out)) GE.out _⟩⟩
      refine box_step (by rfl) (N:=13) rfl (cs:=#[.int .i64 0,.int .i64 0,.int .i64 0,.int .i64 0,.int .i64 0]) (t:=41) ?hr ?_
      (case hr=>first |(go_simp;done) |(go_simp;rfl))
      intro gb hg w30 hbox hb
      have hl_ : ∀ k,(.slice Ao29 x11_16.length co29 : Value).ownBlock = some k→k < gb:=by rw [hg];exact Kd.R_lt (by(with_reducible repeat(first | apply Kd.R_alloc | apply Kd.R_drewN | apply Kd.R_drew));exact HO_11.out)
      have n0_:=Aside0.mk (Kd.R_elder' (v:=.slice (some ⟨gb,0,none⟩) 5 5) (by(with_reducible repeat(first | apply Kd.R_alloc | apply Kd.R_drewN | apply Kd.R_drew));exact HO_11.out) (fun k hk=>own_ge hg hk) hb)
      have HNE:=Aside0.mk (fun h_ : some gb =(.slice Ao29 x11_16.length co29 : Value).ownBlock=>own_no hl_ h_)
      have GE:=Aside0.mk (by rw [hg];exact bwZ (by repeat(first |(with_reducible first | exact HB.out | apply bwA | apply bwN | apply bw1) | exact HB.out)) : w.heap.size≤gb)
      have HBOX:=Aside0.mk hbox
      have n1_:=Aside0.mk (bwT (by repeat(first |(with_reducible first | exact HB.out | apply bwA | apply bwN | apply bw1) | exact HB.out)) hb)
      clear HO_11
      clear HB
      have HO_11:=n0_
      have HB:=n1_
      clear n0_ n1_ hl_
      clear hg hb hbox
      refine hK.out _ _ trivial (fun hHeld=>?_)
      clear hK K
      refine norm_ (a':=?_) ?_ ?_
      rotate_left
      ·show Act.put _ (some 13) _ = _
       simp only [Act.put,List.setIfInBounds_toArray,List.set_cons_zero,List.set_cons_succ,i64_w,i32_w]
       rfl
      refine one_ (i:=4) (N:=some 84) #[true,true,true,true,true,true,true,false,false,true,false] rfl rfl (one_of HT_.out (by kernel_rfl)) (by decide) (fun K hK=>?_)
      refine goes_ Try.func29 (by kernel_rfl) rfl #[.int .i64 t267] (by rfl) rfl rfl (by(try simp only [List.map_toArray,List.map_cons,List.map_nil]);first | done | rfl) ?_
      with_reducible refine(q10_Factorial.calls kj16 t267 t278 _ A26.out).mono ?_
      rintro e w' ⟨rfl,⟨nd,rfl⟩⟩
      refine⟨_,rfl,?_⟩
      refine hK.out _ _ trivial (fun hHeld=>?_)
      clear hK K
      refine norm_ (a':=?_) ?_ ?_
      rotate_left
      ·show Act.put _ (some 84) _ = _
       simp only [Act.put,List.setIfInBounds_toArray,List.set_cons_zero,List.set_cons_succ,i64_w,i32_w]
       rfl
      refine one_ (i:=7) (N:=some 87) #[true,true,true,true,true,true,true,true,false,true,false] rfl rfl (one_of HT_.out (by kernel_rfl)) (by decide) (fun K hK=>?_)
      refine goes_ Try.func21 (by kernel_rfl) rfl #[.slice Ao29 x11_16.length co29] (by rfl) rfl rfl (by(try simp only [List.map_toArray,List.map_cons,List.map_nil]);first | done | rfl) ?_
      with_reducible refine(q10_Product.calls kj16 _ _ x11_16 t279 _ ?side1 ?side2 A27.out).mono ?_
      (case side1=>repeat(first | exact(Kd.R_reads' HO_11.out).2.2 |(with_reducible refine Kd.C_alloc ?_ _) |(with_reducible refine Kd.C_drewN ?_ _) |(with_reducible refine Kd.C_drew ?_)))
      (case side2=>exact(Kd.R_reads' HO_11.out).2.1)
      rintro e w' ⟨rfl,⟨nd,rfl⟩⟩
      refine⟨_,rfl,?_⟩
      refine hK.out _ _ trivial (fun hHeld=>?_)
      clear hK K
      refine norm_ (a':=?_) ?_ ?_
      rotate_left
      ·show Act.put _ (some 87) _ = _
       simp only [Act.put,List.setIfInBounds_toArray,List.set_cons_zero,List.set_cons_succ,i64_w,i32_w]
       rfl
      refine pure_ (i:=8) (N:=some 88) (v:=?_) (a':=?_) #[true,true,true,true,true,true,true,true,true,true,false] rfl rfl (any_of HT_.out (by kernel_rfl)) (fun _ _ _ h=>h) (Or.inl ⟨by rfl,?_⟩) ?_ ?_
      rotate_left
      ·intro w'
       go_simp
       with_reducible rfl
      rotate_left
      ·simp only [Act.put, List.setIfInBounds_toArray, List.set_cons_zero, List.set_cons_succ, i64_w, i32_w]
       rfl
      refine one_ (i:=10) (N:=none) #[true,true,true,true,true,true,true,true,true,true,true] rfl rfl (one_of HT_.out (by kernel_rfl)) (by decide) (fun K hK=>?_)
      rw [if_pos (by rfl)]
      refine wp_store_row 41 (.tmp 13) (.tmp 88) rfl gb #[.int .i64 ji25,.int .i64 t269,.int .i64 t278,.int .i64 t271,.int .i64 t279] rfl rfl 41 #[.int .i64 0,.int .i64 0,.int .i64 0,.int .i64 0,.int .i64 0] (by(with_reducible repeat(first | refine bkN ?_ _ | refine bkD ?_ | refine bkA ?_ _));exact HBOX.out) (by kernel_rfl) rfl (cells5 _ _ _ _ _) ?_
      refine hK.out _ _ trivial (fun hHeld=>?_)
      clear hK K
      refine norm_ (a':=?_) ?_ ?_
      rotate_left
      ·show Act.put _ (none) _ = _
       simp only [Act.put,List.setIfInBounds_toArray,List.set_cons_zero,List.set_cons_succ,i64_w,i32_w]
       rfl
      refine done_ (done_of HT_.out (by kernel_rfl)) ?_
      try go_wp2
      go_meet
      exact⟨⟨gb,0,none⟩,rfl,⟨Kd.R_mono (ok:=fun k_=>True∧some k_ ≠(.slice (some ⟨gb,0,none⟩) 5 5 : Value).ownBlock) (Kd.R_step (ok:=fun k_=>True∧some k_ ≠(.slice (some ⟨gb,0,none⟩) 5 5 : Value).ownBlock) (by(with_reducible repeat(first | apply Kd.R_alloc | apply Kd.R_drewN | apply Kd.R_drew));exact HO_11.out) (fun k ho hk=>setRow_other _ _ _ _ (fun e_=>ho.2 (by rw [e_];rfl)))) (fun _ hk=>hk.2)⟩,⟨by rw [Ny280.out];exact R_blk5 (setRow_heap _ _ _ _ _ _ (by(with_reducible repeat(first | refine bkN ?_ _ | refine bkD ?_ | refine bkA ?_ _));exact HBOX.out)) GE.out HNE.out⟩,⟨below_setRow (by repeat(first |(with_reducible first | exact HB.out | apply bwA | apply bwN | apply bw1) | exact HB.out)) GE.out _⟩⟩
     case rest =>
      clear HO_11 HB
      obtain ⟨ad,rfl,HO_11,HO282,HB⟩:=hcut
      have HY5:=Aside0.mk (show y280.length = 5 by rw [Ny280.out];rfl)
      go_wp2
      go_loopg [14] kj16 (fun kq v14 w'=>∃ (x14_3 : Int),v14 = .int .i64 x14_3∧Aside0 (w10_TurnsWhole.l1 kq t267 t268 x11_16 y280 x14_3 = some r)∧Aside0 (kq≤kj16)∧Aside0 (Kd.R (Kd.int .i64) 3 w' w.heap.size (fun k_=>some k_ ≠(.slice (some ad) 5 5 : Value).ownBlock) (.slice Ao29 x11_16.length co29) x11_16)∧Aside0 (Kd.R (Kd.int .i64) 41 w' w.heap.size (fun k_=>some k_ ≠((.slice Ao29 x11_16.length co29) : Value).ownBlock) (.slice (some ad) 5 5 : Value) y280)∧Aside0 (Below w.heap.size w w'))
      case atStart=>exact⟨(0),(by first | rfl |(simp;done) |(simp [*];done)),H',⟨Nat.le_refl _⟩,⟨by(with_reducible repeat(first | apply Kd.R_alloc | apply Kd.R_drewN | apply Kd.R_drew));exact HO_11.out⟩,⟨by(with_reducible repeat(first | apply Kd.R_alloc | apply Kd.R_drewN | apply Kd.R_drew));exact HO282.out⟩,⟨by repeat(first |(with_reducible first | exact HB.out | apply bwA | apply bwN | apply bw1) | exact HB.out)⟩⟩
      clear H'
      try clear c1
      try clear c2
      try clear p2
      try clear q2
      try clear hx2
      try clear c5
      try clear p6
      try clear c11
      try clear c11b0
      try clear c11b1
      try clear c12
      try clear c12b0
      try clear c12b1
      try clear c13
      try clear c13b0
      try clear c14
      try clear c14b0
      try clear c15
      try clear c15b0
      try clear c16
      try clear c18
      try clear c18b0
      try clear c19
      try clear c19b0
      try clear c20
      try clear c20b0
      try clear c21
      try clear c22
      try clear c24
      try clear c24b0
      try clear c24b1
      try clear c26
      try clear c27
      try clear p27
      try clear q27
      try clear hx27
      try clear c28
      try clear c29
      try clear hx273_0
      try clear p2
      try clear p273
      try clear p6
      try clear q2
      try clear q273
      obtain ⟨x14_3,rfl,HA,HK3,HO_11,HO_13,HB⟩:=hrel
      cases gk with
      | zero=>exact absurd HA.out (by simp [w10_TurnsWhole.l1])
      | succ k3 =>
       have H:=HA.out
       clear HA
       simp only [w10_TurnsWhole.l1] at H
       by_cases c32 : x14_3 < 5
       rotate_left
       ·rw [if_neg c32] at H
        have c32b0 : decide (x14_3 < 5) = false:=decide_eq_false c32
        clear c32
        replace H:=Option.bind_eq_some_iff.mp H
        obtain ⟨t283,A600,H⟩:=H
        replace H :(some t283) = some r:=H
        have A60:=Aside0.mk A600
        clear A600
        obtain rfl:=Option.some.inj H
        go_wp2_with (first |((with_reducible refine gate_callee (f:=20) rfl ?_);refine goesL_ (some 140) rfl rfl Try.func20 (by kernel_rfl) rfl #[] rfl (by(try simp only [List.map_toArray,List.map_cons,List.map_nil]);first | done | rfl |(simp only [List.length_drop,List.length_take];rfl)) ?_;(with_reducible refine(w10_awake.calls k3  t283 _ A60.out).mono ?_);rintro e w61 ⟨rfl,hb⟩;refine⟨_,rfl,?_⟩;have n0_:=Aside0.mk (Kd.R_below (by(with_reducible repeat(first | apply Kd.R_alloc | apply Kd.R_drewN | apply Kd.R_drew));exact HO_11.out) hb);have n1_:=Aside0.mk (Kd.R_below (by(with_reducible repeat(first | apply Kd.R_alloc | apply Kd.R_drewN | apply Kd.R_drew));exact HO_13.out) hb);have n2_:=Aside0.mk (bwT (by repeat(first |(with_reducible first | exact HB.out | apply bwA | apply bwN | apply bw1) | exact HB.out)) hb);clear HO_11;clear HO_13;clear HB;have HO_11:=n0_;have HO_13:=n1_;have HB:=n2_;clear n0_ n1_ n2_;(try clear hb);(try clear hb2);(try clear hk);(try clear hi)))
        go_ret
        exact⟨by first | rfl |(simp [errW_none,errW_some] <;> rfl) |(simp only [← hji25];first | rfl |(simp [errW_none,errW_some] <;> rfl)) |(simp [*,errW_none,errW_some] <;> rfl),by repeat(first |(with_reducible first | exact HB.out | apply bwA | apply bwN | apply bw1) | exact HB.out)⟩
       rw [if_pos c32] at H
       have c32b0 : decide (x14_3 < 5) = true:=decide_eq_true c32
       clear c32
       have H':=Aside0.mk H
       clear H
       go_wp2
       go_loopg [15,16] k3 (fun kq v15 v16 w'=>∃ (x15_4 : List (List Int)) (x16_4 : Int),v16 = .int .i64 x16_4∧Aside0 (w10_TurnsWhole.l2 kq t267 t268 x11_16 y280 x14_3 x15_4 x16_4 = some r)∧Aside0 (kq≤k3)∧Aside0 (Kd.R (Kd.int .i64) 3 w' w.heap.size (fun k_=>some k_ ≠(.slice (some ad) 5 5 : Value).ownBlock) (.slice Ao29 x11_16.length co29) x11_16)∧Aside0 (Kd.R (Kd.int .i64) 41 w' w.heap.size (fun k_=>some k_ ≠((.slice Ao29 x11_16.length co29) : Value).ownBlock) (.slice (some ad) 5 5 : Value) y280)∧Aside0 (Kd.S (Kd.slice 3 (Kd.int .i64)) 22 w' w.heap.size (fun k_=>some k_ ≠((.slice Ao29 x11_16.length co29) : Value).ownBlock∧some k_ ≠(.slice (some ad) 5 5 : Value).ownBlock) v15 x15_4)∧Aside0 (Below w.heap.size w w'))
       case atStart=>exact⟨(([] : List (List Int))),(0),(by first | rfl |(simp;done) |(simp [*];done)),H',⟨Nat.le_refl _⟩,⟨by(with_reducible repeat(first | apply Kd.R_alloc | apply Kd.R_drewN | apply Kd.R_drew));exact HO_11.out⟩,⟨by(with_reducible repeat(first | apply Kd.R_alloc | apply Kd.R_drewN | apply Kd.R_drew));exact HO_13.out⟩,⟨by first | exact Kd.S_nil _ _ _ _ _ | exact Kd.N_nil _ _ _ _ _ | exact Kd.V_nil _ _ _ _ _ | exact Kd.Q_nil _ _ _ _ _ | exact Kd.R_nil _ _ _ _ _⟩,⟨by repeat(first |(with_reducible first | exact HB.out | apply bwA | apply bwN | apply bw1) | exact HB.out)⟩⟩
       clear H'
       try clear c1
       try clear c2
       try clear p2
       try clear q2
       try clear hx2
       try clear c3
       try clear c5
       try clear p6
       try clear c11
       try clear c11b0
       try clear c11b1
       try clear c12
       try clear c12b0
       try clear c12b1
       try clear c13
       try clear c13b0
       try clear c14
       try clear c14b0
       try clear c15
       try clear c15b0
       try clear c16
       try clear c18
       try clear c18b0
       try clear c19
       try clear c19b0
       try clear c20
       try clear c20b0
       try clear c21
       try clear c22
       try clear c24
       try clear c24b0
       try clear c24b1
       try clear c26
       try clear c27
       try clear p27
       try clear q27
       try clear hx27
       try clear c28
       try clear c29
       try clear c32
       try clear c32b0
       try clear hx273_0
       try clear p2
       try clear p27
       try clear p273
       try clear p6
       try clear q2
       try clear q27
       try clear q273
       obtain ⟨x15_4,x16_4,rfl,HA,HK4,HO_11,HO_13,HO_15,HB⟩:=hrel
       cases gk with
       | zero=>exact absurd HA.out (by simp [w10_TurnsWhole.l2])
       | succ k4 =>
        have H:=HA.out
        clear HA
        simp only [w10_TurnsWhole.l2] at H
        by_cases c33 : 0≤x14_3
        rotate_left
        ·rw [if_neg c33] at H
         exact absurd H (by simp)
        rw [if_pos c33] at H
        have c33b0 : decide (0≤x14_3) = true:=decide_eq_true c33
        clear c33
        by_cases c34 : x14_3 < (y280.length : Int)
        rotate_left
        ·rw [if_neg c34] at H
         exact absurd H (by simp)
        rw [if_pos c34] at H
        have c34b0 : decide (x14_3 < (y280.length : Int)) = true:=decide_eq_true c34
        clear c34
        by_cases c35 : x16_4 < (rd y280 x14_3)
        rotate_left
        ·rw [if_neg c35] at H
         have c35b0 : decide (x16_4 < (rd y280 x14_3)) = false:=decide_eq_false c35
         clear c35
         replace H:=Option.bind_eq_some_iff.mp H
         obtain ⟨⟨t286,t287⟩,A540,H⟩:=H
         replace H :(if t287 = 2 then(w10_TurnsWhole.l1 k4 t267 t268 x11_16 y280 (wrap64 (x14_3 + 1))) else(some false)) = some r:=H
         have A54:=Aside0.mk A540
         clear A540
         by_cases c55 : t287 = 2
         rotate_left
         ·rw [if_neg c55] at H
          have c55b0 :(t287 == 2) = false:=beq_eq_false_iff_ne.mpr c55
          have c55b1 :(t287 != 2) = true:=bne_iff_ne.mpr c55
          obtain rfl:=Option.some.inj H
          have p284 : 0 ≤(x14_3 : Int):=of_decide_eq_true (by first |(with_reducible assumption) | assumption)
          have q284 : x14_3 < (y280.length : Int):=of_decide_eq_true (by first |(with_reducible assumption) | assumption)
          obtain ⟨ad284,e284,hx284_0⟩:=Kd.at_int (Kd.R_reads' HO_13.out).2.2 x14_3 p284 q284
          cases e284
          replace p284:=eq_true p284
          replace q284:=eq_true q284
          have v_q284:=eq_true (show x14_3 < (5 : Int) by have h_:=HY5.out;have h2_:=of_eq_true q284;omega)
          have p285 : 0 ≤(x14_3 : Int):=of_decide_eq_true (by first |(with_reducible assumption) | assumption)
          have q285 : x14_3 < (y280.length : Int):=of_decide_eq_true (by first |(with_reducible assumption) | assumption)
          obtain ⟨ad285,e285,hx285_0⟩:=Kd.at_int (Kd.R_reads' HO_13.out).2.2 x14_3 p285 q285
          cases e285
          replace p285:=eq_true p285
          replace q285:=eq_true q285
          have v_q285:=eq_true (show x14_3 < (5 : Int) by have h_:=HY5.out;have h2_:=of_eq_true q285;omega)
          go_wp2_with (first |((with_reducible refine gate_callee (f:=30) rfl ?_);refine goesL_ (some 135) rfl rfl Try.func30 (by kernel_rfl) rfl #[.int .i64 x14_3,.int .i64 t267,.int .i64 t268,.slice Ao29 x11_16.length co29,.int .i64 (rd y280 x14_3)] rfl (by(try simp only [List.map_toArray,List.map_cons,List.map_nil]);first | done | rfl |(simp only [List.length_drop,List.length_take];rfl)) ?_;(with_reducible refine(w10_item.calls x14_3 t267 t268 _ _ x11_16 (rd y280 x14_3) t286 t287 _ ?side1 ?side2 A54.out).mono ?_);(case side1=>repeat(first | exact(Kd.R_reads' HO_11.out).2.2 |(with_reducible refine Kd.C_alloc ?_ _) |(with_reducible refine Kd.C_drewN ?_ _) |(with_reducible refine Kd.C_drew ?_)));(case side2=>exact(Kd.R_reads' HO_11.out).2.1);rintro e w59 ⟨v288,rfl,ho0,hb⟩;refine⟨_,rfl,?_⟩;have n0_:=Aside0.mk (Kd.R_elder' (by(with_reducible repeat(first | apply Kd.R_alloc | apply Kd.R_drewN | apply Kd.R_drew));exact HO_11.out) (Kd.R_base ho0) hb);have n1_:=Aside0.mk (Kd.R_elder' (by(with_reducible repeat(first | apply Kd.R_alloc | apply Kd.R_drewN | apply Kd.R_drew));exact HO_13.out) (Kd.R_base ho0) hb);have n2_:=Aside0.mk (Kd.S_elder' (by(with_reducible repeat(first | apply Kd.S_alloc | apply Kd.S_drewN | apply Kd.S_drew));exact HO_15.out) (Kd.R_base ho0) hb);have n3_:=Aside0.mk (Kd.R_lower (Kd.R_new' (Kd.R_new' ho0 (Kd.R_lt (by(with_reducible repeat(first | apply Kd.R_alloc | apply Kd.R_drewN | apply Kd.R_drew));exact HO_11.out))) (Kd.R_lt (by(with_reducible repeat(first | apply Kd.R_alloc | apply Kd.R_drewN | apply Kd.R_drew));exact HO_13.out))) (bwZ (by repeat(first |(with_reducible first | exact HB.out | apply bwA | apply bwN | apply bw1) | exact HB.out))));have n4_:=Aside0.mk (bwT (by repeat(first |(with_reducible first | exact HB.out | apply bwA | apply bwN | apply bw1) | exact HB.out)) hb);clear HO_11;clear HO_13;clear HO_15;clear HB;have HO_11:=n0_;have HO_13:=n1_;have HO_15:=n2_;have HO289:=n3_;have HB:=n4_;clear n0_ n1_ n2_ n3_ n4_;(try clear hb);(try clear hb2);(try clear hk);(try clear hi);(try clear ho0)))
          go_ret
          exact⟨by first | rfl |(simp [errW_none,errW_some] <;> rfl) |(simp only [← hji25];first | rfl |(simp [errW_none,errW_some] <;> rfl)) |(simp [*,errW_none,errW_some] <;> rfl),by repeat(first |(with_reducible first | exact HB.out | apply bwA | apply bwN | apply bw1) | exact HB.out)⟩
         rw [if_pos c55] at H
         have c55b0 :(t287 == 2) = true:=beq_iff_eq.mpr c55
         have c55b1 :(t287 != 2) = false:=bne_eq_false_iff_eq.mpr c55
         clear c55
         have H':=Aside0.mk H
         clear H
         have p284 : 0 ≤(x14_3 : Int):=of_decide_eq_true (by first |(with_reducible assumption) | assumption)
         have q284 : x14_3 < (y280.length : Int):=of_decide_eq_true (by first |(with_reducible assumption) | assumption)
         obtain ⟨ad284,e284,hx284_0⟩:=Kd.at_int (Kd.R_reads' HO_13.out).2.2 x14_3 p284 q284
         cases e284
         replace p284:=eq_true p284
         replace q284:=eq_true q284
         have v_q284:=eq_true (show x14_3 < (5 : Int) by have h_:=HY5.out;have h2_:=of_eq_true q284;omega)
         have p285 : 0 ≤(x14_3 : Int):=of_decide_eq_true (by first |(with_reducible assumption) | assumption)
         have q285 : x14_3 < (y280.length : Int):=of_decide_eq_true (by first |(with_reducible assumption) | assumption)
         obtain ⟨ad285,e285,hx285_0⟩:=Kd.at_int (Kd.R_reads' HO_13.out).2.2 x14_3 p285 q285
         cases e285
         replace p285:=eq_true p285
         replace q285:=eq_true q285
         have v_q285:=eq_true (show x14_3 < (5 : Int) by have h_:=HY5.out;have h2_:=of_eq_true q285;omega)
         go_wp2_with (first |((with_reducible refine gate_callee (f:=30) rfl ?_);refine goesL_ (some 135) rfl rfl Try.func30 (by kernel_rfl) rfl #[.int .i64 x14_3,.int .i64 t267,.int .i64 t268,.slice Ao29 x11_16.length co29,.int .i64 (rd y280 x14_3)] rfl (by(try simp only [List.map_toArray,List.map_cons,List.map_nil]);first | done | rfl |(simp only [List.length_drop,List.length_take];rfl)) ?_;(with_reducible refine(w10_item.calls x14_3 t267 t268 _ _ x11_16 (rd y280 x14_3) t286 t287 _ ?side1 ?side2 A54.out).mono ?_);(case side1=>repeat(first | exact(Kd.R_reads' HO_11.out).2.2 |(with_reducible refine Kd.C_alloc ?_ _) |(with_reducible refine Kd.C_drewN ?_ _) |(with_reducible refine Kd.C_drew ?_)));(case side2=>exact(Kd.R_reads' HO_11.out).2.1);rintro e w57 ⟨v288,rfl,ho0,hb⟩;refine⟨_,rfl,?_⟩;have n0_:=Aside0.mk (Kd.R_elder' (by(with_reducible repeat(first | apply Kd.R_alloc | apply Kd.R_drewN | apply Kd.R_drew));exact HO_11.out) (Kd.R_base ho0) hb);have n1_:=Aside0.mk (Kd.R_elder' (by(with_reducible repeat(first | apply Kd.R_alloc | apply Kd.R_drewN | apply Kd.R_drew));exact HO_13.out) (Kd.R_base ho0) hb);have n2_:=Aside0.mk (Kd.S_elder' (by(with_reducible repeat(first | apply Kd.S_alloc | apply Kd.S_drewN | apply Kd.S_drew));exact HO_15.out) (Kd.R_base ho0) hb);have n3_:=Aside0.mk (Kd.R_lower (Kd.R_new' (Kd.R_new' ho0 (Kd.R_lt (by(with_reducible repeat(first | apply Kd.R_alloc | apply Kd.R_drewN | apply Kd.R_drew));exact HO_11.out))) (Kd.R_lt (by(with_reducible repeat(first | apply Kd.R_alloc | apply Kd.R_drewN | apply Kd.R_drew));exact HO_13.out))) (bwZ (by repeat(first |(with_reducible first | exact HB.out | apply bwA | apply bwN | apply bw1) | exact HB.out))));have n4_:=Aside0.mk (bwT (by repeat(first |(with_reducible first | exact HB.out | apply bwA | apply bwN | apply bw1) | exact HB.out)) hb);clear HO_11;clear HO_13;clear HO_15;clear HB;have HO_11:=n0_;have HO_13:=n1_;have HO_15:=n2_;have HO289:=n3_;have HB:=n4_;clear n0_ n1_ n2_ n3_ n4_;(try clear hb);(try clear hb2);(try clear hk);(try clear hi);(try clear ho0)))
         go_roundg k4
         case measure=>have:=HJ7.out;have:=HJ16.out;have:=HK3.out;have:=HK4.out;omega
         exact⟨(wrap64 (x14_3 + 1)),(by first | rfl |(simp;done) |(simp [*];done)),H',⟨by have:=HJ7.out;have:=HJ16.out;have:=HK3.out;have:=HK4.out;omega⟩,⟨by(with_reducible repeat(first | apply Kd.R_alloc | apply Kd.R_drewN | apply Kd.R_drew));exact Kd.R_mono HO_11.out (fun _ hk=>hk.1)⟩,⟨by(with_reducible repeat(first | apply Kd.R_alloc | apply Kd.R_drewN | apply Kd.R_drew));exact Kd.R_mono HO_13.out (fun _ hk=>hk.1)⟩,⟨by repeat(first |(with_reducible first | exact HB.out | apply bwA | apply bwN | apply bw1) | exact HB.out)⟩⟩
        rw [if_pos c35] at H
        have c35b0 : decide (x16_4 < (rd y280 x14_3)) = true:=decide_eq_true c35
        clear c35
        replace H:=Option.bind_eq_some_iff.mp H
        obtain ⟨⟨t290,t291⟩,A360,H⟩:=H
        replace H :(if t291 = 0 then(w10_TurnsWhole.l3 k4 t267 t268 x11_16 y280 x14_3 x15_4 x16_4 t290 0) else(some false)) = some r:=H
        have A36:=Aside0.mk A360
        clear A360
        by_cases c37 : t291 = 0
        rotate_left
        ·rw [if_neg c37] at H
         have c37b0 :(t291 == 0) = false:=beq_eq_false_iff_ne.mpr c37
         have c37b1 :(t291 != 0) = true:=bne_iff_ne.mpr c37
         obtain rfl:=Option.some.inj H
         have p284 : 0 ≤(x14_3 : Int):=of_decide_eq_true (by first |(with_reducible assumption) | assumption)
         have q284 : x14_3 < (y280.length : Int):=of_decide_eq_true (by first |(with_reducible assumption) | assumption)
         obtain ⟨ad284,e284,hx284_0⟩:=Kd.at_int (Kd.R_reads' HO_13.out).2.2 x14_3 p284 q284
         cases e284
         replace p284:=eq_true p284
         replace q284:=eq_true q284
         have v_q284:=eq_true (show x14_3 < (5 : Int) by have h_:=HY5.out;have h2_:=of_eq_true q284;omega)
         go_wp2_with (first |((with_reducible refine gate_callee (f:=30) rfl ?_);refine goesL_ (some 106) rfl rfl Try.func30 (by kernel_rfl) rfl #[.int .i64 x14_3,.int .i64 t267,.int .i64 t268,.slice Ao29 x11_16.length co29,.int .i64 x16_4] rfl (by(try simp only [List.map_toArray,List.map_cons,List.map_nil]);first | done | rfl |(simp only [List.length_drop,List.length_take];rfl)) ?_;(with_reducible refine(w10_item.calls x14_3 t267 t268 _ _ x11_16 x16_4 t290 t291 _ ?side1 ?side2 A36.out).mono ?_);(case side1=>repeat(first | exact(Kd.R_reads' HO_11.out).2.2 |(with_reducible refine Kd.C_alloc ?_ _) |(with_reducible refine Kd.C_drewN ?_ _) |(with_reducible refine Kd.C_drew ?_)));(case side2=>exact(Kd.R_reads' HO_11.out).2.1);rintro e w53 ⟨v292,rfl,ho0,hb⟩;refine⟨_,rfl,?_⟩;have n0_:=Aside0.mk (Kd.R_elder' (by(with_reducible repeat(first | apply Kd.R_alloc | apply Kd.R_drewN | apply Kd.R_drew));exact HO_11.out) (Kd.R_base ho0) hb);have n1_:=Aside0.mk (Kd.R_elder' (by(with_reducible repeat(first | apply Kd.R_alloc | apply Kd.R_drewN | apply Kd.R_drew));exact HO_13.out) (Kd.R_base ho0) hb);have n2_:=Aside0.mk (Kd.S_elder' (by(with_reducible repeat(first | apply Kd.S_alloc | apply Kd.S_drewN | apply Kd.S_drew));exact HO_15.out) (Kd.R_base ho0) hb);have n3_:=Aside0.mk (Kd.R_lower (Kd.R_new' (Kd.R_new' ho0 (Kd.R_lt (by(with_reducible repeat(first | apply Kd.R_alloc | apply Kd.R_drewN | apply Kd.R_drew));exact HO_11.out))) (Kd.R_lt (by(with_reducible repeat(first | apply Kd.R_alloc | apply Kd.R_drewN | apply Kd.R_drew));exact HO_13.out))) (bwZ (by repeat(first |(with_reducible first | exact HB.out | apply bwA | apply bwN | apply bw1) | exact HB.out))));have n4_:=Aside0.mk (bwT (by repeat(first |(with_reducible first | exact HB.out | apply bwA | apply bwN | apply bw1) | exact HB.out)) hb);clear HO_11;clear HO_13;clear HO_15;clear HB;have HO_11:=n0_;have HO_13:=n1_;have HO_15:=n2_;have HO293:=n3_;have HB:=n4_;clear n0_ n1_ n2_ n3_ n4_;(try clear hb);(try clear hb2);(try clear hk);(try clear hi);(try clear ho0)))
         go_ret
         exact⟨by first | rfl |(simp [errW_none,errW_some] <;> rfl) |(simp only [← hji25];first | rfl |(simp [errW_none,errW_some] <;> rfl)) |(simp [*,errW_none,errW_some] <;> rfl),by repeat(first |(with_reducible first | exact HB.out | apply bwA | apply bwN | apply bw1) | exact HB.out)⟩
        rw [if_pos c37] at H
        have c37b0 :(t291 == 0) = true:=beq_iff_eq.mpr c37
        have c37b1 :(t291 != 0) = false:=bne_eq_false_iff_eq.mpr c37
        clear c37
        have H':=Aside0.mk H
        clear H
        have p284 : 0 ≤(x14_3 : Int):=of_decide_eq_true (by first |(with_reducible assumption) | assumption)
        have q284 : x14_3 < (y280.length : Int):=of_decide_eq_true (by first |(with_reducible assumption) | assumption)
        obtain ⟨ad284,e284,hx284_0⟩:=Kd.at_int (Kd.R_reads' HO_13.out).2.2 x14_3 p284 q284
        cases e284
        replace p284:=eq_true p284
        replace q284:=eq_true q284
        have v_q284:=eq_true (show x14_3 < (5 : Int) by have h_:=HY5.out;have h2_:=of_eq_true q284;omega)
        go_wp2_with (first |((with_reducible refine gate_callee (f:=30) rfl ?_);refine goesL_ (some 106) rfl rfl Try.func30 (by kernel_rfl) rfl #[.int .i64 x14_3,.int .i64 t267,.int .i64 t268,.slice Ao29 x11_16.length co29,.int .i64 x16_4] rfl (by(try simp only [List.map_toArray,List.map_cons,List.map_nil]);first | done | rfl |(simp only [List.length_drop,List.length_take];rfl)) ?_;(with_reducible refine(w10_item.calls x14_3 t267 t268 _ _ x11_16 x16_4 t290 t291 _ ?side1 ?side2 A36.out).mono ?_);(case side1=>repeat(first | exact(Kd.R_reads' HO_11.out).2.2 |(with_reducible refine Kd.C_alloc ?_ _) |(with_reducible refine Kd.C_drewN ?_ _) |(with_reducible refine Kd.C_drew ?_)));(case side2=>exact(Kd.R_reads' HO_11.out).2.1);rintro e w39 ⟨v292,rfl,ho0,hb⟩;refine⟨_,rfl,?_⟩;have n0_:=Aside0.mk (Kd.R_elder' (by(with_reducible repeat(first | apply Kd.R_alloc | apply Kd.R_drewN | apply Kd.R_drew));exact HO_11.out) (Kd.R_base ho0) hb);have n1_:=Aside0.mk (Kd.R_elder' (by(with_reducible repeat(first | apply Kd.R_alloc | apply Kd.R_drewN | apply Kd.R_drew));exact HO_13.out) (Kd.R_base ho0) hb);have n2_:=Aside0.mk (Kd.S_elder' (by(with_reducible repeat(first | apply Kd.S_alloc | apply Kd.S_drewN | apply Kd.S_drew));exact HO_15.out) (Kd.R_base ho0) hb);have n3_:=Aside0.mk (Kd.R_lower (Kd.R_new' (Kd.R_new' ho0 (Kd.R_lt (by(with_reducible repeat(first | apply Kd.R_alloc | apply Kd.R_drewN | apply Kd.R_drew));exact HO_11.out))) (Kd.R_lt (by(with_reducible repeat(first | apply Kd.R_alloc | apply Kd.R_drewN | apply Kd.R_drew));exact HO_13.out))) (bwZ (by repeat(first |(with_reducible first | exact HB.out | apply bwA | apply bwN | apply bw1) | exact HB.out))));have n4_:=Aside0.mk (bwT (by repeat(first |(with_reducible first | exact HB.out | apply bwA | apply bwN | apply bw1) | exact HB.out)) hb);clear HO_11;clear HO_13;clear HO_15;clear HB;have HO_11:=n0_;have HO_13:=n1_;have HO_15:=n2_;have HO293:=n3_;have HB:=n4_;clear n0_ n1_ n2_ n3_ n4_;(try clear hb);(try clear hb2);(try clear hk);(try clear hi);(try clear ho0)))
        go_loopg [19] k4 (fun kq v19 w'=>∃ (x19_5 : Int),v19 = .int .i64 x19_5∧Aside0 (w10_TurnsWhole.l3 kq t267 t268 x11_16 y280 x14_3 x15_4 x16_4 t290 x19_5 = some r)∧Aside0 (kq≤k4)∧Aside0 (Kd.R (Kd.int .i64) 3 w' w.heap.size (fun k_=>some k_ ≠((.slice (some ad) 5 5) : Value).ownBlock∧some k_ ≠(v292 : Value).ownBlock) (.slice Ao29 x11_16.length co29) x11_16)∧Aside0 (Kd.R (Kd.int .i64) 41 w' w.heap.size (fun k_=>some k_ ≠((.slice Ao29 x11_16.length co29) : Value).ownBlock∧some k_ ≠(v292 : Value).ownBlock) (.slice (some ad) 5 5) y280)∧Aside0 (Kd.S (Kd.slice 3 (Kd.int .i64)) 22 w' w.heap.size (fun k_=>some k_ ≠((.slice Ao29 x11_16.length co29) : Value).ownBlock∧some k_ ≠((.slice (some ad) 5 5) : Value).ownBlock∧some k_ ≠(v292 : Value).ownBlock) u15 x15_4)∧Aside0 (Kd.R (Kd.int .i64) 3 w' w.heap.size (fun k_=>some k_ ≠((.slice Ao29 x11_16.length co29) : Value).ownBlock∧some k_ ≠((.slice (some ad) 5 5) : Value).ownBlock) v292 t290)∧Aside0 (Below w.heap.size w w'))
        case atStart=>exact⟨(0),(by first | rfl |(simp;done) |(simp [*];done)),H',⟨Nat.le_refl _⟩,⟨by(with_reducible repeat(first | apply Kd.R_alloc | apply Kd.R_drewN | apply Kd.R_drew));exact HO_11.out⟩,⟨by(with_reducible repeat(first | apply Kd.R_alloc | apply Kd.R_drewN | apply Kd.R_drew));exact HO_13.out⟩,⟨by(with_reducible repeat(first | apply Kd.S_alloc | apply Kd.S_drewN | apply Kd.S_drew));exact Kd.S_mono HO_15.out (fun _ hk=>⟨hk.1.1,⟨hk.1.2,hk.2⟩⟩)⟩,⟨by(with_reducible repeat(first | apply Kd.R_alloc | apply Kd.R_drewN | apply Kd.R_drew));exact Kd.R_mono HO293.out (fun _ hk=>⟨hk.1.2,hk.2⟩)⟩,⟨by repeat(first |(with_reducible first | exact HB.out | apply bwA | apply bwN | apply bw1) | exact HB.out)⟩⟩
        clear H'
        try clear c1
        try clear c2
        try clear p2
        try clear q2
        try clear hx2
        try clear c3
        try clear c5
        try clear p6
        try clear c11
        try clear c11b0
        try clear c11b1
        try clear c12
        try clear c12b0
        try clear c12b1
        try clear c13
        try clear c13b0
        try clear c14
        try clear c14b0
        try clear c15
        try clear c15b0
        try clear c16
        try clear c18
        try clear c18b0
        try clear c19
        try clear c19b0
        try clear c20
        try clear c20b0
        try clear c21
        try clear c22
        try clear c24
        try clear c24b0
        try clear c24b1
        try clear c26
        try clear c27
        try clear p27
        try clear q27
        try clear hx27
        try clear c28
        try clear p28
        try clear q28
        try clear hx28
        try clear c29
        try clear c30
        try clear c32
        try clear c32b0
        try clear c33
        try clear c33b0
        try clear c34
        try clear c34b0
        try clear c35
        try clear c35b0
        try clear c37
        try clear c37b0
        try clear c37b1
        try clear hx273_0
        try clear hx284_0
        try clear p2
        try clear p27
        try clear p273
        try clear p284
        try clear p6
        try clear q2
        try clear q27
        try clear q273
        try clear q284
        obtain ⟨x19_5,rfl,HA,HK5,HO_11,HO_13,HO_15,HO_17,HB⟩:=hrel
        cases gk with
        | zero=>exact absurd HA.out (by simp [w10_TurnsWhole.l3])
        | succ k5 =>
         have H:=HA.out
         clear HA
         simp only [w10_TurnsWhole.l3] at H
         by_cases c40 : x19_5 < (x15_4.length : Int)
         rotate_left
         ·rw [if_neg c40] at H
          have c40b0 : decide (x19_5 < (x15_4.length : Int)) = false:=decide_eq_false c40
          clear c40
          by_cases c48 : x15_4.length < 5864062014805
          rotate_left
          ·rw [if_neg c48] at H
           exact absurd H (by simp)
          rw [if_pos c48] at H
          have LMc48:=Aside0.mk c48
          clear c48
          obtain ⟨y296,hy296⟩ : ∃ y_ : List (List Int),y_ =(x15_4 ++ [t290]):=⟨_,rfl⟩
          replace H :(w10_TurnsWhole.l2 k5 t267 t268 x11_16 y280 x14_3 y296 (wrap64 (x16_4 + 1))) = some r:=by first |(rw [hy296];with_reducible exact H) |(have H2_:=(Option.bind_some _ _).symm.trans H;rw [hy296];with_reducible exact H2_) |(have H2_:=(Option.bind_some _ _).symm.trans H;with_reducible exact H2_) | with_reducible exact H |(rw [hy296];exact H) | exact H
          have Ny296:=Aside0.mk hy296
          clear hy296
          have H':=Aside0.mk H
          clear H
          obtain ⟨Ao49,co49,eo49⟩:=Kd.S_slice HO_15.out
          subst eo49
          obtain ⟨Ao51,co51,eo51⟩:=Kd.R_slice HO_17.out
          subst eo51
          go_wp2_with (first |((with_reducible refine gate_builtin (b:=.append) (xs:=#[.tmp 123,.tmp 125]) rfl ?_);at_builtin;refine Kd.S_append (Kd.slice 3 (Kd.int .i64)) (w0:=w) w.heap.size rfl (.tmp 123) (.tmp 125) 42 22 (.slice none 0 0) 24 rfl Try.underlying42 info22 rfl (by decide) (by omega) (.slice Ao49 x15_4.length co49) x15_4 t290 [.slice Ao51 t290.length co51] (fun k_=>some k_ ≠(.slice Ao29 x11_16.length co29 : Value).ownBlock∧some k_ ≠(.slice (some ad) 5 5 : Value).ownBlock) (fun k_=>some k_ =(.slice Ao51 t290.length co51 : Value).ownBlock) rfl rfl ?aP (fun k_ hk_=>((Kd.R_mono (ok':=fun k_=>((fun k_=>some k_ ≠(.slice Ao29 x11_16.length co29 : Value).ownBlock∧some k_ ≠(.slice (some ad) 5 5 : Value).ownBlock)) k_∧some k_ ≠(.slice Ao49 x15_4.length co49 : Value).ownBlock) (Kd.R_apart' (HO_17.out) (Kd.S_typed HO_15.out) (by decide)) (fun k_ hk=>⟨⟨hk.1.1,hk.1.2⟩,hk.2⟩))).1 k_ hk_.symm) ?aF ?aO ?aB ?aS ?aL ?_;(case aP=>exact Kd.M_row (Kd.R_mono (Kd.R_tight rfl (Kd.R_mono (ok':=fun k_=>((fun k_=>some k_ ≠(.slice Ao29 x11_16.length co29 : Value).ownBlock∧some k_ ≠(.slice (some ad) 5 5 : Value).ownBlock)) k_∧some k_ ≠(.slice Ao49 x15_4.length co49 : Value).ownBlock) (Kd.R_apart' (HO_17.out) (Kd.S_typed HO_15.out) (by decide)) (fun k_ hk=>⟨⟨hk.1.1,hk.1.2⟩,hk.2⟩))) (fun _ h_=>h_)));(case aB=>exact(by repeat(first |(with_reducible first | exact HB.out | apply bwA | apply bwN | apply bw1) | exact HB.out)));(case aF=>exact(fun k_ hk=>⟨Kd.fresh' (Kd.R_lt (by(with_reducible repeat(first | apply Kd.R_alloc | apply Kd.R_drewN | apply Kd.R_drew));exact HO_11.out)) k_ hk,Kd.fresh' (Kd.R_lt (by(with_reducible repeat(first | apply Kd.R_alloc | apply Kd.R_drewN | apply Kd.R_drew));exact HO_13.out)) k_ hk⟩));(case aO=>exact(by(with_reducible repeat(first | apply Kd.S_alloc | apply Kd.S_drewN | apply Kd.S_drew));exact Kd.S_mono HO_15.out (fun k_ hk=>⟨⟨hk.1,hk.2.1⟩,fun e_=>hk.2.2 e_⟩)));(case aS=>exact(bwZ (by repeat(first |(with_reducible first | exact HB.out | apply bwA | apply bwN | apply bw1) | exact HB.out))));(case aL=>have:=LMc48.out;omega);intro v297 w50 ho hb hg hat;rw [← Ny296.out] at ho;have n0_:=Aside0.mk (Kd.R_over' (by(with_reducible repeat(first | apply Kd.R_alloc | apply Kd.R_drewN | apply Kd.R_drew));exact HO_11.out) (Kd.S_typed (by(with_reducible repeat(first | apply Kd.S_alloc | apply Kd.S_drewN | apply Kd.S_drew));exact HO_15.out)) (by decide) hg);have n1_:=Aside0.mk (Kd.R_over' (by(with_reducible repeat(first | apply Kd.R_alloc | apply Kd.R_drewN | apply Kd.R_drew));exact HO_13.out) (Kd.S_typed (by(with_reducible repeat(first | apply Kd.S_alloc | apply Kd.S_drewN | apply Kd.S_drew));exact HO_15.out)) (by decide) hg);have n2_:=Aside0.mk (hb);have n3_:=Aside0.mk (ho);clear HO_11;clear HO_13;clear HB;clear HO_15;clear HO_17;have HO_11:=n0_;have HO_13:=n1_;have HB:=n2_;have HO298:=n3_;clear n0_ n1_ n2_ n3_;clear ho hb hg hat))
          go_roundg k5
          case measure=>have:=HJ7.out;have:=HJ16.out;have:=HK3.out;have:=HK4.out;have:=HK5.out;omega
          exact⟨(y296),(wrap64 (x16_4 + 1)),(by first | rfl |(simp;done) |(simp [*];done)),H',⟨by have:=HJ7.out;have:=HJ16.out;have:=HK3.out;have:=HK4.out;have:=HK5.out;omega⟩,⟨by(with_reducible repeat(first | apply Kd.R_alloc | apply Kd.R_drewN | apply Kd.R_drew));exact Kd.R_mono HO_11.out (fun _ hk=>hk.1)⟩,⟨by(with_reducible repeat(first | apply Kd.R_alloc | apply Kd.R_drewN | apply Kd.R_drew));exact Kd.R_mono HO_13.out (fun _ hk=>hk.1)⟩,⟨by(with_reducible repeat(first | apply Kd.S_alloc | apply Kd.S_drewN | apply Kd.S_drew));exact HO298.out⟩,⟨by repeat(first |(with_reducible first | exact HB.out | apply bwA | apply bwN | apply bw1) | exact HB.out)⟩⟩
         rw [if_pos c40] at H
         have c40b0 : decide (x19_5 < (x15_4.length : Int)) = true:=decide_eq_true c40
         clear c40
         by_cases c41 : 0≤x19_5
         rotate_left
         ·rw [if_neg c41] at H
          exact absurd H (by simp)
         rw [if_pos c41] at H
         have c41b0 : decide (0≤x19_5) = true:=decide_eq_true c41
         clear c41
         replace H:=Option.bind_eq_some_iff.mp H
         obtain ⟨t295,A420,H⟩:=H
         replace H :(if t295 = true then(some false) else(w10_TurnsWhole.l3 k5 t267 t268 x11_16 y280 x14_3 x15_4 x16_4 t290 (wrap64 (x19_5 + 1)))) = some r:=H
         have A42:=Aside0.mk A420
         clear A420
         by_cases c43 : t295 = true
         ·subst c43
          have H1 :(some false) = some r:=by rw [if_pos rfl] at H;exact H
          clear H
          have H:=H1
          clear H1
          obtain rfl:=Option.some.inj H
          obtain ⟨Ao44,co44,eo44⟩:=Kd.S_slice HO_15.out
          subst eo44
          have p294 : 0 ≤(x19_5 : Int):=of_decide_eq_true (by first |(with_reducible assumption) | assumption)
          have q294 : x19_5 < (x15_4.length : Int):=of_decide_eq_true (by first |(with_reducible assumption) | assumption)
          obtain ⟨ad294,A294_0,c294_0,e294,hx294_0,hl294_0,hi294_0⟩:=at_L1 (Kd.S_reads' HO_15.out).2.2 x19_5 p294 q294
          cases e294
          obtain ⟨ce294,hce294,hMe294,hcc294⟩:=Kd.S_get HO_15.out [] x19_5 p294 (by first | exact q294 | exact of_decide_eq_true (by first |(with_reducible assumption) | assumption) |(have e_:=(Kd.S_reads' HO_15.out).1;omega))
          obtain ⟨ve294_0,rfl,ge294_0⟩:=hMe294
          have hv294_0:=hcc294 0 _ rfl
          rw [Nat.add_zero,show((Kd.slice 3 (Kd.int .i64))).sz = 1 from rfl,Nat.mul_one] at hv294_0
          replace hv294_0:=Option.some.inj (hv294_0.symm.trans hx294_0)
          rw [hv294_0] at ge294_0
          have HL294_0:=Aside0.mk (show Kd.R (Kd.int .i64) 3 _ _ _ _ (rd_L1 x15_4 x19_5) from ge294_0)
          clear hv294_0 ge294_0
          clear hcc294 hce294
          have HR294_0:=Aside0.mk hi294_0
          have HC294_0:=Aside0.mk hl294_0
          clear hi294_0 hl294_0
          replace p294:=eq_true p294
          replace q294:=eq_true q294
          obtain ⟨Ao45,co45,eo45⟩:=Kd.R_slice HO_17.out
          subst eo45
          go_wp2_with (first |((with_reducible refine gate_callee (f:=22) rfl ?_);refine goesL_ (some 122) rfl rfl Try.func22 (by kernel_rfl) rfl #[.slice A294_0 (rd_L1 x15_4 x19_5).length c294_0,.slice Ao45 t290.length co45] rfl (by(try simp only [List.map_toArray,List.map_cons,List.map_nil]);first | done | rfl |(simp only [List.length_drop,List.length_take];rfl)) ?_;(with_reducible refine(w10_ints.calls k5 _ _ (rd_L1 x15_4 x19_5) _ _ t290 true _ ?side1 ?side2 ?side3 ?side4 A42.out).mono ?_);(case side1=>repeat(first | exact(by repeat(first |(with_reducible exact HR294_0.out) |(with_reducible refine Kd.C_alloc ?_ _) |(with_reducible refine Kd.C_drewN ?_ _) |(with_reducible refine Kd.C_drew ?_) | exact HR294_0.out)) |(with_reducible refine Kd.C_alloc ?_ _) |(with_reducible refine Kd.C_drewN ?_ _) |(with_reducible refine Kd.C_drew ?_)));(case side2=>exact HC294_0.out);(case side3=>repeat(first | exact(Kd.R_reads' HO_17.out).2.2 |(with_reducible refine Kd.C_alloc ?_ _) |(with_reducible refine Kd.C_drewN ?_ _) |(with_reducible refine Kd.C_drew ?_)));(case side4=>exact(Kd.R_reads' HO_17.out).2.1);rintro e w' ⟨rfl,⟨nd,rfl⟩⟩;refine⟨_,rfl,?_⟩))
          go_ret
          exact⟨by first | rfl |(simp [errW_none,errW_some] <;> rfl) |(simp only [← hji25];first | rfl |(simp [errW_none,errW_some] <;> rfl)) |(simp [*,errW_none,errW_some] <;> rfl),by repeat(first |(with_reducible first | exact HB.out | apply bwA | apply bwN | apply bw1) | exact HB.out)⟩
         replace c43:=Bool.eq_false_iff.mpr c43
         subst c43
         have H1 :(w10_TurnsWhole.l3 k5 t267 t268 x11_16 y280 x14_3 x15_4 x16_4 t290 (wrap64 (x19_5 + 1))) = some r:=by rw [if_neg (show ¬ (false = true) by decide)] at H;exact H
         clear H
         have H:=H1
         clear H1
         have H':=Aside0.mk H
         clear H
         obtain ⟨Ao46,co46,eo46⟩:=Kd.S_slice HO_15.out
         subst eo46
         have p294 : 0 ≤(x19_5 : Int):=of_decide_eq_true (by first |(with_reducible assumption) | assumption)
         have q294 : x19_5 < (x15_4.length : Int):=of_decide_eq_true (by first |(with_reducible assumption) | assumption)
         obtain ⟨ad294,A294_0,c294_0,e294,hx294_0,hl294_0,hi294_0⟩:=at_L1 (Kd.S_reads' HO_15.out).2.2 x19_5 p294 q294
         cases e294
         obtain ⟨ce294,hce294,hMe294,hcc294⟩:=Kd.S_get HO_15.out [] x19_5 p294 (by first | exact q294 | exact of_decide_eq_true (by first |(with_reducible assumption) | assumption) |(have e_:=(Kd.S_reads' HO_15.out).1;omega))
         obtain ⟨ve294_0,rfl,ge294_0⟩:=hMe294
         have hv294_0:=hcc294 0 _ rfl
         rw [Nat.add_zero,show((Kd.slice 3 (Kd.int .i64))).sz = 1 from rfl,Nat.mul_one] at hv294_0
         replace hv294_0:=Option.some.inj (hv294_0.symm.trans hx294_0)
         rw [hv294_0] at ge294_0
         have HL294_0:=Aside0.mk (show Kd.R (Kd.int .i64) 3 _ _ _ _ (rd_L1 x15_4 x19_5) from ge294_0)
         clear hv294_0 ge294_0
         clear hcc294 hce294
         have HR294_0:=Aside0.mk hi294_0
         have HC294_0:=Aside0.mk hl294_0
         clear hi294_0 hl294_0
         replace p294:=eq_true p294
         replace q294:=eq_true q294
         obtain ⟨Ao47,co47,eo47⟩:=Kd.R_slice HO_17.out
         subst eo47
         go_wp2_with (first |((with_reducible refine gate_callee (f:=22) rfl ?_);refine goesL_ (some 122) rfl rfl Try.func22 (by kernel_rfl) rfl #[.slice A294_0 (rd_L1 x15_4 x19_5).length c294_0,.slice Ao47 t290.length co47] rfl (by(try simp only [List.map_toArray,List.map_cons,List.map_nil]);first | done | rfl |(simp only [List.length_drop,List.length_take];rfl)) ?_;(with_reducible refine(w10_ints.calls k5 _ _ (rd_L1 x15_4 x19_5) _ _ t290 false _ ?side1 ?side2 ?side3 ?side4 A42.out).mono ?_);(case side1=>repeat(first | exact(by repeat(first |(with_reducible exact HR294_0.out) |(with_reducible refine Kd.C_alloc ?_ _) |(with_reducible refine Kd.C_drewN ?_ _) |(with_reducible refine Kd.C_drew ?_) | exact HR294_0.out)) |(with_reducible refine Kd.C_alloc ?_ _) |(with_reducible refine Kd.C_drewN ?_ _) |(with_reducible refine Kd.C_drew ?_)));(case side2=>exact HC294_0.out);(case side3=>repeat(first | exact(Kd.R_reads' HO_17.out).2.2 |(with_reducible refine Kd.C_alloc ?_ _) |(with_reducible refine Kd.C_drewN ?_ _) |(with_reducible refine Kd.C_drew ?_)));(case side4=>exact(Kd.R_reads' HO_17.out).2.1);rintro e w' ⟨rfl,⟨nd,rfl⟩⟩;refine⟨_,rfl,?_⟩))
         go_roundg k5
         case measure=>have:=HJ7.out;have:=HJ16.out;have:=HK3.out;have:=HK4.out;have:=HK5.out;omega
         exact⟨(wrap64 (x19_5 + 1)),(by first | rfl |(simp;done) |(simp [*];done)),H',⟨by have:=HJ7.out;have:=HJ16.out;have:=HK3.out;have:=HK4.out;have:=HK5.out;omega⟩,⟨by(with_reducible repeat(first | apply Kd.R_alloc | apply Kd.R_drewN | apply Kd.R_drew));exact HO_11.out⟩,⟨by(with_reducible repeat(first | apply Kd.R_alloc | apply Kd.R_drewN | apply Kd.R_drew));exact HO_13.out⟩,⟨by(with_reducible repeat(first | apply Kd.S_alloc | apply Kd.S_drewN | apply Kd.S_drew));exact HO_15.out⟩,⟨by(with_reducible repeat(first | apply Kd.R_alloc | apply Kd.R_drewN | apply Kd.R_drew));exact HO_17.out⟩,⟨by repeat(first |(with_reducible first | exact HB.out | apply bwA | apply bwN | apply bw1) | exact HB.out)⟩⟩
/-- THE ONE PURE STATEMENT of w10_TurnsWhole: yours. -/
def w10_TurnsWhole.Pure : Prop:=∀ (a0 : Int) (a1 : Int) (l2 : List Int),(Lit.int .i64 a0).wf = true →(Lit.int .i64 a1).wf = true→l2.length≤maxLen→l2.length * 8≤140737488351232 →(∀ x ∈ l2,(Lit.int .i64 x).wf = true)→∃ k,w10_TurnsWhole.f k a0 a1 l2 = some true
theorem w10_TurnsWhole.walk (P : w10_TurnsWhole.Pure) (a0 : Int) (a1 : Int) (a2 : Option Addr) (len2 cap2 : Nat) (z2 : List Int) (w : World) (w0 : (Lit.int .i64 a0).wf = true) (w1 : (Lit.int .i64 a1).wf = true) (w2 : (a2 = none ∧ len2 = 0 ∧ cap2 = 0 ∧ z2 = []) ∨ ∃ x, a2 = some x ∧ len2 ≤ cap2 ∧ cap2 ≤ maxLen ∧ z2.length = cap2 ∧ (∀ i, i < z2.length → w.cell? (x.add i) = some (.int .i64 (z2.getD i 0))) ∧ ∀ n ∈ z2, (Lit.int .i64 n).wf = true) (y2 : len2 * 8 ≤ 140737488351232) :
  Calls Try.prog 5 #[.int .i64 a0,.int .i64 a1,.slice a2 len2 cap2] w fun e w'=>e = .returned (.bool true)∧Below w.heap.size w w':=by
 obtain ⟨l2,rfl,hr2,hm2,hw2,hc2⟩:=ReadsInt.ofRowC w2
 obtain ⟨k,h⟩:=P a0 a1 l2 w0 w1 hm2 y2 hw2
 refine(w10_TurnsWhole.calls k a0 a1 _ _ l2 true w (Kd.C_of_reads (d:=(0 : Int)) (h1:=fun _=>rfl) hr2) hc2 h).mono ?_
 rintro e w' ⟨rfl,hd⟩
 exact⟨rfl,hd⟩
end Go.Proofs.Ytbfhlaggllofdaa.S

namespace Go.Proofs.Ytbfhlaggllofdaa.P
open Go.RowKit Go.Proofs.Ytbfhlaggllofdaa.S Go.Proofs.YtbfhlaggllofdaaW.PrintWords Go.Proofs.YtbfhlaggllofdaaW.PrintLast Go.Proofs.YtbfhlaggllofdaaW.PrintMore
set_option linter.unusedVariables false
theorem ints_loop (a b : List Int) (he : a.length = b.length) (hl : a.length≤1000) : ∀ d i : Nat,i + d = a.length→Ev (fun k=>w10_ints.l0 k a b (i : Int)) (decide (a.drop i = b.drop i)):=by
 intro d
 induction d with
 | zero =>
  intro i h
  rw [List.drop_eq_nil_of_le (by omega),List.drop_eq_nil_of_le (by omega),decide_eq_true rfl]
  refine Ev.step (f:=fun _=>some true) (fun k=>?_) (Ev.now _)
  simp only [w10_ints.l0]
  rw [if_neg (by omega)]
 | succ d ih =>
  intro i h
  have w : wrap64 ((i : Int) + 1) =((i + 1 : Nat) : Int):=by rw [w64 (by omega) (by omega)];rfl
  have ea:=drop_cons a i (by omega)
  have eb:=drop_cons b i (by omega)
  by_cases c : rd a (i : Int) = rd b (i : Int)
  rotate_left
  ·have e : decide (a.drop i = b.drop i) = false := decide_eq_false (by rw [ea, eb]; simp [c])
   rw [e]
   refine Ev.step (f:=fun _=>some false) (fun k=>?_) (Ev.now _)
   simp only [w10_ints.l0]
   rw [if_pos (by omega),if_pos (by omega),if_pos (by omega),if_neg c]
  have e : decide (a.drop i = b.drop i) = decide (a.drop (i + 1) = b.drop (i + 1)):=by rw [ea,eb,c];simp
  rw [e]
  refine Ev.step (fun k=>?_) (ih (i + 1) (by omega))
  simp only [w10_ints.l0]
  rw [if_pos (by omega),if_pos (by omega),if_pos (by omega),if_pos c,w]
theorem ints_ev (a b : List Int) (hl : a.length≤1000) : Ev (fun k=>w10_ints.f k a b) (decide (a = b)):=by
 by_cases c : a.length = b.length
 ·refine Ev.congr (fun k => ?_) (ints_loop a b c hl a.length 0 (by omega))
  unfold w10_ints.f
  rw [if_pos (by omega)]
  rfl
 rw [decide_eq_false (fun h=>c (by rw [h]))]
 refine Ev.congr (fun k=>?_) (Ev.now _)
 unfold w10_ints.f
 rw [if_neg (by omega)]
end Go.Proofs.Ytbfhlaggllofdaa.P

namespace Go.Proofs.Ytbfhlaggllofdaa.P
open Go.RowKit Go.Proofs.Ytbfhlaggllofdaa.S Go.Proofs.Ytbfhlaggllofdaa.G Go.Proofs.Ytbfhlaggllofdaa.T Go.Proofs.YtbfhlaggllofdaaW.PrintWords Go.Proofs.YtbfhlaggllofdaaW.PrintLast Go.Proofs.YtbfhlaggllofdaaW.PrintMore
set_option linter.unusedVariables false
theorem awake_ev : Ev (fun k=>w10_awake.f k) true:=by
 have e1 : turns_Set.f 2 2 = some ([1,2],0):=by kernel_rfl
 have e2 : turns_Choice.f 3 2 1 = some ([2,3],0):=by kernel_rfl
 have e3 : turns_Order.f 3 3 = some ([3,2,1],0):=by kernel_rfl
 have e4 : turns_Groupings.f 5 = some (52,0):=by kernel_rfl
 have e5 : turns_Setting.f [2,3] 3 = some ([1,2],0):=by kernel_rfl
 have i1:=ints_ev [1,2] [1,2] (by decide)
 have i2:=ints_ev [2,3] [2,3] (by decide)
 have i3:=ints_ev [3,2,1] [3,2,1] (by decide)
 rw [decide_eq_true rfl] at i1 i2 i3
 have hj : Ev (fun k=>w10_awake.j0 k false) true:=by
  refine Ev.step (f:=fun _=>some true) (fun k=>?_) (Ev.now _)
  simp only [w10_awake.j0]
  rw [if_neg (by decide)]
 refine Ev.congr (f:=fun k=>(w10_ints.f k [1,2] [1,2]).bind fun t=>(if t = true then((w10_ints.f k [2,3] [2,3]).bind fun t=>(if t = true then((w10_ints.f k [3,2,1] [3,2,1]).bind fun t=>(if t = true then((w10_ints.f k [1,2] [1,2]).bind fun t=>w10_awake.j0 k (!t)) else w10_awake.j0 k true)) else w10_awake.j0 k true)) else w10_awake.j0 k true)) (fun k=>?_) ?_
 ·unfold w10_awake.f
  rw [e1,e2,e3,e4,e5]
  rfl
 refine Ev.bind (f:=fun k (t : Bool)=>_) i1 ?_
 refine Ev.congr (fun k=>if_pos rfl) ?_
 refine Ev.bind (f:=fun k (t : Bool)=>_) i2 ?_
 refine Ev.congr (fun k=>if_pos rfl) ?_
 refine Ev.bind (f:=fun k (t : Bool)=>_) i3 ?_
 refine Ev.congr (fun k=>if_pos rfl) ?_
 exact Ev.bind (f:=fun k (t : Bool)=>_) i1 hj
theorem awake_some : Ev (fun k=>(w10_awake.f k).bind fun z=>some z) true:=Ev.congr (fun k=>by cases w10_awake.f k <;> rfl) awake_ev
end Go.Proofs.Ytbfhlaggllofdaa.P

namespace Go.Proofs.Ytbfhlaggllofdaa.P
open Go.RowKit Go.Proofs.Ytbfhlaggllofdaa.S Go.Proofs.YtbfhlaggllofdaaW.PrintWords Go.Proofs.YtbfhlaggllofdaaW.PrintLast Go.Proofs.YtbfhlaggllofdaaW.PrintMore
set_option linter.unusedVariables false
theorem u64_nonneg (a : Int) : 0≤IntKind.u64.wrap a:=by
 simp [IntKind.wrap,IntKind.signed,IntKind.bits]
 omega
theorem u64_id {a : Int} (h0 : 0≤a) (h1 : a≤9000000000000000000) : IntKind.u64.wrap a = a:=by
 simp [IntKind.wrap,IntKind.signed,IntKind.bits]
 omega
theorem mod_ok (a : Int) {b : Int} (b1 : 1≤b) (b2 : b≤9000000000000000000) : ∃ m,w10_mod.f a b = some m∧0≤m∧m < b:=by
 unfold w10_mod.f
 rw [u64_id (by omega) (by omega),if_neg (by omega),Int.tmod_eq_emod_of_nonneg (u64_nonneg a)]
 have h0:=Int.emod_nonneg (IntKind.u64.wrap a) (show b≠0 by omega)
 have h1:=Int.emod_lt_of_pos (IntKind.u64.wrap a) (show 0 < b by omega)
 rw [w64 (by omega) (by omega)]
 exact⟨_,rfl,h0,h1⟩
end Go.Proofs.Ytbfhlaggllofdaa.P

namespace Go.Proofs.Ytbfhlaggllofdaa.P
open Go.RowKit Go.Proofs.Ytbfhlaggllofdaa.S Go.Proofs.Ytbfhlaggllofdaa.G Go.Proofs.Ytbfhlaggllofdaa.T Go.Proofs.YtbfhlaggllofdaaW.PrintWords Go.Proofs.YtbfhlaggllofdaaW.PrintLast Go.Proofs.YtbfhlaggllofdaaW.PrintMore
set_option linter.unusedVariables false
instance (n : Int) (l : List Int) : Decidable (IsS n l):=decidable_of_iff ((∀ x ∈ l,1≤x∧x≤n)∧l.Pairwise (· < ·)) ⟨fun h=>⟨h.1,h.2⟩,fun h=>⟨h.1,h.2⟩⟩
theorem shl_ok {c : Int} (hc : 0≤c) {n : Nat} (hn : n≤60) (hb : c * 2 ^ n≤4611686018427387904) : shl .i64 c (n : Int) = c * 2 ^ n:=by
 have h0 : 0≤c * 2 ^ n:=Int.mul_nonneg hc (by have:=pow_pos2 n;omega)
 unfold shl
 rw [show min ((n : Int)).toNat IntKind.i64.bits = n by simp [IntKind.bits];omega]
 generalize c * 2 ^ n = z at *
 simp [IntKind.wrap,IntKind.signed,IntKind.bits]
 omega
theorem pow_le {n : Nat} (h : n≤41) :(1 : Int)≤2 ^ n ∧(2 : Int) ^ n≤2199023255552:=by
 refine⟨pow_pos2 n,?_⟩
 have :(2 : Nat) ^ n≤2 ^ 41:=Nat.pow_le_pow_right (by decide) h
 have e :((2 ^ n : Nat) : Int) =(2 : Int) ^ n:=by simp
 rw [← e]
 have :(2 ^ n : Nat)≤2199023255552:=by simpa using this
 omega
theorem shl1 {n : Nat} (h : n≤41) : shl .i64 1 (n : Int) = 2 ^ n:=by
 have:=pow_le h
 rw [shl_ok (by decide) (by omega) (by omega),Int.one_mul]
theorem gray_len (n : Nat) (a : Int) :(gray n a).length≤n:=nodup_len n (gray n a) 0 ((gray_sorted n a).imp (fun h=>by omega)) (fun x hx=>by have:=gray_mem n _ x hx;omega)
theorem succ64 (i : Nat) (h : i≤1000) : wrap64 ((i : Int) + 1) =((i + 1 : Nat) : Int):=by rw [w64 (by omega) (by omega)];rfl
theorem door_isS (n k : Nat) (a : Int) : IsS (n : Int) (door n k a):=⟨fun x hx=>door_mem n k a x hx,door_sorted n k a⟩
theorem isS_len {n : Nat} {l : List Int} (h : IsS (n : Int) l) : l.length≤n:=nodup_len n l 0 (h.sorted.imp (fun h=>by omega)) (fun x hx=>by have:=h.mem x hx;omega)
theorem choice_some {n k : Nat} {a : Int} (hn : n≤40) (hk : k≤n) (h0 : 0≤a) (h1 : a < ch n k) : turns_Choice.f (n : Int) (k : Int) a = some (door n k a,0):=by
 unfold turns_Choice.f
 rw [show((n : Int)).toNat = n by omega,show((k : Int)).toNat = k by omega,if_pos ⟨by omega,by omega,by omega,by omega,by omega,by omega⟩]
theorem many_some {n k : Nat} (hn : n≤40) (hk : k≤n) : turns_Many.f (n : Int) (k : Int) = some (ch n k,0):=by
 unfold turns_Many.f
 rw [show((n : Int)).toNat = n by omega,show((k : Int)).toNat = k by omega,if_pos ⟨by omega,by omega,by omega,by omega⟩]
theorem fact_step (j : Nat) : fact (j + 1) = fact j * ((j : Int) + 1):=Int.mul_comm _ _
theorem factorial_l0 {n : Nat} (hn : n≤18) : ∀ e j : Nat,1≤j→j + e = max n 1→Ev (fun k=>q10_Factorial.l0 k (n : Int) (fact j) ((j : Int) + 1)) (fact n):=by
 intro e
 induction e with
 | zero =>
  intro j h1 h
  have ej : fact j = fact n:=by
   by_cases c : n = 0
   ·subst c
    obtain rfl : j = 1:=by omega
    rfl
   ·rw [show j = n by omega]
  rw [← ej]
  refine Ev.step (f:=fun _=>some (fact j)) (fun k=>?_) (Ev.now _)
  simp only [q10_Factorial.l0]
  rw [if_neg (by omega)]
 | succ e ih =>
  intro j h1 h
  have b:=fact_le (n:=j + 1) (by omega)
  have hs:=fact_step j
  have hih:=ih (j + 1) (by omega) (by omega)
  refine Ev.step (fun k=>?_) hih
  simp only [q10_Factorial.l0]
  rw [if_pos (by omega),← hs,w64 (x:=fact (j + 1)) (by omega) (by omega),w64 (x:=(j : Int) + 1 + 1) (by omega) (by omega)]
  rfl
theorem factorial_ev {n : Nat} (hn : n≤18) : Ev (fun k=>q10_Factorial.f k (n : Int)) (fact n):=factorial_l0 hn (max n 1 - 1) 1 (by omega) (by omega)
structure PreO (N : Int) (l : List Int) : Prop where
 mem : ∀ x ∈ l,1≤x∧x≤N
 nodup : l.Nodup
instance (N : Int) (l : List Int) : Decidable (PreO N l):=decidable_of_iff ((∀ x ∈ l,1≤x∧x≤N)∧l.Nodup) ⟨fun h=>⟨h.1,h.2⟩,fun h=>⟨h.1,h.2⟩⟩
theorem PreO.take {N : Int} {l : List Int} (h : PreO N l) (i : Nat) : PreO N (l.take i):=⟨fun x hx=>h.mem x (List.mem_of_mem_take hx),h.nodup.sublist (List.take_sublist i l)⟩
def OrdP (l : List Int) : Prop:=l.length≤18∧PreO (l.length : Int) l
instance (l : List Int) : Decidable (OrdP l):=by unfold OrdP;infer_instance
end Go.Proofs.Ytbfhlaggllofdaa.P
