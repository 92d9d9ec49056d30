-- Written by wip/bundle2.py: texts of this claim, one behind the other.
import Derived.Test.YtbfhlaggllofdaaBTurnsDialSteps0
import Derived.Laws.Rows
import Derived.Laws.CopyOwn
import Derived.Shelf.Spec.SlicesInsertGrow
set_option linter.unusedVariables false
set_option linter.unusedSimpArgs false

namespace Go.Proofs.Ytbfhlaggllofdaa.S
open Go.Proofs.Ytbfhlaggllofdaa.Lib
open Go.Maps (Keyed)
open Go.RowKit Go.Proofs.YtbfhlaggllofdaaW.PrintWords Go.Proofs.YtbfhlaggllofdaaW.PrintLast Go.Proofs.YtbfhlaggllofdaaW.PrintMore
attribute [local go_sem] max2_int min2_int max_two min_two max_three min_three max_four min_four
set_option linter.unusedVariables false
set_option linter.unusedSimpArgs false

open Go Go.Proofs.Ytbfhlaggllofdaa.G Go.Proofs.Ytbfhlaggllofdaa.T Go.Proofs.Ytbfhlaggllofdaa.P Go.Proofs.Ytbfhlaggllofdaa.Rng
attribute [local go_sem] Oper.semAt_some
def turns_Set.f (a0 a1 : Int) : Option (List Int×Int):=some (if 0≤a0∧a0≤40∧0≤a1∧a1≤2 ^ a0.toNat - 1 then(gray a0.toNat a1,0) else([],2))
theorem pow40 {n : Nat} (h : n≤41) :(1 : Int)≤2 ^ n ∧(2 : Int) ^ n≤2199023255552:=by
 refine⟨pow_pos2 n,?_⟩
 have :(2 : Nat) ^ n≤2 ^ 41:=Nat.pow_le_pow_right (by decide) h
 have e :((2 ^ n : Nat) : Int) =(2 : Int) ^ n:=by simp
 rw [← e]
 have :(2 ^ n : Nat)≤2199023255552:=by simpa using this
 omega
theorem set_start (w : World) (a1 n : Int) (m : Nat) : LI w (w.heap.size + 3) [(w.heap.size,3,.int .i64 a1),(w.heap.size + 1,22,.slice none 0 0)] (.slice none 0 0) [] ((((w.alloc (.cells #[.int .i64 a1] 3)).drewN m).alloc (.cells #[.slice none 0 0] 22)).alloc (.cells #[.int .i64 n] 3)):=by
 refine⟨fun x hx=>?_,World.ownsRow_nil _ _ _ _,bwA (bwA (bwN (bwA (Below.refl _ _) _) _) _) _,by simp⟩
 have b0 : Boxed (w.alloc (.cells #[.int .i64 a1] 3)) w.heap.size 3 (.int .i64 a1):=Boxed.new _ _ _
 have b1:=Boxed.new ((w.alloc (.cells #[.int .i64 a1] 3)).drewN m) 22 (.slice none 0 0)
 rw [show((w.alloc (.cells #[.int .i64 a1] 3)).drewN m).heap.size = w.heap.size + 1 by simp] at b1
 simp only [List.mem_cons,List.not_mem_nil,or_false] at hx
 rcases hx with rfl | rfl
 ·exact⟨by simp,((show Boxed ((w.alloc (.cells #[.int .i64 a1] 3)).drewN m) _ _ _ from b0).alloc _).alloc _⟩
 exact⟨by simp,b1.alloc _⟩
theorem set_box (w : World) (a1 n : Int) (m : Nat) : Boxed ((((w.alloc (.cells #[.int .i64 a1] 3)).drewN m).alloc (.cells #[.slice none 0 0] 22)).alloc (.cells #[.int .i64 n] 3)) (w.heap.size + 1 + 1) 3 (.int .i64 n):=by
 have:=Boxed.new (((w.alloc (.cells #[.int .i64 a1] 3)).drewN m).alloc (.cells #[.slice none 0 0] 22)) 3 (.int .i64 n)
 rwa [show(((w.alloc (.cells #[.int .i64 a1] 3)).drewN m).alloc (.cells #[.slice none 0 0] 22)).heap.size = w.heap.size + 1 + 1 by simp] at this
theorem set_step {n j m : Nat} {a : Int} {out R : List Int} (hm : n = j + 1 + m) (hn : n ≤ 40) (h : 0 ≤ a ∧ a < 2 ^ (n - j) ∧ out.length ≤ j) (hg : out ++ (gray (n - j) a).reverse = R) :
  (n : Int) - (j : Int) =(m : Int) + 1 ∧(wrap64 (m : Int) =(m : Int)∧wrap64 (2 ^ m) =(2 : Int) ^ m∧wrap64 (2 ^ min m 64) =(2 : Int) ^ m∧IntKind.i64.wrap (2 ^ min m 64) =(2 : Int) ^ m∧wrap64 (2 * 2 ^ m) = 2 * (2 : Int) ^ m∧wrap64 (2 * 2 ^ m - 1) = 2 * (2 : Int) ^ m - 1∧wrap64 (2 * 2 ^ m - 1 - a) = 2 * (2 : Int) ^ m - 1 - a)∧out.length≤40 ∧
  ((2 : Int) ^ m≤a →(0≤2 * 2 ^ m - 1 - a∧2 * 2 ^ m - 1 - a < 2 ^ (n - (j + 1)) ∧(out ++ [(m : Int) + 1]).length≤j + 1) ∧(out ++ [(m : Int) + 1]) ++ (gray (n - (j + 1)) (2 * 2 ^ m - 1 - a)).reverse = R) ∧
  (¬ (2 : Int) ^ m≤a →(0≤a∧a < 2 ^ (n - (j + 1))∧out.length≤j + 1)∧out ++ (gray (n - (j + 1)) a).reverse = R):=by
 have hp:=pow40 (n:=m) (by omega)
 have h2 :(2 : Int) ^ (m + 1) = 2 * 2 ^ m:=by rw [Int.pow_succ];omega
 rw [show n - j = m + 1 by omega] at h hg
 rw [show n - (j + 1) = m by omega]
 rw [h2] at h
 have hr : R = out ++ (if a < 2 ^ m then gray m a else gray m (2 * 2 ^ m - 1 - a) ++ [(m : Int) + 1]).reverse:=hg.symm
 have hmm : min m 64 = m:=Nat.min_eq_left (by omega)
 rw [hmm]
 obtain ⟨P,hP⟩ : ∃ P,(2 : Int) ^ m = P:=⟨_,rfl⟩
 rw [hP] at hp h hr ⊢
 have s1 : wrap64 P = P:=w64 (by omega) (by omega)
 refine⟨by omega,⟨w64 (by omega) (by omega),s1,s1,by rw [i64_w];exact s1,w64 (by omega) (by omega),w64 (by omega) (by omega),w64 (by omega) (by omega)⟩,by omega,fun c=>⟨⟨by omega,by omega,by rw [List.length_append,List.length_singleton];omega⟩,?_⟩,fun c=>⟨⟨by omega,by omega,by omega⟩,?_⟩⟩
 ·rw [hr, if_neg (by omega)]
  simp
 rw [hr,if_pos (by omega)]
set_option maxHeartbeats 400000 in
set_option maxRecDepth 100000 in
theorem turns_Set.calls (a0 a1 : Int) (r1 : List Int) (r2 : Int) (w : World) (h : turns_Set.f a0 a1 = some (r1, r2)) :
  Calls Try.prog 38 #[.int .i64 a0,.int .i64 a1] w fun e w'=>∃ v0_ : Value,e = .returned (.tuple #[v0_,.int .i64 r2])∧Kd.R (Kd.int .i64) 3 w' w.heap.size (fun _=>True) v0_ r1∧Below w.heap.size w w':=by
 replace h:=Option.some.inj h
 have HB:=Aside0.mk (Below.refl w.heap.size w)
 by_cases c0 : 0≤a0∧a0≤40
 rotate_left
 ·rw [if_neg (fun hh => c0 ⟨hh.1, hh.2.1⟩)] at h
  injection h with h1 h2
  subst h1;subst h2
  have hi1:=Aside0.mk (within_no c0)
  clear c0
  go_enter Try.func38,Try.ntmps38
  go_wp2
  refine start_ (n:=11) (S:=fun _=>True) (ds:=[]) (mk_ 0 11) (by kernel_rfl) rfl (by kernel_rfl) trivial (fun hHeld=>?_)
  refine pm_ (v:=?_) (a':=?_) rfl rfl (by kernel_rfl) (fun _ _ _ h=>h) ?_ ?_ ?_;rotate_left 2;(focus refine Or.inl ⟨by rfl,?_⟩;intro w';go_simp;with_reducible rfl);(focus simp only [List.getElem_toArray,List.getElem_cons_succ,List.getElem_cons_zero,Act.put,List.setIfInBounds_toArray,List.set_cons_zero,List.set_cons_succ,i64_w,i32_w];rfl)
  refine om_ rfl rfl (by kernel_rfl) (by decide) (fun K hK=>?_)
  refine goes_ Try.func56 (by kernel_rfl) rfl #[.int .i64 a0,.int .i64 0,.int .i64 40] (by rfl) rfl rfl (by(try simp only [List.map_toArray,List.map_cons,List.map_nil]);first | done | rfl) ?_
  refine(turns_within.calls a0 0 40 false _ hi1.out).mono ?_
  rintro e w1 ⟨rfl,⟨nd,rfl⟩⟩
  refine⟨_,rfl,?_⟩
  refine hK.out _ _ trivial (fun hHeld=>?_)
  clear hK K
  refine norm_ (a':=?_) ?_ ?_
  rotate_left
  ·show Act.put _ (some 10) _ = _
   simp only [List.getElem_toArray,List.getElem_cons_succ,List.getElem_cons_zero,Act.put,List.setIfInBounds_toArray,List.set_cons_zero,List.set_cons_succ,i64_w,i32_w]
   rfl
  iterate 9 (first
  |(refine pm_ (v:=?_) (a':=?_) rfl rfl (by kernel_rfl) (fun _ _ _ h=>h) ?_ ?_ ?_;rotate_left 2;(focus refine Or.inl ⟨by rfl,?_⟩;intro w';go_simp;with_reducible rfl);(focus simp only [List.getElem_toArray,List.getElem_cons_succ,List.getElem_cons_zero,Act.put,List.setIfInBounds_toArray,List.set_cons_zero,List.set_cons_succ,i64_w,i32_w];rfl))
  |(refine pm_ (v:=undef) (a':=?_) rfl rfl (by kernel_rfl) (fun _ _ _ h=>h) (Or.inr ⟨by rfl,rfl⟩) ?_ ?_;rotate_left;(focus simp only [List.getElem_toArray,List.getElem_cons_succ,List.getElem_cons_zero,Act.put,List.setIfInBounds_toArray,List.set_cons_zero,List.set_cons_succ,i64_w,i32_w];rfl)))
  refine done_ (by kernel_rfl) ?_
  all_goals go_wp2
  all_goals go_ret2
  all_goals exact⟨_,rfl,Kd.R_nil _ _ _ _ _,by repeat(first |(with_reducible first | exact HB.out | apply bwA | apply bwN | apply bw1) | exact HB.out)⟩
 have hi1:=Aside0.mk (within_yes c0)
 obtain ⟨n,rfl⟩ : ∃ n : Nat,a0 = n:=⟨a0.toNat,by omega⟩
 have d0:=eq_true (show 0 ≤(n : Int) by omega)
 have HN:=Aside0.mk (show n≤40 by omega)
 have hp:=pow40 (n:=n) (by omega)
 rw [show((n : Int)).toNat = n by omega] at h
 by_cases c1 : 0≤a1∧a1≤2 ^ n - 1
 rotate_left
 ·rw [if_neg (fun hh => c1 hh.2.2)] at h
  injection h with h1 h2
  subst h1;subst h2
  have hi2:=Aside0.mk (within_no c1)
  have ws0 : wrap64 (2 ^ n) =(2 : Int) ^ n:=w64 (by omega) (by omega)
  have ws1 : wrap64 ((2 : Int) ^ n - 1) = 2 ^ n - 1:=w64 (by omega) (by omega)
  have HSUB:=Aside0.mk (show IntKind.i64.wrap (IntKind.i64.wrap (2 ^ min n 64) - 1) = 2 ^ n - 1 by rw [Nat.min_eq_left (by omega),i64_w,i64_w,ws0,ws1])
  clear c0 c1 hp
  go_enter Try.func38,Try.ntmps38
  go_wp2
  go_region_with (go_at_call 56;go_must (first |(with_reducible refine(turns_within.calls (n : Int) 0 40 true _ hi1.out).mono ?_;rintro e w' ⟨rfl,⟨nd,rfl⟩⟩) |(rw [HSUB.out];refine(turns_within.calls a1 0 (2 ^ n - 1) false _ hi2.out).mono ?_;rintro e w' ⟨rfl,⟨nd,rfl⟩⟩)))
  all_goals go_wp2
  all_goals go_ret2
  all_goals exact⟨_,rfl,Kd.R_nil _ _ _ _ _,by repeat(first |(with_reducible first | exact HB.out | apply bwA | apply bwN | apply bw1) | exact HB.out)⟩
 rw [if_pos ⟨c0.1,c0.2,c1⟩] at h
 injection h with h1 h2
 subst h2
 have hi2:=Aside0.mk (within_yes c1)
 have ws0 : wrap64 (2 ^ n) =(2 : Int) ^ n:=w64 (by omega) (by omega)
 have ws1 : wrap64 ((2 : Int) ^ n - 1) = 2 ^ n - 1:=w64 (by omega) (by omega)
 have HSUB:=Aside0.mk (show IntKind.i64.wrap (IntKind.i64.wrap (2 ^ min n 64) - 1) = 2 ^ n - 1 by rw [Nat.min_eq_left (by omega),i64_w,i64_w,ws0,ws1])
 have HA:=Aside0.mk (show 0≤a1∧a1 < 2 ^ n by omega)
 have HR:=Aside0.mk h1
 clear c0 c1 hp h1
 obtain ⟨pn,hpn⟩ : ∃ v,(2 : Int) ^ n = v:=⟨_,rfl⟩
 have HP:=Aside0.mk hpn
 refine calls_marks Try.func38 rfl ?_
 simp only [Try.ntmps38,List.size_toArray,List.length_cons,List.length_nil,Nat.reduceAdd,Nat.reduceSub,Array.replicate_succ,Array.replicate_zero,List.push_toArray,List.append_toArray,List.nil_append,List.cons_append]
 go_wp2
 go_region_with (go_at_call 56;go_must (first |(with_reducible refine(turns_within.calls (n : Int) 0 40 true _ hi1.out).mono ?_;rintro e w' ⟨rfl,⟨nd,rfl⟩⟩) |(rw [HSUB.out];refine(turns_within.calls a1 0 (2 ^ n - 1) true _ hi2.out).mono ?_;rintro e w' ⟨rfl,⟨nd,rfl⟩⟩)))
 go_wp2_with (go_at_call 60;go_must (refine(down_calls _ (n : Int)).mono ?_;rintro e w' ⟨rfl,rfl⟩))
 refine(wpIn_wide (n:=9)).1 ?_
 refine wpIn_rangeFunc_box (F := Fence.wide) (n := 9) rfl (by omega) (gf := 71) (B := w.heap.size + 1 + 1) (N := n) (x := fun j => .int .i64 ((n : Int) - j)) (v0 := .int .i64 n) rfl trivial (enters_of Try.func71 (by kernel_rfl) rfl) (down_seq _ _ trivial rfl (by omega) _ n (by have := HN.out; omega)) ?hB (set_box _ _ _ _).cell (set_box _ _ _ _).frozen
  (fun j W=>∃ (a : Int) (out : List Int) (v : Value),LI w (w.heap.size + 3) [(w.heap.size,3,.int .i64 a),(w.heap.size + 1,22,v)] v out W∧Aside0 (0≤a∧a < 2 ^ (n - j)∧out.length≤j)∧Aside0 (out ++ (gray (n - j) a).reverse =(gray n a1).reverse))
  (fun _ _=>False) ?hIb ?hIp (fun _ _ _ _ _ _ _ _ h=>h) ?h0
  (fun j=>{ tmps:=#[.int .i64 n,.int .i64 a1,undef,.pointer (some ⟨w.heap.size,0,none⟩),.slice none 0 0,.int .i64 0,.pointer (some ⟨w.heap.size + 1,0,none⟩),.int .i64 ((n : Int) - j),undef,.int .i64 n,.bool true,.bool false,.bool false,.int .i64 a1,.int .i64 n,.int .i64 (wrap64 (2 ^ min n 64)),.int .i64 (pn - 1),.bool true,.bool false,.bool false,.int .i64 n,.func (.func 71) #[] #[.pointer (some (cellOf (w.heap.size + 1 + 1)))],.int .i64 ((n : Int) - j),undef,undef,undef,undef,undef,undef,undef,undef,undef,undef,undef,undef,undef,undef,undef,undef,undef,undef],defers:=[] }) ?assign ?body ?done ?stop
 case hB=>simp
 case hIb =>
  rintro j W u ⟨a,out,v,h,h1,h2⟩
  exact⟨a,out,v,h.far (by omega) (by simp;omega) u,h1,h2⟩
 case hIp =>
  rintro j W l o o' hl ho hc ⟨a,out,v,h,h1,h2⟩
  exact⟨a,out,v,h.put o' (by simp at hl;omega) ho hc,h1,h2⟩
 case h0 =>
  intro o o'
  exact⟨a1,[],_,((set_start w a1 n _).alloc _).alloc _,⟨by have:=HA.out;simp;omega⟩,⟨by simp⟩⟩
 case assign =>
  intro l j W K hK
  gi_wp2
  exact hK
 case body =>
  rintro l j W u hj hl hcB hfB ⟨a,out,v,hL,HJ,HG⟩
  obtain ⟨m,hm⟩ : ∃ m,n = j + 1 + m:=⟨n - j - 1,by omega⟩
  have m0:=eq_true (show 0 ≤(m : Int) by omega)
  have hc3:=(hL.box (w.heap.size,3,.int .i64 a) (by simp)).2.cell
  have hf3:=(hL.box (w.heap.size,3,.int .i64 a) (by simp)).2.frozen
  have hc6:=(hL.box (w.heap.size + 1,22,v) (by simp)).2.cell
  have hf6:=(hL.box (w.heap.size + 1,22,v) (by simp)).2.frozen
  obtain ⟨e1,⟨wx,s1,s2,s3,s4,s5,s6⟩,ho,yes,no⟩:=set_step hm HN.out HJ.out HG.out
  simp only [e1]
  by_cases c :(2 : Int) ^ m≤a
  rotate_left
  ·have cb : decide ((2 : Int) ^ m ≤ a) = false := decide_eq_false c
   obtain ⟨j1,g1⟩:=no c
   have HJ1:=Aside0.mk j1
   have HG1:=Aside0.mk g1
   clear yes no j1 g1 ho c e1 hm hj hl HJ HG
   obtain ⟨pm,hpm⟩ : ∃ v,(2 : Int) ^ m = v:=⟨_,rfl⟩
   rw [hpm] at cb s1 s2 s3 s4 s5 s6
   clear hpm
   gi_wp2
   exact⟨KeepsFrom.refl _ _,rfl,rfl,a,out,⟨v,hL⟩,HJ1,HG1⟩
  have cb : decide ((2 : Int) ^ m≤a) = true:=decide_eq_true c
  obtain ⟨j1,g1⟩:=yes c
  have HJ1:=Aside0.mk j1
  have HG1:=Aside0.mk g1
  have HO:=Aside0.mk ho
  clear yes no j1 g1 ho c e1 hm hj hl HJ HG
  obtain ⟨pm,hpm⟩ : ∃ v,(2 : Int) ^ m = v:=⟨_,rfl⟩
  rw [hpm] at cb s1 s2 s3 s4 s5 s6 HJ1 HG1
  clear hpm
  obtain ⟨i0,hi,hz0,hz1,hz2⟩:=info_parts info3
  have HLL:=Aside0.mk hL
  have HSZ:=Aside0.mk (hL.alloc (.cells #[.int .i64 ((m : Int) + 1)] 3)).size.2
  gi_wp2_with (gi_at_builtin;refine wpListIn_append_own _ rfl (.tmp 29) (.tmp 31) 22 rfl (w.heap.size + 3) 3 i0 (.int .i64 0) 1 8 Try.underlying22 hi hz0 hz1 hz2 rfl (by decide) v out.length (out.map (Value.int .i64)) rfl (HLL.out.alloc _).row ⟨W.heap.size,0,none⟩ 1 1 [.int .i64 ((m : Int) + 1)] rfl rfl (cell_one_new _ _ _) (by simp [Value.oneCell']) (by have:=HO.out;unfold maxLen;omega) (by have:=HO.out;omega) HSZ.out ?_;intro v' w1 hown' hgrow _;obtain ⟨g',cap',rfl⟩:=ownsRow_succ hown';obtain ⟨hL1,hK1⟩:=HLL.out.append (x:=(m : Int) + 1) (by simp) (by simp) hown' hgrow;have hL2:=hL1.set (b:=w.heap.size + 1) (t:=22) (u0:=v) (by simp) (.slice (some ⟨g',0,none⟩) (out.length + 1) cap') (bs':=[(w.heap.size,3,.int .i64 a),(w.heap.size + 1,22,.slice (some ⟨g',0,none⟩) (out.length + 1) cap')]) (by simp);have hL3:=Aside0.mk (hL2.set (b:=w.heap.size) (t:=3) (u0:=.int .i64 a) (by simp) (.int .i64 (2 * pm - 1 - a)) (bs':=[(w.heap.size,3,.int .i64 (2 * pm - 1 - a)),(w.heap.size + 1,22,.slice (some ⟨g',0,none⟩) (out.length + 1) cap')]) (by simp));have k6:=(hL1.box (w.heap.size + 1,22,v) (by simp)).2.cell;have kf6:=(hL1.box (w.heap.size + 1,22,v) (by simp)).2.frozen;have k3:=(hL2.box (w.heap.size,3,.int .i64 a) (by simp)).2.cell;have kf3:=(hL2.box (w.heap.size,3,.int .i64 a) (by simp)).2.frozen;have HK1:=Aside0.mk hK1;have HKB:=Aside0.mk (HLL.out.keepB (B:=w.heap.size + 1 + 1) (by omega) hgrow);clear hL1 hL2 hK1 hown' hgrow)
  have hx : ∀ X Y,((w1.setCell ⟨w.heap.size + 1,0,none⟩ X).setCell ⟨w.heap.size,0,none⟩ Y).heap[w.heap.size + 1 + 1]? = W.heap[w.heap.size + 1 + 1]?:=fun X Y =>
   ((Below.heap_setCell _ ⟨w.heap.size,0,none⟩ Y _ (show w.heap.size + 1 + 1≠w.heap.size from Nat.ne_of_gt (Nat.lt_succ_of_lt (Nat.lt_succ_self _)))).trans (Below.heap_setCell _ ⟨w.heap.size + 1,0,none⟩ X _ (show w.heap.size + 1 + 1≠w.heap.size + 1 from Nat.ne_of_gt (Nat.lt_succ_self _)))).trans HKB.out
  obtain ⟨x1,x2⟩:=cellOf_eq (hx (.slice (some ⟨g',0,none⟩) (out.length + 1) cap') (.int .i64 (2 * pm - 1 - a)))
  exact⟨((HK1.out.trans (KeepsOthers.setCell _ _ _)).trans (KeepsOthers.setCell _ _ _)).from _,x1,x2,_,_,⟨_,hL3.out⟩,HJ1,HG1⟩
 case done =>
  rintro D W hD ⟨a,out,v,hL,HJ,HG⟩ hK
  have ho : out =(gray n a1).reverse:=by
   have:=HG.out
   rw [Nat.sub_self] at this
   simpa [gray] using this
  have hlen : out.length≤40:=by have:=HJ.out;have:=HN.out;omega
  obtain ⟨kr,hkr⟩:=(reverse_ev out (by omega)).rounds
  have HRV:=Aside0.mk hkr
  have hrr : out.reverse = r1:=by rw [ho,List.reverse_reverse];exact HR.out
  rw [hrr] at HRV
  have HT:=Aside0.mk hL.tight
  have HBL:=Aside0.mk hL.below
  have hc6:=(hL.box (w.heap.size + 1,22,v) (by simp)).2.cell
  have HB6:=Aside0.mk (hL.box (w.heap.size + 1,22,v) (by simp))
  have HDD:=Aside0.mk (show w.heap.size + 3≤D by simp at hD;omega)
  have HKD:=Aside0.mk hK
  have HGE:=Aside0.mk (fun j=>hL.row_ge (j:=j))
  clear hL HJ HG ho hlen hkr hrr hD hK
  go_wp2_with (go_at_call 61;go_must (refine(slices_Reverse_int_int.calls kr (fun k=>some k = v.ownBlock) v out r1 w _ HBL.out HT.out HRV.out).mono ?_;rintro e w2 ⟨rfl,ho2,hb2,hk2⟩;have HO2:=Aside0.mk ho2;have HB2:=Aside0.mk hb2;have k6 : w2.cell? ⟨w.heap.size + 1,0,none⟩ = some v:=(show Boxed w2 _ 22 v from(hk2.2 _ (HB6.out.2).lt (fun e=>by have:=HGE.out _ e.symm;omega)).trans HB6.out.2).cell;have HKD2:=Aside0.mk ((hk2.2 D (Array.getElem?_eq_some_iff.1 HKD.out).1 (not_row HT.out HKD.out rfl)).trans HKD.out);clear ho2 hb2 hk2))
  refine⟨by simp,.inl ⟨_,_,rfl,run_takeDeferred HKD2.out,?_⟩⟩
  exact⟨_,results_list (rs:=[.tmp 4,.tmp 5]) rfl (by simp) (.tmp (.tmp .nil)),_,rfl,R_putD _ HO2.out HKD2.out rfl,HB2.out.grown (grownBy_putObj' _ _ _) HB2.out.size (fun k e=>by obtain rfl : D = k:=(by simpa using e);have:=HDD.out;omega)⟩
 case stop =>
  rintro D c W _ h _
  exact h.elim
end Go.Proofs.Ytbfhlaggllofdaa.S

namespace Go.Proofs.Ytbfhlaggllofdaa.T
open Go.RowKit Go.Proofs.YtbfhlaggllofdaaW.PrintWords Go.Proofs.YtbfhlaggllofdaaW.PrintLast Go.Proofs.YtbfhlaggllofdaaW.PrintMore
open Go.Proofs.Ytbfhlaggllofdaa.G Go.Proofs.Ytbfhlaggllofdaa.Lib Go.Proofs.Ytbfhlaggllofdaa.P
set_option linter.unusedVariables false
set_option linter.unusedSimpArgs false
def facA (n : Nat) : Array Value:=((List.range 19).map (fun i=>Value.int .i64 (if i < n then fact i else 0))).toArray
def facZ : Array Value:=#[.int .i64 0,.int .i64 0,.int .i64 0,.int .i64 0,.int .i64 0,.int .i64 0,.int .i64 0,.int .i64 0,.int .i64 0,.int .i64 0,.int .i64 0,.int .i64 0,.int .i64 0,.int .i64 0,.int .i64 0,.int .i64 0,.int .i64 0,.int .i64 0,.int .i64 0]
def facL : Array Value:=#[.int .i64 1,.int .i64 1,.int .i64 2,.int .i64 6,.int .i64 24,.int .i64 120,.int .i64 720,.int .i64 5040,.int .i64 40320,.int .i64 362880,.int .i64 3628800,.int .i64 39916800,.int .i64 479001600,.int .i64 6227020800,.int .i64 87178291200,.int .i64 1307674368000,.int .i64 20922789888000,.int .i64 355687428096000,.int .i64 6402373705728000]
theorem facA_end : facA 19 = #[.int .i64 1,.int .i64 1,.int .i64 2,.int .i64 6,.int .i64 24,.int .i64 120,.int .i64 720,.int .i64 5040,.int .i64 40320,.int .i64 362880,.int .i64 3628800,.int .i64 39916800,.int .i64 479001600,.int .i64 6227020800,.int .i64 87178291200,.int .i64 1307674368000,.int .i64 20922789888000,.int .i64 355687428096000,.int .i64 6402373705728000]:=by kernel_rfl
theorem facA_one : facA 1 = #[.int .i64 1,.int .i64 0,.int .i64 0,.int .i64 0,.int .i64 0,.int .i64 0,.int .i64 0,.int .i64 0,.int .i64 0,.int .i64 0,.int .i64 0,.int .i64 0,.int .i64 0,.int .i64 0,.int .i64 0,.int .i64 0,.int .i64 0,.int .i64 0,.int .i64 0]:=by kernel_rfl
theorem fact_le {n : Nat} (h : n≤18) : 1≤fact n∧fact n≤6402373705728000:=by
 have : ∀ n : Fin 19,1≤fact n.val∧fact n.val≤6402373705728000:=by decide +kernel
 exact this ⟨n,by omega⟩
theorem facA_at {n i : Nat} (h : i < n) (h19 : i < 19) :(facA n)[i]? = some (.int .i64 (fact i)):=by
 unfold facA
 simp [h19,h]
theorem facA_set {n : Nat} (h : n < 19) :(facA n).setIfInBounds n (.int .i64 (fact n)) = facA (n + 1):=by
 unfold facA
 apply Array.ext_getElem?
 intro i
 simp only [Array.getElem?_setIfInBounds,List.getElem?_toArray,List.getElem?_map,List.size_toArray,List.length_map,List.length_range]
 by_cases c : n = i
 ·subst c
  simp [h]
 rw [if_neg c]
 by_cases h19 : i < 19
 rotate_left
 ·simp [h19]
 rw [List.getElem?_range h19]
 simp only [Option.map_some]
 congr 2
 by_cases c1 : i < n
 ·rw [if_pos c1,if_pos (by omega)]
 rw [if_neg c1,if_neg (by omega)]
theorem wpList_build_as {P : Program} {ops : Array Oper} {rest : List Oper} {o : Oper} {a : Act} {w : World} {Q : Exit → Act → World → Prop} (hg : o.guard = none) (t : TypeId) (parts : Array (Nat × Operand)) (ho : o.op = .build t parts)
  (cs : Array Value) (hb : P.built t (parts.map fun(i,x)=>(i,a.eval x)).toList = some cs) (h : wpList P ops Q rest (a.put o.dst (.agg cs)) w) : wpList P ops Q (o :: rest) a w :=
 wpList_build hg t parts ho (by rw [hb];rfl) (by rw [hb];exact h)
theorem meas3 {N n : Nat} {z : Int} (h : n < N) (hz : z =(n : Int) + 1) : N - (intOf (Value.int .i64 z)).toNat < N - (intOf (Value.int .i64 (n : Int))).toNat:=by
 show N - z.toNat < N - ((n : Int)).toNat
 omega
set_option maxHeartbeats 2000000 in
set_option maxRecDepth 100000 in
theorem fac_calls (w : World) : Calls Try.prog 64 #[] w fun e w'=>e = .returned (.agg #[.int .i64 1,.int .i64 1,.int .i64 2,.int .i64 6,.int .i64 24,.int .i64 120,.int .i64 720,.int .i64 5040,.int .i64 40320,.int .i64 362880,.int .i64 3628800,.int .i64 39916800,.int .i64 479001600,.int .i64 6227020800,.int .i64 87178291200,.int .i64 1307674368000,.int .i64 20922789888000,.int .i64 355687428096000,.int .i64 6402373705728000])∧Below w.heap.size w w':=by
 go_enter Try.func64,Try.ntmps64
 have hi76 :(Try.prog.info? 76).map (·.size) = some (#[.int .i64 1,.int .i64 0,.int .i64 0,.int .i64 0,.int .i64 0,.int .i64 0,.int .i64 0,.int .i64 0,.int .i64 0,.int .i64 0,.int .i64 0,.int .i64 0,.int .i64 0,.int .i64 0,.int .i64 0,.int .i64 0,.int .i64 0,.int .i64 0,.int .i64 0] : Array Value).size:=by kernel_rfl
 go_upto_region 1 with (fail)
 refine wp_region_lit ?_
 refine wpList_build_as rfl 76 #[(0,.const (.int .i64 1))] rfl #[.int .i64 1,.int .i64 0,.int .i64 0,.int .i64 0,.int .i64 0,.int .i64 0,.int .i64 0,.int .i64 0,.int .i64 0,.int .i64 0,.int .i64 0,.int .i64 0,.int .i64 0,.int .i64 0,.int .i64 0,.int .i64 0,.int .i64 0,.int .i64 0,.int .i64 0] (by kernel_rfl) ?_
 refine wpList_plain rfl (fun K hK=>?_)
 go_simp
 refine hK _ _ ?_
 clear hK
 refine wpList_store_row rfl 76 (.tmp 1) (.tmp 3) rfl (w.heap.size + 1) #[.int .i64 1,.int .i64 0,.int .i64 0,.int .i64 0,.int .i64 0,.int .i64 0,.int .i64 0,.int .i64 0,.int .i64 0,.int .i64 0,.int .i64 0,.int .i64 0,.int .i64 0,.int .i64 0,.int .i64 0,.int .i64 0,.int .i64 0,.int .i64 0,.int .i64 0] rfl rfl 76 #[.int .i64 0,.int .i64 0,.int .i64 0,.int .i64 0,.int .i64 0,.int .i64 0,.int .i64 0,.int .i64 0,.int .i64 0,.int .i64 0,.int .i64 0,.int .i64 0,.int .i64 0,.int .i64 0,.int .i64 0,.int .i64 0,.int .i64 0,.int .i64 0,.int .i64 0] (heap_alloc2_new _ _ _) hi76 rfl (by kernel_rfl) ?_
 obtain ⟨W0,hW0⟩ : ∃ W0,((w.alloc (.cells #[.int .i64 0,.int .i64 0,.int .i64 0,.int .i64 0,.int .i64 0,.int .i64 0,.int .i64 0,.int .i64 0,.int .i64 0,.int .i64 0,.int .i64 0,.int .i64 0,.int .i64 0,.int .i64 0,.int .i64 0,.int .i64 0,.int .i64 0,.int .i64 0,.int .i64 0] 76)).alloc (.cells #[.int .i64 0,.int .i64 0,.int .i64 0,.int .i64 0,.int .i64 0,.int .i64 0,.int .i64 0,.int .i64 0,.int .i64 0,.int .i64 0,.int .i64 0,.int .i64 0,.int .i64 0,.int .i64 0,.int .i64 0,.int .i64 0,.int .i64 0,.int .i64 0,.int .i64 0] 76)).setRow (w.heap.size + 1) #[.int .i64 1,.int .i64 0,.int .i64 0,.int .i64 0,.int .i64 0,.int .i64 0,.int .i64 0,.int .i64 0,.int .i64 0,.int .i64 0,.int .i64 0,.int .i64 0,.int .i64 0,.int .i64 0,.int .i64 0,.int .i64 0,.int .i64 0,.int .i64 0,.int .i64 0] = W0:=⟨_,rfl⟩
 have HB0:=Aside0.mk (show Below w.heap.size w W0 by rw [← hW0];exact below_setRow (bwA (bwA (Below.refl _ _) _) _) (by simp) _)
 have HF0:=Aside0.mk (show W0.heap[w.heap.size + 1]? = some (.cells (facA 1) 76 (0,0)) by
  rw [← hW0,facA_one]
  exact setRow_heap _ _ _ _ _ _ (heap_alloc2_new _ _ _))
 have HZ0:=Aside0.mk (show W0.heap[w.heap.size]? = some (.cells facZ 76 (0,0)) by
  rw [← hW0,setRow_other _ _ _ _ (by simp)]
  exact heap_alloc2_old _ _ _)
 rw [hW0]
 clear hW0
 refine wpList_nil ?_
 go_wp2
 go_loopw [2] (fun v2 wr=>∃ n : Nat,v2 = .int .i64 n∧Aside0 (1≤n∧n≤19)∧Aside0 (wr.heap[w.heap.size]? = some (.cells facZ 76 (0,0)))∧Aside0 (wr.heap[w.heap.size + 1]? = some (.cells (facA n) 76 (0,0)))∧Aside0 (Below w.heap.size w wr)) (fun v2 _=>19 - (intOf v2).toNat)
 case atStart=>exact⟨1,rfl,⟨by omega⟩,HZ0,HF0,HB0⟩
 clear HZ0 HF0 HB0
 obtain ⟨n,rfl,HN,HZ,HF,HB⟩:=hrel
 obtain ⟨n1,n2⟩:=HN.out
 by_cases c : n < 19
 rotate_left
 ·obtain rfl : n = 19 := by omega
  clear c n1 n2
  have hF : wr.heap[w.heap.size + 1]? = some (.cells facL 76 (0,0)):=by rw [HF.out,facA_end];rfl
  have hiL :(Try.prog.info? 76).map (·.size) = some facL.size:=by kernel_rfl
  go_wp2_with (first |(refine wpList_load_row rfl 76 (.tmp 1) rfl (w.heap.size + 1) rfl 76 facL (0,0) _ hF Try.underlying76 rfl hiL ?_) |(refine wpList_store_row rfl 76 (.tmp 0) (.tmp 16) rfl w.heap.size facL rfl rfl 76 facZ HZ.out hiL rfl (by kernel_rfl) ?_))
  refine bodyPost_ret (results_cell_row rfl _ _ w.heap.size 76 facL (0,0) _ rfl (setRow_heap _ _ _ _ _ _ HZ.out) Try.underlying76 rfl hiL) rfl ?_
  exact⟨rfl,below_setRow HB.out (Nat.le_refl _) _⟩
 obtain ⟨m,rfl⟩ : ∃ m,n = m + 1:=⟨n - 1,by omega⟩
 have c1 : decide (((m + 1 : Nat) : Int) < 19) = true:=decide_eq_true (by omega)
 have c2 : decide ((m : Int) + 1 < 19) = true:=decide_eq_true (by omega)
 have c3 : decide (m + 1 < 19) = true:=decide_eq_true (by omega)
 have c4 : decide (m < 18) = true:=decide_eq_true (by omega)
 have l1 : wr.cell? ⟨w.heap.size + 1,m,none⟩ = some (.int .i64 (fact m)):=(bkC HF.out m).trans (facA_at (by omega) (by omega))
 obtain ⟨x,hx⟩ : ∃ x,(facA (m + 1))[m + 1]? = some x:=⟨(facA (m + 1))[m + 1]'(by unfold facA;simp;omega),Array.getElem?_eq_getElem _⟩
 have l2 : wr.cell? ⟨w.heap.size + 1,m + 1,none⟩ = some x:=(bkC HF.out (m + 1)).trans hx
 have l3:=bkF HF.out (m + 1)
 have d1:=eq_true (show(m : Int) < 19 by omega)
 have d2:=eq_true (show(m : Int) + 1 < 19 by omega)
 have d3:=eq_true (show 0 ≤(m : Int) + 1 by omega)
 have wm : wrap64 (m : Int) = m:=w64 (by omega) (by omega)
 have wm2 : wrap64 ((m : Int) + 1 + 1) =(m : Int) + 1 + 1:=w64 (by omega) (by omega)
 have hf :((m : Int) + 1) * fact m = fact (m + 1):=rfl
 have b:=fact_le (n:=m + 1) (by omega)
 have hwf : wrap64 (((m : Int) + 1) * fact m) = fact (m + 1):=by rw [hf];exact w64 (by omega) (by omega)
 have HZ1:=Aside0.mk ((Below.heap_setCell wr ⟨w.heap.size + 1,m + 1,none⟩ (.int .i64 (fact (m + 1))) w.heap.size (by simp)).trans HZ.out)
 have HF1:=Aside0.mk (show(wr.setCell ⟨w.heap.size + 1,m + 1,none⟩ (.int .i64 (fact (m + 1)))).heap[w.heap.size + 1]? = some (.cells (facA (m + 1 + 1)) 76 (0,0)) by
  have:=blk_set HF.out (m + 1) (.int .i64 (fact (m + 1)))
  rwa [facA_set (by omega)] at this)
 have HB1:=Aside0.mk (HB.out.setCell (p:=⟨w.heap.size + 1,m + 1,none⟩) (by simp) (.int .i64 (fact (m + 1))))
 obtain ⟨va,hva⟩ : ∃ v,fact m = v:=⟨_,rfl⟩
 obtain ⟨vb,hvb⟩ : ∃ v,fact (m + 1) = v:=⟨_,rfl⟩
 rw [hva] at l1 hwf
 rw [hvb] at hwf HZ1 HF1 HB1
 clear hva hvb hf b hx c n1 n2 HZ HF HB
 go_wp2
 repeat(go_quiet (fail);try go_wp2)
 go_roundw
 case rel=>exact⟨m + 1 + 1,by simp [wm2],⟨by have:=of_decide_eq_true c4;omega⟩,HZ1,HF1,HB1⟩
 exact meas3 (by have:=of_decide_eq_true c4;omega) (by omega)
end Go.Proofs.Ytbfhlaggllofdaa.T

namespace Go.Proofs.Ytbfhlaggllofdaa.T
open Go Go.RowKit Go.Shelf Go.Proofs.YtbfhlaggllofdaaW.PrintWords Go.Proofs.YtbfhlaggllofdaaW.PrintLast Go.Proofs.YtbfhlaggllofdaaW.PrintMore
set_option linter.unusedVariables false
def ρI : Ren:=⟨fun | 21=>73 | 27=>75 | 28=>76 | 35=>77 | 39=>61 | n=>n,fun | 22=>22 | 3=>3 | n=>n,fun n=>n⟩
set_option maxRecDepth 100000 in
theorem layI : Lays2.n21 Try.prog ρI where
 mixed:=by kernel_rfl
 f21:=by kernel_rfl
 f27:=by kernel_rfl
 f28:=by kernel_rfl
 f35:=by kernel_rfl
 f39:=by kernel_rfl
 t0:=Try.underlying0
 a0:=Try.isAgg0
 z0:=Try.sizeOf0
 v0:=Try.zeroValue0
 t3:=Try.underlying3
 a3:=Try.isAgg3
 z3:=Try.sizeOf3
 v3:=Try.zeroValue3
 t4:=Try.underlying4
 a4:=Try.isAgg4
 z4:=Try.sizeOf4
 v4:=Try.zeroValue4
 t22:=Try.underlying22
 a22:=Try.isAgg22
 z22:=Try.sizeOf22
 v22:=Try.zeroValue22
 i3:=by kernel_rfl
def patch (cur : Array Value) (o : Nat) : List Value → Array Value
 | []=>cur
 | v :: r=>patch (cur.setIfInBounds o v) (o + 1) r
theorem patch_size : ∀ (vs : List Value) (cur : Array Value) (o : Nat), (patch cur o vs).size = cur.size
 | [],_,_=>rfl
 | v :: r,cur,o=>by unfold patch;rw [patch_size r];simp
theorem patch_get : ∀ (vs : List Value) (cur : Array Value) (o j : Nat), o + vs.length ≤ cur.size → (patch cur o vs)[j]? = if o ≤ j ∧ j < o + vs.length then vs[j - o]? else cur[j]?
 | [],cur,o,j,h=>by
  rw [if_neg (by rw [List.length_nil];omega)]
  rfl
 | v :: r,cur,o,j,h=>by
  have h' : o + (r.length + 1)≤cur.size:=by simpa using h
  unfold patch
  rw [patch_get r _ _ j (by simp;omega)]
  by_cases c : o + 1≤j∧j < o + 1 + r.length
  ·rw [if_pos c,if_pos (by simp;omega),show j - o =(j - (o + 1)) + 1 by omega,List.getElem?_cons_succ]
  ·rw [if_neg c]
   by_cases c1 : j = o
   ·subst c1
    rw [if_pos (by simp),Nat.sub_self,List.getElem?_cons_zero,Array.getElem?_setIfInBounds_self_of_lt (by omega)]
   ·rw [if_neg (by simp;omega),Array.getElem?_setIfInBounds_ne (by omega)]
theorem heap_setCells (b : Nat) : ∀ (vs : List Value) (o : Nat) (w : World) (cur : Array Value) (e : TypeId) (fz : Nat × Nat), w.heap[b]? = some (.cells cur e fz) → (w.setCells b o vs).heap[b]? = some (.cells (patch cur o vs) e fz)
 | [],_,_,_,_,_,h=>h
 | v :: r,o,w,cur,e,fz,h=>by
  unfold World.setCells patch
  refine heap_setCells b r (o + 1) _ _ e fz ?_
  unfold World.setCell
  simp [Array.getElem?_modify,h]
/-- The row with x at i. -/
theorem patched {cur : Array Value} {xs : List Int} {n i : Nat} {x : Int} (hn : xs.length = n) (hi : i ≤ n) (hs : n + 1 ≤ cur.size) (hc : ∀ j, j < i → cur[j]? = some (.int .i64 (xs.getD j 0))) {vs cs : List Value} (hvs : vs = [.int .i64 x]) (hcs : cs = (xs.map (Value.int .i64)).drop i) :
  (patch (patch cur (i + 1) cs) i vs).toList.take ((n + 1) * 1) =((xs.take i ++ x :: xs.drop i)).map (Value.int .i64):=by
 subst hvs;subst hcs
 have hl :((xs.map (Value.int .i64)).drop i).length = n - i:=by simp [hn]
 apply List.ext_getElem?
 intro j
 rw [List.getElem?_take,Array.getElem?_toList,patch_get _ _ _ j (by rw [patch_size];simp;omega),patch_get _ _ _ j (by rw [hl];omega),hl,List.getElem?_map]
 simp only [List.length_singleton,Nat.mul_one]
 have ht :(xs.take i).length = i:=by rw [List.length_take];omega
 by_cases c0 : j < n + 1
 rotate_left
 ·rw [if_neg c0, List.getElem?_eq_none (by rw [List.length_append, List.length_cons, List.length_drop, ht]; omega)]
  rfl
 rw [if_pos c0]
 by_cases c1 : i≤j∧j < i + 1
 ·rw [if_pos c1]
  obtain rfl : i = j:=by omega
  rw [List.getElem?_append_right (by omega),ht,Nat.sub_self]
  rfl
 rw [if_neg c1]
 by_cases c2 : i + 1≤j∧j < i + 1 + (n - i)
 ·rw [if_pos c2,List.getElem?_append_right (by omega),ht,show j - i =(j - (i + 1)) + 1 by omega,List.getElem?_cons_succ,List.getElem?_drop,List.getElem?_drop,List.getElem?_map]
 have hj : j < i:=by omega
 rw [if_neg c2,hc j hj,List.getElem?_append_left (by omega),List.getElem?_take_of_lt hj,List.getD_eq_getElem?_getD,List.getElem?_eq_getElem (by omega)]
 rfl
theorem patch_swap {cur : Array Value} {i : Nat} {v : Value} {cs : List Value} (h : i + 1 + cs.length≤cur.size) : patch (patch cur i [v]) (i + 1) cs = patch (patch cur (i + 1) cs) i [v]:=by
 apply Array.ext_getElem?
 intro j
 rw [patch_get _ _ _ j (by rw [patch_size];omega),patch_get _ _ _ j (by simp;omega),patch_get _ _ _ j (by rw [patch_size];simp;omega),patch_get _ _ _ j h]
 simp only [List.length_singleton]
 by_cases c1 : i≤j∧j < i + 1
 rotate_left
 ·rw [if_neg c1,if_neg c1]
 rw [if_pos c1,if_pos c1,if_neg (by omega)]
theorem below_sc {B b : Nat} {a : World} (hb : B ≤ b) : ∀ (vs : List Value) (o : Nat) {w : World}, Below B a w → Below B a (w.setCells b o vs)
 | [],_,_,h=>h
 | v :: r,o,w,h=>below_sc hb r (o + 1) (h.setCell hb v)
theorem zc_size (k : Nat) :(Builtin.zeroCells (Value.int .i64 0).cells k).size = k:=by simp [Builtin.zeroCells,Value.cells]
/-- A row laid anew. -/
theorem new_own {W : World} {base n G : Nat} {L : List Value} (hL : L.length = n) (hb : base ≤ W.heap.size) (h1 : n ≤ G) (h2 : G ≤ maxLen) :
  (W.drew.alloc (.cells (L.toArray ++ Builtin.zeroCells (Value.int .i64 0).cells (G - n)) 3)).ownsRow base 3 1 (.slice (some ⟨W.heap.size,0,none⟩) n G) n L:=by
 refine⟨by omega,.inr ⟨W.heap.size,G,L.toArray ++ Builtin.zeroCells (Value.int .i64 0).cells (G - n),rfl,hb,?_,h1,h2,?_,?_⟩⟩
 ·show (W.heap.push _)[W.heap.size]? = _
  rw [Array.getElem?_push,if_pos rfl]
 ·rw [Array.size_append, zc_size]
  simp
  omega
 rw [Array.toList_append,List.take_append_of_le_length (by simp;omega)]
 simp [List.take_of_length_le (by omega : L.length≤n)]
theorem insert_own {W : World} {base n i : Nat} {v : Value} {xs : List Int} (hv : W.ownsRow base 3 1 v n (xs.map (Value.int .i64))) (hb : base ≤ W.heap.size) (hn : n ≤ 100) (hi : i ≤ n) (x : Int) :
  Calls Try.prog 73 #[v,.int .i64 i,.slice (some ⟨W.heap.size,0,none⟩) 1 1] (W.alloc (.cells #[.int .i64 x] 3)) fun e w'=>∃ v',e = .returned v'∧w'.ownsRow base 3 1 v' (n + 1) ((xs.take i ++ x :: xs.drop i).map (Value.int .i64))∧Below base W w':=by
 have hxl : xs.length = n:=by have:=hv.1;simpa using this
 obtain ⟨w1,hw1⟩ : ∃ w1,w1 = W.alloc (.cells #[.int .i64 x] 3):=⟨_,rfl⟩
 have hs1 : w1.heap.size = W.heap.size + 1:=by rw [hw1];simp
 have hbw : Below base W w1:=by rw [hw1];exact(Below.refl _ _).alloc hb _
 have hlit : w1.heap[W.heap.size]? = some (.cells #[.int .i64 x] 3 (0,0)):=by rw [hw1];show(W.heap.push _)[W.heap.size]? = _;rw [Array.getElem?_push,if_pos rfl]
 have hvs : ∀ (j : Nat) (u : Value),[Value.int .i64 x][j]? = some u→w1.cell? ⟨W.heap.size,0 + j,none⟩ = some u:=by
  intro j u hj
  cases j with
  | zero =>
   simp at hj
   subst hj
   unfold World.cell?
   simp [hlit]
  | succ j=>simp at hj
 have h1v : ∀ u ∈ [Value.int .i64 x],u.oneCell' = true:=by simp [Value.oneCell']
 have hml : ∀ G,G≤maxLen→True:=fun _ _=>trivial
 rw [← hw1]
 rcases hv.2 with ⟨rfl,rfl⟩ |⟨g,cap,cur,rfl,hg,hcur,hnc,hcm,hsz,htake⟩
 ·obtain rfl : i = 0 := by omega
  obtain rfl : xs = []:=List.eq_nil_of_length_eq_zero hxl
  refine(Any2.slices_Insert_int_end_grow layI none 0 0 W.heap.size 0 1 1 [] [.int .i64 x] w1 (by omega) (by omega) (by omega) (by omega) rfl rfl (fun _=>rfl) (fun a ha=>by cases ha) hvs h1v).mono ?_
  rintro e w' ⟨rfl,rfl⟩
  exact⟨_,rfl,new_own (L:=[.int .i64 x]) rfl (by omega) (grownCap_ge _ _ _ _) (grownCap_le_maxLen _ _ _ _ (by unfold maxLen;omega)),hbw.drew.alloc (by show base≤w1.heap.size;omega) _⟩
 have hgW : g < W.heap.size:=(Array.getElem?_eq_some_iff.1 hcur).1
 have hcur1 : w1.heap[g]? = some (.cells cur 3 (0,0)):=by
  rw [hw1,Below.heap_alloc _ _ _ hgW];exact hcur
 have hcl :((xs.map (Value.int .i64))).length = n:=by simp [hxl]
 have hget : ∀ j,j < n→cur[j]? = some (.int .i64 (xs.getD j 0)):=by
  intro j hj
  have h1 :(cur.toList.take (n * 1))[j]? =(xs.map (Value.int .i64))[j]?:=by rw [htake]
  rw [List.getElem?_take_of_lt (by omega),Array.getElem?_toList,List.getElem?_map,List.getElem?_eq_getElem (by omega)] at h1
  rw [h1,List.getD_eq_getElem?_getD,List.getElem?_eq_getElem (by omega)]
  rfl
 have hcell : ∀ j,w1.cell? ⟨g,0 + j,none⟩ = cur[j]?:=fun j=>by
  unfold World.cell?
  simp [hcur1]
 have hcs : ∀ (j : Nat) (u : Value),(xs.map (Value.int .i64))[j]? = some u→w1.cell? ⟨g,0 + j,none⟩ = some u:=by
  intro j u hj
  rw [hcell]
  have hjn : j < n:=by have:=(List.getElem?_eq_some_iff.1 hj).1;simp at this;omega
  rw [hget j hjn,← hj,List.getElem?_map,List.getElem?_eq_getElem (by omega),List.getD_eq_getElem?_getD,List.getElem?_eq_getElem (by omega)]
  rfl
 have h1c : ∀ u ∈ xs.map (Value.int .i64),u.oneCell' = true:=by
  intro u hu
  obtain ⟨y,_,rfl⟩:=List.mem_map.1 hu
  rfl
 have hfz : ∀ j,w1.frozen? ⟨g,j,none⟩ = false:=fun j=>by
  unfold World.frozen?
  simp [hcur1]
 have hrl :((xs.take i ++ x :: xs.drop i).map (Value.int .i64)).length =(n + 1) * 1:=by
  simp [List.length_take];omega
 by_cases ci : i = n
 ·subst ci
  have hd : xs.drop i = []:=List.drop_eq_nil_of_le (by omega)
  by_cases cr : i + 1≤cap
  ·refine (Any2.slices_Insert_int_end_room layI g 0 i cap W.heap.size 0 1 1 [.int .i64 x] w1 (by omega) cr (by unfold maxLen at hcm; omega) rfl (fun j hj => ?_) (fun j hj => hfz _) hvs h1v).mono ?_
   ·rw [show(0 + i + j) = 0 + (i + j) by omega,hcell,Array.getElem?_eq_getElem (by omega)];rfl
   rintro e w' ⟨rfl,rfl⟩
   refine⟨_,rfl,⟨hrl,.inr ⟨g,cap,patch cur (0 + i) [.int .i64 x],rfl,hg,heap_setCells g _ _ _ _ _ _ hcur1,cr,hcm,by rw [patch_size];exact hsz,?_⟩⟩,below_sc hg _ _ hbw⟩
   have:=patched (cur:=cur) (x:=x) hxl (Nat.le_refl i) (by omega) (fun j hj=>hget j hj) rfl (cs:=[]) (by rw [List.drop_eq_nil_of_le (by simp [hxl])])
   rw [Nat.zero_add]
   exact this
  refine(Any2.slices_Insert_int_end_grow layI (some ⟨g,0,none⟩) i cap W.heap.size 0 1 1 (xs.map (Value.int .i64)) [.int .i64 x] w1 (by omega) hnc (by omega) (by omega) hcl rfl (fun h=>by cases h) (fun a ha j u hj=>?_) hvs h1v).mono ?_
  ·injection ha with ha
   subst ha
   have:=hcs j u hj
   rw [Nat.zero_add] at this
   cases j with
   | zero=>exact this
   | succ j=>simpa [Addr.add] using this
  rintro e w' ⟨rfl,rfl⟩
  refine⟨_,rfl,?_,hbw.drew.alloc (by show base≤w1.heap.size;omega) _⟩
  have:=new_own (W:=w1) (base:=base) (n:=i + 1) (L:=xs.map (Value.int .i64) ++ [.int .i64 x]) (by simp [hxl]) (by omega) (grownCap_ge w1 (i + 1) cap 3) (grownCap_le_maxLen _ _ _ _ (by unfold maxLen;omega))
  rw [hd,List.take_of_length_le (by omega),List.map_append]
  exact this
 have hin : i < n:=by omega
 by_cases cr : n + 1≤cap
 ·refine (Any2.slices_Insert_int_shift layI g 0 n cap i W.heap.size 0 1 1 (xs.map (Value.int .i64)) [.int .i64 x] w1 hin (by omega) cr (by unfold maxLen at hcm; omega) (by omega) hcl rfl hcs (fun j hj => ?_) (fun j hj => hfz _) hvs h1c h1v 3 3 1 cap (by unfold World.shape?; rw [hlit]; rfl) (by unfold World.shape?; rw [hcur1]; simp; omega) (by omega) (by unfold World.frozen?; rw [hlit]; rfl) (by unfold World.frozen?; rw [hlit]; rfl)).mono ?_
  ·rw [hcell,Array.getElem?_eq_getElem (by omega)];rfl
  rintro e w' ⟨rfl,rfl⟩
  refine⟨_,rfl,⟨hrl,.inr ⟨g,cap,_,rfl,hg,heap_setCells g _ _ _ _ _ _ (heap_setCells g _ _ _ _ _ _ (show w1.drew.heap[g]? = _ from hcur1)),cr,hcm,by rw [patch_size,patch_size];exact hsz,?_⟩⟩,below_sc hg _ _ (below_sc hg _ _ hbw.drew)⟩
  rw [Nat.zero_add,Nat.zero_add]
  exact patched hxl hi (by omega) (fun j hj=>hget j (by omega)) rfl rfl
 refine(Any2.slices_Insert_int_grow layI g 0 n cap i W.heap.size 0 1 1 (xs.map (Value.int .i64)) [.int .i64 x] w1 hin (by omega) hnc (by omega) (by omega) hcl rfl hcs hvs h1c h1v).mono ?_
 rintro e w' ⟨rfl,rfl⟩
 have hge:=grownCap_ge w1 (n + 1) cap 3
 have hle:=grownCap_le_maxLen w1 (n + 1) cap 3 (by unfold maxLen;omega)
 obtain ⟨G,hG⟩ : ∃ G,grownCap w1 (n + 1) cap 3 = G:=⟨_,rfl⟩
 rw [hG] at hge hle
 simp only [show ρI.t 3 = 3 from rfl,hG]
 obtain ⟨R,hR⟩ : ∃ R : Array Value,R =((xs.map (Value.int .i64)).take i).toArray ++ Builtin.zeroCells (Value.int .i64 0).cells (n + 1 - i) ++ Builtin.zeroCells (Value.int .i64 0).cells (G - (n + 1)):=⟨_,rfl⟩
 have hRs : R.size = G:=by
  rw [hR,Array.size_append,Array.size_append,zc_size,zc_size]
  simp
  omega
 have hRg : ∀ j,j < i→R[j]? = some (.int .i64 (xs.getD j 0)):=by
  intro j hj
  rw [hR,Array.append_assoc,Array.getElem?_append_left (by simp;omega)]
  simp only [List.getElem?_toArray]
  rw [List.getElem?_take_of_lt hj,List.getElem?_map,List.getElem?_eq_getElem (by omega),List.getD_eq_getElem?_getD,List.getElem?_eq_getElem (by omega)]
  rfl
 rw [← hR]
 have hnew :((w1.alloc (.cells R 3)).drew).heap[w1.heap.size]? = some (.cells R 3 (0,0)):=by show(w1.heap.push _)[w1.heap.size]? = _;rw [Array.getElem?_push,if_pos rfl]
 have h2:=heap_setCells w1.heap.size ((xs.map (Value.int .i64)).drop i) (i + 1) _ _ _ _ (show(((w1.alloc (.cells R 3)).drew.setCells w1.heap.size i [.int .i64 x]).drew).heap[w1.heap.size]? = _ from heap_setCells w1.heap.size [.int .i64 x] i _ _ _ _ hnew)
 rw [patch_swap (by simp;omega)] at h2
 refine⟨_,rfl,⟨hrl,.inr ⟨w1.heap.size,G,_,rfl,by omega,h2,hge,hle,by rw [patch_size,patch_size];omega,patched hxl hi (by omega) hRg rfl rfl⟩⟩,below_sc (by omega) _ _ (below_sc (by omega) _ _ (hbw.alloc (by omega) _).drew).drew⟩
end Go.Proofs.Ytbfhlaggllofdaa.T

namespace Go.Proofs.Ytbfhlaggllofdaa.T
open Go Go.RowKit Go.Proofs.YtbfhlaggllofdaaW.PrintWords Go.Proofs.YtbfhlaggllofdaaW.PrintLast Go.Proofs.YtbfhlaggllofdaaW.PrintMore
open Go.Proofs.Ytbfhlaggllofdaa.G Go.Proofs.Ytbfhlaggllofdaa.P
set_option linter.unusedVariables false
theorem fac_new (w : World) : Calls Try.prog 64 #[] w fun e w'=>e = .returned (.agg (facA 19))∧Below w.heap.size w w':=by
 rw [facA_end]
 exact fac_calls w
theorem facA_get {i : Nat} (h : i < 19) :(facA 19)[i]? = some (.int .i64 (fact i)):=facA_at h h
theorem fac_index {n : Nat} (h : n < 19) (w : World) : Sem.run Try.prog (Instr.index 76 (.agg (facA 19)) (.int .i64 (n : Int))) w = .ok (.int .i64 (fact n)) w:=by
 have hg:=facA_get h
 have hu:=run_underlying (P:=Try.prog) Try.underlying76
 unfold Instr.index
 simp [asIntOf,hu,show(0 : Int) ≤(n : Int) by omega,show(n : Int) < 19 by omega,h,part,hg,Try.sizeOf3,Try.isAgg3]
theorem fact_dvd {i : Nat} : ∀ {n : Nat}, i ≤ n → ∃ K : Int, 1 ≤ K ∧ fact n = K * fact i
 | 0,h=>⟨1,by decide,by rw [show i = 0 by omega];decide⟩
 | n + 1,h=>by
  by_cases c : i = n + 1
  ·exact⟨1,by decide,by rw [c,Int.one_mul]⟩
  ·obtain ⟨K, h1, h2⟩ := fact_dvd (n := n) (i := i) (by omega)
   refine⟨((n : Int) + 1) * K,?_,by rw [Int.mul_assoc,← h2];rfl⟩
   have:=Int.mul_le_mul (show(1 : Int) ≤(n : Int) + 1 by omega) h1 (by decide) (by omega)
   simpa using this
theorem order_step {n i : Nat} {a : Int} (hn : n ≤ 18) (hi : i < n) (h0 : 0 ≤ a) (h1 : a < fact n) :
  ∃ F M D q t p : Int,∃ u : Nat,fact n = F∧fact (i + 1) = M∧a / (fact n / fact (i + 1)) = q∧a / (fact n / fact i) = t ∧
  ((M == 0) = false ∧(M = 0) = False∧Int.tdiv F M = D∧wrap64 D = D) ∧((D == 0) = false ∧(D = 0) = False∧Int.tdiv a D = q∧wrap64 q = q) ∧(Int.tmod q ((i : Int) + 1) = p∧Int.tdiv q ((i : Int) + 1) = t∧wrap64 t = t)∧u≤i ∧
  ((Int.tmod t 2 == 0) = true ∧(i : Int) - p = u ∨(Int.tmod t 2 == 0) = false∧p = u)∧wrap64 (u : Int) = u∧sjt (i + 1) q = ins (sjt i t) u ((i : Int) + 1):=by
 have b1:=fact_le hn
 have b2:=fact_le (n:=i + 1) (by omega)
 obtain ⟨K,hK,e1⟩:=fact_dvd (n:=n) (i:=i + 1) (by omega)
 have hp:=fact_pos i
 have hf : fact (i + 1) =((i : Int) + 1) * fact i:=rfl
 have d1 : fact n / fact (i + 1) = K:=by rw [e1];exact Int.mul_ediv_cancel _ (by omega)
 have d2 : fact n / fact i = K * ((i : Int) + 1):=by
  rw [e1,hf,← Int.mul_assoc];exact Int.mul_ediv_cancel _ (by omega)
 have hKn : K≤fact n:=by
  rw [e1]
  have:=Int.mul_le_mul_of_nonneg_left b2.1 (show 0≤K by omega)
  omega
 obtain ⟨q,hq⟩ : ∃ q,a / K = q:=⟨_,rfl⟩
 have q0 : 0≤q:=by rw [← hq];exact Int.ediv_nonneg h0 (by omega)
 have q1 : q≤a:=by rw [← hq];exact Int.ediv_le_self _ h0
 obtain ⟨t,ht⟩ : ∃ t,q / ((i : Int) + 1) = t:=⟨_,rfl⟩
 have t0 : 0≤t:=by rw [← ht];exact Int.ediv_nonneg q0 (by omega)
 have t1 : t≤q:=by rw [← ht];exact Int.ediv_le_self _ q0
 obtain ⟨p,hpp⟩ : ∃ p,q % ((i : Int) + 1) = p:=⟨_,rfl⟩
 have p0 : 0≤p:=by rw [← hpp];exact Int.emod_nonneg _ (by omega)
 have p1 : p < (i : Int) + 1:=by rw [← hpp];exact Int.emod_lt_of_pos _ (by omega)
 have e2 : Int.tdiv (fact n) (fact (i + 1)) = K:=by rw [Int.tdiv_eq_ediv_of_nonneg (by omega),d1]
 have e3 : Int.tdiv a K = q:=by rw [Int.tdiv_eq_ediv_of_nonneg h0,hq]
 have e4 : Int.tmod q ((i : Int) + 1) = p:=by rw [Int.tmod_eq_emod_of_nonneg q0,hpp]
 have e5 : Int.tdiv q ((i : Int) + 1) = t:=by rw [Int.tdiv_eq_ediv_of_nonneg q0,ht]
 have e6 : Int.tmod t 2 = t % 2:=Int.tmod_eq_emod_of_nonneg t0
 obtain ⟨r0,r1⟩:=place_range (n:=i) (r:=t) p0 (by omega)
 have hs : sjt (i + 1) q = ins (sjt i t) (place i t p).toNat ((i : Int) + 1):=by rw [← hpp,← ht];rfl
 refine⟨_,_,K,q,t,p,(place i t p).toNat,rfl,rfl,by rw [d1,hq],by have e:=Int.ediv_ediv (x:=a) (y:=K) (z:=(i : Int) + 1);rw [if_neg (by omega),Int.sub_zero] at e;rw [d2,← e,hq,ht],⟨beq_eq_false_iff_ne.2 (by omega),eq_false (by omega),e2,w64 (by omega) (by omega)⟩,⟨beq_eq_false_iff_ne.2 (by omega),eq_false (by omega),e3,w64 (by omega) (by omega)⟩,⟨e4,e5,w64 (by omega) (by omega)⟩,by omega,?_,w64 (by omega) (by omega),hs⟩
 rw [e6]
 unfold place at r0 r1 ⊢
 by_cases c : t % 2 = 0
 ·rw [if_pos c] at r0 r1 ⊢
  exact .inl ⟨beq_iff_eq.2 c,by omega⟩
 rw [if_neg c] at r0 r1 ⊢
 exact .inr ⟨beq_eq_false_iff_ne.2 c,by omega⟩
end Go.Proofs.Ytbfhlaggllofdaa.T

namespace Go.Proofs.Ytbfhlaggllofdaa.S
open Go.Proofs.Ytbfhlaggllofdaa.Lib
open Go.Maps (Keyed)
open Go.RowKit Go.Proofs.YtbfhlaggllofdaaW.PrintWords Go.Proofs.YtbfhlaggllofdaaW.PrintLast Go.Proofs.YtbfhlaggllofdaaW.PrintMore
attribute [local go_sem] max2_int min2_int max_two min_two max_three min_three max_four min_four
set_option linter.unusedVariables false
set_option linter.unusedSimpArgs false

open Go.Proofs.Ytbfhlaggllofdaa.G Go.Proofs.Ytbfhlaggllofdaa.T Go.Proofs.Ytbfhlaggllofdaa.P
def turns_order.f (a0 a1 : Int) : Option (List Int):=if 0≤a0∧a0≤18∧0≤a1∧a1 < fact a0.toNat then some (sjt a0.toNat a1) else none
set_option maxHeartbeats 2000000 in
set_option maxRecDepth 100000 in
theorem turns_order.calls (a0 a1 : Int) (r : List Int) (w : World) (h : turns_order.f a0 a1 = some r) :
  Calls Try.prog 65 #[.int .i64 a0,.int .i64 a1] w fun e w'=>∃ v0_ : Value,e = .returned v0_∧Kd.R (Kd.int .i64) 3 w' w.heap.size (fun _=>True) v0_ r∧Below w.heap.size w w':=by
 unfold turns_order.f at h
 by_cases c0 : 0≤a0∧a0≤18∧0≤a1∧a1 < fact a0.toNat
 rotate_left
 ·rw [if_neg c0] at h
  cases h
 rw [if_pos c0] at h
 injection h with h
 obtain ⟨n,rfl⟩ : ∃ n : Nat,a0 = n:=⟨a0.toNat,by omega⟩
 rw [show((n : Int)).toNat = n by omega] at c0 h
 have HN:=Aside0.mk (show n≤18 by omega)
 have HA:=Aside0.mk c0.2.2
 have HR:=Aside0.mk h
 have n0:=eq_true (show(0 : Int) ≤(n : Int) by omega)
 have n1:=eq_true (show(n : Int) < 19 by omega)
 clear c0 h
 have hi76 :(Try.prog.info? 76).map (·.size) = some (facA 19).size:=by rw [facA_end];kernel_rfl
 go_enter Try.func65,Try.ntmps65
 go_upto_region 2 with (fail)
 refine wp_region_lit ?_
 refine goesL_ (some 11) rfl rfl Try.func64 (by kernel_rfl) rfl #[] rfl (by simp) ?_
 refine(fac_new _).mono ?_
 rintro e w1 ⟨rfl,hb⟩
 refine⟨_,rfl,?_⟩
 have HB1:=Aside0.mk hb
 clear hb
 refine wpList_plain rfl (fun K hK=>?_)
 go_simp
 refine hK _ _ ?_
 clear hK
 refine wpList_store_row rfl 76 (.tmp 6) (.tmp 11) rfl w1.heap.size (facA 19) rfl rfl 76 #[.int .i64 0,.int .i64 0,.int .i64 0,.int .i64 0,.int .i64 0,.int .i64 0,.int .i64 0,.int .i64 0,.int .i64 0,.int .i64 0,.int .i64 0,.int .i64 0,.int .i64 0,.int .i64 0,.int .i64 0,.int .i64 0,.int .i64 0,.int .i64 0,.int .i64 0] (heap_alloc_new _ _) hi76 rfl (by rw [facA_end];kernel_rfl) ?_
 obtain ⟨W0,hW0⟩ : ∃ W0,(w1.alloc (.cells #[.int .i64 0,.int .i64 0,.int .i64 0,.int .i64 0,.int .i64 0,.int .i64 0,.int .i64 0,.int .i64 0,.int .i64 0,.int .i64 0,.int .i64 0,.int .i64 0,.int .i64 0,.int .i64 0,.int .i64 0,.int .i64 0,.int .i64 0,.int .i64 0,.int .i64 0] 76)).setRow w1.heap.size (facA 19) = W0:=⟨_,rfl⟩
 have HF:=Aside0.mk (show W0.heap[w1.heap.size]? = some (.cells (facA 19) 76 (0,0)) by rw [← hW0];exact setRow_heap _ _ _ _ _ _ (heap_alloc_new _ _))
 have HB0:=Aside0.mk (show Below w.heap.size w W0 by rw [← hW0];exact below_setRow (bwA HB1.out _) HB1.out.size _)
 have HSZ:=Aside0.mk (show w1.heap.size + 1≤W0.heap.size by have:=(Array.getElem?_eq_some_iff.1 HF.out).1;omega)
 rw [hW0]
 clear hW0 hi76
 refine wpList_nil ?_
 obtain ⟨B,hB⟩ : ∃ B,w1.heap.size = B:=⟨_,rfl⟩
 rw [hB] at HF HSZ ⊢
 have HBW:=Aside0.mk (show w.heap.size≤B by rw [← hB];exact HB1.out.size)
 clear hB HB1
 obtain ⟨N0,hN0⟩ : ∃ N0,B + 1 = N0:=⟨_,rfl⟩
 have HNS:=Aside0.mk (show N0≤W0.heap.size by rw [← hN0];exact HSZ.out)
 have HNB0:=Aside0.mk (show B < N0 by omega)
 clear hN0
 go_wp2
 go_loopw [5,13] (fun v5 v13 wr=>∃ (i : Nat) (t : Int),v13 = .int .i64 (i : Int)∧Aside0 (i≤n)∧Aside0 (a1 / (fact n / fact i) = t)∧Aside0 (wr.ownsRow N0 3 1 v5 i ((sjt i t).map (Value.int .i64)))∧Aside0 (Below N0 W0 wr)) (fun v5 v13 _=>n - (intOf v13).toNat)
 case atStart=>exact⟨0,_,rfl,⟨Nat.zero_le _⟩,⟨rfl⟩,⟨World.ownsRow_nil _ _ _ _⟩,⟨Below.refl _ _⟩⟩
 obtain ⟨i,t0,rfl,HI,HT,HO,HB⟩:=hrel
 by_cases c : i < n
 rotate_left
 ·obtain rfl : i = n := by have := HI.out; omega
  have cb : decide ((i : Int) < (i : Int)) = false:=decide_eq_false (by omega)
  have cb1 : decide (i < i) = false:=decide_eq_false (by omega)
  have hp:=fact_pos i
  have ht : t0 = a1:=by rw [← HT.out,Int.ediv_self (by omega),Int.ediv_one]
  have hr : sjt i t0 = r:=by rw [ht];exact HR.out
  subst hr
  have HO' : Aside0 (wr.ownsRow N0 3 1 u5 (sjt i t0).length ((sjt i t0).map (Value.int .i64))):=⟨by rw [sjt_len];exact HO.out⟩
  clear c hp ht HR HT HO
  go_wp2
  go_ret
  exact⟨_,rfl,Kd.R_lower (Kd.R_of_own HO'.out (fun k e=>trivial)) (Nat.le_trans HBW.out (Nat.le_of_lt HNB0.out)),HB0.out.trans (HB.out.mono (Nat.le_trans HBW.out (Nat.le_of_lt HNB0.out)))⟩
 have hn:=HN.out
 have cb : decide ((i : Int) < (n : Int)) = true:=decide_eq_true (by omega)
 have cb1 : decide (i < n) = true:=decide_eq_true c
 have i0:=eq_true (show(0 : Int) ≤(i : Int) + 1 by omega)
 have i1:=eq_true (show(i : Int) + 1 < 19 by omega)
 have i2 :((i : Int) + 1 == 0) = false:=beq_eq_false_iff_ne.2 (by omega)
 have i3:=eq_false (show ¬ ((i : Int) + 1 = 0) by omega)
 have wi : wrap64 ((i : Int) + 1) =(i : Int) + 1:=w64 (by omega) (by omega)
 have HMS:=Aside0.mk (show n - (intOf (.int .i64 ((i : Int) + 1))).toNat < n - (intOf (.int .i64 (i : Int))).toNat by show n - ((i : Int) + 1).toNat < n - ((i : Int)).toNat;omega)
 have HN18:=Aside0.mk (show i≤100 by omega)
 have HI1:=Aside0.mk (show i + 1≤n by omega)
 obtain ⟨F,M,D,q,t,p,u,eF,eM,eq,et,⟨f0,f1,f2,f3⟩,⟨g0,g1,g2,g3⟩,⟨k1,k2,k3⟩,hu,hpar,wu,hs⟩:=order_step HN.out c HA.out.1 HA.out.2
 obtain rfl : t = t0:=et.symm.trans HT.out
 have HU:=Aside0.mk hu
 have HS:=Aside0.mk hs
 have HQ:=Aside0.mk eq
 have lf : wr.cell? ⟨B,n,none⟩ = some (.int .i64 F):=by
  rw [HB.out.cell (p:=⟨B,n,none⟩) HNB0.out]
  exact(bkC HF.out n).trans ((facA_get (by omega)).trans (by rw [eF]))
 have lm : wr.cell? ⟨B,i + 1,none⟩ = some (.int .i64 M):=by
  rw [HB.out.cell (p:=⟨B,i + 1,none⟩) HNB0.out]
  exact(bkC HF.out (i + 1)).trans ((facA_get (by omega)).trans (by rw [eM]))
 clear hn hu hs eq et HT eF eM c HI
 rcases hpar with ⟨z1,z2⟩ |⟨z1,z2⟩
 ·have wz : wrap64 ((i : Int) - p) = (u : Int) := by rw [z2]; exact wu
  clear z2
  go_wp2
  refine start_ (n:=10) (S:=fun W'=>W'.cell? ⟨B,n,none⟩ = some (.int .i64 F)∧W'.cell? ⟨B,i + 1,none⟩ = some (.int .i64 M)) (ds:=[]) #[false,false,false,false,false,false,false,false,false,false] (by kernel_rfl) rfl rfl ⟨lf,lm⟩ (fun hHeld=>?_)
  first
  |(refine px_ (i:=0) (N:=some 18) (v:=?_) (a':=?_) #[true,false,false,false,false,false,false,false,false,false] rfl rfl (by kernel_rfl) (fun _ _ _ h=>h) ?_ ?_ ?_;rotate_left 2;(focus refine Or.inl ⟨by rfl,?_⟩;intro w';go_simp;with_reducible rfl);(focus simp only [List.getElem_toArray,List.getElem_cons_succ,List.getElem_cons_zero,Act.put,List.setIfInBounds_toArray,List.set_cons_zero,List.set_cons_succ,i64_w,i32_w];rfl))
  |(refine tx_ (i:=0) (N:=some 18) (v:=?_) (a':=?_) #[true,false,false,false,false,false,false,false,false,false] rfl rfl (by kernel_rfl) (fun _ _ _ h=>h) ?_ hHeld ?_ ?_;rotate_left 2;(focus refine Or.inl ⟨by rfl,?_⟩;rintro w' ⟨s0,s1⟩;go_simp;with_reducible rfl);(focus simp only [List.getElem_toArray,List.getElem_cons_succ,List.getElem_cons_zero,Act.put,List.setIfInBounds_toArray,List.set_cons_zero,List.set_cons_succ,i64_w,i32_w];rfl))
  first
  |(refine px_ (i:=1) (N:=some 19) (v:=?_) (a':=?_) #[true,true,false,false,false,false,false,false,false,false] rfl rfl (by kernel_rfl) (fun _ _ _ h=>h) ?_ ?_ ?_;rotate_left 2;(focus refine Or.inl ⟨by rfl,?_⟩;intro w';go_simp;with_reducible rfl);(focus simp only [List.getElem_toArray,List.getElem_cons_succ,List.getElem_cons_zero,Act.put,List.setIfInBounds_toArray,List.set_cons_zero,List.set_cons_succ,i64_w,i32_w];rfl))
  |(refine tx_ (i:=1) (N:=some 19) (v:=?_) (a':=?_) #[true,true,false,false,false,false,false,false,false,false] rfl rfl (by kernel_rfl) (fun _ _ _ h=>h) ?_ hHeld ?_ ?_;rotate_left 2;(focus refine Or.inl ⟨by rfl,?_⟩;rintro w' ⟨s0,s1⟩;go_simp;with_reducible rfl);(focus simp only [List.getElem_toArray,List.getElem_cons_succ,List.getElem_cons_zero,Act.put,List.setIfInBounds_toArray,List.set_cons_zero,List.set_cons_succ,i64_w,i32_w];rfl))
  first
  |(refine px_ (i:=2) (N:=some 20) (v:=?_) (a':=?_) #[true,true,true,false,false,false,false,false,false,false] rfl rfl (by kernel_rfl) (fun _ _ _ h=>h) ?_ ?_ ?_;rotate_left 2;(focus refine Or.inl ⟨by rfl,?_⟩;intro w';go_simp;with_reducible rfl);(focus simp only [List.getElem_toArray,List.getElem_cons_succ,List.getElem_cons_zero,Act.put,List.setIfInBounds_toArray,List.set_cons_zero,List.set_cons_succ,i64_w,i32_w];rfl))
  |(refine tx_ (i:=2) (N:=some 20) (v:=?_) (a':=?_) #[true,true,true,false,false,false,false,false,false,false] rfl rfl (by kernel_rfl) (fun _ _ _ h=>h) ?_ hHeld ?_ ?_;rotate_left 2;(focus refine Or.inl ⟨by rfl,?_⟩;rintro w' ⟨s0,s1⟩;go_simp;with_reducible rfl);(focus simp only [List.getElem_toArray,List.getElem_cons_succ,List.getElem_cons_zero,Act.put,List.setIfInBounds_toArray,List.set_cons_zero,List.set_cons_succ,i64_w,i32_w];rfl))
  first
  |(refine px_ (i:=3) (N:=some 21) (v:=?_) (a':=?_) #[true,true,true,true,false,false,false,false,false,false] rfl rfl (by kernel_rfl) (fun _ _ _ h=>h) ?_ ?_ ?_;rotate_left 2;(focus refine Or.inl ⟨by rfl,?_⟩;intro w';go_simp;with_reducible rfl);(focus simp only [List.getElem_toArray,List.getElem_cons_succ,List.getElem_cons_zero,Act.put,List.setIfInBounds_toArray,List.set_cons_zero,List.set_cons_succ,i64_w,i32_w];rfl))
  |(refine tx_ (i:=3) (N:=some 21) (v:=?_) (a':=?_) #[true,true,true,true,false,false,false,false,false,false] rfl rfl (by kernel_rfl) (fun _ _ _ h=>h) ?_ hHeld ?_ ?_;rotate_left 2;(focus refine Or.inl ⟨by rfl,?_⟩;rintro w' ⟨s0,s1⟩;go_simp;with_reducible rfl);(focus simp only [List.getElem_toArray,List.getElem_cons_succ,List.getElem_cons_zero,Act.put,List.setIfInBounds_toArray,List.set_cons_zero,List.set_cons_succ,i64_w,i32_w];rfl))
  first
  |(refine px_ (i:=4) (N:=some 22) (v:=?_) (a':=?_) #[true,true,true,true,true,false,false,false,false,false] rfl rfl (by kernel_rfl) (fun _ _ _ h=>h) ?_ ?_ ?_;rotate_left 2;(focus refine Or.inl ⟨by rfl,?_⟩;intro w';go_simp;with_reducible rfl);(focus simp only [List.getElem_toArray,List.getElem_cons_succ,List.getElem_cons_zero,Act.put,List.setIfInBounds_toArray,List.set_cons_zero,List.set_cons_succ,i64_w,i32_w];rfl))
  |(refine tx_ (i:=4) (N:=some 22) (v:=?_) (a':=?_) #[true,true,true,true,true,false,false,false,false,false] rfl rfl (by kernel_rfl) (fun _ _ _ h=>h) ?_ hHeld ?_ ?_;rotate_left 2;(focus refine Or.inl ⟨by rfl,?_⟩;rintro w' ⟨s0,s1⟩;go_simp;with_reducible rfl);(focus simp only [List.getElem_toArray,List.getElem_cons_succ,List.getElem_cons_zero,Act.put,List.setIfInBounds_toArray,List.set_cons_zero,List.set_cons_succ,i64_w,i32_w];rfl))
  first
  |(refine px_ (i:=5) (N:=some 23) (v:=?_) (a':=?_) #[true,true,true,true,true,true,false,false,false,false] rfl rfl (by kernel_rfl) (fun _ _ _ h=>h) ?_ ?_ ?_;rotate_left 2;(focus refine Or.inl ⟨by rfl,?_⟩;intro w';go_simp;with_reducible rfl);(focus simp only [List.getElem_toArray,List.getElem_cons_succ,List.getElem_cons_zero,Act.put,List.setIfInBounds_toArray,List.set_cons_zero,List.set_cons_succ,i64_w,i32_w];rfl))
  |(refine tx_ (i:=5) (N:=some 23) (v:=?_) (a':=?_) #[true,true,true,true,true,true,false,false,false,false] rfl rfl (by kernel_rfl) (fun _ _ _ h=>h) ?_ hHeld ?_ ?_;rotate_left 2;(focus refine Or.inl ⟨by rfl,?_⟩;rintro w' ⟨s0,s1⟩;go_simp;with_reducible rfl);(focus simp only [List.getElem_toArray,List.getElem_cons_succ,List.getElem_cons_zero,Act.put,List.setIfInBounds_toArray,List.set_cons_zero,List.set_cons_succ,i64_w,i32_w];rfl))
  first
  |(refine px_ (i:=6) (N:=some 24) (v:=?_) (a':=?_) #[true,true,true,true,true,true,true,false,false,false] rfl rfl (by kernel_rfl) (fun _ _ _ h=>h) ?_ ?_ ?_;rotate_left 2;(focus refine Or.inl ⟨by rfl,?_⟩;intro w';go_simp;with_reducible rfl);(focus simp only [List.getElem_toArray,List.getElem_cons_succ,List.getElem_cons_zero,Act.put,List.setIfInBounds_toArray,List.set_cons_zero,List.set_cons_succ,i64_w,i32_w];rfl))
  |(refine tx_ (i:=6) (N:=some 24) (v:=?_) (a':=?_) #[true,true,true,true,true,true,true,false,false,false] rfl rfl (by kernel_rfl) (fun _ _ _ h=>h) ?_ hHeld ?_ ?_;rotate_left 2;(focus refine Or.inl ⟨by rfl,?_⟩;rintro w' ⟨s0,s1⟩;go_simp;with_reducible rfl);(focus simp only [List.getElem_toArray,List.getElem_cons_succ,List.getElem_cons_zero,Act.put,List.setIfInBounds_toArray,List.set_cons_zero,List.set_cons_succ,i64_w,i32_w];rfl))
  first
  |(refine px_ (i:=7) (N:=some 25) (v:=?_) (a':=?_) #[true,true,true,true,true,true,true,true,false,false] rfl rfl (by kernel_rfl) (fun _ _ _ h=>h) ?_ ?_ ?_;rotate_left 2;(focus refine Or.inl ⟨by rfl,?_⟩;intro w';go_simp;with_reducible rfl);(focus simp only [List.getElem_toArray,List.getElem_cons_succ,List.getElem_cons_zero,Act.put,List.setIfInBounds_toArray,List.set_cons_zero,List.set_cons_succ,i64_w,i32_w];rfl))
  |(refine tx_ (i:=7) (N:=some 25) (v:=?_) (a':=?_) #[true,true,true,true,true,true,true,true,false,false] rfl rfl (by kernel_rfl) (fun _ _ _ h=>h) ?_ hHeld ?_ ?_;rotate_left 2;(focus refine Or.inl ⟨by rfl,?_⟩;rintro w' ⟨s0,s1⟩;go_simp;with_reducible rfl);(focus simp only [List.getElem_toArray,List.getElem_cons_succ,List.getElem_cons_zero,Act.put,List.setIfInBounds_toArray,List.set_cons_zero,List.set_cons_succ,i64_w,i32_w];rfl))
  first
  |(refine px_ (i:=8) (N:=some 26) (v:=?_) (a':=?_) #[true,true,true,true,true,true,true,true,true,false] rfl rfl (by kernel_rfl) (fun _ _ _ h=>h) ?_ ?_ ?_;rotate_left 2;(focus refine Or.inl ⟨by rfl,?_⟩;intro w';go_simp;with_reducible rfl);(focus simp only [List.getElem_toArray,List.getElem_cons_succ,List.getElem_cons_zero,Act.put,List.setIfInBounds_toArray,List.set_cons_zero,List.set_cons_succ,i64_w,i32_w];rfl))
  |(refine tx_ (i:=8) (N:=some 26) (v:=?_) (a':=?_) #[true,true,true,true,true,true,true,true,true,false] rfl rfl (by kernel_rfl) (fun _ _ _ h=>h) ?_ hHeld ?_ ?_;rotate_left 2;(focus refine Or.inl ⟨by rfl,?_⟩;rintro w' ⟨s0,s1⟩;go_simp;with_reducible rfl);(focus simp only [List.getElem_toArray,List.getElem_cons_succ,List.getElem_cons_zero,Act.put,List.setIfInBounds_toArray,List.set_cons_zero,List.set_cons_succ,i64_w,i32_w];rfl))
  first
  |(refine px_ (i:=9) (N:=some 9) (v:=?_) (a':=?_) #[true,true,true,true,true,true,true,true,true,true] rfl rfl (by kernel_rfl) (fun _ _ _ h=>h) ?_ ?_ ?_;rotate_left 2;(focus refine Or.inl ⟨by rfl,?_⟩;intro w';go_simp;with_reducible rfl);(focus simp only [List.getElem_toArray,List.getElem_cons_succ,List.getElem_cons_zero,Act.put,List.setIfInBounds_toArray,List.set_cons_zero,List.set_cons_succ,i64_w,i32_w];rfl))
  |(refine tx_ (i:=9) (N:=some 9) (v:=?_) (a':=?_) #[true,true,true,true,true,true,true,true,true,true] rfl rfl (by kernel_rfl) (fun _ _ _ h=>h) ?_ hHeld ?_ ?_;rotate_left 2;(focus refine Or.inl ⟨by rfl,?_⟩;rintro w' ⟨s0,s1⟩;go_simp;with_reducible rfl);(focus simp only [List.getElem_toArray,List.getElem_cons_succ,List.getElem_cons_zero,Act.put,List.setIfInBounds_toArray,List.set_cons_zero,List.set_cons_succ,i64_w,i32_w];rfl))
  refine done_ (by kernel_rfl) ?_
  clear hHeld lf lm
  obtain ⟨WR,hWR⟩ : ∃ W,W = wr.drew:=⟨_,rfl⟩
  have HNB : Aside0 (N0≤WR.heap.size):=⟨by rw [hWR];exact Nat.le_trans HNS.out HB.out.size⟩
  have HBR : Aside0 (Below N0 W0 WR):=⟨by rw [hWR];exact HB.out.drew⟩
  replace HO : Aside0 (WR.ownsRow N0 3 1 u5 i ((sjt i t).map (Value.int .i64))):=⟨by rw [hWR];exact HO.out⟩
  rw [← hWR]
  clear hWR HB
  go_wp2_with (go_at_call 73;go_must (refine(insert_own (W:=WR) HO.out HNB.out HN18.out HU.out ((i : Int) + 1)).mono ?_;rintro e wx ⟨v',rfl,ho,hb⟩;have HO1:=Aside0.mk ho;have HB2:=Aside0.mk hb;clear ho hb))
  go_roundw
  case rel=>exact⟨i + 1,q,by simp [wi],HI1,HQ,⟨by rw [HS.out];exact HO1.out⟩,⟨HBR.out.trans HB2.out⟩⟩
  case measure=>(first | exact HMS.out |(rw [wi];exact HMS.out) |(simp only [wi];exact HMS.out))
     
 subst z2
 go_wp2
 refine start_ (n:=10) (S:=fun W'=>W'.cell? ⟨B,n,none⟩ = some (.int .i64 F)∧W'.cell? ⟨B,i + 1,none⟩ = some (.int .i64 M)) (ds:=[]) #[false,false,false,false,false,false,false,false,false,false] (by kernel_rfl) rfl rfl ⟨lf,lm⟩ (fun hHeld=>?_)
 first
 |(refine px_ (i:=0) (N:=some 18) (v:=?_) (a':=?_) #[true,false,false,false,false,false,false,false,false,false] rfl rfl (by kernel_rfl) (fun _ _ _ h=>h) ?_ ?_ ?_;rotate_left 2;(focus refine Or.inl ⟨by rfl,?_⟩;intro w';go_simp;with_reducible rfl);(focus simp only [List.getElem_toArray,List.getElem_cons_succ,List.getElem_cons_zero,Act.put,List.setIfInBounds_toArray,List.set_cons_zero,List.set_cons_succ,i64_w,i32_w];rfl))
 |(refine tx_ (i:=0) (N:=some 18) (v:=?_) (a':=?_) #[true,false,false,false,false,false,false,false,false,false] rfl rfl (by kernel_rfl) (fun _ _ _ h=>h) ?_ hHeld ?_ ?_;rotate_left 2;(focus refine Or.inl ⟨by rfl,?_⟩;rintro w' ⟨s0,s1⟩;go_simp;with_reducible rfl);(focus simp only [List.getElem_toArray,List.getElem_cons_succ,List.getElem_cons_zero,Act.put,List.setIfInBounds_toArray,List.set_cons_zero,List.set_cons_succ,i64_w,i32_w];rfl))
 first
 |(refine px_ (i:=1) (N:=some 19) (v:=?_) (a':=?_) #[true,true,false,false,false,false,false,false,false,false] rfl rfl (by kernel_rfl) (fun _ _ _ h=>h) ?_ ?_ ?_;rotate_left 2;(focus refine Or.inl ⟨by rfl,?_⟩;intro w';go_simp;with_reducible rfl);(focus simp only [List.getElem_toArray,List.getElem_cons_succ,List.getElem_cons_zero,Act.put,List.setIfInBounds_toArray,List.set_cons_zero,List.set_cons_succ,i64_w,i32_w];rfl))
 |(refine tx_ (i:=1) (N:=some 19) (v:=?_) (a':=?_) #[true,true,false,false,false,false,false,false,false,false] rfl rfl (by kernel_rfl) (fun _ _ _ h=>h) ?_ hHeld ?_ ?_;rotate_left 2;(focus refine Or.inl ⟨by rfl,?_⟩;rintro w' ⟨s0,s1⟩;go_simp;with_reducible rfl);(focus simp only [List.getElem_toArray,List.getElem_cons_succ,List.getElem_cons_zero,Act.put,List.setIfInBounds_toArray,List.set_cons_zero,List.set_cons_succ,i64_w,i32_w];rfl))
 first
 |(refine px_ (i:=2) (N:=some 20) (v:=?_) (a':=?_) #[true,true,true,false,false,false,false,false,false,false] rfl rfl (by kernel_rfl) (fun _ _ _ h=>h) ?_ ?_ ?_;rotate_left 2;(focus refine Or.inl ⟨by rfl,?_⟩;intro w';go_simp;with_reducible rfl);(focus simp only [List.getElem_toArray,List.getElem_cons_succ,List.getElem_cons_zero,Act.put,List.setIfInBounds_toArray,List.set_cons_zero,List.set_cons_succ,i64_w,i32_w];rfl))
 |(refine tx_ (i:=2) (N:=some 20) (v:=?_) (a':=?_) #[true,true,true,false,false,false,false,false,false,false] rfl rfl (by kernel_rfl) (fun _ _ _ h=>h) ?_ hHeld ?_ ?_;rotate_left 2;(focus refine Or.inl ⟨by rfl,?_⟩;rintro w' ⟨s0,s1⟩;go_simp;with_reducible rfl);(focus simp only [List.getElem_toArray,List.getElem_cons_succ,List.getElem_cons_zero,Act.put,List.setIfInBounds_toArray,List.set_cons_zero,List.set_cons_succ,i64_w,i32_w];rfl))
 first
 |(refine px_ (i:=3) (N:=some 21) (v:=?_) (a':=?_) #[true,true,true,true,false,false,false,false,false,false] rfl rfl (by kernel_rfl) (fun _ _ _ h=>h) ?_ ?_ ?_;rotate_left 2;(focus refine Or.inl ⟨by rfl,?_⟩;intro w';go_simp;with_reducible rfl);(focus simp only [List.getElem_toArray,List.getElem_cons_succ,List.getElem_cons_zero,Act.put,List.setIfInBounds_toArray,List.set_cons_zero,List.set_cons_succ,i64_w,i32_w];rfl))
 |(refine tx_ (i:=3) (N:=some 21) (v:=?_) (a':=?_) #[true,true,true,true,false,false,false,false,false,false] rfl rfl (by kernel_rfl) (fun _ _ _ h=>h) ?_ hHeld ?_ ?_;rotate_left 2;(focus refine Or.inl ⟨by rfl,?_⟩;rintro w' ⟨s0,s1⟩;go_simp;with_reducible rfl);(focus simp only [List.getElem_toArray,List.getElem_cons_succ,List.getElem_cons_zero,Act.put,List.setIfInBounds_toArray,List.set_cons_zero,List.set_cons_succ,i64_w,i32_w];rfl))
 first
 |(refine px_ (i:=4) (N:=some 22) (v:=?_) (a':=?_) #[true,true,true,true,true,false,false,false,false,false] rfl rfl (by kernel_rfl) (fun _ _ _ h=>h) ?_ ?_ ?_;rotate_left 2;(focus refine Or.inl ⟨by rfl,?_⟩;intro w';go_simp;with_reducible rfl);(focus simp only [List.getElem_toArray,List.getElem_cons_succ,List.getElem_cons_zero,Act.put,List.setIfInBounds_toArray,List.set_cons_zero,List.set_cons_succ,i64_w,i32_w];rfl))
 |(refine tx_ (i:=4) (N:=some 22) (v:=?_) (a':=?_) #[true,true,true,true,true,false,false,false,false,false] rfl rfl (by kernel_rfl) (fun _ _ _ h=>h) ?_ hHeld ?_ ?_;rotate_left 2;(focus refine Or.inl ⟨by rfl,?_⟩;rintro w' ⟨s0,s1⟩;go_simp;with_reducible rfl);(focus simp only [List.getElem_toArray,List.getElem_cons_succ,List.getElem_cons_zero,Act.put,List.setIfInBounds_toArray,List.set_cons_zero,List.set_cons_succ,i64_w,i32_w];rfl))
 first
 |(refine px_ (i:=5) (N:=some 23) (v:=?_) (a':=?_) #[true,true,true,true,true,true,false,false,false,false] rfl rfl (by kernel_rfl) (fun _ _ _ h=>h) ?_ ?_ ?_;rotate_left 2;(focus refine Or.inl ⟨by rfl,?_⟩;intro w';go_simp;with_reducible rfl);(focus simp only [List.getElem_toArray,List.getElem_cons_succ,List.getElem_cons_zero,Act.put,List.setIfInBounds_toArray,List.set_cons_zero,List.set_cons_succ,i64_w,i32_w];rfl))
 |(refine tx_ (i:=5) (N:=some 23) (v:=?_) (a':=?_) #[true,true,true,true,true,true,false,false,false,false] rfl rfl (by kernel_rfl) (fun _ _ _ h=>h) ?_ hHeld ?_ ?_;rotate_left 2;(focus refine Or.inl ⟨by rfl,?_⟩;rintro w' ⟨s0,s1⟩;go_simp;with_reducible rfl);(focus simp only [List.getElem_toArray,List.getElem_cons_succ,List.getElem_cons_zero,Act.put,List.setIfInBounds_toArray,List.set_cons_zero,List.set_cons_succ,i64_w,i32_w];rfl))
 first
 |(refine px_ (i:=6) (N:=some 24) (v:=?_) (a':=?_) #[true,true,true,true,true,true,true,false,false,false] rfl rfl (by kernel_rfl) (fun _ _ _ h=>h) ?_ ?_ ?_;rotate_left 2;(focus refine Or.inl ⟨by rfl,?_⟩;intro w';go_simp;with_reducible rfl);(focus simp only [List.getElem_toArray,List.getElem_cons_succ,List.getElem_cons_zero,Act.put,List.setIfInBounds_toArray,List.set_cons_zero,List.set_cons_succ,i64_w,i32_w];rfl))
 |(refine tx_ (i:=6) (N:=some 24) (v:=?_) (a':=?_) #[true,true,true,true,true,true,true,false,false,false] rfl rfl (by kernel_rfl) (fun _ _ _ h=>h) ?_ hHeld ?_ ?_;rotate_left 2;(focus refine Or.inl ⟨by rfl,?_⟩;rintro w' ⟨s0,s1⟩;go_simp;with_reducible rfl);(focus simp only [List.getElem_toArray,List.getElem_cons_succ,List.getElem_cons_zero,Act.put,List.setIfInBounds_toArray,List.set_cons_zero,List.set_cons_succ,i64_w,i32_w];rfl))
 first
 |(refine px_ (i:=7) (N:=some 25) (v:=?_) (a':=?_) #[true,true,true,true,true,true,true,true,false,false] rfl rfl (by kernel_rfl) (fun _ _ _ h=>h) ?_ ?_ ?_;rotate_left 2;(focus refine Or.inl ⟨by rfl,?_⟩;intro w';go_simp;with_reducible rfl);(focus simp only [List.getElem_toArray,List.getElem_cons_succ,List.getElem_cons_zero,Act.put,List.setIfInBounds_toArray,List.set_cons_zero,List.set_cons_succ,i64_w,i32_w];rfl))
 |(refine tx_ (i:=7) (N:=some 25) (v:=?_) (a':=?_) #[true,true,true,true,true,true,true,true,false,false] rfl rfl (by kernel_rfl) (fun _ _ _ h=>h) ?_ hHeld ?_ ?_;rotate_left 2;(focus refine Or.inl ⟨by rfl,?_⟩;rintro w' ⟨s0,s1⟩;go_simp;with_reducible rfl);(focus simp only [List.getElem_toArray,List.getElem_cons_succ,List.getElem_cons_zero,Act.put,List.setIfInBounds_toArray,List.set_cons_zero,List.set_cons_succ,i64_w,i32_w];rfl))
 first
 |(refine px_ (i:=8) (N:=some 26) (v:=?_) (a':=?_) #[true,true,true,true,true,true,true,true,true,false] rfl rfl (by kernel_rfl) (fun _ _ _ h=>h) ?_ ?_ ?_;rotate_left 2;(focus refine Or.inl ⟨by rfl,?_⟩;intro w';go_simp;with_reducible rfl);(focus simp only [List.getElem_toArray,List.getElem_cons_succ,List.getElem_cons_zero,Act.put,List.setIfInBounds_toArray,List.set_cons_zero,List.set_cons_succ,i64_w,i32_w];rfl))
 |(refine tx_ (i:=8) (N:=some 26) (v:=?_) (a':=?_) #[true,true,true,true,true,true,true,true,true,false] rfl rfl (by kernel_rfl) (fun _ _ _ h=>h) ?_ hHeld ?_ ?_;rotate_left 2;(focus refine Or.inl ⟨by rfl,?_⟩;rintro w' ⟨s0,s1⟩;go_simp;with_reducible rfl);(focus simp only [List.getElem_toArray,List.getElem_cons_succ,List.getElem_cons_zero,Act.put,List.setIfInBounds_toArray,List.set_cons_zero,List.set_cons_succ,i64_w,i32_w];rfl))
 first
 |(refine px_ (i:=9) (N:=some 9) (v:=?_) (a':=?_) #[true,true,true,true,true,true,true,true,true,true] rfl rfl (by kernel_rfl) (fun _ _ _ h=>h) ?_ ?_ ?_;rotate_left 2;(focus refine Or.inl ⟨by rfl,?_⟩;intro w';go_simp;with_reducible rfl);(focus simp only [List.getElem_toArray,List.getElem_cons_succ,List.getElem_cons_zero,Act.put,List.setIfInBounds_toArray,List.set_cons_zero,List.set_cons_succ,i64_w,i32_w];rfl))
 |(refine tx_ (i:=9) (N:=some 9) (v:=?_) (a':=?_) #[true,true,true,true,true,true,true,true,true,true] rfl rfl (by kernel_rfl) (fun _ _ _ h=>h) ?_ hHeld ?_ ?_;rotate_left 2;(focus refine Or.inl ⟨by rfl,?_⟩;rintro w' ⟨s0,s1⟩;go_simp;with_reducible rfl);(focus simp only [List.getElem_toArray,List.getElem_cons_succ,List.getElem_cons_zero,Act.put,List.setIfInBounds_toArray,List.set_cons_zero,List.set_cons_succ,i64_w,i32_w];rfl))
 refine done_ (by kernel_rfl) ?_
 clear hHeld lf lm
 obtain ⟨WR,hWR⟩ : ∃ W,W = wr.drew:=⟨_,rfl⟩
 have HNB : Aside0 (N0≤WR.heap.size):=⟨by rw [hWR];exact Nat.le_trans HNS.out HB.out.size⟩
 have HBR : Aside0 (Below N0 W0 WR):=⟨by rw [hWR];exact HB.out.drew⟩
 replace HO : Aside0 (WR.ownsRow N0 3 1 u5 i ((sjt i t).map (Value.int .i64))):=⟨by rw [hWR];exact HO.out⟩
 rw [← hWR]
 clear hWR HB
 go_wp2_with (go_at_call 73;go_must (refine(insert_own (W:=WR) HO.out HNB.out HN18.out HU.out ((i : Int) + 1)).mono ?_;rintro e wx ⟨v',rfl,ho,hb⟩;have HO1:=Aside0.mk ho;have HB2:=Aside0.mk hb;clear ho hb))
 go_roundw
 case rel=>exact⟨i + 1,q,by simp [wi],HI1,HQ,⟨by rw [HS.out];exact HO1.out⟩,⟨HBR.out.trans HB2.out⟩⟩
 case measure=>(first | exact HMS.out |(rw [wi];exact HMS.out) |(simp only [wi];exact HMS.out))
     

open Go.Proofs.Ytbfhlaggllofdaa.G Go.Proofs.Ytbfhlaggllofdaa.T Go.Proofs.Ytbfhlaggllofdaa.P
def turns_Order.f (a0 a1 : Int) : Option (List Int×Int):=some (if 0≤a0∧a0≤18∧0≤a1∧a1≤fact a0.toNat - 1 then(sjt a0.toNat a1,0) else([],2))
set_option maxHeartbeats 400000 in
set_option maxRecDepth 100000 in
theorem turns_Order.calls (a0 a1 : Int) (r1 : List Int) (r2 : Int) (w : World) (h : turns_Order.f a0 a1 = some (r1, r2)) :
  Calls Try.prog 48 #[.int .i64 a0,.int .i64 a1] w fun e w'=>∃ v0_ : Value,e = .returned (.tuple #[v0_,.int .i64 r2])∧Kd.R (Kd.int .i64) 3 w' w.heap.size (fun _=>True) v0_ r1∧Below w.heap.size w w':=by
 replace h:=Option.some.inj h
 have HB:=Aside0.mk (Below.refl w.heap.size w)
 by_cases c0 : 0≤a0∧a0≤18
 rotate_left
 ·rw [if_neg (fun hh => c0 ⟨hh.1, hh.2.1⟩)] at h
  injection h with h1 h2
  subst h1;subst h2
  have hi1:=Aside0.mk (within_no c0)
  clear c0
  go_enter Try.func48,Try.ntmps48
  go_wp2_with (go_at_call 56;go_must (with_reducible refine(turns_within.calls a0 0 18 false _ hi1.out).mono ?_;rintro e w' ⟨rfl,⟨nd,rfl⟩⟩))
  go_ret2
  exact⟨_,rfl,Kd.R_nil _ _ _ _ _,by repeat(first |(with_reducible first | exact HB.out | apply bwN | apply bw1) | exact HB.out)⟩
 have hi1:=Aside0.mk (within_yes c0)
 obtain ⟨n,rfl⟩ : ∃ n : Nat,a0 = n:=⟨a0.toNat,by omega⟩
 rw [show((n : Int)).toNat = n by omega] at h
 have bf:=fact_le (n:=n) (by omega)
 have w0 : wrap64 (fact n - 1) = fact n - 1:=w64 (by omega) (by omega)
 have lx : ∀ W,Sem.run Try.prog (Instr.index 76 (.agg (facA 19)) (.int .i64 (n : Int))) W = .ok (.int .i64 (fact n)) W:=fac_index (by omega)
 by_cases c1 : 0≤a1∧a1≤fact n - 1
 rotate_left
 ·rw [if_neg (fun hh => c1 hh.2.2)] at h
  injection h with h1 h2
  subst h1;subst h2
  have hi2:=Aside0.mk (within_no c1)
  obtain ⟨F,hF⟩ : ∃ F,fact n = F:=⟨_,rfl⟩
  rw [hF] at lx w0 hi2
  clear c0 c1 bf hF
  go_enter Try.func48,Try.ntmps48
  go_wp2_with (first |(go_at_call 56;go_must (first |(with_reducible refine(turns_within.calls (n : Int) 0 18 true _ hi1.out).mono ?_;rintro e w' ⟨rfl,⟨nd,rfl⟩⟩) |(with_reducible refine(turns_within.calls a1 0 (F - 1) false _ hi2.out).mono ?_;rintro e w' ⟨rfl,⟨nd,rfl⟩⟩))) |(go_at_call 64;go_must (refine(fac_new _).mono ?_;rintro e w1 ⟨rfl,hb⟩;have HB1:=Aside0.mk (bwT (by repeat(first |(with_reducible first | exact HB.out | apply bwN) | exact HB.out)) hb);clear hb)))
  go_ret2
  exact⟨_,rfl,Kd.R_nil _ _ _ _ _,by repeat(first |(with_reducible first | exact HB1.out | apply bwN | apply bw1) | exact HB1.out)⟩
 rw [if_pos ⟨c0.1,c0.2,c1⟩] at h
 injection h with h1 h2
 subst h2
 have hi2:=Aside0.mk (within_yes c1)
 have HO:=Aside0.mk (show turns_order.f (n : Int) a1 = some r1 by unfold turns_order.f;rw [if_pos ⟨c0.1,c0.2,c1.1,by rw [show((n : Int)).toNat = n by omega];omega⟩,show((n : Int)).toNat = n by omega,h1])
 obtain ⟨F,hF⟩ : ∃ F,fact n = F:=⟨_,rfl⟩
 rw [hF] at lx w0 hi2
 clear c0 c1 bf hF h1
 go_enter Try.func48,Try.ntmps48
 go_wp2_with (first |(go_at_call 56;go_must (first |(with_reducible refine(turns_within.calls (n : Int) 0 18 true _ hi1.out).mono ?_;rintro e w' ⟨rfl,⟨nd,rfl⟩⟩) |(with_reducible refine(turns_within.calls a1 0 (F - 1) true _ hi2.out).mono ?_;rintro e w' ⟨rfl,⟨nd,rfl⟩⟩))) |(go_at_call 64;go_must (refine(fac_new _).mono ?_;rintro e w1 ⟨rfl,hb⟩;have HB1:=Aside0.mk (bwT (by repeat(first |(with_reducible first | exact HB.out | apply bwN) | exact HB.out)) hb);clear hb)) |(go_at_call 65;go_must (refine(turns_order.calls (n : Int) a1 r1 _ HO.out).mono ?_;rintro e w2 ⟨v0,rfl,ho,hb⟩;have HO1:=Aside0.mk ho;have HB2:=Aside0.mk hb;clear ho hb)))
 go_ret2
 exact⟨_,rfl,Kd.R_lower HO1.out (bwZ (by repeat(first |(with_reducible first | exact HB1.out | apply bwN | apply bw1) | exact HB1.out))),bwT (by repeat(first |(with_reducible first | exact HB1.out | apply bwN | apply bw1) | exact HB1.out)) HB2.out⟩

def w10_awake.j0 : Nat → Bool → Option (Bool)
 | 0,_=>none
 | k + 1,x77=>if x77 = true then(some false) else(some true)
def w10_awake.f (k : Nat)  : Option (Bool):=(turns_Set.f 2 2).bind fun bt128=>((turns_Choice.f 3 2 1).bind fun bt132=>((turns_Order.f 3 3).bind fun bt136=>((turns_Groupings.f 5).bind fun bt140=>((turns_Setting.f (([2,3] : List Int)) 3).bind fun bt145=>(if bt128.2 = 0 then((w10_ints.f k bt128.1 (([1,2] : List Int))).bind fun t152=>(if t152 = true then(if bt132.2 = 0 then((w10_ints.f k bt132.1 (([2,3] : List Int))).bind fun t156=>(if t156 = true then(if bt136.2 = 0 then((w10_ints.f k bt136.1 (([3,2,1] : List Int))).bind fun t160=>(if t160 = true then(if bt140.2 = 0 then(if bt140.1 = 52 then(if bt145.2 = 0 then((w10_ints.f k bt145.1 (([1,2] : List Int))).bind fun t164=>(w10_awake.j0 k (!t164))) else(w10_awake.j0 k true)) else(w10_awake.j0 k true)) else(w10_awake.j0 k true)) else(w10_awake.j0 k true))) else(w10_awake.j0 k true)) else(w10_awake.j0 k true))) else(w10_awake.j0 k true)) else(w10_awake.j0 k true))) else(w10_awake.j0 k true))))))
set_option maxHeartbeats 8000000 in
set_option maxRecDepth 100000 in
theorem w10_awake.calls (k : Nat)  (r : Bool) (w : World) (h : w10_awake.f k  = some r) :
  Calls Try.prog 20 #[] w fun e w'=>e = .returned (.bool r)∧Below w.heap.size w w':=by
 have HB:=Aside0.mk (Below.refl w.heap.size w)
 have H :((turns_Set.f 2 2).bind fun bt128=>((turns_Choice.f 3 2 1).bind fun bt132=>((turns_Order.f 3 3).bind fun bt136=>((turns_Groupings.f 5).bind fun bt140=>((turns_Setting.f (([2,3] : List Int)) 3).bind fun bt145=>(if bt128.2 = 0 then((w10_ints.f k bt128.1 (([1,2] : List Int))).bind fun t152=>(if t152 = true then(if bt132.2 = 0 then((w10_ints.f k bt132.1 (([2,3] : List Int))).bind fun t156=>(if t156 = true then(if bt136.2 = 0 then((w10_ints.f k bt136.1 (([3,2,1] : List Int))).bind fun t160=>(if t160 = true then(if bt140.2 = 0 then(if bt140.1 = 52 then(if bt145.2 = 0 then((w10_ints.f k bt145.1 (([1,2] : List Int))).bind fun t164=>(w10_awake.j0 k (!t164))) else(w10_awake.j0 k true)) else(w10_awake.j0 k true)) else(w10_awake.j0 k true)) else(w10_awake.j0 k true))) else(w10_awake.j0 k true)) else(w10_awake.j0 k true))) else(w10_awake.j0 k true)) else(w10_awake.j0 k true))) else(w10_awake.j0 k true))))))) = some r:=h
 clear h
 replace H:=Option.bind_eq_some_iff.mp H
 obtain ⟨⟨t128,t129⟩,A10,H⟩:=H
 replace H :((turns_Choice.f 3 2 1).bind fun bt132=>((turns_Order.f 3 3).bind fun bt136=>((turns_Groupings.f 5).bind fun bt140=>((turns_Setting.f (([2,3] : List Int)) 3).bind fun bt145=>(if t129 = 0 then((w10_ints.f k t128 (([1,2] : List Int))).bind fun t152=>(if t152 = true then(if bt132.2 = 0 then((w10_ints.f k bt132.1 (([2,3] : List Int))).bind fun t156=>(if t156 = true then(if bt136.2 = 0 then((w10_ints.f k bt136.1 (([3,2,1] : List Int))).bind fun t160=>(if t160 = true then(if bt140.2 = 0 then(if bt140.1 = 52 then(if bt145.2 = 0 then((w10_ints.f k bt145.1 (([1,2] : List Int))).bind fun t164=>(w10_awake.j0 k (!t164))) else(w10_awake.j0 k true)) else(w10_awake.j0 k true)) else(w10_awake.j0 k true)) else(w10_awake.j0 k true))) else(w10_awake.j0 k true)) else(w10_awake.j0 k true))) else(w10_awake.j0 k true)) else(w10_awake.j0 k true))) else(w10_awake.j0 k true)))))) = some r:=H
 have A1:=Aside0.mk A10
 clear A10
 replace H:=Option.bind_eq_some_iff.mp H
 obtain ⟨⟨t132,t133⟩,A20,H⟩:=H
 replace H :((turns_Order.f 3 3).bind fun bt136=>((turns_Groupings.f 5).bind fun bt140=>((turns_Setting.f (([2,3] : List Int)) 3).bind fun bt145=>(if t129 = 0 then((w10_ints.f k t128 (([1,2] : List Int))).bind fun t152=>(if t152 = true then(if t133 = 0 then((w10_ints.f k t132 (([2,3] : List Int))).bind fun t156=>(if t156 = true then(if bt136.2 = 0 then((w10_ints.f k bt136.1 (([3,2,1] : List Int))).bind fun t160=>(if t160 = true then(if bt140.2 = 0 then(if bt140.1 = 52 then(if bt145.2 = 0 then((w10_ints.f k bt145.1 (([1,2] : List Int))).bind fun t164=>(w10_awake.j0 k (!t164))) else(w10_awake.j0 k true)) else(w10_awake.j0 k true)) else(w10_awake.j0 k true)) else(w10_awake.j0 k true))) else(w10_awake.j0 k true)) else(w10_awake.j0 k true))) else(w10_awake.j0 k true)) else(w10_awake.j0 k true))) else(w10_awake.j0 k true))))) = some r:=H
 have A2:=Aside0.mk A20
 clear A20
 replace H:=Option.bind_eq_some_iff.mp H
 obtain ⟨⟨t136,t137⟩,A30,H⟩:=H
 replace H :((turns_Groupings.f 5).bind fun bt140=>((turns_Setting.f (([2,3] : List Int)) 3).bind fun bt145=>(if t129 = 0 then((w10_ints.f k t128 (([1,2] : List Int))).bind fun t152=>(if t152 = true then(if t133 = 0 then((w10_ints.f k t132 (([2,3] : List Int))).bind fun t156=>(if t156 = true then(if t137 = 0 then((w10_ints.f k t136 (([3,2,1] : List Int))).bind fun t160=>(if t160 = true then(if bt140.2 = 0 then(if bt140.1 = 52 then(if bt145.2 = 0 then((w10_ints.f k bt145.1 (([1,2] : List Int))).bind fun t164=>(w10_awake.j0 k (!t164))) else(w10_awake.j0 k true)) else(w10_awake.j0 k true)) else(w10_awake.j0 k true)) else(w10_awake.j0 k true))) else(w10_awake.j0 k true)) else(w10_awake.j0 k true))) else(w10_awake.j0 k true)) else(w10_awake.j0 k true))) else(w10_awake.j0 k true)))) = some r:=H
 have A3:=Aside0.mk A30
 clear A30
 replace H:=Option.bind_eq_some_iff.mp H
 obtain ⟨⟨t140,t141⟩,A40,H⟩:=H
 replace H :((turns_Setting.f (([2,3] : List Int)) 3).bind fun bt145=>(if t129 = 0 then((w10_ints.f k t128 (([1,2] : List Int))).bind fun t152=>(if t152 = true then(if t133 = 0 then((w10_ints.f k t132 (([2,3] : List Int))).bind fun t156=>(if t156 = true then(if t137 = 0 then((w10_ints.f k t136 (([3,2,1] : List Int))).bind fun t160=>(if t160 = true then(if t141 = 0 then(if t140 = 52 then(if bt145.2 = 0 then((w10_ints.f k bt145.1 (([1,2] : List Int))).bind fun t164=>(w10_awake.j0 k (!t164))) else(w10_awake.j0 k true)) else(w10_awake.j0 k true)) else(w10_awake.j0 k true)) else(w10_awake.j0 k true))) else(w10_awake.j0 k true)) else(w10_awake.j0 k true))) else(w10_awake.j0 k true)) else(w10_awake.j0 k true))) else(w10_awake.j0 k true))) = some r:=H
 have A4:=Aside0.mk A40
 clear A40
 obtain ⟨y142,hy142⟩ : ∃ y_ : List Int,y_ =(([2,3] : List Int)):=⟨_,rfl⟩
 replace H :((turns_Setting.f y142 3).bind fun bt145=>(if t129 = 0 then((w10_ints.f k t128 (([1,2] : List Int))).bind fun t152=>(if t152 = true then(if t133 = 0 then((w10_ints.f k t132 (([2,3] : List Int))).bind fun t156=>(if t156 = true then(if t137 = 0 then((w10_ints.f k t136 (([3,2,1] : List Int))).bind fun t160=>(if t160 = true then(if t141 = 0 then(if t140 = 52 then(if bt145.2 = 0 then((w10_ints.f k bt145.1 (([1,2] : List Int))).bind fun t164=>(w10_awake.j0 k (!t164))) else(w10_awake.j0 k true)) else(w10_awake.j0 k true)) else(w10_awake.j0 k true)) else(w10_awake.j0 k true))) else(w10_awake.j0 k true)) else(w10_awake.j0 k true))) else(w10_awake.j0 k true)) else(w10_awake.j0 k true))) else(w10_awake.j0 k true))) = some r:=by first |(rw [hy142];with_reducible exact H) |(have H2_:=(Option.bind_some _ _).symm.trans H;rw [hy142];with_reducible exact H2_) |(have H2_:=(Option.bind_some _ _).symm.trans H;with_reducible exact H2_) | with_reducible exact H |(rw [hy142];exact H) | exact H
 have Ny142:=Aside0.mk hy142
 clear hy142
 replace H:=Option.bind_eq_some_iff.mp H
 obtain ⟨⟨t145,t146⟩,A50,H⟩:=H
 replace H :(if t129 = 0 then((w10_ints.f k t128 (([1,2] : List Int))).bind fun t152=>(if t152 = true then(if t133 = 0 then((w10_ints.f k t132 (([2,3] : List Int))).bind fun t156=>(if t156 = true then(if t137 = 0 then((w10_ints.f k t136 (([3,2,1] : List Int))).bind fun t160=>(if t160 = true then(if t141 = 0 then(if t140 = 52 then(if t146 = 0 then((w10_ints.f k t145 (([1,2] : List Int))).bind fun t164=>(w10_awake.j0 k (!t164))) else(w10_awake.j0 k true)) else(w10_awake.j0 k true)) else(w10_awake.j0 k true)) else(w10_awake.j0 k true))) else(w10_awake.j0 k true)) else(w10_awake.j0 k true))) else(w10_awake.j0 k true)) else(w10_awake.j0 k true))) else(w10_awake.j0 k true)) = some r:=H
 have A5:=Aside0.mk A50
 clear A50
 have HC6:=Aside0.mk H
 clear H
 go_enter Try.func20,Try.ntmps20
 go_upto_region 6 with (first |((with_reducible refine gate_callee (f:=38) rfl ?_);refine goesL_ (some 12) rfl rfl Try.func38 (by kernel_rfl) rfl #[.int .i64 2,.int .i64 2] rfl (by(try simp only [List.map_toArray,List.map_cons,List.map_nil]);first | done | rfl |(simp only [List.length_drop,List.length_take];rfl)) ?_;(with_reducible refine(turns_Set.calls 2 2 t128 t129 _ A1.out).mono ?_);rintro e w7 ⟨v130,rfl,ho0,hb⟩;refine⟨_,rfl,?_⟩;have n0_:=Aside0.mk (Kd.R_lower ho0 (bwZ (by repeat(first |(with_reducible first | exact HB.out | apply bwA | apply bwN | apply bw1) | exact HB.out))));have n1_:=Aside0.mk (bwT (by repeat(first |(with_reducible first | exact HB.out | apply bwA | apply bwN | apply bw1) | exact HB.out)) hb);clear HB;have HO131:=n0_;have HB:=n1_;clear n0_ n1_;(try clear hb);(try clear hb2);(try clear hk);(try clear hi);(try clear ho0)) |((with_reducible refine gate_callee (f:=31) rfl ?_);refine goesL_ (some 16) rfl rfl Try.func31 (by kernel_rfl) rfl #[.int .i64 3,.int .i64 2,.int .i64 1] rfl (by(try simp only [List.map_toArray,List.map_cons,List.map_nil]);first | done | rfl |(simp only [List.length_drop,List.length_take];rfl)) ?_;(with_reducible refine(turns_Choice.calls 3 2 1 t132 t133 _ A2.out).mono ?_);rintro e w8 ⟨v134,rfl,ho0,hb⟩;refine⟨_,rfl,?_⟩;have n0_:=Aside0.mk (Kd.R_elder' (by(with_reducible repeat(first | apply Kd.R_alloc | apply Kd.R_drewN | apply Kd.R_drew));exact HO131.out) (Kd.R_base ho0) hb);have n1_:=Aside0.mk (Kd.R_lower (Kd.R_new' ho0 (Kd.R_lt (by(with_reducible repeat(first | apply Kd.R_alloc | apply Kd.R_drewN | apply Kd.R_drew));exact HO131.out))) (bwZ (by repeat(first |(with_reducible first | exact HB.out | apply bwA | apply bwN | apply bw1) | exact HB.out))));have n2_:=Aside0.mk (bwT (by repeat(first |(with_reducible first | exact HB.out | apply bwA | apply bwN | apply bw1) | exact HB.out)) hb);clear HO131;clear HB;have HO131:=n0_;have HO135:=n1_;have HB:=n2_;clear n0_ n1_ n2_;(try clear hb);(try clear hb2);(try clear hk);(try clear hi);(try clear ho0)) |((with_reducible refine gate_callee (f:=48) rfl ?_);refine goesL_ (some 20) rfl rfl Try.func48 (by kernel_rfl) rfl #[.int .i64 3,.int .i64 3] rfl (by(try simp only [List.map_toArray,List.map_cons,List.map_nil]);first | done | rfl |(simp only [List.length_drop,List.length_take];rfl)) ?_;(with_reducible refine(turns_Order.calls 3 3 t136 t137 _ A3.out).mono ?_);rintro e w9 ⟨v138,rfl,ho0,hb⟩;refine⟨_,rfl,?_⟩;have n0_:=Aside0.mk (Kd.R_elder' (by(with_reducible repeat(first | apply Kd.R_alloc | apply Kd.R_drewN | apply Kd.R_drew));exact HO131.out) (Kd.R_base ho0) hb);have n1_:=Aside0.mk (Kd.R_elder' (by(with_reducible repeat(first | apply Kd.R_alloc | apply Kd.R_drewN | apply Kd.R_drew));exact HO135.out) (Kd.R_base ho0) hb);have n2_:=Aside0.mk (Kd.R_lower (Kd.R_new' (Kd.R_new' ho0 (Kd.R_lt (by(with_reducible repeat(first | apply Kd.R_alloc | apply Kd.R_drewN | apply Kd.R_drew));exact HO131.out))) (Kd.R_lt (by(with_reducible repeat(first | apply Kd.R_alloc | apply Kd.R_drewN | apply Kd.R_drew));exact HO135.out))) (bwZ (by repeat(first |(with_reducible first | exact HB.out | apply bwA | apply bwN | apply bw1) | exact HB.out))));have n3_:=Aside0.mk (bwT (by repeat(first |(with_reducible first | exact HB.out | apply bwA | apply bwN | apply bw1) | exact HB.out)) hb);clear HO131;clear HO135;clear HB;have HO131:=n0_;have HO135:=n1_;have HO139:=n2_;have HB:=n3_;clear n0_ n1_ n2_ n3_;(try clear hb);(try clear hb2);(try clear hk);(try clear hi);(try clear ho0)) |((with_reducible refine gate_callee (f:=28) rfl ?_);refine goesL_ (some 24) rfl rfl Try.func28 (by kernel_rfl) rfl #[.int .i64 5] rfl (by(try simp only [List.map_toArray,List.map_cons,List.map_nil]);first | done | rfl |(simp only [List.length_drop,List.length_take];rfl)) ?_;(with_reducible refine(turns_Groupings.calls 5 t140 t141 _ A4.out).mono ?_);rintro e w10 ⟨rfl,hb⟩;refine⟨_,rfl,?_⟩;have n0_:=Aside0.mk (Kd.R_below (by(with_reducible repeat(first | apply Kd.R_alloc | apply Kd.R_drewN | apply Kd.R_drew));exact HO131.out) hb);have n1_:=Aside0.mk (Kd.R_below (by(with_reducible repeat(first | apply Kd.R_alloc | apply Kd.R_drewN | apply Kd.R_drew));exact HO135.out) hb);have n2_:=Aside0.mk (Kd.R_below (by(with_reducible repeat(first | apply Kd.R_alloc | apply Kd.R_drewN | apply Kd.R_drew));exact HO139.out) hb);have n3_:=Aside0.mk (bwT (by repeat(first |(with_reducible first | exact HB.out | apply bwA | apply bwN | apply bw1) | exact HB.out)) hb);clear HO131;clear HO135;clear HO139;clear HB;have HO131:=n0_;have HO135:=n1_;have HO139:=n2_;have HB:=n3_;clear n0_ n1_ n2_ n3_;(try clear hb);(try clear hb2);(try clear hk);(try clear hi)) |((with_reducible refine gate_dst (N:=28) rfl ?_);(try(refine gate_guard (by rfl) ?_;dsimp only));refine Kd.R_lit (Kd.int .i64) _ 3 ?hg (N:=28) ?hd (xs:=([2,3] : List Int)) (inner:=[.int .i64 2,.int .i64 3]) (ok:=fun _=>True) (okp:=fun _=>True) ?hr ?hp (fun _ hk=>hk) trivial (Below.refl _ _) (Nat.le_refl _) (by simp) ?_;(case hd=>rfl);(case hg=>rfl);(case hr=>first |(go_simp;done) |(go_simp;rfl));(case hp=>exact(Reps.one (show Kd.M (Kd.int .i64) _ _ _ 2 [.int .i64 2] from rfl) (Reps.one (show Kd.M (Kd.int .i64) _ _ _ 3 [.int .i64 3] from rfl) (Reps.none _ _))));intro v143 w11 ho12 hb hg_ hnew_;clear hg_ hnew_;(first | rw [← Ny142.out] at ho12 |(simp only [Int.reduceToNat] at ho12;rw [← Ny142.out] at ho12));have n0_:=Aside0.mk (Kd.R_elder' (by(with_reducible repeat(first | apply Kd.R_alloc | apply Kd.R_drewN | apply Kd.R_drew));exact HO131.out) (Kd.R_base ho12) hb);have n1_:=Aside0.mk (Kd.R_elder' (by(with_reducible repeat(first | apply Kd.R_alloc | apply Kd.R_drewN | apply Kd.R_drew));exact HO135.out) (Kd.R_base ho12) hb);have n2_:=Aside0.mk (Kd.R_elder' (by(with_reducible repeat(first | apply Kd.R_alloc | apply Kd.R_drewN | apply Kd.R_drew));exact HO139.out) (Kd.R_base ho12) hb);have n3_:=Aside0.mk (Kd.R_lower (Kd.R_new' (Kd.R_new' (Kd.R_new' ho12 (Kd.R_lt (by(with_reducible repeat(first | apply Kd.R_alloc | apply Kd.R_drewN | apply Kd.R_drew));exact HO131.out))) (Kd.R_lt (by(with_reducible repeat(first | apply Kd.R_alloc | apply Kd.R_drewN | apply Kd.R_drew));exact HO135.out))) (Kd.R_lt (by(with_reducible repeat(first | apply Kd.R_alloc | apply Kd.R_drewN | apply Kd.R_drew));exact HO139.out))) (bwZ (by repeat(first |(with_reducible first | exact HB.out | apply bwA | apply bwN | apply bw1) | exact HB.out))));have n4_:=Aside0.mk (bwT (by repeat(first |(with_reducible first | exact HB.out | apply bwA | apply bwN | apply bw1) | exact HB.out)) hb);clear HO131;clear HO135;clear HO139;clear HB;have HO131:=n0_;have HO135:=n1_;have HO139:=n2_;have HO144:=n3_;have HB:=n4_;clear n0_ n1_ n2_ n3_ n4_;clear hb ho12;obtain ⟨Ao13,co13,eo13⟩:=Kd.R_slice HO144.out;subst eo13) |((with_reducible refine gate_callee (f:=17) rfl ?_);refine goesL_ (some 29) rfl rfl Try.func17 (by kernel_rfl) rfl #[.slice Ao13 y142.length co13,.int .i64 3] rfl (by(try simp only [List.map_toArray,List.map_cons,List.map_nil]);first | done | rfl |(simp only [List.length_drop,List.length_take];rfl)) ?_;(with_reducible refine(turns_Setting.calls _ _ y142 3 t145 t146 _ ?side1 ?side2 A5.out).mono ?_);(case side1=>repeat(first | exact(Kd.R_reads' HO144.out).2.2 |(with_reducible refine Kd.C_alloc ?_ _) |(with_reducible refine Kd.C_drewN ?_ _) |(with_reducible refine Kd.C_drew ?_)));(case side2=>exact(Kd.R_reads' HO144.out).2.1);rintro e w14 ⟨v147,rfl,ho0,hb⟩;refine⟨_,rfl,?_⟩;have n0_:=Aside0.mk (Kd.R_elder' (by(with_reducible repeat(first | apply Kd.R_alloc | apply Kd.R_drewN | apply Kd.R_drew));exact HO131.out) (Kd.R_base ho0) hb);have n1_:=Aside0.mk (Kd.R_elder' (by(with_reducible repeat(first | apply Kd.R_alloc | apply Kd.R_drewN | apply Kd.R_drew));exact HO135.out) (Kd.R_base ho0) hb);have n2_:=Aside0.mk (Kd.R_elder' (by(with_reducible repeat(first | apply Kd.R_alloc | apply Kd.R_drewN | apply Kd.R_drew));exact HO139.out) (Kd.R_base ho0) hb);have n3_:=Aside0.mk (Kd.R_elder' (by(with_reducible repeat(first | apply Kd.R_alloc | apply Kd.R_drewN | apply Kd.R_drew));exact HO144.out) (Kd.R_base ho0) hb);have n4_:=Aside0.mk (Kd.R_lower (Kd.R_new' (Kd.R_new' (Kd.R_new' (Kd.R_new' ho0 (Kd.R_lt (by(with_reducible repeat(first | apply Kd.R_alloc | apply Kd.R_drewN | apply Kd.R_drew));exact HO131.out))) (Kd.R_lt (by(with_reducible repeat(first | apply Kd.R_alloc | apply Kd.R_drewN | apply Kd.R_drew));exact HO135.out))) (Kd.R_lt (by(with_reducible repeat(first | apply Kd.R_alloc | apply Kd.R_drewN | apply Kd.R_drew));exact HO139.out))) (Kd.R_lt (by(with_reducible repeat(first | apply Kd.R_alloc | apply Kd.R_drewN | apply Kd.R_drew));exact HO144.out))) (bwZ (by repeat(first |(with_reducible first | exact HB.out | apply bwA | apply bwN | apply bw1) | exact HB.out))));have n5_:=Aside0.mk (bwT (by repeat(first |(with_reducible first | exact HB.out | apply bwA | apply bwN | apply bw1) | exact HB.out)) hb);clear HO131;clear HO135;clear HO139;clear HO144;clear HB;have HO131:=n0_;have HO135:=n1_;have HO139:=n2_;have HO144:=n3_;have HO148:=n4_;have HB:=n5_;clear n0_ n1_ n2_ n3_ n4_ n5_;(try clear hb);(try clear hb2);(try clear hk);(try clear hi);(try clear ho0)))
 (try simp only [Act.put,List.setIfInBounds_toArray,List.set_cons_zero,List.set_cons_succ])
 go_cut [77] (fun v77 wc=>∃ (kq : Nat) (x77_5 : Bool),v77 = .bool x77_5∧Aside0 (w10_awake.j0 kq x77_5 = some r)∧Aside0 (kq≤k)∧Aside0 (Below w.heap.size w wc))
 case first =>
  have H:=HC6.out
  clear HC6
  by_cases c15 : t129 = 0
  rotate_left
  ·rw [if_neg c15] at H
   have c15b0 :(t129 == 0) = false:=beq_eq_false_iff_ne.mpr c15
   have c15b1 :(t129 != 0) = true:=bne_iff_ne.mpr c15
   (first | rw [c15b0] |(simp only [i64_w,i32_w];rw [c15b0]) | skip)
   have H':=Aside0.mk H
   clear H
   go_wp2
   go_meet
   exact⟨_,(true),(by first | rfl |(simp;done) |(simp [*];done)),H',⟨by first | omega | exact Nat.le_refl _⟩,⟨by repeat(first |(with_reducible first | exact HB.out | apply bwA | apply bwN | apply bw1) | exact HB.out)⟩⟩
  rw [if_pos c15] at H
  have c15b0 :(t129 == 0) = true:=beq_iff_eq.mpr c15
  have c15b1 :(t129 != 0) = false:=bne_eq_false_iff_eq.mpr c15
  clear c15
  (first | rw [c15b0] |(simp only [i64_w,i32_w];rw [c15b0]) | skip)
  obtain ⟨y149,hy149⟩ : ∃ y_ : List Int,y_ =(([1,2] : List Int)):=⟨_,rfl⟩
  replace H :((w10_ints.f k t128 y149).bind fun t152=>(if t152 = true then(if t133 = 0 then((w10_ints.f k t132 (([2,3] : List Int))).bind fun t156=>(if t156 = true then(if t137 = 0 then((w10_ints.f k t136 (([3,2,1] : List Int))).bind fun t160=>(if t160 = true then(if t141 = 0 then(if t140 = 52 then(if t146 = 0 then((w10_ints.f k t145 (([1,2] : List Int))).bind fun t164=>(w10_awake.j0 k (!t164))) else(w10_awake.j0 k true)) else(w10_awake.j0 k true)) else(w10_awake.j0 k true)) else(w10_awake.j0 k true))) else(w10_awake.j0 k true)) else(w10_awake.j0 k true))) else(w10_awake.j0 k true)) else(w10_awake.j0 k true))) = some r:=by first |(rw [hy149];with_reducible exact H) |(have H2_:=(Option.bind_some _ _).symm.trans H;rw [hy149];with_reducible exact H2_) |(have H2_:=(Option.bind_some _ _).symm.trans H;with_reducible exact H2_) | with_reducible exact H |(rw [hy149];exact H) | exact H
  have Ny149:=Aside0.mk hy149
  clear hy149
  replace H:=Option.bind_eq_some_iff.mp H
  obtain ⟨t152,A160,H⟩:=H
  replace H :(if t152 = true then(if t133 = 0 then((w10_ints.f k t132 (([2,3] : List Int))).bind fun t156=>(if t156 = true then(if t137 = 0 then((w10_ints.f k t136 (([3,2,1] : List Int))).bind fun t160=>(if t160 = true then(if t141 = 0 then(if t140 = 52 then(if t146 = 0 then((w10_ints.f k t145 (([1,2] : List Int))).bind fun t164=>(w10_awake.j0 k (!t164))) else(w10_awake.j0 k true)) else(w10_awake.j0 k true)) else(w10_awake.j0 k true)) else(w10_awake.j0 k true))) else(w10_awake.j0 k true)) else(w10_awake.j0 k true))) else(w10_awake.j0 k true)) else(w10_awake.j0 k true)) = some r:=H
  have A16:=Aside0.mk A160
  clear A160
  by_cases c17 : t152 = true
  rotate_left
  ·replace c17 := Bool.eq_false_iff.mpr c17
   subst c17
   have H1 :(w10_awake.j0 k true) = some r:=by rw [if_neg (show ¬ (false = true) by decide)] at H;exact H
   clear H
   have H:=H1
   clear H1
   have H':=Aside0.mk H
   clear H
   go_wp2_with (first |((with_reducible refine gate_dst (N:=36) rfl ?_);(try(refine gate_guard (by rfl) ?_;dsimp only));refine Kd.R_lit (Kd.int .i64) _ 3 ?hg (N:=36) ?hd (xs:=([1,2] : List Int)) (inner:=[.int .i64 1,.int .i64 2]) (ok:=fun _=>True) (okp:=fun _=>True) ?hr ?hp (fun _ hk=>hk) trivial (Below.refl _ _) (Nat.le_refl _) (by simp) ?_;(case hd=>rfl);(case hg=>rfl);(case hr=>first |(go_simp;done) |(go_simp;rfl));(case hp=>exact(Reps.one (show Kd.M (Kd.int .i64) _ _ _ 1 [.int .i64 1] from rfl) (Reps.one (show Kd.M (Kd.int .i64) _ _ _ 2 [.int .i64 2] from rfl) (Reps.none _ _))));intro v150 w112 ho113 hb hg_ hnew_;clear hg_ hnew_;(first | rw [← Ny149.out] at ho113 |(simp only [Int.reduceToNat] at ho113;rw [← Ny149.out] at ho113));have n0_:=Aside0.mk (Kd.R_elder' (by(with_reducible repeat(first | apply Kd.R_alloc | apply Kd.R_drewN | apply Kd.R_drew));exact HO131.out) (Kd.R_base ho113) hb);have n1_:=Aside0.mk (Kd.R_elder' (by(with_reducible repeat(first | apply Kd.R_alloc | apply Kd.R_drewN | apply Kd.R_drew));exact HO135.out) (Kd.R_base ho113) hb);have n2_:=Aside0.mk (Kd.R_elder' (by(with_reducible repeat(first | apply Kd.R_alloc | apply Kd.R_drewN | apply Kd.R_drew));exact HO139.out) (Kd.R_base ho113) hb);have n3_:=Aside0.mk (Kd.R_elder' (by(with_reducible repeat(first | apply Kd.R_alloc | apply Kd.R_drewN | apply Kd.R_drew));exact HO144.out) (Kd.R_base ho113) hb);have n4_:=Aside0.mk (Kd.R_elder' (by(with_reducible repeat(first | apply Kd.R_alloc | apply Kd.R_drewN | apply Kd.R_drew));exact HO148.out) (Kd.R_base ho113) hb);have n5_:=Aside0.mk (Kd.R_lower (Kd.R_new' (Kd.R_new' (Kd.R_new' (Kd.R_new' (Kd.R_new' ho113 (Kd.R_lt (by(with_reducible repeat(first | apply Kd.R_alloc | apply Kd.R_drewN | apply Kd.R_drew));exact HO131.out))) (Kd.R_lt (by(with_reducible repeat(first | apply Kd.R_alloc | apply Kd.R_drewN | apply Kd.R_drew));exact HO135.out))) (Kd.R_lt (by(with_reducible repeat(first | apply Kd.R_alloc | apply Kd.R_drewN | apply Kd.R_drew));exact HO139.out))) (Kd.R_lt (by(with_reducible repeat(first | apply Kd.R_alloc | apply Kd.R_drewN | apply Kd.R_drew));exact HO144.out))) (Kd.R_lt (by(with_reducible repeat(first | apply Kd.R_alloc | apply Kd.R_drewN | apply Kd.R_drew));exact HO148.out))) (bwZ (by repeat(first |(with_reducible first | exact HB.out | apply bwA | apply bwN | apply bw1) | exact HB.out))));have n6_:=Aside0.mk (bwT (by repeat(first |(with_reducible first | exact HB.out | apply bwA | apply bwN | apply bw1) | exact HB.out)) hb);clear HO131;clear HO135;clear HO139;clear HO144;clear HO148;clear HB;have HO131:=n0_;have HO135:=n1_;have HO139:=n2_;have HO144:=n3_;have HO148:=n4_;have HO151:=n5_;have HB:=n6_;clear n0_ n1_ n2_ n3_ n4_ n5_ n6_;clear hb ho113;obtain ⟨Ao114,co114,eo114⟩:=Kd.R_slice HO131.out;subst eo114;obtain ⟨Ao115,co115,eo115⟩:=Kd.R_slice HO151.out;subst eo115) |(go_at_call 22;(with_reducible refine(w10_ints.calls k _ _ t128 _ _ y149 false _ ?side1 ?side2 ?side3 ?side4 A16.out).mono ?_);(case side1=>repeat(first | exact(Kd.R_reads' HO131.out).2.2 |(with_reducible refine Kd.C_alloc ?_ _) |(with_reducible refine Kd.C_drewN ?_ _) |(with_reducible refine Kd.C_drew ?_)));(case side2=>exact(Kd.R_reads' HO131.out).2.1);(case side3=>repeat(first | exact(Kd.R_reads' HO151.out).2.2 |(with_reducible refine Kd.C_alloc ?_ _) |(with_reducible refine Kd.C_drewN ?_ _) |(with_reducible refine Kd.C_drew ?_)));(case side4=>exact(Kd.R_reads' HO151.out).2.1);rintro e w' ⟨rfl,⟨nd,rfl⟩⟩))
   go_meet
   exact⟨_,(true),(by first | rfl |(simp;done) |(simp [*];done)),H',⟨by first | omega | exact Nat.le_refl _⟩,⟨by repeat(first |(with_reducible first | exact HB.out | apply bwA | apply bwN | apply bw1) | exact HB.out)⟩⟩
  subst c17
  have H1 :(if t133 = 0 then((w10_ints.f k t132 (([2,3] : List Int))).bind fun t156=>(if t156 = true then(if t137 = 0 then((w10_ints.f k t136 (([3,2,1] : List Int))).bind fun t160=>(if t160 = true then(if t141 = 0 then(if t140 = 52 then(if t146 = 0 then((w10_ints.f k t145 (([1,2] : List Int))).bind fun t164=>(w10_awake.j0 k (!t164))) else(w10_awake.j0 k true)) else(w10_awake.j0 k true)) else(w10_awake.j0 k true)) else(w10_awake.j0 k true))) else(w10_awake.j0 k true)) else(w10_awake.j0 k true))) else(w10_awake.j0 k true)) = some r:=by rw [if_pos rfl] at H;exact H
  clear H
  have H:=H1
  clear H1
  by_cases c18 : t133 = 0
  rotate_left
  ·rw [if_neg c18] at H
   have c18b0 :(t133 == 0) = false:=beq_eq_false_iff_ne.mpr c18
   have c18b1 :(t133 != 0) = true:=bne_iff_ne.mpr c18
   have H':=Aside0.mk H
   clear H
   go_wp2_with (first |((with_reducible refine gate_dst (N:=36) rfl ?_);(try(refine gate_guard (by rfl) ?_;dsimp only));refine Kd.R_lit (Kd.int .i64) _ 3 ?hg (N:=36) ?hd (xs:=([1,2] : List Int)) (inner:=[.int .i64 1,.int .i64 2]) (ok:=fun _=>True) (okp:=fun _=>True) ?hr ?hp (fun _ hk=>hk) trivial (Below.refl _ _) (Nat.le_refl _) (by simp) ?_;(case hd=>rfl);(case hg=>rfl);(case hr=>first |(go_simp;done) |(go_simp;rfl));(case hp=>exact(Reps.one (show Kd.M (Kd.int .i64) _ _ _ 1 [.int .i64 1] from rfl) (Reps.one (show Kd.M (Kd.int .i64) _ _ _ 2 [.int .i64 2] from rfl) (Reps.none _ _))));intro v150 w108 ho109 hb hg_ hnew_;clear hg_ hnew_;(first | rw [← Ny149.out] at ho109 |(simp only [Int.reduceToNat] at ho109;rw [← Ny149.out] at ho109));have n0_:=Aside0.mk (Kd.R_elder' (by(with_reducible repeat(first | apply Kd.R_alloc | apply Kd.R_drewN | apply Kd.R_drew));exact HO131.out) (Kd.R_base ho109) hb);have n1_:=Aside0.mk (Kd.R_elder' (by(with_reducible repeat(first | apply Kd.R_alloc | apply Kd.R_drewN | apply Kd.R_drew));exact HO135.out) (Kd.R_base ho109) hb);have n2_:=Aside0.mk (Kd.R_elder' (by(with_reducible repeat(first | apply Kd.R_alloc | apply Kd.R_drewN | apply Kd.R_drew));exact HO139.out) (Kd.R_base ho109) hb);have n3_:=Aside0.mk (Kd.R_elder' (by(with_reducible repeat(first | apply Kd.R_alloc | apply Kd.R_drewN | apply Kd.R_drew));exact HO144.out) (Kd.R_base ho109) hb);have n4_:=Aside0.mk (Kd.R_elder' (by(with_reducible repeat(first | apply Kd.R_alloc | apply Kd.R_drewN | apply Kd.R_drew));exact HO148.out) (Kd.R_base ho109) hb);have n5_:=Aside0.mk (Kd.R_lower (Kd.R_new' (Kd.R_new' (Kd.R_new' (Kd.R_new' (Kd.R_new' ho109 (Kd.R_lt (by(with_reducible repeat(first | apply Kd.R_alloc | apply Kd.R_drewN | apply Kd.R_drew));exact HO131.out))) (Kd.R_lt (by(with_reducible repeat(first | apply Kd.R_alloc | apply Kd.R_drewN | apply Kd.R_drew));exact HO135.out))) (Kd.R_lt (by(with_reducible repeat(first | apply Kd.R_alloc | apply Kd.R_drewN | apply Kd.R_drew));exact HO139.out))) (Kd.R_lt (by(with_reducible repeat(first | apply Kd.R_alloc | apply Kd.R_drewN | apply Kd.R_drew));exact HO144.out))) (Kd.R_lt (by(with_reducible repeat(first | apply Kd.R_alloc | apply Kd.R_drewN | apply Kd.R_drew));exact HO148.out))) (bwZ (by repeat(first |(with_reducible first | exact HB.out | apply bwA | apply bwN | apply bw1) | exact HB.out))));have n6_:=Aside0.mk (bwT (by repeat(first |(with_reducible first | exact HB.out | apply bwA | apply bwN | apply bw1) | exact HB.out)) hb);clear HO131;clear HO135;clear HO139;clear HO144;clear HO148;clear HB;have HO131:=n0_;have HO135:=n1_;have HO139:=n2_;have HO144:=n3_;have HO148:=n4_;have HO151:=n5_;have HB:=n6_;clear n0_ n1_ n2_ n3_ n4_ n5_ n6_;clear hb ho109;obtain ⟨Ao110,co110,eo110⟩:=Kd.R_slice HO131.out;subst eo110;obtain ⟨Ao111,co111,eo111⟩:=Kd.R_slice HO151.out;subst eo111) |(go_at_call 22;(with_reducible refine(w10_ints.calls k _ _ t128 _ _ y149 true _ ?side1 ?side2 ?side3 ?side4 A16.out).mono ?_);(case side1=>repeat(first | exact(Kd.R_reads' HO131.out).2.2 |(with_reducible refine Kd.C_alloc ?_ _) |(with_reducible refine Kd.C_drewN ?_ _) |(with_reducible refine Kd.C_drew ?_)));(case side2=>exact(Kd.R_reads' HO131.out).2.1);(case side3=>repeat(first | exact(Kd.R_reads' HO151.out).2.2 |(with_reducible refine Kd.C_alloc ?_ _) |(with_reducible refine Kd.C_drewN ?_ _) |(with_reducible refine Kd.C_drew ?_)));(case side4=>exact(Kd.R_reads' HO151.out).2.1);rintro e w' ⟨rfl,⟨nd,rfl⟩⟩))
   go_meet
   exact⟨_,(true),(by first | rfl |(simp;done) |(simp [*];done)),H',⟨by first | omega | exact Nat.le_refl _⟩,⟨by repeat(first |(with_reducible first | exact HB.out | apply bwA | apply bwN | apply bw1) | exact HB.out)⟩⟩
  rw [if_pos c18] at H
  have c18b0 :(t133 == 0) = true:=beq_iff_eq.mpr c18
  have c18b1 :(t133 != 0) = false:=bne_eq_false_iff_eq.mpr c18
  clear c18
  obtain ⟨y153,hy153⟩ : ∃ y_ : List Int,y_ =(([2,3] : List Int)):=⟨_,rfl⟩
  replace H :((w10_ints.f k t132 y153).bind fun t156=>(if t156 = true then(if t137 = 0 then((w10_ints.f k t136 (([3,2,1] : List Int))).bind fun t160=>(if t160 = true then(if t141 = 0 then(if t140 = 52 then(if t146 = 0 then((w10_ints.f k t145 (([1,2] : List Int))).bind fun t164=>(w10_awake.j0 k (!t164))) else(w10_awake.j0 k true)) else(w10_awake.j0 k true)) else(w10_awake.j0 k true)) else(w10_awake.j0 k true))) else(w10_awake.j0 k true)) else(w10_awake.j0 k true))) = some r:=by first |(rw [hy153];with_reducible exact H) |(have H2_:=(Option.bind_some _ _).symm.trans H;rw [hy153];with_reducible exact H2_) |(have H2_:=(Option.bind_some _ _).symm.trans H;with_reducible exact H2_) | with_reducible exact H |(rw [hy153];exact H) | exact H
  have Ny153:=Aside0.mk hy153
  clear hy153
  replace H:=Option.bind_eq_some_iff.mp H
  obtain ⟨t156,A190,H⟩:=H
  replace H :(if t156 = true then(if t137 = 0 then((w10_ints.f k t136 (([3,2,1] : List Int))).bind fun t160=>(if t160 = true then(if t141 = 0 then(if t140 = 52 then(if t146 = 0 then((w10_ints.f k t145 (([1,2] : List Int))).bind fun t164=>(w10_awake.j0 k (!t164))) else(w10_awake.j0 k true)) else(w10_awake.j0 k true)) else(w10_awake.j0 k true)) else(w10_awake.j0 k true))) else(w10_awake.j0 k true)) else(w10_awake.j0 k true)) = some r:=H
  have A19:=Aside0.mk A190
  clear A190
  by_cases c20 : t156 = true
  rotate_left
  ·replace c20 := Bool.eq_false_iff.mpr c20
   subst c20
   have H1 :(w10_awake.j0 k true) = some r:=by rw [if_neg (show ¬ (false = true) by decide)] at H;exact H
   clear H
   have H:=H1
   clear H1
   have H':=Aside0.mk H
   clear H
   go_wp2_with (first |((with_reducible refine gate_dst (N:=36) rfl ?_);(try(refine gate_guard (by rfl) ?_;dsimp only));refine Kd.R_lit (Kd.int .i64) _ 3 ?hg (N:=36) ?hd (xs:=([1,2] : List Int)) (inner:=[.int .i64 1,.int .i64 2]) (ok:=fun _=>True) (okp:=fun _=>True) ?hr ?hp (fun _ hk=>hk) trivial (Below.refl _ _) (Nat.le_refl _) (by simp) ?_;(case hd=>rfl);(case hg=>rfl);(case hr=>first |(go_simp;done) |(go_simp;rfl));(case hp=>exact(Reps.one (show Kd.M (Kd.int .i64) _ _ _ 1 [.int .i64 1] from rfl) (Reps.one (show Kd.M (Kd.int .i64) _ _ _ 2 [.int .i64 2] from rfl) (Reps.none _ _))));intro v150 w100 ho101 hb hg_ hnew_;clear hg_ hnew_;(first | rw [← Ny149.out] at ho101 |(simp only [Int.reduceToNat] at ho101;rw [← Ny149.out] at ho101));have n0_:=Aside0.mk (Kd.R_elder' (by(with_reducible repeat(first | apply Kd.R_alloc | apply Kd.R_drewN | apply Kd.R_drew));exact HO131.out) (Kd.R_base ho101) hb);have n1_:=Aside0.mk (Kd.R_elder' (by(with_reducible repeat(first | apply Kd.R_alloc | apply Kd.R_drewN | apply Kd.R_drew));exact HO135.out) (Kd.R_base ho101) hb);have n2_:=Aside0.mk (Kd.R_elder' (by(with_reducible repeat(first | apply Kd.R_alloc | apply Kd.R_drewN | apply Kd.R_drew));exact HO139.out) (Kd.R_base ho101) hb);have n3_:=Aside0.mk (Kd.R_elder' (by(with_reducible repeat(first | apply Kd.R_alloc | apply Kd.R_drewN | apply Kd.R_drew));exact HO144.out) (Kd.R_base ho101) hb);have n4_:=Aside0.mk (Kd.R_elder' (by(with_reducible repeat(first | apply Kd.R_alloc | apply Kd.R_drewN | apply Kd.R_drew));exact HO148.out) (Kd.R_base ho101) hb);have n5_:=Aside0.mk (Kd.R_lower (Kd.R_new' (Kd.R_new' (Kd.R_new' (Kd.R_new' (Kd.R_new' ho101 (Kd.R_lt (by(with_reducible repeat(first | apply Kd.R_alloc | apply Kd.R_drewN | apply Kd.R_drew));exact HO131.out))) (Kd.R_lt (by(with_reducible repeat(first | apply Kd.R_alloc | apply Kd.R_drewN | apply Kd.R_drew));exact HO135.out))) (Kd.R_lt (by(with_reducible repeat(first | apply Kd.R_alloc | apply Kd.R_drewN | apply Kd.R_drew));exact HO139.out))) (Kd.R_lt (by(with_reducible repeat(first | apply Kd.R_alloc | apply Kd.R_drewN | apply Kd.R_drew));exact HO144.out))) (Kd.R_lt (by(with_reducible repeat(first | apply Kd.R_alloc | apply Kd.R_drewN | apply Kd.R_drew));exact HO148.out))) (bwZ (by repeat(first |(with_reducible first | exact HB.out | apply bwA | apply bwN | apply bw1) | exact HB.out))));have n6_:=Aside0.mk (bwT (by repeat(first |(with_reducible first | exact HB.out | apply bwA | apply bwN | apply bw1) | exact HB.out)) hb);clear HO131;clear HO135;clear HO139;clear HO144;clear HO148;clear HB;have HO131:=n0_;have HO135:=n1_;have HO139:=n2_;have HO144:=n3_;have HO148:=n4_;have HO151:=n5_;have HB:=n6_;clear n0_ n1_ n2_ n3_ n4_ n5_ n6_;clear hb ho101;obtain ⟨Ao102,co102,eo102⟩:=Kd.R_slice HO131.out;subst eo102;obtain ⟨Ao103,co103,eo103⟩:=Kd.R_slice HO151.out;subst eo103) |(go_at_call 22;(with_reducible refine(w10_ints.calls k _ _ t128 _ _ y149 true _ ?side1 ?side2 ?side3 ?side4 A16.out).mono ?_);(case side1=>repeat(first | exact(Kd.R_reads' HO131.out).2.2 |(with_reducible refine Kd.C_alloc ?_ _) |(with_reducible refine Kd.C_drewN ?_ _) |(with_reducible refine Kd.C_drew ?_)));(case side2=>exact(Kd.R_reads' HO131.out).2.1);(case side3=>repeat(first | exact(Kd.R_reads' HO151.out).2.2 |(with_reducible refine Kd.C_alloc ?_ _) |(with_reducible refine Kd.C_drewN ?_ _) |(with_reducible refine Kd.C_drew ?_)));(case side4=>exact(Kd.R_reads' HO151.out).2.1);rintro e w' ⟨rfl,⟨nd,rfl⟩⟩) |((with_reducible refine gate_dst (N:=46) rfl ?_);(try(refine gate_guard (by rfl) ?_;dsimp only));refine Kd.R_lit (Kd.int .i64) _ 3 ?hg (N:=46) ?hd (xs:=([2,3] : List Int)) (inner:=[.int .i64 2,.int .i64 3]) (ok:=fun _=>True) (okp:=fun _=>True) ?hr ?hp (fun _ hk=>hk) trivial (Below.refl _ _) (Nat.le_refl _) (by simp) ?_;(case hd=>rfl);(case hg=>rfl);(case hr=>first |(go_simp;done) |(go_simp;rfl));(case hp=>exact(Reps.one (show Kd.M (Kd.int .i64) _ _ _ 2 [.int .i64 2] from rfl) (Reps.one (show Kd.M (Kd.int .i64) _ _ _ 3 [.int .i64 3] from rfl) (Reps.none _ _))));intro v154 w104 ho105 hb hg_ hnew_;clear hg_ hnew_;(first | rw [← Ny153.out] at ho105 |(simp only [Int.reduceToNat] at ho105;rw [← Ny153.out] at ho105));have n0_:=Aside0.mk (Kd.R_elder' (by(with_reducible repeat(first | apply Kd.R_alloc | apply Kd.R_drewN | apply Kd.R_drew));exact HO131.out) (Kd.R_base ho105) hb);have n1_:=Aside0.mk (Kd.R_elder' (by(with_reducible repeat(first | apply Kd.R_alloc | apply Kd.R_drewN | apply Kd.R_drew));exact HO135.out) (Kd.R_base ho105) hb);have n2_:=Aside0.mk (Kd.R_elder' (by(with_reducible repeat(first | apply Kd.R_alloc | apply Kd.R_drewN | apply Kd.R_drew));exact HO139.out) (Kd.R_base ho105) hb);have n3_:=Aside0.mk (Kd.R_elder' (by(with_reducible repeat(first | apply Kd.R_alloc | apply Kd.R_drewN | apply Kd.R_drew));exact HO144.out) (Kd.R_base ho105) hb);have n4_:=Aside0.mk (Kd.R_elder' (by(with_reducible repeat(first | apply Kd.R_alloc | apply Kd.R_drewN | apply Kd.R_drew));exact HO148.out) (Kd.R_base ho105) hb);have n5_:=Aside0.mk (Kd.R_elder' (by(with_reducible repeat(first | apply Kd.R_alloc | apply Kd.R_drewN | apply Kd.R_drew));exact HO151.out) (Kd.R_base ho105) hb);have n6_:=Aside0.mk (Kd.R_lower (Kd.R_new' (Kd.R_new' (Kd.R_new' (Kd.R_new' (Kd.R_new' (Kd.R_new' ho105 (Kd.R_lt (by(with_reducible repeat(first | apply Kd.R_alloc | apply Kd.R_drewN | apply Kd.R_drew));exact HO131.out))) (Kd.R_lt (by(with_reducible repeat(first | apply Kd.R_alloc | apply Kd.R_drewN | apply Kd.R_drew));exact HO135.out))) (Kd.R_lt (by(with_reducible repeat(first | apply Kd.R_alloc | apply Kd.R_drewN | apply Kd.R_drew));exact HO139.out))) (Kd.R_lt (by(with_reducible repeat(first | apply Kd.R_alloc | apply Kd.R_drewN | apply Kd.R_drew));exact HO144.out))) (Kd.R_lt (by(with_reducible repeat(first | apply Kd.R_alloc | apply Kd.R_drewN | apply Kd.R_drew));exact HO148.out))) (Kd.R_lt (by(with_reducible repeat(first | apply Kd.R_alloc | apply Kd.R_drewN | apply Kd.R_drew));exact HO151.out))) (bwZ (by repeat(first |(with_reducible first | exact HB.out | apply bwA | apply bwN | apply bw1) | exact HB.out))));have n7_:=Aside0.mk (bwT (by repeat(first |(with_reducible first | exact HB.out | apply bwA | apply bwN | apply bw1) | exact HB.out)) hb);clear HO131;clear HO135;clear HO139;clear HO144;clear HO148;clear HO151;clear HB;have HO131:=n0_;have HO135:=n1_;have HO139:=n2_;have HO144:=n3_;have HO148:=n4_;have HO151:=n5_;have HO155:=n6_;have HB:=n7_;clear n0_ n1_ n2_ n3_ n4_ n5_ n6_ n7_;clear hb ho105;obtain ⟨Ao106,co106,eo106⟩:=Kd.R_slice HO135.out;subst eo106;obtain ⟨Ao107,co107,eo107⟩:=Kd.R_slice HO155.out;subst eo107) |(go_at_call 22;(with_reducible refine(w10_ints.calls k _ _ t132 _ _ y153 false _ ?side1 ?side2 ?side3 ?side4 A19.out).mono ?_);(case side1=>repeat(first | exact(Kd.R_reads' HO135.out).2.2 |(with_reducible refine Kd.C_alloc ?_ _) |(with_reducible refine Kd.C_drewN ?_ _) |(with_reducible refine Kd.C_drew ?_)));(case side2=>exact(Kd.R_reads' HO135.out).2.1);(case side3=>repeat(first | exact(Kd.R_reads' HO155.out).2.2 |(with_reducible refine Kd.C_alloc ?_ _) |(with_reducible refine Kd.C_drewN ?_ _) |(with_reducible refine Kd.C_drew ?_)));(case side4=>exact(Kd.R_reads' HO155.out).2.1);rintro e w' ⟨rfl,⟨nd,rfl⟩⟩))
   go_meet
   exact⟨_,(true),(by first | rfl |(simp;done) |(simp [*];done)),H',⟨by first | omega | exact Nat.le_refl _⟩,⟨by repeat(first |(with_reducible first | exact HB.out | apply bwA | apply bwN | apply bw1) | exact HB.out)⟩⟩
  subst c20
  have H1 :(if t137 = 0 then((w10_ints.f k t136 (([3,2,1] : List Int))).bind fun t160=>(if t160 = true then(if t141 = 0 then(if t140 = 52 then(if t146 = 0 then((w10_ints.f k t145 (([1,2] : List Int))).bind fun t164=>(w10_awake.j0 k (!t164))) else(w10_awake.j0 k true)) else(w10_awake.j0 k true)) else(w10_awake.j0 k true)) else(w10_awake.j0 k true))) else(w10_awake.j0 k true)) = some r:=by rw [if_pos rfl] at H;exact H
  clear H
  have H:=H1
  clear H1
  by_cases c21 : t137 = 0
  rotate_left
  ·rw [if_neg c21] at H
   have c21b0 :(t137 == 0) = false:=beq_eq_false_iff_ne.mpr c21
   have c21b1 :(t137 != 0) = true:=bne_iff_ne.mpr c21
   have H':=Aside0.mk H
   clear H
   go_wp2_with (first |((with_reducible refine gate_dst (N:=36) rfl ?_);(try(refine gate_guard (by rfl) ?_;dsimp only));refine Kd.R_lit (Kd.int .i64) _ 3 ?hg (N:=36) ?hd (xs:=([1,2] : List Int)) (inner:=[.int .i64 1,.int .i64 2]) (ok:=fun _=>True) (okp:=fun _=>True) ?hr ?hp (fun _ hk=>hk) trivial (Below.refl _ _) (Nat.le_refl _) (by simp) ?_;(case hd=>rfl);(case hg=>rfl);(case hr=>first |(go_simp;done) |(go_simp;rfl));(case hp=>exact(Reps.one (show Kd.M (Kd.int .i64) _ _ _ 1 [.int .i64 1] from rfl) (Reps.one (show Kd.M (Kd.int .i64) _ _ _ 2 [.int .i64 2] from rfl) (Reps.none _ _))));intro v150 w92 ho93 hb hg_ hnew_;clear hg_ hnew_;(first | rw [← Ny149.out] at ho93 |(simp only [Int.reduceToNat] at ho93;rw [← Ny149.out] at ho93));have n0_:=Aside0.mk (Kd.R_elder' (by(with_reducible repeat(first | apply Kd.R_alloc | apply Kd.R_drewN | apply Kd.R_drew));exact HO131.out) (Kd.R_base ho93) hb);have n1_:=Aside0.mk (Kd.R_elder' (by(with_reducible repeat(first | apply Kd.R_alloc | apply Kd.R_drewN | apply Kd.R_drew));exact HO135.out) (Kd.R_base ho93) hb);have n2_:=Aside0.mk (Kd.R_elder' (by(with_reducible repeat(first | apply Kd.R_alloc | apply Kd.R_drewN | apply Kd.R_drew));exact HO139.out) (Kd.R_base ho93) hb);have n3_:=Aside0.mk (Kd.R_elder' (by(with_reducible repeat(first | apply Kd.R_alloc | apply Kd.R_drewN | apply Kd.R_drew));exact HO144.out) (Kd.R_base ho93) hb);have n4_:=Aside0.mk (Kd.R_elder' (by(with_reducible repeat(first | apply Kd.R_alloc | apply Kd.R_drewN | apply Kd.R_drew));exact HO148.out) (Kd.R_base ho93) hb);have n5_:=Aside0.mk (Kd.R_lower (Kd.R_new' (Kd.R_new' (Kd.R_new' (Kd.R_new' (Kd.R_new' ho93 (Kd.R_lt (by(with_reducible repeat(first | apply Kd.R_alloc | apply Kd.R_drewN | apply Kd.R_drew));exact HO131.out))) (Kd.R_lt (by(with_reducible repeat(first | apply Kd.R_alloc | apply Kd.R_drewN | apply Kd.R_drew));exact HO135.out))) (Kd.R_lt (by(with_reducible repeat(first | apply Kd.R_alloc | apply Kd.R_drewN | apply Kd.R_drew));exact HO139.out))) (Kd.R_lt (by(with_reducible repeat(first | apply Kd.R_alloc | apply Kd.R_drewN | apply Kd.R_drew));exact HO144.out))) (Kd.R_lt (by(with_reducible repeat(first | apply Kd.R_alloc | apply Kd.R_drewN | apply Kd.R_drew));exact HO148.out))) (bwZ (by repeat(first |(with_reducible first | exact HB.out | apply bwA | apply bwN | apply bw1) | exact HB.out))));have n6_:=Aside0.mk (bwT (by repeat(first |(with_reducible first | exact HB.out | apply bwA | apply bwN | apply bw1) | exact HB.out)) hb);clear HO131;clear HO135;clear HO139;clear HO144;clear HO148;clear HB;have HO131:=n0_;have HO135:=n1_;have HO139:=n2_;have HO144:=n3_;have HO148:=n4_;have HO151:=n5_;have HB:=n6_;clear n0_ n1_ n2_ n3_ n4_ n5_ n6_;clear hb ho93;obtain ⟨Ao94,co94,eo94⟩:=Kd.R_slice HO131.out;subst eo94;obtain ⟨Ao95,co95,eo95⟩:=Kd.R_slice HO151.out;subst eo95) |(go_at_call 22;(with_reducible refine(w10_ints.calls k _ _ t128 _ _ y149 true _ ?side1 ?side2 ?side3 ?side4 A16.out).mono ?_);(case side1=>repeat(first | exact(Kd.R_reads' HO131.out).2.2 |(with_reducible refine Kd.C_alloc ?_ _) |(with_reducible refine Kd.C_drewN ?_ _) |(with_reducible refine Kd.C_drew ?_)));(case side2=>exact(Kd.R_reads' HO131.out).2.1);(case side3=>repeat(first | exact(Kd.R_reads' HO151.out).2.2 |(with_reducible refine Kd.C_alloc ?_ _) |(with_reducible refine Kd.C_drewN ?_ _) |(with_reducible refine Kd.C_drew ?_)));(case side4=>exact(Kd.R_reads' HO151.out).2.1);rintro e w' ⟨rfl,⟨nd,rfl⟩⟩) |((with_reducible refine gate_dst (N:=46) rfl ?_);(try(refine gate_guard (by rfl) ?_;dsimp only));refine Kd.R_lit (Kd.int .i64) _ 3 ?hg (N:=46) ?hd (xs:=([2,3] : List Int)) (inner:=[.int .i64 2,.int .i64 3]) (ok:=fun _=>True) (okp:=fun _=>True) ?hr ?hp (fun _ hk=>hk) trivial (Below.refl _ _) (Nat.le_refl _) (by simp) ?_;(case hd=>rfl);(case hg=>rfl);(case hr=>first |(go_simp;done) |(go_simp;rfl));(case hp=>exact(Reps.one (show Kd.M (Kd.int .i64) _ _ _ 2 [.int .i64 2] from rfl) (Reps.one (show Kd.M (Kd.int .i64) _ _ _ 3 [.int .i64 3] from rfl) (Reps.none _ _))));intro v154 w96 ho97 hb hg_ hnew_;clear hg_ hnew_;(first | rw [← Ny153.out] at ho97 |(simp only [Int.reduceToNat] at ho97;rw [← Ny153.out] at ho97));have n0_:=Aside0.mk (Kd.R_elder' (by(with_reducible repeat(first | apply Kd.R_alloc | apply Kd.R_drewN | apply Kd.R_drew));exact HO131.out) (Kd.R_base ho97) hb);have n1_:=Aside0.mk (Kd.R_elder' (by(with_reducible repeat(first | apply Kd.R_alloc | apply Kd.R_drewN | apply Kd.R_drew));exact HO135.out) (Kd.R_base ho97) hb);have n2_:=Aside0.mk (Kd.R_elder' (by(with_reducible repeat(first | apply Kd.R_alloc | apply Kd.R_drewN | apply Kd.R_drew));exact HO139.out) (Kd.R_base ho97) hb);have n3_:=Aside0.mk (Kd.R_elder' (by(with_reducible repeat(first | apply Kd.R_alloc | apply Kd.R_drewN | apply Kd.R_drew));exact HO144.out) (Kd.R_base ho97) hb);have n4_:=Aside0.mk (Kd.R_elder' (by(with_reducible repeat(first | apply Kd.R_alloc | apply Kd.R_drewN | apply Kd.R_drew));exact HO148.out) (Kd.R_base ho97) hb);have n5_:=Aside0.mk (Kd.R_elder' (by(with_reducible repeat(first | apply Kd.R_alloc | apply Kd.R_drewN | apply Kd.R_drew));exact HO151.out) (Kd.R_base ho97) hb);have n6_:=Aside0.mk (Kd.R_lower (Kd.R_new' (Kd.R_new' (Kd.R_new' (Kd.R_new' (Kd.R_new' (Kd.R_new' ho97 (Kd.R_lt (by(with_reducible repeat(first | apply Kd.R_alloc | apply Kd.R_drewN | apply Kd.R_drew));exact HO131.out))) (Kd.R_lt (by(with_reducible repeat(first | apply Kd.R_alloc | apply Kd.R_drewN | apply Kd.R_drew));exact HO135.out))) (Kd.R_lt (by(with_reducible repeat(first | apply Kd.R_alloc | apply Kd.R_drewN | apply Kd.R_drew));exact HO139.out))) (Kd.R_lt (by(with_reducible repeat(first | apply Kd.R_alloc | apply Kd.R_drewN | apply Kd.R_drew));exact HO144.out))) (Kd.R_lt (by(with_reducible repeat(first | apply Kd.R_alloc | apply Kd.R_drewN | apply Kd.R_drew));exact HO148.out))) (Kd.R_lt (by(with_reducible repeat(first | apply Kd.R_alloc | apply Kd.R_drewN | apply Kd.R_drew));exact HO151.out))) (bwZ (by repeat(first |(with_reducible first | exact HB.out | apply bwA | apply bwN | apply bw1) | exact HB.out))));have n7_:=Aside0.mk (bwT (by repeat(first |(with_reducible first | exact HB.out | apply bwA | apply bwN | apply bw1) | exact HB.out)) hb);clear HO131;clear HO135;clear HO139;clear HO144;clear HO148;clear HO151;clear HB;have HO131:=n0_;have HO135:=n1_;have HO139:=n2_;have HO144:=n3_;have HO148:=n4_;have HO151:=n5_;have HO155:=n6_;have HB:=n7_;clear n0_ n1_ n2_ n3_ n4_ n5_ n6_ n7_;clear hb ho97;obtain ⟨Ao98,co98,eo98⟩:=Kd.R_slice HO135.out;subst eo98;obtain ⟨Ao99,co99,eo99⟩:=Kd.R_slice HO155.out;subst eo99) |(go_at_call 22;(with_reducible refine(w10_ints.calls k _ _ t132 _ _ y153 true _ ?side1 ?side2 ?side3 ?side4 A19.out).mono ?_);(case side1=>repeat(first | exact(Kd.R_reads' HO135.out).2.2 |(with_reducible refine Kd.C_alloc ?_ _) |(with_reducible refine Kd.C_drewN ?_ _) |(with_reducible refine Kd.C_drew ?_)));(case side2=>exact(Kd.R_reads' HO135.out).2.1);(case side3=>repeat(first | exact(Kd.R_reads' HO155.out).2.2 |(with_reducible refine Kd.C_alloc ?_ _) |(with_reducible refine Kd.C_drewN ?_ _) |(with_reducible refine Kd.C_drew ?_)));(case side4=>exact(Kd.R_reads' HO155.out).2.1);rintro e w' ⟨rfl,⟨nd,rfl⟩⟩))
   go_meet
   exact⟨_,(true),(by first | rfl |(simp;done) |(simp [*];done)),H',⟨by first | omega | exact Nat.le_refl _⟩,⟨by repeat(first |(with_reducible first | exact HB.out | apply bwA | apply bwN | apply bw1) | exact HB.out)⟩⟩
  rw [if_pos c21] at H
  have c21b0 :(t137 == 0) = true:=beq_iff_eq.mpr c21
  have c21b1 :(t137 != 0) = false:=bne_eq_false_iff_eq.mpr c21
  clear c21
  obtain ⟨y157,hy157⟩ : ∃ y_ : List Int,y_ =(([3,2,1] : List Int)):=⟨_,rfl⟩
  replace H :((w10_ints.f k t136 y157).bind fun t160=>(if t160 = true then(if t141 = 0 then(if t140 = 52 then(if t146 = 0 then((w10_ints.f k t145 (([1,2] : List Int))).bind fun t164=>(w10_awake.j0 k (!t164))) else(w10_awake.j0 k true)) else(w10_awake.j0 k true)) else(w10_awake.j0 k true)) else(w10_awake.j0 k true))) = some r:=by first |(rw [hy157];with_reducible exact H) |(have H2_:=(Option.bind_some _ _).symm.trans H;rw [hy157];with_reducible exact H2_) |(have H2_:=(Option.bind_some _ _).symm.trans H;with_reducible exact H2_) | with_reducible exact H |(rw [hy157];exact H) | exact H
  have Ny157:=Aside0.mk hy157
  clear hy157
  replace H:=Option.bind_eq_some_iff.mp H
  obtain ⟨t160,A220,H⟩:=H
  replace H :(if t160 = true then(if t141 = 0 then(if t140 = 52 then(if t146 = 0 then((w10_ints.f k t145 (([1,2] : List Int))).bind fun t164=>(w10_awake.j0 k (!t164))) else(w10_awake.j0 k true)) else(w10_awake.j0 k true)) else(w10_awake.j0 k true)) else(w10_awake.j0 k true)) = some r:=H
  have A22:=Aside0.mk A220
  clear A220
  by_cases c23 : t160 = true
  rotate_left
  ·replace c23 := Bool.eq_false_iff.mpr c23
   subst c23
   have H1 :(w10_awake.j0 k true) = some r:=by rw [if_neg (show ¬ (false = true) by decide)] at H;exact H
   clear H
   have H:=H1
   clear H1
   have H':=Aside0.mk H
   clear H
   go_wp2_with (first |((with_reducible refine gate_dst (N:=36) rfl ?_);(try(refine gate_guard (by rfl) ?_;dsimp only));refine Kd.R_lit (Kd.int .i64) _ 3 ?hg (N:=36) ?hd (xs:=([1,2] : List Int)) (inner:=[.int .i64 1,.int .i64 2]) (ok:=fun _=>True) (okp:=fun _=>True) ?hr ?hp (fun _ hk=>hk) trivial (Below.refl _ _) (Nat.le_refl _) (by simp) ?_;(case hd=>rfl);(case hg=>rfl);(case hr=>first |(go_simp;done) |(go_simp;rfl));(case hp=>exact(Reps.one (show Kd.M (Kd.int .i64) _ _ _ 1 [.int .i64 1] from rfl) (Reps.one (show Kd.M (Kd.int .i64) _ _ _ 2 [.int .i64 2] from rfl) (Reps.none _ _))));intro v150 w80 ho81 hb hg_ hnew_;clear hg_ hnew_;(first | rw [← Ny149.out] at ho81 |(simp only [Int.reduceToNat] at ho81;rw [← Ny149.out] at ho81));have n0_:=Aside0.mk (Kd.R_elder' (by(with_reducible repeat(first | apply Kd.R_alloc | apply Kd.R_drewN | apply Kd.R_drew));exact HO131.out) (Kd.R_base ho81) hb);have n1_:=Aside0.mk (Kd.R_elder' (by(with_reducible repeat(first | apply Kd.R_alloc | apply Kd.R_drewN | apply Kd.R_drew));exact HO135.out) (Kd.R_base ho81) hb);have n2_:=Aside0.mk (Kd.R_elder' (by(with_reducible repeat(first | apply Kd.R_alloc | apply Kd.R_drewN | apply Kd.R_drew));exact HO139.out) (Kd.R_base ho81) hb);have n3_:=Aside0.mk (Kd.R_elder' (by(with_reducible repeat(first | apply Kd.R_alloc | apply Kd.R_drewN | apply Kd.R_drew));exact HO144.out) (Kd.R_base ho81) hb);have n4_:=Aside0.mk (Kd.R_elder' (by(with_reducible repeat(first | apply Kd.R_alloc | apply Kd.R_drewN | apply Kd.R_drew));exact HO148.out) (Kd.R_base ho81) hb);have n5_:=Aside0.mk (Kd.R_lower (Kd.R_new' (Kd.R_new' (Kd.R_new' (Kd.R_new' (Kd.R_new' ho81 (Kd.R_lt (by(with_reducible repeat(first | apply Kd.R_alloc | apply Kd.R_drewN | apply Kd.R_drew));exact HO131.out))) (Kd.R_lt (by(with_reducible repeat(first | apply Kd.R_alloc | apply Kd.R_drewN | apply Kd.R_drew));exact HO135.out))) (Kd.R_lt (by(with_reducible repeat(first | apply Kd.R_alloc | apply Kd.R_drewN | apply Kd.R_drew));exact HO139.out))) (Kd.R_lt (by(with_reducible repeat(first | apply Kd.R_alloc | apply Kd.R_drewN | apply Kd.R_drew));exact HO144.out))) (Kd.R_lt (by(with_reducible repeat(first | apply Kd.R_alloc | apply Kd.R_drewN | apply Kd.R_drew));exact HO148.out))) (bwZ (by repeat(first |(with_reducible first | exact HB.out | apply bwA | apply bwN | apply bw1) | exact HB.out))));have n6_:=Aside0.mk (bwT (by repeat(first |(with_reducible first | exact HB.out | apply bwA | apply bwN | apply bw1) | exact HB.out)) hb);clear HO131;clear HO135;clear HO139;clear HO144;clear HO148;clear HB;have HO131:=n0_;have HO135:=n1_;have HO139:=n2_;have HO144:=n3_;have HO148:=n4_;have HO151:=n5_;have HB:=n6_;clear n0_ n1_ n2_ n3_ n4_ n5_ n6_;clear hb ho81;obtain ⟨Ao82,co82,eo82⟩:=Kd.R_slice HO131.out;subst eo82;obtain ⟨Ao83,co83,eo83⟩:=Kd.R_slice HO151.out;subst eo83) |(go_at_call 22;(with_reducible refine(w10_ints.calls k _ _ t128 _ _ y149 true _ ?side1 ?side2 ?side3 ?side4 A16.out).mono ?_);(case side1=>repeat(first | exact(Kd.R_reads' HO131.out).2.2 |(with_reducible refine Kd.C_alloc ?_ _) |(with_reducible refine Kd.C_drewN ?_ _) |(with_reducible refine Kd.C_drew ?_)));(case side2=>exact(Kd.R_reads' HO131.out).2.1);(case side3=>repeat(first | exact(Kd.R_reads' HO151.out).2.2 |(with_reducible refine Kd.C_alloc ?_ _) |(with_reducible refine Kd.C_drewN ?_ _) |(with_reducible refine Kd.C_drew ?_)));(case side4=>exact(Kd.R_reads' HO151.out).2.1);rintro e w' ⟨rfl,⟨nd,rfl⟩⟩) |((with_reducible refine gate_dst (N:=46) rfl ?_);(try(refine gate_guard (by rfl) ?_;dsimp only));refine Kd.R_lit (Kd.int .i64) _ 3 ?hg (N:=46) ?hd (xs:=([2,3] : List Int)) (inner:=[.int .i64 2,.int .i64 3]) (ok:=fun _=>True) (okp:=fun _=>True) ?hr ?hp (fun _ hk=>hk) trivial (Below.refl _ _) (Nat.le_refl _) (by simp) ?_;(case hd=>rfl);(case hg=>rfl);(case hr=>first |(go_simp;done) |(go_simp;rfl));(case hp=>exact(Reps.one (show Kd.M (Kd.int .i64) _ _ _ 2 [.int .i64 2] from rfl) (Reps.one (show Kd.M (Kd.int .i64) _ _ _ 3 [.int .i64 3] from rfl) (Reps.none _ _))));intro v154 w84 ho85 hb hg_ hnew_;clear hg_ hnew_;(first | rw [← Ny153.out] at ho85 |(simp only [Int.reduceToNat] at ho85;rw [← Ny153.out] at ho85));have n0_:=Aside0.mk (Kd.R_elder' (by(with_reducible repeat(first | apply Kd.R_alloc | apply Kd.R_drewN | apply Kd.R_drew));exact HO131.out) (Kd.R_base ho85) hb);have n1_:=Aside0.mk (Kd.R_elder' (by(with_reducible repeat(first | apply Kd.R_alloc | apply Kd.R_drewN | apply Kd.R_drew));exact HO135.out) (Kd.R_base ho85) hb);have n2_:=Aside0.mk (Kd.R_elder' (by(with_reducible repeat(first | apply Kd.R_alloc | apply Kd.R_drewN | apply Kd.R_drew));exact HO139.out) (Kd.R_base ho85) hb);have n3_:=Aside0.mk (Kd.R_elder' (by(with_reducible repeat(first | apply Kd.R_alloc | apply Kd.R_drewN | apply Kd.R_drew));exact HO144.out) (Kd.R_base ho85) hb);have n4_:=Aside0.mk (Kd.R_elder' (by(with_reducible repeat(first | apply Kd.R_alloc | apply Kd.R_drewN | apply Kd.R_drew));exact HO148.out) (Kd.R_base ho85) hb);have n5_:=Aside0.mk (Kd.R_elder' (by(with_reducible repeat(first | apply Kd.R_alloc | apply Kd.R_drewN | apply Kd.R_drew));exact HO151.out) (Kd.R_base ho85) hb);have n6_:=Aside0.mk (Kd.R_lower (Kd.R_new' (Kd.R_new' (Kd.R_new' (Kd.R_new' (Kd.R_new' (Kd.R_new' ho85 (Kd.R_lt (by(with_reducible repeat(first | apply Kd.R_alloc | apply Kd.R_drewN | apply Kd.R_drew));exact HO131.out))) (Kd.R_lt (by(with_reducible repeat(first | apply Kd.R_alloc | apply Kd.R_drewN | apply Kd.R_drew));exact HO135.out))) (Kd.R_lt (by(with_reducible repeat(first | apply Kd.R_alloc | apply Kd.R_drewN | apply Kd.R_drew));exact HO139.out))) (Kd.R_lt (by(with_reducible repeat(first | apply Kd.R_alloc | apply Kd.R_drewN | apply Kd.R_drew));exact HO144.out))) (Kd.R_lt (by(with_reducible repeat(first | apply Kd.R_alloc | apply Kd.R_drewN | apply Kd.R_drew));exact HO148.out))) (Kd.R_lt (by(with_reducible repeat(first | apply Kd.R_alloc | apply Kd.R_drewN | apply Kd.R_drew));exact HO151.out))) (bwZ (by repeat(first |(with_reducible first | exact HB.out | apply bwA | apply bwN | apply bw1) | exact HB.out))));have n7_:=Aside0.mk (bwT (by repeat(first |(with_reducible first | exact HB.out | apply bwA | apply bwN | apply bw1) | exact HB.out)) hb);clear HO131;clear HO135;clear HO139;clear HO144;clear HO148;clear HO151;clear HB;have HO131:=n0_;have HO135:=n1_;have HO139:=n2_;have HO144:=n3_;have HO148:=n4_;have HO151:=n5_;have HO155:=n6_;have HB:=n7_;clear n0_ n1_ n2_ n3_ n4_ n5_ n6_ n7_;clear hb ho85;obtain ⟨Ao86,co86,eo86⟩:=Kd.R_slice HO135.out;subst eo86;obtain ⟨Ao87,co87,eo87⟩:=Kd.R_slice HO155.out;subst eo87) |(go_at_call 22;(with_reducible refine(w10_ints.calls k _ _ t132 _ _ y153 true _ ?side1 ?side2 ?side3 ?side4 A19.out).mono ?_);(case side1=>repeat(first | exact(Kd.R_reads' HO135.out).2.2 |(with_reducible refine Kd.C_alloc ?_ _) |(with_reducible refine Kd.C_drewN ?_ _) |(with_reducible refine Kd.C_drew ?_)));(case side2=>exact(Kd.R_reads' HO135.out).2.1);(case side3=>repeat(first | exact(Kd.R_reads' HO155.out).2.2 |(with_reducible refine Kd.C_alloc ?_ _) |(with_reducible refine Kd.C_drewN ?_ _) |(with_reducible refine Kd.C_drew ?_)));(case side4=>exact(Kd.R_reads' HO155.out).2.1);rintro e w' ⟨rfl,⟨nd,rfl⟩⟩) |((with_reducible refine gate_dst (N:=56) rfl ?_);(try(refine gate_guard (by rfl) ?_;dsimp only));refine Kd.R_lit (Kd.int .i64) _ 3 ?hg (N:=56) ?hd (xs:=([3,2,1] : List Int)) (inner:=[.int .i64 3,.int .i64 2,.int .i64 1]) (ok:=fun _=>True) (okp:=fun _=>True) ?hr ?hp (fun _ hk=>hk) trivial (Below.refl _ _) (Nat.le_refl _) (by simp) ?_;(case hd=>rfl);(case hg=>rfl);(case hr=>first |(go_simp;done) |(go_simp;rfl));(case hp=>exact(Reps.one (show Kd.M (Kd.int .i64) _ _ _ 3 [.int .i64 3] from rfl) (Reps.one (show Kd.M (Kd.int .i64) _ _ _ 2 [.int .i64 2] from rfl) (Reps.one (show Kd.M (Kd.int .i64) _ _ _ 1 [.int .i64 1] from rfl) (Reps.none _ _)))));intro v158 w88 ho89 hb hg_ hnew_;clear hg_ hnew_;(first | rw [← Ny157.out] at ho89 |(simp only [Int.reduceToNat] at ho89;rw [← Ny157.out] at ho89));have n0_:=Aside0.mk (Kd.R_elder' (by(with_reducible repeat(first | apply Kd.R_alloc | apply Kd.R_drewN | apply Kd.R_drew));exact HO131.out) (Kd.R_base ho89) hb);have n1_:=Aside0.mk (Kd.R_elder' (by(with_reducible repeat(first | apply Kd.R_alloc | apply Kd.R_drewN | apply Kd.R_drew));exact HO135.out) (Kd.R_base ho89) hb);have n2_:=Aside0.mk (Kd.R_elder' (by(with_reducible repeat(first | apply Kd.R_alloc | apply Kd.R_drewN | apply Kd.R_drew));exact HO139.out) (Kd.R_base ho89) hb);have n3_:=Aside0.mk (Kd.R_elder' (by(with_reducible repeat(first | apply Kd.R_alloc | apply Kd.R_drewN | apply Kd.R_drew));exact HO144.out) (Kd.R_base ho89) hb);have n4_:=Aside0.mk (Kd.R_elder' (by(with_reducible repeat(first | apply Kd.R_alloc | apply Kd.R_drewN | apply Kd.R_drew));exact HO148.out) (Kd.R_base ho89) hb);have n5_:=Aside0.mk (Kd.R_elder' (by(with_reducible repeat(first | apply Kd.R_alloc | apply Kd.R_drewN | apply Kd.R_drew));exact HO151.out) (Kd.R_base ho89) hb);have n6_:=Aside0.mk (Kd.R_elder' (by(with_reducible repeat(first | apply Kd.R_alloc | apply Kd.R_drewN | apply Kd.R_drew));exact HO155.out) (Kd.R_base ho89) hb);have n7_:=Aside0.mk (Kd.R_lower (Kd.R_new' (Kd.R_new' (Kd.R_new' (Kd.R_new' (Kd.R_new' (Kd.R_new' (Kd.R_new' ho89 (Kd.R_lt (by(with_reducible repeat(first | apply Kd.R_alloc | apply Kd.R_drewN | apply Kd.R_drew));exact HO131.out))) (Kd.R_lt (by(with_reducible repeat(first | apply Kd.R_alloc | apply Kd.R_drewN | apply Kd.R_drew));exact HO135.out))) (Kd.R_lt (by(with_reducible repeat(first | apply Kd.R_alloc | apply Kd.R_drewN | apply Kd.R_drew));exact HO139.out))) (Kd.R_lt (by(with_reducible repeat(first | apply Kd.R_alloc | apply Kd.R_drewN | apply Kd.R_drew));exact HO144.out))) (Kd.R_lt (by(with_reducible repeat(first | apply Kd.R_alloc | apply Kd.R_drewN | apply Kd.R_drew));exact HO148.out))) (Kd.R_lt (by(with_reducible repeat(first | apply Kd.R_alloc | apply Kd.R_drewN | apply Kd.R_drew));exact HO151.out))) (Kd.R_lt (by(with_reducible repeat(first | apply Kd.R_alloc | apply Kd.R_drewN | apply Kd.R_drew));exact HO155.out))) (bwZ (by repeat(first |(with_reducible first | exact HB.out | apply bwA | apply bwN | apply bw1) | exact HB.out))));have n8_:=Aside0.mk (bwT (by repeat(first |(with_reducible first | exact HB.out | apply bwA | apply bwN | apply bw1) | exact HB.out)) hb);clear HO131;clear HO135;clear HO139;clear HO144;clear HO148;clear HO151;clear HO155;clear HB;have HO131:=n0_;have HO135:=n1_;have HO139:=n2_;have HO144:=n3_;have HO148:=n4_;have HO151:=n5_;have HO155:=n6_;have HO159:=n7_;have HB:=n8_;clear n0_ n1_ n2_ n3_ n4_ n5_ n6_ n7_ n8_;clear hb ho89;obtain ⟨Ao90,co90,eo90⟩:=Kd.R_slice HO139.out;subst eo90;obtain ⟨Ao91,co91,eo91⟩:=Kd.R_slice HO159.out;subst eo91) |(go_at_call 22;(with_reducible refine(w10_ints.calls k _ _ t136 _ _ y157 false _ ?side1 ?side2 ?side3 ?side4 A22.out).mono ?_);(case side1=>repeat(first | exact(Kd.R_reads' HO139.out).2.2 |(with_reducible refine Kd.C_alloc ?_ _) |(with_reducible refine Kd.C_drewN ?_ _) |(with_reducible refine Kd.C_drew ?_)));(case side2=>exact(Kd.R_reads' HO139.out).2.1);(case side3=>repeat(first | exact(Kd.R_reads' HO159.out).2.2 |(with_reducible refine Kd.C_alloc ?_ _) |(with_reducible refine Kd.C_drewN ?_ _) |(with_reducible refine Kd.C_drew ?_)));(case side4=>exact(Kd.R_reads' HO159.out).2.1);rintro e w' ⟨rfl,⟨nd,rfl⟩⟩))
   go_meet
   exact⟨_,(true),(by first | rfl |(simp;done) |(simp [*];done)),H',⟨by first | omega | exact Nat.le_refl _⟩,⟨by repeat(first |(with_reducible first | exact HB.out | apply bwA | apply bwN | apply bw1) | exact HB.out)⟩⟩
  subst c23
  have H1 :(if t141 = 0 then(if t140 = 52 then(if t146 = 0 then((w10_ints.f k t145 (([1,2] : List Int))).bind fun t164=>(w10_awake.j0 k (!t164))) else(w10_awake.j0 k true)) else(w10_awake.j0 k true)) else(w10_awake.j0 k true)) = some r:=by rw [if_pos rfl] at H;exact H
  clear H
  have H:=H1
  clear H1
  by_cases c24 : t141 = 0
  rotate_left
  ·rw [if_neg c24] at H
   have c24b0 :(t141 == 0) = false:=beq_eq_false_iff_ne.mpr c24
   have c24b1 :(t141 != 0) = true:=bne_iff_ne.mpr c24
   have H':=Aside0.mk H
   clear H
   go_wp2_with (first |((with_reducible refine gate_dst (N:=36) rfl ?_);(try(refine gate_guard (by rfl) ?_;dsimp only));refine Kd.R_lit (Kd.int .i64) _ 3 ?hg (N:=36) ?hd (xs:=([1,2] : List Int)) (inner:=[.int .i64 1,.int .i64 2]) (ok:=fun _=>True) (okp:=fun _=>True) ?hr ?hp (fun _ hk=>hk) trivial (Below.refl _ _) (Nat.le_refl _) (by simp) ?_;(case hd=>rfl);(case hg=>rfl);(case hr=>first |(go_simp;done) |(go_simp;rfl));(case hp=>exact(Reps.one (show Kd.M (Kd.int .i64) _ _ _ 1 [.int .i64 1] from rfl) (Reps.one (show Kd.M (Kd.int .i64) _ _ _ 2 [.int .i64 2] from rfl) (Reps.none _ _))));intro v150 w68 ho69 hb hg_ hnew_;clear hg_ hnew_;(first | rw [← Ny149.out] at ho69 |(simp only [Int.reduceToNat] at ho69;rw [← Ny149.out] at ho69));have n0_:=Aside0.mk (Kd.R_elder' (by(with_reducible repeat(first | apply Kd.R_alloc | apply Kd.R_drewN | apply Kd.R_drew));exact HO131.out) (Kd.R_base ho69) hb);have n1_:=Aside0.mk (Kd.R_elder' (by(with_reducible repeat(first | apply Kd.R_alloc | apply Kd.R_drewN | apply Kd.R_drew));exact HO135.out) (Kd.R_base ho69) hb);have n2_:=Aside0.mk (Kd.R_elder' (by(with_reducible repeat(first | apply Kd.R_alloc | apply Kd.R_drewN | apply Kd.R_drew));exact HO139.out) (Kd.R_base ho69) hb);have n3_:=Aside0.mk (Kd.R_elder' (by(with_reducible repeat(first | apply Kd.R_alloc | apply Kd.R_drewN | apply Kd.R_drew));exact HO144.out) (Kd.R_base ho69) hb);have n4_:=Aside0.mk (Kd.R_elder' (by(with_reducible repeat(first | apply Kd.R_alloc | apply Kd.R_drewN | apply Kd.R_drew));exact HO148.out) (Kd.R_base ho69) hb);have n5_:=Aside0.mk (Kd.R_lower (Kd.R_new' (Kd.R_new' (Kd.R_new' (Kd.R_new' (Kd.R_new' ho69 (Kd.R_lt (by(with_reducible repeat(first | apply Kd.R_alloc | apply Kd.R_drewN | apply Kd.R_drew));exact HO131.out))) (Kd.R_lt (by(with_reducible repeat(first | apply Kd.R_alloc | apply Kd.R_drewN | apply Kd.R_drew));exact HO135.out))) (Kd.R_lt (by(with_reducible repeat(first | apply Kd.R_alloc | apply Kd.R_drewN | apply Kd.R_drew));exact HO139.out))) (Kd.R_lt (by(with_reducible repeat(first | apply Kd.R_alloc | apply Kd.R_drewN | apply Kd.R_drew));exact HO144.out))) (Kd.R_lt (by(with_reducible repeat(first | apply Kd.R_alloc | apply Kd.R_drewN | apply Kd.R_drew));exact HO148.out))) (bwZ (by repeat(first |(with_reducible first | exact HB.out | apply bwA | apply bwN | apply bw1) | exact HB.out))));have n6_:=Aside0.mk (bwT (by repeat(first |(with_reducible first | exact HB.out | apply bwA | apply bwN | apply bw1) | exact HB.out)) hb);clear HO131;clear HO135;clear HO139;clear HO144;clear HO148;clear HB;have HO131:=n0_;have HO135:=n1_;have HO139:=n2_;have HO144:=n3_;have HO148:=n4_;have HO151:=n5_;have HB:=n6_;clear n0_ n1_ n2_ n3_ n4_ n5_ n6_;clear hb ho69;obtain ⟨Ao70,co70,eo70⟩:=Kd.R_slice HO131.out;subst eo70;obtain ⟨Ao71,co71,eo71⟩:=Kd.R_slice HO151.out;subst eo71) |(go_at_call 22;(with_reducible refine(w10_ints.calls k _ _ t128 _ _ y149 true _ ?side1 ?side2 ?side3 ?side4 A16.out).mono ?_);(case side1=>repeat(first | exact(Kd.R_reads' HO131.out).2.2 |(with_reducible refine Kd.C_alloc ?_ _) |(with_reducible refine Kd.C_drewN ?_ _) |(with_reducible refine Kd.C_drew ?_)));(case side2=>exact(Kd.R_reads' HO131.out).2.1);(case side3=>repeat(first | exact(Kd.R_reads' HO151.out).2.2 |(with_reducible refine Kd.C_alloc ?_ _) |(with_reducible refine Kd.C_drewN ?_ _) |(with_reducible refine Kd.C_drew ?_)));(case side4=>exact(Kd.R_reads' HO151.out).2.1);rintro e w' ⟨rfl,⟨nd,rfl⟩⟩) |((with_reducible refine gate_dst (N:=46) rfl ?_);(try(refine gate_guard (by rfl) ?_;dsimp only));refine Kd.R_lit (Kd.int .i64) _ 3 ?hg (N:=46) ?hd (xs:=([2,3] : List Int)) (inner:=[.int .i64 2,.int .i64 3]) (ok:=fun _=>True) (okp:=fun _=>True) ?hr ?hp (fun _ hk=>hk) trivial (Below.refl _ _) (Nat.le_refl _) (by simp) ?_;(case hd=>rfl);(case hg=>rfl);(case hr=>first |(go_simp;done) |(go_simp;rfl));(case hp=>exact(Reps.one (show Kd.M (Kd.int .i64) _ _ _ 2 [.int .i64 2] from rfl) (Reps.one (show Kd.M (Kd.int .i64) _ _ _ 3 [.int .i64 3] from rfl) (Reps.none _ _))));intro v154 w72 ho73 hb hg_ hnew_;clear hg_ hnew_;(first | rw [← Ny153.out] at ho73 |(simp only [Int.reduceToNat] at ho73;rw [← Ny153.out] at ho73));have n0_:=Aside0.mk (Kd.R_elder' (by(with_reducible repeat(first | apply Kd.R_alloc | apply Kd.R_drewN | apply Kd.R_drew));exact HO131.out) (Kd.R_base ho73) hb);have n1_:=Aside0.mk (Kd.R_elder' (by(with_reducible repeat(first | apply Kd.R_alloc | apply Kd.R_drewN | apply Kd.R_drew));exact HO135.out) (Kd.R_base ho73) hb);have n2_:=Aside0.mk (Kd.R_elder' (by(with_reducible repeat(first | apply Kd.R_alloc | apply Kd.R_drewN | apply Kd.R_drew));exact HO139.out) (Kd.R_base ho73) hb);have n3_:=Aside0.mk (Kd.R_elder' (by(with_reducible repeat(first | apply Kd.R_alloc | apply Kd.R_drewN | apply Kd.R_drew));exact HO144.out) (Kd.R_base ho73) hb);have n4_:=Aside0.mk (Kd.R_elder' (by(with_reducible repeat(first | apply Kd.R_alloc | apply Kd.R_drewN | apply Kd.R_drew));exact HO148.out) (Kd.R_base ho73) hb);have n5_:=Aside0.mk (Kd.R_elder' (by(with_reducible repeat(first | apply Kd.R_alloc | apply Kd.R_drewN | apply Kd.R_drew));exact HO151.out) (Kd.R_base ho73) hb);have n6_:=Aside0.mk (Kd.R_lower (Kd.R_new' (Kd.R_new' (Kd.R_new' (Kd.R_new' (Kd.R_new' (Kd.R_new' ho73 (Kd.R_lt (by(with_reducible repeat(first | apply Kd.R_alloc | apply Kd.R_drewN | apply Kd.R_drew));exact HO131.out))) (Kd.R_lt (by(with_reducible repeat(first | apply Kd.R_alloc | apply Kd.R_drewN | apply Kd.R_drew));exact HO135.out))) (Kd.R_lt (by(with_reducible repeat(first | apply Kd.R_alloc | apply Kd.R_drewN | apply Kd.R_drew));exact HO139.out))) (Kd.R_lt (by(with_reducible repeat(first | apply Kd.R_alloc | apply Kd.R_drewN | apply Kd.R_drew));exact HO144.out))) (Kd.R_lt (by(with_reducible repeat(first | apply Kd.R_alloc | apply Kd.R_drewN | apply Kd.R_drew));exact HO148.out))) (Kd.R_lt (by(with_reducible repeat(first | apply Kd.R_alloc | apply Kd.R_drewN | apply Kd.R_drew));exact HO151.out))) (bwZ (by repeat(first |(with_reducible first | exact HB.out | apply bwA | apply bwN | apply bw1) | exact HB.out))));have n7_:=Aside0.mk (bwT (by repeat(first |(with_reducible first | exact HB.out | apply bwA | apply bwN | apply bw1) | exact HB.out)) hb);clear HO131;clear HO135;clear HO139;clear HO144;clear HO148;clear HO151;clear HB;have HO131:=n0_;have HO135:=n1_;have HO139:=n2_;have HO144:=n3_;have HO148:=n4_;have HO151:=n5_;have HO155:=n6_;have HB:=n7_;clear n0_ n1_ n2_ n3_ n4_ n5_ n6_ n7_;clear hb ho73;obtain ⟨Ao74,co74,eo74⟩:=Kd.R_slice HO135.out;subst eo74;obtain ⟨Ao75,co75,eo75⟩:=Kd.R_slice HO155.out;subst eo75) |(go_at_call 22;(with_reducible refine(w10_ints.calls k _ _ t132 _ _ y153 true _ ?side1 ?side2 ?side3 ?side4 A19.out).mono ?_);(case side1=>repeat(first | exact(Kd.R_reads' HO135.out).2.2 |(with_reducible refine Kd.C_alloc ?_ _) |(with_reducible refine Kd.C_drewN ?_ _) |(with_reducible refine Kd.C_drew ?_)));(case side2=>exact(Kd.R_reads' HO135.out).2.1);(case side3=>repeat(first | exact(Kd.R_reads' HO155.out).2.2 |(with_reducible refine Kd.C_alloc ?_ _) |(with_reducible refine Kd.C_drewN ?_ _) |(with_reducible refine Kd.C_drew ?_)));(case side4=>exact(Kd.R_reads' HO155.out).2.1);rintro e w' ⟨rfl,⟨nd,rfl⟩⟩) |((with_reducible refine gate_dst (N:=56) rfl ?_);(try(refine gate_guard (by rfl) ?_;dsimp only));refine Kd.R_lit (Kd.int .i64) _ 3 ?hg (N:=56) ?hd (xs:=([3,2,1] : List Int)) (inner:=[.int .i64 3,.int .i64 2,.int .i64 1]) (ok:=fun _=>True) (okp:=fun _=>True) ?hr ?hp (fun _ hk=>hk) trivial (Below.refl _ _) (Nat.le_refl _) (by simp) ?_;(case hd=>rfl);(case hg=>rfl);(case hr=>first |(go_simp;done) |(go_simp;rfl));(case hp=>exact(Reps.one (show Kd.M (Kd.int .i64) _ _ _ 3 [.int .i64 3] from rfl) (Reps.one (show Kd.M (Kd.int .i64) _ _ _ 2 [.int .i64 2] from rfl) (Reps.one (show Kd.M (Kd.int .i64) _ _ _ 1 [.int .i64 1] from rfl) (Reps.none _ _)))));intro v158 w76 ho77 hb hg_ hnew_;clear hg_ hnew_;(first | rw [← Ny157.out] at ho77 |(simp only [Int.reduceToNat] at ho77;rw [← Ny157.out] at ho77));have n0_:=Aside0.mk (Kd.R_elder' (by(with_reducible repeat(first | apply Kd.R_alloc | apply Kd.R_drewN | apply Kd.R_drew));exact HO131.out) (Kd.R_base ho77) hb);have n1_:=Aside0.mk (Kd.R_elder' (by(with_reducible repeat(first | apply Kd.R_alloc | apply Kd.R_drewN | apply Kd.R_drew));exact HO135.out) (Kd.R_base ho77) hb);have n2_:=Aside0.mk (Kd.R_elder' (by(with_reducible repeat(first | apply Kd.R_alloc | apply Kd.R_drewN | apply Kd.R_drew));exact HO139.out) (Kd.R_base ho77) hb);have n3_:=Aside0.mk (Kd.R_elder' (by(with_reducible repeat(first | apply Kd.R_alloc | apply Kd.R_drewN | apply Kd.R_drew));exact HO144.out) (Kd.R_base ho77) hb);have n4_:=Aside0.mk (Kd.R_elder' (by(with_reducible repeat(first | apply Kd.R_alloc | apply Kd.R_drewN | apply Kd.R_drew));exact HO148.out) (Kd.R_base ho77) hb);have n5_:=Aside0.mk (Kd.R_elder' (by(with_reducible repeat(first | apply Kd.R_alloc | apply Kd.R_drewN | apply Kd.R_drew));exact HO151.out) (Kd.R_base ho77) hb);have n6_:=Aside0.mk (Kd.R_elder' (by(with_reducible repeat(first | apply Kd.R_alloc | apply Kd.R_drewN | apply Kd.R_drew));exact HO155.out) (Kd.R_base ho77) hb);have n7_:=Aside0.mk (Kd.R_lower (Kd.R_new' (Kd.R_new' (Kd.R_new' (Kd.R_new' (Kd.R_new' (Kd.R_new' (Kd.R_new' ho77 (Kd.R_lt (by(with_reducible repeat(first | apply Kd.R_alloc | apply Kd.R_drewN | apply Kd.R_drew));exact HO131.out))) (Kd.R_lt (by(with_reducible repeat(first | apply Kd.R_alloc | apply Kd.R_drewN | apply Kd.R_drew));exact HO135.out))) (Kd.R_lt (by(with_reducible repeat(first | apply Kd.R_alloc | apply Kd.R_drewN | apply Kd.R_drew));exact HO139.out))) (Kd.R_lt (by(with_reducible repeat(first | apply Kd.R_alloc | apply Kd.R_drewN | apply Kd.R_drew));exact HO144.out))) (Kd.R_lt (by(with_reducible repeat(first | apply Kd.R_alloc | apply Kd.R_drewN | apply Kd.R_drew));exact HO148.out))) (Kd.R_lt (by(with_reducible repeat(first | apply Kd.R_alloc | apply Kd.R_drewN | apply Kd.R_drew));exact HO151.out))) (Kd.R_lt (by(with_reducible repeat(first | apply Kd.R_alloc | apply Kd.R_drewN | apply Kd.R_drew));exact HO155.out))) (bwZ (by repeat(first |(with_reducible first | exact HB.out | apply bwA | apply bwN | apply bw1) | exact HB.out))));have n8_:=Aside0.mk (bwT (by repeat(first |(with_reducible first | exact HB.out | apply bwA | apply bwN | apply bw1) | exact HB.out)) hb);clear HO131;clear HO135;clear HO139;clear HO144;clear HO148;clear HO151;clear HO155;clear HB;have HO131:=n0_;have HO135:=n1_;have HO139:=n2_;have HO144:=n3_;have HO148:=n4_;have HO151:=n5_;have HO155:=n6_;have HO159:=n7_;have HB:=n8_;clear n0_ n1_ n2_ n3_ n4_ n5_ n6_ n7_ n8_;clear hb ho77;obtain ⟨Ao78,co78,eo78⟩:=Kd.R_slice HO139.out;subst eo78;obtain ⟨Ao79,co79,eo79⟩:=Kd.R_slice HO159.out;subst eo79) |(go_at_call 22;(with_reducible refine(w10_ints.calls k _ _ t136 _ _ y157 true _ ?side1 ?side2 ?side3 ?side4 A22.out).mono ?_);(case side1=>repeat(first | exact(Kd.R_reads' HO139.out).2.2 |(with_reducible refine Kd.C_alloc ?_ _) |(with_reducible refine Kd.C_drewN ?_ _) |(with_reducible refine Kd.C_drew ?_)));(case side2=>exact(Kd.R_reads' HO139.out).2.1);(case side3=>repeat(first | exact(Kd.R_reads' HO159.out).2.2 |(with_reducible refine Kd.C_alloc ?_ _) |(with_reducible refine Kd.C_drewN ?_ _) |(with_reducible refine Kd.C_drew ?_)));(case side4=>exact(Kd.R_reads' HO159.out).2.1);rintro e w' ⟨rfl,⟨nd,rfl⟩⟩))
   go_meet
   exact⟨_,(true),(by first | rfl |(simp;done) |(simp [*];done)),H',⟨by first | omega | exact Nat.le_refl _⟩,⟨by repeat(first |(with_reducible first | exact HB.out | apply bwA | apply bwN | apply bw1) | exact HB.out)⟩⟩
  rw [if_pos c24] at H
  have c24b0 :(t141 == 0) = true:=beq_iff_eq.mpr c24
  have c24b1 :(t141 != 0) = false:=bne_eq_false_iff_eq.mpr c24
  clear c24
  by_cases c25 : t140 = 52
  rotate_left
  ·rw [if_neg c25] at H
   have c25b0 :(t140 == 52) = false:=beq_eq_false_iff_ne.mpr c25
   have c25b1 :(t140 != 52) = true:=bne_iff_ne.mpr c25
   have H':=Aside0.mk H
   clear H
   go_wp2_with (first |((with_reducible refine gate_dst (N:=36) rfl ?_);(try(refine gate_guard (by rfl) ?_;dsimp only));refine Kd.R_lit (Kd.int .i64) _ 3 ?hg (N:=36) ?hd (xs:=([1,2] : List Int)) (inner:=[.int .i64 1,.int .i64 2]) (ok:=fun _=>True) (okp:=fun _=>True) ?hr ?hp (fun _ hk=>hk) trivial (Below.refl _ _) (Nat.le_refl _) (by simp) ?_;(case hd=>rfl);(case hg=>rfl);(case hr=>first |(go_simp;done) |(go_simp;rfl));(case hp=>exact(Reps.one (show Kd.M (Kd.int .i64) _ _ _ 1 [.int .i64 1] from rfl) (Reps.one (show Kd.M (Kd.int .i64) _ _ _ 2 [.int .i64 2] from rfl) (Reps.none _ _))));intro v150 w56 ho57 hb hg_ hnew_;clear hg_ hnew_;(first | rw [← Ny149.out] at ho57 |(simp only [Int.reduceToNat] at ho57;rw [← Ny149.out] at ho57));have n0_:=Aside0.mk (Kd.R_elder' (by(with_reducible repeat(first | apply Kd.R_alloc | apply Kd.R_drewN | apply Kd.R_drew));exact HO131.out) (Kd.R_base ho57) hb);have n1_:=Aside0.mk (Kd.R_elder' (by(with_reducible repeat(first | apply Kd.R_alloc | apply Kd.R_drewN | apply Kd.R_drew));exact HO135.out) (Kd.R_base ho57) hb);have n2_:=Aside0.mk (Kd.R_elder' (by(with_reducible repeat(first | apply Kd.R_alloc | apply Kd.R_drewN | apply Kd.R_drew));exact HO139.out) (Kd.R_base ho57) hb);have n3_:=Aside0.mk (Kd.R_elder' (by(with_reducible repeat(first | apply Kd.R_alloc | apply Kd.R_drewN | apply Kd.R_drew));exact HO144.out) (Kd.R_base ho57) hb);have n4_:=Aside0.mk (Kd.R_elder' (by(with_reducible repeat(first | apply Kd.R_alloc | apply Kd.R_drewN | apply Kd.R_drew));exact HO148.out) (Kd.R_base ho57) hb);have n5_:=Aside0.mk (Kd.R_lower (Kd.R_new' (Kd.R_new' (Kd.R_new' (Kd.R_new' (Kd.R_new' ho57 (Kd.R_lt (by(with_reducible repeat(first | apply Kd.R_alloc | apply Kd.R_drewN | apply Kd.R_drew));exact HO131.out))) (Kd.R_lt (by(with_reducible repeat(first | apply Kd.R_alloc | apply Kd.R_drewN | apply Kd.R_drew));exact HO135.out))) (Kd.R_lt (by(with_reducible repeat(first | apply Kd.R_alloc | apply Kd.R_drewN | apply Kd.R_drew));exact HO139.out))) (Kd.R_lt (by(with_reducible repeat(first | apply Kd.R_alloc | apply Kd.R_drewN | apply Kd.R_drew));exact HO144.out))) (Kd.R_lt (by(with_reducible repeat(first | apply Kd.R_alloc | apply Kd.R_drewN | apply Kd.R_drew));exact HO148.out))) (bwZ (by repeat(first |(with_reducible first | exact HB.out | apply bwA | apply bwN | apply bw1) | exact HB.out))));have n6_:=Aside0.mk (bwT (by repeat(first |(with_reducible first | exact HB.out | apply bwA | apply bwN | apply bw1) | exact HB.out)) hb);clear HO131;clear HO135;clear HO139;clear HO144;clear HO148;clear HB;have HO131:=n0_;have HO135:=n1_;have HO139:=n2_;have HO144:=n3_;have HO148:=n4_;have HO151:=n5_;have HB:=n6_;clear n0_ n1_ n2_ n3_ n4_ n5_ n6_;clear hb ho57;obtain ⟨Ao58,co58,eo58⟩:=Kd.R_slice HO131.out;subst eo58;obtain ⟨Ao59,co59,eo59⟩:=Kd.R_slice HO151.out;subst eo59) |(go_at_call 22;(with_reducible refine(w10_ints.calls k _ _ t128 _ _ y149 true _ ?side1 ?side2 ?side3 ?side4 A16.out).mono ?_);(case side1=>repeat(first | exact(Kd.R_reads' HO131.out).2.2 |(with_reducible refine Kd.C_alloc ?_ _) |(with_reducible refine Kd.C_drewN ?_ _) |(with_reducible refine Kd.C_drew ?_)));(case side2=>exact(Kd.R_reads' HO131.out).2.1);(case side3=>repeat(first | exact(Kd.R_reads' HO151.out).2.2 |(with_reducible refine Kd.C_alloc ?_ _) |(with_reducible refine Kd.C_drewN ?_ _) |(with_reducible refine Kd.C_drew ?_)));(case side4=>exact(Kd.R_reads' HO151.out).2.1);rintro e w' ⟨rfl,⟨nd,rfl⟩⟩) |((with_reducible refine gate_dst (N:=46) rfl ?_);(try(refine gate_guard (by rfl) ?_;dsimp only));refine Kd.R_lit (Kd.int .i64) _ 3 ?hg (N:=46) ?hd (xs:=([2,3] : List Int)) (inner:=[.int .i64 2,.int .i64 3]) (ok:=fun _=>True) (okp:=fun _=>True) ?hr ?hp (fun _ hk=>hk) trivial (Below.refl _ _) (Nat.le_refl _) (by simp) ?_;(case hd=>rfl);(case hg=>rfl);(case hr=>first |(go_simp;done) |(go_simp;rfl));(case hp=>exact(Reps.one (show Kd.M (Kd.int .i64) _ _ _ 2 [.int .i64 2] from rfl) (Reps.one (show Kd.M (Kd.int .i64) _ _ _ 3 [.int .i64 3] from rfl) (Reps.none _ _))));intro v154 w60 ho61 hb hg_ hnew_;clear hg_ hnew_;(first | rw [← Ny153.out] at ho61 |(simp only [Int.reduceToNat] at ho61;rw [← Ny153.out] at ho61));have n0_:=Aside0.mk (Kd.R_elder' (by(with_reducible repeat(first | apply Kd.R_alloc | apply Kd.R_drewN | apply Kd.R_drew));exact HO131.out) (Kd.R_base ho61) hb);have n1_:=Aside0.mk (Kd.R_elder' (by(with_reducible repeat(first | apply Kd.R_alloc | apply Kd.R_drewN | apply Kd.R_drew));exact HO135.out) (Kd.R_base ho61) hb);have n2_:=Aside0.mk (Kd.R_elder' (by(with_reducible repeat(first | apply Kd.R_alloc | apply Kd.R_drewN | apply Kd.R_drew));exact HO139.out) (Kd.R_base ho61) hb);have n3_:=Aside0.mk (Kd.R_elder' (by(with_reducible repeat(first | apply Kd.R_alloc | apply Kd.R_drewN | apply Kd.R_drew));exact HO144.out) (Kd.R_base ho61) hb);have n4_:=Aside0.mk (Kd.R_elder' (by(with_reducible repeat(first | apply Kd.R_alloc | apply Kd.R_drewN | apply Kd.R_drew));exact HO148.out) (Kd.R_base ho61) hb);have n5_:=Aside0.mk (Kd.R_elder' (by(with_reducible repeat(first | apply Kd.R_alloc | apply Kd.R_drewN | apply Kd.R_drew));exact HO151.out) (Kd.R_base ho61) hb);have n6_:=Aside0.mk (Kd.R_lower (Kd.R_new' (Kd.R_new' (Kd.R_new' (Kd.R_new' (Kd.R_new' (Kd.R_new' ho61 (Kd.R_lt (by(with_reducible repeat(first | apply Kd.R_alloc | apply Kd.R_drewN | apply Kd.R_drew));exact HO131.out))) (Kd.R_lt (by(with_reducible repeat(first | apply Kd.R_alloc | apply Kd.R_drewN | apply Kd.R_drew));exact HO135.out))) (Kd.R_lt (by(with_reducible repeat(first | apply Kd.R_alloc | apply Kd.R_drewN | apply Kd.R_drew));exact HO139.out))) (Kd.R_lt (by(with_reducible repeat(first | apply Kd.R_alloc | apply Kd.R_drewN | apply Kd.R_drew));exact HO144.out))) (Kd.R_lt (by(with_reducible repeat(first | apply Kd.R_alloc | apply Kd.R_drewN | apply Kd.R_drew));exact HO148.out))) (Kd.R_lt (by(with_reducible repeat(first | apply Kd.R_alloc | apply Kd.R_drewN | apply Kd.R_drew));exact HO151.out))) (bwZ (by repeat(first |(with_reducible first | exact HB.out | apply bwA | apply bwN | apply bw1) | exact HB.out))));have n7_:=Aside0.mk (bwT (by repeat(first |(with_reducible first | exact HB.out | apply bwA | apply bwN | apply bw1) | exact HB.out)) hb);clear HO131;clear HO135;clear HO139;clear HO144;clear HO148;clear HO151;clear HB;have HO131:=n0_;have HO135:=n1_;have HO139:=n2_;have HO144:=n3_;have HO148:=n4_;have HO151:=n5_;have HO155:=n6_;have HB:=n7_;clear n0_ n1_ n2_ n3_ n4_ n5_ n6_ n7_;clear hb ho61;obtain ⟨Ao62,co62,eo62⟩:=Kd.R_slice HO135.out;subst eo62;obtain ⟨Ao63,co63,eo63⟩:=Kd.R_slice HO155.out;subst eo63) |(go_at_call 22;(with_reducible refine(w10_ints.calls k _ _ t132 _ _ y153 true _ ?side1 ?side2 ?side3 ?side4 A19.out).mono ?_);(case side1=>repeat(first | exact(Kd.R_reads' HO135.out).2.2 |(with_reducible refine Kd.C_alloc ?_ _) |(with_reducible refine Kd.C_drewN ?_ _) |(with_reducible refine Kd.C_drew ?_)));(case side2=>exact(Kd.R_reads' HO135.out).2.1);(case side3=>repeat(first | exact(Kd.R_reads' HO155.out).2.2 |(with_reducible refine Kd.C_alloc ?_ _) |(with_reducible refine Kd.C_drewN ?_ _) |(with_reducible refine Kd.C_drew ?_)));(case side4=>exact(Kd.R_reads' HO155.out).2.1);rintro e w' ⟨rfl,⟨nd,rfl⟩⟩) |((with_reducible refine gate_dst (N:=56) rfl ?_);(try(refine gate_guard (by rfl) ?_;dsimp only));refine Kd.R_lit (Kd.int .i64) _ 3 ?hg (N:=56) ?hd (xs:=([3,2,1] : List Int)) (inner:=[.int .i64 3,.int .i64 2,.int .i64 1]) (ok:=fun _=>True) (okp:=fun _=>True) ?hr ?hp (fun _ hk=>hk) trivial (Below.refl _ _) (Nat.le_refl _) (by simp) ?_;(case hd=>rfl);(case hg=>rfl);(case hr=>first |(go_simp;done) |(go_simp;rfl));(case hp=>exact(Reps.one (show Kd.M (Kd.int .i64) _ _ _ 3 [.int .i64 3] from rfl) (Reps.one (show Kd.M (Kd.int .i64) _ _ _ 2 [.int .i64 2] from rfl) (Reps.one (show Kd.M (Kd.int .i64) _ _ _ 1 [.int .i64 1] from rfl) (Reps.none _ _)))));intro v158 w64 ho65 hb hg_ hnew_;clear hg_ hnew_;(first | rw [← Ny157.out] at ho65 |(simp only [Int.reduceToNat] at ho65;rw [← Ny157.out] at ho65));have n0_:=Aside0.mk (Kd.R_elder' (by(with_reducible repeat(first | apply Kd.R_alloc | apply Kd.R_drewN | apply Kd.R_drew));exact HO131.out) (Kd.R_base ho65) hb);have n1_:=Aside0.mk (Kd.R_elder' (by(with_reducible repeat(first | apply Kd.R_alloc | apply Kd.R_drewN | apply Kd.R_drew));exact HO135.out) (Kd.R_base ho65) hb);have n2_:=Aside0.mk (Kd.R_elder' (by(with_reducible repeat(first | apply Kd.R_alloc | apply Kd.R_drewN | apply Kd.R_drew));exact HO139.out) (Kd.R_base ho65) hb);have n3_:=Aside0.mk (Kd.R_elder' (by(with_reducible repeat(first | apply Kd.R_alloc | apply Kd.R_drewN | apply Kd.R_drew));exact HO144.out) (Kd.R_base ho65) hb);have n4_:=Aside0.mk (Kd.R_elder' (by(with_reducible repeat(first | apply Kd.R_alloc | apply Kd.R_drewN | apply Kd.R_drew));exact HO148.out) (Kd.R_base ho65) hb);have n5_:=Aside0.mk (Kd.R_elder' (by(with_reducible repeat(first | apply Kd.R_alloc | apply Kd.R_drewN | apply Kd.R_drew));exact HO151.out) (Kd.R_base ho65) hb);have n6_:=Aside0.mk (Kd.R_elder' (by(with_reducible repeat(first | apply Kd.R_alloc | apply Kd.R_drewN | apply Kd.R_drew));exact HO155.out) (Kd.R_base ho65) hb);have n7_:=Aside0.mk (Kd.R_lower (Kd.R_new' (Kd.R_new' (Kd.R_new' (Kd.R_new' (Kd.R_new' (Kd.R_new' (Kd.R_new' ho65 (Kd.R_lt (by(with_reducible repeat(first | apply Kd.R_alloc | apply Kd.R_drewN | apply Kd.R_drew));exact HO131.out))) (Kd.R_lt (by(with_reducible repeat(first | apply Kd.R_alloc | apply Kd.R_drewN | apply Kd.R_drew));exact HO135.out))) (Kd.R_lt (by(with_reducible repeat(first | apply Kd.R_alloc | apply Kd.R_drewN | apply Kd.R_drew));exact HO139.out))) (Kd.R_lt (by(with_reducible repeat(first | apply Kd.R_alloc | apply Kd.R_drewN | apply Kd.R_drew));exact HO144.out))) (Kd.R_lt (by(with_reducible repeat(first | apply Kd.R_alloc | apply Kd.R_drewN | apply Kd.R_drew));exact HO148.out))) (Kd.R_lt (by(with_reducible repeat(first | apply Kd.R_alloc | apply Kd.R_drewN | apply Kd.R_drew));exact HO151.out))) (Kd.R_lt (by(with_reducible repeat(first | apply Kd.R_alloc | apply Kd.R_drewN | apply Kd.R_drew));exact HO155.out))) (bwZ (by repeat(first |(with_reducible first | exact HB.out | apply bwA | apply bwN | apply bw1) | exact HB.out))));have n8_:=Aside0.mk (bwT (by repeat(first |(with_reducible first | exact HB.out | apply bwA | apply bwN | apply bw1) | exact HB.out)) hb);clear HO131;clear HO135;clear HO139;clear HO144;clear HO148;clear HO151;clear HO155;clear HB;have HO131:=n0_;have HO135:=n1_;have HO139:=n2_;have HO144:=n3_;have HO148:=n4_;have HO151:=n5_;have HO155:=n6_;have HO159:=n7_;have HB:=n8_;clear n0_ n1_ n2_ n3_ n4_ n5_ n6_ n7_ n8_;clear hb ho65;obtain ⟨Ao66,co66,eo66⟩:=Kd.R_slice HO139.out;subst eo66;obtain ⟨Ao67,co67,eo67⟩:=Kd.R_slice HO159.out;subst eo67) |(go_at_call 22;(with_reducible refine(w10_ints.calls k _ _ t136 _ _ y157 true _ ?side1 ?side2 ?side3 ?side4 A22.out).mono ?_);(case side1=>repeat(first | exact(Kd.R_reads' HO139.out).2.2 |(with_reducible refine Kd.C_alloc ?_ _) |(with_reducible refine Kd.C_drewN ?_ _) |(with_reducible refine Kd.C_drew ?_)));(case side2=>exact(Kd.R_reads' HO139.out).2.1);(case side3=>repeat(first | exact(Kd.R_reads' HO159.out).2.2 |(with_reducible refine Kd.C_alloc ?_ _) |(with_reducible refine Kd.C_drewN ?_ _) |(with_reducible refine Kd.C_drew ?_)));(case side4=>exact(Kd.R_reads' HO159.out).2.1);rintro e w' ⟨rfl,⟨nd,rfl⟩⟩))
   go_meet
   exact⟨_,(true),(by first | rfl |(simp;done) |(simp [*];done)),H',⟨by first | omega | exact Nat.le_refl _⟩,⟨by repeat(first |(with_reducible first | exact HB.out | apply bwA | apply bwN | apply bw1) | exact HB.out)⟩⟩
  rw [if_pos c25] at H
  have c25b0 :(t140 == 52) = true:=beq_iff_eq.mpr c25
  have c25b1 :(t140 != 52) = false:=bne_eq_false_iff_eq.mpr c25
  clear c25
  by_cases c26 : t146 = 0
  rotate_left
  ·rw [if_neg c26] at H
   have c26b0 :(t146 == 0) = false:=beq_eq_false_iff_ne.mpr c26
   have c26b1 :(t146 != 0) = true:=bne_iff_ne.mpr c26
   have H':=Aside0.mk H
   clear H
   go_wp2_with (first |((with_reducible refine gate_dst (N:=36) rfl ?_);(try(refine gate_guard (by rfl) ?_;dsimp only));refine Kd.R_lit (Kd.int .i64) _ 3 ?hg (N:=36) ?hd (xs:=([1,2] : List Int)) (inner:=[.int .i64 1,.int .i64 2]) (ok:=fun _=>True) (okp:=fun _=>True) ?hr ?hp (fun _ hk=>hk) trivial (Below.refl _ _) (Nat.le_refl _) (by simp) ?_;(case hd=>rfl);(case hg=>rfl);(case hr=>first |(go_simp;done) |(go_simp;rfl));(case hp=>exact(Reps.one (show Kd.M (Kd.int .i64) _ _ _ 1 [.int .i64 1] from rfl) (Reps.one (show Kd.M (Kd.int .i64) _ _ _ 2 [.int .i64 2] from rfl) (Reps.none _ _))));intro v150 w44 ho45 hb hg_ hnew_;clear hg_ hnew_;(first | rw [← Ny149.out] at ho45 |(simp only [Int.reduceToNat] at ho45;rw [← Ny149.out] at ho45));have n0_:=Aside0.mk (Kd.R_elder' (by(with_reducible repeat(first | apply Kd.R_alloc | apply Kd.R_drewN | apply Kd.R_drew));exact HO131.out) (Kd.R_base ho45) hb);have n1_:=Aside0.mk (Kd.R_elder' (by(with_reducible repeat(first | apply Kd.R_alloc | apply Kd.R_drewN | apply Kd.R_drew));exact HO135.out) (Kd.R_base ho45) hb);have n2_:=Aside0.mk (Kd.R_elder' (by(with_reducible repeat(first | apply Kd.R_alloc | apply Kd.R_drewN | apply Kd.R_drew));exact HO139.out) (Kd.R_base ho45) hb);have n3_:=Aside0.mk (Kd.R_elder' (by(with_reducible repeat(first | apply Kd.R_alloc | apply Kd.R_drewN | apply Kd.R_drew));exact HO144.out) (Kd.R_base ho45) hb);have n4_:=Aside0.mk (Kd.R_elder' (by(with_reducible repeat(first | apply Kd.R_alloc | apply Kd.R_drewN | apply Kd.R_drew));exact HO148.out) (Kd.R_base ho45) hb);have n5_:=Aside0.mk (Kd.R_lower (Kd.R_new' (Kd.R_new' (Kd.R_new' (Kd.R_new' (Kd.R_new' ho45 (Kd.R_lt (by(with_reducible repeat(first | apply Kd.R_alloc | apply Kd.R_drewN | apply Kd.R_drew));exact HO131.out))) (Kd.R_lt (by(with_reducible repeat(first | apply Kd.R_alloc | apply Kd.R_drewN | apply Kd.R_drew));exact HO135.out))) (Kd.R_lt (by(with_reducible repeat(first | apply Kd.R_alloc | apply Kd.R_drewN | apply Kd.R_drew));exact HO139.out))) (Kd.R_lt (by(with_reducible repeat(first | apply Kd.R_alloc | apply Kd.R_drewN | apply Kd.R_drew));exact HO144.out))) (Kd.R_lt (by(with_reducible repeat(first | apply Kd.R_alloc | apply Kd.R_drewN | apply Kd.R_drew));exact HO148.out))) (bwZ (by repeat(first |(with_reducible first | exact HB.out | apply bwA | apply bwN | apply bw1) | exact HB.out))));have n6_:=Aside0.mk (bwT (by repeat(first |(with_reducible first | exact HB.out | apply bwA | apply bwN | apply bw1) | exact HB.out)) hb);clear HO131;clear HO135;clear HO139;clear HO144;clear HO148;clear HB;have HO131:=n0_;have HO135:=n1_;have HO139:=n2_;have HO144:=n3_;have HO148:=n4_;have HO151:=n5_;have HB:=n6_;clear n0_ n1_ n2_ n3_ n4_ n5_ n6_;clear hb ho45;obtain ⟨Ao46,co46,eo46⟩:=Kd.R_slice HO131.out;subst eo46;obtain ⟨Ao47,co47,eo47⟩:=Kd.R_slice HO151.out;subst eo47) |(go_at_call 22;(with_reducible refine(w10_ints.calls k _ _ t128 _ _ y149 true _ ?side1 ?side2 ?side3 ?side4 A16.out).mono ?_);(case side1=>repeat(first | exact(Kd.R_reads' HO131.out).2.2 |(with_reducible refine Kd.C_alloc ?_ _) |(with_reducible refine Kd.C_drewN ?_ _) |(with_reducible refine Kd.C_drew ?_)));(case side2=>exact(Kd.R_reads' HO131.out).2.1);(case side3=>repeat(first | exact(Kd.R_reads' HO151.out).2.2 |(with_reducible refine Kd.C_alloc ?_ _) |(with_reducible refine Kd.C_drewN ?_ _) |(with_reducible refine Kd.C_drew ?_)));(case side4=>exact(Kd.R_reads' HO151.out).2.1);rintro e w' ⟨rfl,⟨nd,rfl⟩⟩) |((with_reducible refine gate_dst (N:=46) rfl ?_);(try(refine gate_guard (by rfl) ?_;dsimp only));refine Kd.R_lit (Kd.int .i64) _ 3 ?hg (N:=46) ?hd (xs:=([2,3] : List Int)) (inner:=[.int .i64 2,.int .i64 3]) (ok:=fun _=>True) (okp:=fun _=>True) ?hr ?hp (fun _ hk=>hk) trivial (Below.refl _ _) (Nat.le_refl _) (by simp) ?_;(case hd=>rfl);(case hg=>rfl);(case hr=>first |(go_simp;done) |(go_simp;rfl));(case hp=>exact(Reps.one (show Kd.M (Kd.int .i64) _ _ _ 2 [.int .i64 2] from rfl) (Reps.one (show Kd.M (Kd.int .i64) _ _ _ 3 [.int .i64 3] from rfl) (Reps.none _ _))));intro v154 w48 ho49 hb hg_ hnew_;clear hg_ hnew_;(first | rw [← Ny153.out] at ho49 |(simp only [Int.reduceToNat] at ho49;rw [← Ny153.out] at ho49));have n0_:=Aside0.mk (Kd.R_elder' (by(with_reducible repeat(first | apply Kd.R_alloc | apply Kd.R_drewN | apply Kd.R_drew));exact HO131.out) (Kd.R_base ho49) hb);have n1_:=Aside0.mk (Kd.R_elder' (by(with_reducible repeat(first | apply Kd.R_alloc | apply Kd.R_drewN | apply Kd.R_drew));exact HO135.out) (Kd.R_base ho49) hb);have n2_:=Aside0.mk (Kd.R_elder' (by(with_reducible repeat(first | apply Kd.R_alloc | apply Kd.R_drewN | apply Kd.R_drew));exact HO139.out) (Kd.R_base ho49) hb);have n3_:=Aside0.mk (Kd.R_elder' (by(with_reducible repeat(first | apply Kd.R_alloc | apply Kd.R_drewN | apply Kd.R_drew));exact HO144.out) (Kd.R_base ho49) hb);have n4_:=Aside0.mk (Kd.R_elder' (by(with_reducible repeat(first | apply Kd.R_alloc | apply Kd.R_drewN | apply Kd.R_drew));exact HO148.out) (Kd.R_base ho49) hb);have n5_:=Aside0.mk (Kd.R_elder' (by(with_reducible repeat(first | apply Kd.R_alloc | apply Kd.R_drewN | apply Kd.R_drew));exact HO151.out) (Kd.R_base ho49) hb);have n6_:=Aside0.mk (Kd.R_lower (Kd.R_new' (Kd.R_new' (Kd.R_new' (Kd.R_new' (Kd.R_new' (Kd.R_new' ho49 (Kd.R_lt (by(with_reducible repeat(first | apply Kd.R_alloc | apply Kd.R_drewN | apply Kd.R_drew));exact HO131.out))) (Kd.R_lt (by(with_reducible repeat(first | apply Kd.R_alloc | apply Kd.R_drewN | apply Kd.R_drew));exact HO135.out))) (Kd.R_lt (by(with_reducible repeat(first | apply Kd.R_alloc | apply Kd.R_drewN | apply Kd.R_drew));exact HO139.out))) (Kd.R_lt (by(with_reducible repeat(first | apply Kd.R_alloc | apply Kd.R_drewN | apply Kd.R_drew));exact HO144.out))) (Kd.R_lt (by(with_reducible repeat(first | apply Kd.R_alloc | apply Kd.R_drewN | apply Kd.R_drew));exact HO148.out))) (Kd.R_lt (by(with_reducible repeat(first | apply Kd.R_alloc | apply Kd.R_drewN | apply Kd.R_drew));exact HO151.out))) (bwZ (by repeat(first |(with_reducible first | exact HB.out | apply bwA | apply bwN | apply bw1) | exact HB.out))));have n7_:=Aside0.mk (bwT (by repeat(first |(with_reducible first | exact HB.out | apply bwA | apply bwN | apply bw1) | exact HB.out)) hb);clear HO131;clear HO135;clear HO139;clear HO144;clear HO148;clear HO151;clear HB;have HO131:=n0_;have HO135:=n1_;have HO139:=n2_;have HO144:=n3_;have HO148:=n4_;have HO151:=n5_;have HO155:=n6_;have HB:=n7_;clear n0_ n1_ n2_ n3_ n4_ n5_ n6_ n7_;clear hb ho49;obtain ⟨Ao50,co50,eo50⟩:=Kd.R_slice HO135.out;subst eo50;obtain ⟨Ao51,co51,eo51⟩:=Kd.R_slice HO155.out;subst eo51) |(go_at_call 22;(with_reducible refine(w10_ints.calls k _ _ t132 _ _ y153 true _ ?side1 ?side2 ?side3 ?side4 A19.out).mono ?_);(case side1=>repeat(first | exact(Kd.R_reads' HO135.out).2.2 |(with_reducible refine Kd.C_alloc ?_ _) |(with_reducible refine Kd.C_drewN ?_ _) |(with_reducible refine Kd.C_drew ?_)));(case side2=>exact(Kd.R_reads' HO135.out).2.1);(case side3=>repeat(first | exact(Kd.R_reads' HO155.out).2.2 |(with_reducible refine Kd.C_alloc ?_ _) |(with_reducible refine Kd.C_drewN ?_ _) |(with_reducible refine Kd.C_drew ?_)));(case side4=>exact(Kd.R_reads' HO155.out).2.1);rintro e w' ⟨rfl,⟨nd,rfl⟩⟩) |((with_reducible refine gate_dst (N:=56) rfl ?_);(try(refine gate_guard (by rfl) ?_;dsimp only));refine Kd.R_lit (Kd.int .i64) _ 3 ?hg (N:=56) ?hd (xs:=([3,2,1] : List Int)) (inner:=[.int .i64 3,.int .i64 2,.int .i64 1]) (ok:=fun _=>True) (okp:=fun _=>True) ?hr ?hp (fun _ hk=>hk) trivial (Below.refl _ _) (Nat.le_refl _) (by simp) ?_;(case hd=>rfl);(case hg=>rfl);(case hr=>first |(go_simp;done) |(go_simp;rfl));(case hp=>exact(Reps.one (show Kd.M (Kd.int .i64) _ _ _ 3 [.int .i64 3] from rfl) (Reps.one (show Kd.M (Kd.int .i64) _ _ _ 2 [.int .i64 2] from rfl) (Reps.one (show Kd.M (Kd.int .i64) _ _ _ 1 [.int .i64 1] from rfl) (Reps.none _ _)))));intro v158 w52 ho53 hb hg_ hnew_;clear hg_ hnew_;(first | rw [← Ny157.out] at ho53 |(simp only [Int.reduceToNat] at ho53;rw [← Ny157.out] at ho53));have n0_:=Aside0.mk (Kd.R_elder' (by(with_reducible repeat(first | apply Kd.R_alloc | apply Kd.R_drewN | apply Kd.R_drew));exact HO131.out) (Kd.R_base ho53) hb);have n1_:=Aside0.mk (Kd.R_elder' (by(with_reducible repeat(first | apply Kd.R_alloc | apply Kd.R_drewN | apply Kd.R_drew));exact HO135.out) (Kd.R_base ho53) hb);have n2_:=Aside0.mk (Kd.R_elder' (by(with_reducible repeat(first | apply Kd.R_alloc | apply Kd.R_drewN | apply Kd.R_drew));exact HO139.out) (Kd.R_base ho53) hb);have n3_:=Aside0.mk (Kd.R_elder' (by(with_reducible repeat(first | apply Kd.R_alloc | apply Kd.R_drewN | apply Kd.R_drew));exact HO144.out) (Kd.R_base ho53) hb);have n4_:=Aside0.mk (Kd.R_elder' (by(with_reducible repeat(first | apply Kd.R_alloc | apply Kd.R_drewN | apply Kd.R_drew));exact HO148.out) (Kd.R_base ho53) hb);have n5_:=Aside0.mk (Kd.R_elder' (by(with_reducible repeat(first | apply Kd.R_alloc | apply Kd.R_drewN | apply Kd.R_drew));exact HO151.out) (Kd.R_base ho53) hb);have n6_:=Aside0.mk (Kd.R_elder' (by(with_reducible repeat(first | apply Kd.R_alloc | apply Kd.R_drewN | apply Kd.R_drew));exact HO155.out) (Kd.R_base ho53) hb);have n7_:=Aside0.mk (Kd.R_lower (Kd.R_new' (Kd.R_new' (Kd.R_new' (Kd.R_new' (Kd.R_new' (Kd.R_new' (Kd.R_new' ho53 (Kd.R_lt (by(with_reducible repeat(first | apply Kd.R_alloc | apply Kd.R_drewN | apply Kd.R_drew));exact HO131.out))) (Kd.R_lt (by(with_reducible repeat(first | apply Kd.R_alloc | apply Kd.R_drewN | apply Kd.R_drew));exact HO135.out))) (Kd.R_lt (by(with_reducible repeat(first | apply Kd.R_alloc | apply Kd.R_drewN | apply Kd.R_drew));exact HO139.out))) (Kd.R_lt (by(with_reducible repeat(first | apply Kd.R_alloc | apply Kd.R_drewN | apply Kd.R_drew));exact HO144.out))) (Kd.R_lt (by(with_reducible repeat(first | apply Kd.R_alloc | apply Kd.R_drewN | apply Kd.R_drew));exact HO148.out))) (Kd.R_lt (by(with_reducible repeat(first | apply Kd.R_alloc | apply Kd.R_drewN | apply Kd.R_drew));exact HO151.out))) (Kd.R_lt (by(with_reducible repeat(first | apply Kd.R_alloc | apply Kd.R_drewN | apply Kd.R_drew));exact HO155.out))) (bwZ (by repeat(first |(with_reducible first | exact HB.out | apply bwA | apply bwN | apply bw1) | exact HB.out))));have n8_:=Aside0.mk (bwT (by repeat(first |(with_reducible first | exact HB.out | apply bwA | apply bwN | apply bw1) | exact HB.out)) hb);clear HO131;clear HO135;clear HO139;clear HO144;clear HO148;clear HO151;clear HO155;clear HB;have HO131:=n0_;have HO135:=n1_;have HO139:=n2_;have HO144:=n3_;have HO148:=n4_;have HO151:=n5_;have HO155:=n6_;have HO159:=n7_;have HB:=n8_;clear n0_ n1_ n2_ n3_ n4_ n5_ n6_ n7_ n8_;clear hb ho53;obtain ⟨Ao54,co54,eo54⟩:=Kd.R_slice HO139.out;subst eo54;obtain ⟨Ao55,co55,eo55⟩:=Kd.R_slice HO159.out;subst eo55) |(go_at_call 22;(with_reducible refine(w10_ints.calls k _ _ t136 _ _ y157 true _ ?side1 ?side2 ?side3 ?side4 A22.out).mono ?_);(case side1=>repeat(first | exact(Kd.R_reads' HO139.out).2.2 |(with_reducible refine Kd.C_alloc ?_ _) |(with_reducible refine Kd.C_drewN ?_ _) |(with_reducible refine Kd.C_drew ?_)));(case side2=>exact(Kd.R_reads' HO139.out).2.1);(case side3=>repeat(first | exact(Kd.R_reads' HO159.out).2.2 |(with_reducible refine Kd.C_alloc ?_ _) |(with_reducible refine Kd.C_drewN ?_ _) |(with_reducible refine Kd.C_drew ?_)));(case side4=>exact(Kd.R_reads' HO159.out).2.1);rintro e w' ⟨rfl,⟨nd,rfl⟩⟩))
   go_meet
   exact⟨_,(true),(by first | rfl |(simp;done) |(simp [*];done)),H',⟨by first | omega | exact Nat.le_refl _⟩,⟨by repeat(first |(with_reducible first | exact HB.out | apply bwA | apply bwN | apply bw1) | exact HB.out)⟩⟩
  rw [if_pos c26] at H
  have c26b0 :(t146 == 0) = true:=beq_iff_eq.mpr c26
  have c26b1 :(t146 != 0) = false:=bne_eq_false_iff_eq.mpr c26
  clear c26
  obtain ⟨y161,hy161⟩ : ∃ y_ : List Int,y_ =(([1,2] : List Int)):=⟨_,rfl⟩
  replace H :((w10_ints.f k t145 y161).bind fun t164=>(w10_awake.j0 k (!t164))) = some r:=by first |(rw [hy161];with_reducible exact H) |(have H2_:=(Option.bind_some _ _).symm.trans H;rw [hy161];with_reducible exact H2_) |(have H2_:=(Option.bind_some _ _).symm.trans H;with_reducible exact H2_) | with_reducible exact H |(rw [hy161];exact H) | exact H
  have Ny161:=Aside0.mk hy161
  clear hy161
  replace H:=Option.bind_eq_some_iff.mp H
  obtain ⟨t164,A270,H⟩:=H
  replace H :(w10_awake.j0 k (!t164)) = some r:=H
  have A27:=Aside0.mk A270
  clear A270
  have H':=Aside0.mk H
  clear H
  go_wp2_with (first |((with_reducible refine gate_dst (N:=36) rfl ?_);(try(refine gate_guard (by rfl) ?_;dsimp only));refine Kd.R_lit (Kd.int .i64) _ 3 ?hg (N:=36) ?hd (xs:=([1,2] : List Int)) (inner:=[.int .i64 1,.int .i64 2]) (ok:=fun _=>True) (okp:=fun _=>True) ?hr ?hp (fun _ hk=>hk) trivial (Below.refl _ _) (Nat.le_refl _) (by simp) ?_;(case hd=>rfl);(case hg=>rfl);(case hr=>first |(go_simp;done) |(go_simp;rfl));(case hp=>exact(Reps.one (show Kd.M (Kd.int .i64) _ _ _ 1 [.int .i64 1] from rfl) (Reps.one (show Kd.M (Kd.int .i64) _ _ _ 2 [.int .i64 2] from rfl) (Reps.none _ _))));intro v150 w28 ho29 hb hg_ hnew_;clear hg_ hnew_;(first | rw [← Ny149.out] at ho29 |(simp only [Int.reduceToNat] at ho29;rw [← Ny149.out] at ho29));have n0_:=Aside0.mk (Kd.R_elder' (by(with_reducible repeat(first | apply Kd.R_alloc | apply Kd.R_drewN | apply Kd.R_drew));exact HO131.out) (Kd.R_base ho29) hb);have n1_:=Aside0.mk (Kd.R_elder' (by(with_reducible repeat(first | apply Kd.R_alloc | apply Kd.R_drewN | apply Kd.R_drew));exact HO135.out) (Kd.R_base ho29) hb);have n2_:=Aside0.mk (Kd.R_elder' (by(with_reducible repeat(first | apply Kd.R_alloc | apply Kd.R_drewN | apply Kd.R_drew));exact HO139.out) (Kd.R_base ho29) hb);have n3_:=Aside0.mk (Kd.R_elder' (by(with_reducible repeat(first | apply Kd.R_alloc | apply Kd.R_drewN | apply Kd.R_drew));exact HO144.out) (Kd.R_base ho29) hb);have n4_:=Aside0.mk (Kd.R_elder' (by(with_reducible repeat(first | apply Kd.R_alloc | apply Kd.R_drewN | apply Kd.R_drew));exact HO148.out) (Kd.R_base ho29) hb);have n5_:=Aside0.mk (Kd.R_lower (Kd.R_new' (Kd.R_new' (Kd.R_new' (Kd.R_new' (Kd.R_new' ho29 (Kd.R_lt (by(with_reducible repeat(first | apply Kd.R_alloc | apply Kd.R_drewN | apply Kd.R_drew));exact HO131.out))) (Kd.R_lt (by(with_reducible repeat(first | apply Kd.R_alloc | apply Kd.R_drewN | apply Kd.R_drew));exact HO135.out))) (Kd.R_lt (by(with_reducible repeat(first | apply Kd.R_alloc | apply Kd.R_drewN | apply Kd.R_drew));exact HO139.out))) (Kd.R_lt (by(with_reducible repeat(first | apply Kd.R_alloc | apply Kd.R_drewN | apply Kd.R_drew));exact HO144.out))) (Kd.R_lt (by(with_reducible repeat(first | apply Kd.R_alloc | apply Kd.R_drewN | apply Kd.R_drew));exact HO148.out))) (bwZ (by repeat(first |(with_reducible first | exact HB.out | apply bwA | apply bwN | apply bw1) | exact HB.out))));have n6_:=Aside0.mk (bwT (by repeat(first |(with_reducible first | exact HB.out | apply bwA | apply bwN | apply bw1) | exact HB.out)) hb);clear HO131;clear HO135;clear HO139;clear HO144;clear HO148;clear HB;have HO131:=n0_;have HO135:=n1_;have HO139:=n2_;have HO144:=n3_;have HO148:=n4_;have HO151:=n5_;have HB:=n6_;clear n0_ n1_ n2_ n3_ n4_ n5_ n6_;clear hb ho29;obtain ⟨Ao30,co30,eo30⟩:=Kd.R_slice HO131.out;subst eo30;obtain ⟨Ao31,co31,eo31⟩:=Kd.R_slice HO151.out;subst eo31) |(go_at_call 22;(with_reducible refine(w10_ints.calls k _ _ t128 _ _ y149 true _ ?side1 ?side2 ?side3 ?side4 A16.out).mono ?_);(case side1=>repeat(first | exact(Kd.R_reads' HO131.out).2.2 |(with_reducible refine Kd.C_alloc ?_ _) |(with_reducible refine Kd.C_drewN ?_ _) |(with_reducible refine Kd.C_drew ?_)));(case side2=>exact(Kd.R_reads' HO131.out).2.1);(case side3=>repeat(first | exact(Kd.R_reads' HO151.out).2.2 |(with_reducible refine Kd.C_alloc ?_ _) |(with_reducible refine Kd.C_drewN ?_ _) |(with_reducible refine Kd.C_drew ?_)));(case side4=>exact(Kd.R_reads' HO151.out).2.1);rintro e w' ⟨rfl,⟨nd,rfl⟩⟩) |((with_reducible refine gate_dst (N:=46) rfl ?_);(try(refine gate_guard (by rfl) ?_;dsimp only));refine Kd.R_lit (Kd.int .i64) _ 3 ?hg (N:=46) ?hd (xs:=([2,3] : List Int)) (inner:=[.int .i64 2,.int .i64 3]) (ok:=fun _=>True) (okp:=fun _=>True) ?hr ?hp (fun _ hk=>hk) trivial (Below.refl _ _) (Nat.le_refl _) (by simp) ?_;(case hd=>rfl);(case hg=>rfl);(case hr=>first |(go_simp;done) |(go_simp;rfl));(case hp=>exact(Reps.one (show Kd.M (Kd.int .i64) _ _ _ 2 [.int .i64 2] from rfl) (Reps.one (show Kd.M (Kd.int .i64) _ _ _ 3 [.int .i64 3] from rfl) (Reps.none _ _))));intro v154 w32 ho33 hb hg_ hnew_;clear hg_ hnew_;(first | rw [← Ny153.out] at ho33 |(simp only [Int.reduceToNat] at ho33;rw [← Ny153.out] at ho33));have n0_:=Aside0.mk (Kd.R_elder' (by(with_reducible repeat(first | apply Kd.R_alloc | apply Kd.R_drewN | apply Kd.R_drew));exact HO131.out) (Kd.R_base ho33) hb);have n1_:=Aside0.mk (Kd.R_elder' (by(with_reducible repeat(first | apply Kd.R_alloc | apply Kd.R_drewN | apply Kd.R_drew));exact HO135.out) (Kd.R_base ho33) hb);have n2_:=Aside0.mk (Kd.R_elder' (by(with_reducible repeat(first | apply Kd.R_alloc | apply Kd.R_drewN | apply Kd.R_drew));exact HO139.out) (Kd.R_base ho33) hb);have n3_:=Aside0.mk (Kd.R_elder' (by(with_reducible repeat(first | apply Kd.R_alloc | apply Kd.R_drewN | apply Kd.R_drew));exact HO144.out) (Kd.R_base ho33) hb);have n4_:=Aside0.mk (Kd.R_elder' (by(with_reducible repeat(first | apply Kd.R_alloc | apply Kd.R_drewN | apply Kd.R_drew));exact HO148.out) (Kd.R_base ho33) hb);have n5_:=Aside0.mk (Kd.R_elder' (by(with_reducible repeat(first | apply Kd.R_alloc | apply Kd.R_drewN | apply Kd.R_drew));exact HO151.out) (Kd.R_base ho33) hb);have n6_:=Aside0.mk (Kd.R_lower (Kd.R_new' (Kd.R_new' (Kd.R_new' (Kd.R_new' (Kd.R_new' (Kd.R_new' ho33 (Kd.R_lt (by(with_reducible repeat(first | apply Kd.R_alloc | apply Kd.R_drewN | apply Kd.R_drew));exact HO131.out))) (Kd.R_lt (by(with_reducible repeat(first | apply Kd.R_alloc | apply Kd.R_drewN | apply Kd.R_drew));exact HO135.out))) (Kd.R_lt (by(with_reducible repeat(first | apply Kd.R_alloc | apply Kd.R_drewN | apply Kd.R_drew));exact HO139.out))) (Kd.R_lt (by(with_reducible repeat(first | apply Kd.R_alloc | apply Kd.R_drewN | apply Kd.R_drew));exact HO144.out))) (Kd.R_lt (by(with_reducible repeat(first | apply Kd.R_alloc | apply Kd.R_drewN | apply Kd.R_drew));exact HO148.out))) (Kd.R_lt (by(with_reducible repeat(first | apply Kd.R_alloc | apply Kd.R_drewN | apply Kd.R_drew));exact HO151.out))) (bwZ (by repeat(first |(with_reducible first | exact HB.out | apply bwA | apply bwN | apply bw1) | exact HB.out))));have n7_:=Aside0.mk (bwT (by repeat(first |(with_reducible first | exact HB.out | apply bwA | apply bwN | apply bw1) | exact HB.out)) hb);clear HO131;clear HO135;clear HO139;clear HO144;clear HO148;clear HO151;clear HB;have HO131:=n0_;have HO135:=n1_;have HO139:=n2_;have HO144:=n3_;have HO148:=n4_;have HO151:=n5_;have HO155:=n6_;have HB:=n7_;clear n0_ n1_ n2_ n3_ n4_ n5_ n6_ n7_;clear hb ho33;obtain ⟨Ao34,co34,eo34⟩:=Kd.R_slice HO135.out;subst eo34;obtain ⟨Ao35,co35,eo35⟩:=Kd.R_slice HO155.out;subst eo35) |(go_at_call 22;(with_reducible refine(w10_ints.calls k _ _ t132 _ _ y153 true _ ?side1 ?side2 ?side3 ?side4 A19.out).mono ?_);(case side1=>repeat(first | exact(Kd.R_reads' HO135.out).2.2 |(with_reducible refine Kd.C_alloc ?_ _) |(with_reducible refine Kd.C_drewN ?_ _) |(with_reducible refine Kd.C_drew ?_)));(case side2=>exact(Kd.R_reads' HO135.out).2.1);(case side3=>repeat(first | exact(Kd.R_reads' HO155.out).2.2 |(with_reducible refine Kd.C_alloc ?_ _) |(with_reducible refine Kd.C_drewN ?_ _) |(with_reducible refine Kd.C_drew ?_)));(case side4=>exact(Kd.R_reads' HO155.out).2.1);rintro e w' ⟨rfl,⟨nd,rfl⟩⟩) |((with_reducible refine gate_dst (N:=56) rfl ?_);(try(refine gate_guard (by rfl) ?_;dsimp only));refine Kd.R_lit (Kd.int .i64) _ 3 ?hg (N:=56) ?hd (xs:=([3,2,1] : List Int)) (inner:=[.int .i64 3,.int .i64 2,.int .i64 1]) (ok:=fun _=>True) (okp:=fun _=>True) ?hr ?hp (fun _ hk=>hk) trivial (Below.refl _ _) (Nat.le_refl _) (by simp) ?_;(case hd=>rfl);(case hg=>rfl);(case hr=>first |(go_simp;done) |(go_simp;rfl));(case hp=>exact(Reps.one (show Kd.M (Kd.int .i64) _ _ _ 3 [.int .i64 3] from rfl) (Reps.one (show Kd.M (Kd.int .i64) _ _ _ 2 [.int .i64 2] from rfl) (Reps.one (show Kd.M (Kd.int .i64) _ _ _ 1 [.int .i64 1] from rfl) (Reps.none _ _)))));intro v158 w36 ho37 hb hg_ hnew_;clear hg_ hnew_;(first | rw [← Ny157.out] at ho37 |(simp only [Int.reduceToNat] at ho37;rw [← Ny157.out] at ho37));have n0_:=Aside0.mk (Kd.R_elder' (by(with_reducible repeat(first | apply Kd.R_alloc | apply Kd.R_drewN | apply Kd.R_drew));exact HO131.out) (Kd.R_base ho37) hb);have n1_:=Aside0.mk (Kd.R_elder' (by(with_reducible repeat(first | apply Kd.R_alloc | apply Kd.R_drewN | apply Kd.R_drew));exact HO135.out) (Kd.R_base ho37) hb);have n2_:=Aside0.mk (Kd.R_elder' (by(with_reducible repeat(first | apply Kd.R_alloc | apply Kd.R_drewN | apply Kd.R_drew));exact HO139.out) (Kd.R_base ho37) hb);have n3_:=Aside0.mk (Kd.R_elder' (by(with_reducible repeat(first | apply Kd.R_alloc | apply Kd.R_drewN | apply Kd.R_drew));exact HO144.out) (Kd.R_base ho37) hb);have n4_:=Aside0.mk (Kd.R_elder' (by(with_reducible repeat(first | apply Kd.R_alloc | apply Kd.R_drewN | apply Kd.R_drew));exact HO148.out) (Kd.R_base ho37) hb);have n5_:=Aside0.mk (Kd.R_elder' (by(with_reducible repeat(first | apply Kd.R_alloc | apply Kd.R_drewN | apply Kd.R_drew));exact HO151.out) (Kd.R_base ho37) hb);have n6_:=Aside0.mk (Kd.R_elder' (by(with_reducible repeat(first | apply Kd.R_alloc | apply Kd.R_drewN | apply Kd.R_drew));exact HO155.out) (Kd.R_base ho37) hb);have n7_:=Aside0.mk (Kd.R_lower (Kd.R_new' (Kd.R_new' (Kd.R_new' (Kd.R_new' (Kd.R_new' (Kd.R_new' (Kd.R_new' ho37 (Kd.R_lt (by(with_reducible repeat(first | apply Kd.R_alloc | apply Kd.R_drewN | apply Kd.R_drew));exact HO131.out))) (Kd.R_lt (by(with_reducible repeat(first | apply Kd.R_alloc | apply Kd.R_drewN | apply Kd.R_drew));exact HO135.out))) (Kd.R_lt (by(with_reducible repeat(first | apply Kd.R_alloc | apply Kd.R_drewN | apply Kd.R_drew));exact HO139.out))) (Kd.R_lt (by(with_reducible repeat(first | apply Kd.R_alloc | apply Kd.R_drewN | apply Kd.R_drew));exact HO144.out))) (Kd.R_lt (by(with_reducible repeat(first | apply Kd.R_alloc | apply Kd.R_drewN | apply Kd.R_drew));exact HO148.out))) (Kd.R_lt (by(with_reducible repeat(first | apply Kd.R_alloc | apply Kd.R_drewN | apply Kd.R_drew));exact HO151.out))) (Kd.R_lt (by(with_reducible repeat(first | apply Kd.R_alloc | apply Kd.R_drewN | apply Kd.R_drew));exact HO155.out))) (bwZ (by repeat(first |(with_reducible first | exact HB.out | apply bwA | apply bwN | apply bw1) | exact HB.out))));have n8_:=Aside0.mk (bwT (by repeat(first |(with_reducible first | exact HB.out | apply bwA | apply bwN | apply bw1) | exact HB.out)) hb);clear HO131;clear HO135;clear HO139;clear HO144;clear HO148;clear HO151;clear HO155;clear HB;have HO131:=n0_;have HO135:=n1_;have HO139:=n2_;have HO144:=n3_;have HO148:=n4_;have HO151:=n5_;have HO155:=n6_;have HO159:=n7_;have HB:=n8_;clear n0_ n1_ n2_ n3_ n4_ n5_ n6_ n7_ n8_;clear hb ho37;obtain ⟨Ao38,co38,eo38⟩:=Kd.R_slice HO139.out;subst eo38;obtain ⟨Ao39,co39,eo39⟩:=Kd.R_slice HO159.out;subst eo39) |(go_at_call 22;(with_reducible refine(w10_ints.calls k _ _ t136 _ _ y157 true _ ?side1 ?side2 ?side3 ?side4 A22.out).mono ?_);(case side1=>repeat(first | exact(Kd.R_reads' HO139.out).2.2 |(with_reducible refine Kd.C_alloc ?_ _) |(with_reducible refine Kd.C_drewN ?_ _) |(with_reducible refine Kd.C_drew ?_)));(case side2=>exact(Kd.R_reads' HO139.out).2.1);(case side3=>repeat(first | exact(Kd.R_reads' HO159.out).2.2 |(with_reducible refine Kd.C_alloc ?_ _) |(with_reducible refine Kd.C_drewN ?_ _) |(with_reducible refine Kd.C_drew ?_)));(case side4=>exact(Kd.R_reads' HO159.out).2.1);rintro e w' ⟨rfl,⟨nd,rfl⟩⟩) |((with_reducible refine gate_dst (N:=74) rfl ?_);(try(refine gate_guard (by rfl) ?_;dsimp only));refine Kd.R_lit (Kd.int .i64) _ 3 ?hg (N:=74) ?hd (xs:=([1,2] : List Int)) (inner:=[.int .i64 1,.int .i64 2]) (ok:=fun _=>True) (okp:=fun _=>True) ?hr ?hp (fun _ hk=>hk) trivial (Below.refl _ _) (Nat.le_refl _) (by simp) ?_;(case hd=>rfl);(case hg=>rfl);(case hr=>first |(go_simp;done) |(go_simp;rfl));(case hp=>exact(Reps.one (show Kd.M (Kd.int .i64) _ _ _ 1 [.int .i64 1] from rfl) (Reps.one (show Kd.M (Kd.int .i64) _ _ _ 2 [.int .i64 2] from rfl) (Reps.none _ _))));intro v162 w40 ho41 hb hg_ hnew_;clear hg_ hnew_;(first | rw [← Ny161.out] at ho41 |(simp only [Int.reduceToNat] at ho41;rw [← Ny161.out] at ho41));have n0_:=Aside0.mk (Kd.R_elder' (by(with_reducible repeat(first | apply Kd.R_alloc | apply Kd.R_drewN | apply Kd.R_drew));exact HO131.out) (Kd.R_base ho41) hb);have n1_:=Aside0.mk (Kd.R_elder' (by(with_reducible repeat(first | apply Kd.R_alloc | apply Kd.R_drewN | apply Kd.R_drew));exact HO135.out) (Kd.R_base ho41) hb);have n2_:=Aside0.mk (Kd.R_elder' (by(with_reducible repeat(first | apply Kd.R_alloc | apply Kd.R_drewN | apply Kd.R_drew));exact HO139.out) (Kd.R_base ho41) hb);have n3_:=Aside0.mk (Kd.R_elder' (by(with_reducible repeat(first | apply Kd.R_alloc | apply Kd.R_drewN | apply Kd.R_drew));exact HO144.out) (Kd.R_base ho41) hb);have n4_:=Aside0.mk (Kd.R_elder' (by(with_reducible repeat(first | apply Kd.R_alloc | apply Kd.R_drewN | apply Kd.R_drew));exact HO148.out) (Kd.R_base ho41) hb);have n5_:=Aside0.mk (Kd.R_elder' (by(with_reducible repeat(first | apply Kd.R_alloc | apply Kd.R_drewN | apply Kd.R_drew));exact HO151.out) (Kd.R_base ho41) hb);have n6_:=Aside0.mk (Kd.R_elder' (by(with_reducible repeat(first | apply Kd.R_alloc | apply Kd.R_drewN | apply Kd.R_drew));exact HO155.out) (Kd.R_base ho41) hb);have n7_:=Aside0.mk (Kd.R_elder' (by(with_reducible repeat(first | apply Kd.R_alloc | apply Kd.R_drewN | apply Kd.R_drew));exact HO159.out) (Kd.R_base ho41) hb);have n8_:=Aside0.mk (Kd.R_lower (Kd.R_new' (Kd.R_new' (Kd.R_new' (Kd.R_new' (Kd.R_new' (Kd.R_new' (Kd.R_new' (Kd.R_new' ho41 (Kd.R_lt (by(with_reducible repeat(first | apply Kd.R_alloc | apply Kd.R_drewN | apply Kd.R_drew));exact HO131.out))) (Kd.R_lt (by(with_reducible repeat(first | apply Kd.R_alloc | apply Kd.R_drewN | apply Kd.R_drew));exact HO135.out))) (Kd.R_lt (by(with_reducible repeat(first | apply Kd.R_alloc | apply Kd.R_drewN | apply Kd.R_drew));exact HO139.out))) (Kd.R_lt (by(with_reducible repeat(first | apply Kd.R_alloc | apply Kd.R_drewN | apply Kd.R_drew));exact HO144.out))) (Kd.R_lt (by(with_reducible repeat(first | apply Kd.R_alloc | apply Kd.R_drewN | apply Kd.R_drew));exact HO148.out))) (Kd.R_lt (by(with_reducible repeat(first | apply Kd.R_alloc | apply Kd.R_drewN | apply Kd.R_drew));exact HO151.out))) (Kd.R_lt (by(with_reducible repeat(first | apply Kd.R_alloc | apply Kd.R_drewN | apply Kd.R_drew));exact HO155.out))) (Kd.R_lt (by(with_reducible repeat(first | apply Kd.R_alloc | apply Kd.R_drewN | apply Kd.R_drew));exact HO159.out))) (bwZ (by repeat(first |(with_reducible first | exact HB.out | apply bwA | apply bwN | apply bw1) | exact HB.out))));have n9_:=Aside0.mk (bwT (by repeat(first |(with_reducible first | exact HB.out | apply bwA | apply bwN | apply bw1) | exact HB.out)) hb);clear HO131;clear HO135;clear HO139;clear HO144;clear HO148;clear HO151;clear HO155;clear HO159;clear HB;have HO131:=n0_;have HO135:=n1_;have HO139:=n2_;have HO144:=n3_;have HO148:=n4_;have HO151:=n5_;have HO155:=n6_;have HO159:=n7_;have HO163:=n8_;have HB:=n9_;clear n0_ n1_ n2_ n3_ n4_ n5_ n6_ n7_ n8_ n9_;clear hb ho41;obtain ⟨Ao42,co42,eo42⟩:=Kd.R_slice HO148.out;subst eo42;obtain ⟨Ao43,co43,eo43⟩:=Kd.R_slice HO163.out;subst eo43) |(go_at_call 22;(with_reducible refine(w10_ints.calls k _ _ t145 _ _ y161 t164 _ ?side1 ?side2 ?side3 ?side4 A27.out).mono ?_);(case side1=>repeat(first | exact(Kd.R_reads' HO148.out).2.2 |(with_reducible refine Kd.C_alloc ?_ _) |(with_reducible refine Kd.C_drewN ?_ _) |(with_reducible refine Kd.C_drew ?_)));(case side2=>exact(Kd.R_reads' HO148.out).2.1);(case side3=>repeat(first | exact(Kd.R_reads' HO163.out).2.2 |(with_reducible refine Kd.C_alloc ?_ _) |(with_reducible refine Kd.C_drewN ?_ _) |(with_reducible refine Kd.C_drew ?_)));(case side4=>exact(Kd.R_reads' HO163.out).2.1);rintro e w' ⟨rfl,⟨nd,rfl⟩⟩))
  go_meet
  exact⟨_,(!t164),(by first | rfl |(simp;done) |(simp [*];done)),H',⟨by first | omega | exact Nat.le_refl _⟩,⟨by repeat(first |(with_reducible first | exact HB.out | apply bwA | apply bwN | apply bw1) | exact HB.out)⟩⟩
 case rest =>
  clear HC6
  try clear c1
  try clear c2
  try clear p2
  try clear c3
  try clear c4
  try clear c15
  try clear c15b0
  try clear c15b1
  try clear c17
  try clear c18
  try clear c18b0
  try clear c18b1
  try clear c20
  try clear c21
  try clear c21b0
  try clear c21b1
  try clear c23
  try clear c24
  try clear c24b0
  try clear c24b1
  try clear c25
  try clear c25b0
  try clear c25b1
  try clear c26
  try clear c26b0
  try clear c26b1
  try clear c28
  try clear c31
  try clear c38
  try clear c48
  obtain ⟨kq,x77_5,rfl,HA,HJ5,HB⟩:=hcut
  cases kq with
  | zero=>exact absurd HA.out (by simp [w10_awake.j0])
  | succ kj5 =>
   have H:=HA.out
   clear HA
   simp only [w10_awake.j0] at H
   by_cases c116 : x77_5 = true
   ·subst c116
    have H1 :(some false) = some r:=by rw [if_pos rfl] at H;exact H
    clear H
    have H:=H1
    clear H1
    obtain rfl:=Option.some.inj H
    go_wp2
    go_ret
    exact⟨by first | rfl |(simp [errW_none,errW_some] <;> rfl) |(simp [*,errW_none,errW_some] <;> rfl),by repeat(first |(with_reducible first | exact HB.out | apply bwA | apply bwN | apply bw1) | exact HB.out)⟩
   replace c116:=Bool.eq_false_iff.mpr c116
   subst c116
   have H1 :(some true) = some r:=by rw [if_neg (show ¬ (false = true) by decide)] at H;exact H
   clear H
   have H:=H1
   clear H1
   obtain rfl:=Option.some.inj H
   go_wp2
   go_ret
   exact⟨by first | rfl |(simp [errW_none,errW_some] <;> rfl) |(simp [*,errW_none,errW_some] <;> rfl),by repeat(first |(with_reducible first | exact HB.out | apply bwA | apply bwN | apply bw1) | exact HB.out)⟩

def q10_Product.l0 : Nat → List Int → Int → Int → Option (Int)
 | 0,_,_,_=>none
 | k + 1,x0,x3,x4=>if x4 < (x0.length : Int) then(if 0≤x4 then(q10_Product.l0 k x0 (wrap64 (x3 * (rd x0 x4))) (wrap64 (x4 + 1))) else(none)) else(some x3)
def q10_Product.f (k : Nat) (l0 : List Int) : Option (Int):=q10_Product.l0 k l0 1 0
set_option maxHeartbeats 8000000 in
set_option maxRecDepth 100000 in
theorem q10_Product.calls (k : Nat) (A0 : Option Addr) (c0 : Nat) (l0 : List Int) (r : Int) (w : World) (hr0 : Kd.C (Kd.int .i64) w A0 l0.length l0) (hc0 : l0.length ≤ c0) (h : q10_Product.f k l0 = some r) :
  Calls Try.prog 21 #[.slice A0 l0.length c0] w fun e w'=>e = .returned (.int .i64 r)∧Drawn0 w w':=by
 have HR0:=Aside0.mk hr0
 have HC0:=Aside0.mk hc0
 clear hr0 hc0
 have H :(q10_Product.l0 k l0 1 0) = some r:=h
 clear h
 have H':=Aside0.mk H
 clear H
 go_enter Try.func21,Try.ntmps21
 go_wp2
 go_loopg [3,4] k (fun kq v3 v4 w'=>∃ (x3_1 : Int) (x4_1 : Int),v3 = .int .i64 x3_1∧v4 = .int .i64 x4_1∧Aside0 (q10_Product.l0 kq l0 x3_1 x4_1 = some r)∧Aside0 (kq≤k)∧Drawn0 w w')
 case atStart=>exact⟨(1),(0),(by first | rfl |(simp;done) |(simp [*];done)),(by first | rfl |(simp;done) |(simp [*];done)),H',⟨Nat.le_refl _⟩,by repeat(first | exact Drawn0.refl _ | apply Drawn0.step)⟩
 clear H'
 obtain ⟨x3_1,x4_1,rfl,rfl,HA,HK1,⟨m1,rfl⟩⟩:=hrel
 cases gk with
 | zero=>exact absurd HA.out (by simp [q10_Product.l0])
 | succ k1 =>
  have H:=HA.out
  clear HA
  simp only [q10_Product.l0] at H
  by_cases c2 : x4_1 < (l0.length : Int)
  rotate_left
  ·rw [if_neg c2] at H
   have c2b0 : decide (x4_1 < (l0.length : Int)) = false:=decide_eq_false c2
   clear c2
   obtain rfl:=Option.some.inj H
   go_wp2
   go_ret
   exact⟨by first | rfl |(simp;done) |(simp [*];done),by repeat(first | exact Drawn0.refl _ | apply Drawn0.step)⟩
  rw [if_pos c2] at H
  have c2b0 : decide (x4_1 < (l0.length : Int)) = true:=decide_eq_true c2
  clear c2
  by_cases c3 : 0≤x4_1
  rotate_left
  ·rw [if_neg c3] at H
   exact absurd H (by simp)
  rw [if_pos c3] at H
  have c3b0 : decide (0≤x4_1) = true:=decide_eq_true c3
  clear c3
  have H':=Aside0.mk H
  clear H
  have p165 : 0 ≤(x4_1 : Int):=of_decide_eq_true (by first |(with_reducible assumption) | assumption)
  have q165 : x4_1 < (l0.length : Int):=of_decide_eq_true (by first |(with_reducible assumption) | assumption)
  obtain ⟨ad165,e165,hx165_0⟩:=Kd.at_int HR0.out x4_1 p165 q165
  cases e165
  replace p165:=eq_true p165
  replace q165:=eq_true q165
  go_wp2
  go_roundg k1
  case measure=>have:=HK1.out;omega
  exact⟨(wrap64 (x3_1 * (rd l0 x4_1))),(wrap64 (x4_1 + 1)),(by first | rfl |(simp;done) |(simp [*];done)),(by first | rfl |(simp;done) |(simp [*];done)),H',⟨by have:=HK1.out;omega⟩,by repeat(first | exact Drawn0.refl _ | apply Drawn0.step)⟩

def q10_Settings.l0 : Nat → List Int → List Int → Int → Option (Bool)
 | 0,_,_,_=>none
 | k + 1,x0,x1,x5=>if x5 < (x1.length : Int) then(if 0≤x5 then(if(rd x1 x5) < 0 then(some false) else(if x5 < (x0.length : Int) then(if(rd x1 x5) ≥ (rd x0 x5) then(some false) else(q10_Settings.l0 k x0 x1 (wrap64 (x5 + 1)))) else(none))) else(none)) else(some true)
def q10_Settings.f (k : Nat) (l0 : List Int) (l1 : List Int) : Option (Bool):=if(l1.length : Int) =(l0.length : Int) then(q10_Settings.l0 k l0 l1 0) else(some false)
set_option maxHeartbeats 8000000 in
set_option maxRecDepth 100000 in
theorem q10_Settings.calls (k : Nat) (A0 : Option Addr) (c0 : Nat) (l0 : List Int) (A1 : Option Addr) (c1 : Nat) (l1 : List Int) (r : Bool) (w : World) (hr0 : Kd.C (Kd.int .i64) w A0 l0.length l0) (hc0 : l0.length ≤ c0) (hr1 : Kd.C (Kd.int .i64) w A1 l1.length l1) (hc1 : l1.length ≤ c1) (h : q10_Settings.f k l0 l1 = some r) :
  Calls Try.prog 24 #[.slice A0 l0.length c0,.slice A1 l1.length c1] w fun e w'=>e = .returned (.bool r)∧Drawn0 w w':=by
 have HR0:=Aside0.mk hr0
 have HC0:=Aside0.mk hc0
 clear hr0 hc0
 have HR1:=Aside0.mk hr1
 have HC1:=Aside0.mk hc1
 clear hr1 hc1
 have H :(if(l1.length : Int) =(l0.length : Int) then(q10_Settings.l0 k l0 l1 0) else(some false)) = some r:=h
 clear h
 by_cases c3 :(l1.length : Int) =(l0.length : Int)
 rotate_left
 ·rw [if_neg c3] at H
  have c3b0 :((l1.length : Int) ==(l0.length : Int)) = false:=beq_eq_false_iff_ne.mpr c3
  have c3b1 :((l1.length : Int) !=(l0.length : Int)) = true:=bne_iff_ne.mpr c3
  have c3b2 :(l1.length == l0.length) = false:=by first | simpa using c3 |(simp at c3 ⊢;omega)
  obtain rfl:=Option.some.inj H
  go_enter Try.func24,Try.ntmps24
  go_wp2
  repeat(go_quiet (fail);try go_wp2)
  go_ret
  exact⟨by first | rfl |(simp;done) |(simp [*];done),by repeat(first | exact Drawn0.refl _ | apply Drawn0.step)⟩
 rw [if_pos c3] at H
 have c3b0 :((l1.length : Int) ==(l0.length : Int)) = true:=beq_iff_eq.mpr c3
 have c3b1 :((l1.length : Int) !=(l0.length : Int)) = false:=bne_eq_false_iff_eq.mpr c3
 have c3b2 :(l1.length == l0.length) = true:=by first | simpa using c3 |(simp at c3 ⊢;omega)
 clear c3
 have H':=Aside0.mk H
 clear H
 go_enter Try.func24,Try.ntmps24
 go_wp2
 repeat(go_quiet (fail);try go_wp2)
 go_loopg [5] k (fun kq v5 w'=>∃ (x5_1 : Int),v5 = .int .i64 x5_1∧Aside0 (q10_Settings.l0 kq l0 l1 x5_1 = some r)∧Aside0 (kq≤k)∧Drawn0 w w')
 case atStart=>exact⟨(0),(by first | rfl |(simp;done) |(simp [*];done)),H',⟨Nat.le_refl _⟩,by repeat(first | exact Drawn0.refl _ | apply Drawn0.step)⟩
 clear H'
 try clear c1
 try clear c2
 try clear p2
 try clear c3
 try clear c3b0
 try clear c3b1
 try clear c3b2
 obtain ⟨x5_1,rfl,HA,HK1,⟨m1,rfl⟩⟩:=hrel
 cases gk with
 | zero=>exact absurd HA.out (by simp [q10_Settings.l0])
 | succ k1 =>
  have H:=HA.out
  clear HA
  simp only [q10_Settings.l0] at H
  by_cases c4 : x5_1 < (l1.length : Int)
  rotate_left
  ·rw [if_neg c4] at H
   have c4b0 : decide (x5_1 < (l1.length : Int)) = false:=decide_eq_false c4
   clear c4
   obtain rfl:=Option.some.inj H
   go_wp2
   repeat(go_quiet (fail);try go_wp2)
   go_ret
   exact⟨by first | rfl |(simp;done) |(simp [*];done),by repeat(first | exact Drawn0.refl _ | apply Drawn0.step)⟩
  rw [if_pos c4] at H
  have c4b0 : decide (x5_1 < (l1.length : Int)) = true:=decide_eq_true c4
  clear c4
  by_cases c5 : 0≤x5_1
  rotate_left
  ·rw [if_neg c5] at H
   exact absurd H (by simp)
  rw [if_pos c5] at H
  have c5b0 : decide (0≤x5_1) = true:=decide_eq_true c5
  clear c5
  by_cases c6 :(rd l1 x5_1) < 0
  ·rw [if_pos c6] at H
   have c6b0 : decide ((rd l1 x5_1) < 0) = true:=decide_eq_true c6
   clear c6
   obtain rfl:=Option.some.inj H
   have p188 : 0 ≤(x5_1 : Int):=of_decide_eq_true (by first |(with_reducible assumption) | assumption)
   have q188 : x5_1 < (l1.length : Int):=of_decide_eq_true (by first |(with_reducible assumption) | assumption)
   obtain ⟨ad188,e188,hx188_0⟩:=Kd.at_int HR1.out x5_1 p188 q188
   cases e188
   replace p188:=eq_true p188
   replace q188:=eq_true q188
   go_wp2
   repeat(go_quiet (fail);try go_wp2)
   go_ret
   exact⟨by first | rfl |(simp;done) |(simp [*];done),by repeat(first | exact Drawn0.refl _ | apply Drawn0.step)⟩
  rw [if_neg c6] at H
  have c6b0 : decide ((rd l1 x5_1) < 0) = false:=decide_eq_false c6
  clear c6
  by_cases c7 : x5_1 < (l0.length : Int)
  rotate_left
  ·rw [if_neg c7] at H
   exact absurd H (by simp)
  rw [if_pos c7] at H
  have c7b0 : decide (x5_1 < (l0.length : Int)) = true:=decide_eq_true c7
  clear c7
  by_cases c8 :(rd l1 x5_1) ≥ (rd l0 x5_1)
  ·rw [if_pos c8] at H
   have c8b0 : decide ((rd l0 x5_1) ≤(rd l1 x5_1)) = true:=decide_eq_true c8
   clear c8
   obtain rfl:=Option.some.inj H
   have p188 : 0 ≤(x5_1 : Int):=of_decide_eq_true (by first |(with_reducible assumption) | assumption)
   have q188 : x5_1 < (l1.length : Int):=of_decide_eq_true (by first |(with_reducible assumption) | assumption)
   obtain ⟨ad188,e188,hx188_0⟩:=Kd.at_int HR1.out x5_1 p188 q188
   cases e188
   replace p188:=eq_true p188
   replace q188:=eq_true q188
   have p189 : 0 ≤(x5_1 : Int):=of_decide_eq_true (by first |(with_reducible assumption) | assumption)
   have q189 : x5_1 < (l1.length : Int):=of_decide_eq_true (by first |(with_reducible assumption) | assumption)
   obtain ⟨ad189,e189,hx189_0⟩:=Kd.at_int HR1.out x5_1 p189 q189
   obtain rfl : ad188 = ad189:=(by injection e189)
   replace p189:=eq_true p189
   replace q189:=eq_true q189
   have p190 : 0 ≤(x5_1 : Int):=of_decide_eq_true (by first |(with_reducible assumption) | assumption)
   have q190 : x5_1 < (l0.length : Int):=of_decide_eq_true (by first |(with_reducible assumption) | assumption)
   obtain ⟨ad190,e190,hx190_0⟩:=Kd.at_int HR0.out x5_1 p190 q190
   cases e190
   replace p190:=eq_true p190
   replace q190:=eq_true q190
   go_wp2
   repeat(go_quiet (fail);try go_wp2)
   go_ret
   exact⟨by first | rfl |(simp;done) |(simp [*];done),by repeat(first | exact Drawn0.refl _ | apply Drawn0.step)⟩
  rw [if_neg c8] at H
  have c8b0 : decide ((rd l0 x5_1) ≤(rd l1 x5_1)) = false:=decide_eq_false c8
  clear c8
  have H':=Aside0.mk H
  clear H
  have p188 : 0 ≤(x5_1 : Int):=of_decide_eq_true (by first |(with_reducible assumption) | assumption)
  have q188 : x5_1 < (l1.length : Int):=of_decide_eq_true (by first |(with_reducible assumption) | assumption)
  obtain ⟨ad188,e188,hx188_0⟩:=Kd.at_int HR1.out x5_1 p188 q188
  cases e188
  replace p188:=eq_true p188
  replace q188:=eq_true q188
  have p189 : 0 ≤(x5_1 : Int):=of_decide_eq_true (by first |(with_reducible assumption) | assumption)
  have q189 : x5_1 < (l1.length : Int):=of_decide_eq_true (by first |(with_reducible assumption) | assumption)
  obtain ⟨ad189,e189,hx189_0⟩:=Kd.at_int HR1.out x5_1 p189 q189
  obtain rfl : ad188 = ad189:=(by injection e189)
  replace p189:=eq_true p189
  replace q189:=eq_true q189
  have p190 : 0 ≤(x5_1 : Int):=of_decide_eq_true (by first |(with_reducible assumption) | assumption)
  have q190 : x5_1 < (l0.length : Int):=of_decide_eq_true (by first |(with_reducible assumption) | assumption)
  obtain ⟨ad190,e190,hx190_0⟩:=Kd.at_int HR0.out x5_1 p190 q190
  cases e190
  replace p190:=eq_true p190
  replace q190:=eq_true q190
  go_wp2
  repeat(go_quiet (fail);try go_wp2)
  go_roundg k1
  case measure=>have:=HK1.out;omega
  exact⟨(wrap64 (x5_1 + 1)),(by first | rfl |(simp;done) |(simp [*];done)),H',⟨by have:=HK1.out;omega⟩,by repeat(first | exact Drawn0.refl _ | apply Drawn0.step)⟩

def w10_mod.f (a0 : Int) (a1 : Int) : Option (Int):=if(IntKind.u64.wrap (a1)) = 0 then(none) else(some (wrap64 (Int.tmod (IntKind.u64.wrap (a0)) (IntKind.u64.wrap (a1)))))
set_option maxHeartbeats 8000000 in
set_option maxRecDepth 100000 in
theorem w10_mod.calls (a0 : Int) (a1 : Int) (r : Int) (w : World) (h : w10_mod.f a0 a1 = some r) :
  Calls Try.prog 26 #[.int .i64 a0,.int .i64 a1] w fun e w'=>e = .returned (.int .i64 r)∧Drawn0 w w':=by
 have H :(if(IntKind.u64.wrap (a1)) = 0 then(none) else(some (wrap64 (Int.tmod (IntKind.u64.wrap (a0)) (IntKind.u64.wrap (a1)))))) = some r:=h
 clear h
 by_cases c3 :(IntKind.u64.wrap (a1)) = 0
 ·rw [if_pos c3] at H
  exact absurd H (by simp)
 rw [if_neg c3] at H
 have c3b0 :((IntKind.u64.wrap (a1)) == 0) = false:=beq_eq_false_iff_ne.mpr c3
 have c3b1 :((IntKind.u64.wrap (a1)) != 0) = true:=bne_iff_ne.mpr c3
 obtain rfl:=Option.some.inj H
 go_enter Try.func26,Try.ntmps26
 go_wp2
 go_ret
 exact⟨by first | rfl |(simp;done) |(simp [*];done),by repeat(first | exact Drawn0.refl _ | apply Drawn0.step)⟩

mutual
def w10_TurnsDialSteps.j1 : Nat → Int → List Int → Option (Bool)
 | 0,_,_=>none
 | k + 1,x1,x5=>(q10_Product.f k x5).bind fun t227=>((w10_mod.f x1 t227).bind fun t228=>((turns_Setting.f x5 t228).bind fun bt229=>((turns_SettingAt.f x5 bt229.1).bind fun bt233=>(if bt229.2 = 0 then(if bt233.2 = 0 then(if bt233.1 = t228 then((q10_Settings.f k x5 bt229.1).bind fun t235=>(w10_TurnsDialSteps.j2 k t228 x5 t227 bt229.1 (!t235))) else(w10_TurnsDialSteps.j2 k t228 x5 t227 bt229.1 true)) else(w10_TurnsDialSteps.j2 k t228 x5 t227 bt229.1 true)) else(w10_TurnsDialSteps.j2 k t228 x5 t227 bt229.1 true)))))
def w10_TurnsDialSteps.j2 : Nat → Int → List Int → Int → List Int → Bool → Option (Bool)
 | 0,_,_,_,_,_=>none
 | k + 1,x1,x5,x7,x8,x69=>if x69 = true then(some false) else(if x1 =(wrap64 (x7 - 1)) then((w10_awake.f k).bind fun t236=>(some t236)) else((turns_Setting.f x5 (wrap64 (x1 + 1))).bind fun bt237=>(if bt237.2 = 0 then((q10_Settings.f k x5 bt237.1).bind fun t241=>(w10_TurnsDialSteps.j3 k x8 bt237.1 (!t241))) else(w10_TurnsDialSteps.j3 k x8 bt237.1 true))))
def w10_TurnsDialSteps.j3 : Nat → List Int → List Int → Bool → Option (Bool)
 | 0,_,_,_=>none
 | k + 1,x8,x12,x89=>if x89 = true then(some false) else(w10_TurnsDialSteps.l1 k x8 x12 0 0)
def w10_TurnsDialSteps.l1 : Nat → List Int → List Int → Int → Int → Option (Bool)
 | 0,_,_,_,_=>none
 | k + 1,x8,x12,x14,x15=>if x15 < (x8.length : Int) then(if 0≤x15 then(if x15 < (x12.length : Int) then(w10_TurnsDialSteps.l1 k x8 x12 (wrap64 (x14 + (mx (wrap64 ((rd x8 x15) - (rd x12 x15))) (wrap64 ((rd x12 x15) - (rd x8 x15)))))) (wrap64 (x15 + 1))) else(none)) else(none)) else(if x14 = 1 then((w10_awake.f k).bind fun t246=>(some t246)) else(some false))
def w10_TurnsDialSteps.l0 : Nat → List Int → Int → List Int → Int → Option (Bool)
 | 0,_,_,_,_=>none
 | k + 1,x0,x1,x5,x6=>if x6 < (x0.length : Int) then(if x6 < 12 then(if 0≤x6 then((w10_mod.f (wrap64 ((rd x0 x6) - 1)) 10).bind fun t223=>(if x5.length < 17592186044416 then(w10_TurnsDialSteps.l0 k x0 x1 (x5 ++ [wrap64 (1 + t223)]) (wrap64 (x6 + 1))) else(none))) else(none)) else(w10_TurnsDialSteps.j1 k x1 x5)) else(w10_TurnsDialSteps.j1 k x1 x5)
end
def w10_TurnsDialSteps.f (k : Nat) (l0 : List Int) (a1 : Int) : Option (Bool):=w10_TurnsDialSteps.l0 k l0 a1 ([] : List Int) 0
set_option maxHeartbeats 8000000 in
set_option maxRecDepth 100000 in
theorem w10_TurnsDialSteps.calls (k : Nat) (A0 : Option Addr) (c0 : Nat) (l0 : List Int) (a1 : Int) (r : Bool) (w : World) (hr0 : Kd.C (Kd.int .i64) w A0 l0.length l0) (hc0 : l0.length ≤ c0) (h : w10_TurnsDialSteps.f k l0 a1 = some r) :
  Calls Try.prog 4 #[.slice A0 l0.length c0,.int .i64 a1] w fun e w'=>e = .returned (.bool r)∧Below w.heap.size w w':=by
 have HR0:=Aside0.mk hr0
 have HC0:=Aside0.mk hc0
 clear hr0 hc0
 have HB:=Aside0.mk (Below.refl w.heap.size w)
 have H :(w10_TurnsDialSteps.l0 k l0 a1 ([] : List Int) 0) = some r:=h
 clear h
 have HC3:=Aside0.mk H
 clear H
 go_enter Try.func4,Try.ntmps4
 go_upto_block 0 with (fail)
 repeat(go_quiet (fail);go_upto_block 0 with (fail))
 go_cut [5] (fun v5 wc=>∃ (kq : Nat) (x5_2 : List Int),Aside0 (w10_TurnsDialSteps.j1 kq a1 x5_2 = some r)∧Aside0 (kq≤k)∧Aside0 (Kd.R (Kd.int .i64) 3 wc w.heap.size (fun _=>True) v5 x5_2)∧Aside0 (Below w.heap.size w wc))
 case first =>
  have H:=HC3.out
  clear HC3
  have H':=Aside0.mk H
  clear H
  go_wp2
  repeat(go_quiet (fail);try go_wp2)
  go_loopg [5,6] k (fun kq v5 v6 w'=>∃ (x5_1 : List Int) (x6_1 : Int),v6 = .int .i64 x6_1∧Aside0 (w10_TurnsDialSteps.l0 kq l0 a1 x5_1 x6_1 = some r)∧Aside0 (kq≤k)∧Aside0 (Kd.R (Kd.int .i64) 3 w' w.heap.size (fun _=>True) v5 x5_1)∧Aside0 (Below w.heap.size w w'))
  case atStart=>exact⟨(([] : List Int)),(0),(by first | rfl |(simp;done) |(simp [*];done)),H',⟨Nat.le_refl _⟩,⟨by first | exact Kd.R_nil _ _ _ _ _ | exact Kd.N_nil _ _ _ _ _ | exact Kd.V_nil _ _ _ _ _ | exact Kd.Q_nil _ _ _ _ _ | exact Kd.S_nil _ _ _ _ _⟩,⟨by repeat(first |(with_reducible first | exact HB.out | apply bwA | apply bwN | apply bw1) | exact HB.out)⟩⟩
  clear H'
  try clear p2
  obtain ⟨x5_1,x6_1,rfl,HA,HK1,HO_5,HB⟩:=hrel
  cases gk with
  | zero=>exact absurd HA.out (by simp [w10_TurnsDialSteps.l0])
  | succ k1 =>
   have H:=HA.out
   clear HA
   simp only [w10_TurnsDialSteps.l0] at H
   by_cases c4 : x6_1 < (l0.length : Int)
   rotate_left
   ·rw [if_neg c4] at H
    have c4b0 : decide (x6_1 < (l0.length : Int)) = false:=decide_eq_false c4
    clear c4
    (first | rw [c4b0] |(simp only [i64_w,i32_w];rw [c4b0]) | skip)
    have H':=Aside0.mk H
    clear H
    go_wp2
    repeat(go_quiet (fail);try go_wp2)
    go_meet
    exact⟨_,(x5_1),H',⟨by have:=HK1.out;first | omega | exact Nat.le_refl _⟩,⟨by(with_reducible repeat(first | apply Kd.R_alloc | apply Kd.R_drewN | apply Kd.R_drew));exact HO_5.out⟩,⟨by repeat(first |(with_reducible first | exact HB.out | apply bwA | apply bwN | apply bw1) | exact HB.out)⟩⟩
   rw [if_pos c4] at H
   have c4b0 : decide (x6_1 < (l0.length : Int)) = true:=decide_eq_true c4
   clear c4
   (first | rw [c4b0] |(simp only [i64_w,i32_w];rw [c4b0]) | skip)
   by_cases c5 : x6_1 < 12
   rotate_left
   ·rw [if_neg c5] at H
    have c5b0 : decide (x6_1 < 12) = false:=decide_eq_false c5
    clear c5
    have H':=Aside0.mk H
    clear H
    go_wp2
    repeat(go_quiet (fail);try go_wp2)
    go_meet
    exact⟨_,(x5_1),H',⟨by have:=HK1.out;first | omega | exact Nat.le_refl _⟩,⟨by(with_reducible repeat(first | apply Kd.R_alloc | apply Kd.R_drewN | apply Kd.R_drew));exact HO_5.out⟩,⟨by repeat(first |(with_reducible first | exact HB.out | apply bwA | apply bwN | apply bw1) | exact HB.out)⟩⟩
   rw [if_pos c5] at H
   have c5b0 : decide (x6_1 < 12) = true:=decide_eq_true c5
   clear c5
   by_cases c6 : 0≤x6_1
   rotate_left
   ·rw [if_neg c6] at H
    exact absurd H (by simp)
   rw [if_pos c6] at H
   have c6b0 : decide (0≤x6_1) = true:=decide_eq_true c6
   clear c6
   replace H:=Option.bind_eq_some_iff.mp H
   obtain ⟨t223,A70,H⟩:=H
   replace H :(if x5_1.length < 17592186044416 then(w10_TurnsDialSteps.l0 k1 l0 a1 (x5_1 ++ [wrap64 (1 + t223)]) (wrap64 (x6_1 + 1))) else(none)) = some r:=H
   have A7:=Aside0.mk A70
   clear A70
   by_cases c8 : x5_1.length < 17592186044416
   rotate_left
   ·rw [if_neg c8] at H
    exact absurd H (by simp)
   rw [if_pos c8] at H
   have LMc8:=Aside0.mk c8
   clear c8
   obtain ⟨y224,hy224⟩ : ∃ y_ : List Int,y_ =(x5_1 ++ [wrap64 (1 + t223)]):=⟨_,rfl⟩
   replace H :(w10_TurnsDialSteps.l0 k1 l0 a1 y224 (wrap64 (x6_1 + 1))) = some r:=by first |(rw [hy224];with_reducible exact H) |(have H2_:=(Option.bind_some _ _).symm.trans H;rw [hy224];with_reducible exact H2_) |(have H2_:=(Option.bind_some _ _).symm.trans H;with_reducible exact H2_) | with_reducible exact H |(rw [hy224];exact H) | exact H
   have Ny224:=Aside0.mk hy224
   clear hy224
   have H':=Aside0.mk H
   clear H
   have p222 : 0 ≤(x6_1 : Int):=of_decide_eq_true (by first |(with_reducible assumption) | assumption)
   have q222 : x6_1 < (l0.length : Int):=of_decide_eq_true (by first |(with_reducible assumption) | assumption)
   obtain ⟨ad222,e222,hx222_0⟩:=Kd.at_int HR0.out x6_1 p222 q222
   cases e222
   replace hx222_0:=(HB.out.cell (World.block_lt_of_cell? w _ hx222_0)).trans hx222_0
   replace p222:=eq_true p222
   replace q222:=eq_true q222
   go_wp2_with (first |(go_at_call 26;(with_reducible refine(w10_mod.calls (wrap64 ((rd l0 x6_1) - 1)) 10 t223 _ A7.out).mono ?_);rintro e w' ⟨rfl,⟨nd,rfl⟩⟩;(try first | exact⟨rfl,_,World.drewN_drewN _ _ _⟩ | exact⟨rfl,_,Eq.trans (World.drewN_drewN _ _ _) (congrArg (World.drewN _) (Nat.add_assoc _ _ _))⟩)) |((with_reducible refine gate_builtin (b:=.append) (xs:=#[.tmp 26,.tmp 34]) rfl ?_);at_builtin;refine Kd.R_append (Kd.int .i64) (w0:=w) w.heap.size rfl (.tmp 26) (.tmp 34) 22 3 (.int .i64 0) 8 rfl Try.underlying22 info3 rfl (by decide) (by omega) u5 x5_1 (wrap64 (1 + t223)) [.int .i64 (wrap64 (1 + t223))] (fun _=>True) (fun _=>False) rfl rfl ?aP (fun _ hk=>hk.elim) ?aF ?aO ?aB ?aS ?aL ?_;(case aP=>exact rfl);(case aB=>exact(by repeat(first |(with_reducible first | exact HB.out | apply bwA | apply bwN | apply bw1) | exact HB.out)));(case aF=>exact(fun _ _=>trivial));(case aO=>exact(by(with_reducible repeat(first | apply Kd.R_alloc | apply Kd.R_drewN | apply Kd.R_drew));exact HO_5.out));(case aS=>exact(bwZ (by repeat(first |(with_reducible first | exact HB.out | apply bwA | apply bwN | apply bw1) | exact HB.out))));(case aL=>have:=LMc8.out;omega);intro v225 w9 ho hb hg hat;rw [← Ny224.out] at ho;have n0_:=Aside0.mk (hb);have n1_:=Aside0.mk (ho);clear HB;clear HO_5;have HB:=n0_;have HO226:=n1_;clear n0_ n1_;clear ho hb hg hat))
   repeat(go_quiet (first |(go_at_call 26;(with_reducible refine(w10_mod.calls (wrap64 ((rd l0 x6_1) - 1)) 10 t223 _ A7.out).mono ?_);rintro e w' ⟨rfl,⟨nd,rfl⟩⟩;(try first | exact⟨rfl,_,World.drewN_drewN _ _ _⟩ | exact⟨rfl,_,Eq.trans (World.drewN_drewN _ _ _) (congrArg (World.drewN _) (Nat.add_assoc _ _ _))⟩)) |((with_reducible refine gate_builtin (b:=.append) (xs:=#[.tmp 26,.tmp 34]) rfl ?_);at_builtin;refine Kd.R_append (Kd.int .i64) (w0:=w) w.heap.size rfl (.tmp 26) (.tmp 34) 22 3 (.int .i64 0) 8 rfl Try.underlying22 info3 rfl (by decide) (by omega) u5 x5_1 (wrap64 (1 + t223)) [.int .i64 (wrap64 (1 + t223))] (fun _=>True) (fun _=>False) rfl rfl ?aP (fun _ hk=>hk.elim) ?aF ?aO ?aB ?aS ?aL ?_;(case aP=>exact rfl);(case aB=>exact(by repeat(first |(with_reducible first | exact HB.out | apply bwA | apply bwN | apply bw1) | exact HB.out)));(case aF=>exact(fun _ _=>trivial));(case aO=>exact(by(with_reducible repeat(first | apply Kd.R_alloc | apply Kd.R_drewN | apply Kd.R_drew));exact HO_5.out));(case aS=>exact(bwZ (by repeat(first |(with_reducible first | exact HB.out | apply bwA | apply bwN | apply bw1) | exact HB.out))));(case aL=>have:=LMc8.out;omega);intro v225 w9 ho hb hg hat;rw [← Ny224.out] at ho;have n0_:=Aside0.mk (hb);have n1_:=Aside0.mk (ho);clear HB;clear HO_5;have HB:=n0_;have HO226:=n1_;clear n0_ n1_;clear ho hb hg hat));try go_wp2_with (first |(go_at_call 26;(with_reducible refine(w10_mod.calls (wrap64 ((rd l0 x6_1) - 1)) 10 t223 _ A7.out).mono ?_);rintro e w' ⟨rfl,⟨nd,rfl⟩⟩;(try first | exact⟨rfl,_,World.drewN_drewN _ _ _⟩ | exact⟨rfl,_,Eq.trans (World.drewN_drewN _ _ _) (congrArg (World.drewN _) (Nat.add_assoc _ _ _))⟩)) |((with_reducible refine gate_builtin (b:=.append) (xs:=#[.tmp 26,.tmp 34]) rfl ?_);at_builtin;refine Kd.R_append (Kd.int .i64) (w0:=w) w.heap.size rfl (.tmp 26) (.tmp 34) 22 3 (.int .i64 0) 8 rfl Try.underlying22 info3 rfl (by decide) (by omega) u5 x5_1 (wrap64 (1 + t223)) [.int .i64 (wrap64 (1 + t223))] (fun _=>True) (fun _=>False) rfl rfl ?aP (fun _ hk=>hk.elim) ?aF ?aO ?aB ?aS ?aL ?_;(case aP=>exact rfl);(case aB=>exact(by repeat(first |(with_reducible first | exact HB.out | apply bwA | apply bwN | apply bw1) | exact HB.out)));(case aF=>exact(fun _ _=>trivial));(case aO=>exact(by(with_reducible repeat(first | apply Kd.R_alloc | apply Kd.R_drewN | apply Kd.R_drew));exact HO_5.out));(case aS=>exact(bwZ (by repeat(first |(with_reducible first | exact HB.out | apply bwA | apply bwN | apply bw1) | exact HB.out))));(case aL=>have:=LMc8.out;omega);intro v225 w9 ho hb hg hat;rw [← Ny224.out] at ho;have n0_:=Aside0.mk (hb);have n1_:=Aside0.mk (ho);clear HB;clear HO_5;have HB:=n0_;have HO226:=n1_;clear n0_ n1_;clear ho hb hg hat)))
   go_roundg k1
   case measure=>have:=HK1.out;omega
   exact⟨(y224),(wrap64 (x6_1 + 1)),(by first | rfl |(simp;done) |(simp [*];done)),H',⟨by have:=HK1.out;omega⟩,⟨by(with_reducible repeat(first | apply Kd.R_alloc | apply Kd.R_drewN | apply Kd.R_drew));exact HO226.out⟩,⟨by repeat(first |(with_reducible first | exact HB.out | apply bwA | apply bwN | apply bw1) | exact HB.out)⟩⟩
 case rest =>
  clear HC3
  try clear p2
  try clear q2
  try clear hx2
  try clear c4
  try clear c4b0
  try clear c5
  try clear c5b0
  try clear c6
  try clear c6b0
  try clear p6
  try clear c8
  try clear hx222_0
  try clear p2
  try clear p222
  try clear q222
  obtain ⟨kq,x5_2,HA,HJ2,HO_5,HB⟩:=hcut
  cases kq with
  | zero=>exact absurd HA.out (by simp [w10_TurnsDialSteps.j1])
  | succ kj2 =>
   have H:=HA.out
   clear HA
   simp only [w10_TurnsDialSteps.j1] at H
   replace H:=Option.bind_eq_some_iff.mp H
   obtain ⟨t227,A100,H⟩:=H
   replace H :((w10_mod.f a1 t227).bind fun t228=>((turns_Setting.f x5_2 t228).bind fun bt229=>((turns_SettingAt.f x5_2 bt229.1).bind fun bt233=>(if bt229.2 = 0 then(if bt233.2 = 0 then(if bt233.1 = t228 then((q10_Settings.f kj2 x5_2 bt229.1).bind fun t235=>(w10_TurnsDialSteps.j2 kj2 t228 x5_2 t227 bt229.1 (!t235))) else(w10_TurnsDialSteps.j2 kj2 t228 x5_2 t227 bt229.1 true)) else(w10_TurnsDialSteps.j2 kj2 t228 x5_2 t227 bt229.1 true)) else(w10_TurnsDialSteps.j2 kj2 t228 x5_2 t227 bt229.1 true))))) = some r:=H
   have A10:=Aside0.mk A100
   clear A100
   replace H:=Option.bind_eq_some_iff.mp H
   obtain ⟨t228,A110,H⟩:=H
   replace H :((turns_Setting.f x5_2 t228).bind fun bt229=>((turns_SettingAt.f x5_2 bt229.1).bind fun bt233=>(if bt229.2 = 0 then(if bt233.2 = 0 then(if bt233.1 = t228 then((q10_Settings.f kj2 x5_2 bt229.1).bind fun t235=>(w10_TurnsDialSteps.j2 kj2 t228 x5_2 t227 bt229.1 (!t235))) else(w10_TurnsDialSteps.j2 kj2 t228 x5_2 t227 bt229.1 true)) else(w10_TurnsDialSteps.j2 kj2 t228 x5_2 t227 bt229.1 true)) else(w10_TurnsDialSteps.j2 kj2 t228 x5_2 t227 bt229.1 true)))) = some r:=H
   have A11:=Aside0.mk A110
   clear A110
   replace H:=Option.bind_eq_some_iff.mp H
   obtain ⟨⟨t229,t230⟩,A120,H⟩:=H
   replace H :((turns_SettingAt.f x5_2 t229).bind fun bt233=>(if t230 = 0 then(if bt233.2 = 0 then(if bt233.1 = t228 then((q10_Settings.f kj2 x5_2 t229).bind fun t235=>(w10_TurnsDialSteps.j2 kj2 t228 x5_2 t227 t229 (!t235))) else(w10_TurnsDialSteps.j2 kj2 t228 x5_2 t227 t229 true)) else(w10_TurnsDialSteps.j2 kj2 t228 x5_2 t227 t229 true)) else(w10_TurnsDialSteps.j2 kj2 t228 x5_2 t227 t229 true))) = some r:=H
   have A12:=Aside0.mk A120
   clear A120
   replace H:=Option.bind_eq_some_iff.mp H
   obtain ⟨⟨t233,t234⟩,A130,H⟩:=H
   replace H :(if t230 = 0 then(if t234 = 0 then(if t233 = t228 then((q10_Settings.f kj2 x5_2 t229).bind fun t235=>(w10_TurnsDialSteps.j2 kj2 t228 x5_2 t227 t229 (!t235))) else(w10_TurnsDialSteps.j2 kj2 t228 x5_2 t227 t229 true)) else(w10_TurnsDialSteps.j2 kj2 t228 x5_2 t227 t229 true)) else(w10_TurnsDialSteps.j2 kj2 t228 x5_2 t227 t229 true)) = some r:=H
   have A13:=Aside0.mk A130
   clear A130
   have HC14:=Aside0.mk H
   clear H
   obtain ⟨Ao15,co15,eo15⟩:=Kd.R_slice HO_5.out
   subst eo15
   go_upto_region 10 with (first |(go_at_call 21;(with_reducible refine(q10_Product.calls kj2 _ _ x5_2 t227 _ ?side1 ?side2 A10.out).mono ?_);(case side1=>repeat(first | exact(Kd.R_reads' HO_5.out).2.2 |(with_reducible refine Kd.C_alloc ?_ _) |(with_reducible refine Kd.C_drewN ?_ _) |(with_reducible refine Kd.C_drew ?_)));(case side2=>exact(Kd.R_reads' HO_5.out).2.1);rintro e w' ⟨rfl,⟨nd,rfl⟩⟩;(try first | exact⟨rfl,_,World.drewN_drewN _ _ _⟩ | exact⟨rfl,_,Eq.trans (World.drewN_drewN _ _ _) (congrArg (World.drewN _) (Nat.add_assoc _ _ _))⟩)) |(go_at_call 26;(with_reducible refine(w10_mod.calls a1 t227 t228 _ A11.out).mono ?_);rintro e w' ⟨rfl,⟨nd,rfl⟩⟩;(try first | exact⟨rfl,_,World.drewN_drewN _ _ _⟩ | exact⟨rfl,_,Eq.trans (World.drewN_drewN _ _ _) (congrArg (World.drewN _) (Nat.add_assoc _ _ _))⟩)) |(go_at_call 17;(with_reducible refine(turns_Setting.calls _ _ x5_2 t228 t229 t230 _ ?side1 ?side2 A12.out).mono ?_);(case side1=>repeat(first | exact(Kd.R_reads' HO_5.out).2.2 |(with_reducible refine Kd.C_alloc ?_ _) |(with_reducible refine Kd.C_drewN ?_ _) |(with_reducible refine Kd.C_drew ?_)));(case side2=>exact(Kd.R_reads' HO_5.out).2.1);rintro e w16 ⟨v231,rfl,ho0,hb⟩;have n0_:=Aside0.mk (Kd.R_elder' (by(with_reducible repeat(first | apply Kd.R_alloc | apply Kd.R_drewN | apply Kd.R_drew));exact HO_5.out) (Kd.R_base ho0) hb);have n1_:=Aside0.mk (Kd.R_lower (Kd.R_new' ho0 (Kd.R_lt (by(with_reducible repeat(first | apply Kd.R_alloc | apply Kd.R_drewN | apply Kd.R_drew));exact HO_5.out))) (bwZ (by repeat(first |(with_reducible first | exact HB.out | apply bwA | apply bwN | apply bw1) | exact HB.out))));have n2_:=Aside0.mk (bwT (by repeat(first |(with_reducible first | exact HB.out | apply bwA | apply bwN | apply bw1) | exact HB.out)) hb);clear HO_5;clear HB;have HO_5:=n0_;have HO232:=n1_;have HB:=n2_;clear n0_ n1_ n2_;(try clear hb);(try clear hb2);(try clear hk);(try clear hi);(try clear ho0);obtain ⟨Ao17,co17,eo17⟩:=Kd.R_slice HO232.out;subst eo17) |(go_at_call 18;(with_reducible refine(turns_SettingAt.calls _ _ x5_2 _ _ t229 t233 t234 _ ?side1 ?side2 ?side3 ?side4 A13.out).mono ?_);(case side1=>repeat(first | exact(Kd.R_reads' HO_5.out).2.2 |(with_reducible refine Kd.C_alloc ?_ _) |(with_reducible refine Kd.C_drewN ?_ _) |(with_reducible refine Kd.C_drew ?_)));(case side2=>exact(Kd.R_reads' HO_5.out).2.1);(case side3=>repeat(first | exact(Kd.R_reads' HO232.out).2.2 |(with_reducible refine Kd.C_alloc ?_ _) |(with_reducible refine Kd.C_drewN ?_ _) |(with_reducible refine Kd.C_drew ?_)));(case side4=>exact(Kd.R_reads' HO232.out).2.1);rintro e w18 ⟨rfl,hb⟩;have n0_:=Aside0.mk (Kd.R_below (by(with_reducible repeat(first | apply Kd.R_alloc | apply Kd.R_drewN | apply Kd.R_drew));exact HO_5.out) hb);have n1_:=Aside0.mk (Kd.R_below (by(with_reducible repeat(first | apply Kd.R_alloc | apply Kd.R_drewN | apply Kd.R_drew));exact HO232.out) hb);have n2_:=Aside0.mk (bwT (by repeat(first |(with_reducible first | exact HB.out | apply bwA | apply bwN | apply bw1) | exact HB.out)) hb);clear HO_5;clear HO232;clear HB;have HO_5:=n0_;have HO232:=n1_;have HB:=n2_;clear n0_ n1_ n2_;(try clear hb);(try clear hb2);(try clear hk);(try clear hi)))
   repeat(go_quiet (first |(go_at_call 21;(with_reducible refine(q10_Product.calls kj2 _ _ x5_2 t227 _ ?side1 ?side2 A10.out).mono ?_);(case side1=>repeat(first | exact(Kd.R_reads' HO_5.out).2.2 |(with_reducible refine Kd.C_alloc ?_ _) |(with_reducible refine Kd.C_drewN ?_ _) |(with_reducible refine Kd.C_drew ?_)));(case side2=>exact(Kd.R_reads' HO_5.out).2.1);rintro e w' ⟨rfl,⟨nd,rfl⟩⟩;(try first | exact⟨rfl,_,World.drewN_drewN _ _ _⟩ | exact⟨rfl,_,Eq.trans (World.drewN_drewN _ _ _) (congrArg (World.drewN _) (Nat.add_assoc _ _ _))⟩)) |(go_at_call 26;(with_reducible refine(w10_mod.calls a1 t227 t228 _ A11.out).mono ?_);rintro e w' ⟨rfl,⟨nd,rfl⟩⟩;(try first | exact⟨rfl,_,World.drewN_drewN _ _ _⟩ | exact⟨rfl,_,Eq.trans (World.drewN_drewN _ _ _) (congrArg (World.drewN _) (Nat.add_assoc _ _ _))⟩)) |(go_at_call 17;(with_reducible refine(turns_Setting.calls _ _ x5_2 t228 t229 t230 _ ?side1 ?side2 A12.out).mono ?_);(case side1=>repeat(first | exact(Kd.R_reads' HO_5.out).2.2 |(with_reducible refine Kd.C_alloc ?_ _) |(with_reducible refine Kd.C_drewN ?_ _) |(with_reducible refine Kd.C_drew ?_)));(case side2=>exact(Kd.R_reads' HO_5.out).2.1);rintro e w16 ⟨v231,rfl,ho0,hb⟩;have n0_:=Aside0.mk (Kd.R_elder' (by(with_reducible repeat(first | apply Kd.R_alloc | apply Kd.R_drewN | apply Kd.R_drew));exact HO_5.out) (Kd.R_base ho0) hb);have n1_:=Aside0.mk (Kd.R_lower (Kd.R_new' ho0 (Kd.R_lt (by(with_reducible repeat(first | apply Kd.R_alloc | apply Kd.R_drewN | apply Kd.R_drew));exact HO_5.out))) (bwZ (by repeat(first |(with_reducible first | exact HB.out | apply bwA | apply bwN | apply bw1) | exact HB.out))));have n2_:=Aside0.mk (bwT (by repeat(first |(with_reducible first | exact HB.out | apply bwA | apply bwN | apply bw1) | exact HB.out)) hb);clear HO_5;clear HB;have HO_5:=n0_;have HO232:=n1_;have HB:=n2_;clear n0_ n1_ n2_;(try clear hb);(try clear hb2);(try clear hk);(try clear hi);(try clear ho0);obtain ⟨Ao17,co17,eo17⟩:=Kd.R_slice HO232.out;subst eo17) |(go_at_call 18;(with_reducible refine(turns_SettingAt.calls _ _ x5_2 _ _ t229 t233 t234 _ ?side1 ?side2 ?side3 ?side4 A13.out).mono ?_);(case side1=>repeat(first | exact(Kd.R_reads' HO_5.out).2.2 |(with_reducible refine Kd.C_alloc ?_ _) |(with_reducible refine Kd.C_drewN ?_ _) |(with_reducible refine Kd.C_drew ?_)));(case side2=>exact(Kd.R_reads' HO_5.out).2.1);(case side3=>repeat(first | exact(Kd.R_reads' HO232.out).2.2 |(with_reducible refine Kd.C_alloc ?_ _) |(with_reducible refine Kd.C_drewN ?_ _) |(with_reducible refine Kd.C_drew ?_)));(case side4=>exact(Kd.R_reads' HO232.out).2.1);rintro e w18 ⟨rfl,hb⟩;have n0_:=Aside0.mk (Kd.R_below (by(with_reducible repeat(first | apply Kd.R_alloc | apply Kd.R_drewN | apply Kd.R_drew));exact HO_5.out) hb);have n1_:=Aside0.mk (Kd.R_below (by(with_reducible repeat(first | apply Kd.R_alloc | apply Kd.R_drewN | apply Kd.R_drew));exact HO232.out) hb);have n2_:=Aside0.mk (bwT (by repeat(first |(with_reducible first | exact HB.out | apply bwA | apply bwN | apply bw1) | exact HB.out)) hb);clear HO_5;clear HO232;clear HB;have HO_5:=n0_;have HO232:=n1_;have HB:=n2_;clear n0_ n1_ n2_;(try clear hb);(try clear hb2);(try clear hk);(try clear hi)));go_upto_region 10 with (first |(go_at_call 21;(with_reducible refine(q10_Product.calls kj2 _ _ x5_2 t227 _ ?side1 ?side2 A10.out).mono ?_);(case side1=>repeat(first | exact(Kd.R_reads' HO_5.out).2.2 |(with_reducible refine Kd.C_alloc ?_ _) |(with_reducible refine Kd.C_drewN ?_ _) |(with_reducible refine Kd.C_drew ?_)));(case side2=>exact(Kd.R_reads' HO_5.out).2.1);rintro e w' ⟨rfl,⟨nd,rfl⟩⟩;(try first | exact⟨rfl,_,World.drewN_drewN _ _ _⟩ | exact⟨rfl,_,Eq.trans (World.drewN_drewN _ _ _) (congrArg (World.drewN _) (Nat.add_assoc _ _ _))⟩)) |(go_at_call 26;(with_reducible refine(w10_mod.calls a1 t227 t228 _ A11.out).mono ?_);rintro e w' ⟨rfl,⟨nd,rfl⟩⟩;(try first | exact⟨rfl,_,World.drewN_drewN _ _ _⟩ | exact⟨rfl,_,Eq.trans (World.drewN_drewN _ _ _) (congrArg (World.drewN _) (Nat.add_assoc _ _ _))⟩)) |(go_at_call 17;(with_reducible refine(turns_Setting.calls _ _ x5_2 t228 t229 t230 _ ?side1 ?side2 A12.out).mono ?_);(case side1=>repeat(first | exact(Kd.R_reads' HO_5.out).2.2 |(with_reducible refine Kd.C_alloc ?_ _) |(with_reducible refine Kd.C_drewN ?_ _) |(with_reducible refine Kd.C_drew ?_)));(case side2=>exact(Kd.R_reads' HO_5.out).2.1);rintro e w16 ⟨v231,rfl,ho0,hb⟩;have n0_:=Aside0.mk (Kd.R_elder' (by(with_reducible repeat(first | apply Kd.R_alloc | apply Kd.R_drewN | apply Kd.R_drew));exact HO_5.out) (Kd.R_base ho0) hb);have n1_:=Aside0.mk (Kd.R_lower (Kd.R_new' ho0 (Kd.R_lt (by(with_reducible repeat(first | apply Kd.R_alloc | apply Kd.R_drewN | apply Kd.R_drew));exact HO_5.out))) (bwZ (by repeat(first |(with_reducible first | exact HB.out | apply bwA | apply bwN | apply bw1) | exact HB.out))));have n2_:=Aside0.mk (bwT (by repeat(first |(with_reducible first | exact HB.out | apply bwA | apply bwN | apply bw1) | exact HB.out)) hb);clear HO_5;clear HB;have HO_5:=n0_;have HO232:=n1_;have HB:=n2_;clear n0_ n1_ n2_;(try clear hb);(try clear hb2);(try clear hk);(try clear hi);(try clear ho0);obtain ⟨Ao17,co17,eo17⟩:=Kd.R_slice HO232.out;subst eo17) |(go_at_call 18;(with_reducible refine(turns_SettingAt.calls _ _ x5_2 _ _ t229 t233 t234 _ ?side1 ?side2 ?side3 ?side4 A13.out).mono ?_);(case side1=>repeat(first | exact(Kd.R_reads' HO_5.out).2.2 |(with_reducible refine Kd.C_alloc ?_ _) |(with_reducible refine Kd.C_drewN ?_ _) |(with_reducible refine Kd.C_drew ?_)));(case side2=>exact(Kd.R_reads' HO_5.out).2.1);(case side3=>repeat(first | exact(Kd.R_reads' HO232.out).2.2 |(with_reducible refine Kd.C_alloc ?_ _) |(with_reducible refine Kd.C_drewN ?_ _) |(with_reducible refine Kd.C_drew ?_)));(case side4=>exact(Kd.R_reads' HO232.out).2.1);rintro e w18 ⟨rfl,hb⟩;have n0_:=Aside0.mk (Kd.R_below (by(with_reducible repeat(first | apply Kd.R_alloc | apply Kd.R_drewN | apply Kd.R_drew));exact HO_5.out) hb);have n1_:=Aside0.mk (Kd.R_below (by(with_reducible repeat(first | apply Kd.R_alloc | apply Kd.R_drewN | apply Kd.R_drew));exact HO232.out) hb);have n2_:=Aside0.mk (bwT (by repeat(first |(with_reducible first | exact HB.out | apply bwA | apply bwN | apply bw1) | exact HB.out)) hb);clear HO_5;clear HO232;clear HB;have HO_5:=n0_;have HO232:=n1_;have HB:=n2_;clear n0_ n1_ n2_;(try clear hb);(try clear hb2);(try clear hk);(try clear hi))))
   (try simp only [Act.put,List.setIfInBounds_toArray,List.set_cons_zero,List.set_cons_succ])
   go_cut [69] (fun v69 wc=>∃ (kq : Nat) (x69_13 : Bool),v69 = .bool x69_13∧Aside0 (w10_TurnsDialSteps.j2 kq t228 x5_2 t227 t229 x69_13 = some r)∧Aside0 (kq≤kj2)∧Aside0 (Kd.R (Kd.int .i64) 3 wc w.heap.size (fun k_=>some k_ ≠((.slice Ao17 t229.length co17) : Value).ownBlock) (.slice Ao15 x5_2.length co15) x5_2)∧Aside0 (Kd.R (Kd.int .i64) 3 wc w.heap.size (fun k_=>some k_ ≠((.slice Ao15 x5_2.length co15) : Value).ownBlock) (.slice Ao17 t229.length co17) t229)∧Aside0 (Below w.heap.size w wc))
   case first =>
    have H:=HC14.out
    clear HC14
    by_cases c19 : t230 = 0
    rotate_left
    ·rw [if_neg c19] at H
     have c19b0 :(t230 == 0) = false:=beq_eq_false_iff_ne.mpr c19
     have c19b1 :(t230 != 0) = true:=bne_iff_ne.mpr c19
     (first | rw [c19b0] |(simp only [i64_w,i32_w];rw [c19b0]) | skip)
     have H':=Aside0.mk H
     clear H
     go_wp2
     repeat(go_quiet (fail);try go_wp2)
     go_meet
     exact⟨_,(true),(by first | rfl |(simp;done) |(simp [*];done)),H',⟨by have:=HJ2.out;first | omega | exact Nat.le_refl _⟩,⟨by(with_reducible repeat(first | apply Kd.R_alloc | apply Kd.R_drewN | apply Kd.R_drew));exact Kd.R_mono HO_5.out (fun _ hk=>hk.2)⟩,⟨by(with_reducible repeat(first | apply Kd.R_alloc | apply Kd.R_drewN | apply Kd.R_drew));exact Kd.R_mono HO232.out (fun _ hk=>hk.2)⟩,⟨by repeat(first |(with_reducible first | exact HB.out | apply bwA | apply bwN | apply bw1) | exact HB.out)⟩⟩
    rw [if_pos c19] at H
    have c19b0 :(t230 == 0) = true:=beq_iff_eq.mpr c19
    have c19b1 :(t230 != 0) = false:=bne_eq_false_iff_eq.mpr c19
    clear c19
    (first | rw [c19b0] |(simp only [i64_w,i32_w];rw [c19b0]) | skip)
    by_cases c20 : t234 = 0
    rotate_left
    ·rw [if_neg c20] at H
     have c20b0 :(t234 == 0) = false:=beq_eq_false_iff_ne.mpr c20
     have c20b1 :(t234 != 0) = true:=bne_iff_ne.mpr c20
     have H':=Aside0.mk H
     clear H
     go_wp2
     repeat(go_quiet (fail);try go_wp2)
     go_meet
     exact⟨_,(true),(by first | rfl |(simp;done) |(simp [*];done)),H',⟨by have:=HJ2.out;first | omega | exact Nat.le_refl _⟩,⟨by(with_reducible repeat(first | apply Kd.R_alloc | apply Kd.R_drewN | apply Kd.R_drew));exact Kd.R_mono HO_5.out (fun _ hk=>hk.2)⟩,⟨by(with_reducible repeat(first | apply Kd.R_alloc | apply Kd.R_drewN | apply Kd.R_drew));exact Kd.R_mono HO232.out (fun _ hk=>hk.2)⟩,⟨by repeat(first |(with_reducible first | exact HB.out | apply bwA | apply bwN | apply bw1) | exact HB.out)⟩⟩
    rw [if_pos c20] at H
    have c20b0 :(t234 == 0) = true:=beq_iff_eq.mpr c20
    have c20b1 :(t234 != 0) = false:=bne_eq_false_iff_eq.mpr c20
    clear c20
    by_cases c21 : t233 = t228
    rotate_left
    ·rw [if_neg c21] at H
     have c21b0 :(t233 == t228) = false:=beq_eq_false_iff_ne.mpr c21
     have c21b1 :(t233 != t228) = true:=bne_iff_ne.mpr c21
     have H':=Aside0.mk H
     clear H
     go_wp2
     repeat(go_quiet (fail);try go_wp2)
     go_meet
     exact⟨_,(true),(by first | rfl |(simp;done) |(simp [*];done)),H',⟨by have:=HJ2.out;first | omega | exact Nat.le_refl _⟩,⟨by(with_reducible repeat(first | apply Kd.R_alloc | apply Kd.R_drewN | apply Kd.R_drew));exact Kd.R_mono HO_5.out (fun _ hk=>hk.2)⟩,⟨by(with_reducible repeat(first | apply Kd.R_alloc | apply Kd.R_drewN | apply Kd.R_drew));exact Kd.R_mono HO232.out (fun _ hk=>hk.2)⟩,⟨by repeat(first |(with_reducible first | exact HB.out | apply bwA | apply bwN | apply bw1) | exact HB.out)⟩⟩
    rw [if_pos c21] at H
    have c21b0 :(t233 == t228) = true:=beq_iff_eq.mpr c21
    have c21b1 :(t233 != t228) = false:=bne_eq_false_iff_eq.mpr c21
    clear c21
    replace H:=Option.bind_eq_some_iff.mp H
    obtain ⟨t235,A220,H⟩:=H
    replace H :(w10_TurnsDialSteps.j2 kj2 t228 x5_2 t227 t229 (!t235)) = some r:=H
    have A22:=Aside0.mk A220
    clear A220
    have H':=Aside0.mk H
    clear H
    go_wp2_with (first |(go_at_call 24;(with_reducible refine(q10_Settings.calls kj2 _ _ x5_2 _ _ t229 t235 _ ?side1 ?side2 ?side3 ?side4 A22.out).mono ?_);(case side1=>repeat(first | exact(Kd.R_reads' HO_5.out).2.2 |(with_reducible refine Kd.C_alloc ?_ _) |(with_reducible refine Kd.C_drewN ?_ _) |(with_reducible refine Kd.C_drew ?_)));(case side2=>exact(Kd.R_reads' HO_5.out).2.1);(case side3=>repeat(first | exact(Kd.R_reads' HO232.out).2.2 |(with_reducible refine Kd.C_alloc ?_ _) |(with_reducible refine Kd.C_drewN ?_ _) |(with_reducible refine Kd.C_drew ?_)));(case side4=>exact(Kd.R_reads' HO232.out).2.1);rintro e w' ⟨rfl,⟨nd,rfl⟩⟩;(try first | exact⟨rfl,_,World.drewN_drewN _ _ _⟩ | exact⟨rfl,_,Eq.trans (World.drewN_drewN _ _ _) (congrArg (World.drewN _) (Nat.add_assoc _ _ _))⟩)))
    repeat(go_quiet (first |(go_at_call 24;(with_reducible refine(q10_Settings.calls kj2 _ _ x5_2 _ _ t229 t235 _ ?side1 ?side2 ?side3 ?side4 A22.out).mono ?_);(case side1=>repeat(first | exact(Kd.R_reads' HO_5.out).2.2 |(with_reducible refine Kd.C_alloc ?_ _) |(with_reducible refine Kd.C_drewN ?_ _) |(with_reducible refine Kd.C_drew ?_)));(case side2=>exact(Kd.R_reads' HO_5.out).2.1);(case side3=>repeat(first | exact(Kd.R_reads' HO232.out).2.2 |(with_reducible refine Kd.C_alloc ?_ _) |(with_reducible refine Kd.C_drewN ?_ _) |(with_reducible refine Kd.C_drew ?_)));(case side4=>exact(Kd.R_reads' HO232.out).2.1);rintro e w' ⟨rfl,⟨nd,rfl⟩⟩;(try first | exact⟨rfl,_,World.drewN_drewN _ _ _⟩ | exact⟨rfl,_,Eq.trans (World.drewN_drewN _ _ _) (congrArg (World.drewN _) (Nat.add_assoc _ _ _))⟩)));try go_wp2_with (first |(go_at_call 24;(with_reducible refine(q10_Settings.calls kj2 _ _ x5_2 _ _ t229 t235 _ ?side1 ?side2 ?side3 ?side4 A22.out).mono ?_);(case side1=>repeat(first | exact(Kd.R_reads' HO_5.out).2.2 |(with_reducible refine Kd.C_alloc ?_ _) |(with_reducible refine Kd.C_drewN ?_ _) |(with_reducible refine Kd.C_drew ?_)));(case side2=>exact(Kd.R_reads' HO_5.out).2.1);(case side3=>repeat(first | exact(Kd.R_reads' HO232.out).2.2 |(with_reducible refine Kd.C_alloc ?_ _) |(with_reducible refine Kd.C_drewN ?_ _) |(with_reducible refine Kd.C_drew ?_)));(case side4=>exact(Kd.R_reads' HO232.out).2.1);rintro e w' ⟨rfl,⟨nd,rfl⟩⟩;(try first | exact⟨rfl,_,World.drewN_drewN _ _ _⟩ | exact⟨rfl,_,Eq.trans (World.drewN_drewN _ _ _) (congrArg (World.drewN _) (Nat.add_assoc _ _ _))⟩))))
    go_meet
    exact⟨_,(!t235),(by first | rfl |(simp;done) |(simp [*];done)),H',⟨by have:=HJ2.out;first | omega | exact Nat.le_refl _⟩,⟨by(with_reducible repeat(first | apply Kd.R_alloc | apply Kd.R_drewN | apply Kd.R_drew));exact Kd.R_mono HO_5.out (fun _ hk=>hk.2)⟩,⟨by(with_reducible repeat(first | apply Kd.R_alloc | apply Kd.R_drewN | apply Kd.R_drew));exact Kd.R_mono HO232.out (fun _ hk=>hk.2)⟩,⟨by repeat(first |(with_reducible first | exact HB.out | apply bwA | apply bwN | apply bw1) | exact HB.out)⟩⟩
   case rest =>
    clear HC14
    try clear c1
    try clear c2
    try clear p2
    try clear q2
    try clear hx2
    try clear c4
    try clear c4b0
    try clear c5
    try clear c5b0
    try clear c6
    try clear c6b0
    try clear p6
    try clear c8
    try clear c19
    try clear c19b0
    try clear c19b1
    try clear c20
    try clear c20b0
    try clear c20b1
    try clear c21
    try clear c21b0
    try clear c21b1
    try clear p22
    try clear q22
    try clear hx22
    try clear hx222_0
    try clear p2
    try clear p222
    try clear p6
    try clear q2
    try clear q222
    obtain ⟨kq,x69_13,rfl,HA,HJ13,HO_5,HO_8,HB⟩:=hcut
    cases kq with
    | zero=>exact absurd HA.out (by simp [w10_TurnsDialSteps.j2])
    | succ kj13 =>
     have H:=HA.out
     clear HA
     simp only [w10_TurnsDialSteps.j2] at H
     by_cases c23 : x69_13 = true
     ·subst c23
      have H1 :(some false) = some r:=by rw [if_pos rfl] at H;exact H
      clear H
      have H:=H1
      clear H1
      obtain rfl:=Option.some.inj H
      go_wp2
      repeat(go_quiet (fail);try go_wp2)
      go_ret
      exact⟨by first | rfl |(simp [errW_none,errW_some] <;> rfl) |(simp [*,errW_none,errW_some] <;> rfl),by repeat(first |(with_reducible first | exact HB.out | apply bwA | apply bwN | apply bw1) | exact HB.out)⟩
     replace c23:=Bool.eq_false_iff.mpr c23
     subst c23
     have H1 :(if t228 =(wrap64 (t227 - 1)) then((w10_awake.f kj13).bind fun t236=>(some t236)) else((turns_Setting.f x5_2 (wrap64 (t228 + 1))).bind fun bt237=>(if bt237.2 = 0 then((q10_Settings.f kj13 x5_2 bt237.1).bind fun t241=>(w10_TurnsDialSteps.j3 kj13 t229 bt237.1 (!t241))) else(w10_TurnsDialSteps.j3 kj13 t229 bt237.1 true)))) = some r:=by rw [if_neg (show ¬ (false = true) by decide)] at H;exact H
     clear H
     have H:=H1
     clear H1
     by_cases c24 : t228 =(wrap64 (t227 - 1))
     ·rw [if_pos c24] at H
      have c24b0 :(t228 ==(wrap64 (t227 - 1))) = true:=beq_iff_eq.mpr c24
      have c24b1 :(t228 !=(wrap64 (t227 - 1))) = false:=bne_eq_false_iff_eq.mpr c24
      clear c24
      replace H:=Option.bind_eq_some_iff.mp H
      obtain ⟨t236,A250,H⟩:=H
      replace H :(some t236) = some r:=H
      have A25:=Aside0.mk A250
      clear A250
      obtain rfl:=Option.some.inj H
      go_wp2_with (first |(go_at_call 20;(with_reducible refine(w10_awake.calls kj13  t236 _ A25.out).mono ?_);rintro e w26 ⟨rfl,hb⟩;have n0_:=Aside0.mk (Kd.R_below (by(with_reducible repeat(first | apply Kd.R_alloc | apply Kd.R_drewN | apply Kd.R_drew));exact HO_5.out) hb);have n1_:=Aside0.mk (Kd.R_below (by(with_reducible repeat(first | apply Kd.R_alloc | apply Kd.R_drewN | apply Kd.R_drew));exact HO_8.out) hb);have n2_:=Aside0.mk (bwT (by repeat(first |(with_reducible first | exact HB.out | apply bwA | apply bwN | apply bw1) | exact HB.out)) hb);clear HO_5;clear HO_8;clear HB;have HO_5:=n0_;have HO_8:=n1_;have HB:=n2_;clear n0_ n1_ n2_;(try clear hb);(try clear hb2);(try clear hk);(try clear hi)))
      repeat(go_quiet (first |(go_at_call 20;(with_reducible refine(w10_awake.calls kj13  t236 _ A25.out).mono ?_);rintro e w26 ⟨rfl,hb⟩;have n0_:=Aside0.mk (Kd.R_below (by(with_reducible repeat(first | apply Kd.R_alloc | apply Kd.R_drewN | apply Kd.R_drew));exact HO_5.out) hb);have n1_:=Aside0.mk (Kd.R_below (by(with_reducible repeat(first | apply Kd.R_alloc | apply Kd.R_drewN | apply Kd.R_drew));exact HO_8.out) hb);have n2_:=Aside0.mk (bwT (by repeat(first |(with_reducible first | exact HB.out | apply bwA | apply bwN | apply bw1) | exact HB.out)) hb);clear HO_5;clear HO_8;clear HB;have HO_5:=n0_;have HO_8:=n1_;have HB:=n2_;clear n0_ n1_ n2_;(try clear hb);(try clear hb2);(try clear hk);(try clear hi)));try go_wp2_with (first |(go_at_call 20;(with_reducible refine(w10_awake.calls kj13  t236 _ A25.out).mono ?_);rintro e w26 ⟨rfl,hb⟩;have n0_:=Aside0.mk (Kd.R_below (by(with_reducible repeat(first | apply Kd.R_alloc | apply Kd.R_drewN | apply Kd.R_drew));exact HO_5.out) hb);have n1_:=Aside0.mk (Kd.R_below (by(with_reducible repeat(first | apply Kd.R_alloc | apply Kd.R_drewN | apply Kd.R_drew));exact HO_8.out) hb);have n2_:=Aside0.mk (bwT (by repeat(first |(with_reducible first | exact HB.out | apply bwA | apply bwN | apply bw1) | exact HB.out)) hb);clear HO_5;clear HO_8;clear HB;have HO_5:=n0_;have HO_8:=n1_;have HB:=n2_;clear n0_ n1_ n2_;(try clear hb);(try clear hb2);(try clear hk);(try clear hi))))
      go_ret
      exact⟨by first | rfl |(simp [errW_none,errW_some] <;> rfl) |(simp [*,errW_none,errW_some] <;> rfl),by repeat(first |(with_reducible first | exact HB.out | apply bwA | apply bwN | apply bw1) | exact HB.out)⟩
     rw [if_neg c24] at H
     have c24b0 :(t228 ==(wrap64 (t227 - 1))) = false:=beq_eq_false_iff_ne.mpr c24
     have c24b1 :(t228 !=(wrap64 (t227 - 1))) = true:=bne_iff_ne.mpr c24
     replace H:=Option.bind_eq_some_iff.mp H
     obtain ⟨⟨t237,t238⟩,A270,H⟩:=H
     replace H :(if t238 = 0 then((q10_Settings.f kj13 x5_2 t237).bind fun t241=>(w10_TurnsDialSteps.j3 kj13 t229 t237 (!t241))) else(w10_TurnsDialSteps.j3 kj13 t229 t237 true)) = some r:=H
     have A27:=Aside0.mk A270
     clear A270
     have HC28:=Aside0.mk H
     clear H
     go_upto_region 15 with (first |(go_at_call 17;(with_reducible refine(turns_Setting.calls _ _ x5_2 (wrap64 (t228 + 1)) t237 t238 _ ?side1 ?side2 A27.out).mono ?_);(case side1=>repeat(first | exact(Kd.R_reads' HO_5.out).2.2 |(with_reducible refine Kd.C_alloc ?_ _) |(with_reducible refine Kd.C_drewN ?_ _) |(with_reducible refine Kd.C_drew ?_)));(case side2=>exact(Kd.R_reads' HO_5.out).2.1);rintro e w29 ⟨v239,rfl,ho0,hb⟩;have n0_:=Aside0.mk (Kd.R_elder' (by(with_reducible repeat(first | apply Kd.R_alloc | apply Kd.R_drewN | apply Kd.R_drew));exact HO_5.out) (Kd.R_base ho0) hb);have n1_:=Aside0.mk (Kd.R_elder' (by(with_reducible repeat(first | apply Kd.R_alloc | apply Kd.R_drewN | apply Kd.R_drew));exact HO_8.out) (Kd.R_base ho0) hb);have n2_:=Aside0.mk (Kd.R_lower (Kd.R_new' (Kd.R_new' ho0 (Kd.R_lt (by(with_reducible repeat(first | apply Kd.R_alloc | apply Kd.R_drewN | apply Kd.R_drew));exact HO_5.out))) (Kd.R_lt (by(with_reducible repeat(first | apply Kd.R_alloc | apply Kd.R_drewN | apply Kd.R_drew));exact HO_8.out))) (bwZ (by repeat(first |(with_reducible first | exact HB.out | apply bwA | apply bwN | apply bw1) | exact HB.out))));have n3_:=Aside0.mk (bwT (by repeat(first |(with_reducible first | exact HB.out | apply bwA | apply bwN | apply bw1) | exact HB.out)) hb);clear HO_5;clear HO_8;clear HB;have HO_5:=n0_;have HO_8:=n1_;have HO240:=n2_;have HB:=n3_;clear n0_ n1_ n2_ n3_;(try clear hb);(try clear hb2);(try clear hk);(try clear hi);(try clear ho0)))
     repeat(go_quiet (first |(go_at_call 17;(with_reducible refine(turns_Setting.calls _ _ x5_2 (wrap64 (t228 + 1)) t237 t238 _ ?side1 ?side2 A27.out).mono ?_);(case side1=>repeat(first | exact(Kd.R_reads' HO_5.out).2.2 |(with_reducible refine Kd.C_alloc ?_ _) |(with_reducible refine Kd.C_drewN ?_ _) |(with_reducible refine Kd.C_drew ?_)));(case side2=>exact(Kd.R_reads' HO_5.out).2.1);rintro e w29 ⟨v239,rfl,ho0,hb⟩;have n0_:=Aside0.mk (Kd.R_elder' (by(with_reducible repeat(first | apply Kd.R_alloc | apply Kd.R_drewN | apply Kd.R_drew));exact HO_5.out) (Kd.R_base ho0) hb);have n1_:=Aside0.mk (Kd.R_elder' (by(with_reducible repeat(first | apply Kd.R_alloc | apply Kd.R_drewN | apply Kd.R_drew));exact HO_8.out) (Kd.R_base ho0) hb);have n2_:=Aside0.mk (Kd.R_lower (Kd.R_new' (Kd.R_new' ho0 (Kd.R_lt (by(with_reducible repeat(first | apply Kd.R_alloc | apply Kd.R_drewN | apply Kd.R_drew));exact HO_5.out))) (Kd.R_lt (by(with_reducible repeat(first | apply Kd.R_alloc | apply Kd.R_drewN | apply Kd.R_drew));exact HO_8.out))) (bwZ (by repeat(first |(with_reducible first | exact HB.out | apply bwA | apply bwN | apply bw1) | exact HB.out))));have n3_:=Aside0.mk (bwT (by repeat(first |(with_reducible first | exact HB.out | apply bwA | apply bwN | apply bw1) | exact HB.out)) hb);clear HO_5;clear HO_8;clear HB;have HO_5:=n0_;have HO_8:=n1_;have HO240:=n2_;have HB:=n3_;clear n0_ n1_ n2_ n3_;(try clear hb);(try clear hb2);(try clear hk);(try clear hi);(try clear ho0)));go_upto_region 15 with (first |(go_at_call 17;(with_reducible refine(turns_Setting.calls _ _ x5_2 (wrap64 (t228 + 1)) t237 t238 _ ?side1 ?side2 A27.out).mono ?_);(case side1=>repeat(first | exact(Kd.R_reads' HO_5.out).2.2 |(with_reducible refine Kd.C_alloc ?_ _) |(with_reducible refine Kd.C_drewN ?_ _) |(with_reducible refine Kd.C_drew ?_)));(case side2=>exact(Kd.R_reads' HO_5.out).2.1);rintro e w29 ⟨v239,rfl,ho0,hb⟩;have n0_:=Aside0.mk (Kd.R_elder' (by(with_reducible repeat(first | apply Kd.R_alloc | apply Kd.R_drewN | apply Kd.R_drew));exact HO_5.out) (Kd.R_base ho0) hb);have n1_:=Aside0.mk (Kd.R_elder' (by(with_reducible repeat(first | apply Kd.R_alloc | apply Kd.R_drewN | apply Kd.R_drew));exact HO_8.out) (Kd.R_base ho0) hb);have n2_:=Aside0.mk (Kd.R_lower (Kd.R_new' (Kd.R_new' ho0 (Kd.R_lt (by(with_reducible repeat(first | apply Kd.R_alloc | apply Kd.R_drewN | apply Kd.R_drew));exact HO_5.out))) (Kd.R_lt (by(with_reducible repeat(first | apply Kd.R_alloc | apply Kd.R_drewN | apply Kd.R_drew));exact HO_8.out))) (bwZ (by repeat(first |(with_reducible first | exact HB.out | apply bwA | apply bwN | apply bw1) | exact HB.out))));have n3_:=Aside0.mk (bwT (by repeat(first |(with_reducible first | exact HB.out | apply bwA | apply bwN | apply bw1) | exact HB.out)) hb);clear HO_5;clear HO_8;clear HB;have HO_5:=n0_;have HO_8:=n1_;have HO240:=n2_;have HB:=n3_;clear n0_ n1_ n2_ n3_;(try clear hb);(try clear hb2);(try clear hk);(try clear hi);(try clear ho0))))
     (try simp only [Act.put,List.setIfInBounds_toArray,List.set_cons_zero,List.set_cons_succ])
     go_cut [89] (fun v89 wc=>∃ (kq : Nat) (x89_27 : Bool),v89 = .bool x89_27∧Aside0 (w10_TurnsDialSteps.j3 kq t229 t237 x89_27 = some r)∧Aside0 (kq≤kj13)∧Aside0 (Kd.R (Kd.int .i64) 3 wc w.heap.size (fun k_=>some k_ ≠(v239 : Value).ownBlock) (.slice Ao17 t229.length co17) t229)∧Aside0 (Kd.R (Kd.int .i64) 3 wc w.heap.size (fun k_=>some k_ ≠((.slice Ao17 t229.length co17) : Value).ownBlock) v239 t237)∧Aside0 (Below w.heap.size w wc))
     case first =>
      have H:=HC28.out
      clear HC28
      by_cases c30 : t238 = 0
      rotate_left
      ·rw [if_neg c30] at H
       have c30b0 :(t238 == 0) = false:=beq_eq_false_iff_ne.mpr c30
       have c30b1 :(t238 != 0) = true:=bne_iff_ne.mpr c30
       (first | rw [c30b0] |(simp only [i64_w,i32_w];rw [c30b0]) | skip)
       have H':=Aside0.mk H
       clear H
       go_wp2
       repeat(go_quiet (fail);try go_wp2)
       go_meet
       exact⟨_,(true),(by first | rfl |(simp;done) |(simp [*];done)),H',⟨by have:=HJ2.out;have:=HJ13.out;first | omega | exact Nat.le_refl _⟩,⟨by(with_reducible repeat(first | apply Kd.R_alloc | apply Kd.R_drewN | apply Kd.R_drew));exact Kd.R_mono HO_8.out (fun _ hk=>hk.2)⟩,⟨by(with_reducible repeat(first | apply Kd.R_alloc | apply Kd.R_drewN | apply Kd.R_drew));exact Kd.R_mono HO240.out (fun _ hk=>hk.2)⟩,⟨by repeat(first |(with_reducible first | exact HB.out | apply bwA | apply bwN | apply bw1) | exact HB.out)⟩⟩
      rw [if_pos c30] at H
      have c30b0 :(t238 == 0) = true:=beq_iff_eq.mpr c30
      have c30b1 :(t238 != 0) = false:=bne_eq_false_iff_eq.mpr c30
      clear c30
      (first | rw [c30b0] |(simp only [i64_w,i32_w];rw [c30b0]) | skip)
      replace H:=Option.bind_eq_some_iff.mp H
      obtain ⟨t241,A310,H⟩:=H
      replace H :(w10_TurnsDialSteps.j3 kj13 t229 t237 (!t241)) = some r:=H
      have A31:=Aside0.mk A310
      clear A310
      have H':=Aside0.mk H
      clear H
      obtain ⟨Ao32,co32,eo32⟩:=Kd.R_slice HO240.out
      subst eo32
      go_wp2_with (first |(go_at_call 24;(with_reducible refine(q10_Settings.calls kj13 _ _ x5_2 _ _ t237 t241 _ ?side1 ?side2 ?side3 ?side4 A31.out).mono ?_);(case side1=>repeat(first | exact(Kd.R_reads' HO_5.out).2.2 |(with_reducible refine Kd.C_alloc ?_ _) |(with_reducible refine Kd.C_drewN ?_ _) |(with_reducible refine Kd.C_drew ?_)));(case side2=>exact(Kd.R_reads' HO_5.out).2.1);(case side3=>repeat(first | exact(Kd.R_reads' HO240.out).2.2 |(with_reducible refine Kd.C_alloc ?_ _) |(with_reducible refine Kd.C_drewN ?_ _) |(with_reducible refine Kd.C_drew ?_)));(case side4=>exact(Kd.R_reads' HO240.out).2.1);rintro e w' ⟨rfl,⟨nd,rfl⟩⟩;(try first | exact⟨rfl,_,World.drewN_drewN _ _ _⟩ | exact⟨rfl,_,Eq.trans (World.drewN_drewN _ _ _) (congrArg (World.drewN _) (Nat.add_assoc _ _ _))⟩)))
      repeat(go_quiet (first |(go_at_call 24;(with_reducible refine(q10_Settings.calls kj13 _ _ x5_2 _ _ t237 t241 _ ?side1 ?side2 ?side3 ?side4 A31.out).mono ?_);(case side1=>repeat(first | exact(Kd.R_reads' HO_5.out).2.2 |(with_reducible refine Kd.C_alloc ?_ _) |(with_reducible refine Kd.C_drewN ?_ _) |(with_reducible refine Kd.C_drew ?_)));(case side2=>exact(Kd.R_reads' HO_5.out).2.1);(case side3=>repeat(first | exact(Kd.R_reads' HO240.out).2.2 |(with_reducible refine Kd.C_alloc ?_ _) |(with_reducible refine Kd.C_drewN ?_ _) |(with_reducible refine Kd.C_drew ?_)));(case side4=>exact(Kd.R_reads' HO240.out).2.1);rintro e w' ⟨rfl,⟨nd,rfl⟩⟩;(try first | exact⟨rfl,_,World.drewN_drewN _ _ _⟩ | exact⟨rfl,_,Eq.trans (World.drewN_drewN _ _ _) (congrArg (World.drewN _) (Nat.add_assoc _ _ _))⟩)));try go_wp2_with (first |(go_at_call 24;(with_reducible refine(q10_Settings.calls kj13 _ _ x5_2 _ _ t237 t241 _ ?side1 ?side2 ?side3 ?side4 A31.out).mono ?_);(case side1=>repeat(first | exact(Kd.R_reads' HO_5.out).2.2 |(with_reducible refine Kd.C_alloc ?_ _) |(with_reducible refine Kd.C_drewN ?_ _) |(with_reducible refine Kd.C_drew ?_)));(case side2=>exact(Kd.R_reads' HO_5.out).2.1);(case side3=>repeat(first | exact(Kd.R_reads' HO240.out).2.2 |(with_reducible refine Kd.C_alloc ?_ _) |(with_reducible refine Kd.C_drewN ?_ _) |(with_reducible refine Kd.C_drew ?_)));(case side4=>exact(Kd.R_reads' HO240.out).2.1);rintro e w' ⟨rfl,⟨nd,rfl⟩⟩;(try first | exact⟨rfl,_,World.drewN_drewN _ _ _⟩ | exact⟨rfl,_,Eq.trans (World.drewN_drewN _ _ _) (congrArg (World.drewN _) (Nat.add_assoc _ _ _))⟩))))
      go_meet
      exact⟨_,(!t241),(by first | rfl |(simp;done) |(simp [*];done)),H',⟨by have:=HJ2.out;have:=HJ13.out;first | omega | exact Nat.le_refl _⟩,⟨by(with_reducible repeat(first | apply Kd.R_alloc | apply Kd.R_drewN | apply Kd.R_drew));exact Kd.R_mono HO_8.out (fun _ hk=>hk.2)⟩,⟨by(with_reducible repeat(first | apply Kd.R_alloc | apply Kd.R_drewN | apply Kd.R_drew));exact Kd.R_mono HO240.out (fun _ hk=>hk.2)⟩,⟨by repeat(first |(with_reducible first | exact HB.out | apply bwA | apply bwN | apply bw1) | exact HB.out)⟩⟩
     case rest =>
      clear HC28
      try clear c1
      try clear c2
      try clear p2
      try clear q2
      try clear hx2
      try clear c3
      try clear c4
      try clear c4b0
      try clear c5
      try clear c5b0
      try clear c6
      try clear c6b0
      try clear p6
      try clear c8
      try clear c19
      try clear c19b0
      try clear c19b1
      try clear c20
      try clear c20b0
      try clear c20b1
      try clear c21
      try clear c21b0
      try clear c21b1
      try clear p22
      try clear q22
      try clear hx22
      try clear c23
      try clear c24
      try clear c24b0
      try clear c24b1
      try clear c30
      try clear c30b0
      try clear c30b1
      try clear hx222_0
      try clear p2
      try clear p22
      try clear p222
      try clear p6
      try clear q2
      try clear q22
      try clear q222
      obtain ⟨kq,x89_27,rfl,HA,HJ27,HO_8,HO_12,HB⟩:=hcut
      cases kq with
      | zero=>exact absurd HA.out (by simp [w10_TurnsDialSteps.j3])
      | succ kj27 =>
       have H:=HA.out
       clear HA
       simp only [w10_TurnsDialSteps.j3] at H
       by_cases c33 : x89_27 = true
       ·subst c33
        have H1 :(some false) = some r:=by rw [if_pos rfl] at H;exact H
        clear H
        have H:=H1
        clear H1
        obtain rfl:=Option.some.inj H
        go_wp2
        repeat(go_quiet (fail);try go_wp2)
        go_ret
        exact⟨by first | rfl |(simp [errW_none,errW_some] <;> rfl) |(simp [*,errW_none,errW_some] <;> rfl),by repeat(first |(with_reducible first | exact HB.out | apply bwA | apply bwN | apply bw1) | exact HB.out)⟩
       replace c33:=Bool.eq_false_iff.mpr c33
       subst c33
       have H1 :(w10_TurnsDialSteps.l1 kj27 t229 t237 0 0) = some r:=by rw [if_neg (show ¬ (false = true) by decide)] at H;exact H
       clear H
       have H:=H1
       clear H1
       have H':=Aside0.mk H
       clear H
       go_wp2
       repeat(go_quiet (fail);try go_wp2)
       go_loopg [14,15] kj27 (fun kq v14 v15 w'=>∃ (x14_4 : Int) (x15_4 : Int),v14 = .int .i64 x14_4∧v15 = .int .i64 x15_4∧Aside0 (w10_TurnsDialSteps.l1 kq t229 t237 x14_4 x15_4 = some r)∧Aside0 (kq≤kj27)∧Aside0 (Kd.R (Kd.int .i64) 3 w' w.heap.size (fun k_=>some k_ ≠(v239 : Value).ownBlock) (.slice Ao17 t229.length co17) t229)∧Aside0 (Kd.R (Kd.int .i64) 3 w' w.heap.size (fun k_=>some k_ ≠((.slice Ao17 t229.length co17) : Value).ownBlock) v239 t237)∧Aside0 (Below w.heap.size w w'))
       case atStart=>exact⟨(0),(0),(by first | rfl |(simp;done) |(simp [*];done)),(by first | rfl |(simp;done) |(simp [*];done)),H',⟨Nat.le_refl _⟩,⟨by(with_reducible repeat(first | apply Kd.R_alloc | apply Kd.R_drewN | apply Kd.R_drew));exact HO_8.out⟩,⟨by(with_reducible repeat(first | apply Kd.R_alloc | apply Kd.R_drewN | apply Kd.R_drew));exact HO_12.out⟩,⟨by repeat(first |(with_reducible first | exact HB.out | apply bwA | apply bwN | apply bw1) | exact HB.out)⟩⟩
       clear H'
       try clear c1
       try clear c2
       try clear p2
       try clear q2
       try clear hx2
       try clear c3
       try clear c4
       try clear c4b0
       try clear c5
       try clear c5b0
       try clear c6
       try clear c6b0
       try clear p6
       try clear c8
       try clear c19
       try clear c19b0
       try clear c19b1
       try clear c20
       try clear c20b0
       try clear c20b1
       try clear c21
       try clear c21b0
       try clear c21b1
       try clear p22
       try clear q22
       try clear hx22
       try clear c23
       try clear c24
       try clear c24b0
       try clear c24b1
       try clear c30
       try clear c30b0
       try clear c30b1
       try clear c33
       try clear hx222_0
       try clear p2
       try clear p22
       try clear p222
       try clear p6
       try clear q2
       try clear q22
       try clear q222
       obtain ⟨x14_4,x15_4,rfl,rfl,HA,HK4,HO_8,HO_12,HB⟩:=hrel
       cases gk with
       | zero=>exact absurd HA.out (by simp [w10_TurnsDialSteps.l1])
       | succ k4 =>
        have H:=HA.out
        clear HA
        simp only [w10_TurnsDialSteps.l1] at H
        by_cases c34 : x15_4 < (t229.length : Int)
        rotate_left
        ·rw [if_neg c34] at H
         have c34b0 : decide (x15_4 < (t229.length : Int)) = false:=decide_eq_false c34
         clear c34
         by_cases c39 : x14_4 = 1
         rotate_left
         ·rw [if_neg c39] at H
          have c39b0 :(x14_4 == 1) = false:=beq_eq_false_iff_ne.mpr c39
          have c39b1 :(x14_4 != 1) = true:=bne_iff_ne.mpr c39
          obtain rfl:=Option.some.inj H
          go_wp2
          repeat(go_quiet (fail);try go_wp2)
          go_ret
          exact⟨by first | rfl |(simp [errW_none,errW_some] <;> rfl) |(simp [*,errW_none,errW_some] <;> rfl),by repeat(first |(with_reducible first | exact HB.out | apply bwA | apply bwN | apply bw1) | exact HB.out)⟩
         rw [if_pos c39] at H
         have c39b0 :(x14_4 == 1) = true:=beq_iff_eq.mpr c39
         have c39b1 :(x14_4 != 1) = false:=bne_eq_false_iff_eq.mpr c39
         clear c39
         replace H:=Option.bind_eq_some_iff.mp H
         obtain ⟨t246,A400,H⟩:=H
         replace H :(some t246) = some r:=H
         have A40:=Aside0.mk A400
         clear A400
         obtain rfl:=Option.some.inj H
         go_wp2_with (first |(go_at_call 20;(with_reducible refine(w10_awake.calls k4  t246 _ A40.out).mono ?_);rintro e w41 ⟨rfl,hb⟩;have n0_:=Aside0.mk (Kd.R_below (by(with_reducible repeat(first | apply Kd.R_alloc | apply Kd.R_drewN | apply Kd.R_drew));exact HO_8.out) hb);have n1_:=Aside0.mk (Kd.R_below (by(with_reducible repeat(first | apply Kd.R_alloc | apply Kd.R_drewN | apply Kd.R_drew));exact HO_12.out) hb);have n2_:=Aside0.mk (bwT (by repeat(first |(with_reducible first | exact HB.out | apply bwA | apply bwN | apply bw1) | exact HB.out)) hb);clear HO_8;clear HO_12;clear HB;have HO_8:=n0_;have HO_12:=n1_;have HB:=n2_;clear n0_ n1_ n2_;(try clear hb);(try clear hb2);(try clear hk);(try clear hi)))
         repeat(go_quiet (first |(go_at_call 20;(with_reducible refine(w10_awake.calls k4  t246 _ A40.out).mono ?_);rintro e w41 ⟨rfl,hb⟩;have n0_:=Aside0.mk (Kd.R_below (by(with_reducible repeat(first | apply Kd.R_alloc | apply Kd.R_drewN | apply Kd.R_drew));exact HO_8.out) hb);have n1_:=Aside0.mk (Kd.R_below (by(with_reducible repeat(first | apply Kd.R_alloc | apply Kd.R_drewN | apply Kd.R_drew));exact HO_12.out) hb);have n2_:=Aside0.mk (bwT (by repeat(first |(with_reducible first | exact HB.out | apply bwA | apply bwN | apply bw1) | exact HB.out)) hb);clear HO_8;clear HO_12;clear HB;have HO_8:=n0_;have HO_12:=n1_;have HB:=n2_;clear n0_ n1_ n2_;(try clear hb);(try clear hb2);(try clear hk);(try clear hi)));try go_wp2_with (first |(go_at_call 20;(with_reducible refine(w10_awake.calls k4  t246 _ A40.out).mono ?_);rintro e w41 ⟨rfl,hb⟩;have n0_:=Aside0.mk (Kd.R_below (by(with_reducible repeat(first | apply Kd.R_alloc | apply Kd.R_drewN | apply Kd.R_drew));exact HO_8.out) hb);have n1_:=Aside0.mk (Kd.R_below (by(with_reducible repeat(first | apply Kd.R_alloc | apply Kd.R_drewN | apply Kd.R_drew));exact HO_12.out) hb);have n2_:=Aside0.mk (bwT (by repeat(first |(with_reducible first | exact HB.out | apply bwA | apply bwN | apply bw1) | exact HB.out)) hb);clear HO_8;clear HO_12;clear HB;have HO_8:=n0_;have HO_12:=n1_;have HB:=n2_;clear n0_ n1_ n2_;(try clear hb);(try clear hb2);(try clear hk);(try clear hi))))
         go_ret
         exact⟨by first | rfl |(simp [errW_none,errW_some] <;> rfl) |(simp [*,errW_none,errW_some] <;> rfl),by repeat(first |(with_reducible first | exact HB.out | apply bwA | apply bwN | apply bw1) | exact HB.out)⟩
        rw [if_pos c34] at H
        have c34b0 : decide (x15_4 < (t229.length : Int)) = true:=decide_eq_true c34
        clear c34
        by_cases c35 : 0≤x15_4
        rotate_left
        ·rw [if_neg c35] at H
         exact absurd H (by simp)
        rw [if_pos c35] at H
        have c35b0 : decide (0≤x15_4) = true:=decide_eq_true c35
        clear c35
        by_cases c36 : x15_4 < (t237.length : Int)
        rotate_left
        ·rw [if_neg c36] at H
         exact absurd H (by simp)
        rw [if_pos c36] at H
        have c36b0 : decide (x15_4 < (t237.length : Int)) = true:=decide_eq_true c36
        clear c36
        obtain ⟨ji37,hji37⟩ : ∃ j_ : Int,(mx (wrap64 ((rd t229 x15_4) - (rd t237 x15_4))) (wrap64 ((rd t237 x15_4) - (rd t229 x15_4)))) = j_:=⟨_,rfl⟩
        replace H :(w10_TurnsDialSteps.l1 k4 t229 t237 (wrap64 (x14_4 + (ji37))) (wrap64 (x15_4 + 1))) = some r:=by first |(rw [hji37] at H;exact H) |(simp only [hji37] at H ⊢;exact H)
        have hji37_ :(if(wrap64 ((rd t229 x15_4) - (rd t237 x15_4))) < (wrap64 ((rd t237 x15_4) - (rd t229 x15_4))) then(wrap64 ((rd t237 x15_4) - (rd t229 x15_4))) else(wrap64 ((rd t229 x15_4) - (rd t237 x15_4)))) = ji37:=hji37
        have H':=Aside0.mk H
        clear H
        have p242 : 0 ≤(x15_4 : Int):=of_decide_eq_true (by first |(with_reducible assumption) | assumption)
        have q242 : x15_4 < (t229.length : Int):=of_decide_eq_true (by first |(with_reducible assumption) | assumption)
        obtain ⟨ad242,e242,hx242_0⟩:=Kd.at_int (Kd.R_reads' HO_8.out).2.2 x15_4 p242 q242
        cases e242
        replace p242:=eq_true p242
        replace q242:=eq_true q242
        obtain ⟨Ao38,co38,eo38⟩:=Kd.R_slice HO_12.out
        subst eo38
        have p243 : 0 ≤(x15_4 : Int):=of_decide_eq_true (by first |(with_reducible assumption) | assumption)
        have q243 : x15_4 < (t237.length : Int):=of_decide_eq_true (by first |(with_reducible assumption) | assumption)
        obtain ⟨ad243,e243,hx243_0⟩:=Kd.at_int (Kd.R_reads' HO_12.out).2.2 x15_4 p243 q243
        cases e243
        replace p243:=eq_true p243
        replace q243:=eq_true q243
        have p244 : 0 ≤(x15_4 : Int):=of_decide_eq_true (by first |(with_reducible assumption) | assumption)
        have q244 : x15_4 < (t237.length : Int):=of_decide_eq_true (by first |(with_reducible assumption) | assumption)
        obtain ⟨ad244,e244,hx244_0⟩:=Kd.at_int (Kd.R_reads' HO_12.out).2.2 x15_4 p244 q244
        obtain rfl : ad243 = ad244:=(by injection e244)
        replace p244:=eq_true p244
        replace q244:=eq_true q244
        have p245 : 0 ≤(x15_4 : Int):=of_decide_eq_true (by first |(with_reducible assumption) | assumption)
        have q245 : x15_4 < (t229.length : Int):=of_decide_eq_true (by first |(with_reducible assumption) | assumption)
        obtain ⟨ad245,e245,hx245_0⟩:=Kd.at_int (Kd.R_reads' HO_8.out).2.2 x15_4 p245 q245
        obtain rfl : ad242 = ad245:=(by injection e245)
        replace p245:=eq_true p245
        replace q245:=eq_true q245
        go_wp2
        repeat(go_quiet (fail);try go_wp2)
        go_roundg k4
        case measure=>have:=HJ2.out;have:=HJ13.out;have:=HJ27.out;have:=HK4.out;omega
        exact⟨(wrap64 (x14_4 + (ji37))),(wrap64 (x15_4 + 1)),(by first | rfl |(simp;done) |(simp only [← hji37] <;>(first | rfl | simp)) |(simp [*];done)),(by first | rfl |(simp;done) |(simp [*];done)),H',⟨by have:=HJ2.out;have:=HJ13.out;have:=HJ27.out;have:=HK4.out;omega⟩,⟨by(with_reducible repeat(first | apply Kd.R_alloc | apply Kd.R_drewN | apply Kd.R_drew));exact HO_8.out⟩,⟨by(with_reducible repeat(first | apply Kd.R_alloc | apply Kd.R_drewN | apply Kd.R_drew));exact HO_12.out⟩,⟨by repeat(first |(with_reducible first | exact HB.out | apply bwA | apply bwN | apply bw1) | exact HB.out)⟩⟩
/-- THE ONE PURE STATEMENT of w10_TurnsDialSteps: yours. -/
def w10_TurnsDialSteps.Pure : Prop:=∀ (l0 : List Int) (a1 : Int),l0.length≤maxLen→l0.length * 8≤140737488351232 →(∀ x ∈ l0,(Lit.int .i64 x).wf = true) →(Lit.int .i64 a1).wf = true→∃ k,w10_TurnsDialSteps.f k l0 a1 = some true
theorem w10_TurnsDialSteps.walk (P : w10_TurnsDialSteps.Pure) (a0 : Option Addr) (len0 cap0 : Nat) (z0 : List Int) (a1 : Int) (w : World) (w0 : (a0 = none ∧ len0 = 0 ∧ cap0 = 0 ∧ z0 = []) ∨ ∃ x, a0 = some x ∧ len0 ≤ cap0 ∧ cap0 ≤ maxLen ∧ z0.length = cap0 ∧ (∀ i, i < z0.length → w.cell? (x.add i) = some (.int .i64 (z0.getD i 0))) ∧ ∀ n ∈ z0, (Lit.int .i64 n).wf = true) (y0 : len0 * 8 ≤ 140737488351232) (w1 : (Lit.int .i64 a1).wf = true) :
  Calls Try.prog 4 #[.slice a0 len0 cap0,.int .i64 a1] w fun e w'=>e = .returned (.bool true)∧Below w.heap.size w w':=by
 obtain ⟨l0,rfl,hr0,hm0,hw0,hc0⟩:=ReadsInt.ofRowC w0
 obtain ⟨k,h⟩:=P l0 a1 hm0 y0 hw0 w1
 refine(w10_TurnsDialSteps.calls k _ _ l0 a1 true w (Kd.C_of_reads (d:=(0 : Int)) (h1:=fun _=>rfl) hr0) hc0 h).mono ?_
 rintro e w' ⟨rfl,hd⟩
 exact⟨rfl,hd⟩
end Go.Proofs.Ytbfhlaggllofdaa.S

namespace Go.Proofs.Ytbfhlaggllofdaa.P
open Go.RowKit Go.Proofs.Ytbfhlaggllofdaa.S Go.Proofs.YtbfhlaggllofdaaW.PrintWords Go.Proofs.YtbfhlaggllofdaaW.PrintLast Go.Proofs.YtbfhlaggllofdaaW.PrintMore
set_option linter.unusedVariables false
theorem ints_loop (a b : List Int) (he : a.length = b.length) (hl : a.length≤1000) : ∀ d i : Nat,i + d = a.length→Ev (fun k=>w10_ints.l0 k a b (i : Int)) (decide (a.drop i = b.drop i)):=by
 intro d
 induction d with
 | zero =>
  intro i h
  rw [List.drop_eq_nil_of_le (by omega),List.drop_eq_nil_of_le (by omega),decide_eq_true rfl]
  refine Ev.step (f:=fun _=>some true) (fun k=>?_) (Ev.now _)
  simp only [w10_ints.l0]
  rw [if_neg (by omega)]
 | succ d ih =>
  intro i h
  have w : wrap64 ((i : Int) + 1) =((i + 1 : Nat) : Int):=by rw [w64 (by omega) (by omega)];rfl
  have ea:=drop_cons a i (by omega)
  have eb:=drop_cons b i (by omega)
  by_cases c : rd a (i : Int) = rd b (i : Int)
  rotate_left
  ·have e : decide (a.drop i = b.drop i) = false := decide_eq_false (by rw [ea, eb]; simp [c])
   rw [e]
   refine Ev.step (f:=fun _=>some false) (fun k=>?_) (Ev.now _)
   simp only [w10_ints.l0]
   rw [if_pos (by omega),if_pos (by omega),if_pos (by omega),if_neg c]
  have e : decide (a.drop i = b.drop i) = decide (a.drop (i + 1) = b.drop (i + 1)):=by rw [ea,eb,c];simp
  rw [e]
  refine Ev.step (fun k=>?_) (ih (i + 1) (by omega))
  simp only [w10_ints.l0]
  rw [if_pos (by omega),if_pos (by omega),if_pos (by omega),if_pos c,w]
theorem ints_ev (a b : List Int) (hl : a.length≤1000) : Ev (fun k=>w10_ints.f k a b) (decide (a = b)):=by
 by_cases c : a.length = b.length
 ·refine Ev.congr (fun k => ?_) (ints_loop a b c hl a.length 0 (by omega))
  unfold w10_ints.f
  rw [if_pos (by omega)]
  rfl
 rw [decide_eq_false (fun h=>c (by rw [h]))]
 refine Ev.congr (fun k=>?_) (Ev.now _)
 unfold w10_ints.f
 rw [if_neg (by omega)]
end Go.Proofs.Ytbfhlaggllofdaa.P

namespace Go.Proofs.Ytbfhlaggllofdaa.P
open Go.RowKit Go.Proofs.Ytbfhlaggllofdaa.S Go.Proofs.Ytbfhlaggllofdaa.G Go.Proofs.Ytbfhlaggllofdaa.T Go.Proofs.YtbfhlaggllofdaaW.PrintWords Go.Proofs.YtbfhlaggllofdaaW.PrintLast Go.Proofs.YtbfhlaggllofdaaW.PrintMore
set_option linter.unusedVariables false
theorem product_loop (d : List Int) (hd : ∀ s ∈ d,1≤s∧s≤10) (hl : d.length≤12) : ∀ (e i : Nat) (acc : Int),i + e = d.length→1≤acc→acc * prod (d.drop i)≤1000000000000→Ev (fun k=>q10_Product.l0 k d acc (i : Int)) (acc * prod (d.drop i)):=by
 intro e
 induction e with
 | zero =>
  intro i acc h h1 h2
  rw [List.drop_eq_nil_of_le (by omega)]
  refine Ev.step (f:=fun _=>some _) (fun k=>?_) (Ev.now _)
  simp only [q10_Product.l0]
  rw [if_neg (by omega)]
  simp [prod]
 | succ e ih =>
  intro i acc h h1 h2
  have w : wrap64 ((i : Int) + 1) =((i + 1 : Nat) : Int):=by rw [w64 (by omega) (by omega)];rfl
  have ea:=drop_cons d i (by omega)
  have hs:=hd _ (rd_mem (l:=d) (x:=(i : Int)) (by omega) (by omega))
  have hp:=(prod_drop hd hl (i + 1)).1
  have em : acc * prod (d.drop i) =(acc * rd d (i : Int)) * prod (d.drop (i + 1)):=by rw [ea,Int.mul_assoc];rfl
  have h3 : 1≤acc * rd d (i : Int):=by
   have:=Int.mul_le_mul h1 hs.1 (by decide) (by omega)
   simpa using this
  rw [em] at h2 ⊢
  have h4 : acc * rd d (i : Int)≤1000000000000:=by
   have:=Int.mul_le_mul_of_nonneg_left hp (show 0≤acc * rd d (i : Int) by omega)
   omega
  have w2 : wrap64 (acc * rd d (i : Int)) = acc * rd d (i : Int):=w64 (by omega) (by omega)
  refine Ev.step (fun k=>?_) (ih (i + 1) _ (by omega) h3 h2)
  simp only [q10_Product.l0]
  rw [if_pos (by omega),if_pos (by omega),w,w2]
theorem product_ev {d : List Int} (hD : Dials d) : Ev (fun k=>q10_Product.f k d) (prod d):=by
 have h:=product_loop d hD.mem hD.1 d.length 0 1 (by omega) (by decide) (by rw [List.drop_zero,Int.one_mul];exact(prod_12 hD.mem hD.1).2)
 rw [List.drop_zero,Int.one_mul] at h
 exact h
theorem settings2_loop (d l : List Int) (hl : l.length = d.length) (hn : l.length≤1000) : ∀ e i : Nat,i + e = l.length→Ev (fun k=>q10_Settings.l0 k d l (i : Int)) (decide (isDial (d.drop i) (l.drop i))):=by
 intro e
 induction e with
 | zero =>
  intro i h
  rw [List.drop_eq_nil_of_le (by omega),List.drop_eq_nil_of_le (by omega),decide_eq_true (show isDial [] [] from trivial)]
  refine Ev.step (f:=fun _=>some _) (fun k=>?_) (Ev.now _)
  simp only [q10_Settings.l0]
  rw [if_neg (by omega)]
 | succ e ih =>
  intro i h
  have w : wrap64 ((i : Int) + 1) =((i + 1 : Nat) : Int):=by rw [w64 (by omega) (by omega)];rfl
  have ea:=drop_cons d i (by omega)
  have eb:=drop_cons l i (by omega)
  by_cases c : 0≤rd l (i : Int)∧rd l (i : Int) < rd d (i : Int)
  rotate_left
  ·have e1 : decide (isDial (d.drop i) (l.drop i)) = false := decide_eq_false (by rw [ea, eb]; exact fun h => c ⟨h.1, h.2.1⟩)
   rw [e1]
   refine Ev.step (f:=fun _=>some false) (fun k=>?_) (Ev.now _)
   simp only [q10_Settings.l0]
   rw [if_pos (by omega),if_pos (by omega)]
   by_cases c1 : rd l (i : Int) < 0
   ·rw [if_pos c1]
   rw [if_neg c1,if_pos (by omega),if_pos (by omega)]
  have e1 : decide (isDial (d.drop i) (l.drop i)) = decide (isDial (d.drop (i + 1)) (l.drop (i + 1))):=by
   apply decide_eq_decide.2
   rw [ea,eb]
   exact⟨fun h=>h.2.2,fun h=>⟨c.1,c.2,h⟩⟩
  rw [e1]
  refine Ev.step (fun k=>?_) (ih (i + 1) (by omega))
  simp only [q10_Settings.l0]
  rw [if_pos (by omega),if_pos (by omega),if_neg (by omega),if_pos (by omega),if_neg (by omega),w]
theorem settings2_ev (d l : List Int) (hn : l.length≤1000) : Ev (fun k=>q10_Settings.f k d l) (decide (isDial d l)):=by
 by_cases c : l.length = d.length
 ·refine Ev.congr (fun k => ?_) (settings2_loop d l c hn l.length 0 (by omega))
  unfold q10_Settings.f
  rw [if_pos (by omega)]
  rfl
 rw [decide_eq_false (fun h=>c (isDial_len h).symm)]
 refine Ev.congr (fun k=>?_) (Ev.now _)
 unfold q10_Settings.f
 rw [if_neg (by omega)]
theorem awake_ev : Ev (fun k=>w10_awake.f k) true:=by
 have e1 : turns_Set.f 2 2 = some ([1,2],0):=by kernel_rfl
 have e2 : turns_Choice.f 3 2 1 = some ([2,3],0):=by kernel_rfl
 have e3 : turns_Order.f 3 3 = some ([3,2,1],0):=by kernel_rfl
 have e4 : turns_Groupings.f 5 = some (52,0):=by kernel_rfl
 have e5 : turns_Setting.f [2,3] 3 = some ([1,2],0):=by kernel_rfl
 have i1:=ints_ev [1,2] [1,2] (by decide)
 have i2:=ints_ev [2,3] [2,3] (by decide)
 have i3:=ints_ev [3,2,1] [3,2,1] (by decide)
 rw [decide_eq_true rfl] at i1 i2 i3
 have hj : Ev (fun k=>w10_awake.j0 k false) true:=by
  refine Ev.step (f:=fun _=>some true) (fun k=>?_) (Ev.now _)
  simp only [w10_awake.j0]
  rw [if_neg (by decide)]
 refine Ev.congr (f:=fun k=>(w10_ints.f k [1,2] [1,2]).bind fun t=>(if t = true then((w10_ints.f k [2,3] [2,3]).bind fun t=>(if t = true then((w10_ints.f k [3,2,1] [3,2,1]).bind fun t=>(if t = true then((w10_ints.f k [1,2] [1,2]).bind fun t=>w10_awake.j0 k (!t)) else w10_awake.j0 k true)) else w10_awake.j0 k true)) else w10_awake.j0 k true)) (fun k=>?_) ?_
 ·unfold w10_awake.f
  rw [e1,e2,e3,e4,e5]
  rfl
 refine Ev.bind (f:=fun k (t : Bool)=>_) i1 ?_
 refine Ev.congr (fun k=>if_pos rfl) ?_
 refine Ev.bind (f:=fun k (t : Bool)=>_) i2 ?_
 refine Ev.congr (fun k=>if_pos rfl) ?_
 refine Ev.bind (f:=fun k (t : Bool)=>_) i3 ?_
 refine Ev.congr (fun k=>if_pos rfl) ?_
 exact Ev.bind (f:=fun k (t : Bool)=>_) i1 hj
theorem awake_some : Ev (fun k=>(w10_awake.f k).bind fun z=>some z) true:=Ev.congr (fun k=>by cases w10_awake.f k <;> rfl) awake_ev
end Go.Proofs.Ytbfhlaggllofdaa.P

namespace Go.Proofs.Ytbfhlaggllofdaa.P
open Go.RowKit Go.Proofs.Ytbfhlaggllofdaa.S Go.Proofs.YtbfhlaggllofdaaW.PrintWords Go.Proofs.YtbfhlaggllofdaaW.PrintLast Go.Proofs.YtbfhlaggllofdaaW.PrintMore
set_option linter.unusedVariables false
theorem u64_nonneg (a : Int) : 0≤IntKind.u64.wrap a:=by
 simp [IntKind.wrap,IntKind.signed,IntKind.bits]
 omega
theorem u64_id {a : Int} (h0 : 0≤a) (h1 : a≤9000000000000000000) : IntKind.u64.wrap a = a:=by
 simp [IntKind.wrap,IntKind.signed,IntKind.bits]
 omega
theorem mod_ok (a : Int) {b : Int} (b1 : 1≤b) (b2 : b≤9000000000000000000) : ∃ m,w10_mod.f a b = some m∧0≤m∧m < b:=by
 unfold w10_mod.f
 rw [u64_id (by omega) (by omega),if_neg (by omega),Int.tmod_eq_emod_of_nonneg (u64_nonneg a)]
 have h0:=Int.emod_nonneg (IntKind.u64.wrap a) (show b≠0 by omega)
 have h1:=Int.emod_lt_of_pos (IntKind.u64.wrap a) (show 0 < b by omega)
 rw [w64 (by omega) (by omega)]
 exact⟨_,rfl,h0,h1⟩
end Go.Proofs.Ytbfhlaggllofdaa.P
