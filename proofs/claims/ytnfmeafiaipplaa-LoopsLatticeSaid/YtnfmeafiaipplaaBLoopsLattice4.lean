-- Written by wip/bundle2.py: texts of this claim, one behind the other.
import Derived.Test.YtnfmeafiaipplaaBLoopsLattice3
import Derived.WalkKit
import Derived.ProofKit
import Derived.OpenShut
import Derived.ShutString
import Derived.ChangeOld
import Derived.Below
import Derived.SizedLaws
import Derived.Deep.Slices
import Derived.Laws.IdiomArrays
set_option linter.unusedVariables false
set_option linter.unusedSimpArgs false

namespace Go.Proofs.Ytnfmeafiaipplaa.P
open Go.RowKit Go.Proofs.Ytnfmeafiaipplaa.S Go.Proofs.Ytnfmeafiaipplaa.Lib Go.Proofs.YtnfmeafiaipplaaW.PrintWords
set_option linter.unusedVariables false
set_option linter.unusedSectionVars false
theorem sub_ev {t : List S39} (ht : tyB t 24 = true) {i j : Int} (i0 : 0≤i) (i1 : i < t.length) (j0 : 0≤j) (j1 : j < t.length) : Ev (fun k=>w06_sub.f k t i j) (subB t i j,true):=by
 obtain ⟨rel,path,h⟩:=Sub_ev ht i0 i1 j0 j1
 unfold w06_sub.f
 exact Ev.bind (f:=fun k (b : Bool×List S23×ByteArray×Int)=>some (b.1,(b.2.2.2 == 0))) h (Ev.now _)
/-- Subtypes, seen in another list. -/
theorem SubC.via {t u : List S39} {i j p q : Int} (h : SubC t i j) (hp : Same u p t i) (hq : Same u q t j) : SubC u p q:=by
 refine⟨fun p q=>∃ i j,SubC t i j∧Same u p t i∧Same u q t j,?_,i,j,h,hp,hq⟩
 rintro p q ⟨i,j,h,hp,hq⟩
 obtain ⟨e1,f1⟩:=same_iff.1 hp
 obtain ⟨e2,f2⟩:=same_iff.1 hq
 rcases h.step with (c | c) |⟨c1,c2,c3⟩
 ·exact .inl (.inl (e1.trans c))
 ·exact .inl (.inr (e2.trans c))
 refine .inr ⟨by rw [e1,e2,c1],fun c=>?_,fun c=>?_⟩
 ·have c' : (nd t i).f0 = 4 := e1.symm.trans c
  have d1 : 4 ≤(nd u p).f0:=by omega
  have d2 : 4 ≤(nd u q).f0:=by omega
  exact⟨⟨_,_,(c2 c').1,(f1 d1).1,(f2 d2).1⟩,⟨_,_,(c2 c').2,(f1 d1).2,(f2 d2).2⟩⟩
 have c' :(nd t i).f0 = 5:=e1.symm.trans c
 have d1 : 4 ≤(nd u p).f0:=by omega
 have d2 : 4 ≤(nd u q).f0:=by omega
 exact⟨⟨_,_,(c3 c').1,(f2 d2).1,(f1 d1).1⟩,⟨_,_,(c3 c').2,(f1 d1).2,(f2 d2).2⟩⟩
theorem sub_same {t u : List S39} {i j p q : Int} (hp : Same u p t i) (hq : Same u q t j) : SubC u p q↔SubC t i j:=⟨fun h=>h.via hp.symm hq.symm,fun h=>h.via hp hq⟩
theorem m4 (m : Bool) {k : Int} (c : k = 4) :(m ==(k == 4)) = m:=by subst c;cases m <;> rfl
theorem m5 (m : Bool) {k : Int} (c : k = 5) :(m ==(k == 4)) = !m:=by subst c;cases m <;> rfl
/-- A bound is above (below) its two nodes. -/
theorem bd_above {x u : List S39} {W : Bool→Int→Int→Int→Prop} (hB : Bd x u W) {i j p q : Int} (hi : Same u p x i) :(W true i j q→SubC u p q) ∧(W false i j q→SubC u q p):=by
 have key : ∀ a b,((∃ i j,Same u a x i∧W true i j b) ∨(∃ i j,W false i j a∧Same u b x i)∨Same u a u b)→Stp u (fun a b=>(∃ i j,Same u a x i∧W true i j b) ∨(∃ i j,W false i j a∧Same u b x i)∨Same u a u b) a b:=by
  have fin : ∀ a b,Same u a u b→Stp u (fun a b=>(∃ i j,Same u a x i∧W true i j b) ∨(∃ i j,W false i j a∧Same u b x i)∨Same u a u b) a b:=fun a b hs=>by
   obtain ⟨e,f⟩:=same_iff.1 hs
   exact .inr ⟨e,fun c=>⟨.inr (.inr (f (by omega)).1),.inr (.inr (f (by omega)).2)⟩,fun c=>⟨.inr (.inr (f (by omega)).1.symm),.inr (.inr (f (by omega)).2)⟩⟩
  rintro a b (⟨i,j,hs,hw⟩ |⟨i,j,hw,hs⟩ | hs)
  ·obtain ⟨e, f⟩ := same_iff.1 hs
   rcases hB _ _ _ _ hw with ⟨c,_⟩ |⟨_,c⟩ |⟨c1,c2,c3,c4⟩ |⟨c1,c2,c3⟩
   ·exact .inl (.inl (e.trans c))
   ·exact fin _ _ (hs.trans c.symm)
   ·refine .inr ⟨e.trans c3.symm, fun c => ?_, fun c => ?_⟩
    ·have k : (nd x i).f0 = 4 := e.symm.trans c
     have f:=f (by omega)
     have g:=c4 (by omega)
     rw [m4 _ k] at g
     exact⟨.inl ⟨_,_,f.1,g.1⟩,.inl ⟨_,_,f.2,g.2⟩⟩
    ·have k : (nd x i).f0 = 5 := e.symm.trans c
     have f:=f (by omega)
     have g:=c4 (by omega)
     rw [m5 _ k] at g
     exact⟨.inr (.inl ⟨_,_,g.1,f.1⟩),.inl ⟨_,_,f.2,g.2⟩⟩
   ·exact .inl (.inr c3)
  ·obtain ⟨e, f⟩ := same_iff.1 hs
   rcases hB _ _ _ _ hw with ⟨c,_⟩ |⟨_,c⟩ |⟨c1,c2,c3,c4⟩ |⟨c1,c2,c3⟩
   ·exact .inl (.inr (e.trans c))
   ·exact fin _ _ (c.trans hs.symm)
   ·refine .inr ⟨c3.trans e.symm, fun c => ?_, fun c => ?_⟩
    ·have k : (nd x i).f0 = 4 := c3.symm.trans c
     have f:=f (by omega)
     have g:=c4 (by omega)
     rw [m4 _ k] at g
     exact⟨.inr (.inl ⟨_,_,g.1,f.1⟩),.inr (.inl ⟨_,_,g.2,f.2⟩)⟩
    ·have k : (nd x i).f0 = 5 := c3.symm.trans c
     have f:=f (by omega)
     have g:=c4 (by omega)
     rw [m5 _ k] at g
     exact⟨.inl ⟨_,_,f.1,g.1⟩,.inr (.inl ⟨_,_,g.2,f.2⟩)⟩
   ·exact .inl (.inl c3)
  ·exact fin _ _ hs
 exact⟨fun h=>⟨_,key,.inl ⟨i,j,hi,h⟩⟩,fun h=>⟨_,key,.inr (.inl ⟨i,j,h,hi⟩)⟩⟩
/-- A bound is the least (greatest) one. -/
theorem bd_least {x u : List S39} {W : Bool→Int→Int→Int→Prop} (hB : Bd x u W) {i j k p q : Int} (hk : Same u q x k) :(W true i j p→SubC x i k→SubC x j k→SubC u p q) ∧(W false i j p→SubC x k i→SubC x k j→SubC u q p):=by
 have key : ∀ a b,((∃ i j k,W true i j a∧Same u b x k∧SubC x i k∧SubC x j k) ∨(∃ i j k,Same u a x k∧W false i j b∧SubC x k i∧SubC x k j)∨SubC u a b)→Stp u (fun a b=>(∃ i j k,W true i j a∧Same u b x k∧SubC x i k∧SubC x j k) ∨(∃ i j k,Same u a x k∧W false i j b∧SubC x k i∧SubC x k j)∨SubC u a b) a b:=by
  have fin : ∀ a b,SubC u a b→Stp u (fun a b=>(∃ i j k,W true i j a∧Same u b x k∧SubC x i k∧SubC x j k) ∨(∃ i j k,Same u a x k∧W false i j b∧SubC x k i∧SubC x k j)∨SubC u a b) a b:=fun a b hs=>hs.step.mono (fun a b h=>.inr (.inr h))
  rintro a b (⟨i,j,k,hw,hs,h1,h2⟩ |⟨i,j,k,hs,hw,h1,h2⟩ | hs)
  ·obtain ⟨e, f⟩ := same_iff.1 hs
   rcases hB _ _ _ _ hw with ⟨_,c⟩ |⟨_,c⟩ |⟨c1,c2,c3,c4⟩ |⟨c1,c2,c3⟩
   ·exact fin _ _ (h2.via c hs)
   ·exact fin _ _ (h1.via c hs)
   ·have z : (nd x i).f0 ≠ 0 ∧ (nd x j).f0 ≠ 0 := c1
    rcases h1.step with (d | d) |⟨d1,d2,d3⟩
    ·exact absurd d z.1
    ·exact .inl (.inr (e.trans d))
    rcases h2.step with (d | d) |⟨e1,e2,e3⟩
    ·exact absurd d z.2
    ·exact .inl (.inr (e.trans d))
    refine .inr ⟨by rw [c3,e,d1],fun c=>?_,fun c=>?_⟩
    ·have k : (nd x i).f0 = 4 := c3.symm.trans c
     have f:=f (by omega)
     have g:=c4 (by omega)
     rw [m4 _ k] at g
     exact⟨.inl ⟨_,_,_,g.1,f.1,(d2 k).1,(e2 (by omega)).1⟩,.inl ⟨_,_,_,g.2,f.2,(d2 k).2,(e2 (by omega)).2⟩⟩
    ·have k : (nd x i).f0 = 5 := c3.symm.trans c
     have f:=f (by omega)
     have g:=c4 (by omega)
     rw [m5 _ k] at g
     exact⟨.inr (.inl ⟨_,_,_,f.1,g.1,(d3 k).1,(e3 (by omega)).1⟩),.inl ⟨_,_,_,g.2,f.2,(d3 k).2,(e3 (by omega)).2⟩⟩
   ·have z : (nd x i).f0 ≠ 0 ∧ (nd x j).f0 ≠ 0 := c1
    rcases h1.step with (d | d) |⟨d1,_,_⟩
    ·exact absurd d z.1
    ·exact .inl (.inr (e.trans d))
    rcases h2.step with (d | d) |⟨e1,_,_⟩
    ·exact absurd d z.2
    ·exact .inl (.inr (e.trans d))
    exact absurd (d1.trans e1.symm) c2
  ·obtain ⟨e, f⟩ := same_iff.1 hs
   rcases hB _ _ _ _ hw with ⟨_,c⟩ |⟨_,c⟩ |⟨c1,c2,c3,c4⟩ |⟨c1,c2,c3⟩
   ·exact fin _ _ (h2.via hs c)
   ·exact fin _ _ (h1.via hs c)
   ·have z : (nd x i).f0 ≠ 1 ∧ (nd x j).f0 ≠ 1 := c1
    rcases h1.step with (d | d) |⟨d1,d2,d3⟩
    ·exact .inl (.inl (e.trans d))
    ·exact absurd d z.1
    rcases h2.step with (d | d) |⟨e1,e2,e3⟩
    ·exact .inl (.inl (e.trans d))
    ·exact absurd d z.2
    refine .inr ⟨by rw [c3,e,d1],fun c=>?_,fun c=>?_⟩
    ·have k : (nd x i).f0 = 4 := by rw [← d1, ← e]; exact c
     have f:=f (by omega)
     have g:=c4 (by omega)
     rw [m4 _ k] at g
     exact⟨.inr (.inl ⟨_,_,_,f.1,g.1,(d2 (by omega)).1,(e2 (by omega)).1⟩),.inr (.inl ⟨_,_,_,f.2,g.2,(d2 (by omega)).2,(e2 (by omega)).2⟩)⟩
    ·have k : (nd x i).f0 = 5 := by rw [← d1, ← e]; exact c
     have f:=f (by omega)
     have g:=c4 (by omega)
     rw [m5 _ k] at g
     exact⟨.inl ⟨_,_,_,g.1,f.1,(d3 (by omega)).1,(e3 (by omega)).1⟩,.inr (.inl ⟨_,_,_,f.2,g.2,(d3 (by omega)).2,(e3 (by omega)).2⟩)⟩
   ·have z : (nd x i).f0 ≠ 1 ∧ (nd x j).f0 ≠ 1 := c1
    rcases h1.step with (d | d) |⟨d1,_,_⟩
    ·exact .inl (.inl (e.trans d))
    ·exact absurd d z.1
    rcases h2.step with (d | d) |⟨e1,_,_⟩
    ·exact .inl (.inl (e.trans d))
    ·exact absurd d z.2
    exact absurd (d1.symm.trans e1) c2
  ·exact fin _ _ hs
 exact⟨fun h h1 h2=>⟨_,key,.inl ⟨i,j,k,h,hk,h1,h2⟩⟩,fun h h1 h2=>⟨_,key,.inr (.inl ⟨i,j,k,hk,h,h1,h2⟩)⟩⟩
/-- The bound of a node with one below (above) it is the node. -/
theorem bd_eq {x u : List S39} {W : Bool→Int→Int→Int→Prop} (hB : Bd x u W) (hv : ∀ i : Int,0≤i→i < x.length→okN x i) {m : Bool} {i j p : Int} (i0 : 0≤i) (i1 : i < x.length) (h : W m i j p) (hs : if m = true then SubC x j i else SubC x i j) : Same u p x i:=by
 refine same_closed (t:=u) (t':=x) (fun p i=>(0≤i∧i < x.length) ∧((∃ j,W true i j p∧SubC x j i) ∨(∃ j,W false i j p∧SubC x i j)∨Same u p x i)) ?_ p i ⟨⟨i0,i1⟩,(by cases m <;> simp at hs;exact .inr (.inl ⟨j,h,hs⟩);exact .inl ⟨j,h,hs⟩)⟩
 rintro p i ⟨⟨i0,i1⟩,hh⟩
 obtain ⟨⟨k0,k5'⟩,_,r1,r2⟩:=hv i i0 i1
 suffices hg :(nd u p).f0 =(nd x i).f0 ∧(4 ≤(nd u p).f0 →((∃ j,W true (nd x i).f1 j (nd u p).f1∧SubC x j (nd x i).f1) ∨(∃ j,W false (nd x i).f1 j (nd u p).f1∧SubC x (nd x i).f1 j)∨Same u (nd u p).f1 x (nd x i).f1) ∧((∃ j,W true (nd x i).f2 j (nd u p).f2∧SubC x j (nd x i).f2) ∨(∃ j,W false (nd x i).f2 j (nd u p).f2∧SubC x (nd x i).f2 j)∨Same u (nd u p).f2 x (nd x i).f2)) from⟨hg.1,fun c=>⟨⟨r1,(hg.2 c).1⟩,⟨r2,(hg.2 c).2⟩⟩⟩
 have fin : ∀ p i,Same u p x i →(nd u p).f0 =(nd x i).f0 ∧(4 ≤(nd u p).f0 →((∃ j,W true (nd x i).f1 j (nd u p).f1∧SubC x j (nd x i).f1) ∨(∃ j,W false (nd x i).f1 j (nd u p).f1∧SubC x (nd x i).f1 j)∨Same u (nd u p).f1 x (nd x i).f1) ∧((∃ j,W true (nd x i).f2 j (nd u p).f2∧SubC x j (nd x i).f2) ∨(∃ j,W false (nd x i).f2 j (nd u p).f2∧SubC x (nd x i).f2 j)∨Same u (nd u p).f2 x (nd x i).f2)):=fun p i hs=>by
  obtain ⟨e,f⟩:=same_iff.1 hs
  exact⟨e,fun c=>⟨.inr (.inr (f c).1),.inr (.inr (f c).2)⟩⟩
 rcases hh with ⟨j,h,hs⟩ |⟨j,h,hs⟩ | hs
 ·rcases hB _ _ _ _ h with ⟨c, d⟩ | ⟨_, d⟩ | ⟨c1, c2, c3, c4⟩ | ⟨c1, c2, c3⟩
  ·-- i is the least, so j is
   have c :(nd x i).f0 = 0:=c
   rcases hs.step with (e | e) |⟨e,_,_⟩
   ·exact fin _ _ (d.trans (same_leaf (e.trans c.symm) (by omega)))
   ·omega
   exact fin _ _ (d.trans (same_leaf e (by omega)))
  ·exact fin _ _ d
  ·have z : (nd x i).f0 ≠ 0 ∧ (nd x j).f0 ≠ 0 := c1
   refine⟨c3,fun c=>?_⟩
   rcases hs.step with (e | e) |⟨e1,e2,e3⟩
   ·exact absurd e z.2
   ·omega
   have g:=c4 (by omega)
   by_cases k :(nd x i).f0 = 4
   ·rw [m4 _ k] at g
    exact⟨.inl ⟨_,g.1,(e2 (by omega)).1⟩,.inl ⟨_,g.2,(e2 (by omega)).2⟩⟩
   by_cases k5 :(nd x i).f0 = 5
   rotate_left
   ·omega
   rw [m5 _ k5] at g
   exact⟨.inr (.inl ⟨_,g.1,(e3 (by omega)).1⟩),.inl ⟨_,g.2,(e3 (by omega)).2⟩⟩
  have z :(nd x i).f0≠0 ∧(nd x j).f0≠0:=c1
  rcases hs.step with (e | e) |⟨e1,e2,e3⟩
  ·exact absurd e z.2
  ·have c3 : (nd u p).f0 = 1 := c3
   exact⟨c3.trans e.symm,fun c=>by omega⟩
  exact absurd e1.symm c2
 ·rcases hB _ _ _ _ h with ⟨c, d⟩ | ⟨_, d⟩ | ⟨c1, c2, c3, c4⟩ | ⟨c1, c2, c3⟩
  ·have c : (nd x i).f0 = 1 := c
   rcases hs.step with (e | e) |⟨e,_,_⟩
   ·omega
   ·exact fin _ _ (d.trans (same_leaf (e.trans c.symm) (by omega)))
   exact fin _ _ (d.trans (same_leaf e.symm (by omega)))
  ·exact fin _ _ d
  ·have z : (nd x i).f0 ≠ 1 ∧ (nd x j).f0 ≠ 1 := c1
   refine⟨c3,fun c=>?_⟩
   rcases hs.step with (e | e) |⟨e1,e2,e3⟩
   ·omega
   ·exact absurd e z.2
   have g:=c4 (by omega)
   by_cases k :(nd x i).f0 = 4
   ·rw [m4 _ k] at g
    exact⟨.inr (.inl ⟨_,g.1,(e2 (by omega)).1⟩),.inr (.inl ⟨_,g.2,(e2 (by omega)).2⟩)⟩
   by_cases k5 :(nd x i).f0 = 5
   rotate_left
   ·omega
   rw [m5 _ k5] at g
   exact⟨.inl ⟨_,g.1,(e3 (by omega)).1⟩,.inr (.inl ⟨_,g.2,(e3 (by omega)).2⟩)⟩
  have z :(nd x i).f0≠1 ∧(nd x j).f0≠1:=c1
  rcases hs.step with (e | e) |⟨e1,e2,e3⟩
  ·have c3 : (nd u p).f0 = 0 := c3
   exact⟨c3.trans e.symm,fun c=>by omega⟩
  ·exact absurd e z.2
  exact absurd e1 c2
 exact fin _ _ hs
def sh (n : Int) (e : S39) : S39:=if 4≤e.f0 then⟨e.f0,e.f1 + n,e.f2 + n⟩ else e
def jn (x a : List S39) : List S39:=x ++ a.map (sh x.length)
theorem jn_len (x a : List S39) :(jn x a).length = x.length + a.length:=by unfold jn;simp
theorem sh_f0 (n : Int) (e : S39) :(sh n e).f0 = e.f0:=by unfold sh;split <;> rfl
section
variable {x a : List S39} (hx : IsTy x) (ha : IsTy a)
include hx ha
theorem jn_left {i : Int} (i0 : 0≤i) (i1 : i < x.length) : nd (jn x a) i = nd x i:=by
 unfold nd rd_T39 jn
 rw [List.getD_eq_getElem?_getD,List.getD_eq_getElem?_getD,List.getElem?_append_left (by omega)]
theorem jn_right {q : Int} (q0 : 0≤q) (q1 : q < a.length) : nd (jn x a) (x.length + q) = sh x.length (nd a q):=by
 obtain ⟨q,rfl⟩ : ∃ n : Nat,q = n:=⟨q.toNat,by omega⟩
 have hq : q < a.length:=by omega
 rw [nd_nat a hq]
 unfold nd rd_T39 jn
 rw [List.getD_eq_getElem?_getD,show((x.length : Int) + (q : Int)).toNat = x.length + q by omega,List.getElem?_append_right (by omega),Nat.add_sub_cancel_left,List.getElem?_map,List.getElem?_eq_getElem hq]
 rfl
theorem jn_ty : IsTy (jn x a):=by
 have hl:=jn_len x a
 have x1:=hx.1
 have xv:=hx.2
 have a1:=ha.1
 have av:=ha.2
 refine⟨by omega,fun i i0 i1=>?_⟩
 rw [hl] at i1
 unfold okN
 rw [hl]
 by_cases c : i < x.length
 ·obtain ⟨p0, p1, p2, p3⟩ := xv i i0 c
  rw [jn_left hx ha i0 c]
  exact⟨p0,p1,⟨p2.1,by omega⟩,⟨p3.1,by omega⟩⟩
 obtain ⟨p0,p1,p2,p3⟩:=av (i - x.length) (by omega) (by omega)
 have e:=jn_right hx ha (q:=i - x.length) (by omega) (by omega)
 rw [show(x.length : Int) + (i - x.length) = i by omega] at e
 rw [e,sh_f0]
 unfold sh
 by_cases k : 4 ≤(nd a (i - x.length)).f0
 rotate_left
 ·rw [if_neg k]
  exact⟨p0,p1,⟨p2.1,by omega⟩,⟨p3.1,by omega⟩⟩
 rw [if_pos k]
 exact⟨p0,fun h=>by omega,⟨by simp only;omega,by simp only;omega⟩,⟨by simp only;omega,by simp only;omega⟩⟩
theorem jn_same {i : Int} (i0 : 0≤i) (i1 : i < x.length) : Same (jn x a) i x i:=by
 refine same_closed (t:=jn x a) (t':=x) (fun p i=>p = i∧0≤i∧i < x.length) ?_ i i ⟨rfl,i0,i1⟩
 rintro p i ⟨rfl,i0,i1⟩
 rw [jn_left hx ha i0 i1]
 obtain ⟨_,_,p2,p3⟩:=hx.2 p i0 i1
 exact⟨rfl,fun _=>⟨⟨rfl,p2⟩,⟨rfl,p3⟩⟩⟩
theorem jn_same2 {q : Int} (q0 : 0≤q) (q1 : q < a.length) : Same (jn x a) (x.length + q) a q:=by
 refine same_closed (t:=jn x a) (t':=a) (fun p q=>p = x.length + q∧0≤q∧q < a.length) ?_ _ q ⟨rfl,q0,q1⟩
 rintro p q ⟨rfl,q0,q1⟩
 rw [jn_right hx ha q0 q1,sh_f0]
 obtain ⟨_,_,p2,p3⟩:=ha.2 q q0 q1
 refine⟨rfl,fun k=>?_⟩
 unfold sh
 rw [if_pos k]
 exact⟨⟨by simp only;omega,p2⟩,⟨by simp only;omega,p3⟩⟩
theorem joined_go (hb : x.length + a.length ≤ 5000) : ∀ (d i : Nat), i + d = a.length → Ev (fun k => w06_joined.l0 k x a (x ++ (a.take i).map (sh x.length)) (i : Int)) (jn x a)
 | 0,i,h=>by
  refine Ev.step (fun k=>?_) (Ev.now _)
  simp only [w06_joined.l0]
  rw [if_neg (by omega),List.take_of_length_le (by omega)]
  rfl
 | d + 1,i,h=>by
  have hi : i < a.length:=by omega
  have e:=nd_nat a hi
  have e2:=w64s (j:=i) (by omega)
  obtain ⟨p0,p1,p2,p3⟩:=ha.2 i (by omega) (by omega)
  rw [e] at p0 p1 p2 p3
  have hlen :(x ++ (a.take i).map (sh x.length)).length < 5864062014805:=by simp;omega
  refine Ev.step (f:=fun k=>w06_joined.l0 k x a (x ++ (a.take (i + 1)).map (sh x.length)) ((i + 1 : Nat) : Int)) (fun k=>?_) (joined_go hb d (i + 1) (by omega))
  have e3 : x ++ (a.take (i + 1)).map (sh x.length) =(x ++ (a.take i).map (sh x.length)) ++ [sh x.length a[i]]:=by
   rw [List.take_succ_eq_append_getElem hi,List.map_append,← List.append_assoc]
   rfl
  rw [e3]
  have w1 : wrap64 (a[i].f1 + (x.length : Int)) = a[i].f1 + (x.length : Int):=w64 (by omega) (by omega)
  have w2 : wrap64 (a[i].f2 + (x.length : Int)) = a[i].f2 + (x.length : Int):=w64 (by omega) (by omega)
  simp only [w06_joined.l0]
  rw [if_pos (castlt hi),if_pos (cast0 _),show rd_T39 a (i : Int) = a[i] from e,w1,w2,e2]
  by_cases c : 4≤a[i].f0
  rotate_left
  ·rw [if_neg (show ¬ a[i].f0 ≥ 4 from c),if_pos hlen,show sh x.length a[i] = a[i] from if_neg c]
  rw [if_pos (show a[i].f0 ≥ 4 from c),if_pos hlen,show sh x.length a[i] =⟨a[i].f0,a[i].f1 + x.length,a[i].f2 + x.length⟩ from if_pos c]
theorem joined_ev (hb : x.length + a.length≤5000) : Ev (fun k=>w06_joined.f k x a) (jn x a):=by
 refine Ev.congr (fun k=>?_) (joined_go hx ha hb a.length 0 (by omega))
 unfold w06_joined.f
 simp only [Option.bind_some,List.nil_append,List.length_nil]
 rw [if_pos (by omega)]
 simp
end
/-- A bound stands behind the types. -/
theorem BdL.put {x : List S39} (hx : IsTy x) {m : Bool} {i j : Int} {a : List S39} (h : BdL x m i j a) : ∃ W,Bd x (jn x a) W∧W m i j x.length:=by
 obtain ⟨W,w1,w2⟩:=h.at
 have ha:=h.ty
 have:=jn_same2 hx ha (Int.le_refl 0) (by have:=ha.1;omega)
 rw [Int.add_zero] at this
 exact⟨_,w1.along,0,w2,this⟩
theorem BdL.eq_can {u x : List S39} (hu : IsTy u) (hx : tyB x 24 = true) {m : Bool} {i j i' : Int} {r : List S39} (h : BdL u m i j r) (i0 : 0≤i) (i1 : i < u.length) (hs : if m = true then SubC u j i else SubC u i j) (x0 : 0≤i') (x1 : i' < x.length) (he : Same u i x i') : r = canL x i':=by
 obtain ⟨f,v,p,l,c,W,w1,w2⟩:=h
 have:=bd_eq w1 hu.2 i0 i1 w2 hs
 obtain ⟨⟨_,hv⟩,h24⟩:=tyB_iff.1 hx
 exact can_uniq v l hv (by omega) (Int.le_refl 0) (by omega) x0 x1 (this.trans he) c (canL_spec hx x0 x1).1
theorem node_ext {a b : S39} (h0 : a.f0 = b.f0) (h1 : a.f1 = b.f1) (h2 : a.f2 = b.f2) : a = b:=by
 obtain ⟨a0,a1,a2⟩:=a
 obtain ⟨b0,b1,b2⟩:=b
 simp only at h0 h1 h2
 rw [h0,h1,h2]
theorem types_at {x y : List S39} (hn : x.length ≤ 1000) (hl : x.length = y.length) : ∀ (d i : Nat), i + d = x.length → (∀ j (h : j < x.length) (h' : j < y.length), j < i → x[j] = y[j]) → ∃ b, Ev (fun k => w06_types.l0 k x y (i : Int)) b ∧ (b = true ↔ x = y)
 | 0,i,h,hs=>by
  refine⟨true,Ev.step (fun k=>?_) (Ev.now true),⟨fun _=>List.ext_getElem hl (fun j h1 h2=>hs j h1 h2 (by omega)),fun _=>rfl⟩⟩
  simp only [w06_types.l0]
  rw [if_neg (by omega)]
 | d + 1,i,h,hs=>by
  have hi : i < x.length:=by omega
  have hi' : i < y.length:=by omega
  have e1:=nd_nat x hi
  have e2:=nd_nat y hi'
  have hw:=w64s (j:=i) (by omega)
  by_cases c : x[i] = y[i]
  ·obtain ⟨b,b1,b2⟩:=types_at hn hl d (i + 1) (by omega) (fun j h1 h2 h3=>by
    by_cases e : j = i
    ·subst e;exact c
    ·exact hs j h1 h2 (by omega))
   refine⟨b,Ev.step (f:=fun k=>w06_types.l0 k x y ((i + 1 : Nat) : Int)) (fun k=>?_) b1,b2⟩
   simp only [w06_types.l0]
   rw [if_pos (castlt hi),if_pos (cast0 _),if_pos (castlt hi'),hw,show rd_T39 x (i : Int) = x[i] from e1,show rd_T39 y (i : Int) = y[i] from e2,c,if_neg (by simp)]
  ·refine ⟨false, Ev.step (fun k => ?_) (Ev.now false), ⟨fun h => (by cases h), fun h => absurd (by subst h; rfl) c⟩⟩
   simp only [w06_types.l0]
   rw [if_pos (castlt hi),if_pos (cast0 _),if_pos (castlt hi'),show rd_T39 x (i : Int) = x[i] from e1,show rd_T39 y (i : Int) = y[i] from e2,if_pos]
   have : ¬ (x[i].f0 = y[i].f0∧x[i].f1 = y[i].f1∧x[i].f2 = y[i].f2):=fun hh=>c (node_ext hh.1 hh.2.1 hh.2.2)
   by_cases a0 : x[i].f0 = y[i].f0 <;> by_cases a1 : x[i].f1 = y[i].f1 <;> by_cases a2 : x[i].f2 = y[i].f2 <;> simp_all
theorem types_ev (x y : List S39) (hn : x.length≤1000) : ∃ b,Ev (fun k=>w06_types.f k x y) b ∧(b = true↔x = y):=by
 by_cases hl : x.length = y.length
 rotate_left
 ·refine ⟨false, Ev.congr (fun k => ?_) (Ev.now false), ⟨fun h => (by cases h), fun h => absurd (by rw [h]) hl⟩⟩
  unfold w06_types.f
  rw [if_neg (by omega)]
 obtain ⟨b,b1,b2⟩:=types_at hn hl x.length 0 (by omega) (fun j _ _ h=>by omega)
 refine⟨b,Ev.congr (fun k=>?_) b1,b2⟩
 unfold w06_types.f
 rw [if_pos (by omega)]
 rfl
theorem canL_same {x : List S39} (hx : tyB x 24 = true) {j : Int} (j0 : 0≤j) (j1 : j < x.length) : Same (canL x j) 0 x j:=by
 obtain ⟨⟨_,hv⟩,h24⟩:=tyB_iff.1 hx
 have c:=(canL_spec hx j0 j1).1
 obtain ⟨N,hN⟩:=can_ex hv (by omega) j0 j1 c
 have hs:=can_same hv (by omega) hN hN.pos
 have e : N[0]'hN.pos = j:=(rd_nat' N hN.pos).symm.trans hN.head
 rw [e] at hs
 exact hs
section
variable {x a : List S39} (hx : IsTy x) {m : Bool} {i j : Int} (h : BdL x m i j a) (i0 : 0 ≤ i) (i1 : i < x.length) (j0 : 0 ≤ j) (j1 : j < x.length)
include hx h i0 i1 j0 j1
theorem lt_above :(m = true→SubC (jn x a) i x.length∧SubC (jn x a) j x.length) ∧(m = false→SubC (jn x a) x.length i∧SubC (jn x a) x.length j):=by
 obtain ⟨W,w1,w2⟩:=h.put hx
 obtain ⟨V,v1,v2⟩:=h.flip.put hx
 have si:=jn_same hx h.ty i0 i1
 have sj:=jn_same hx h.ty j0 j1
 refine⟨fun e=>?_,fun e=>?_⟩
 ·subst e
  exact⟨(bd_above w1 si).1 w2,(bd_above v1 sj).1 v2⟩
 subst e
 exact⟨(bd_above w1 si).2 w2,(bd_above v1 sj).2 v2⟩
theorem lt_least {k : Int} (k0 : 0≤k) (k1 : k < x.length) :(m = true →(SubC (jn x a) x.length k↔SubC x i k∧SubC x j k)) ∧(m = false →(SubC (jn x a) k x.length↔SubC x k i∧SubC x k j)):=by
 obtain ⟨W,w1,w2⟩:=h.put hx
 have hab:=lt_above hx h i0 i1 j0 j1
 have si:=jn_same hx h.ty i0 i1
 have sj:=jn_same hx h.ty j0 j1
 have sk:=jn_same hx h.ty k0 k1
 refine⟨fun e=>⟨fun hs=>?_,fun hs=>?_⟩,fun e=>⟨fun hs=>?_,fun hs=>?_⟩⟩
 ·obtain ⟨p1, p2⟩ := hab.1 e
  exact⟨(sub_same si sk).1 (p1.trans hs),(sub_same sj sk).1 (p2.trans hs)⟩
 ·subst e
  exact(bd_least w1 sk).1 w2 hs.1 hs.2
 ·obtain ⟨p1, p2⟩ := hab.2 e
  exact⟨(sub_same sk si).1 (hs.trans p1),(sub_same sk sj).1 (hs.trans p2)⟩
 subst e
 exact(bd_least w1 sk).2 w2 hs.1 hs.2
theorem lt_eq (hx24 : tyB x 24 = true) (e : m = true) : SubC x i j↔a = canL x j:=by
 constructor
 ·intro hs
  exact h.flip.eq_can hx hx24 j0 j1 (by rw [if_pos e];exact hs) j0 j1 (Same.refl _ _)
 intro ea
 have p1:=((lt_above hx h i0 i1 j0 j1).1 e).1
 have si:=jn_same hx h.ty i0 i1
 have hs:=jn_same2 hx h.ty (Int.le_refl 0) (by have:=h.ty.1;omega)
 rw [Int.add_zero] at hs
 have hc:=canL_same hx24 j0 j1
 rw [← ea] at hc
 exact(sub_same si (hs.trans hc)).1 p1
end
theorem subB_and {t u : List S39} {i j k p q : Int} (h : SubC u p q↔SubC t i k∧SubC t j k) : subB u p q =(subB t i k && subB t j k):=by
 rw [Bool.eq_iff_iff,Bool.and_eq_true,subB_iff,subB_iff,subB_iff]
 exact h
theorem subB_and' {t u : List S39} {i j k p q : Int} (h : SubC u p q↔SubC t k i∧SubC t k j) : subB u p q =(subB t k i && subB t k j):=by
 rw [Bool.eq_iff_iff,Bool.and_eq_true,subB_iff,subB_iff,subB_iff]
 exact h
theorem awake_some : Ev (fun k=>(w06_awake.f k).bind fun z=>some z) true:=Ev.congr (fun k=>by cases w06_awake.f k <;> rfl) awake_ev
theorem lt_j3 (a c : List S39) (ik jk ki kj ij : Bool) (h : Ev (fun k=>w06_types.f k a c) ij) : Ev (fun k=>w06_LoopsLattice.j3 k a ik jk ki kj (ik && jk) (ki && kj) ij c false) true:=by
 refine Ev.step (f:=fun k=>(w06_types.f k a c).bind fun t=>(if(ij == t) = true then((w06_awake.f k).bind fun z=>some z) else some false)) (fun k=>?_) ?_
 ·simp only [w06_LoopsLattice.j3]
  cases ik <;> cases ki <;> simp
 refine Ev.bind (f:=fun k (t : Bool)=>_) h ?_
 simp only [beq_self_eq_true,if_true]
 exact awake_some
theorem lt_j2 {x a u d c : List S39} {n i j k : Int} {ik jk ki kj ij : Bool}
  (h1 : Ev (fun q=>w06_sub.f q x i k) (ik,true)) (h2 : Ev (fun q=>w06_sub.f q x j k) (jk,true)) (h3 : Ev (fun q=>w06_sub.f q x k i) (ki,true)) (h4 : Ev (fun q=>w06_sub.f q x k j) (kj,true))
  (h5 : Ev (fun q=>w06_sub.f q u n k) ((ik && jk),true)) (h6 : Ev (fun q=>w06_sub.f q d k n) ((ki && kj),true)) (h7 : Ev (fun q=>w06_sub.f q x i j) (ij,true)) (h8 : Ev (fun q=>loops_Canonical.f q x j) (c,0)) (h9 : Ev (fun q=>w06_types.f q a c) ij) :
  Ev (fun q=>w06_LoopsLattice.j2 q x n i j k a u d false) true:=by
 refine Ev.step (f:=fun q=>(w06_sub.f q x i k).bind fun b1=>(w06_sub.f q x j k).bind fun b2=>(w06_sub.f q x k i).bind fun b3=>(w06_sub.f q x k j).bind fun b4=>(w06_sub.f q u n k).bind fun b5=>(w06_sub.f q d k n).bind fun b6=>(w06_sub.f q x i j).bind fun b7=>(loops_Canonical.f q x j).bind fun b8=>if(b1.2 && b2.2 && b3.2 && b4.2 && b5.2 && b6.2 && b7.2) = true then w06_LoopsLattice.j3 q a b1.1 b2.1 b3.1 b4.1 b5.1 b6.1 b7.1 b8.1 (b8.2 != 0) else w06_LoopsLattice.j3 q a b1.1 b2.1 b3.1 b4.1 b5.1 b6.1 b7.1 b8.1 true) (fun q=>?_) ?_
 ·simp only [w06_LoopsLattice.j2]
  rw [if_neg (by decide)]
  refine congrArg _ (funext fun b1=>congrArg _ (funext fun b2=>congrArg _ (funext fun b3=>congrArg _ (funext fun b4=>congrArg _ (funext fun b5=>congrArg _ (funext fun b6=>congrArg _ (funext fun b7=>congrArg _ (funext fun b8=>?_))))))))
  cases b1.2 <;> cases b2.2 <;> cases b3.2 <;> cases b4.2 <;> cases b5.2 <;> cases b6.2 <;> cases b7.2 <;> rfl
 refine Ev.bind (f:=fun q (z : Bool×Bool)=>_) h1 ?_
 refine Ev.bind (f:=fun q (z : Bool×Bool)=>_) h2 ?_
 refine Ev.bind (f:=fun q (z : Bool×Bool)=>_) h3 ?_
 refine Ev.bind (f:=fun q (z : Bool×Bool)=>_) h4 ?_
 refine Ev.bind (f:=fun q (z : Bool×Bool)=>_) h5 ?_
 refine Ev.bind (f:=fun q (z : Bool×Bool)=>_) h6 ?_
 refine Ev.bind (f:=fun q (z : Bool×Bool)=>_) h7 ?_
 refine Ev.bind (f:=fun q (z : List S39×Int)=>_) h8 ?_
 exact lt_j3 a c ik jk ki kj ij h9
theorem lt_j1 {x a u d g : List S39} {n i j k : Int}
  (h1 : Ev (fun q=>w06_joined.f q x a) u) (h2 : Ev (fun q=>w06_joined.f q x g) d)
  (h3 : Ev (fun q=>w06_sub.f q u i n) (true,true)) (h4 : Ev (fun q=>w06_sub.f q u j n) (true,true)) (h5 : Ev (fun q=>w06_sub.f q d n i) (true,true)) (h6 : Ev (fun q=>w06_sub.f q d n j) (true,true))
  (h : Ev (fun q=>w06_LoopsLattice.j2 q x n i j k a u d false) true) : Ev (fun q=>w06_LoopsLattice.j1 q x n i j k a g false) true:=by
 refine Ev.step (f:=fun q=>(w06_joined.f q x a).bind fun u=>(w06_joined.f q x g).bind fun d=>(w06_sub.f q u i n).bind fun b1=>(w06_sub.f q u j n).bind fun b2=>(w06_sub.f q d n i).bind fun b3=>(w06_sub.f q d n j).bind fun b4=>if(b1.2 && b2.2 && b3.2 && b4.2 && b1.1 && b2.1 && b3.1) = true then w06_LoopsLattice.j2 q x n i j k a u d (!b4.1) else w06_LoopsLattice.j2 q x n i j k a u d true) (fun q=>?_) ?_
 ·simp only [w06_LoopsLattice.j1]
  rw [if_neg (by decide)]
  refine congrArg _ (funext fun u=>congrArg _ (funext fun d=>congrArg _ (funext fun b1=>congrArg _ (funext fun b2=>congrArg _ (funext fun b3=>congrArg _ (funext fun b4=>?_))))))
  cases b1.2 <;> cases b2.2 <;> cases b3.2 <;> cases b4.2 <;> cases b1.1 <;> cases b2.1 <;> cases b3.1 <;> rfl
 refine Ev.bind (f:=fun q (z : List S39)=>_) h1 ?_
 refine Ev.bind (f:=fun q (z : List S39)=>_) h2 ?_
 refine Ev.bind (f:=fun q (z : Bool×Bool)=>_) h3 ?_
 refine Ev.bind (f:=fun q (z : Bool×Bool)=>_) h4 ?_
 refine Ev.bind (f:=fun q (z : Bool×Bool)=>_) h5 ?_
 refine Ev.bind (f:=fun q (z : Bool×Bool)=>_) h6 ?_
 exact h
theorem LoopsLattice_ev (l : List S39) (o0 o1 o2 : Int) : Ev (fun k=>w06_LoopsLattice.f k l o0 o1 o2) true:=by
 unfold w06_LoopsLattice.f
 obtain ⟨x,t1,t2,t3⟩:=tame_ev l (m:=4) (by omega) (by omega)
 have hx : tyB x 24 = true:=tyB_iff.2 ⟨t2,by omega⟩
 have h4 : x.length≤4:=by omega
 have hsq : x.length * x.length≤16:=Nat.mul_le_mul h4 h4
 have hp:=t2.1
 obtain ⟨i,hi,i0,i1⟩:=mod_ok o0 (b:=x.length) (by omega) (by omega)
 obtain ⟨j,hj,j0,j1⟩:=mod_ok o1 (b:=x.length) (by omega) (by omega)
 obtain ⟨k,hk,k0,k1⟩:=mod_ok o2 (b:=x.length) (by omega) (by omega)
 obtain ⟨a,a1,a2,a3⟩:=Join_ev hx i0 i1 j0 j1
 obtain ⟨a',b1,b2,b3⟩:=Join_ev hx j0 j1 i0 i1
 obtain ⟨d,d1,d2,d3⟩:=Meet_ev hx i0 i1 j0 j1
 obtain ⟨d',e1,e2,e3⟩:=Meet_ev hx j0 j1 i0 i1
 obtain rfl : a = a':=a2.uniq b2.flip
 obtain rfl : d = d':=d2.uniq e2.flip
 refine Ev.bind (f:=fun k (z : List S39)=>_) t1 ?_
 rw [hi,hj,hk]
 simp only [Option.bind_some]
 refine Ev.bind (f:=fun k (z : List S39×Int)=>_) a1 ?_
 refine Ev.bind (f:=fun k (z : List S39×Int)=>_) b1 ?_
 refine Ev.bind (f:=fun k (z : List S39×Int)=>_) d1 ?_
 refine Ev.bind (f:=fun k (z : List S39×Int)=>_) e1 ?_
 simp only [if_true]
 refine Ev.bind (f:=fun k (z : Bool)=>_) (types_self a (by omega)) ?_
 simp only [if_true]
 refine Ev.bind (f:=fun k (z : Bool)=>_) (types_self d (by omega)) ?_
 have w1 : wrap64 ((x.length : Int) + (a.length : Int)) =(x.length : Int) + a.length:=w64 (by omega) (by omega)
 have w2 : wrap64 ((x.length : Int) + (d.length : Int)) =(x.length : Int) + d.length:=w64 (by omega) (by omega)
 have yes : Ev (fun q=>w06_LoopsLattice.j1 q x (x.length : Int) i j k a d true) true:=by
  have ha:=Types_ev (t:=a) (by omega) 1000
  rw [tyB_iff.2 ⟨a2.ty,by omega⟩] at ha
  have hd:=Types_ev (t:=d) (by omega) 1000
  rw [tyB_iff.2 ⟨d2.ty,by omega⟩] at hd
  refine Ev.step (f:=fun k=>(q06_Types.f k a 1000).bind fun t708=>(if t708 = true then((q06_Types.f k d 1000).bind fun t709=>(if t709 = true then((w06_awake.f k).bind fun t710=>(some t710)) else(some false))) else(some false))) (fun k=>?_) ?_
  ·simp only [w06_LoopsLattice.j1]
   rw [if_pos trivial]
  ·refine Ev.bind (f := fun k (z : Bool) => _) ha ?_
   simp only [if_true]
   refine Ev.bind (f:=fun k (z : Bool)=>_) hd ?_
   simp only [if_true]
   exact awake_some
 by_cases c1 :(x.length : Int) + a.length > 24
 ·refine Ev.step (fun k => ?_) yes
  simp only [w06_LoopsLattice.j0]
  rw [w1,if_pos c1,if_neg (by decide)]
 by_cases c2 :(x.length : Int) + d.length > 24
 ·refine Ev.step (fun k => ?_) yes
  simp only [w06_LoopsLattice.j0]
  rw [w1,w2,if_neg c1,if_neg (by decide),if_pos c2]
 have ha:=Types_ev (t:=a) (by omega) 24
 rw [tyB_iff.2 ⟨a2.ty,by omega⟩] at ha
 have hd:=Types_ev (t:=d) (by omega) 24
 rw [tyB_iff.2 ⟨d2.ty,by omega⟩] at hd
 refine Ev.step (f:=fun q=>(q06_Types.f q a 24).bind fun t706=>(if t706 = true then((q06_Types.f q d 24).bind fun t707=>(w06_LoopsLattice.j1 q x (x.length : Int) i j k a d (!t707))) else(w06_LoopsLattice.j1 q x (x.length : Int) i j k a d true))) (fun q=>?_) ?_
 ·simp only [w06_LoopsLattice.j0]
  rw [w1,w2,if_neg c1,if_neg (by decide),if_neg c2]
 refine Ev.bind (f:=fun k (z : Bool)=>_) ha ?_
 simp only [if_true]
 refine Ev.bind (f:=fun k (z : Bool)=>_) hd ?_
 -- the two joined lists
 have hu:=jn_ty t2 a2.ty
 have hul:=jn_len x a
 have hud:=jn_ty t2 d2.ty
 have hudl:=jn_len x d
 have tu : tyB (jn x a) 24 = true:=tyB_iff.2 ⟨hu,by omega⟩
 have td : tyB (jn x d) 24 = true:=tyB_iff.2 ⟨hud,by omega⟩
 have ap:=a2.ty.1
 have dp:=d2.ty.1
 have n0 :(0 : Int)≤x.length:=by omega
 have nu :(x.length : Int) < (jn x a).length:=by omega
 have nd' :(x.length : Int) < (jn x d).length:=by omega
 have iu : i < (jn x a).length:=by omega
 have ju : j < (jn x a).length:=by omega
 have ku : k < (jn x a).length:=by omega
 have id' : i < (jn x d).length:=by omega
 have jd : j < (jn x d).length:=by omega
 have kd : k < (jn x d).length:=by omega
 obtain ⟨p1,p2⟩:=(lt_above t2 a2 i0 i1 j0 j1).1 rfl
 obtain ⟨q1,q2⟩:=(lt_above t2 d2 i0 i1 j0 j1).2 rfl
 have l1:=(lt_least t2 a2 i0 i1 j0 j1 k0 k1).1 rfl
 have l2:=(lt_least t2 d2 i0 i1 j0 j1 k0 k1).2 rfl
 have s1:=sub_ev tu i0 iu n0 nu
 rw [subB_iff.2 p1] at s1
 have s2:=sub_ev tu j0 ju n0 nu
 rw [subB_iff.2 p2] at s2
 have s3:=sub_ev td n0 nd' i0 id'
 rw [subB_iff.2 q1] at s3
 have s4:=sub_ev td n0 nd' j0 jd
 rw [subB_iff.2 q2] at s4
 have s5:=sub_ev tu n0 nu k0 ku
 rw [subB_and l1] at s5
 have s6:=sub_ev td k0 kd n0 nd'
 rw [subB_and' l2] at s6
 have hC:=Canonical_ev (t:=x) (by omega) j
 rw [hx,inB_one.2 ⟨j0,j1⟩,if_pos (show(true && true) = true from rfl)] at hC
 obtain ⟨b,g1,g2⟩:=types_ev a (canL x j) (by omega)
 have eb : subB x i j = b:=by
  have:=lt_eq t2 a2 i0 i1 j0 j1 hx rfl
  rw [Bool.eq_iff_iff,subB_iff,g2,this]
 have s7:=sub_ev hx i0 i1 j0 j1
 rw [eb] at s7
 exact lt_j1 (joined_ev t2 a2.ty (by omega)) (joined_ev t2 d2.ty (by omega)) s1 s2 s3 s4 (lt_j2 (sub_ev hx i0 i1 k0 k1) (sub_ev hx j0 j1 k0 k1) (sub_ev hx k0 k1 i0 i1) (sub_ev hx k0 k1 j0 j1) s5 s6 s7 hC g1)
theorem LoopsLattice (l : List S39) (a b c : Int) : ∃ k,w06_LoopsLattice.f k l a b c = some true:=(LoopsLattice_ev l a b c).rounds
end Go.Proofs.Ytnfmeafiaipplaa.P

namespace Go.Proofs.Ytnfmeafiaipplaa.Open
instance : Inhabited Go.Proofs.Ytnfmeafiaipplaa.S.S39:=⟨⟨0,0,0⟩⟩
open Go.ChangeShapes Go.WideShapes Go.ChangeAt Go.RowKit
open Go.Proofs.Ytnfmeafiaipplaa.S Go.Proofs.Ytnfmeafiaipplaa.Lib Go.Proofs.YtnfmeafiaipplaaW.PrintWords Go.Proofs.YtnfmeafiaipplaaW.PrintLast Go.Proofs.YtnfmeafiaipplaaW.PrintMore
set_option linter.unusedVariables false
set_option maxRecDepth 100000

theorem add_add (a : Addr) (i j : Nat) :(a.add i).add j = a.add (i + j):=by
 unfold Addr.add
 by_cases hi : i = 0
 ·subst hi
  simp
 by_cases hj : j = 0
 ·subst hj
  simp [hi]
 simp [hi,hj,Nat.add_assoc]
theorem cells3 : Try.prog.cellsOf 39 = 3:=by kernel_rfl
theorem cells1 : Try.prog.cellsOf 3 = 1:=by kernel_rfl
section
variable {H : Type} {enc : TypeId × Value → H} {W : World} {base : Nat} {spare : Nat → Bool} {held : Bool}
/-- A node's cells. -/
theorem open_node {fuel : Nat} {cs : List Value} {x : DataW H×List MemPlace} (h : DataW.trod enc Try.prog W base spare held fuel 39 cs = some x) : ∃ n : S39,cs = [.int .i64 n.f0,.int .i64 n.f1,.int .i64 n.f2]:=by
 obtain ⟨xs,n,_,_,hl,hxl,hf⟩:=DataW.trod_struct Try.underlying39 h
 rw [cells3] at hl
 obtain ⟨c0,c1,c2,rfl⟩ : ∃ c0 c1 c2,cs = [c0,c1,c2]:=by
  match cs,hl with
  | [a,b,c],_=>exact⟨a,b,c,rfl⟩
 have f0 : DataW.trod enc Try.prog W base spare held n 3 (([c0,c1,c2].drop 0).take (Try.prog.cellsOf 3)) = xs[0]?:=hf 0 _ rfl
 have f1 : DataW.trod enc Try.prog W base spare held n 3 (([c0,c1,c2].drop 1).take (Try.prog.cellsOf 3)) = xs[1]?:=hf 1 _ rfl
 have f2 : DataW.trod enc Try.prog W base spare held n 3 (([c0,c1,c2].drop 2).take (Try.prog.cellsOf 3)) = xs[2]?:=hf 2 _ rfl
 rw [cells1] at f0 f1 f2
 have hxl3 : xs.length = 3:=hxl
 rw [List.getElem?_eq_getElem (by omega)] at f0 f1 f2
 obtain ⟨n0,h0,_⟩:=DataW.trod_int Try.underlying3 f0
 obtain ⟨n1,h1,_⟩:=DataW.trod_int Try.underlying3 f1
 obtain ⟨n2,h2,_⟩:=DataW.trod_int Try.underlying3 f2
 refine⟨⟨n0,n1,n2⟩,?_⟩
 simp at h0 h1 h2
 rw [h0,h1,h2]
theorem open_types {a : Option Addr} {len cap : Nat} {d : DataW H} {ps : List MemPlace} (h : DataW.Trod enc Try.prog W base spare held 22 (.slice a len cap) d ps) :
  ∃ zs : List S39,zs.length = len∧Kd.C k39 W a zs.length zs∧zs.length≤cap:=by
 obtain ⟨fuel,hf⟩:=h
 rcases Go.Deep.open_slice Try.underlying22 hf with ⟨hcs,_⟩ |⟨x,l,c,m,n,D,Pl,hcs,_,hl,hm,hmm,_,hx⟩
 ·simp [Value.cells] at hcs
  obtain ⟨rfl,rfl,rfl⟩:=hcs
  exact⟨[],rfl,⟨rfl,by simp,fun hp=>absurd hp (by simp)⟩,by simp⟩
 simp [Value.cells] at hcs
 obtain ⟨rfl,rfl,rfl⟩:=hcs
 have hlm : len≤m:=by rw [hmm];split <;> omega
 obtain ⟨Z,hZ⟩:=Go.Deep.choose_lt (α:=S39) (n:=len) (p:=fun i z=>∀ j u,[Value.int .i64 z.f0,.int .i64 z.f1,.int .i64 z.f2][j]? = some u→W.cell? (x.add (i * 3 + j)) = some u) (fun i hi=>by
  obtain ⟨cs',h1,h2⟩:=hx i (by omega)
  obtain ⟨z,rfl⟩:=open_node h2
  obtain ⟨_,_,h3⟩:=World.cells?_some h1
  rw [cells3] at h3
  refine⟨z,fun j u hu=>?_⟩
  have hj : j < 3:=by
   have:=(List.getElem?_eq_some_iff.1 hu).1
   simpa using this
  rw [← add_add,h3 j hj,hu])
 have hml : len≤9223372036854775807:=by simp only [maxLen] at hm;omega
 refine⟨(List.range len).map Z,by simp,⟨by simp,by simpa using hml,fun _=>⟨x,rfl,fun j p hj=>?_⟩⟩,by simpa using hl⟩
 obtain ⟨hj1,hj2⟩:=List.getElem?_eq_some_iff.1 hj
 simp at hj1 hj2
 refine⟨_,rfl,k39_mk W p,fun i u hu=>?_⟩
 rw [← hj2] at hu
 exact hZ j hj1 i u hu
theorem okWide_array {P : Program} {w : World} {r : Reach} {b0 n : Nat} {t e : TypeId} {v : Value} (ht : P.underlying t = some (.array n e)) (h : Value.okWide P w r b0 t v) : ∃ cs,v = .agg cs∧cs.size = P.cellsOf t:=by
 simp only [Value.okWide,ht] at h
 obtain ⟨cs,h1,h2,_⟩:=h
 exact⟨cs,h1,h2⟩
theorem open_three {r : Reach} {b0 : Nat} {v : Value} {d : DataW H} {ps : List MemPlace} (hv : Value.okWide Try.prog W r b0 37 v) (h : DataW.Trod enc Try.prog W base spare held 37 v d ps) :
  ∃ a b c : Int,v = .agg #[.int .i64 a,.int .i64 b,.int .i64 c] ∧(Lit.int .i64 a).wf = true ∧(Lit.int .i64 b).wf = true ∧(Lit.int .i64 c).wf = true:=by
 obtain ⟨cs,rfl,hsz⟩:=okWide_array Try.underlying37 hv
 obtain ⟨fuel,hf⟩:=h
 have hc : Try.prog.cellsOf 37 = 3:=by kernel_rfl
 rw [hc] at hsz
 obtain ⟨xs,m,_,_,_,hxl,hel⟩:=DataW.trod_array Try.underlying37 hf
 obtain ⟨c0,c1,c2,rfl⟩ : ∃ c0 c1 c2,cs = #[c0,c1,c2]:=by
  obtain ⟨l⟩:=cs
  match l,hsz with
  | [a,b,c],_=>exact⟨a,b,c,rfl⟩
 have e0:=hel 0 (by omega)
 have e1:=hel 1 (by omega)
 have e2:=hel 2 (by omega)
 simp only [cells1] at e0 e1 e2
 rw [List.getElem?_eq_getElem (by omega)] at e0 e1 e2
 obtain ⟨n0,h0,_,w0⟩:=DataW.trod_int Try.underlying3 e0
 obtain ⟨n1,h1,_,w1⟩:=DataW.trod_int Try.underlying3 e1
 obtain ⟨n2,h2,_,w2⟩:=DataW.trod_int Try.underlying3 e2
 refine⟨n0,n1,n2,?_,w0,w1,w2⟩
 simp [Value.cells] at h0 h1 h2
 rw [h0,h1,h2]
end
end Go.Proofs.Ytnfmeafiaipplaa.Open
