-- Written by wip/bundle2.py: texts of this claim, one behind the other.
import Derived.Test.YtnfmeafiaipplaaBLoopsBounds4
import Derived.KernelRfl
import Derived.WalkKit
import Derived.ProofKit
import Derived.OpenShut
import Derived.ShutString
import Derived.ChangeOld
import Derived.Below
import Derived.SizedLaws
import Derived.Deep.Slices
import Derived.Laws.IdiomArrays
set_option linter.unusedVariables false
set_option linter.unusedSimpArgs false

namespace Go.Proofs.Ytnfmeafiaipplaa.P
open Go.RowKit Go.Proofs.Ytnfmeafiaipplaa.S Go.Proofs.Ytnfmeafiaipplaa.Lib Go.Proofs.YtnfmeafiaipplaaW.PrintWords
set_option linter.unusedVariables false
set_option linter.unusedSectionVars false

/-- Where a list has a node that is equal to x first. -/
noncomputable def ixS (t : List S39) (ns : List Int) (x : Int) : Nat:=ns.findIdx (fun y=>sameB t y x)
noncomputable def reS (t : List S39) (ns : List Int) (x : Int) : List Int:=if ixS t ns x < ns.length then ns else ns ++ [x]
noncomputable def canS (t : List S39) : Nat → List Int → Nat → List S39 → Option (List S39)
  | 0,_,_,_=>none
  | f + 1,ns,k,out =>
    if k < ns.length then
      (if 4 ≤ (nd t (rd ns k)).f0 then canS t f (reS t (reS t ns (nd t (rd ns k)).f1) (nd t (rd ns k)).f2) (k + 1)
        (out ++ [⟨(nd t (rd ns k)).f0,(ixS t (reS t ns (nd t (rd ns k)).f1) (nd t (rd ns k)).f1 : Int),(ixS t (reS t (reS t ns (nd t (rd ns k)).f1) (nd t (rd ns k)).f2) (nd t (rd ns k)).f2 : Int)⟩])
       else canS t f ns (k + 1) (out ++ [nd t (rd ns k)]))
    else some out
/-- Nodes of the list, no two equal. -/
def Apart (t : List S39) (ns : List Int) : Prop:=(∀ x ∈ ns,0≤x∧x < t.length)∧ns.Pairwise (fun x y=>¬ Same t x t y)
theorem Apart.nodup {t : List S39} {ns : List Int} (h : Apart t ns) : ns.Nodup:=h.2.imp (fun hs e=>hs (by rw [e];exact Same.refl _ _))
theorem Apart.len {t : List S39} {ns : List Int} (h : Apart t ns) : ns.length≤t.length:=nodup_len t.length ns (-1) h.nodup (fun a ha=>by have:=h.1 a ha;omega)
theorem ixS_le (t : List S39) (ns : List Int) (x : Int) : ixS t ns x≤ns.length:=List.findIdx_le_length
theorem ixS_hit {t : List S39} {ns : List Int} {x : Int} (h : ixS t ns x < ns.length) : Same t (ns[ixS t ns x]) t x:=sameB_iff.1 (List.findIdx_getElem (w:=h))
theorem ixS_lt {t : List S39} {ns : List Int} {x : Int} : ixS t ns x < ns.length↔∃ y ∈ ns,Same t y t x:=by
  constructor
  · intro h
    exact⟨_,List.getElem_mem h,ixS_hit h⟩
  rintro⟨y,hy,hs⟩
  exact List.findIdx_lt_length_of_exists ⟨y,hy,sameB_iff.2 hs⟩
theorem ixS_before {t : List S39} {ns : List Int} {x : Int} {j : Nat} (h : j < ixS t ns x) (hj : j < ns.length) : ¬ Same t (ns[j]) t x:=fun hs=>by
  have:=List.not_of_lt_findIdx h
  rw [sameB_iff.2 hs] at this
  cases this
theorem reS_apart {t : List S39} {ns : List Int} {x : Int} (h : Apart t ns) (h0 : 0≤x) (h1 : x < t.length) : Apart t (reS t ns x):=by
  unfold reS
  split
  · exact h
  rename_i hn
  refine⟨fun y hy=>?_,List.pairwise_append.2 ⟨h.2,by simp,fun y hy z hz=>?_⟩⟩
  · rcases List.mem_append.1 hy with hy | hy
    · exact h.1 y hy
    · simp at hy
      subst hy
      exact⟨h0,h1⟩
  simp at hz
  subst hz
  exact fun hs=>hn (ixS_lt.2 ⟨y,hy,hs⟩)
theorem reS_new {t : List S39} {ns : List Int} {x : Int} (h : ¬ ixS t ns x < ns.length) : reS t ns x = ns ++ [x]∧ixS t (reS t ns x) x = ns.length:=by
  have e : reS t ns x = ns ++ [x]:=if_neg h
  refine⟨e,?_⟩
  rw [e]
  unfold ixS
  rw [List.findIdx_append]
  have h' : ¬ List.findIdx (fun y=>sameB t y x) ns < ns.length:=h
  rw [if_neg h']
  have : sameB t x x = true:=sameB_iff.2 (Same.refl _ _)
  simp [List.findIdx_cons,this]
theorem reS_old {t : List S39} {ns : List Int} {x : Int} (h : ixS t ns x < ns.length) : reS t ns x = ns:=if_pos h
theorem reS_len (t : List S39) (ns : List Int) (x : Int) : ns.length ≤(reS t ns x).length:=by
  unfold reS
  split <;> simp
theorem rd_nat' (ns : List Int) {k : Nat} (h : k < ns.length) : rd ns (k : Int) = ns[k]:=rd_lt ns k h
section
variable {t : List S39} (hv : ∀ i : Int, 0 ≤ i → i < t.length → okN t i) (hn : t.length ≤ 5000)
include hv hn
theorem apart_next {ns : List Int} (h : Apart t ns) {k : Nat} (hk : k < ns.length) (hp : 4 ≤(nd t (rd ns k)).f0) : Apart t (reS t (reS t ns (nd t (rd ns k)).f1) (nd t (rd ns k)).f2):=by
  have hx:=h.1 _ (List.getElem_mem hk)
  rw [← rd_nat' ns hk] at hx
  obtain ⟨_,_,⟨a0,a1⟩,⟨b0,b1⟩⟩:=hv _ hx.1 hx.2
  exact reS_apart (reS_apart h a0 a1) b0 b1
theorem canS_some : ∀ (d : Nat) (ns : List Int) (k : Nat) (out : List S39), Apart t ns → t.length ≤ k + d → k ≤ ns.length → ∃ r, ∀ f, d + 1 ≤ f → canS t f ns k out = some r
  | 0,ns,k,out,h,hd,hk=>by
    have:=h.len
    refine⟨out,fun f hf=>?_⟩
    obtain ⟨f,rfl⟩ : ∃ g,f = g + 1:=⟨f - 1,by omega⟩
    unfold canS
    rw [if_neg (by omega)]
  | d + 1,ns,k,out,h,hd,hk=>by
    by_cases c : k < ns.length
    · by_cases hp : 4 ≤ (nd t (rd ns k)).f0
      · have hl := reS_len t (reS t ns (nd t (rd ns k)).f1) (nd t (rd ns k)).f2
        have hl2:=reS_len t ns (nd t (rd ns k)).f1
        obtain ⟨r,hr⟩:=canS_some d _ (k + 1) (out ++ [⟨(nd t (rd ns k)).f0,(ixS t (reS t ns (nd t (rd ns k)).f1) (nd t (rd ns k)).f1 : Int),(ixS t (reS t (reS t ns (nd t (rd ns k)).f1) (nd t (rd ns k)).f2) (nd t (rd ns k)).f2 : Int)⟩]) (apart_next hv hn h c hp) (by omega) (by omega)
        refine⟨r,fun f hf=>?_⟩
        obtain ⟨f,rfl⟩ : ∃ g,f = g + 1:=⟨f - 1,by omega⟩
        unfold canS
        rw [if_pos c,if_pos hp]
        exact hr f (by omega)
      · obtain ⟨r, hr⟩ := canS_some d ns (k + 1) (out ++ [nd t (rd ns k)]) h (by omega) (by omega)
        refine⟨r,fun f hf=>?_⟩
        obtain ⟨f,rfl⟩ : ∃ g,f = g + 1:=⟨f - 1,by omega⟩
        unfold canS
        rw [if_pos c,if_neg hp]
        exact hr f (by omega)
    · refine ⟨out, fun f hf => ?_⟩
      obtain ⟨f,rfl⟩ : ∃ g,f = g + 1:=⟨f - 1,by omega⟩
      unfold canS
      rw [if_neg c]
/-- Classes of nodes. -/
def IsCls (t : List S39) (cs : List Int) : Prop:=cs.length = t.length ∧(∀ i : Nat,i < t.length→0≤rd cs i∧rd cs i < t.length)∧∀ i j : Nat,i < t.length→j < t.length →(rd cs i = rd cs j↔Same t i t j)
theorem cls_int {cs : List Int} (hc : IsCls t cs) {a b : Int} (a0 : 0≤a) (a1 : a < t.length) (b0 : 0≤b) (b1 : b < t.length) : rd cs a = rd cs b↔Same t a t b:=by
  have:=hc.2.2 a.toNat b.toNat (by omega) (by omega)
  rwa [Int.toNat_of_nonneg a0,Int.toNat_of_nonneg b0] at this
omit hv hn in
theorem findIdx_congr {α : Type} {p q : α → Bool} : ∀ {l : List α}, (∀ x ∈ l, p x = q x) → l.findIdx p = l.findIdx q
  | [],_=>rfl
  | a :: l,h=>by
    rw [List.findIdx_cons,List.findIdx_cons,h a (by simp),findIdx_congr (fun x hx=>h x (by simp [hx]))]
theorem idx_cls {cs : List Int} (hc : IsCls t cs) {ns : List Int} (h : ∀ x ∈ ns,0≤x∧x < t.length) {x : Int} (x0 : 0≤x) (x1 : x < t.length) : numIx (ns.map (rd cs)) (rd cs x) = ixS t ns x:=by
  unfold numIx List.idxOf ixS
  rw [List.findIdx_map]
  refine findIdx_congr (fun y hy=>?_)
  have hy':=h y hy
  have:=cls_int hv hn hc hy'.1 hy'.2 x0 x1
  simp only [Function.comp]
  cases hs : sameB t y x with
  | true=>exact beq_iff_eq.2 (this.2 (sameB_iff.1 hs))
  | false =>
    refine beq_eq_false_iff_ne.2 (fun e=>?_)
    have:=sameB_iff.2 (this.1 e)
    rw [hs] at this
    cases this
theorem canNs_eq {cs : List Int} (hc : IsCls t cs) {ns : List Int} (h : ∀ x ∈ ns,0≤x∧x < t.length) {x : Int} (x0 : 0≤x) (x1 : x < t.length) : canNs cs ns x = reS t ns x:=by
  unfold canNs reS
  have :(rd cs x ∈ ns.map (rd cs))↔ixS t ns x < ns.length:=by
    rw [ixS_lt]
    constructor
    · intro hm
      obtain ⟨y,hy,e⟩:=List.mem_map.1 hm
      exact⟨y,hy,(cls_int hv hn hc (h y hy).1 (h y hy).2 x0 x1).1 e⟩
    · rintro ⟨y, hy, hs⟩
      exact List.mem_map.2 ⟨y,hy,(cls_int hv hn hc (h y hy).1 (h y hy).2 x0 x1).2 hs⟩
  by_cases c : ixS t ns x < ns.length
  · rw [if_pos c,if_pos (this.2 c)]
  rw [if_neg c,if_neg (fun hm=>c (this.1 hm))]
theorem canGo_eq {cs : List Int} (hc : IsCls t cs) : ∀ (f : Nat) (ns : List Int) (k : Nat) (out : List S39), Apart t ns → out.length = k → canGo t cs f ns k out = canS t f ns k out
  | 0,_,_,_,_,_=>rfl
  | f + 1,ns,k,out,h,ho=>by
    unfold canGo canS
    by_cases c : k < ns.length
    · have hx := h.1 _ (List.getElem_mem c)
      rw [← rd_nat' ns c] at hx
      obtain ⟨⟨k0,k1⟩,_,⟨a0,a1⟩,⟨b0,b1⟩⟩:=hv _ hx.1 hx.2
      have hl:=h.len
      have h1 : Apart t (reS t ns (nd t (rd ns k)).f1):=reS_apart h a0 a1
      have e1:=canNs_eq hv hn hc h.1 a0 a1
      have e2:=canNs_eq hv hn hc h1.1 b0 b1
      have h2 : Apart t (reS t (reS t ns (nd t (rd ns k)).f1) (nd t (rd ns k)).f2):=reS_apart h1 b0 b1
      have i1 : canIx cs (reS t ns (nd t (rd ns k)).f1) (nd t (rd ns k)).f1 =(ixS t (reS t ns (nd t (rd ns k)).f1) (nd t (rd ns k)).f1 : Int):=by unfold canIx;rw [idx_cls hv hn hc h1.1 a0 a1]
      have i2 : canIx cs (reS t (reS t ns (nd t (rd ns k)).f1) (nd t (rd ns k)).f2) (nd t (rd ns k)).f2 =(ixS t (reS t (reS t ns (nd t (rd ns k)).f1) (nd t (rd ns k)).f2) (nd t (rd ns k)).f2 : Int):=by unfold canIx;rw [idx_cls hv hn hc h2.1 b0 b1]
      rw [if_pos (by omega),if_pos c,if_pos ⟨by omega,by omega,hx.1,hx.2,by omega⟩]
      by_cases hp : 4 ≤(nd t (rd ns k)).f0
      · have hlen := hc.1
        rw [if_pos (by show(nd t (rd ns k)).f0 = 4 ∨(nd t (rd ns k)).f0 = 5;omega),if_pos hp,if_pos ⟨⟨a0,by rw [hlen];exact a1⟩,⟨b0,by rw [hlen];exact b1⟩⟩]
        show canGo t cs f (canNs cs (canNs cs ns (nd t (rd ns k)).f1) (nd t (rd ns k)).f2) ((k : Int) + 1) (out ++ [⟨(nd t (rd ns k)).f0,canIx cs (canNs cs ns (nd t (rd ns k)).f1) (nd t (rd ns k)).f1,canIx cs (canNs cs (canNs cs ns (nd t (rd ns k)).f1) (nd t (rd ns k)).f2) (nd t (rd ns k)).f2⟩]) = _
        rw [e1,e2,i1,i2]
        exact canGo_eq hc f _ (k + 1) _ h2 (by simp [ho])
      · rw [if_neg (by show ¬ ((nd t (rd ns k)).f0 = 4 ∨ (nd t (rd ns k)).f0 = 5); omega), if_neg hp]
        exact canGo_eq hc f ns (k + 1) _ h (by simp [ho])
    · rw [if_neg (by omega),if_neg c]
def IsTab (t : List S39) (sm : List Bool) : Prop:=sm.length = t.length * t.length∧∀ i j : Nat,i < t.length→j < t.length →(tb t.length sm i j = true↔Same t i t j)
theorem tab_int {sm : List Bool} (hs : IsTab t sm) {a b : Int} (a0 : 0≤a) (a1 : a < t.length) (b0 : 0≤b) (b1 : b < t.length) : rdOf false sm (wrap64 (wrap64 ((t.length : Int) * a) + b)) = sameB t a b∧0≤wrap64 (wrap64 ((t.length : Int) * a) + b)∧wrap64 (wrap64 ((t.length : Int) * a) + b) < (sm.length : Int):=by
  have e:=ixp (n:=t.length) (by omega) a0 a1 b0 b1
  have hlt:=idx_lt (n:=t.length) (i:=a.toNat) (j:=b.toNat) (by omega) (by omega)
  rw [e,rdOf_tb,hs.1]
  refine⟨?_,cast0 _,castlt hlt⟩
  have:=hs.2 a.toNat b.toNat (by omega) (by omega)
  rw [Int.toNat_of_nonneg a0,Int.toNat_of_nonneg b0] at this
  cases h1 : tb t.length sm a.toNat b.toNat with
  | true=>exact(sameB_iff.2 (this.1 h1)).symm
  | false =>
    cases h2 : sameB t a b with
    | false=>rfl
    | true =>
      rw [this.2 (sameB_iff.1 h2)] at h1
      cases h1
theorem reach_loop {sm : List Bool} (hs : IsTab t sm) {ns : List Int} (h : ∀ x ∈ ns, 0 ≤ x ∧ x < t.length) (hl : ns.length ≤ 5000) {x : Int} (x0 : 0 ≤ x) (x1 : x < t.length) : ∀ (d k : Nat), k + d = ns.length → k ≤ ixS t ns x → Ev (fun f => q06_reach.l0 f ns sm t.length x (k : Int)) (reS t ns x, (ixS t (reS t ns x) x : Int))
  | 0,k,hd,hk=>by
    have hle:=ixS_le t ns x
    have hno : ¬ ixS t ns x < ns.length:=by omega
    obtain ⟨e1,e2⟩:=reS_new hno
    rw [e2,e1]
    refine Ev.step (fun f=>?_) (Ev.now _)
    simp only [q06_reach.l0]
    rw [if_neg (by omega),if_pos (by omega)]
  | d + 1,k,hd,hk=>by
    have hkl : k < ns.length:=by omega
    have hy:=h _ (List.getElem_mem hkl)
    rw [← rd_nat' ns hkl] at hy
    obtain ⟨t1,t2,t3⟩:=tab_int hv hn hs hy.1 hy.2 x0 x1
    cases hb : sameB t (rd ns k) x with
    | true =>
      have hsm:=sameB_iff.1 hb
      rw [rd_nat' ns hkl] at hsm
      have hix : ixS t ns x = k:=by
        apply Nat.le_antisymm
        · exact Nat.le_of_not_lt (fun hlt=>ixS_before hlt hkl hsm)
        · exact hk
      rw [reS_old (by omega),hix]
      refine Ev.step (fun f=>?_) (Ev.now _)
      simp only [q06_reach.l0]
      rw [if_pos (castlt hkl),if_pos (cast0 _),if_pos t2,if_pos t3,t1,if_pos hb]
    | false =>
      have ih:=reach_loop hs h hl x0 x1 d (k + 1) (by omega) (by
        apply Nat.lt_of_le_of_ne hk
        intro e
        have:=ixS_hit (t:=t) (ns:=ns) (x:=x) (by omega)
        have h2:=sameB_iff.2 this
        have e3 : ns[ixS t ns x]'(by omega) = rd ns k:=by rw [rd_nat' ns hkl];simp [e]
        rw [e3,hb] at h2
        cases h2)
      refine Ev.step (f:=fun f=>q06_reach.l0 f ns sm t.length x ((k + 1 : Nat) : Int)) (fun f=>?_) ih
      have e2:=w64s (j:=k) (by omega)
      simp only [q06_reach.l0]
      rw [if_pos (castlt hkl),if_pos (cast0 _),if_pos t2,if_pos t3,t1,if_neg (by rw [hb];decide),e2]
theorem reach_ev {sm : List Bool} (hs : IsTab t sm) {ns : List Int} (h : Apart t ns) {x : Int} (x0 : 0≤x) (x1 : x < t.length) : Ev (fun f=>q06_reach.f f ns sm t.length x) (reS t ns x,(ixS t (reS t ns x) x : Int)) :=
  reach_loop hv hn hs h.1 (by have:=h.len;omega) x0 x1 ns.length 0 (by omega) (Nat.zero_le _)
theorem refCan_loop {sm : List Bool} (hs : IsTab t sm) : ∀ (f : Nat) (ns : List Int) (k : Nat) (out r : List S39), Apart t ns → out.length = k → k ≤ ns.length → canS t f ns k out = some r → Ev (fun f => q06_Canonical.l0 f t t.length sm ns out (k : Int)) r
  | 0,_,_,_,_,_,_,_,hr=>by cases hr
  | f + 1,ns,k,out,r,h,ho,hk,hr=>by
    unfold canS at hr
    have hl:=h.len
    by_cases c : k < ns.length
    · rw [if_pos c] at hr
      have hx:=h.1 _ (List.getElem_mem c)
      rw [← rd_nat' ns c] at hx
      obtain ⟨⟨k0,k1⟩,_,⟨a0,a1⟩,⟨b0,b1⟩⟩:=hv _ hx.1 hx.2
      have h1 : Apart t (reS t ns (nd t (rd ns k)).f1):=reS_apart h a0 a1
      have h2 : Apart t (reS t (reS t ns (nd t (rd ns k)).f1) (nd t (rd ns k)).f2):=reS_apart h1 b0 b1
      have hl1:=reS_len t (reS t ns (nd t (rd ns k)).f1) (nd t (rd ns k)).f2
      have hl2:=reS_len t ns (nd t (rd ns k)).f1
      have hob : out.length < 5864062014805:=by omega
      have hk1 : k + 1≤ns.length:=c
      have hk2 : k + 1 ≤(reS t (reS t ns (nd t (rd ns k)).f1) (nd t (rd ns k)).f2).length:=Nat.le_trans hk1 (Nat.le_trans hl2 hl1)
      have hk3 : k≤1000000:=by omega
      have e2:=w64s (j:=k) (by omega)
      by_cases hp : 4 ≤(nd t (rd ns k)).f0
      · rw [if_pos hp] at hr
        have ih:=refCan_loop hs f _ (k + 1) _ r h2 (by simp [ho]) hk2 hr
        have g1:=reach_ev hv hn hs h a0 a1
        have g2:=reach_ev hv hn hs h1 b0 b1
        refine Ev.step (f:=fun f=>(q06_reach.f f ns sm t.length (nd t (rd ns k)).f1).bind fun p=>(q06_reach.f f p.1 sm t.length (nd t (rd ns k)).f2).bind fun q=>if out.length < 5864062014805 then q06_Canonical.l0 f t t.length sm q.1 (out ++ [⟨(nd t (rd ns k)).f0,p.2,q.2⟩]) ((k + 1 : Nat) : Int) else none) (fun f=>?_) ?_
        · simp only [q06_Canonical.l0]
          rw [if_pos (castlt c),if_pos (cast0 _),if_pos hx.1,if_pos hx.2,if_pos hp,e2]
        · refine Ev.bind (f := fun f p => (q06_reach.f f p.1 sm t.length (nd t (rd ns k)).f2).bind fun q => if out.length < 5864062014805 then q06_Canonical.l0 f t t.length sm q.1 (out ++ [⟨(nd t (rd ns k)).f0, p.2, q.2⟩]) ((k + 1 : Nat) : Int) else none) g1 ?_
          refine Ev.bind (f:=fun f q=>if out.length < 5864062014805 then q06_Canonical.l0 f t t.length sm q.1 (out ++ [⟨(nd t (rd ns k)).f0,(ixS t (reS t ns (nd t (rd ns k)).f1) (nd t (rd ns k)).f1 : Int),q.2⟩]) ((k + 1 : Nat) : Int) else none) g2 ?_
          refine Ev.congr (fun f=>?_) ih
          rw [if_pos hob]
      · rw [if_neg hp] at hr
        have ih:=refCan_loop hs f ns (k + 1) _ r h (by simp [ho]) hk1 hr
        refine Ev.step (f:=fun f=>q06_Canonical.l0 f t t.length sm ns (out ++ [nd t (rd ns k)]) ((k + 1 : Nat) : Int)) (fun f=>?_) ih
        simp only [q06_Canonical.l0]
        rw [if_pos (castlt c),if_pos (cast0 _),if_pos hx.1,if_pos hx.2,if_neg hp,if_pos hob,e2]
    · rw [if_neg c] at hr
      obtain rfl:=Option.some.inj hr
      refine Ev.step (fun f=>?_) (Ev.now _)
      simp only [q06_Canonical.l0]
      rw [if_neg (by omega)]
/-- Both ways come to one list. -/
theorem canon_both {i : Int} (i0 : 0≤i) (i1 : i < t.length) : ∃ r,canS t 10000 [i] 0 [] = some r∧Ev (fun k=>loops_canonical.f k t i) r∧Ev (fun k=>q06_Canonical.f k t i) r:=by
  have hap : Apart t [i]:=⟨fun x hx=>by simp at hx;subst hx;exact⟨i0,i1⟩,by simp⟩
  obtain ⟨r,hr⟩:=canS_some hv hn t.length [i] 0 [] hap (by omega) (by simp)
  have h200:=hr 10000 (by omega)
  obtain ⟨cs,c1,c2,c3,c4⟩:=classes_ev hv (by omega)
  obtain ⟨sm,s1,s2,s3⟩:=Equals_ev hv (by omega)
  refine⟨r,h200,?_,?_⟩
  · refine Ev.bind (g := fun k => loops_classes.f k t) (f := fun k cs => if cs.length = t.length ∧ (0 ≤ i ∧ i < cs.length) ∧ cs.all i64B = true then canGo t cs 10000 [i] 0 [] else none) c1 ?_
    refine Ev.congr (fun k=>?_) (Ev.now r)
    rw [if_pos]
    · have := canGo_eq hv hn (cs := cs) ⟨c2, c3, c4⟩ 10000 [i] 0 [] hap rfl
      rw [h200] at this
      exact this
    · refine ⟨c2, ⟨i0, by rw [c2]; exact i1⟩, List.all_eq_true.2 (fun x hx => ?_)⟩
      obtain ⟨j,hj,rfl⟩:=List.getElem_of_mem hx
      have:=c3 j (by omega)
      rw [rd_nat' cs hj] at this
      unfold i64B
      exact decide_eq_true ⟨by omega,by omega⟩
  refine Ev.bind (g:=fun k=>q06_Equals.f k t) (f:=fun k sm=>q06_Canonical.l0 k t t.length sm [i] [] 0) s1 ?_
  exact refCan_loop hv hn (sm:=sm) ⟨s2,s3⟩ 10000 [i] 0 [] r hap rfl (by simp) h200
end

noncomputable def tyB (t : List S39) (m : Int) : Bool:=@decide (IsTy t ∧(t.length : Int)≤m) (Classical.propDecidable _)
theorem tyB_iff {t : List S39} {m : Int} : tyB t m = true↔IsTy t ∧(t.length : Int)≤m:=by
  unfold tyB
  exact @decide_eq_true_iff _ (Classical.propDecidable _)
theorem tyB_false {t : List S39} {m : Int} (h : ¬ (IsTy t ∧(t.length : Int)≤m)) : tyB t m = false:=by
  cases e : tyB t m with
  | false=>rfl
  | true=>exact absurd (tyB_iff.1 e) h
theorem tyB_not {t : List S39} {m : Int} {i : Nat} (hi : i < t.length) (h : ¬ okN t i) : tyB t m = false:=tyB_false (fun hh=>h (hh.1.2 i (by omega) (by omega)))
theorem types_l0 {t : List S39} (hn : t.length ≤ 5000) (m : Int) : ∀ (d i : Nat), i + d = t.length → (∀ j : Nat, j < i → okN t j) → Ev (fun k => q06_Types.l0 k t m (i : Int)) (tyB t m)
  | 0,i,h,ho=>by
    refine Ev.step (fun k=>?_) (Ev.now (tyB t m))
    have hty : 1≤t.length→IsTy t:=fun h1=>⟨h1,fun j j0 j1=>by
      have:=ho j.toNat (by omega)
      rwa [Int.toNat_of_nonneg j0] at this⟩
    simp only [q06_Types.l0]
    rw [if_neg (by omega)]
    by_cases c :(t.length : Int) ≥ 1
    · rw [if_pos c]
      by_cases c2 :(t.length : Int)≤m
      · rw [tyB_iff.2 ⟨hty (by omega),c2⟩,decide_eq_true c2]
      · rw [tyB_false (fun hh=>c2 hh.2),decide_eq_false c2]
    · rw [if_neg c,tyB_false (fun hh=>c (by have:=hh.1.1;omega))]
  | d + 1,i,h,ho=>by
    have hi : i < t.length:=by omega
    have z:=cast0 i
    have hlt:=castlt hi
    by_cases hok : okN t i
    · have ih:=types_l0 hn m d (i + 1) (by omega) (fun j hj=>by
        by_cases e : j = i
        · rw [e];exact hok
        · exact ho j (by omega))
      refine Ev.step (f:=fun k=>q06_Types.l0 k t m ((i + 1 : Nat) : Int)) (fun k=>?_) ih
      unfold okN nd at hok
      obtain ⟨⟨k0,k1⟩,k2,⟨a0,a1⟩,⟨b0,b1⟩⟩:=hok
      have e2:=w64s (j:=i) (by omega)
      simp only [q06_Types.l0]
      rw [if_pos hlt,if_pos z,e2]
      clear e2 ih
      repeat' split
      all_goals first | rfl |(exfalso;omega)
    · rw [tyB_not hi hok]
      refine Ev.step (fun k=>?_) (Ev.now false)
      simp only [q06_Types.l0]
      rw [if_pos hlt,if_pos z]
      repeat' split
      all_goals first | rfl |(refine absurd ?_ hok;unfold okN nd;refine⟨⟨?_,?_⟩,fun h=>⟨?_,?_⟩,⟨?_,?_⟩,⟨?_,?_⟩⟩ <;> omega)
theorem Types_ev {t : List S39} (hn : t.length≤5000) (m : Int) : Ev (fun k=>q06_Types.f k t m) (tyB t m):=types_l0 hn m t.length 0 (by omega) (fun j hj=>by omega)
theorem within_eq (a b c : Int) : loops_within.f a b c = some (decide (b≤a∧a≤c)):=by
  unfold loops_within.f
  by_cases h : a ≥ b
  rotate_left
  · rw [if_neg h,decide_eq_false (fun hh=>h hh.1)]
  rw [if_pos h]
  by_cases h2 : a≤c
  · rw [decide_eq_true h2,decide_eq_true ⟨h,h2⟩]
  rw [decide_eq_false h2,decide_eq_false (fun hh=>h2 hh.2)]
theorem areTypes_l0 {t : List S39} (h1 : 1 ≤ t.length) (hn : t.length ≤ 24) : ∀ (d i : Nat), i + d = t.length → (∀ j : Nat, j < i → okN t j) → Ev (fun k => loops_areTypes.l0 k t t t.length (i : Int)) (tyB t 24)
  | 0,i,h,ho=>by
    refine Ev.step (fun k=>?_) (Ev.now (tyB t 24))
    simp only [loops_areTypes.l0]
    rw [if_neg (by omega),tyB_iff.2 ⟨⟨h1,fun j j0 j1=>by
      have:=ho j.toNat (by omega)
      rwa [Int.toNat_of_nonneg j0] at this⟩,by omega⟩]
  | d + 1,i,h,ho=>by
    have hi : i < t.length:=by omega
    have z:=cast0 i
    have hlt:=castlt hi
    have hw : wrap64 ((t.length : Int) - 1) =(t.length : Int) - 1:=w64 (by omega) (by omega)
    obtain ⟨x5,hx5⟩ : ∃ x5,x5 = if 4 ≤(nd t i).f0 then(t.length : Int) - 1 else 0:=⟨_,rfl⟩
    have go : ∀ r,Ev (fun k=>loops_areTypes.j1 k t x5 t t.length (i : Int) (nd t i).f0 (nd t i).f1 (nd t i).f2) r →(0 ≤(nd t i).f0 →(nd t i).f0≤5→Ev (fun k=>loops_areTypes.l0 k t t t.length (i : Int)) r):=fun r hr f0 f5=>by
      refine Ev.step (fun k=>?_) hr
      simp only [loops_areTypes.l0]
      rw [if_pos hlt,if_pos z,if_pos hlt,hw]
      by_cases c : 4 ≤(nd t i).f0
      · rw [if_pos c] at hx5
        have : loops_hasParts.f (rd_T39 t i).f0 (rd_T39 t i).f1 (rd_T39 t i).f2 = some true:=by
          unfold loops_hasParts.f
          by_cases c4 :(nd t i).f0 = 4
          · rw [if_pos c4]
          · have c5 : (nd t i).f0 = 5 := by omega
            rw [if_neg c4,beq_iff_eq.2 c5]
        rw [this,Option.bind_some,if_pos rfl,hx5]
      · rw [if_neg c] at hx5
        have : loops_hasParts.f (rd_T39 t i).f0 (rd_T39 t i).f1 (rd_T39 t i).f2 = some false:=by
          unfold loops_hasParts.f
          have c4 : ¬ (rd_T39 t i).f0 = 4:=fun e=>c (by rw [e];decide)
          have c5 : ¬ (rd_T39 t i).f0 = 5:=fun e=>c (by rw [e];decide)
          rw [if_neg c4,beq_eq_false_iff_ne.2 c5]
        rw [this,Option.bind_some,if_neg (by decide),hx5]
    have z5 : 0≤x5:=by rw [hx5];split <;> omega
    by_cases hok : okN t i
    · have ih:=areTypes_l0 h1 hn d (i + 1) (by omega) (fun j hj=>by
        by_cases e : j = i
        · rw [e];exact hok
        · exact ho j (by omega))
      obtain ⟨⟨k0,k1⟩,k2,⟨a0,a1⟩,⟨b0,b1⟩⟩:=hok
      refine go _ ?_ k0 k1
      refine Ev.step (f:=fun k=>loops_areTypes.l0 k t t t.length ((i + 1 : Nat) : Int)) (fun k=>?_) ih
      have e2:=w64s (j:=i) (by omega)
      have q1 :(nd t i).f1≤x5:=by rw [hx5];split <;> omega
      have q2 :(nd t i).f2≤x5:=by rw [hx5];split <;> omega
      simp only [loops_areTypes.j1]
      rw [within_eq,decide_eq_true ⟨k0,k1⟩,within_eq,decide_eq_true ⟨a0,q1⟩,within_eq,decide_eq_true ⟨b0,q2⟩,e2]
      rfl
    rw [tyB_not hi hok]
    by_cases hk : 0 ≤(nd t i).f0 ∧(nd t i).f0≤5
    · refine go _ ?_ hk.1 hk.2
      refine Ev.step (fun k=>?_) (Ev.now false)
      simp only [loops_areTypes.j1]
      rw [within_eq,decide_eq_true hk,Option.bind_some,if_pos rfl,within_eq]
      by_cases c1 : 0 ≤(nd t i).f1 ∧(nd t i).f1≤x5
      · rw [decide_eq_true c1, Option.bind_some, if_pos rfl, within_eq]
        by_cases c2 : 0 ≤(nd t i).f2 ∧(nd t i).f2≤x5
        · exfalso
          apply hok
          have q : ¬ 4 ≤(nd t i).f0→x5 = 0:=fun c=>by rw [hx5,if_neg c]
          have q' : x5 ≤(t.length : Int) - 1:=by rw [hx5];split <;> omega
          refine⟨hk,fun h=>⟨?_,?_⟩,⟨?_,?_⟩,⟨?_,?_⟩⟩ <;> omega
        · rw [decide_eq_false c2]
          rfl
      · rw [decide_eq_false c1]
        rfl
    -- a kind that is none: both ways end so
    refine Ev.step (f:=fun k=>loops_areTypes.j1 k t (if(nd t i).f0 = 4 ∨(nd t i).f0 = 5 then(t.length : Int) - 1 else 0) t t.length (i : Int) (nd t i).f0 (nd t i).f1 (nd t i).f2) (fun k=>?_) (Ev.step (fun k=>?_) (Ev.now false))
    · simp only [loops_areTypes.l0]
      have c4 : ¬ (rd_T39 t i).f0 = 4:=fun e=>hk ⟨by show 0 ≤(rd_T39 t i).f0;omega,by show(rd_T39 t i).f0≤5;omega⟩
      have c5 : ¬ (rd_T39 t i).f0 = 5:=fun e=>hk ⟨by show 0 ≤(rd_T39 t i).f0;omega,by show(rd_T39 t i).f0≤5;omega⟩
      have : loops_hasParts.f (rd_T39 t i).f0 (rd_T39 t i).f1 (rd_T39 t i).f2 = some false:=by
        unfold loops_hasParts.f
        rw [if_neg c4,beq_eq_false_iff_ne.2 c5]
      rw [if_pos hlt,if_pos z,if_pos hlt,this,Option.bind_some,if_neg (by decide),if_neg (show ¬ ((nd t i).f0 = 4 ∨(nd t i).f0 = 5) from fun h=>h.elim c4 c5)]
    simp only [loops_areTypes.j1]
    rw [within_eq,decide_eq_false hk]
    rfl
theorem areTypes_ev {t : List S39} (hn : t.length≤5000) : Ev (fun k=>loops_areTypes.f k t) (tyB t 24):=by
  unfold loops_areTypes.f
  simp only [within_eq]
  by_cases c : 1 ≤(t.length : Int) ∧(t.length : Int)≤24
  · refine Ev.congr (fun k => ?_) (areTypes_l0 (by omega) (by omega) t.length 0 (by omega) (fun j hj => by omega))
    rw [decide_eq_true c]
    rfl
  rw [tyB_false (fun hh=>c ⟨by have:=hh.1.1;omega,hh.2⟩)]
  refine Ev.congr (fun k=>?_) (Ev.now false)
  rw [decide_eq_false c]
  rfl
/-- All of some nodes lie in a list. -/
def inB (t : List S39) (is : List Int) : Bool:=is.all (fun i=>decide (0≤i∧i < t.length))
theorem areNodes_ev {t : List S39} (hn : t.length≤5000) (is : List Int) : Ev (fun k=>loops_areNodes.f k t is) (tyB t 24 && inB t is):=by
  unfold loops_areNodes.f
  refine Ev.bind (f:=fun k (b : Bool)=>if b = true then some (!(is.any (badNode t.length))) else some false) (areTypes_ev hn) ?_
  refine Ev.congr (fun k=>?_) (Ev.now _)
  cases tyB t 24 with
  | false=>rfl
  | true =>
    rw [if_pos rfl,Bool.true_and]
    congr 1
    unfold inB
    rw [List.not_any_eq_all_not]
    congr 1
    funext i
    unfold badNode
    rw [Bool.not_not]
    apply decide_eq_decide.2
    omega
theorem bad_ev {t : List S39} (hn : t.length≤5000) (a b : Int) : Ev (fun k=>w06_bad.f k t a b) (!(tyB t 24 && inB t [a,b])):=by
  unfold w06_bad.f
  refine Ev.bind (f:=fun k (x : Bool)=>if x = true then(if a < 0 then(some true) else(if a ≥ (t.length : Int) then(some true) else(if b < 0 then(some true) else(some (decide (b ≥ (t.length : Int))))))) else(some true)) (Types_ev hn 24) ?_
  refine Ev.congr (fun k=>?_) (Ev.now _)
  cases tyB t 24 with
  | false=>rfl
  | true =>
    rw [if_pos rfl,Bool.true_and]
    unfold inB
    simp only [List.all_cons,List.all_nil,Bool.and_true]
    repeat' split
    all_goals first
      |(have hd : decide (0≤a∧a < t.length) = false:=decide_eq_false (by omega);rw [hd];rfl)
      |(have hd : decide (0≤b∧b < t.length) = false:=decide_eq_false (by omega);rw [hd,Bool.and_false];rfl)
      | (have hd : decide (0 ≤ a ∧ a < t.length) = true := decide_eq_true (by omega)
         rw [hd,Bool.true_and]
         congr 1
         by_cases c : b < t.length
         · rw [decide_eq_true (p := 0 ≤ b ∧ b < t.length) (by omega), decide_eq_false (by omega)]
           rfl
         · rw [decide_eq_false (p := 0 ≤ b ∧ b < t.length) (by omega), decide_eq_true (by omega)]
           rfl)
theorem own_eq (t : List S39) : w06_own.f t = some (t.take 25):=by
  unfold w06_own.f
  have hm : mn (t.length : Int) 25 =((min t.length 25 : Nat) : Int):=by
    unfold mn
    split <;> omega
  rw [hm,if_pos (by omega),if_pos (by omega),Option.bind_some,if_pos (by simp;omega),List.nil_append,Int.toNat_natCast]
  congr 1
  rw [List.take_eq_take_iff]
  omega
theorem own_len (t : List S39) :(t.take 25).length≤25:=by simp;omega
theorem types_go (t : List S39) (hn : t.length ≤ 5000) : ∀ (d i : Nat), i + d = t.length → Ev (fun k => w06_types.l0 k t t (i : Int)) true
  | 0,i,h=>by
    refine Ev.step (fun k=>?_) (Ev.now true)
    simp only [w06_types.l0]
    rw [if_neg (by omega)]
  | d + 1,i,h=>by
    refine Ev.step (f:=fun k=>w06_types.l0 k t t ((i + 1 : Nat) : Int)) (fun k=>?_) (types_go t hn d (i + 1) (by omega))
    have e2:=w64s (j:=i) (by omega)
    have hlt:=castlt (a:=i) (b:=t.length) (by omega)
    simp only [w06_types.l0]
    rw [if_pos hlt,if_pos (cast0 _),if_pos hlt,e2,if_neg (by simp)]
/-- A list is itself. -/
theorem types_self (t : List S39) (hn : t.length≤5000) : Ev (fun k=>w06_types.f k t t) true:=by
  unfold w06_types.f
  refine Ev.congr (fun k=>?_) (types_go t hn t.length 0 (by omega))
  rw [if_pos rfl]
  rfl
theorem canS_len {t : List S39} (hv : ∀ i : Int, 0 ≤ i → i < t.length → okN t i) (hn : t.length ≤ 5000) : ∀ (f : Nat) (ns : List Int) (k : Nat) (out r : List S39), Apart t ns → out.length = k → k ≤ ns.length → canS t f ns k out = some r → r.length ≤ t.length
  | 0,_,_,_,_,_,_,_,hr=>by cases hr
  | f + 1,ns,k,out,r,h,ho,hk,hr=>by
    unfold canS at hr
    by_cases c : k < ns.length
    · rw [if_pos c] at hr
      by_cases hp : 4 ≤(nd t (rd ns k)).f0
      · rw [if_pos hp] at hr
        have hl1:=reS_len t (reS t ns (nd t (rd ns k)).f1) (nd t (rd ns k)).f2
        have hl2:=reS_len t ns (nd t (rd ns k)).f1
        exact canS_len hv hn f _ (k + 1) _ r (apart_next hv hn h c hp) (by simp [ho]) (by omega) hr
      · rw [if_neg hp] at hr
        exact canS_len hv hn f _ (k + 1) _ r h (by simp [ho]) (by omega) hr
    · rw [if_neg c] at hr
      obtain rfl:=Option.some.inj hr
      have:=h.len
      omega
/-- The canonical list. -/
noncomputable def canL (t : List S39) (i : Int) : List S39:=(canS t 10000 [i] 0 []).getD []
theorem inB_two {t : List S39} {i j : Int} : inB t [i,j] = true ↔(0≤i∧i < t.length) ∧(0≤j∧j < t.length):=by simp [inB]

theorem nd_nat (t : List S39) {k : Nat} (h : k < t.length) : nd t (k : Int) = t[k]:=by
 unfold nd rd_T39
 rw [List.getD_eq_getElem?_getD,Int.toNat_natCast,List.getElem?_eq_getElem h,Option.getD_some]
def Alike (t : List S39) (ns : List Int) (t' : List S39) (ns' : List Int) : Prop:=ns.length = ns'.length∧∀ k (h : k < ns.length) (h' : k < ns'.length),Same t ns[k] t' ns'[k]
theorem ix_alike {t t' : List S39} {ns ns' : List Int} {x x' : Int} (h : Alike t ns t' ns') (hx : Same t x t' x') : ixS t ns x = ixS t' ns' x':=by
 have key : ∀ k (hk : k < ns.length) (hk' : k < ns'.length),Same t ns[k] t x↔Same t' ns'[k] t' x':=fun k hk hk' =>
  ⟨fun hs=>(h.2 k hk hk').symm.trans (hs.trans hx),fun hs=>(h.2 k hk hk').trans (hs.trans hx.symm)⟩
 have hle:=ixS_le t ns x
 have hle':=ixS_le t' ns' x'
 apply Nat.le_antisymm
 ·apply Nat.le_of_not_lt
  intro hlt
  have h2 : ixS t' ns' x' < ns.length:=by omega
  have h3 : ixS t' ns' x' < ns'.length:=by have:=h.1;omega
  exact ixS_before hlt h2 ((key _ h2 h3).2 (ixS_hit h3))
 apply Nat.le_of_not_lt
 intro hlt
 have h3 : ixS t ns x < ns'.length:=by omega
 have h2 : ixS t ns x < ns.length:=by have:=h.1;omega
 exact ixS_before hlt h3 ((key _ h2 h3).1 (ixS_hit h2))
theorem re_alike {t t' : List S39} {ns ns' : List Int} {x x' : Int} (h : Alike t ns t' ns') (hx : Same t x t' x') : Alike t (reS t ns x) t' (reS t' ns' x'):=by
 have e:=ix_alike h hx
 unfold reS
 rw [← e,← h.1]
 split
 ·exact h
 refine⟨by simp [h.1],fun k hk hk'=>?_⟩
 by_cases c : k < ns.length
 ·rw [List.getElem_append_left c, List.getElem_append_left (by have := h.1; omega)]
  exact h.2 k c _
 have e1 : k = ns.length:=by simp at hk;omega
 subst e1
 rw [List.getElem_append_right (Nat.le_refl _),List.getElem_append_right (by have:=h.1;omega)]
 simpa using hx
theorem can_alike {t t' : List S39} (hv : ∀ i : Int, 0 ≤ i → i < t.length → okN t i) (hn : t.length ≤ 5000) (hv' : ∀ i : Int, 0 ≤ i → i < t'.length → okN t' i) (hn' : t'.length ≤ 5000) : ∀ (f : Nat) (ns ns' : List Int) (k : Nat) (out : List S39), Apart t ns → Apart t' ns' → Alike t ns t' ns' → canS t f ns k out = canS t' f ns' k out
 | 0,_,_,_,_,_,_,_=>rfl
 | f + 1,ns,ns',k,out,hA,hA',h=>by
  unfold canS
  rw [← h.1]
  by_cases c : k < ns.length
  ·rw [if_pos c, if_pos c]
   have c' : k < ns'.length:=by have:=h.1;omega
   have hs:=h.2 k c c'
   rw [← rd_nat' ns c,← rd_nat' ns' c'] at hs
   obtain ⟨e,hp⟩:=same_iff.1 hs
   by_cases hk : 4 ≤(nd t (rd ns k)).f0
   ·obtain ⟨s1, s2⟩ := hp hk
    have hk' : 4 ≤(nd t' (rd ns' k)).f0:=by rw [← e];exact hk
    have h1:=re_alike h s1
    have h2:=re_alike h1 s2
    rw [if_pos hk,if_pos hk',← e,ix_alike h1 s1,ix_alike h2 s2]
    exact can_alike hv hn hv' hn' f _ _ (k + 1) _ (apart_next hv hn hA c hk) (apart_next hv' hn' hA' c' hk') h2
   ·have hk' : ¬ 4 ≤ (nd t' (rd ns' k)).f0 := by rw [← e]; exact hk
    have x:=hA.1 _ (List.getElem_mem c)
    have x':=hA'.1 _ (List.getElem_mem c')
    rw [← rd_nat' ns c] at x
    rw [← rd_nat' ns' c'] at x'
    have o:=(hv _ x.1 x.2).2.1 (by omega)
    have o':=(hv' _ x'.1 x'.2).2.1 (by omega)
    have en : nd t (rd ns k) = nd t' (rd ns' k):=by
     have e0:=o.1;have e1:=o.2;have e2:=o'.1;have e3:=o'.2
     generalize nd t (rd ns k) = a at *
     generalize nd t' (rd ns' k) = b at *
     obtain ⟨a0,a1,a2⟩:=a
     obtain ⟨b0,b1,b2⟩:=b
     simp only at e e0 e1 e2 e3
     rw [e,e0,e1,e2,e3]
    rw [if_neg hk,if_neg hk',en]
    exact can_alike hv hn hv' hn' f _ _ (k + 1) _ hA hA' h
  rw [if_neg c,if_neg c]
section
variable {t : List S39} (hv : ∀ i : Int, 0 ≤ i → i < t.length → okN t i) (hn : t.length ≤ 5000)
include hv hn
end

/-- What a relation of subtypes must bear, at two nodes. -/
def Stp (t : List S39) (R : Int→Int→Prop) (i j : Int) : Prop :=
 ((nd t i).f0 = 0 ∨(nd t j).f0 = 1) ∨((nd t i).f0 =(nd t j).f0 ∧((nd t i).f0 = 4→R (nd t i).f1 (nd t j).f1∧R (nd t i).f2 (nd t j).f2) ∧((nd t i).f0 = 5→R (nd t j).f1 (nd t i).f1∧R (nd t i).f2 (nd t j).f2))
theorem Stp.mono {t : List S39} {R R' : Int→Int→Prop} {i j : Int} (h : Stp t R i j) (hR : ∀ a b,R a b→R' a b) : Stp t R' i j:=by
 rcases h with h |⟨h1,h2,h3⟩
 ·exact .inl h
 exact .inr ⟨h1,fun c=>⟨hR _ _ (h2 c).1,hR _ _ (h2 c).2⟩,fun c=>⟨hR _ _ (h3 c).1,hR _ _ (h3 c).2⟩⟩
def SubC (t : List S39) (i j : Int) : Prop:=∃ R : Int→Int→Prop,(∀ a b,R a b→Stp t R a b)∧R i j
theorem SubC.step {t : List S39} {i j : Int} (h : SubC t i j) : Stp t (SubC t) i j:=by
 obtain ⟨R,h1,h2⟩:=h
 exact(h1 i j h2).mono (fun a b hab=>⟨R,h1,hab⟩)
theorem SubC.of_same {t : List S39} {i j : Int} (h : Same t i t j) : SubC t i j :=
 ⟨fun a b=>Same t a t b,fun a b hab=>.inr ⟨(same_iff.1 hab).1,fun c=>(same_iff.1 hab).2 (by omega),fun c=>⟨((same_iff.1 hab).2 (by omega)).1.symm,((same_iff.1 hab).2 (by omega)).2⟩⟩,h⟩
theorem SubC.refl (t : List S39) (i : Int) : SubC t i i:=.of_same (Same.refl t i)
theorem SubC.trans {t : List S39} {i j k : Int} (h : SubC t i j) (h' : SubC t j k) : SubC t i k:=by
 refine⟨fun a c=>∃ b,SubC t a b∧SubC t b c,?_,j,h,h'⟩
 rintro a c ⟨b,h1,h2⟩
 rcases h1.step with (p | p) |⟨p1,p2,p3⟩
 ·exact .inl (.inl p)
 ·rcases h2.step with (q | q) | ⟨q1, _, _⟩
  ·omega
  ·exact .inl (.inr q)
  exact .inl (.inr (by omega))
 rcases h2.step with (q | q) |⟨q1,q2,q3⟩
 ·exact .inl (.inl (by omega))
 ·exact .inl (.inr q)
 exact .inr ⟨by omega,fun c=>⟨⟨_,(p2 c).1,(q2 (by omega)).1⟩,⟨_,(p2 c).2,(q2 (by omega)).2⟩⟩,fun c=>⟨⟨_,(q3 (by omega)).1,(p3 c).1⟩,⟨_,(p3 c).2,(q3 (by omega)).2⟩⟩⟩
def inP (t : List S39) (p : S23) : Prop:=(0≤p.f0∧p.f0 < t.length) ∧(0≤p.f1∧p.f1 < t.length)
theorem hasK_cons (bs : Bad) (k : List Int) (c : Int) (q : List Int) : hasK ((k,c) :: bs) q =(q == k || hasK bs q):=by
 unfold hasK
 rw [List.lookup_cons]
 cases h : q == k <;> simp
/-- Why a pair is refuted, by a list. -/
def Why (t : List S39) (bs : Bad) (p : S23) (c : Int) : Prop :=
 (c = 0∧needsF (nd t p.f0) (nd t p.f1) = none) ∨((c = 97∨c = 98)∧∃ m q,needsF (nd t p.f0) (nd t p.f1) = some m∧needGet m c = some q∧hasK bs q = true)
inductive Rk (t : List S39) : Bad → Prop where
 | nil : Rk t []
 | cons (p : S23) (c : Int) (bs : Bad) : Rk t bs→inP t p→hasK bs (l23 p) = false→Why t bs p c→Rk t ((l23 p,c) :: bs)
/-- All pairs of nodes. -/
def allP (t : List S39) : List (List Int):=(List.range t.length).flatMap (fun i : Nat=>(List.range t.length).map (fun j : Nat=>[(i : Int),(j : Int)]))
theorem sum_const (n : Nat) : ∀ l : List Nat, (l.map (fun _ => n)).sum = l.length * n
 | []=>by simp
 | a :: l=>by rw [List.map_cons,List.sum_cons,sum_const n l,List.length_cons,Nat.succ_mul,Nat.add_comm]
theorem allP_len (t : List S39) :(allP t).length = t.length * t.length:=by
 unfold allP
 rw [List.length_flatMap]
 simp only [List.length_map,List.length_range]
 rw [sum_const,List.length_range]
theorem allP_mem {t : List S39} {p : S23} (h : inP t p) : l23 p ∈ allP t:=by
 unfold allP
 refine List.mem_flatMap.2 ⟨p.f0.toNat,List.mem_range.2 (by have:=h.1;omega),List.mem_map.2 ⟨p.f1.toNat,List.mem_range.2 (by have:=h.2;omega),?_⟩⟩
 unfold l23
 rw [Int.toNat_of_nonneg h.1.1,Int.toNat_of_nonneg h.2.1]
theorem Rk.keys {t : List S39} {bs : Bad} (h : Rk t bs) :(bs.map (·.1)).Nodup ∧(∀ k ∈ bs.map (·.1),k ∈ allP t)∧∀ k,k ∈ bs.map (·.1)↔hasK bs k = true:=by
 induction h with
 | nil=>exact⟨List.nodup_nil,fun k hk=>by simp at hk,fun k=>⟨fun hk=>by simp at hk,fun hk=>by cases hk⟩⟩
 | cons p c bs hr hin hno hw ih =>
  refine⟨?_,fun k hk=>?_,fun k=>?_⟩
  ·rw [List.map_cons, List.nodup_cons]
   exact⟨(fun hm=>by rw [(ih.2.2 _).1 hm] at hno;cases hno),ih.1⟩
  ·rcases List.mem_cons.1 hk with rfl | hk
   ·exact allP_mem hin
   exact ih.2.1 k hk
  rw [List.map_cons,List.mem_cons,hasK_cons,Bool.or_eq_true,ih.2.2 k,beq_iff_eq]
theorem Rk.len {t : List S39} {bs : Bad} (h : Rk t bs) : bs.length≤t.length * t.length:=by
 have:=nodup_sub_len h.keys.1 h.keys.2.1
 rwa [List.length_map,allP_len] at this
theorem latS_zero {t : List S39} {w : S87} (h : w.f0 = 0) : latS t w = w:=by
 unfold latS latM madeM
 rw [if_pos h]
theorem latS_cases (t : List S39) (w : S87) : latS t w = w ∨(latS t w).f0 = 0:=by
 unfold latS latM madeM
 repeat' split
 all_goals first | exact .inl rfl | exact .inr rfl
theorem latS_idem (t : List S39) (w : S87) : latS t (latS t w) = latS t w:=by
 rcases latS_cases t w with h | h
 ·rw [h,h]
 exact latS_zero h
section
variable {t : List S39} (hv : ∀ i : Int, 0 ≤ i → i < t.length → okN t i)
include hv
theorem parts_ok {w : S87} (h : okW t.length w) : okW t.length (latM t w).2.1∧okW t.length (latM t w).2.2.1:=by
 obtain ⟨h0,h1,h2⟩:=h
 obtain ⟨_,_,a1,a2⟩:=hv _ h1.1 h1.2
 obtain ⟨_,_,b1,b2⟩:=hv _ h2.1 h2.2
 have z : okW t.length ⟨0,0,0⟩:=⟨⟨Int.le_refl 0,by show(0 : Int)≤2;decide⟩,⟨Int.le_refl 0,by show(0 : Int) < t.length;omega⟩,⟨Int.le_refl 0,by show(0 : Int) < t.length;omega⟩⟩
 have c02 :(0 : Int)≤0 ∧(0 : Int)≤2:=by decide
 have c1 :(0 : Int)≤1 ∧(1 : Int)≤2:=by decide
 have c2 :(0 : Int)≤2 ∧(2 : Int)≤2:=by decide
 unfold latM madeM
 repeat' split
 all_goals first
  | exact⟨z,z⟩
  | exact⟨⟨c02,a1,a1⟩,⟨c02,a2,a2⟩⟩
  | exact⟨⟨h0,a1,b1⟩,⟨h0,a2,b2⟩⟩
  | exact⟨⟨c1,a1,b1⟩,⟨h0,a2,b2⟩⟩
  | exact⟨⟨c2,a1,b1⟩,⟨h0,a2,b2⟩⟩
end
/-- A node of the program's list. -/
def NodeP (t : List S39) (ns : List S87) (x : S39) (q : S87) : Prop :=
 x.f0 =(latM t q).1 ∧(((latM t q).1 = 4 ∨(latM t q).1 = 5)→∃ a b : Nat,x.f1 = a∧x.f2 = b∧ns[a]? = some (latS t (latM t q).2.1)∧ns[b]? = some (latS t (latM t q).2.2.1)) ∧(¬ ((latM t q).1 = 4 ∨(latM t q).1 = 5)→x.f1 = 0∧x.f2 = 0)
theorem get_app {α : Type} {l X : List α} {a : Nat} {x : α} (h : l[a]? = some x) :(l ++ X)[a]? = some x:=by
 have:=(List.getElem?_eq_some_iff.1 h).1
 rw [List.getElem?_append_left this,h]
theorem NodeP.app {t : List S39} {ns : List S87} {x : S39} {q : S87} (h : NodeP t ns x q) (X : List S87) : NodeP t (ns ++ X) x q:=by
 obtain ⟨h1,h2,h3⟩:=h
 exact⟨h1,fun c=>by
  obtain ⟨a,b,e1,e2,g1,g2⟩:=h2 c
  exact⟨a,b,e1,e2,get_app g1,get_app g2⟩,h3⟩
/-- What holds of a list of wishes. -/
structure WL (t : List S39) (ns : List S87) : Prop where
 dup :(ns.map l87).Nodup
 ok : ∀ q ∈ ns,okW t.length q∧latS t q = q
def allW (t : List S39) : List (List Int):=[(0 : Int),1,2].flatMap (fun a=>(allP t).map (fun q=>a :: q))
theorem allW_len (t : List S39) :(allW t).length = 3 * (t.length * t.length):=by
 unfold allW
 simp [allP_len]
 omega
theorem WL.len {t : List S39} {ns : List S87} (h : WL t ns) : ns.length≤3 * (t.length * t.length):=by
 have:=nodup_sub_len h.dup (L:=allW t) (fun x hx=>by
  obtain ⟨q,hq,rfl⟩:=List.mem_map.1 hx
  obtain ⟨⟨h0,h0'⟩,h1,h2⟩:=(h.ok q hq).1
  unfold allW
  refine List.mem_flatMap.2 ⟨q.f0,?_,List.mem_map.2 ⟨[q.f1,q.f2],allP_mem (p:=⟨q.f1,q.f2⟩) ⟨h1,h2⟩,rfl⟩⟩
  have : q.f0 = 0∨q.f0 = 1∨q.f0 = 2:=by omega
  simp [this])
 rwa [List.length_map,allW_len] at this
theorem numIx_spec {α : Type} [DecidableEq α] {l : List α} {x : α} (h : x ∈ l) : ∃ hlt : numIx l x < l.length,l[numIx l x] = x:=⟨List.idxOf_lt_length_iff.2 h,List.getElem_idxOf _⟩
theorem latNs_spec {t : List S39} {ns : List S87} {w : S87} (h : WL t ns) (hw : okW t.length w) : WL t (latNs t ns w) ∧(∃ X,latNs t ns w = ns ++ X)∧∃ a : Nat,latIx t (latNs t ns w) w =(a : Int) ∧(latNs t ns w)[a]? = some (latS t w):=by
 have hm : l87 (latS t w) ∈ (latNs t ns w).map l87:=by
  unfold latNs
  split
  ·assumption
  ·simp
 refine⟨?_,?_,numIx ((latNs t ns w).map l87) (l87 (latS t w)),rfl,?_⟩
 ·unfold latNs
  split
  ·exact h
  rename_i hn
  refine⟨?_,fun q hq=>?_⟩
  ·rw [List.map_append]
   exact List.nodup_append.2 ⟨h.dup,by simp,fun a ha b hb=>by simp at hb;subst hb;exact fun e=>hn (e ▸ ha)⟩
  rcases List.mem_append.1 hq with hq | hq
  ·exact h.ok q hq
  simp at hq
  subst hq
  exact⟨latS_ok hw,latS_idem t w⟩
 ·unfold latNs
  split
  ·exact⟨[],by simp⟩
  exact⟨_,rfl⟩
 obtain ⟨hlt,hg⟩:=numIx_spec hm
 rw [List.getElem_map] at hg
 rw [List.getElem?_eq_getElem (by simpa using hlt),l87_inj hg]
theorem rd87_nat (L : List S87) {k : Nat} (h : k < L.length) : rd_T87 L (k : Int) = L[k]:=by
 unfold rd_T87
 rw [List.getD_eq_getElem?_getD,Int.toNat_natCast,List.getElem?_eq_getElem h,Option.getD_some]
section
variable {t : List S39} (hv : ∀ i : Int, 0 ≤ i → i < t.length → okN t i) (hn : t.length ≤ 24)
include hv hn
theorem lat_ok : ∀ (d k f : Nat) (ns : List S87) (out : List S39),k + d = 3 * (t.length * t.length)→d < f→out.length = k→k≤ns.length→WL t ns →(∀ (j : Nat) (h : j < out.length) (h' : j < ns.length),NodeP t ns out[j] ns[j]) →
  ∃ N fin,latGo t f ns k out = some fin ∧(∃ X,N = ns ++ X)∧fin.length = N.length∧WL t N∧∀ (j : Nat) (h : j < fin.length) (h' : j < N.length),NodeP t N fin[j] N[j]:=by
 have hsq : t.length * t.length≤576:=Nat.mul_le_mul hn hn
 intro d
 induction d with
 | zero =>
  intro k f ns out h hf ho hk hW hN
  obtain ⟨f,rfl⟩ : ∃ g,f = g + 1:=⟨f - 1,by omega⟩
  have:=hW.len
  refine⟨ns,out,?_,⟨[],by simp⟩,by omega,hW,hN⟩
  unfold latGo
  rw [if_neg (by omega)]
 | succ d ih =>
  intro k f ns out h hf ho hk hW hN
  obtain ⟨f,rfl⟩ : ∃ g,f = g + 1:=⟨f - 1,by omega⟩
  have hlen:=hW.len
  unfold latGo
  by_cases hlt : k < ns.length
  case neg =>
   refine⟨ns,out,?_,⟨[],by simp⟩,by omega,hW,hN⟩
   rw [if_neg (by omega)]
  have e:=rd87_nat ns hlt
  have hq:=hW.ok _ (List.getElem_mem hlt)
  rw [if_pos (by omega),e,if_pos ⟨by omega,by omega,hq.1,by omega⟩]
  have hp:=parts_ok hv hq.1
  by_cases c4 :(latM t ns[k]).1 = 4 ∨(latM t ns[k]).1 = 5
  rotate_left
  ·rw [if_neg c4]
   obtain ⟨N,fin,g1,g2,g3,g4,g5⟩:=ih (k + 1) f ns (out ++ [⟨(latM t ns[k]).1,0,0⟩]) (by omega) (by omega) (by simp;omega) (by omega) hW (fun j hj hj'=>by
    have hjk : j < k∨j = k:=by simp at hj;omega
    rcases hjk with hjk | rfl
    ·rw [List.getElem_append_left (by omega)]
     exact hN j (by omega) (by omega)
    ·have ho' :(out ++ [(⟨(latM t ns[j]).1,0,0⟩ : S39)])[j] =⟨(latM t ns[j]).1,0,0⟩:=by
      rw [List.getElem_append_right (by omega)]
      simp [ho]
     rw [ho']
     exact⟨rfl,fun hh=>absurd hh c4,fun _=>⟨rfl,rfl⟩⟩)
   exact⟨N,fin,g1,g2,g3,g4,g5⟩
  rw [if_pos c4,if_pos hp]
  obtain ⟨w1,⟨X1,x1⟩,a,a1,a2⟩:=latNs_spec hW hp.1
  obtain ⟨w2,⟨X2,x2⟩,b,b1,b2⟩:=latNs_spec w1 hp.2
  have hext : latNs t (latNs t ns (latM t ns[k]).2.1) (latM t ns[k]).2.2.1 = ns ++ (X1 ++ X2):=by rw [x2,x1,List.append_assoc]
  obtain ⟨N,fin,g1,⟨X,g2⟩,g3,g4,g5⟩:=ih (k + 1) f _ (out ++ [⟨(latM t ns[k]).1,latIx t (latNs t ns (latM t ns[k]).2.1) (latM t ns[k]).2.1,latIx t (latNs t (latNs t ns (latM t ns[k]).2.1) (latM t ns[k]).2.2.1) (latM t ns[k]).2.2.1⟩]) (by omega) (by omega) (by simp;omega) (by rw [hext,List.length_append];omega) w2 (fun j hj hj'=>by
   have hjk : j < k∨j = k:=by simp at hj;omega
   have hns :(latNs t (latNs t ns (latM t ns[k]).2.1) (latM t ns[k]).2.2.1)[j] = ns[j]'(by omega):=by
    simp only [hext]
    rw [List.getElem_append_left (by omega)]
   rcases hjk with hjk | rfl
   ·rw [hns, List.getElem_append_left (by omega), hext]
    have h0:=hN j (show j < out.length by omega) (show j < ns.length by omega)
    exact h0.app _
   ·rw [hns]
    have ho' :(out ++ [(⟨(latM t ns[j]).1,latIx t (latNs t ns (latM t ns[j]).2.1) (latM t ns[j]).2.1,latIx t (latNs t (latNs t ns (latM t ns[j]).2.1) (latM t ns[j]).2.2.1) (latM t ns[j]).2.2.1⟩ : S39)])[j] =⟨(latM t ns[j]).1,latIx t (latNs t ns (latM t ns[j]).2.1) (latM t ns[j]).2.1,latIx t (latNs t (latNs t ns (latM t ns[j]).2.1) (latM t ns[j]).2.2.1) (latM t ns[j]).2.2.1⟩:=by
     rw [List.getElem_append_right (by omega)]
     simp [ho]
    rw [ho']
    exact⟨rfl,fun _=>⟨a,b,a1,b1,by rw [x2];exact get_app a2,b2⟩,fun hh=>absurd c4 hh⟩)
  refine⟨N,fin,?_,⟨(X1 ++ X2) ++ X,by rw [g2,hext,List.append_assoc]⟩,g3,g4,g5⟩
  exact g1
/-- What the program's list is. -/
theorem lat_all {w : S87} (hw : okW t.length w) : ∃ N fin,latGo t 10000 (latNs t [] w) 0 [] = some fin∧N[0]? = some (latS t w)∧fin.length = N.length∧WL t N∧∀ (j : Nat) (h : j < fin.length) (h' : j < N.length),NodeP t N fin[j] N[j]:=by
 have hsq : t.length * t.length≤576:=Nat.mul_le_mul hn hn
 have e : latNs t [] w = [latS t w]:=by unfold latNs;rw [if_neg (by simp)];rfl
 obtain ⟨w1,_,_⟩:=latNs_spec (t:=t) (ns:=[]) (w:=w) ⟨by simp,by simp⟩ hw
 obtain ⟨N,fin,g1,⟨X,g2⟩,g3,g4,g5⟩:=lat_ok hv hn (3 * (t.length * t.length)) 0 10000 (latNs t [] w) [] (by omega) (by omega) rfl (Nat.zero_le _) w1 (fun j h=>by simp at h)
 refine⟨N,fin,g1,?_,g3,g4,g5⟩
 rw [g2,e]
 rfl
end
def l89 (x : S89) : List Int:=[x.f0,x.f1,if x.f2 = true then 1 else 0]
theorem l89_inj {x y : S89} (h : l89 x = l89 y) : x = y:=by
 obtain ⟨a,b,c⟩:=x
 obtain ⟨a',b',c'⟩:=y
 unfold l89 at h
 cases c <;> cases c' <;> simp at h <;> obtain ⟨rfl,rfl⟩:=h <;> rfl
/-- What kind of node an ask is, and the asks for its parts. -/
def refM (A B : S39) (up : Bool) : Int×Option ((Int×Int×Bool) ×(Int×Int×Bool)) :=
 if A.f0 =(if up = true then 1 else 0)∨B.f0 =(if up = true then 1 else 0) then((if up = true then 1 else 0),none)
 else
  let X:=if A.f0 =(if up = true then 0 else 1) then B else A
  let Y:=if A.f0 =(if up = true then 0 else 1) then B else if B.f0 =(if up = true then 0 else 1) then A else B
  if X.f0 = Y.f0 then(if 4≤X.f0 then(X.f0,some ((X.f1,Y.f1,up ==(X.f0 == 4)),(X.f2,Y.f2,up))) else(X.f0,none))
  else((if up = true then 1 else 0),none)
def askOf (p : Int×Int×Bool) : S89:=⟨p.1,p.2.1,p.2.2⟩
def asl (Q : List S89) (p : S89) : List S89:=if l89 p ∈ Q.map l89 then Q else Q ++ [p]
def aix (Q : List S89) (p : S89) : Nat:=(Q.map l89).idxOf (l89 p)
theorem rd89_nat (L : List S89) {k : Nat} (h : k < L.length) : rd_T89 L (k : Int) = L[k]:=by
 unfold rd_T89
 rw [List.getD_eq_getElem?_getD,Int.toNat_natCast,List.getElem?_eq_getElem h,Option.getD_some]
theorem eq89 (x p : S89) :((x.f0 == p.f0) && ((x.f1 == p.f1) && (x.f2 == p.f2))) = true↔l89 x = l89 p:=by
 constructor
 ·intro h
  simp only [Bool.and_eq_true,beq_iff_eq] at h
  unfold l89
  rw [h.1,h.2.1,h.2.2]
 intro h
 rw [l89_inj h]
 simp
theorem asked_go (Q : List S89) (hn : Q.length ≤ 100000) (p : S89) : ∀ (d i : Nat), i + d = Q.length → (∀ (j : Nat) (h : j < Q.length), j < i → l89 Q[j] ≠ l89 p) → Ev (fun k => q06_asked.l0 k Q (i : Int) p.f0 p.f1 p.f2) (asl Q p, (aix (asl Q p) p : Int))
 | 0,i,h,hno=>by
  have hm : l89 p ∉ Q.map l89:=fun hm=>by
   obtain ⟨x,hx,e⟩:=List.mem_map.1 hm
   obtain ⟨j,hj,rfl⟩:=List.getElem_of_mem hx
   exact hno j hj (by omega) e
  refine Ev.step (fun k=>?_) (Ev.now _)
  simp only [q06_asked.l0]
  rw [if_neg (by omega),if_pos (by omega)]
  unfold asl aix
  rw [if_neg hm]
  have :((Q ++ [p]).map l89).idxOf (l89 p) = Q.length:=by
   rw [List.map_append,List.map_singleton,List.idxOf_append,if_neg hm]
   simp
  rw [this]
 | d + 1,i,h,hno=>by
  have hi : i < Q.length:=by omega
  have e:=rd89_nat Q hi
  have e2:=w64s (j:=i) (by omega)
  by_cases c : l89 Q[i] = l89 p
  ·refine Ev.step (fun k => ?_) (Ev.now _)
   simp only [q06_asked.l0]
   rw [if_pos (castlt hi),if_pos (cast0 _),e,if_pos ((eq89 _ _).2 c)]
   have hm : l89 p ∈ Q.map l89:=List.mem_map.2 ⟨_,List.getElem_mem hi,c⟩
   unfold asl aix
   rw [if_pos hm]
   have :(Q.map l89).idxOf (l89 p) = i:=by
    have hlt:=List.idxOf_lt_length_iff.2 hm
    have hg:=List.getElem_idxOf hlt
    rw [List.getElem_map] at hg
    have hle : ¬ (Q.map l89).idxOf (l89 p) < i:=fun hh=>hno _ (by simpa using hlt) hh hg
    have hge : ¬ i < (Q.map l89).idxOf (l89 p):=fun hh=>by
     have:=List.not_of_lt_findIdx (p:=fun x=>x == l89 p) (xs:=Q.map l89) (i:=i) hh
     rw [List.getElem_map,c] at this
     simp at this
    omega
   rw [this]
  ·have ih:=asked_go Q hn p d (i + 1) (by omega) (fun j hj hji=>by
    by_cases ei : j = i
    ·subst ei;exact c
    ·exact hno j hj (by omega))
   refine Ev.step (f:=fun k=>q06_asked.l0 k Q ((i + 1 : Nat) : Int) p.f0 p.f1 p.f2) (fun k=>?_) ih
   simp only [q06_asked.l0]
   rw [if_pos (castlt hi),if_pos (cast0 _),e,e2,if_neg (fun hh=>c ((eq89 _ _).1 hh))]
theorem asked_ev {Q : List S89} (hn : Q.length≤100000) (p : S89) : Ev (fun k=>q06_asked.f k Q p.f0 p.f1 p.f2) (asl Q p,(aix (asl Q p) p : Int)):=asked_go Q hn p Q.length 0 (by omega) (fun j _ h=>by omega)
def okA (n : Nat) (q : S89) : Prop:=(0≤q.f0∧q.f0 < n) ∧(0≤q.f1∧q.f1 < n)
def qM (t : List S39) (q : S89) : Int×Option ((Int×Int×Bool) ×(Int×Int×Bool)):=refM (nd t q.f0) (nd t q.f1) q.f2
/-- A node of the reference's list. -/
def NodeR (t : List S39) (Q : List S89) (x : S39) (q : S89) : Prop :=
 x.f0 = (qM t q).1 ∧ match (qM t q).2 with
  | none=>x.f1 = 0∧x.f2 = 0
  | some (a,b)=>∃ i j : Nat,x.f1 = i∧x.f2 = j∧Q[i]? = some (askOf a)∧Q[j]? = some (askOf b)
theorem NodeR.app {t : List S39} {Q : List S89} {x : S39} {q : S89} (h : NodeR t Q x q) (X : List S89) : NodeR t (Q ++ X) x q:=by
 unfold NodeR at h ⊢
 obtain ⟨h1,h2⟩:=h
 refine⟨h1,?_⟩
 cases hq :(qM t q).2 with
 | none=>rw [hq] at h2;exact h2
 | some ab =>
  rw [hq] at h2
  obtain ⟨i,j,e1,e2,g1,g2⟩:=h2
  exact⟨i,j,e1,e2,get_app g1,get_app g2⟩
structure AL (t : List S39) (Q : List S89) : Prop where
 dup :(Q.map l89).Nodup
 ok : ∀ q ∈ Q,okA t.length q
def allA (t : List S39) : List (List Int):=(allP t).flatMap (fun q=>[q ++ [0],q ++ [1]])
theorem sum2 : ∀ l : List (List Int), (l.map (fun q => ([q ++ [(0 : Int)], q ++ [1]] : List (List Int)).length)).sum = 2 * l.length
 | []=>rfl
 | a :: l=>by
  rw [List.map_cons,List.sum_cons,sum2 l]
  show 2 + 2 * l.length = 2 * (l.length + 1)
  omega
theorem allA_len (t : List S39) :(allA t).length = 2 * (t.length * t.length):=by
 unfold allA
 rw [List.length_flatMap,sum2,allP_len]
theorem AL.len {t : List S39} {Q : List S89} (h : AL t Q) : Q.length≤2 * (t.length * t.length):=by
 have:=nodup_sub_len h.dup (L:=allA t) (fun x hx=>by
  obtain ⟨q,hq,rfl⟩:=List.mem_map.1 hx
  obtain ⟨h1,h2⟩:=h.ok q hq
  unfold allA
  refine List.mem_flatMap.2 ⟨[q.f0,q.f1],allP_mem (p:=⟨q.f0,q.f1⟩) ⟨h1,h2⟩,?_⟩
  unfold l89
  cases q.f2 <;> simp)
 rwa [List.length_map,allA_len] at this
theorem asl_spec {t : List S39} {Q : List S89} {p : S89} (h : AL t Q) (hp : okA t.length p) : AL t (asl Q p) ∧(∃ X,asl Q p = Q ++ X) ∧(asl Q p)[aix (asl Q p) p]? = some p:=by
 have hm : l89 p ∈ (asl Q p).map l89:=by
  unfold asl
  split
  ·assumption
  ·simp
 refine⟨?_,?_,?_⟩
 ·unfold asl
  split
  ·exact h
  rename_i hn
  refine⟨?_,fun q hq=>?_⟩
  ·rw [List.map_append]
   exact List.nodup_append.2 ⟨h.dup,by simp,fun a ha b hb=>by simp at hb;subst hb;exact fun e=>hn (e ▸ ha)⟩
  rcases List.mem_append.1 hq with hq | hq
  ·exact h.ok q hq
  simp at hq
  subst hq
  exact hp
 ·unfold asl
  split
  ·exact⟨[],by simp⟩
  exact⟨_,rfl⟩
 have hlt:=List.idxOf_lt_length_iff.2 hm
 have hg:=List.getElem_idxOf hlt
 rw [List.getElem_map] at hg
 unfold aix
 rw [List.getElem?_eq_getElem (by simpa using hlt),l89_inj hg]
def nextR (m : Int×Option ((Int×Int×Bool) ×(Int×Int×Bool))) (Q : List S89) (out : List S39) : List S89×List S39 :=
 match m.2 with
 | none=>(Q,out ++ [⟨m.1,0,0⟩])
 | some (a,b)=>(asl (asl Q (askOf a)) (askOf b),out ++ [⟨m.1,(aix (asl Q (askOf a)) (askOf a) : Nat),(aix (asl (asl Q (askOf a)) (askOf b)) (askOf b) : Nat)⟩])
theorem asl_len (Q : List S89) (p : S89) :(asl Q p).length≤Q.length + 1:=by
 unfold asl
 split
 ·omega
 simp
section
variable {t : List S39} {Q : List S89} (hQ : Q.length ≤ 5000) {out : List S39} (ho : out.length ≤ 5000) {i : Nat} (hi5 : i ≤ 5000) {r : List S39}
include hQ ho hi5
theorem j3_ev (strong a b : Int) (up : Bool) (X Y : S39) (m : Int × Option ((Int × Int × Bool) × (Int × Int × Bool)))
  (hm : m =(if X.f0 = Y.f0 then(if 4≤X.f0 then(X.f0,some ((X.f1,Y.f1,up ==(X.f0 == 4)),(X.f2,Y.f2,up))) else(X.f0,none)) else(strong,none)))
  (h : Ev (fun k=>q06_Bound.l0 k t (nextR m Q out).1 (nextR m Q out).2 ((i + 1 : Nat) : Int)) r) :
  Ev (fun k=>q06_Bound.j3 k t Q out (i : Int) strong a b up X.f0 X.f1 X.f2 Y.f0 Y.f1 Y.f2) r:=by
 have e2:=w64s (j:=i) (by omega)
 have hlt : out.length < 5864062014805:=by omega
 by_cases c1 : X.f0 = Y.f0
 rotate_left
 ·rw [if_neg c1] at hm
  subst hm
  refine Ev.step (fun k=>?_) h
  simp only [q06_Bound.j3]
  rw [if_neg c1,if_pos hlt,e2]
  rfl
 rw [if_pos c1] at hm
 by_cases c2 : 4≤X.f0
 rotate_left
 ·rw [if_neg c2] at hm
  subst hm
  refine Ev.step (fun k=>?_) h
  simp only [q06_Bound.j3]
  rw [if_pos c1,if_neg (show ¬ X.f0 ≥ 4 from c2),if_pos hlt,e2]
  rfl
 rw [if_pos c2] at hm
 subst hm
 refine Ev.step (f:=fun k=>(q06_asked.f k Q X.f1 Y.f1 (up ==(X.f0 == 4))).bind fun bt644=>((q06_asked.f k bt644.1 X.f2 Y.f2 up).bind fun bt648=>(if out.length < 5864062014805 then(q06_Bound.l0 k t bt648.1 (out ++ [(⟨X.f0,bt644.2,bt648.2⟩ : S39)]) (wrap64 ((i : Int) + 1))) else(none)))) (fun k=>?_) ?_
 ·simp only [q06_Bound.j3]
  rw [if_pos c1,if_pos (show X.f0 ≥ 4 from c2)]
 refine Ev.bind (f:=fun k (z : List S89×Int)=>(q06_asked.f k z.1 X.f2 Y.f2 up).bind fun bt648=>(if out.length < 5864062014805 then(q06_Bound.l0 k t bt648.1 (out ++ [(⟨X.f0,z.2,bt648.2⟩ : S39)]) (wrap64 ((i : Int) + 1))) else(none))) (asked_ev (Q:=Q) (by omega) ⟨X.f1,Y.f1,up ==(X.f0 == 4)⟩) ?_
 refine Ev.bind (f:=fun k (z : List S89×Int)=>(if out.length < 5864062014805 then(q06_Bound.l0 k t z.1 (out ++ [(⟨X.f0,(aix (asl Q ⟨X.f1,Y.f1,up ==(X.f0 == 4)⟩) ⟨X.f1,Y.f1,up ==(X.f0 == 4)⟩ : Int),z.2⟩ : S39)]) (wrap64 ((i : Int) + 1))) else(none))) (asked_ev (Q:=asl Q ⟨X.f1,Y.f1,up ==(X.f0 == 4)⟩) (by have:=asl_len Q ⟨X.f1,Y.f1,up ==(X.f0 == 4)⟩;omega) ⟨X.f2,Y.f2,up⟩) ?_
 refine Ev.congr (fun k=>?_) h
 rw [if_pos hlt,e2]
 rfl
theorem step_ev (hlt : i < Q.length) (hok : okA t.length Q[i]) (h : Ev (fun k => q06_Bound.l0 k t (nextR (qM t Q[i]) Q out).1 (nextR (qM t Q[i]) Q out).2 ((i + 1 : Nat) : Int)) r) :
  Ev (fun k=>q06_Bound.l0 k t Q out (i : Int)) r:=by
 have e:=rd89_nat Q hlt
 have e2:=w64s (j:=i) (by omega)
 have hol : out.length < 5864062014805:=by omega
 generalize Q[i] = q at *
 obtain ⟨⟨a0,a1⟩,⟨b0,b1⟩⟩:=hok
 obtain ⟨A,hA⟩ : ∃ A,A = nd t q.f0:=⟨_,rfl⟩
 obtain ⟨B,hB⟩ : ∃ B,B = nd t q.f1:=⟨_,rfl⟩
 have key : ∀ (weak strong : Int), qM t q = (if A.f0 = strong ∨ B.f0 = strong then (strong, none) else
   (if(if A.f0 = weak then B else A).f0 =(if A.f0 = weak then B else if B.f0 = weak then A else B).f0 then(if 4 ≤(if A.f0 = weak then B else A).f0 then((if A.f0 = weak then B else A).f0,some (((if A.f0 = weak then B else A).f1,(if A.f0 = weak then B else if B.f0 = weak then A else B).f1,q.f2 ==((if A.f0 = weak then B else A).f0 == 4)),((if A.f0 = weak then B else A).f2,(if A.f0 = weak then B else if B.f0 = weak then A else B).f2,q.f2))) else((if A.f0 = weak then B else A).f0,none)) else(strong,none))) →
   Ev (fun k=>q06_Bound.j1 k t Q out (i : Int) weak strong q.f0 q.f1 q.f2 A.f0 A.f1 A.f2 B.f0 B.f1 B.f2) r:=fun weak strong hm=>by
  have yes :(A.f0 = strong∨B.f0 = strong)→Ev (fun k=>q06_Bound.j2 k t Q out (i : Int) weak strong true q.f0 q.f1 q.f2 A.f0 A.f1 A.f2 B.f0 B.f1 B.f2) r:=fun hs=>by
   rw [if_pos hs] at hm
   rw [hm] at h
   refine Ev.step (fun k=>?_) h
   simp only [q06_Bound.j2]
   rw [if_pos trivial,if_pos hol,e2]
   rfl
  by_cases s1 : A.f0 = strong
  ·refine Ev.step (fun k => ?_) (yes (.inl s1))
   simp only [q06_Bound.j1]
   rw [if_pos s1]
  by_cases s2 : B.f0 = strong
  ·refine Ev.step (fun k => ?_) (yes (.inr s2))
   simp only [q06_Bound.j1]
   rw [if_neg s1,show(B.f0 == strong) = true from beq_iff_eq.2 s2]
  rw [if_neg (fun hh=>hh.elim s1 s2)] at hm
  refine Ev.step (f:=fun k=>q06_Bound.j2 k t Q out (i : Int) weak strong false q.f0 q.f1 q.f2 A.f0 A.f1 A.f2 B.f0 B.f1 B.f2) (fun k=>?_) ?_
  ·simp only [q06_Bound.j1]
   rw [if_neg s1,show(B.f0 == strong) = false from beq_eq_false_iff_ne.2 s2]
  by_cases w1 : A.f0 = weak
  ·simp only [if_pos w1] at hm
   refine Ev.step (f:=fun k=>q06_Bound.j3 k t Q out (i : Int) strong q.f1 q.f1 q.f2 B.f0 B.f1 B.f2 B.f0 B.f1 B.f2) (fun k=>?_) (j3_ev hQ ho hi5 strong _ _ q.f2 B B _ (by rw [if_pos rfl];rw [if_pos trivial] at hm;exact hm) h)
   simp only [q06_Bound.j2]
   rw [if_neg (by decide),if_pos w1]
  ·simp only [if_neg w1] at hm
   by_cases w2 : B.f0 = weak
   ·simp only [if_pos w2] at hm
    refine Ev.step (f:=fun k=>q06_Bound.j3 k t Q out (i : Int) strong q.f0 q.f0 q.f2 A.f0 A.f1 A.f2 A.f0 A.f1 A.f2) (fun k=>?_) (j3_ev hQ ho hi5 strong _ _ q.f2 A A _ (by rw [if_pos rfl];rw [if_pos trivial] at hm;exact hm) h)
    simp only [q06_Bound.j2]
    rw [if_neg (by decide),if_neg w1,if_pos w2]
   ·simp only [if_neg w2] at hm
    refine Ev.step (f:=fun k=>q06_Bound.j3 k t Q out (i : Int) strong q.f0 q.f1 q.f2 A.f0 A.f1 A.f2 B.f0 B.f1 B.f2) (fun k=>?_) (j3_ev hQ ho hi5 strong _ _ q.f2 A B _ hm h)
    simp only [q06_Bound.j2]
    rw [if_neg (by decide),if_neg w1,if_neg w2]
 by_cases up : q.f2 = true
 ·refine Ev.step (f := fun k => q06_Bound.j1 k t Q out (i : Int) 0 1 q.f0 q.f1 q.f2 A.f0 A.f1 A.f2 B.f0 B.f1 B.f2) (fun k => ?_) (key 0 1 (by unfold qM refM; rw [← hA, ← hB, up]; rfl))
  simp only [q06_Bound.l0]
  rw [if_pos (castlt hlt),if_pos (cast0 _),e,if_pos a0,if_pos a1,if_pos b0,if_pos b1,if_pos up,hA,hB]
 have up' : q.f2 = false:=by simpa using up
 refine Ev.step (f:=fun k=>q06_Bound.j1 k t Q out (i : Int) 1 0 q.f0 q.f1 q.f2 A.f0 A.f1 A.f2 B.f0 B.f1 B.f2) (fun k=>?_) (key 1 0 (by unfold qM refM;rw [← hA,← hB,up'];rfl))
 simp only [q06_Bound.l0]
 rw [if_pos (castlt hlt),if_pos (cast0 _),e,if_pos a0,if_pos a1,if_pos b0,if_pos b1,if_neg up,hA,hB]
end
theorem qM_ok {t : List S39} (hv : ∀ i : Int,0≤i→i < t.length→okN t i) {q : S89} (h : okA t.length q) {k : Int} {a b : Int×Int×Bool} (e : qM t q =(k,some (a,b))) : okA t.length (askOf a)∧okA t.length (askOf b):=by
 obtain ⟨h1,h2⟩:=h
 obtain ⟨_,_,a1,a2⟩:=hv _ h1.1 h1.2
 obtain ⟨_,_,b1,b2⟩:=hv _ h2.1 h2.2
 unfold qM refM at e
 simp only [] at e
 repeat' split at e
 all_goals first
  |(injection e with _ e;cases e;done)
  |(injection e with _ e;injection e with e;injection e with e1 e2;subst e1;subst e2;first | exact⟨⟨a1,a1⟩,⟨a2,a2⟩⟩ | exact⟨⟨b1,b1⟩,⟨b2,b2⟩⟩ | exact⟨⟨a1,b1⟩,⟨a2,b2⟩⟩)
section
variable {t : List S39} (hv : ∀ i : Int, 0 ≤ i → i < t.length → okN t i) (hn : t.length ≤ 24)
include hv hn
theorem bnd_ok : ∀ (d k : Nat) (Q : List S89) (out : List S39),k + d = 2 * (t.length * t.length)→out.length = k→k≤Q.length→AL t Q →(∀ (j : Nat) (h : j < out.length) (h' : j < Q.length),NodeR t Q out[j] Q[j]) →
  ∃ N fin,(∀ r,Ev (fun k=>q06_Canonical.f k fin 0) r→Ev (fun k'=>q06_Bound.l0 k' t Q out (k : Int)) r) ∧(∃ X,N = Q ++ X)∧fin.length = N.length∧AL t N∧∀ (j : Nat) (h : j < fin.length) (h' : j < N.length),NodeR t N fin[j] N[j]:=by
 have hsq : t.length * t.length≤576:=Nat.mul_le_mul hn hn
 have stop : ∀ (k : Nat) (Q : List S89) (out : List S39),out.length = k→¬ k < Q.length→k≤Q.length→AL t Q →(∀ (j : Nat) (h : j < out.length) (h' : j < Q.length),NodeR t Q out[j] Q[j]) →
   ∃ N fin,(∀ r,Ev (fun k=>q06_Canonical.f k fin 0) r→Ev (fun k'=>q06_Bound.l0 k' t Q out (k : Int)) r) ∧(∃ X,N = Q ++ X)∧fin.length = N.length∧AL t N∧∀ (j : Nat) (h : j < fin.length) (h' : j < N.length),NodeR t N fin[j] N[j]:=fun k Q out ho h hk hA hN=>by
  refine⟨Q,out,fun r hr=>?_,⟨[],by simp⟩,by omega,hA,hN⟩
  refine Ev.step (f:=fun k=>q06_Canonical.f k out 0) (fun k'=>?_) hr
  simp only [q06_Bound.l0]
  rw [if_neg (by omega)]
  cases q06_Canonical.f k' out 0 <;> rfl
 intro d
 induction d with
 | zero =>
  intro k Q out h ho hk hA hN
  have:=hA.len
  exact stop k Q out ho (by omega) hk hA hN
 | succ d ih =>
  intro k Q out h ho hk hA hN
  have hlen:=hA.len
  by_cases hlt : k < Q.length
  case neg=>exact stop k Q out ho hlt hk hA hN
  have hq:=hA.ok _ (List.getElem_mem hlt)
  -- the next state
  have hnx : ∃ Q' x,nextR (qM t Q[k]) Q out =(Q',out ++ [x])∧AL t Q' ∧(∃ X,Q' = Q ++ X)∧NodeR t Q' x Q[k]:=by
   cases hm : qM t Q[k] with
   | mk kk o =>
    cases o with
    | none =>
     refine⟨Q,⟨kk,0,0⟩,rfl,hA,⟨[],by simp⟩,?_⟩
     unfold NodeR
     rw [hm]
     exact⟨rfl,rfl,rfl⟩
    | some ab =>
     obtain ⟨a,b⟩:=ab
     have hab:=qM_ok hv hq hm
     obtain ⟨w1,⟨X1,x1⟩,a2⟩:=asl_spec hA hab.1
     obtain ⟨w2,⟨X2,x2⟩,b2⟩:=asl_spec w1 hab.2
     refine⟨asl (asl Q (askOf a)) (askOf b),_,rfl,w2,⟨X1 ++ X2,by rw [x2,x1,List.append_assoc]⟩,?_⟩
     unfold NodeR
     rw [hm]
     exact⟨rfl,_,_,rfl,rfl,by rw [x2];exact get_app a2,b2⟩
  obtain ⟨Q',x,e1,w,⟨X0,x0⟩,hx⟩:=hnx
  obtain ⟨N,fin,g1,⟨X,g2⟩,g3,g4,g5⟩:=ih (k + 1) Q' (out ++ [x]) (by omega) (by simp;omega) (by rw [x0,List.length_append];omega) w (fun j hj hj'=>by
   have hjk : j < k∨j = k:=by simp at hj;omega
   have hns : Q'[j] = Q[j]'(by omega):=by
    simp only [x0]
    rw [List.getElem_append_left (by omega)]
   rcases hjk with hjk | rfl
   ·rw [hns, List.getElem_append_left (by omega), x0]
    have h0:=hN j (show j < out.length by omega) (show j < Q.length by omega)
    exact h0.app _
   ·rw [hns]
    have ho' :(out ++ [x])[j] = x:=by
     rw [List.getElem_append_right (by omega)]
     simp [ho]
    rw [ho']
    exact hx)
  refine⟨N,fin,fun r hr=>step_ev (by omega) (by omega) (by omega) hlt hq ?_,⟨X0 ++ X,by rw [g2,x0,List.append_assoc]⟩,g3,g4,g5⟩
  rw [e1]
  exact g1 r hr
end
end Go.Proofs.Ytnfmeafiaipplaa.P

namespace Go.Proofs.Ytnfmeafiaipplaa.P
open Go.RowKit Go.Proofs.Ytnfmeafiaipplaa.S Go.Proofs.Ytnfmeafiaipplaa.Lib Go.Proofs.YtnfmeafiaipplaaW.PrintWords
set_option linter.unusedVariables false
def awT : List S39:=[(⟨4,1,0⟩ : S39),(⟨2,0,0⟩ : S39),(⟨3,0,0⟩ : S39),(⟨5,4,1⟩ : S39),(⟨1,0,0⟩ : S39),(⟨5,1,4⟩ : S39)]
theorem aw_can : loops_Canonical.f 40 awT 0 = some ([⟨4,1,0⟩,⟨2,0,0⟩],0):=by kernel_rfl
theorem aw_dep3 : loops_Depth.f 40 awT 3 = some (1,0):=by kernel_rfl
theorem aw_dep0 : loops_Depth.f 40 awT 0 = some (0,6):=by kernel_rfl
theorem aw_sub12 :(loops_Sub.f 40 awT 1 2).map (fun x=>(x.1,x.2.2)) = some (false,ByteArray.empty,0):=by kernel_rfl
theorem aw_sub35 :(loops_Sub.f 40 awT 3 5).map (fun x=>(x.1,x.2.2.2)) = some (true,0):=by kernel_rfl
theorem aw_types : w06_types.f 40 [(⟨4,1,0⟩ : S39),⟨2,0,0⟩] [(⟨4,1,0⟩ : S39),⟨2,0,0⟩] = some true:=by kernel_rfl
theorem aw_empty : ByteArray.empty.toList =([] : List UInt8):=by
 unfold ByteArray.toList ByteArray.toList.loop
 rfl
theorem awake_40 : w06_awake.f 40 = some true:=by
 obtain ⟨x,hx,ex⟩:=Option.map_eq_some_iff.1 aw_sub12
 obtain ⟨y,hy,ey⟩:=Option.map_eq_some_iff.1 aw_sub35
 obtain ⟨x1,x2⟩:=Prod.mk.inj ex
 obtain ⟨x3,x4⟩:=Prod.mk.inj x2
 obtain ⟨y1,y2⟩:=Prod.mk.inj ey
 unfold w06_awake.f
 rw [Option.bind_some]
 show((loops_Sub.f 40 awT 1 2).bind fun bt170=>((loops_Sub.f 40 awT 3 5).bind fun bt177=>((loops_Canonical.f 40 awT 0).bind fun bt184=>((loops_Depth.f 40 awT 3).bind fun bt188=>((loops_Depth.f 40 awT 0).bind fun bt190=>_))))) = some true
 rw [hx,hy,aw_can,aw_dep3,aw_dep0]
 simp only [Option.bind_some]
 rw [if_pos x4,if_neg (by rw [x1];decide),if_pos (by rw [x3];exact aw_empty),if_pos y2,if_pos y1]
 simp only [if_true,aw_types,Option.bind_some]
 rfl
theorem awake_ev : Ev (fun k=>w06_awake.f k) true:=Ev.of (fun k=>w06_awake.mono k) awake_40
end Go.Proofs.Ytnfmeafiaipplaa.P

namespace Go.Proofs.Ytnfmeafiaipplaa.P
open Go.RowKit Go.Proofs.Ytnfmeafiaipplaa.S Go.Proofs.Ytnfmeafiaipplaa.Lib Go.Proofs.YtnfmeafiaipplaaW.PrintWords
set_option linter.unusedVariables false
set_option linter.unusedSectionVars false
def wk (m : Bool) : Int:=if m = true then 0 else 1
theorem wk_lt (m : Bool) : 0≤wk m∧wk m < 2:=by cases m <;> decide
/-- W: the bound (up or down) of two nodes of x stands at a node of u. -/
def BdS (x u : List S39) (W : Bool→Int→Int→Int→Prop) (m : Bool) (i j p : Int) : Prop :=
 ((nd x i).f0 = wk m∧Same u p x j) ∨((nd x j).f0 = wk m∧Same u p x i) ∨
 (((nd x i).f0≠wk m ∧(nd x j).f0≠wk m) ∧(nd x i).f0 =(nd x j).f0 ∧(nd u p).f0 =(nd x i).f0 ∧(4 ≤(nd x i).f0→W (m ==((nd x i).f0 == 4)) (nd x i).f1 (nd x j).f1 (nd u p).f1∧W m (nd x i).f2 (nd x j).f2 (nd u p).f2)) ∨
 (((nd x i).f0≠wk m ∧(nd x j).f0≠wk m) ∧(nd x i).f0 ≠(nd x j).f0 ∧(nd u p).f0 = wk (!m))
def Bd (x u : List S39) (W : Bool→Int→Int→Int→Prop) : Prop:=∀ m i j p,W m i j p→BdS x u W m i j p
theorem BdS.mono {x u : List S39} {W W' : Bool→Int→Int→Int→Prop} {m : Bool} {i j p : Int} (h : BdS x u W m i j p) (hW : ∀ m i j p,W m i j p→W' m i j p) : BdS x u W' m i j p:=by
 rcases h with h | h |⟨h1,h2,h3,h4⟩ | h
 ·exact .inl h
 ·exact .inr (.inl h)
 ·exact .inr (.inr (.inl ⟨h1,h2,h3,fun c=>⟨hW _ _ _ _ (h4 c).1,hW _ _ _ _ (h4 c).2⟩⟩))
 exact .inr (.inr (.inr h))
theorem same_leaf {t t' : List S39} {i j : Int} (h :(nd t i).f0 =(nd t' j).f0) (h4 :(nd t i).f0 < 4) : Same t i t' j:=same_iff.2 ⟨h,fun c=>by omega⟩
/-- Two that stand for the same bounds are the same. -/
theorem Bd.same {x u u' : List S39} {W V : Bool→Int→Int→Int→Prop} (h : Bd x u W) (h' : Bd x u' V) {m : Bool} {i j p p' : Int} (hw : W m i j p) (hv : V m i j p') : Same u p u' p':=by
 refine same_closed (t:=u) (t':=u') (fun p p'=>(∃ m i j,W m i j p∧V m i j p')∨Same u p u' p') ?_ p p' (.inl ⟨m,i,j,hw,hv⟩)
 have fin : ∀ p p',Same u p u' p' →(nd u p).f0 =(nd u' p').f0 ∧(4 ≤(nd u p).f0 →((∃ m i j,W m i j (nd u p).f1∧V m i j (nd u' p').f1)∨Same u (nd u p).f1 u' (nd u' p').f1) ∧((∃ m i j,W m i j (nd u p).f2∧V m i j (nd u' p').f2)∨Same u (nd u p).f2 u' (nd u' p').f2)):=fun p p' hs=>by
  obtain ⟨e,hp⟩:=same_iff.1 hs
  exact⟨e,fun c=>⟨.inr (hp c).1,.inr (hp c).2⟩⟩
 rintro p p' (⟨m,i,j,hw,hv⟩ | hs)
 ·have hm := wk_lt m
  have hW:=h m i j p hw
  have hV:=h' m i j p' hv
  rcases hW with ⟨a1,a2⟩ |⟨a1,a2⟩ |⟨a1,a2,a3,a4⟩ |⟨a1,a2,a3⟩ <;> rcases hV with ⟨b1,b2⟩ |⟨b1,b2⟩ |⟨b1,b2,b3,b4⟩ |⟨b1,b2,b3⟩
  ·exact fin _ _ (a2.trans b2.symm)
  ·exact fin _ _ ((a2.trans (same_leaf (b1.trans a1.symm) (by omega))).trans b2.symm)
  ·exact absurd a1 b1.1
  ·exact absurd a1 b1.1
  ·exact fin _ _ ((a2.trans (same_leaf (a1.symm ▸ b1) (by omega))).trans b2.symm)
  ·exact fin _ _ (a2.trans b2.symm)
  ·exact absurd a1 b1.2
  ·exact absurd a1 b1.2
  ·exact absurd b1 a1.1
  ·exact absurd b1 a1.2
  ·refine ⟨a3.trans b3.symm, fun c => ?_⟩
   rw [a3] at c
   exact⟨.inl ⟨_,_,_,(a4 c).1,(b4 c).1⟩,.inl ⟨_,_,_,(a4 c).2,(b4 c).2⟩⟩
  ·exact absurd a2 b2
  ·exact absurd b1 a1.1
  ·exact absurd b1 a1.2
  ·exact absurd b2 a2
  exact⟨a3.trans b3.symm,fun c=>by rw [a3] at c;have:=wk_lt (!m);omega⟩
 exact fin p p' hs
def wOf (m : Bool) (i j : Int) : S87:=⟨if m = true then 1 else 2,i,j⟩
section
variable {t : List S39} (hv : ∀ i : Int, 0 ≤ i → i < t.length → okN t i) {N : List S87} {fin : List S39} (hl : fin.length = N.length) (hW : WL t N) (hN : ∀ (j : Nat) (h : j < fin.length) (h' : j < N.length), NodeP t N fin[j] N[j])
include hv hl hW hN
theorem prog_at {q : Nat} {w : S87} (h : N[q]? = some w) : q < fin.length∧NodeP t N (nd fin q) w∧okW t.length w:=by
 obtain ⟨h1,h2⟩:=List.getElem?_eq_some_iff.1 h
 have h3 : q < fin.length:=by omega
 refine⟨h3,?_,h2 ▸ (hW.ok _ (List.getElem_mem h1)).1⟩
 rw [nd_nat fin h3,← h2]
 exact hN q h3 h1
theorem prog_zero {q : Nat} {a : Int} (h : N[q]? = some ⟨0,a,a⟩) : Same fin q t a:=by
 refine same_closed (t:=fin) (t':=t) (fun p a=>∃ q : Nat,p = q∧N[q]? = some ⟨0,a,a⟩) ?_ _ _ ⟨q,rfl,h⟩
 rintro p a ⟨q,rfl,h⟩
 obtain ⟨h1,⟨n1,n2,n3⟩,_,⟨a0,a1⟩,_⟩:=prog_at hv hl hW hN h
 have e : latM t ⟨0,a,a⟩ =((nd t a).f0,⟨0,(nd t a).f1,(nd t a).f1⟩,⟨0,(nd t a).f2,(nd t a).f2⟩,⟨0,a,a⟩):=by
  unfold latM madeM
  rw [if_pos rfl]
 rw [e] at n1 n2
 refine⟨n1,fun c=>?_⟩
 obtain ⟨⟨k0,k1⟩,_⟩:=hv a a0 a1
 have k :(nd t a).f0 = 4 ∨(nd t a).f0 = 5:=by rw [n1] at c;simp only at c;omega
 obtain ⟨b,b',e1,e2,g1,g2⟩:=n2 k
 rw [latS_zero rfl] at g1 g2
 exact⟨⟨b,e1,g1⟩,⟨b',e2,g2⟩⟩
def Wp (t : List S39) (N : List S87) (m : Bool) (i j p : Int) : Prop:=∃ q : Nat,p = q∧okW t.length (wOf m i j)∧N[q]? = some (latS t (wOf m i j))
theorem prog_bd : Bd t fin (Wp t N):=by
 rintro m i j p ⟨q,rfl,hw,h⟩
 obtain ⟨h1,⟨n1,n2,n3⟩,hk⟩:=prog_at hv hl hW hN h
 have hp:=parts_ok hv hw
 obtain ⟨_,⟨i0,i1⟩,⟨j0,j1⟩⟩:=hw
 have ki:=(hv i i0 i1).1
 have e0 : ¬ (wOf m i j).f0 = 0:=by unfold wOf;cases m <;> simp
 have ew :(if(wOf m i j).f0 = 2 then(1 : Int) else 0) = wk m:=by unfold wOf wk;cases m <;> simp
 have es :(if(wOf m i j).f0 = 2 then(0 : Int) else 1) = wk (!m):=by unfold wOf wk;cases m <;> simp
 have eo :(if(wOf m i j).f0 = 2 then(1 : Int) else 2) =(wOf (!m) i j).f0:=by unfold wOf;cases m <;> simp
 by_cases c1 :(nd t i).f0 = wk m
 ·have : latS t (wOf m i j) =⟨0,j,j⟩:=by
   unfold latS latM madeM
   rw [if_neg e0,if_pos (show(rd_T39 t (wOf m i j).f1).f0 = _ from c1.trans ew.symm)]
   rfl
  rw [this] at h
  exact .inl ⟨c1,prog_zero hv hl hW hN h⟩
 have d1 : ¬ (rd_T39 t (wOf m i j).f1).f0 =(if(wOf m i j).f0 = 2 then(1 : Int) else 0):=fun hh=>c1 ((show(nd t i).f0 = _ from hh).trans ew)
 by_cases c2 :(nd t j).f0 = wk m
 ·have : latS t (wOf m i j) =⟨0,i,i⟩:=by
   unfold latS latM madeM
   rw [if_neg e0,if_neg d1,if_pos (show(rd_T39 t (wOf m i j).f2).f0 = _ from c2.trans ew.symm)]
   rfl
  rw [this] at h
  exact .inr (.inl ⟨c2,prog_zero hv hl hW hN h⟩)
 have d2 : ¬ (rd_T39 t (wOf m i j).f2).f0 =(if(wOf m i j).f0 = 2 then(1 : Int) else 0):=fun hh=>c2 ((show(nd t j).f0 = _ from hh).trans ew)
 by_cases c3 :(nd t i).f0 =(nd t j).f0
 rotate_left
 ·refine .inr (.inr (.inr ⟨⟨c1, c2⟩, c3, ?_⟩))
  have e : latM t (wOf m i j) =(wk (!m),⟨0,0,0⟩,⟨0,0,0⟩,wOf m i j):=by
   unfold latM madeM
   rw [if_neg e0,if_neg d1,if_neg d2,if_neg (show ¬ (rd_T39 t (wOf m i j).f1).f0 =(rd_T39 t (wOf m i j).f2).f0 from c3),es]
  have es0 : latS t (wOf m i j) = wOf m i j:=by unfold latS;rw [e]
  rw [es0,e] at n1
  exact n1
 have es0 : latS t (wOf m i j) = wOf m i j:=by
  unfold latS latM madeM
  rw [if_neg e0,if_neg d1,if_neg d2,if_pos (show(rd_T39 t (wOf m i j).f1).f0 =(rd_T39 t (wOf m i j).f2).f0 from c3)]
  split <;> rfl
 rw [es0] at n1 n2 n3
 have e : latM t (wOf m i j) =((nd t i).f0,wOf (m ==((nd t i).f0 == 4)) (nd t i).f1 (nd t j).f1,wOf m (nd t i).f2 (nd t j).f2,wOf m i j):=by
  unfold latM madeM
  rw [if_neg e0,if_neg d1,if_neg d2,if_pos (show(rd_T39 t (wOf m i j).f1).f0 =(rd_T39 t (wOf m i j).f2).f0 from c3)]
  show(if(nd t i).f0 = 4 then _ else _) = _
  by_cases c4 :(nd t i).f0 = 4
  ·rw [if_pos c4, show ((nd t i).f0 == 4) = true from beq_iff_eq.2 c4]
   cases m <;> rfl
  ·rw [if_neg c4, eo, show ((nd t i).f0 == 4) = false from beq_eq_false_iff_ne.2 c4]
   cases m <;> rfl
 rw [e] at n1 n2 n3 hp
 refine .inr (.inr (.inl ⟨⟨c1,c2⟩,c3,n1,fun c=>?_⟩))
 have k :(nd t i).f0 = 4 ∨(nd t i).f0 = 5:=by omega
 obtain ⟨b,b',e1,e2,g1,g2⟩:=n2 k
 exact⟨⟨b,e1,hp.1,g1⟩,⟨b',e2,hp.2,g2⟩⟩
theorem prog_ty (hpos : 0 < fin.length) : ∀ i : Int,0≤i→i < fin.length→okN fin i:=fun i i0 i1=>by
 obtain ⟨q,rfl⟩ : ∃ q : Nat,i = q:=⟨i.toNat,by omega⟩
 have h1 : q < N.length:=by omega
 have hq:=List.getElem?_eq_getElem h1
 obtain ⟨_,⟨n1,n2,n3⟩,⟨⟨f0,f2⟩,⟨a0,a1⟩,⟨b0,b1⟩⟩⟩:=prog_at hv hl hW hN hq
 have hr : 0 ≤(latM t N[q]).1 ∧(latM t N[q]).1≤5:=by
  have ka:=(hv _ a0 a1).1
  unfold latM madeM
  repeat' split
  all_goals first | exact ka |(show(0 : Int)≤0 ∧(0 : Int)≤5;decide) |(show(0 : Int)≤1 ∧(1 : Int)≤5;decide)
 unfold okN
 by_cases c :(latM t N[q]).1 = 4 ∨(latM t N[q]).1 = 5
 rotate_left
 ·obtain ⟨z1, z2⟩ := n3 c
  rw [n1,z1,z2]
  refine⟨hr,fun h4=>⟨rfl,rfl⟩,⟨by omega,by omega⟩,⟨by omega,by omega⟩⟩
 obtain ⟨b,b',e1,e2,g1,g2⟩:=n2 c
 have l1:=(prog_at hv hl hW hN g1).1
 have l2:=(prog_at hv hl hW hN g2).1
 rw [n1,e1,e2]
 refine⟨hr,fun h4=>by omega,⟨by omega,by omega⟩,⟨by omega,by omega⟩⟩
end
def refW (A B : S39) (m : Bool) : Int×Option ((Int×Int×Bool) ×(Int×Int×Bool)) :=
 if A.f0 = wk (!m)∨B.f0 = wk (!m) then(wk (!m),none)
 else
  let X:=if A.f0 = wk m then B else A
  let Y:=if A.f0 = wk m then B else if B.f0 = wk m then A else B
  if X.f0 = Y.f0 then(if 4≤X.f0 then(X.f0,some ((X.f1,Y.f1,m ==(X.f0 == 4)),(X.f2,Y.f2,m))) else(X.f0,none))
  else(wk (!m),none)
theorem qM_eq (t : List S39) (i j : Int) (m : Bool) : qM t ⟨i,j,m⟩ = refW (nd t i) (nd t j) m:=by
 cases m <;> rfl
section
variable {t : List S39} (hv : ∀ i : Int, 0 ≤ i → i < t.length → okN t i) {N : List S89} {fin : List S39} (hl : fin.length = N.length) (hA : AL t N) (hN : ∀ (j : Nat) (h : j < fin.length) (h' : j < N.length), NodeR t N fin[j] N[j])
include hv hl hA hN
theorem ref_at {q : Nat} {w : S89} (h : N[q]? = some w) : q < fin.length∧NodeR t N (nd fin q) w∧okA t.length w:=by
 obtain ⟨h1,h2⟩:=List.getElem?_eq_some_iff.1 h
 have h3 : q < fin.length:=by omega
 refine⟨h3,?_,h2 ▸ hA.ok _ (List.getElem_mem h1)⟩
 rw [nd_nat fin h3,← h2]
 exact hN q h3 h1
def Vr (N : List S89) (m : Bool) (i j p : Int) : Prop:=∃ q : Nat,p = q∧N[q]? = some ⟨i,j,m⟩
theorem ref_in {q : S89} (hq : okA t.length q) :(0 ≤(nd t q.f0).f0 ∧(nd t q.f0).f0≤5) ∧(0 ≤(nd t q.f1).f0 ∧(nd t q.f1).f0≤5):=⟨(hv _ hq.1.1 hq.1.2).1,(hv _ hq.2.1 hq.2.2).1⟩
theorem ref_zero {m : Bool} {q : Nat} {a : Int} (h : N[q]? = some ⟨a,a,m⟩) : Same fin q t a:=by
 refine same_closed (t:=fin) (t':=t) (fun p a=>∃ (m : Bool) (q : Nat),p = q∧N[q]? = some ⟨a,a,m⟩) ?_ _ _ ⟨m,q,rfl,h⟩
 rintro p a ⟨m,q,rfl,h⟩
 obtain ⟨h1,⟨n1,n2⟩,⟨a0,a1⟩,_⟩:=ref_at hv hl hA hN h
 by_cases c :(nd t a).f0 = wk (!m)
 ·have e : qM t ⟨a,a,m⟩ =(wk (!m),none):=by
   rw [qM_eq]
   unfold refW
   rw [if_pos (.inl c)]
  rw [e] at n1
  exact⟨n1.trans c.symm,fun h4=>by rw [n1] at h4;have:=wk_lt (!m);simp only at h4;omega⟩
 have e : qM t ⟨a,a,m⟩ =(if 4 ≤(nd t a).f0 then((nd t a).f0,some (((nd t a).f1,(nd t a).f1,m ==((nd t a).f0 == 4)),((nd t a).f2,(nd t a).f2,m))) else((nd t a).f0,none)):=by
  rw [qM_eq]
  unfold refW
  have c' : ¬ ((nd t a).f0 = wk (!m) ∨(nd t a).f0 = wk (!m)):=fun hh=>hh.elim c c
  by_cases cw :(nd t a).f0 = wk m
  ·simp only [if_neg c',if_pos cw,if_true]
  ·simp only [if_neg c',if_neg cw,if_true]
 by_cases c4 : 4 ≤(nd t a).f0
 rotate_left
 ·rw [if_neg c4] at e
  rw [e] at n1
  exact⟨n1,fun h4=>absurd (by rw [n1] at h4;exact h4) c4⟩
 rw [if_pos c4] at e
 rw [e] at n1 n2
 obtain ⟨b,b',e1,e2,g1,g2⟩:=n2
 exact⟨n1,fun _=>⟨⟨_,b,e1,g1⟩,⟨_,b',e2,g2⟩⟩⟩
theorem ref_bd : Bd t fin (Vr N):=by
 rintro m i j p ⟨q,rfl,h⟩
 obtain ⟨h1,⟨n1,n2⟩,hk⟩:=ref_at hv hl hA hN h
 have hws : wk (!m)≠wk m:=by cases m <;> decide
 have hm:=wk_lt (!m)
 -- where one of the two is the strong one
 by_cases s :(nd t i).f0 = wk (!m) ∨(nd t j).f0 = wk (!m)
 ·have e : qM t ⟨i,j,m⟩ =(wk (!m),none):=by
   rw [qM_eq]
   unfold refW
   rw [if_pos s]
  rw [e] at n1
  by_cases c1 :(nd t i).f0 = wk m
  ·have sj : (nd t j).f0 = wk (!m) := s.resolve_left (fun e => hws (e.symm.trans c1))
   exact .inl ⟨c1,same_leaf (n1.trans sj.symm) (by rw [n1];simp only;omega)⟩
  by_cases c2 :(nd t j).f0 = wk m
  ·have si : (nd t i).f0 = wk (!m) := s.resolve_right (fun e => hws (e.symm.trans c2))
   exact .inr (.inl ⟨c2,same_leaf (n1.trans si.symm) (by rw [n1];simp only;omega)⟩)
  by_cases c3 :(nd t i).f0 =(nd t j).f0
  rotate_left
  ·exact .inr (.inr (.inr ⟨⟨c1,c2⟩,c3,n1⟩))
  have si :(nd t i).f0 = wk (!m):=s.elim id (fun e=>c3.trans e)
  exact .inr (.inr (.inl ⟨⟨c1,c2⟩,c3,n1.trans si.symm,fun h4=>by omega⟩))
 have body : ∀ a : Int,∀ o,qM t ⟨i,j,m⟩ = o→o =(if 4 ≤(nd t a).f0 then((nd t a).f0,some (((nd t a).f1,(nd t a).f1,m ==((nd t a).f0 == 4)),((nd t a).f2,(nd t a).f2,m))) else((nd t a).f0,none))→Same fin q t a:=fun a o ho e=>by
  rw [← ho] at e
  refine same_iff.2 ?_
  by_cases c4 : 4 ≤(nd t a).f0
  ·rw [if_pos c4] at e
   rw [e] at n1 n2
   obtain ⟨b,b',e1,e2,g1,g2⟩:=n2
   refine⟨n1,fun _=>?_⟩
   rw [e1,e2]
   exact⟨ref_zero hv hl hA hN g1,ref_zero hv hl hA hN g2⟩
  ·rw [if_neg c4] at e
   rw [e] at n1
   exact⟨n1,fun h4=>absurd (by rw [n1] at h4;exact h4) c4⟩
 by_cases c1 :(nd t i).f0 = wk m
 ·refine .inl ⟨c1, body j _ rfl ?_⟩
  rw [qM_eq]
  unfold refW
  simp only [if_neg s,if_pos c1,if_true]
 by_cases c2 :(nd t j).f0 = wk m
 ·refine .inr (.inl ⟨c2, body i _ rfl ?_⟩)
  rw [qM_eq]
  unfold refW
  simp only [if_neg s,if_neg c1,if_pos c2,if_true]
 by_cases c3 :(nd t i).f0 =(nd t j).f0
 rotate_left
 ·refine .inr (.inr (.inr ⟨⟨c1, c2⟩, c3, ?_⟩))
  have e : qM t ⟨i,j,m⟩ =(wk (!m),none):=by
   rw [qM_eq]
   unfold refW
   simp only [if_neg s,if_neg c1,if_neg c2,if_neg c3]
  rw [e] at n1
  exact n1
 have e : qM t ⟨i,j,m⟩ =(if 4 ≤(nd t i).f0 then((nd t i).f0,some (((nd t i).f1,(nd t j).f1,m ==((nd t i).f0 == 4)),((nd t i).f2,(nd t j).f2,m))) else((nd t i).f0,none)):=by
  rw [qM_eq]
  unfold refW
  simp only [if_neg s,if_neg c1,if_neg c2,if_pos c3]
 refine .inr (.inr (.inl ⟨⟨c1,c2⟩,c3,?_,fun c4=>?_⟩))
 ·rw [e] at n1
  split at n1 <;> exact n1
 rw [if_pos c4] at e
 rw [e] at n2
 obtain ⟨b,b',e1,e2,g1,g2⟩:=n2
 exact⟨⟨b,e1,g1⟩,⟨b',e2,g2⟩⟩
theorem ref_ty (hpos : 0 < fin.length) : ∀ i : Int,0≤i→i < fin.length→okN fin i:=fun i i0 i1=>by
 obtain ⟨q,rfl⟩ : ∃ q : Nat,i = q:=⟨i.toNat,by omega⟩
 have h1 : q < N.length:=by omega
 have hq:=List.getElem?_eq_getElem h1
 obtain ⟨_,⟨n1,n2⟩,hk⟩:=ref_at hv hl hA hN hq
 obtain ⟨ka,kb⟩:=ref_in hv hl hA hN hk
 have hr :(0 ≤(qM t N[q]).1 ∧(qM t N[q]).1≤5) ∧(∀ a b,(qM t N[q]).2 = some (a,b)→4 ≤(qM t N[q]).1):=by
  unfold qM refM
  simp only []
  repeat' split
  all_goals refine⟨?_,?_⟩
  all_goals first
   |(intro a b hab;cases hab;done)
   | exact ka | exact kb
   |(show(0 : Int)≤0 ∧(0 : Int)≤5;decide) |(show(0 : Int)≤1 ∧(1 : Int)≤5;decide)
   |(intro a b hab;assumption)
 unfold okN
 cases hm :(qM t N[q]).2 with
 | some ab =>
  obtain ⟨a,b⟩:=ab
  rw [hm] at n2
  obtain ⟨b,b',e1,e2,g1,g2⟩:=n2
  have l1:=(ref_at hv hl hA hN g1).1
  have l2:=(ref_at hv hl hA hN g2).1
  have h4:=hr.2 _ _ hm
  rw [n1,e1,e2]
  refine⟨hr.1,fun h4=>by omega,⟨by omega,by omega⟩,⟨by omega,by omega⟩⟩
 | none =>
  rw [hm] at n2
  obtain ⟨z1,z2⟩:=n2
  rw [n1,z1,z2]
  refine⟨hr.1,fun h4=>⟨rfl,rfl⟩,⟨by omega,by omega⟩,⟨by omega,by omega⟩⟩
end
/-- r is the canonical list of a list whose first node stands for the bound. -/
def BdL (t : List S39) (m : Bool) (i j : Int) (r : List S39) : Prop :=
 ∃ fin : List S39,(∀ x : Int,0≤x→x < fin.length→okN fin x)∧0 < fin.length∧fin.length≤5000∧canS fin 10000 [0] 0 [] = some r∧∃ W,Bd t fin W∧W m i j 0
theorem apart_one {t : List S39} {i : Int} (i0 : 0≤i) (i1 : i < t.length) : Apart t [i]:=⟨fun x hx=>by simp at hx;subst hx;exact⟨i0,i1⟩,by simp⟩
theorem can_uniq {t t' : List S39} (hv : ∀ i : Int,0≤i→i < t.length→okN t i) (hn : t.length≤5000) (hv' : ∀ i : Int,0≤i→i < t'.length→okN t' i) (hn' : t'.length≤5000) {i j : Int} (i0 : 0≤i) (i1 : i < t.length) (j0 : 0≤j) (j1 : j < t'.length) (hs : Same t i t' j) {r r' : List S39} (h : canS t 10000 [i] 0 [] = some r) (h' : canS t' 10000 [j] 0 [] = some r') : r = r':=by
 have:=can_alike hv hn hv' hn' 10000 [i] [j] 0 [] (apart_one i0 i1) (apart_one j0 j1) ⟨rfl,fun k hk hk'=>by
  have : k = 0:=by simp at hk;omega
  subst this
  exact hs⟩
 rw [h,h'] at this
 exact Option.some.inj this
theorem BdL.uniq {t : List S39} {m : Bool} {i j : Int} {r r' : List S39} (h : BdL t m i j r) (h' : BdL t m i j r') : r = r':=by
 obtain ⟨f,v,p,l,c,W,w1,w2⟩:=h
 obtain ⟨f',v',p',l',c',W',w1',w2'⟩:=h'
 exact can_uniq v l v' l' (Int.le_refl 0) (by omega) (Int.le_refl 0) (by omega) (w1.same w1' w2 w2') c c'
theorem BdL.len {t : List S39} {m : Bool} {i j : Int} {r : List S39} (h : BdL t m i j r) : r.length≤5000:=by
 obtain ⟨f,v,p,l,c,W,w1,w2⟩:=h
 have:=canS_len v l 10000 [0] 0 [] r (apart_one (Int.le_refl 0) (by omega)) rfl (by simp) c
 omega
section
variable {t : List S39} (ht : tyB t 24 = true) {i j : Int} (i0 : 0 ≤ i) (i1 : i < t.length) (j0 : 0 ≤ j) (j1 : j < t.length)
include ht i0 i1 j0 j1
theorem wOf_ok (m : Bool) : okW t.length (wOf m i j):=by
 refine⟨?_,⟨i0,i1⟩,⟨j0,j1⟩⟩
 cases m <;>(unfold wOf;simp)
theorem lattice_ev (m : Bool) : ∃ r,Ev (fun k=>loops_lattice.f k t (if m = true then 1 else 2) i j) r∧BdL t m i j r∧r.length≤3 * (t.length * t.length):=by
 obtain ⟨⟨h1,hv⟩,hl24⟩:=tyB_iff.1 ht
 have hn : t.length≤24:=by omega
 have hsq : t.length * t.length≤576:=Nat.mul_le_mul hn hn
 have hw:=wOf_ok ht i0 i1 j0 j1 m
 obtain ⟨N,fin,g1,g2,g3,g4,g5⟩:=lat_all hv hn hw
 have hlen:=g4.len
 have hpos : 0 < fin.length:=by
  have:=(List.getElem?_eq_some_iff.1 g2).1
  omega
 have v:=prog_ty hv g3 g4 g5 hpos
 obtain ⟨r,r1,r2,r3⟩:=canon_both v (by omega) (Int.le_refl 0) (show(0 : Int) < fin.length by omega)
 have hr:=canS_len v (by omega) 10000 [0] 0 [] r (apart_one (Int.le_refl 0) (by omega)) rfl (by simp) r1
 refine⟨r,?_,⟨fin,v,hpos,by omega,r1,Wp t N,prog_bd hv g3 g4 g5,0,rfl,hw,g2⟩,by omega⟩
 refine Ev.congr (fun k=>?_) r2
 unfold loops_lattice.f
 rw [if_pos ⟨by omega,hw⟩]
 have : latGo t 10000 (latNs t [] ⟨(if m = true then 1 else 2),i,j⟩) 0 [] = some fin:=g1
 rw [this]
 rfl
theorem Bound_ev (m : Bool) : ∃ r,Ev (fun k=>q06_Bound.f k t i j m) r∧BdL t m i j r:=by
 obtain ⟨⟨h1,hv⟩,hl24⟩:=tyB_iff.1 ht
 have hn : t.length≤24:=by omega
 have hsq : t.length * t.length≤576:=Nat.mul_le_mul hn hn
 have hA : AL t [⟨i,j,m⟩]:=⟨by simp,fun q hq=>by simp at hq;subst hq;exact⟨⟨i0,i1⟩,⟨j0,j1⟩⟩⟩
 obtain ⟨N,fin,g1,⟨X,g2⟩,g3,g4,g5⟩:=bnd_ok hv hn (2 * (t.length * t.length)) 0 [⟨i,j,m⟩] [] (by omega) rfl (by simp) hA (fun j h=>by simp at h)
 have hlen:=g4.len
 have hpos : 0 < fin.length:=by rw [g3,g2];simp
 have v:=ref_ty hv g3 g4 g5 hpos
 obtain ⟨r,r1,r2,r3⟩:=canon_both v (by omega) (Int.le_refl 0) (show(0 : Int) < fin.length by omega)
 refine⟨r,g1 r r3,fin,v,hpos,by omega,r1,Vr N,ref_bd hv g3 g4 g5,0,rfl,?_⟩
 rw [g2]
 rfl
theorem Join_ev : ∃ r,Ev (fun k=>loops_Join.f k t i j) (r,0)∧BdL t true i j r∧r.length≤3 * (t.length * t.length):=by
 obtain ⟨⟨h1,hv⟩,hl24⟩:=tyB_iff.1 ht
 obtain ⟨r,r1,r2⟩:=lattice_ev ht i0 i1 j0 j1 true
 refine⟨r,?_,r2⟩
 have hA:=areNodes_ev (t:=t) (by omega) [i,j]
 rw [ht,inB_two.2 ⟨⟨i0,i1⟩,⟨j0,j1⟩⟩] at hA
 unfold loops_Join.f
 refine Ev.bind (f:=fun k (z : Bool)=>(if z = true then((loops_lattice.f k t 1 i j).bind fun t609=>(some (t609,0))) else(some (([] : List (S39)),2)))) hA ?_
 refine Ev.congr (f:=fun k=>(loops_lattice.f k t 1 i j).bind fun t609=>(some (t609,(0 : Int)))) (fun k=>?_) ?_
 ·rw [if_pos (show(true && true) = true from rfl)]
 exact Ev.bind (g:=fun k=>loops_lattice.f k t 1 i j) (f:=fun k (z : List S39)=>some (z,(0 : Int))) r1 (Ev.now _)
theorem Meet_ev : ∃ r,Ev (fun k=>loops_Meet.f k t i j) (r,0)∧BdL t false i j r∧r.length≤3 * (t.length * t.length):=by
 obtain ⟨⟨h1,hv⟩,hl24⟩:=tyB_iff.1 ht
 obtain ⟨r,r1,r2⟩:=lattice_ev ht i0 i1 j0 j1 false
 refine⟨r,?_,r2⟩
 have hA:=areNodes_ev (t:=t) (by omega) [i,j]
 rw [ht,inB_two.2 ⟨⟨i0,i1⟩,⟨j0,j1⟩⟩] at hA
 unfold loops_Meet.f
 refine Ev.bind (f:=fun k (z : Bool)=>(if z = true then((loops_lattice.f k t 2 i j).bind fun t609=>(some (t609,0))) else(some (([] : List (S39)),2)))) hA ?_
 refine Ev.congr (f:=fun k=>(loops_lattice.f k t 2 i j).bind fun t609=>(some (t609,(0 : Int)))) (fun k=>?_) ?_
 ·rw [if_pos (show(true && true) = true from rfl)]
 exact Ev.bind (g:=fun k=>loops_lattice.f k t 2 i j) (f:=fun k (z : List S39)=>some (z,(0 : Int))) r1 (Ev.now _)
end
theorem Join_bad {t : List S39} (hn : t.length≤1000) {i j : Int} (hb :(tyB t 24 && inB t [i,j]) = false) : Ev (fun k=>loops_Join.f k t i j) ([],2):=by
 have hA:=areNodes_ev (t:=t) (by omega) [i,j]
 rw [hb] at hA
 unfold loops_Join.f
 exact Ev.bind (f:=fun k (z : Bool)=>(if z = true then((loops_lattice.f k t 1 i j).bind fun t609=>(some (t609,0))) else(some (([] : List (S39)),2)))) hA (Ev.now _)
theorem Meet_bad {t : List S39} (hn : t.length≤1000) {i j : Int} (hb :(tyB t 24 && inB t [i,j]) = false) : Ev (fun k=>loops_Meet.f k t i j) ([],2):=by
 have hA:=areNodes_ev (t:=t) (by omega) [i,j]
 rw [hb] at hA
 unfold loops_Meet.f
 exact Ev.bind (f:=fun k (z : Bool)=>(if z = true then((loops_lattice.f k t 2 i j).bind fun t609=>(some (t609,0))) else(some (([] : List (S39)),2)))) hA (Ev.now _)
theorem LoopsBounds_ev (l : List S39) (i j : Int) : Ev (fun k=>w06_LoopsBounds.f k l i j) true:=by
 unfold w06_LoopsBounds.f
 rw [own_eq]
 simp only [Option.bind_some]
 have hl:=own_len l
 generalize l.take 25 = t at *
 cases hb :(tyB t 24 && inB t [i,j]) with
 | false =>
  have hbad:=bad_ev (t:=t) (by omega) i j
  rw [hb] at hbad
  refine Ev.bind (f:=fun k (z : List S39×Int)=>_) (Join_bad (by omega) hb) ?_
  refine Ev.bind (f:=fun k (z : List S39×Int)=>_) (Meet_bad (by omega) hb) ?_
  refine Ev.bind (f:=fun k (z : Bool)=>_) hbad ?_
  refine Ev.congr (fun k=>?_) awake_ev
  rw [if_pos (show(!false) = true from rfl),if_pos (show(((([] : List S39),(2 : Int)) : List S39×Int).1.length : Int) = 0 from rfl),if_pos (show((([] : List S39),(2 : Int)) : List S39×Int).2 = 2 from rfl),if_pos (show(((([] : List S39),(2 : Int)) : List S39×Int).1.length : Int) = 0 from rfl),if_pos (show((([] : List S39),(2 : Int)) : List S39×Int).2 = 2 from rfl)]
  cases w06_awake.f k <;> rfl
 | true =>
  obtain ⟨ht,hin⟩:=Bool.and_eq_true_iff.1 hb
  obtain ⟨⟨i0,i1⟩,⟨j0,j1⟩⟩:=inB_two.1 hin
  have hbad:=bad_ev (t:=t) (by omega) i j
  rw [hb] at hbad
  obtain ⟨a,a1,a2,_⟩:=Join_ev ht i0 i1 j0 j1
  obtain ⟨b,b1,b2,_⟩:=Meet_ev ht i0 i1 j0 j1
  obtain ⟨a',a1',a2'⟩:=Bound_ev ht i0 i1 j0 j1 true
  obtain ⟨b',b1',b2'⟩:=Bound_ev ht i0 i1 j0 j1 false
  obtain rfl:=a2.uniq a2'
  obtain rfl:=b2.uniq b2'
  refine Ev.bind (f:=fun k (z : List S39×Int)=>_) a1 ?_
  refine Ev.bind (f:=fun k (z : List S39×Int)=>_) b1 ?_
  refine Ev.bind (f:=fun k (z : Bool)=>_) hbad ?_
  refine Ev.congr (f:=fun k=>(q06_Bound.f k t i j true).bind fun t672=>((w06_types.f k a t672).bind fun t675=>(if t675 = true then((q06_Bound.f k t i j false).bind fun t676=>((w06_types.f k b t676).bind fun t679=>(if t679 = true then((w06_awake.f k).bind fun t680=>(some t680)) else(some false)))) else(some false)))) (fun k=>?_) ?_
  ·rw [if_neg (show ¬ (!true) = true by decide)]
   rfl
  refine Ev.bind (f:=fun k (z : List S39)=>_) a1' ?_
  refine Ev.bind (f:=fun k (z : Bool)=>_) (types_self a a2.len) ?_
  simp only [if_true]
  refine Ev.bind (f:=fun k (z : List S39)=>_) b1' ?_
  refine Ev.bind (f:=fun k (z : Bool)=>_) (types_self b b2.len) ?_
  refine Ev.congr (fun k=>?_) awake_ev
  rw [if_pos rfl]
  cases w06_awake.f k <;> rfl
theorem LoopsBounds (l : List S39) (a b : Int) : ∃ k,w06_LoopsBounds.f k l a b = some true:=(LoopsBounds_ev l a b).rounds
end Go.Proofs.Ytnfmeafiaipplaa.P

namespace Go.Proofs.Ytnfmeafiaipplaa.Open
instance : Inhabited Go.Proofs.Ytnfmeafiaipplaa.S.S39:=⟨⟨0,0,0⟩⟩
open Go.ChangeShapes Go.WideShapes Go.ChangeAt Go.RowKit
open Go.Proofs.Ytnfmeafiaipplaa.S Go.Proofs.Ytnfmeafiaipplaa.Lib Go.Proofs.YtnfmeafiaipplaaW.PrintWords Go.Proofs.YtnfmeafiaipplaaW.PrintLast Go.Proofs.YtnfmeafiaipplaaW.PrintMore
set_option linter.unusedVariables false
set_option maxRecDepth 100000

theorem add_add (a : Addr) (i j : Nat) :(a.add i).add j = a.add (i + j):=by
 unfold Addr.add
 by_cases hi : i = 0
 ·subst hi
  simp
 by_cases hj : j = 0
 ·subst hj
  simp [hi]
 simp [hi,hj,Nat.add_assoc]
theorem cells3 : Try.prog.cellsOf 39 = 3:=by kernel_rfl
theorem cells1 : Try.prog.cellsOf 3 = 1:=by kernel_rfl
section
variable {H : Type} {enc : TypeId × Value → H} {W : World} {base : Nat} {spare : Nat → Bool} {held : Bool}
/-- A node's cells. -/
theorem open_node {fuel : Nat} {cs : List Value} {x : DataW H×List MemPlace} (h : DataW.trod enc Try.prog W base spare held fuel 39 cs = some x) : ∃ n : S39,cs = [.int .i64 n.f0,.int .i64 n.f1,.int .i64 n.f2]:=by
 obtain ⟨xs,n,_,_,hl,hxl,hf⟩:=DataW.trod_struct Try.underlying39 h
 rw [cells3] at hl
 obtain ⟨c0,c1,c2,rfl⟩ : ∃ c0 c1 c2,cs = [c0,c1,c2]:=by
  match cs,hl with
  | [a,b,c],_=>exact⟨a,b,c,rfl⟩
 have f0 : DataW.trod enc Try.prog W base spare held n 3 (([c0,c1,c2].drop 0).take (Try.prog.cellsOf 3)) = xs[0]?:=hf 0 _ rfl
 have f1 : DataW.trod enc Try.prog W base spare held n 3 (([c0,c1,c2].drop 1).take (Try.prog.cellsOf 3)) = xs[1]?:=hf 1 _ rfl
 have f2 : DataW.trod enc Try.prog W base spare held n 3 (([c0,c1,c2].drop 2).take (Try.prog.cellsOf 3)) = xs[2]?:=hf 2 _ rfl
 rw [cells1] at f0 f1 f2
 have hxl3 : xs.length = 3:=hxl
 rw [List.getElem?_eq_getElem (by omega)] at f0 f1 f2
 obtain ⟨n0,h0,_⟩:=DataW.trod_int Try.underlying3 f0
 obtain ⟨n1,h1,_⟩:=DataW.trod_int Try.underlying3 f1
 obtain ⟨n2,h2,_⟩:=DataW.trod_int Try.underlying3 f2
 refine⟨⟨n0,n1,n2⟩,?_⟩
 simp at h0 h1 h2
 rw [h0,h1,h2]
theorem open_types {a : Option Addr} {len cap : Nat} {d : DataW H} {ps : List MemPlace} (h : DataW.Trod enc Try.prog W base spare held 22 (.slice a len cap) d ps) :
  ∃ zs : List S39,zs.length = len∧Kd.C k39 W a zs.length zs∧zs.length≤cap:=by
 obtain ⟨fuel,hf⟩:=h
 rcases Go.Deep.open_slice Try.underlying22 hf with ⟨hcs,_⟩ |⟨x,l,c,m,n,D,Pl,hcs,_,hl,hm,hmm,_,hx⟩
 ·simp [Value.cells] at hcs
  obtain ⟨rfl,rfl,rfl⟩:=hcs
  exact⟨[],rfl,⟨rfl,by simp,fun hp=>absurd hp (by simp)⟩,by simp⟩
 simp [Value.cells] at hcs
 obtain ⟨rfl,rfl,rfl⟩:=hcs
 have hlm : len≤m:=by rw [hmm];split <;> omega
 obtain ⟨Z,hZ⟩:=Go.Deep.choose_lt (α:=S39) (n:=len) (p:=fun i z=>∀ j u,[Value.int .i64 z.f0,.int .i64 z.f1,.int .i64 z.f2][j]? = some u→W.cell? (x.add (i * 3 + j)) = some u) (fun i hi=>by
  obtain ⟨cs',h1,h2⟩:=hx i (by omega)
  obtain ⟨z,rfl⟩:=open_node h2
  obtain ⟨_,_,h3⟩:=World.cells?_some h1
  rw [cells3] at h3
  refine⟨z,fun j u hu=>?_⟩
  have hj : j < 3:=by
   have:=(List.getElem?_eq_some_iff.1 hu).1
   simpa using this
  rw [← add_add,h3 j hj,hu])
 have hml : len≤9223372036854775807:=by simp only [maxLen] at hm;omega
 refine⟨(List.range len).map Z,by simp,⟨by simp,by simpa using hml,fun _=>⟨x,rfl,fun j p hj=>?_⟩⟩,by simpa using hl⟩
 obtain ⟨hj1,hj2⟩:=List.getElem?_eq_some_iff.1 hj
 simp at hj1 hj2
 refine⟨_,rfl,k39_mk W p,fun i u hu=>?_⟩
 rw [← hj2] at hu
 exact hZ j hj1 i u hu
theorem okWide_array {P : Program} {w : World} {r : Reach} {b0 n : Nat} {t e : TypeId} {v : Value} (ht : P.underlying t = some (.array n e)) (h : Value.okWide P w r b0 t v) : ∃ cs,v = .agg cs∧cs.size = P.cellsOf t:=by
 simp only [Value.okWide,ht] at h
 obtain ⟨cs,h1,h2,_⟩:=h
 exact⟨cs,h1,h2⟩
theorem open_two {r : Reach} {b0 : Nat} {v : Value} {d : DataW H} {ps : List MemPlace} (hv : Value.okWide Try.prog W r b0 23 v) (h : DataW.Trod enc Try.prog W base spare held 23 v d ps) :
  ∃ a b : Int,v = .agg #[.int .i64 a,.int .i64 b] ∧(Lit.int .i64 a).wf = true ∧(Lit.int .i64 b).wf = true:=by
 obtain ⟨cs,rfl,hsz⟩:=okWide_array Try.underlying23 hv
 obtain ⟨fuel,hf⟩:=h
 have hc : Try.prog.cellsOf 23 = 2:=by kernel_rfl
 rw [hc] at hsz
 obtain ⟨xs,m,_,_,_,hxl,hel⟩:=DataW.trod_array Try.underlying23 hf
 obtain ⟨c0,c1,rfl⟩ : ∃ c0 c1,cs = #[c0,c1]:=by
  obtain ⟨l⟩:=cs
  match l,hsz with
  | [a,b],_=>exact⟨a,b,rfl⟩
 have e0:=hel 0 (by omega)
 have e1:=hel 1 (by omega)
 simp only [cells1] at e0 e1
 rw [List.getElem?_eq_getElem (by omega)] at e0 e1
 obtain ⟨n0,h0,_,w0⟩:=DataW.trod_int Try.underlying3 e0
 obtain ⟨n1,h1,_,w1⟩:=DataW.trod_int Try.underlying3 e1
 refine⟨n0,n1,?_,w0,w1⟩
 simp [Value.cells] at h0 h1
 rw [h0,h1]
end
end Go.Proofs.Ytnfmeafiaipplaa.Open
