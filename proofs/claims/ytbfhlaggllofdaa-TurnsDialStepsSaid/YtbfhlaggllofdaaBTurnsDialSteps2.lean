-- Written by wip/bundle2.py: texts of this claim, one behind the other.
import Derived.Test.YtbfhlaggllofdaaBTurnsDialSteps1
set_option linter.unusedVariables false
set_option linter.unusedSimpArgs false

namespace Go.Proofs.Ytbfhlaggllofdaa.P
open Go.RowKit Go.Proofs.Ytbfhlaggllofdaa.S Go.Proofs.Ytbfhlaggllofdaa.G Go.Proofs.Ytbfhlaggllofdaa.T Go.Proofs.YtbfhlaggllofdaaW.PrintWords Go.Proofs.YtbfhlaggllofdaaW.PrintLast Go.Proofs.YtbfhlaggllofdaaW.PrintMore
set_option linter.unusedVariables false
theorem mx_max (a b : Int) : mx a b = max a b:=by
 unfold mx
 omega
theorem isDial_rd {d l : List Int} (hD : Dials d) : isDial d l→∀ i : Nat,i < l.length→0≤rd l (i : Int)∧rd l (i : Int)≤9:=by
 intro h i hi
 have hd:=isDial_drop i h
 have hl:=isDial_len h
 rw [drop_cons d i (by omega),drop_cons l i hi] at hd
 have:=(hD.mem _ (rd_mem (l:=d) (x:=(i : Int)) (by omega) (by omega))).2
 exact⟨hd.1,by have:=hd.2.1;omega⟩
theorem ds_l1 {a b : List Int} (he : a.length = b.length) (hl : a.length ≤ 12) (ha : ∀ i : Nat, i < a.length → 0 ≤ rd a (i : Int) ∧ rd a (i : Int) ≤ 9) (hb : ∀ i : Nat, i < b.length → 0 ≤ rd b (i : Int) ∧ rd b (i : Int) ≤ 9) :
  ∀ (e i : Nat) (acc : Int),i + e = a.length→0≤acc→acc≤10 * i→acc + changes (a.drop i) (b.drop i) = 1→Ev (fun k=>w10_TurnsDialSteps.l1 k a b acc (i : Int)) true:=by
 intro e
 induction e with
 | zero =>
  intro i acc h h0 h1 h2
  rw [List.drop_eq_nil_of_le (by omega),List.drop_eq_nil_of_le (by omega)] at h2
  have h3 : acc = 1:=by simpa [changes] using h2
  subst h3
  refine Ev.step (f:=fun k=>(w10_awake.f k).bind fun z=>some z) (fun k=>?_) awake_some
  simp only [w10_TurnsDialSteps.l1]
  rw [if_neg (by omega),if_pos trivial]
 | succ e ih =>
  intro i acc h h0 h1 h2
  have w : wrap64 ((i : Int) + 1) =((i + 1 : Nat) : Int):=by rw [w64 (by omega) (by omega)];rfl
  have xa:=ha i (by omega)
  have xb:=hb i (by omega)
  rw [drop_cons a i (by omega),drop_cons b i (by omega)] at h2
  unfold changes at h2
  obtain ⟨x,hx⟩ : ∃ x,rd a (i : Int) = x:=⟨_,rfl⟩
  obtain ⟨y,hy⟩ : ∃ y,rd b (i : Int) = y:=⟨_,rfl⟩
  rw [hx] at xa h2
  rw [hy] at xb h2
  have w1 : wrap64 (x - y) = x - y:=w64 (by omega) (by omega)
  have w2 : wrap64 (y - x) = y - x:=w64 (by omega) (by omega)
  have w3 : wrap64 (acc + max (x - y) (y - x)) = acc + max (x - y) (y - x):=w64 (by omega) (by omega)
  refine Ev.step (fun k=>?_) (ih (i + 1) (acc + max (x - y) (y - x)) (by omega) (by omega) (by omega) (by omega))
  simp only [w10_TurnsDialSteps.l1]
  rw [if_pos (by omega),if_pos (by omega),if_pos (by omega),hx,hy,w1,w2,mx_max,w3,w]
theorem ds_j1 (a : Int) {d : List Int} (hD : Dials d) : Ev (fun k=>w10_TurnsDialSteps.j1 k a d) true:=by
 have hp:=prod_12 hD.mem hD.1
 have hs1 : ∀ s ∈ d,1≤s:=fun s hs=>(hD.mem s hs).1
 obtain ⟨m,hm,m0,m1⟩:=mod_ok a (b:=prod d) (by omega) (by omega)
 have hS : turns_Setting.f d m = some (dial d m,0):=by unfold turns_Setting.f;rw [if_pos ⟨hD,m0,by omega⟩]
 have hi:=dial_is hs1 m0 m1
 have hA : turns_SettingAt.f d (dial d m) = some (m,0):=by unfold turns_SettingAt.f;rw [if_pos ⟨hD,hi⟩,dialAt_dial hs1 m0 m1]
 have hlen:=dial_len d m
 have hse:=settings2_ev d (dial d m) (by rw [hlen];have:=hD.1;omega)
 rw [decide_eq_true hi] at hse
 have hj2 : Ev (fun k=>w10_TurnsDialSteps.j2 k m d (prod d) (dial d m) (!true)) true:=by
  have w1 : wrap64 (prod d - 1) = prod d - 1:=w64 (by omega) (by omega)
  by_cases c : m = prod d - 1
  ·refine Ev.step (f := fun k => (w10_awake.f k).bind fun z => some z) (fun k => ?_) awake_some
   simp only [w10_TurnsDialSteps.j2]
   rw [if_neg (by decide),w1,if_pos c]
  ·have w2 : wrap64 (m + 1) = m + 1 := w64 (by omega) (by omega)
   have hS2 : turns_Setting.f d (m + 1) = some (dial d (m + 1),0):=by unfold turns_Setting.f;rw [if_pos ⟨hD,by omega,by omega⟩]
   have hi2:=dial_is (d:=d) (a:=m + 1) hs1 (by omega) (by omega)
   have hlen2:=dial_len d (m + 1)
   have hse2:=settings2_ev d (dial d (m + 1)) (by rw [hlen2];have:=hD.1;omega)
   rw [decide_eq_true hi2] at hse2
   have hn:=dial_next hs1 m0 (show m + 1 < prod d by omega)
   refine Ev.step (f:=fun k=>(q10_Settings.f k d (dial d (m + 1))).bind fun t241=>(w10_TurnsDialSteps.j3 k (dial d m) (dial d (m + 1)) (!t241))) (fun k=>?_) ?_
   ·simp only [w10_TurnsDialSteps.j2]
    rw [if_neg (by decide),w1,if_neg c,w2,hS2]
    rfl
   ·refine Ev.bind (f := fun k (t : Bool) => _) hse2 ?_
    refine Ev.step (f:=fun k=>w10_TurnsDialSteps.l1 k (dial d m) (dial d (m + 1)) 0 0) (fun k=>?_) ?_
    ·simp only [w10_TurnsDialSteps.j3]
     rw [if_neg (by decide)]
    ·exact ds_l1 (by rw [hlen,hlen2]) (by rw [hlen];exact hD.1) (isDial_rd hD hi) (isDial_rd hD hi2) (dial d m).length 0 0 (by omega) (by omega) (by omega) (by rw [List.drop_zero,List.drop_zero,hn];rfl)
 refine Ev.step (f:=fun k=>(q10_Product.f k d).bind fun t227=>((w10_mod.f a t227).bind fun t228=>((turns_Setting.f d t228).bind fun bt229=>((turns_SettingAt.f d bt229.1).bind fun bt233=>(if bt229.2 = 0 then(if bt233.2 = 0 then(if bt233.1 = t228 then((q10_Settings.f k d bt229.1).bind fun t235=>(w10_TurnsDialSteps.j2 k t228 d t227 bt229.1 (!t235))) else(w10_TurnsDialSteps.j2 k t228 d t227 bt229.1 true)) else(w10_TurnsDialSteps.j2 k t228 d t227 bt229.1 true)) else(w10_TurnsDialSteps.j2 k t228 d t227 bt229.1 true)))))) (fun k=>by simp only [w10_TurnsDialSteps.j1]) ?_
 refine Ev.bind (f:=fun k (t : Int)=>_) (product_ev hD) ?_
 refine Ev.congr (f:=fun k=>(q10_Settings.f k d (dial d m)).bind fun t235=>(w10_TurnsDialSteps.j2 k m d (prod d) (dial d m) (!t235))) (fun k=>?_) ?_
 ·rw [hm]
  simp only [Option.bind_some]
  rw [hS]
  simp only [Option.bind_some]
  rw [hA]
  simp only [Option.bind_some,if_true]
 exact Ev.bind (f:=fun k (t : Bool)=>_) hse hj2
theorem ds_l0 (x : List Int) (hx : x.length≤20000000000000) (a : Int) : ∀ (e i : Nat) (out : List Int),i + e = 12→out.length = i →(∀ s ∈ out,1≤s∧s≤10)→Ev (fun k=>w10_TurnsDialSteps.l0 k x a out (i : Int)) true:=by
 intro e
 induction e with
 | zero =>
  intro i out h h1 h2
  refine Ev.step (f:=fun k=>w10_TurnsDialSteps.j1 k a out) (fun k=>?_) (ds_j1 a ((dials_iff _).2 ⟨by omega,h2⟩))
  simp only [w10_TurnsDialSteps.l0]
  by_cases c :(i : Int) < (x.length : Int)
  rotate_left
  ·rw [if_neg c]
  rw [if_pos c,if_neg (by omega)]
 | succ e ih =>
  intro i out h h1 h2
  by_cases c :(i : Int) < (x.length : Int)
  rotate_left
  ·refine Ev.step (f := fun k => w10_TurnsDialSteps.j1 k a out) (fun k => ?_) (ds_j1 a ((dials_iff _).2 ⟨by omega, h2⟩))
   simp only [w10_TurnsDialSteps.l0]
   rw [if_neg c]
  obtain ⟨m,hm,m0,m1⟩:=mod_ok (wrap64 (rd x (i : Int) - 1)) (b:=10) (by omega) (by omega)
  have w : wrap64 ((i : Int) + 1) =((i + 1 : Nat) : Int):=by rw [w64 (by omega) (by omega)];rfl
  have w1 : wrap64 (1 + m) = 1 + m:=w64 (by omega) (by omega)
  refine Ev.step (fun k=>?_) (ih (i + 1) (out ++ [1 + m]) (by omega) (by simp [h1]) (fun s hs=>by
   rcases List.mem_append.1 hs with hs | hs
   ·exact h2 s hs
   ·simp at hs;omega))
  simp only [w10_TurnsDialSteps.l0]
  rw [if_pos c,if_pos (by omega),if_pos (by omega),hm]
  simp only [Option.bind_some]
  rw [if_pos (by omega),w1,w]
theorem turnsDialSteps_law (l : List Int) (a : Int) : l.length * 8≤140737488351232→∃ k,w10_TurnsDialSteps.f k l a = some true:=fun h =>
 Ev.rounds (ds_l0 l (by omega) a 12 0 [] (by omega) rfl (fun s hs=>by simp at hs))
end Go.Proofs.Ytbfhlaggllofdaa.P

namespace Go.Proofs.Ytbfhlaggllofdaa.Pure
open Go.RowKit Go.Proofs.Ytbfhlaggllofdaa.S Go.Proofs.YtbfhlaggllofdaaW.PrintWords Go.Proofs.YtbfhlaggllofdaaW.PrintLast
theorem TurnsDialSteps : w10_TurnsDialSteps.Pure:=fun l0 a1 _ h _ _=>P.turnsDialSteps_law l0 a1 h
end Go.Proofs.Ytbfhlaggllofdaa.Pure
