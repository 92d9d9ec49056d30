-- Written by wip/bundle2.py: texts of this claim, one behind the other.
import Derived.Test.YtbfhlaggllofdaaBTurnsSets1
set_option linter.unusedVariables false
set_option linter.unusedSimpArgs false

namespace Go.Proofs.Ytbfhlaggllofdaa.P
open Go.RowKit Go.Proofs.Ytbfhlaggllofdaa.S Go.Proofs.Ytbfhlaggllofdaa.G Go.Proofs.Ytbfhlaggllofdaa.T Go.Proofs.YtbfhlaggllofdaaW.PrintWords Go.Proofs.YtbfhlaggllofdaaW.PrintLast Go.Proofs.YtbfhlaggllofdaaW.PrintMore
set_option linter.unusedVariables false
theorem gray_len (n : Nat) (a : Int) :(gray n a).length≤n:=nodup_len n (gray n a) 0 ((gray_sorted n a).imp (fun h=>by omega)) (fun x hx=>by have:=gray_mem n _ x hx;omega)
theorem sets_j2 (n : Nat) (hn : n≤40) (s : List Int) (hs : s.length≤42) : ∀ p q : Int,(if IsS (n : Int) s then(grayAt s n,(0 : Int)) else(0,2)) =(p,q)→Ev (fun k=>w10_TurnsSets.j2 k (n : Int) s p q) true:=by
 intro p q e
 have h1:=sets_ev (n : Int) s (by omega)
 by_cases c : IsS (n : Int) s
 rotate_left
 ·rw [if_neg c] at e
  injection e with e1 e2
  subst e1;subst e2
  rw [decide_eq_false c] at h1
  refine Ev.step (fun k=>rfl) ?_
  refine Ev.bind (f:=fun k (t : Bool)=>_) h1 ?_
  refine Ev.congr (fun k=>if_neg (by decide)) ?_
  refine Ev.congr (fun k=>if_pos rfl) ?_
  refine Ev.congr (fun k=>if_pos rfl) ?_
  exact awake_some
 rw [if_pos c] at e
 injection e with e1 e2
 subst e1;subst e2
 rw [decide_eq_true c] at h1
 refine Ev.step (fun k=>rfl) ?_
 refine Ev.bind (f:=fun k (t : Bool)=>_) h1 ?_
 refine Ev.congr (fun k=>if_pos rfl) ?_
 refine Ev.bind (f:=fun k (t : Int)=>_) (refSetAt_ev n s hn (by omega) c) ?_
 refine Ev.congr (fun k=>if_pos rfl) ?_
 refine Ev.congr (fun k=>if_pos rfl) ?_
 exact awake_some
theorem turnsSets_law (n a : Int) (l2 : List Int) : ∃ k,w10_TurnsSets.f k n a l2 = some true:=by
 refine Ev.rounds ?_
 have hl :(l2.take 42).length≤42:=by rw [List.length_take];omega
 obtain ⟨s,es⟩ : ∃ d,l2.take 42 = d:=⟨_,rfl⟩
 rw [es] at hl
 have hat:=setAt_ev n s (by omega)
 unfold w10_TurnsSets.f w10_list.f turns_Set.f
 rw [es]
 simp only [Option.bind_some]
 by_cases c : 0≤n∧n≤40
 rotate_left
 ·rw [if_neg (fun h => c h.1)] at hat
  rw [if_neg (fun h=>c ⟨h.1,h.2.1⟩)]
  have hj : Ev (fun k=>w10_TurnsSets.j0 k n a s [] 2 0 2 true) true:=by
   refine Ev.step (f:=fun k=>(w10_awake.f k).bind fun z=>some z) (fun k=>?_) awake_some
   simp only [w10_TurnsSets.j0]
   rw [if_pos trivial,if_pos (by rfl),if_pos trivial,if_pos trivial,if_pos trivial]
  refine Ev.bind (f:=fun k (t : Int×Int)=>_) hat ?_
  by_cases c1 : n < 0
  ·exact Ev.congr (fun k=>if_pos c1) hj
  refine Ev.congr (fun k=>if_neg c1) ?_
  rw [decide_eq_true (show n > 40 by omega)]
  exact hj
 obtain ⟨m,rfl⟩ : ∃ m : Nat,n = m:=⟨n.toNat,by omega⟩
 have hm :((m : Int)).toNat = m:=by omega
 rw [hm] at hat
 rw [hm]
 obtain ⟨p,q,e⟩ : ∃ p q,(if IsS (m : Int) s then(grayAt s m,(0 : Int)) else(0,2)) =(p,q):=⟨_,_,rfl⟩
 have h2:=sets_j2 m (by omega) s hl p q e
 simp only [c,true_and] at hat
 rw [e] at hat
 have c0 : ¬ (m : Int) < 0:=by omega
 have c40 : decide ((m : Int) > 40) = false:=decide_eq_false (by omega)
 have hp:=pow_le (n:=m) (by omega)
 refine Ev.bind (f:=fun k (t : Int×Int)=>_) hat ?_
 refine Ev.congr (fun k=>if_neg c0) ?_
 rw [c40]
 by_cases ca : 0≤a∧a≤2 ^ m - 1
 rotate_left
 ·rw [if_neg (fun h => ca ⟨h.2.2.1, h.2.2.2⟩)]
  refine Ev.step (f:=fun k=>w10_TurnsSets.j1 k (m : Int) a s [] 2 p q true) (fun k=>?_) ?_
  ·simp only [w10_TurnsSets.j0]
   by_cases c1 : a < 0
   ·rw [if_neg (by decide),if_pos c1]
   rw [if_neg (by decide),if_neg c1,if_pos (by omega),shl1 (by omega),decide_eq_true (by omega)]
  refine Ev.step (f:=fun k=>w10_TurnsSets.j2 k (m : Int) s p q) (fun k=>?_) h2
  simp only [w10_TurnsSets.j1]
  rw [if_pos trivial,if_pos (by rfl),if_pos trivial]
 rw [if_pos ⟨c.1,c.2,ca.1,ca.2⟩]
 refine Ev.step (f:=fun k=>w10_TurnsSets.j1 k (m : Int) a s (gray m a) 0 p q false) (fun k=>?_) ?_
 ·simp only [w10_TurnsSets.j0]
  rw [if_neg (by decide),if_neg (by omega),if_pos (by omega),shl1 (by omega),decide_eq_false (by omega)]
 refine Ev.step (f:=fun k=>(q10_Set.f k (m : Int) a).bind fun t458=>((w10_ints.f k (gray m a) t458).bind fun t461=>(if t461 = true then(if(0 : Int) = 0 then(w10_TurnsSets.j2 k (m : Int) s p q) else(some false)) else(some false)))) (fun k=>?_) ?_
 ·simp only [w10_TurnsSets.j1]
  rw [if_neg (by decide)]
 refine Ev.bind (f:=fun k (t : List Int)=>_) (refSet_ev m a (by omega) ca.1 (by omega)) ?_
 have hi:=ints_ev (gray m a) (gray m a) (by have:=gray_len m a;omega)
 rw [decide_eq_true rfl] at hi
 refine Ev.bind (f:=fun k (t : Bool)=>_) hi ?_
 refine Ev.congr (fun k=>if_pos rfl) ?_
 exact Ev.congr (fun k=>if_pos rfl) h2
end Go.Proofs.Ytbfhlaggllofdaa.P

namespace Go.Proofs.Ytbfhlaggllofdaa.Pure
open Go.RowKit Go.Proofs.Ytbfhlaggllofdaa.S Go.Proofs.YtbfhlaggllofdaaW.PrintWords Go.Proofs.YtbfhlaggllofdaaW.PrintLast
theorem TurnsSets : w10_TurnsSets.Pure:=fun a0 a1 l2 _ _ _ _ _=>P.turnsSets_law a0 a1 l2
end Go.Proofs.Ytbfhlaggllofdaa.Pure
