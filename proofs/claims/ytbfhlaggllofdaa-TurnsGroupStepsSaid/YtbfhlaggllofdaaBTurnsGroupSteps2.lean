-- Written by wip/bundle2.py: texts of this claim, one behind the other.
import Derived.Test.YtbfhlaggllofdaaBTurnsGroupSteps1
set_option linter.unusedVariables false
set_option linter.unusedSimpArgs false

namespace Go.Proofs.Ytbfhlaggllofdaa.P
open Go.RowKit Go.Proofs.Ytbfhlaggllofdaa.S Go.Proofs.Ytbfhlaggllofdaa.G Go.Proofs.Ytbfhlaggllofdaa.T Go.Proofs.YtbfhlaggllofdaaW.PrintWords Go.Proofs.YtbfhlaggllofdaaW.PrintLast Go.Proofs.YtbfhlaggllofdaaW.PrintMore
set_option linter.unusedVariables false
theorem gs_l1 {a b : List Int} {n : Nat} (hn : n≤20) (ha : a.length = n) (hb : b.length = n) : ∀ e i : Nat,i + e = n→lexLt (a.drop i) (b.drop i)→Ev (fun k=>w10_TurnsGroupSteps.l1 k (n : Int) a b (i : Int)) true:=by
 intro e
 induction e with
 | zero =>
  intro i h hx
  rw [List.drop_eq_nil_of_le (by omega),List.drop_eq_nil_of_le (by omega)] at hx
  exact hx.elim
 | succ e ih =>
  intro i h hx
  rw [drop_cons a i (by omega),drop_cons b i (by omega)] at hx
  by_cases c : rd a (i : Int) = rd b (i : Int)
  ·have hx' : lexLt (a.drop (i + 1)) (b.drop (i + 1)):=by
    rcases hx with hx | hx
    ·omega
    ·exact hx.2
   refine Ev.step (fun k=>?_) (ih (i + 1) (by omega) hx')
   simp only [w10_TurnsGroupSteps.l1]
   rw [if_pos (by omega),if_pos (by omega),if_pos (by omega),if_pos (by omega),if_pos c,succ64 i (by omega)]
  have hlt : rd a (i : Int) < rd b (i : Int):=by
   rcases hx with hx | hx
   ·exact hx
   ·exact absurd hx.1 c
  refine Ev.step (f:=fun k=>(w10_awake.f k).bind fun z=>some z) (fun k=>?_) awake_some
  simp only [w10_TurnsGroupSteps.l1]
  rw [if_pos (by omega),if_pos (by omega),if_pos (by omega),if_pos (by omega),if_neg c,if_pos hlt]
theorem grp_isB (m u : Nat) (a : Int) : isGrpB (grp m u a) u = true:=(isGrpB_iff _ _).2 (grp_is m u a)
theorem bell_bounds : ∀ n k : Nat,n≤20→k < n →(0≤ch (n - 1) k∧ch (n - 1) k * bw k 0≤1000000000000000000∧0≤ch (n - 1) k * bw k 0)∧bellSum n k≤1000000000000000000∧0≤bellSum n k:=by
 have h : ∀ n k : Fin 21,k.val < n.val →(0≤ch (n.val - 1) k.val∧ch (n.val - 1) k.val * bw k.val 0≤1000000000000000000∧0≤ch (n.val - 1) k.val * bw k.val 0)∧bellSum n.val k.val≤1000000000000000000∧0≤bellSum n.val k.val:=by decide +kernel
 exact fun n k h1 h2=>h ⟨n,by omega⟩ ⟨k,by omega⟩ h2
theorem gs_j2 {n : Nat} (h1 : 1≤n) (hn : n≤20) {a : Int} (a0 : 0≤a) (a1 : a < bw n 0) : Ev (fun k=>w10_TurnsGroupSteps.j2 k (n : Int) a (bw n 0) (grp n 0 a) (!true)) true:=by
 have hb:=bw_le64 (m:=n) (j:=0) (by omega)
 have hl:=grp_len n 0 a
 by_cases c : a = bw n 0 - 1
 ·have hlast : rd (grp n 0 a) ((n - 1 : Nat) : Int) =((n - 1 : Nat) : Int):=by
   rw [c,grp_last,rd_lt _ _ (by simp;omega)]
   simp
  refine Ev.step (f:=fun k=>(w10_awake.f k).bind fun z=>some z) (fun k=>?_) awake_some
  simp only [w10_TurnsGroupSteps.j2]
  rw [if_neg (by decide),w64 (x:=bw n 0 - 1) (by omega) (by omega),if_pos c,w64 (x:=(n : Int) - 1) (by omega) (by omega),if_pos (by omega),hl,if_pos (by omega),show(n : Int) - 1 =((n - 1 : Nat) : Int) by omega,if_pos hlast]
 have hS2 : turns_Grouping.f (n : Int) (a + 1) = some (grp n 0 (a + 1),0):=by
  unfold turns_Grouping.f
  rw [show((n : Int)).toNat = n by omega,if_pos ⟨by omega,by omega,by omega,by omega⟩]
 have hl2:=grp_len n 0 (a + 1)
 refine Ev.step (f:=fun k=>w10_TurnsGroupSteps.j3 k (n : Int) (grp n 0 a) (grp n 0 (a + 1)) false) (fun k=>?_) ?_
 ·simp only [w10_TurnsGroupSteps.j2]
  rw [if_neg (by decide),w64 (x:=bw n 0 - 1) (by omega) (by omega),if_neg c,w64 (x:=a + 1) (by omega) (by omega),hS2]
  simp only [Option.bind_some,if_true]
  rw [hl2]
  simp
 refine Ev.step (f:=fun k=>w10_TurnsGroupSteps.l1 k (n : Int) (grp n 0 a) (grp n 0 (a + 1)) ((0 : Nat) : Int)) (fun k=>?_) ?_
 ·simp only [w10_TurnsGroupSteps.j3]
  rw [if_neg (by decide)]
  rfl
 exact gs_l1 hn hl hl2 n 0 (by omega) (by rw [List.drop_zero,List.drop_zero];exact grp_next n 0 a a0 (by omega))
theorem gs_l0 {n : Nat} (h1 : 1≤n) (hn : n≤20) (x : Int) : ∀ e i : Nat,i + e = n→Ev (fun k=>w10_TurnsGroupSteps.l0 k (n : Int) x (bw n 0) (bellSum n i) (i : Int)) true:=by
 intro e
 induction e with
 | zero =>
  intro i h
  obtain rfl : i = n:=by omega
  have hb:=bw_le64 (m:=i) (j:=0) (by omega)
  obtain ⟨m,hm,m0,m1⟩:=mod_ok x (b:=bw i 0) (by omega) (by omega)
  have hS : turns_Grouping.f (i : Int) m = some (grp i 0 m,0):=by
   unfold turns_Grouping.f
   rw [show((i : Int)).toNat = i by omega,if_pos ⟨by omega,by omega,by omega,by omega⟩]
  have hl:=grp_len i 0 m
  have hA : turns_GroupingAt.f (grp i 0 m) = some (m,0):=by
   unfold turns_GroupingAt.f
   rw [if_pos ⟨by omega,grp_isB i 0 m⟩,grpAt_grp i 0 m m0 m1]
  have hg:=groupings_ev (l:=grp i 0 m) (by omega)
  rw [decide_eq_true ⟨by omega,grp_isB i 0 m⟩] at hg
  refine Ev.step (f:=fun k=>(q10_Groupings.f k (grp i 0 m)).bind fun t497=>(w10_TurnsGroupSteps.j2 k (i : Int) m (bw i 0) (grp i 0 m) (!t497))) (fun k=>?_) (Ev.bind (f:=fun k (t : Bool)=>_) hg (gs_j2 h1 hn m0 m1))
  simp only [w10_TurnsGroupSteps.l0]
  rw [if_neg (by omega),hm]
  simp only [Option.bind_some]
  rw [hS]
  simp only [Option.bind_some]
  rw [hA,bell i h1 hn]
  simp only [Option.bind_some,if_true]
  rw [hl,if_pos rfl]
 | succ e ih =>
  intro i h
  obtain ⟨⟨b0,b1,b2⟩,b3,b4⟩:=bell_bounds n i hn (by omega)
  have hM : turns_Many.f (((n - 1 : Nat) : Int)) (i : Int) = some (ch (n - 1) i,0):=by
   unfold turns_Many.f
   rw [if_pos ⟨by omega,by omega,by omega,by omega⟩,show(((n - 1 : Nat) : Int)).toNat = n - 1 by omega,show((i : Int)).toNat = i by omega]
  have hG : turns_Groupings.f (i : Int) = some (bw i 0,0):=by
   unfold turns_Groupings.f
   rw [if_pos ⟨by omega,by omega⟩,show((i : Int)).toNat = i by omega]
  have es : bellSum n (i + 1) = bellSum n i + ch (n - 1) i * bw i 0:=rfl
  have hih:=ih (i + 1) (by omega)
  rw [es] at hih
  refine Ev.step (fun k=>?_) hih
  simp only [w10_TurnsGroupSteps.l0]
  rw [if_pos (by omega),w64 (x:=(n : Int) - 1) (by omega) (by omega),show(n : Int) - 1 =((n - 1 : Nat) : Int) by omega,hM]
  simp only [Option.bind_some]
  rw [hG]
  simp only [Option.bind_some,if_true]
  rw [w64 (x:=ch (n - 1) i * bw i 0) (by omega) (by omega),w64 (x:=bellSum n i + ch (n - 1) i * bw i 0) (by omega) (by omega),succ64 i (by omega)]
theorem turnsGroupSteps_law (n a : Int) : ∃ k,w10_TurnsGroupSteps.f k n a = some true:=by
 refine Ev.rounds ?_
 obtain ⟨q,hq,q0,q1⟩:=mod_ok n (b:=20) (by omega) (by omega)
 have w1 : wrap64 (1 + q) =((q.toNat + 1 : Nat) : Int):=by rw [w64 (by omega) (by omega)];omega
 obtain ⟨m,hm⟩ : ∃ m,q.toNat + 1 = m:=⟨_,rfl⟩
 rw [hm] at w1
 have hb:=bw_le64 (m:=m) (j:=0) (by omega)
 have hG : turns_Groupings.f (m : Int) = some (bw m 0,0):=by
  unfold turns_Groupings.f
  rw [if_pos ⟨by omega,by omega⟩,show((m : Int)).toNat = m by omega]
 refine Ev.congr (f:=fun k=>w10_TurnsGroupSteps.j0 k (m : Int) a (bw m 0) false) (fun k=>?_) ?_
 ·unfold w10_TurnsGroupSteps.f
  rw [hq]
  simp only [Option.bind_some]
  rw [w1,hG]
  simp only [Option.bind_some,if_true]
  rw [decide_eq_false (by omega)]
 refine Ev.step (f:=fun k=>w10_TurnsGroupSteps.l0 k (m : Int) a (bw m 0) (bellSum m 0) ((0 : Nat) : Int)) (fun k=>?_) (gs_l0 (by omega) (by omega) a m 0 (by omega))
 simp only [w10_TurnsGroupSteps.j0]
 rw [if_neg (by decide)]
 rfl
end Go.Proofs.Ytbfhlaggllofdaa.P

namespace Go.Proofs.Ytbfhlaggllofdaa.Pure
open Go.RowKit Go.Proofs.Ytbfhlaggllofdaa.S Go.Proofs.YtbfhlaggllofdaaW.PrintWords Go.Proofs.YtbfhlaggllofdaaW.PrintLast
theorem TurnsGroupSteps : w10_TurnsGroupSteps.Pure:=fun a0 a1 _ _=>P.turnsGroupSteps_law a0 a1
end Go.Proofs.Ytbfhlaggllofdaa.Pure
