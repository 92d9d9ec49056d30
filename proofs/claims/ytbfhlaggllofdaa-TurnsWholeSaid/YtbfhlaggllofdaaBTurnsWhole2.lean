-- Written by wip/bundle2.py: texts of this claim, one behind the other.
import Derived.Test.YtbfhlaggllofdaaBTurnsWhole1
set_option linter.unusedVariables false
set_option linter.unusedSimpArgs false

namespace Go.Proofs.Ytbfhlaggllofdaa.S
open Go.Proofs.Ytbfhlaggllofdaa.Lib
open Go.Maps (Keyed)
open Go.RowKit Go.Proofs.YtbfhlaggllofdaaW.PrintWords Go.Proofs.YtbfhlaggllofdaaW.PrintLast Go.Proofs.YtbfhlaggllofdaaW.PrintMore
attribute [local go_sem] max2_int min2_int max_two min_two max_three min_three max_four min_four
set_option linter.unusedVariables false
set_option linter.unusedSimpArgs false

theorem eqA45 (d : Nat) (w : World) (x0 y0 : Int) (x1 y1 : Int) :
  (Op.equalIn (d + 2) 45 (.agg #[.int .i64 x0,.int .i64 x1]) (.agg #[.int .i64 y0,.int .i64 y1])).run Try.prog w = .ok (x0 == y0 && (x1 == y1)) w:=by
 have u3:=Try.underlying3
 have a3:=Try.isAgg3
 have z3:=Try.sizeOf3
 rw [show(d + 2 : Nat) =(d + 1) + 1 from rfl,Op.equalIn]
 simp only [Sem.run_bind,run_underlying Try.underlying45,Result.andThen_ok]
 simp only [Std.Legacy.Range.forIn_eq_forIn_range',Std.Legacy.Range.size,Nat.sub_zero,Nat.add_sub_cancel,Nat.div_one,List.range'_succ,List.range'_zero,List.forIn_cons,List.forIn_nil]
 go_simp
 by_cases h1 : x0 = y0 <;> by_cases h2 : x1 = y1 <;> simp [h1,h2]
end Go.Proofs.Ytbfhlaggllofdaa.S

namespace Go.Proofs.Ytbfhlaggllofdaa.P
open Go.RowKit Go.Proofs.Ytbfhlaggllofdaa.S Go.Proofs.Ytbfhlaggllofdaa.G Go.Proofs.Ytbfhlaggllofdaa.T Go.Proofs.YtbfhlaggllofdaaW.PrintWords Go.Proofs.YtbfhlaggllofdaaW.PrintLast Go.Proofs.YtbfhlaggllofdaaW.PrintMore
set_option linter.unusedVariables false
theorem order_some {n : Nat} {a : Int} (hn : n≤18) (h0 : 0≤a) (h1 : a < fact n) : turns_Order.f (n : Int) a = some (sjt n a,0):=by
 unfold turns_Order.f
 rw [show((n : Int)).toNat = n by omega,if_pos ⟨by omega,by omega,by omega,by omega⟩]
theorem product_loop (d : List Int) (hd : ∀ s ∈ d,1≤s∧s≤10) (hl : d.length≤12) : ∀ (e i : Nat) (acc : Int),i + e = d.length→1≤acc→acc * prod (d.drop i)≤1000000000000→Ev (fun k=>q10_Product.l0 k d acc (i : Int)) (acc * prod (d.drop i)):=by
 intro e
 induction e with
 | zero =>
  intro i acc h h1 h2
  rw [List.drop_eq_nil_of_le (by omega)]
  refine Ev.step (f:=fun _=>some _) (fun k=>?_) (Ev.now _)
  simp only [q10_Product.l0]
  rw [if_neg (by omega)]
  simp [prod]
 | succ e ih =>
  intro i acc h h1 h2
  have w : wrap64 ((i : Int) + 1) =((i + 1 : Nat) : Int):=by rw [w64 (by omega) (by omega)];rfl
  have ea:=drop_cons d i (by omega)
  have hs:=hd _ (rd_mem (l:=d) (x:=(i : Int)) (by omega) (by omega))
  have hp:=(prod_drop hd hl (i + 1)).1
  have em : acc * prod (d.drop i) =(acc * rd d (i : Int)) * prod (d.drop (i + 1)):=by rw [ea,Int.mul_assoc];rfl
  have h3 : 1≤acc * rd d (i : Int):=by
   have:=Int.mul_le_mul h1 hs.1 (by decide) (by omega)
   simpa using this
  rw [em] at h2 ⊢
  have h4 : acc * rd d (i : Int)≤1000000000000:=by
   have:=Int.mul_le_mul_of_nonneg_left hp (show 0≤acc * rd d (i : Int) by omega)
   omega
  have w2 : wrap64 (acc * rd d (i : Int)) = acc * rd d (i : Int):=w64 (by omega) (by omega)
  refine Ev.step (fun k=>?_) (ih (i + 1) _ (by omega) h3 h2)
  simp only [q10_Product.l0]
  rw [if_pos (by omega),if_pos (by omega),w,w2]
theorem product_ev {d : List Int} (hD : Dials d) : Ev (fun k=>q10_Product.f k d) (prod d):=by
 have h:=product_loop d hD.mem hD.1 d.length 0 1 (by omega) (by decide) (by rw [List.drop_zero,Int.one_mul];exact(prod_12 hD.mem hD.1).2)
 rw [List.drop_zero,Int.one_mul] at h
 exact h
/-- What is at a position of one of the five sequences. -/
def itm (n k : Nat) (d : List Int) (c : Nat) (a : Int) : List Int:=if c = 0 then gray n a else if c = 1 then door n k a else if c = 2 then sjt n a else if c = 3 then grp n 0 a else dial d a
def lenW (n k : Nat) (d : List Int) (c : Nat) : Int:=if c = 0 then 2 ^ n else if c = 1 then ch n k else if c = 2 then fact n else if c = 3 then bw n 0 else prod d
/-- Where it is. -/
def invW (n : Nat) (d : List Int) (c : Nat) (l : List Int) : Int:=if c = 0 then grayAt l n else if c = 1 then doorAt l 0 0 else if c = 2 then sjtAt n l else if c = 3 then grpAt l 0 else dialAt d l
structure OkW (n k : Nat) (d : List Int) : Prop where
 n5 : n≤5
 k5 : k≤n
 dl : d.length≤4
 dm : ∀ s ∈ d,1≤s∧s≤4
theorem prod4 : ∀ (m : Nat) (d : List Int), (∀ s ∈ d, 1 ≤ s ∧ s ≤ 4) → d.length ≤ m → 1 ≤ prod d ∧ prod d ≤ 4 ^ m
 | m,[],_,_=>⟨Int.le_refl _,by
  show(1 : Int)≤4 ^ m
  have h : 0 < 4 ^ m:=Nat.pow_pos (by decide)
  have h2 :((4 ^ m : Nat) : Int) =(4 : Int) ^ m:=by simp
  omega⟩
 | 0,s :: d,_,h=>by simp at h
 | m + 1,s :: d,hd,h=>by
  obtain ⟨i0,i1⟩:=prod4 m d (fun x hx=>hd x (List.mem_cons_of_mem _ hx)) (by simp at h;exact h)
  have hs:=hd s (by simp)
  show 1≤s * prod d∧s * prod d≤4 ^ (m + 1)
  have h1 : s * prod d≤4 * prod d:=Int.mul_le_mul_of_nonneg_right hs.2 (by omega)
  have h2 : 1 * prod d≤s * prod d:=Int.mul_le_mul_of_nonneg_right hs.1 (by omega)
  rw [Int.pow_succ]
  omega
theorem OkW.dials {n k : Nat} {d : List Int} (h : OkW n k d) : Dials d:=(dials_iff d).2 ⟨by have:=h.dl;omega,fun s hs=>by have:=h.dm s hs;omega⟩
theorem small : ∀ n : Nat,n≤5 →(2 : Int) ^ n≤1000∧fact n≤1000∧bw n 0≤1000:=by
 have h : ∀ n : Fin 6,(2 : Int) ^ n.val≤1000∧fact n.val≤1000∧bw n.val 0≤1000:=by decide +kernel
 exact fun n hn=>h ⟨n,by omega⟩
theorem smallch : ∀ n k : Nat,n≤5→k≤n→ch n k≤1000:=by
 have h : ∀ n k : Fin 6,ch n.val k.val≤1000:=by decide +kernel
 exact fun n k hn hk=>h ⟨n,by omega⟩ ⟨k,by omega⟩
theorem lenW_le {n k : Nat} {d : List Int} (h : OkW n k d) (c : Nat) : 1≤lenW n k d c∧lenW n k d c≤1000:=by
 obtain ⟨s1,s2,s3⟩:=small n h.n5
 have s4:=smallch n k h.n5 h.k5
 obtain ⟨p1,p2⟩:=prod4 4 d h.dm h.dl
 have p3 :(4 : Int) ^ 4 = 256:=by decide
 rw [p3] at p2
 have q1:=pow_pos2 n
 have q2:=fact_pos n
 have q3:=bw_pos n 0
 have q4:=ch_pos n k h.k5
 unfold lenW
 split
 ·exact⟨q1,s1⟩
 split
 ·exact⟨q4,s4⟩
 split
 ·exact⟨q2,s2⟩
 split
 ·exact⟨q3,s3⟩
 exact⟨p1,by omega⟩
theorem itm_len {n k : Nat} {d : List Int} (h : OkW n k d) (c : Nat) (a : Int) :(itm n k d c a).length≤1000:=by
 have h5:=h.n5
 unfold itm
 split
 ·have:=gray_len n a;omega
 split
 ·have:=isS_len (door_isS n k a);omega
 split
 ·rw [sjt_len];omega
 split
 ·rw [grp_len];omega
 rw [dial_len];have:=h.dl;omega
theorem inv_itm {n k : Nat} {d : List Int} (h : OkW n k d) (c : Nat) {a : Int} (h0 : 0≤a) (h1 : a < lenW n k d c) : invW n d c (itm n k d c a) = a:=by
 unfold lenW at h1
 unfold invW itm
 by_cases c0 : c = 0
 ·rw [if_pos c0] at h1 ⊢
  rw [if_pos c0]
  exact grayAt_gray n a h0 h1
 rw [if_neg c0] at h1 ⊢
 rw [if_neg c0]
 by_cases c1 : c = 1
 ·rw [if_pos c1] at h1 ⊢
  rw [if_pos c1]
  exact doorAt_door n k a h0 h1
 rw [if_neg c1] at h1 ⊢
 rw [if_neg c1]
 by_cases c2 : c = 2
 ·rw [if_pos c2] at h1 ⊢
  rw [if_pos c2]
  exact sjtAt_sjt n a h0 h1
 rw [if_neg c2] at h1 ⊢
 rw [if_neg c2]
 by_cases c3 : c = 3
 ·rw [if_pos c3] at h1 ⊢
  rw [if_pos c3]
  exact grpAt_grp n 0 a h0 h1
 rw [if_neg c3] at h1 ⊢
 rw [if_neg c3]
 exact dialAt_dial (fun s hs=>(h.dm s hs).1) h0 h1
theorem item_in {n k : Nat} {d : List Int} (h : OkW n k d) {c : Nat} (hc : c < 5) {a : Int} (h0 : 0≤a) (h1 : a < lenW n k d c) : w10_item.f (c : Int) (n : Int) (k : Int) d a = some (itm n k d c a,0):=by
 have h5:=h.n5
 have hk:=h.k5
 have en :((n : Int)).toNat = n:=by omega
 have ek :((k : Int)).toNat = k:=by omega
 unfold lenW at h1
 unfold w10_item.f itm
 by_cases c0 : c = 0
 ·rw [if_pos c0] at h1 ⊢
  rw [if_pos (by omega)]
  unfold turns_Set.f
  rw [en,if_pos ⟨by omega,by omega,by omega,by omega⟩]
  rfl
 rw [if_neg c0] at h1 ⊢
 rw [if_neg (by omega)]
 by_cases c1 : c = 1
 ·rw [if_pos c1] at h1 ⊢
  rw [if_pos (by omega),choice_some (by omega) hk h0 h1]
  rfl
 rw [if_neg c1] at h1 ⊢
 rw [if_neg (by omega)]
 by_cases c2 : c = 2
 ·rw [if_pos c2] at h1 ⊢
  rw [if_pos (by omega),order_some (by omega) h0 h1]
  rfl
 rw [if_neg c2] at h1 ⊢
 rw [if_neg (by omega)]
 by_cases c3 : c = 3
 rotate_left
 ·rw [if_neg c3] at h1 ⊢
  rw [if_neg (by omega)]
  unfold turns_Setting.f
  rw [if_pos ⟨h.dials,by omega,by omega⟩]
  rfl
 rw [if_pos c3] at h1 ⊢
 rw [if_pos (by omega)]
 unfold turns_Grouping.f
 rw [en,if_pos ⟨by omega,by omega,by omega,by omega⟩]
 rfl
theorem item_out {n k : Nat} {d : List Int} (h : OkW n k d) {c : Nat} (hc : c < 5) : w10_item.f (c : Int) (n : Int) (k : Int) d (lenW n k d c) = some ([],2):=by
 have h5:=h.n5
 have hk:=h.k5
 have en :((n : Int)).toNat = n:=by omega
 have ek :((k : Int)).toNat = k:=by omega
 unfold lenW w10_item.f
 by_cases c0 : c = 0
 ·rw [if_pos c0, if_pos (by omega)]
  unfold turns_Set.f
  rw [en,if_neg (by omega)]
  rfl
 rw [if_neg c0,if_neg (by omega)]
 by_cases c1 : c = 1
 ·rw [if_pos c1, if_pos (by omega)]
  unfold turns_Choice.f
  rw [en,ek,if_neg (by omega)]
  rfl
 rw [if_neg c1,if_neg (by omega)]
 by_cases c2 : c = 2
 ·rw [if_pos c2, if_pos (by omega)]
  unfold turns_Order.f
  rw [en,if_neg (by omega)]
  rfl
 rw [if_neg c2,if_neg (by omega)]
 by_cases c3 : c = 3
 rotate_left
 ·rw [if_neg c3, if_neg (by omega)]
  unfold turns_Setting.f
  rw [if_neg (by omega)]
  rfl
 rw [if_pos c3,if_pos (by omega)]
 unfold turns_Grouping.f
 rw [en,if_neg (by omega)]
 rfl
/-- The first i of a sequence. -/
def allW (n k : Nat) (d : List Int) (c i : Nat) : List (List Int):=(List.range i).map (fun q : Nat=>itm n k d c (q : Int))
theorem allW_len (n k : Nat) (d : List Int) (c i : Nat) :(allW n k d c i).length = i:=by unfold allW;simp
theorem allW_rd {n k : Nat} {d : List Int} {c i q : Nat} (h : q < i) : rd_L1 (allW n k d c i) (q : Int) = itm n k d c (q : Int):=by
 unfold rd_L1 allW
 rw [show((q : Int)).toNat = q by omega,List.getD_eq_getElem?_getD,List.getElem?_eq_getElem (by simp;exact h)]
 simp
theorem allW_succ (n k : Nat) (d : List Int) (c i : Nat) : allW n k d c (i + 1) = allW n k d c i ++ [itm n k d c (i : Int)]:=by
 unfold allW
 rw [List.range_succ,List.map_append]
 rfl
def lensW (n k : Nat) (d : List Int) : List Int:=[2 ^ n,ch n k,fact n,bw n 0,prod d]
theorem lensW_rd {n k : Nat} {d : List Int} : ∀ {c : Nat}, c < 5 → rd (lensW n k d) (c : Int) = lenW n k d c
 | 0,_=>rfl
 | 1,_=>rfl
 | 2,_=>rfl
 | 3,_=>rfl
 | 4,_=>rfl
 | c + 5,h=>by omega
theorem whole_l3 {n k : Nat} {d : List Int} (h : OkW n k d) {c i : Nat} (hc : c < 5) (hi :(i : Int) < lenW n k d c) (hr : Ev (fun f=>w10_TurnsWhole.l2 f (n : Int) (k : Int) d (lensW n k d) (c : Int) (allW n k d c (i + 1)) ((i + 1 : Nat) : Int)) true) : ∀ e q : Nat,q + e = i→Ev (fun f=>w10_TurnsWhole.l3 f (n : Int) (k : Int) d (lensW n k d) (c : Int) (allW n k d c i) (i : Int) (itm n k d c (i : Int)) (q : Int)) true:=by
 have hb:=lenW_le h c
 have hi1 : i≤1000:=by omega
 intro e
 induction e with
 | zero =>
  intro q hq
  obtain rfl : q = i:=by omega
  refine Ev.step (fun f=>?_) hr
  simp only [w10_TurnsWhole.l3]
  rw [allW_len,if_neg (by omega),if_pos (by omega),allW_succ,succ64 q hi1]
 | succ e ih =>
  intro q hq
  have hne : ¬ itm n k d c (q : Int) = itm n k d c (i : Int):=fun he=>by
   have h1:=inv_itm h c (a:=(q : Int)) (by omega) (by omega)
   have h2:=inv_itm h c (a:=(i : Int)) (by omega) hi
   rw [he,h2] at h1
   omega
  have hI:=ints_ev (itm n k d c (q : Int)) (itm n k d c (i : Int)) (itm_len h c _)
  rw [decide_eq_false hne] at hI
  have hq1 : q≤1000:=by omega
  refine Ev.step (f:=fun f=>(w10_ints.f f (itm n k d c (q : Int)) (itm n k d c (i : Int))).bind fun t295=>(if t295 = true then(some false) else(w10_TurnsWhole.l3 f (n : Int) (k : Int) d (lensW n k d) (c : Int) (allW n k d c i) (i : Int) (itm n k d c (i : Int)) ((q + 1 : Nat) : Int)))) (fun f=>?_) ?_
  ·simp only [w10_TurnsWhole.l3]
   rw [allW_len,if_pos (by omega),if_pos (by omega),allW_rd (by omega),succ64 q hq1]
  refine Ev.bind (f:=fun f (t : Bool)=>_) hI ?_
  exact Ev.congr (fun f=>if_neg (by decide)) (ih (q + 1) (by omega))
theorem whole_l2 {n k : Nat} {d : List Int} (h : OkW n k d) {c : Nat} (hc : c < 5) (hr : Ev (fun f=>w10_TurnsWhole.l1 f (n : Int) (k : Int) d (lensW n k d) ((c + 1 : Nat) : Int)) true) : ∀ e i : Nat,((i + e : Nat) : Int) = lenW n k d c→Ev (fun f=>w10_TurnsWhole.l2 f (n : Int) (k : Int) d (lensW n k d) (c : Int) (allW n k d c i) (i : Int)) true:=by
 have hb:=lenW_le h c
 intro e
 induction e with
 | zero =>
  intro i hi
  refine Ev.step (fun f=>?_) hr
  simp only [w10_TurnsWhole.l2]
  rw [if_pos (by omega),show(lensW n k d).length = 5 from rfl,if_pos (by omega),lensW_rd hc,if_neg (by omega),item_out h hc]
  simp only [Option.bind_some,if_true]
  rw [succ64 c (by omega)]
 | succ e ih =>
  intro i hi
  have h3:=whole_l3 h hc (i:=i) (by omega) (ih (i + 1) (by omega)) i 0 (by omega)
  refine Ev.step (fun f=>?_) h3
  simp only [w10_TurnsWhole.l2]
  rw [if_pos (by omega),show(lensW n k d).length = 5 from rfl,if_pos (by omega),lensW_rd hc,if_pos (by omega),item_in h hc (by omega) (by omega)]
  simp only [Option.bind_some,if_true]
  rfl
theorem whole_l1 {n k : Nat} {d : List Int} (h : OkW n k d) : ∀ e c : Nat,c + e = 5→Ev (fun f=>w10_TurnsWhole.l1 f (n : Int) (k : Int) d (lensW n k d) (c : Int)) true:=by
 intro e
 induction e with
 | zero =>
  intro c hc
  refine Ev.step (f:=fun f=>(w10_awake.f f).bind fun z=>some z) (fun f=>?_) awake_some
  simp only [w10_TurnsWhole.l1]
  rw [if_neg (by omega)]
 | succ e ih =>
  intro c hc
  have hb:=lenW_le h c
  have h2:=whole_l2 h (c:=c) (by omega) (ih (c + 1) (by omega)) (lenW n k d c).toNat 0 (by omega)
  refine Ev.step (fun f=>?_) h2
  simp only [w10_TurnsWhole.l1]
  rw [if_pos (by omega)]
  rfl
theorem whole_j2 {n k : Nat} {d : List Int} (h : OkW n k d) : Ev (fun f=>w10_TurnsWhole.j2 f (n : Int) (k : Int) (ch n k) (bw n 0) d) true:=by
 have h5:=h.n5
 refine Ev.step (f:=fun f=>(q10_Factorial.f f (n : Int)).bind fun t278=>((q10_Product.f f d).bind fun t279=>(w10_TurnsWhole.l1 f (n : Int) (k : Int) d ([2 ^ n,ch n k,t278,bw n 0,t279]) 0))) (fun f=>?_) ?_
 ·simp only [w10_TurnsWhole.j2]
  rw [if_pos (by omega),shl1 (by omega)]
 refine Ev.bind (f:=fun f (t : Int)=>_) (factorial_ev (by omega)) ?_
 refine Ev.bind (f:=fun f (t : Int)=>_) (product_ev h.dials) ?_
 exact whole_l1 h 5 0 (by omega)
theorem whole_l0 {n k : Nat} (hn : n≤5) (hk : k≤n) (x : List Int) : ∀ (e i : Nat) (out : List Int),i + e = 4→out.length = i →(∀ s ∈ out,1≤s∧s≤4)→Ev (fun f=>w10_TurnsWhole.l0 f (n : Int) (k : Int) x (ch n k) (bw n 0) out (i : Int)) true:=by
 intro e
 induction e with
 | zero =>
  intro i out h h1 h2
  refine Ev.step (f:=fun f=>w10_TurnsWhole.j2 f (n : Int) (k : Int) (ch n k) (bw n 0) out) (fun f=>?_) (whole_j2 ⟨hn,hk,by omega,h2⟩)
  simp only [w10_TurnsWhole.l0]
  by_cases c :(i : Int) < (x.length : Int)
  rotate_left
  ·rw [if_neg c]
  rw [if_pos c,if_neg (by omega)]
 | succ e ih =>
  intro i out h h1 h2
  by_cases c :(i : Int) < (x.length : Int)
  rotate_left
  ·refine Ev.step (f := fun f => w10_TurnsWhole.j2 f (n : Int) (k : Int) (ch n k) (bw n 0) out) (fun f => ?_) (whole_j2 ⟨hn, hk, by omega, h2⟩)
   simp only [w10_TurnsWhole.l0]
   rw [if_neg c]
  obtain ⟨m,hm,m0,m1⟩:=mod_ok (rd x (i : Int)) (b:=4) (by omega) (by omega)
  have w1 : wrap64 (1 + m) = 1 + m:=w64 (by omega) (by omega)
  refine Ev.step (fun f=>?_) (ih (i + 1) (out ++ [1 + m]) (by omega) (by simp [h1]) (fun s hs=>by
   rcases List.mem_append.1 hs with hs | hs
   ·exact h2 s hs
   ·simp at hs;omega))
  simp only [w10_TurnsWhole.l0]
  rw [if_pos c,if_pos (by omega),if_pos (by omega),hm,Option.bind_some,if_pos (by omega),w1,succ64 i (by omega)]
theorem turnsWhole_law (x y : Int) (l : List Int) : ∃ k,w10_TurnsWhole.f k x y l = some true:=by
 refine Ev.rounds ?_
 obtain ⟨q,hq,q0,q1⟩:=mod_ok x (b:=6) (by omega) (by omega)
 obtain ⟨n,rfl⟩ : ∃ n : Nat,q = n:=⟨q.toNat,by omega⟩
 have hn : n≤5:=by omega
 obtain ⟨r,hr,r0,r1⟩:=mod_ok y (b:=(n : Int) + 1) (by omega) (by omega)
 obtain ⟨k,rfl⟩ : ∃ k : Nat,r = k:=⟨r.toNat,by omega⟩
 have hk : k≤n:=by omega
 obtain ⟨_,_,s3⟩:=small n hn
 have s4:=smallch n k hn hk
 have q3:=bw_pos n 0
 have q4:=ch_pos n k hk
 have hG : turns_Groupings.f (n : Int) = some (bw n 0,0):=by
  unfold turns_Groupings.f
  rw [if_pos ⟨by omega,by omega⟩,show((n : Int)).toNat = n by omega]
 have c1 : ¬ ch n k < 1:=by omega
 have c2 : ¬ bw n 0 < 1:=by omega
 have c3 : ¬ ch n k > 1000:=by omega
 have c4 : decide (bw n 0 > 1000) = false:=decide_eq_false (by omega)
 refine Ev.congr (f:=fun f=>w10_TurnsWhole.j0 f (n : Int) (k : Int) l (ch n k) (bw n 0) false) (fun f=>?_) ?_
 ·unfold w10_TurnsWhole.f
  rw [hq,Option.bind_some,w64 (x:=(n : Int) + 1) (by omega) (by omega),hr,Option.bind_some,many_some (by omega) hk,Option.bind_some,hG,Option.bind_some,if_pos rfl,if_pos rfl,if_neg c1,if_neg c2,if_neg c3,c4]
 refine Ev.step (fun f=>?_) (whole_l0 hn hk l 4 0 [] (by omega) rfl (fun s hs=>by simp at hs))
 simp only [w10_TurnsWhole.j0]
 rw [if_neg (by decide)]
 rfl
end Go.Proofs.Ytbfhlaggllofdaa.P

namespace Go.Proofs.Ytbfhlaggllofdaa.Pure
open Go.RowKit Go.Proofs.Ytbfhlaggllofdaa.S Go.Proofs.YtbfhlaggllofdaaW.PrintWords Go.Proofs.YtbfhlaggllofdaaW.PrintLast
theorem TurnsWhole : w10_TurnsWhole.Pure:=fun a0 a1 l2 _ _ _ _ _=>P.turnsWhole_law a0 a1 l2
end Go.Proofs.Ytbfhlaggllofdaa.Pure
