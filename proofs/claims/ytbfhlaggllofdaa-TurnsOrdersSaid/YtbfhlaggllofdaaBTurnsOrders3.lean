-- Written by wip/bundle2.py: texts of this claim, one behind the other.
import Derived.Test.YtbfhlaggllofdaaBTurnsOrders2
set_option linter.unusedVariables false
set_option linter.unusedSimpArgs false

namespace Go.Proofs.Ytbfhlaggllofdaa.P
open Go.RowKit Go.Proofs.Ytbfhlaggllofdaa.S Go.Proofs.Ytbfhlaggllofdaa.G Go.Proofs.Ytbfhlaggllofdaa.T Go.Proofs.YtbfhlaggllofdaaW.PrintWords Go.Proofs.YtbfhlaggllofdaaW.PrintLast Go.Proofs.YtbfhlaggllofdaaW.PrintMore
set_option linter.unusedVariables false
instance (n : Int) (l : List Int) : Decidable (IsS n l):=decidable_of_iff ((∀ x ∈ l,1≤x∧x≤n)∧l.Pairwise (· < ·)) ⟨fun h=>⟨h.1,h.2⟩,fun h=>⟨h.1,h.2⟩⟩
theorem index_loop (l : List Int) (hl : l.length≤1000) (x : Int) : ∀ e i : Nat,i + e = l.length→x ∉ l.take i→Ev (fun k=>slices_Index_int_int.l0 k l x (l.length : Int) (i : Int)) (if x ∈ l then(l.idxOf x : Int) else -1):=by
 intro e
 induction e with
 | zero =>
  intro i h hs
  rw [List.take_of_length_le (by omega)] at hs
  rw [if_neg hs]
  refine Ev.step (f:=fun _=>some (-1)) (fun k=>?_) (Ev.now _)
  simp only [slices_Index_int_int.l0]
  rw [if_neg (by omega)]
 | succ e ih =>
  intro i h hs
  have w : wrap64 ((i : Int) + 1) =((i + 1 : Nat) : Int):=by rw [w64 (by omega) (by omega)];rfl
  have r : rd l (i : Int) = l[i]:=rd_lt l i (by omega)
  by_cases c : x = rd l (i : Int)
  rotate_left
  ·refine Ev.step (fun k=>?_) (ih (i + 1) (by omega) (fun h'=>by
    rw [List.take_succ_eq_append_getElem (show i < l.length by omega)] at h'
    rcases List.mem_append.1 h' with h' | h'
    ·exact hs h'
    ·exact c (by rw [r];simpa using h')))
   simp only [slices_Index_int_int.l0]
   rw [if_pos (by omega),if_pos (by omega),if_pos (by omega),if_neg c,w]
  have hm : x ∈ l:=by rw [c,r];exact List.getElem_mem _
  have hi : l.idxOf x = i:=by
   conv=>lhs;rw [← List.take_append_drop i l]
   rw [List.idxOf_append,if_neg hs,drop_cons l i (by omega),← c,List.idxOf_cons_self,List.length_take]
   omega
  rw [if_pos hm,hi]
  refine Ev.step (f:=fun _=>some (i : Int)) (fun k=>?_) (Ev.now _)
  simp only [slices_Index_int_int.l0]
  rw [if_pos (by omega),if_pos (by omega),if_pos (by omega),if_pos c]
theorem index_ev (l : List Int) (hl : l.length≤1000) (x : Int) : Ev (fun k=>slices_Index_int_int.f k l x) (if x ∈ l then(l.idxOf x : Int) else -1):=index_loop l hl x l.length 0 (by omega) (by simp)
theorem contains_ev (l : List Int) (hl : l.length≤1000) (x : Int) : Ev (fun k=>slices_Contains_int_int.f k l x) (decide (x ∈ l)):=by
 refine Ev.bind (f:=fun k (t : Int)=>some (decide (t ≥ 0))) (index_ev l hl x) ?_
 by_cases c : x ∈ l
 ·rw [if_pos c, decide_eq_true c, decide_eq_true (by omega)]
  exact Ev.now _
 rw [if_neg c,decide_eq_false c,decide_eq_false (by omega)]
 exact Ev.now _
theorem succ64 (i : Nat) (h : i≤1000) : wrap64 ((i : Int) + 1) =((i + 1 : Nat) : Int):=by rw [w64 (by omega) (by omega)];rfl
theorem fact_step (j : Nat) : fact (j + 1) = fact j * ((j : Int) + 1):=Int.mul_comm _ _
theorem factorial_l0 {n : Nat} (hn : n≤18) : ∀ e j : Nat,1≤j→j + e = max n 1→Ev (fun k=>q10_Factorial.l0 k (n : Int) (fact j) ((j : Int) + 1)) (fact n):=by
 intro e
 induction e with
 | zero =>
  intro j h1 h
  have ej : fact j = fact n:=by
   by_cases c : n = 0
   ·subst c
    obtain rfl : j = 1:=by omega
    rfl
   ·rw [show j = n by omega]
  rw [← ej]
  refine Ev.step (f:=fun _=>some (fact j)) (fun k=>?_) (Ev.now _)
  simp only [q10_Factorial.l0]
  rw [if_neg (by omega)]
 | succ e ih =>
  intro j h1 h
  have b:=fact_le (n:=j + 1) (by omega)
  have hs:=fact_step j
  have hih:=ih (j + 1) (by omega) (by omega)
  refine Ev.step (fun k=>?_) hih
  simp only [q10_Factorial.l0]
  rw [if_pos (by omega),← hs,w64 (x:=fact (j + 1)) (by omega) (by omega),w64 (x:=(j : Int) + 1 + 1) (by omega) (by omega)]
  rfl
theorem factorial_ev {n : Nat} (hn : n≤18) : Ev (fun k=>q10_Factorial.f k (n : Int)) (fact n):=factorial_l0 hn (max n 1 - 1) 1 (by omega) (by omega)
structure PreO (N : Int) (l : List Int) : Prop where
 mem : ∀ x ∈ l,1≤x∧x≤N
 nodup : l.Nodup
instance (N : Int) (l : List Int) : Decidable (PreO N l):=decidable_of_iff ((∀ x ∈ l,1≤x∧x≤N)∧l.Nodup) ⟨fun h=>⟨h.1,h.2⟩,fun h=>⟨h.1,h.2⟩⟩
theorem PreO.take {N : Int} {l : List Int} (h : PreO N l) (i : Nat) : PreO N (l.take i):=⟨fun x hx=>h.mem x (List.mem_of_mem_take hx),h.nodup.sublist (List.take_sublist i l)⟩
theorem preO_step {N : Int} {l : List Int} {i : Nat} (hi : i < l.length) : PreO N (l.take (i + 1))↔PreO N (l.take i) ∧(1≤rd l (i : Int)∧rd l (i : Int)≤N)∧rd l (i : Int) ∉ l.take i:=by
 have e : l.take (i + 1) = l.take i ++ [rd l (i : Int)]:=by rw [rd_lt l i hi];exact List.take_succ_eq_append_getElem hi
 rw [e]
 constructor
 ·intro h
  obtain ⟨h1,h2,h3⟩:=List.nodup_append.1 h.nodup
  exact⟨⟨fun x hx=>h.mem x (List.mem_append_left _ hx),h1⟩,h.mem _ (List.mem_append_right _ (List.mem_singleton.2 rfl)),fun hm=>h3 _ hm _ (List.mem_singleton.2 rfl) rfl⟩
 intro ⟨h1,h2,h3⟩
 refine⟨fun x hx=>?_,List.nodup_append.2 ⟨h1.nodup,by simp,fun x hx y hy=>?_⟩⟩
 ·rcases List.mem_append.1 hx with hx | hx
  ·exact h1.mem x hx
  rw [List.mem_singleton.1 hx];exact h2
 rw [List.mem_singleton.1 hy]
 exact fun e=>h3 (e ▸ hx)
theorem preO_not {N : Int} {l : List Int} (j : Nat) (h : ¬ PreO N (l.take j)) : decide (PreO N l) = false:=decide_eq_false (fun h'=>h (h'.take j))
theorem preO_nil (N : Int) : PreO N []:=⟨fun x hx=>by simp at hx,.nil⟩
theorem isOrder_loop {l : List Int} (hl : l.length≤18) : ∀ e i : Nat,i + e = l.length→PreO (l.length : Int) (l.take i)→Ev (fun k=>turns_isOrder.l0 k l l (l.length : Int) (i : Int)) (decide (PreO (l.length : Int) l)):=by
 intro e
 induction e with
 | zero =>
  intro i h hs
  rw [List.take_of_length_le (by omega)] at hs
  rw [decide_eq_true hs]
  refine Ev.step (f:=fun _=>some true) (fun k=>?_) (Ev.now _)
  simp only [turns_isOrder.l0]
  rw [if_neg (by omega)]
 | succ e ih =>
  intro i h hs
  have st:=preO_step (N:=(l.length : Int)) (l:=l) (i:=i) (by omega)
  by_cases c : 1≤rd l (i : Int)∧rd l (i : Int) ≤(l.length : Int)
  rotate_left
  ·rw [preO_not (i + 1) (fun h => c ((st.1 h).2.1))]
   refine Ev.step (f:=fun _=>some false) (fun k=>?_) (Ev.now _)
   simp only [turns_isOrder.l0]
   rw [if_pos (by omega),if_pos (by omega),if_pos (by omega),within_no c]
   rfl
  have hc:=contains_ev (l.take i) (by rw [List.length_take];omega) (rd l (i : Int))
  have hf : ∀ {r : Bool},Ev (fun k=>(slices_Contains_int_int.f k (l.take i) (rd l (i : Int))).bind fun t512=>(if t512 = true then(some false) else(turns_isOrder.l0 k l l (l.length : Int) ((i + 1 : Nat) : Int)))) r→Ev (fun k=>turns_isOrder.l0 k l l (l.length : Int) (i : Int)) r:=fun h=>by
   refine Ev.step (fun k=>?_) h
   simp only [turns_isOrder.l0]
   rw [if_pos (by omega),if_pos (by omega),if_pos (by omega),within_yes c]
   simp only [Option.bind_some,if_true]
   rw [if_pos (by omega),show((i : Int)).toNat = i by omega,succ64 i (by omega)]
  refine hf (Ev.bind (f:=fun k (t : Bool)=>_) hc ?_)
  by_cases c1 : rd l (i : Int) ∈ l.take i
  rotate_left
  ·rw [decide_eq_false c1]
   exact Ev.congr (fun k=>if_neg (by decide)) (ih (i + 1) (by omega) (st.2 ⟨hs,c,c1⟩))
  rw [decide_eq_true c1,preO_not (i + 1) (fun h=>(st.1 h).2.2 c1)]
  exact Ev.congr (fun k=>if_pos rfl) (Ev.now _)
def OrdP (l : List Int) : Prop:=l.length≤18∧PreO (l.length : Int) l
instance (l : List Int) : Decidable (OrdP l):=by unfold OrdP;infer_instance
theorem isOrder_ev (l : List Int) : Ev (fun k=>turns_isOrder.f k l) (decide (OrdP l)):=by
 by_cases c : l.length≤18
 rotate_left
 ·rw [decide_eq_false (fun h => c h.1)]
  refine Ev.congr (fun k=>?_) (Ev.now _)
  unfold turns_isOrder.f
  rw [if_pos (by omega)]
 have h:=isOrder_loop c l.length 0 (by omega) (preO_nil _)
 rw [show decide (OrdP l) = decide (PreO (l.length : Int) l) from decide_eq_decide.2 ⟨fun h=>h.2,fun h=>⟨c,h⟩⟩]
 refine Ev.congr (fun k=>?_) h
 unfold turns_isOrder.f
 rw [if_neg (by omega)]
 rfl
theorem mem_take_rd {l : List Int} {i : Nat} (hi : i≤l.length) {x : Int} : x ∈ l.take i↔∃ j,j < i∧rd l (j : Int) = x:=by
 constructor
 ·intro h
  obtain ⟨j,hj,e⟩:=List.getElem_of_mem h
  rw [List.length_take] at hj
  rw [List.getElem_take] at e
  exact⟨j,by omega,by rw [rd_lt l j (by omega)];exact e⟩
 intro ⟨j,hj,e⟩
 rw [rd_lt l j (by omega)] at e
 rw [← e]
 exact List.mem_take_iff_getElem.2 ⟨j,by omega,rfl⟩
theorem orders_l1 {l : List Int} (hl : l.length≤42) {i : Nat} (hi : i < l.length) {r : Bool} (hr : rd l (i : Int) ∉ l.take i→Ev (fun k=>q10_Orders.l0 k l ((i + 1 : Nat) : Int)) r) (hf : rd l (i : Int) ∈ l.take i→r = false) : ∀ e j : Nat,j + e = i →(∀ q,q < j→rd l (q : Int)≠rd l (i : Int))→Ev (fun k=>q10_Orders.l1 k l (i : Int) (j : Int)) r:=by
 intro e
 induction e with
 | zero =>
  intro j h hs
  obtain rfl : j = i:=by omega
  refine Ev.step (fun k=>?_) (hr (fun hm=>by
   obtain ⟨q,h1,h2⟩:=(mem_take_rd (by omega)).1 hm
   exact hs q h1 h2))
  simp only [q10_Orders.l1]
  rw [if_neg (by omega),succ64 j (by omega)]
 | succ e ih =>
  intro j h hs
  by_cases c : rd l (j : Int) = rd l (i : Int)
  ·rw [hf ((mem_take_rd (by omega)).2 ⟨j, by omega, c⟩)]
   refine Ev.step (f:=fun _=>some false) (fun k=>?_) (Ev.now _)
   simp only [q10_Orders.l1]
   rw [if_pos (by omega),if_pos (by omega),if_pos (by omega),if_pos (by omega),if_pos (by omega),if_pos c]
  refine Ev.step (fun k=>?_) (ih (j + 1) (by omega) (fun q hq=>by
   by_cases e : q = j
   ·subst e;exact c
   ·exact hs q (by omega)))
  simp only [q10_Orders.l1]
  rw [if_pos (by omega),if_pos (by omega),if_pos (by omega),if_pos (by omega),if_pos (by omega),if_neg c,succ64 j (by omega)]
theorem orders_loop {l : List Int} (hl : l.length≤42) : ∀ e i : Nat,i + e = l.length→PreO (l.length : Int) (l.take i)→Ev (fun k=>q10_Orders.l0 k l (i : Int)) (decide (OrdP l)):=by
 intro e
 induction e with
 | zero =>
  intro i h hs
  rw [List.take_of_length_le (by omega)] at hs
  refine Ev.step (f:=fun _=>some (decide (OrdP l))) (fun k=>?_) (Ev.now _)
  simp only [q10_Orders.l0]
  rw [if_neg (by omega)]
  congr 1
  exact decide_eq_decide.2 ⟨fun h=>⟨by omega,hs⟩,fun h=>by have:=h.1;omega⟩
 | succ e ih =>
  intro i h hs
  have st:=preO_step (N:=(l.length : Int)) (l:=l) (i:=i) (by omega)
  have no : ¬ PreO (l.length : Int) (l.take (i + 1))→decide (OrdP l) = false:=fun h=>decide_eq_false (fun h'=>h (h'.2.take (i + 1)))
  by_cases c : 1≤rd l (i : Int)∧rd l (i : Int) ≤(l.length : Int)
  rotate_left
  ·rw [no (fun h => c ((st.1 h).2.1))]
   refine Ev.step (f:=fun k=>q10_Orders.j1 k l (i : Int) true) (fun k=>?_) (Ev.step (f:=fun _=>some false) (fun k=>?_) (Ev.now _))
   ·simp only [q10_Orders.l0]
    rw [if_pos (by omega),if_pos (by omega)]
    by_cases c1 : rd l (i : Int) < 1
    ·rw [if_pos c1]
    rw [if_neg c1,decide_eq_true (by omega)]
   simp only [q10_Orders.j1]
   rw [if_pos trivial]
  have h1:=orders_l1 hl (i:=i) (by omega) (r:=decide (OrdP l)) (fun hm=>ih (i + 1) (by omega) (st.2 ⟨hs,c,hm⟩)) (fun hm=>no (fun h=>(st.1 h).2.2 hm)) i 0 (by omega) (fun q hq=>by omega)
  refine Ev.step (f:=fun k=>q10_Orders.j1 k l (i : Int) false) (fun k=>?_) (Ev.step (fun k=>?_) h1)
  ·simp only [q10_Orders.l0]
   rw [if_pos (by omega),if_pos (by omega),if_neg (by omega),decide_eq_false (by omega)]
  simp only [q10_Orders.j1]
  rw [if_neg (by decide)]
  rfl
theorem orders_ev {l : List Int} (hl : l.length≤42) : Ev (fun k=>q10_Orders.f k l) (decide (OrdP l)):=orders_loop hl l.length 0 (by omega) (preO_nil _)
theorem ordP_has {l : List Int} (h : OrdP l) {m : Nat} (hm : m < l.length) :(m : Int) + 1 ∈ l:=full_range l.length l 0 h.2.nodup (fun a ha=>by have:=h.2.mem a ha;omega) rfl _ (by omega) (by omega)
theorem ordP_range {l : List Int} (h : OrdP l) {m : Nat} (hm : m≤l.length) : 0≤sjtAt m l∧sjtAt m l < fact m:=sjtAt_range m l (fun j hj=>ordP_has h (by omega)) h.2.nodup (fun x hx=>(h.2.mem x hx).1)
theorem split_at {l : List Int} {x : Int} (hx : x ∈ l) : l = l.take (l.idxOf x) ++ x :: l.drop (l.idxOf x + 1)∧x ∉ l.take (l.idxOf x)∧l.idxOf x < l.length:=by
 have hi:=List.idxOf_lt_length_of_mem hx
 have e:=drop_cons l (l.idxOf x) hi
 have ex : rd l (l.idxOf x : Int) = x:=by rw [rd_lt l _ hi];exact List.getElem_idxOf hi
 rw [ex] at e
 refine⟨?_,?_,hi⟩
 ·rw [← e,List.take_append_drop]
 intro hm
 obtain ⟨j,hj,e2⟩:=(mem_take_rd (by omega)).1 hm
 have h1 : l.idxOf x≤j:=by
  rw [rd_lt l j (by omega)] at e2
  rcases Nat.lt_or_ge j (l.idxOf x) with h | h
  ·exact absurd e2 (List.not_of_lt_findIdx (p:=(· == x)) h |> fun h=>by simpa using h)
  ·exact h
 omega
theorem idx_upto {l : List Int} {m : Nat} (hx :(m : Int) + 1 ∈ l) :(upto ((m : Int) + 1) l).idxOf ((m : Int) + 1) =(upto (m : Int) (l.take (l.idxOf ((m : Int) + 1)))).length:=by
 obtain ⟨e,hn,_⟩:=split_at hx
 have e1 : upto ((m : Int) + 1) (l.take (l.idxOf ((m : Int) + 1))) = upto (m : Int) (l.take (l.idxOf ((m : Int) + 1))):=by
  unfold upto
  refine List.filter_congr (fun x hx=>?_)
  have : x ≠(m : Int) + 1:=fun e=>hn (e ▸ hx)
  exact decide_eq_decide.2 ⟨fun h=>by omega,fun h=>by omega⟩
 rw [← e1]
 generalize l.take (l.idxOf ((m : Int) + 1)) = a at *
 generalize l.drop (l.idxOf ((m : Int) + 1) + 1) = b at *
 rw [e]
 have hna :(m : Int) + 1 ∉ upto ((m : Int) + 1) a:=fun h=>hn (List.mem_filter.1 h).1
 unfold upto at hna ⊢
 rw [List.filter_append,List.filter_cons,if_pos (by simp),List.idxOf_append,if_neg hna,List.idxOf_cons_self]
 omega
theorem upto_snoc {m : Int} {l : List Int} {j : Nat} (hj : j < l.length) :(upto m (l.take (j + 1))).length =(upto m (l.take j)).length + (if rd l (j : Int)≤m then 1 else 0):=by
 have e : l.take (j + 1) = l.take j ++ [rd l (j : Int)]:=by rw [rd_lt l j hj];exact List.take_succ_eq_append_getElem hj
 unfold upto
 rw [e,List.filter_append,List.length_append]
 by_cases c : rd l (j : Int)≤m
 ·rw [if_pos c,List.filter_cons,if_pos (by simpa using c)];rfl
 rw [if_neg c,List.filter_cons,if_neg (by simpa using c)];rfl
theorem sjtAt_step {l : List Int} (h : OrdP l) {m : Nat} (hm : m < l.length) :(sjtAt (m + 1) l = if sjtAt m l % 2 = 0 then sjtAt m l * ((m : Int) + 1) + ((m : Int) - ((upto (m : Int) (l.take (l.idxOf ((m : Int) + 1)))).length : Int)) else sjtAt m l * ((m : Int) + 1) + ((upto (m : Int) (l.take (l.idxOf ((m : Int) + 1)))).length : Int))∧0≤sjtAt m l * ((m : Int) + 1)∧sjtAt m l * ((m : Int) + 1)≤6402373705728000∧0≤sjtAt m l:=by
 obtain ⟨r0,r1⟩:=ordP_range h (m:=m) (by omega)
 have b:=fact_le (n:=m + 1) (by have:=h.1;omega)
 have e7:=fact_step m
 have h6 : sjtAt m l * ((m : Int) + 1)≤fact m * ((m : Int) + 1):=Int.mul_le_mul_of_nonneg_right (by omega) (by omega)
 refine⟨?_,Int.mul_nonneg r0 (by omega),by omega,r0⟩
 show _ + place m _ _ = _
 rw [idx_upto (ordP_has h hm)]
 unfold place
 split <;> rfl
theorem orderAt_l1 {l : List Int} (h : OrdP l) {m : Nat} (hm : m < l.length) {r : Int} (hr : Ev (fun k=>turns_orderAt.l0 k l (sjtAt (m + 1) l) (l.length : Int) ((m + 1 : Nat) : Int)) r) {b : List Int} (hb : b = l.take (l.idxOf ((m : Int) + 1))) : ∀ e j : Nat,j + e = b.length→Ev (fun k=>turns_orderAt.l1 k l (sjtAt m l) (m : Int) ((upto (m : Int) (b.take j)).length : Int) (l.length : Int) (m : Int) b (b.length : Int) (j : Int)) r:=by
 have h18:=h.1
 have hbl : b.length≤l.length:=by rw [hb,List.length_take];omega
 have hub : ∀ j,(upto (m : Int) (b.take j)).length≤b.length:=fun j=>by
  unfold upto
  exact Nat.le_trans (List.length_filter_le _ _) (by rw [List.length_take];omega)
 obtain ⟨hv,v0,v1,v2⟩:=sjtAt_step h hm
 rw [← hb] at hv
 intro e
 induction e with
 | zero =>
  intro j hj
  have hu:=hub j
  obtain ⟨c,hc⟩ : ∃ c,(upto (m : Int) (b.take j)).length = c:=⟨_,rfl⟩
  rw [List.take_of_length_le (show b.length≤j by omega)] at hc hu ⊢
  rw [hc] at hv hu
  rw [hc]
  have hm2 : Int.tmod (sjtAt m l) 2 = sjtAt m l % 2:=Int.tmod_eq_emod_of_nonneg v2
  generalize sjtAt m l = R at *
  refine Ev.step (fun k=>?_) hr
  simp only [turns_orderAt.l1]
  rw [if_neg (by omega),hm2,w64 (x:=(m : Int) + 1) (by omega) (by omega),w64 (x:=R * ((m : Int) + 1)) (by omega) (by omega)]
  by_cases c2 : R % 2 = 0
  rotate_left
  ·rw [if_neg c2] at hv ⊢
   rw [w64 (x:=R * ((m : Int) + 1) + (c : Int)) (by omega) (by omega),← hv]
   rfl
  rw [if_pos c2] at hv ⊢
  rw [w64 (x:=(m : Int) - (c : Int)) (by omega) (by omega),w64 (x:=R * ((m : Int) + 1) + ((m : Int) - (c : Int))) (by omega) (by omega),← hv]
  rfl
 | succ e ih =>
  intro j hj
  have hs:=upto_snoc (m:=(m : Int)) (l:=b) (j:=j) (by omega)
  have hu:=hub j
  have hih:=ih (j + 1) (by omega)
  rw [hs] at hih
  generalize (upto (m : Int) (b.take j)).length = c at *
  refine Ev.step (fun k=>?_) hih
  simp only [turns_orderAt.l1]
  rw [if_pos (by omega),if_pos (by omega),if_pos (by omega),succ64 j (by omega)]
  by_cases c2 : rd b (j : Int) ≤(m : Int)
  rotate_left
  ·rw [if_neg c2, if_neg c2]
   rfl
  rw [if_pos c2,if_pos c2,succ64 c (by omega)]
theorem orderAt_l0 {l : List Int} (h : OrdP l) : ∀ e m : Nat,m + e = l.length→Ev (fun k=>turns_orderAt.l0 k l (sjtAt m l) (l.length : Int) (m : Int)) (sjtAt l.length l):=by
 intro e
 have h18:=h.1
 induction e with
 | zero =>
  intro m hm
  obtain rfl : m = l.length:=by omega
  refine Ev.step (f:=fun _=>some (sjtAt l.length l)) (fun k=>?_) (Ev.now _)
  simp only [turns_orderAt.l0]
  rw [if_neg (by omega)]
 | succ e ih =>
  intro m hm
  have hx:=ordP_has h (m:=m) (by omega)
  obtain ⟨_,_,hi⟩:=split_at hx
  have hI:=index_ev l (by omega) ((m : Int) + 1)
  rw [if_pos hx] at hI
  have h1:=orderAt_l1 h (m:=m) (by omega) (ih (m + 1) (by omega)) rfl (l.take (l.idxOf ((m : Int) + 1))).length 0 (by omega)
  refine Ev.step (f:=fun k=>(slices_Index_int_int.f k l ((m : Int) + 1)).bind fun t513=>(if 0≤t513 then(if t513 ≤(l.length : Int) then(turns_orderAt.l1 k l (sjtAt m l) (m : Int) 0 (l.length : Int) (m : Int) (l.take (t513 : Int).toNat) ((l.take (t513 : Int).toNat).length : Int) 0) else(none)) else(none))) (fun k=>?_) ?_
  ·simp only [turns_orderAt.l0]
   rw [if_pos (by omega),w64 (x:=(m : Int) + 1) (by omega) (by omega)]
  refine Ev.bind (f:=fun k (t : Int)=>_) hI ?_
  refine Ev.congr (fun k=>?_) h1
  rw [if_pos (by omega),if_pos (by omega),show((l.idxOf ((m : Int) + 1) : Int)).toNat = l.idxOf ((m : Int) + 1) by omega]
  rfl
theorem orderAt_ev {l : List Int} (h : OrdP l) : Ev (fun k=>turns_orderAt.f k l) (sjtAt l.length l):=orderAt_l0 h l.length 0 (by omega)
theorem ref_insert {l : List Int} (hl : l.length≤100) {p : Nat} (hp : p≤l.length) (x : Int) :(if 0 ≤(p : Int) then(if(p : Int) ≤(l.length : Int) then((some (l.take ((p : Int)).toNat : List Int)).bind fun y521=>(if([] : List Int).length + y521.length < 17592186044416 then((some (([] : List Int) ++ y521 : List Int)).bind fun y525=>(if y525.length < 17592186044416 then((some (y525 ++ [x] : List Int)).bind fun y528=>((some (l.drop ((p : Int)).toNat : List Int)).bind fun y531=>(if y528.length + y531.length < 17592186044416 then(some (y528 ++ y531)) else(none)))) else(none))) else(none))) else(none)) else(none)) = some (ins l p x):=by
 rw [if_pos (by omega),if_pos (by omega),show((p : Int)).toNat = p by omega]
 simp only [Option.bind_some,List.nil_append]
 have h1 :(l.take p).length≤100:=by rw [List.length_take];omega
 have h2 :(l.drop p).length≤100:=by rw [List.length_drop];omega
 rw [if_pos (by simp;omega),if_pos (by omega),if_pos (by rw [List.length_append];simp;omega)]
 unfold ins
 rw [List.append_assoc]
 rfl
theorem refOrder_ev : ∀ (n : Nat) (a : Int), n ≤ 18 → 0 ≤ a → a < fact n → Ev (fun k => q10_Order.f k (n : Int) a) (sjt n a)
 | 0,a,_,_,_=>by
  refine Ev.step (f:=fun _=>some []) (fun k=>?_) (Ev.now _)
  simp only [q10_Order.f]
  rw [if_pos (by simp)]
 | n + 1,a,hn,h0,h1=>by
  have b:=fact_le (n:=n + 1) hn
  have hpos :(0 : Int) < (n : Int) + 1:=by omega
  have ecast :((n + 1 : Nat) : Int) =(n : Int) + 1:=rfl
  have r0 : 0≤a / ((n : Int) + 1):=Int.ediv_nonneg h0 (by omega)
  have r1 : a / ((n : Int) + 1) < fact n:=Int.ediv_lt_of_lt_mul hpos (by rw [Int.mul_comm];exact h1)
  have b2:=fact_le (n:=n) (by omega)
  have p0:=Int.emod_nonneg a (show(n : Int) + 1≠0 by omega)
  have p1:=Int.emod_lt_of_pos a hpos
  have ed : Int.tdiv a ((n : Int) + 1) = a / ((n : Int) + 1):=Int.tdiv_eq_ediv_of_nonneg h0
  have em : Int.tmod a ((n : Int) + 1) = a % ((n : Int) + 1):=Int.tmod_eq_emod_of_nonneg h0
  have em2 : Int.tmod (a / ((n : Int) + 1)) 2 =(a / ((n : Int) + 1)) % 2:=Int.tmod_eq_emod_of_nonneg r0
  have es : sjt (n + 1) a = ins (sjt n (a / ((n : Int) + 1))) (place n (a / ((n : Int) + 1)) (a % ((n : Int) + 1))).toNat ((n : Int) + 1):=rfl
  have ih:=refOrder_ev n (a / ((n : Int) + 1)) (by omega) r0 r1
  have hlen:=sjt_len n (a / ((n : Int) + 1))
  have wR : wrap64 (a / ((n : Int) + 1)) = a / ((n : Int) + 1):=w64 (by omega) (by omega)
  have wN : wrap64 ((n : Int) + 1 - 1) =(n : Int):=by rw [w64 (by omega) (by omega)];omega
  rw [es]
  generalize a / ((n : Int) + 1) = R at *
  generalize a % ((n : Int) + 1) = M at *
  have wM : wrap64 ((n : Int) - M) =(n : Int) - M:=w64 (by omega) (by omega)
  obtain ⟨p,hp⟩ : ∃ p : Nat,place n R M = p:=⟨(place n R M).toNat,by have:=(place_range (n:=n) (r:=R) p0 (by omega)).1;omega⟩
  have hpn : p≤n:=by have:=(place_range (n:=n) (r:=R) p0 (by omega)).2;omega
  have hq : ∀ k : Nat,q10_Order.f (k + 1) ((n + 1 : Nat) : Int) a =(q10_Order.f k (n : Int) R).bind fun l=>(if 0 ≤(p : Int) then(if(p : Int) ≤(l.length : Int) then((some (l.take ((p : Int)).toNat : List Int)).bind fun y521=>(if([] : List Int).length + y521.length < 17592186044416 then((some (([] : List Int) ++ y521 : List Int)).bind fun y525=>(if y525.length < 17592186044416 then((some (y525 ++ [(n : Int) + 1] : List Int)).bind fun y528=>((some (l.drop ((p : Int)).toNat : List Int)).bind fun y531=>(if y528.length + y531.length < 17592186044416 then(some (y528 ++ y531)) else(none)))) else(none))) else(none))) else(none)) else(none)):=fun k=>by
   simp only [q10_Order.f]
   rw [ecast,if_neg (by omega),ed,em,wR,em2,wN]
   unfold place at hp
   by_cases c : R % 2 = 0
   ·rw [if_pos c] at hp
    rw [wM,hp]
    simp only [if_pos c]
   ·rw [if_neg c] at hp
    rw [hp]
    simp only [if_neg c]
  rw [hp,show((p : Int)).toNat = p by omega]
  exact Ev.step hq (Ev.bind (f:=fun k (l : List Int)=>_) ih (Ev.congr (fun k=>ref_insert (by omega) (by omega) _) (Ev.now _)))
theorem ordP_rest {n : Nat} {l : List Int} (h : OrdP l) (hl : l.length = n + 1) {p : Nat} (hp : l.idxOf ((n : Int) + 1) = p) :
  l = ins (l.take p ++ l.drop (p + 1)) p ((n : Int) + 1) ∧(l.take p ++ l.drop (p + 1)).length = n∧OrdP (l.take p ++ l.drop (p + 1))∧p≤n:=by
 have hx:=ordP_has h (m:=n) (by omega)
 obtain ⟨e,hn,hi⟩:=split_at hx
 rw [hp] at e hn hi
 have htl :(l.take p).length = p:=by rw [List.length_take];omega
 have hlen :(l.take p ++ l.drop (p + 1)).length = n:=by rw [List.length_append,htl,List.length_drop];omega
 have he : l = ins (l.take p ++ l.drop (p + 1)) p ((n : Int) + 1):=by
  unfold ins
  rw [List.take_append_of_le_length (by omega),List.take_of_length_le (by omega),List.drop_append,htl,Nat.sub_self,List.drop_zero,List.drop_eq_nil_of_le (show(l.take p).length≤p by omega),List.nil_append]
  exact e
 have hnd:=h.2.nodup
 rw [e] at hnd
 obtain ⟨d1,d2,d3⟩:=List.nodup_append.1 hnd
 obtain ⟨d4,d5⟩:=List.nodup_cons.1 d2
 refine⟨he,hlen,⟨by have:=h.1;omega,?_,List.nodup_append.2 ⟨d1,d5,fun x hx y hy=>d3 x hx y (List.mem_cons_of_mem _ hy)⟩⟩,by omega⟩
 intro x hx
 have hne : x ≠(n : Int) + 1:=by
  rcases List.mem_append.1 hx with hx | hx
  ·exact fun e=>hn (e ▸ hx)
  ·exact fun e=>d4 (e ▸ hx)
 have hm : x ∈ l:=by
  rcases List.mem_append.1 hx with hx | hx
  ·exact List.mem_of_mem_take hx
  ·exact List.mem_of_mem_drop hx
 have:=h.2.mem x hm
 rw [hlen]
 omega
theorem oa_val {n p : Nat} {R : Int} (hn : n≤18) (hp : p≤n) (r0 : 0≤R) (h7 : 0 ≤((n : Int) + 1) * R) (h8 :((n : Int) + 1) * R≤6402373705728000) :(if(Int.tmod R 2) = 0 then(some (wrap64 ((wrap64 (((n : Int) + 1) * R)) + (wrap64 ((wrap64 ((n : Int) + 1 - 1)) - (p : Int)))))) else(some (wrap64 ((wrap64 (((n : Int) + 1) * R)) + (p : Int))))) = some (((n : Int) + 1) * R + place n R (p : Int)):=by
 have hm2 : Int.tmod R 2 = R % 2:=Int.tmod_eq_emod_of_nonneg r0
 generalize ((n : Int) + 1) * R = Z at *
 rw [hm2,w64 (x:=Z) (by omega) (by omega),w64 (x:=(n : Int) + 1 - 1) (by omega) (by omega),w64 (x:=(n : Int) + 1 - 1 - (p : Int)) (by omega) (by omega)]
 unfold place
 by_cases c : R % 2 = 0
 rotate_left
 ·rw [if_neg c,if_neg c,w64 (by omega) (by omega)]
 rw [if_pos c,if_pos c,w64 (by omega) (by omega)]
 congr 1
 omega
theorem oa_step {n p : Nat} {l rest : List Int} (h18 : l.length≤18) (hi : p < l.length) (hrd : rd l (p : Int) =(n : Int) + 1) (hrest : l.take p ++ l.drop (p + 1) = rest) (k : Nat) : q10_OrderAt.l0 (k + 1) l ((n : Int) + 1) (p : Int) =(q10_OrderAt.f k rest).bind fun t568=>(if(Int.tmod t568 2) = 0 then(some (wrap64 ((wrap64 (((n : Int) + 1) * t568)) + (wrap64 ((wrap64 ((n : Int) + 1 - 1)) - (p : Int)))))) else(some (wrap64 ((wrap64 (((n : Int) + 1) * t568)) + (p : Int))))):=by
 have h1 :(l.take p).length≤18:=by rw [List.length_take];omega
 have h2 :(l.drop (p + 1)).length≤18:=by rw [List.length_drop];omega
 simp only [q10_OrderAt.l0]
 rw [if_pos (by omega),if_pos (by omega),if_pos hrd,if_pos (by omega),show((p : Int)).toNat = p by omega,if_pos (show([] : List Int).length + (l.take p).length < 17592186044416 by rw [List.length_nil,Nat.zero_add];omega)]
 rw [List.nil_append,Option.bind_some]
 rw [w64 (x:=(p : Int) + 1) (by omega) (by omega),if_pos (by omega),if_pos (by omega),show((p : Int) + 1).toNat = p + 1 by omega,if_pos (by omega),hrest]
theorem refOrderAt_ev (n : Nat) : ∀ (l : List Int),OrdP l→l.length = n→Ev (fun k=>q10_OrderAt.f k l) (sjtAt n l):=by
 induction n with
 | zero =>
  intro l h hl
  refine Ev.step (f:=fun _=>some 0) (fun k=>?_) (Ev.now _)
  simp only [q10_OrderAt.f]
  rw [if_pos (by omega)]
 | succ n ihn =>
  intro l h hl
  have h18:=h.1
  obtain ⟨p,hp⟩ : ∃ p,l.idxOf ((n : Int) + 1) = p:=⟨_,rfl⟩
  obtain ⟨he,hlen,hR,hpn⟩:=ordP_rest h hl hp
  have hx:=ordP_has h (m:=n) (by omega)
  obtain ⟨_,hno,hi⟩:=split_at hx
  rw [hp] at hno hi
  have hrd : rd l (p : Int) =(n : Int) + 1:=by rw [rd_lt l p hi];subst hp;exact List.getElem_idxOf _
  obtain ⟨rest,hrest⟩ : ∃ r,l.take p ++ l.drop (p + 1) = r:=⟨_,rfl⟩
  rw [hrest] at he hlen hR
  have ih:=ihn rest hR hlen
  have er : sjtAt n rest = sjtAt n l:=by
   rw [← sjtAt_upto n n l (Int.le_refl _),← sjtAt_upto n n rest (Int.le_refl _)]
   conv=>rhs;rw [he]
   rw [upto_ins_lt (by omega)]
  obtain ⟨r0,r1⟩:=ordP_range h (m:=n) (by omega)
  have b:=fact_le (n:=n + 1) (by omega)
  have e7:=fact_step n
  have h6 : sjtAt n l * ((n : Int) + 1)≤fact n * ((n : Int) + 1):=Int.mul_le_mul_of_nonneg_right (by omega) (by omega)
  have h7 : 0 ≤((n : Int) + 1) * sjtAt n l:=Int.mul_nonneg (by omega) r0
  have hcomm :((n : Int) + 1) * sjtAt n l = sjtAt n l * ((n : Int) + 1):=Int.mul_comm _ _
  have hv : sjtAt (n + 1) l =((n : Int) + 1) * sjtAt n l + place n (sjtAt n l) (p : Int):=by
   show sjtAt n l * ((n : Int) + 1) + place n (sjtAt n l) _ = _
   rw [upto_all (fun x hx=>by have:=h.2.mem x hx;omega),hp,hcomm]
  have h8 :((n : Int) + 1) * sjtAt n l≤6402373705728000:=by omega
  have hend : Ev (fun k=>q10_OrderAt.l0 k l ((n : Int) + 1) (p : Int)) (sjtAt (n + 1) l):=by
   rw [er] at ih
   rw [hv]
   exact Ev.step (oa_step h18 hi hrd hrest) (Ev.bind (f:=fun k (t : Int)=>_) ih (Ev.congr (fun k=>oa_val (by omega) hpn r0 h7 h8) (Ev.now _)))
  clear h8 h7 h6 e7 b hcomm r1 r0 er hv ih
  have hloop : ∀ e j : Nat,j + e = p→Ev (fun k=>q10_OrderAt.l0 k l ((n : Int) + 1) (j : Int)) (sjtAt (n + 1) l):=by
   intro e
   induction e with
   | zero =>
    intro j hj
    obtain rfl : j = p:=by omega
    exact hend
   | succ e ih2 =>
    intro j hj
    have hne : ¬ rd l (j : Int) =(n : Int) + 1:=fun e=>hno ((mem_take_rd (by omega)).2 ⟨j,by omega,e⟩)
    refine Ev.step (fun k=>?_) (ih2 (j + 1) (by omega))
    simp only [q10_OrderAt.l0]
    rw [if_pos (by omega),if_pos (by omega),if_neg hne,succ64 j (by omega)]
  refine Ev.step (fun k=>?_) (hloop p 0 (by omega))
  have e1 :(l.length : Int) =(n : Int) + 1:=by omega
  have e0 :((0 : Nat) : Int) = 0:=by decide
  simp only [q10_OrderAt.f]
  rw [if_neg (by omega),e1,e0]
theorem turn_l0 {q l : List Int} {n : Nat} (hn : n≤18) (hq : q.length = n) (hl : l.length = n) : ∀ e i : Nat,i + e = n→Ev (fun k=>q10_Turn.l0 k l (n : Int) q (i : Int)) (turnGo q l e i):=by
 intro e
 induction e with
 | zero =>
  intro i h
  refine Ev.step (f:=fun _=>some (-1,-1)) (fun k=>?_) (Ev.now _)
  simp only [q10_Turn.l0]
  rw [if_neg (by omega)]
 | succ e ih =>
  intro i h
  have eg : turnGo q l (e + 1) i = if rd q (i : Int) = rd l (i : Int) then turnGo q l e (i + 1) else((i : Int),(i : Int) + 1):=rfl
  rw [eg]
  by_cases c : rd q (i : Int) = rd l (i : Int)
  ·rw [if_pos c]
   refine Ev.step (fun k=>?_) (ih (i + 1) (by omega))
   simp only [q10_Turn.l0]
   rw [if_pos (by omega),if_pos (by omega),if_pos (by omega),if_pos (by omega),if_pos c,succ64 i (by omega)]
  rw [if_neg c]
  refine Ev.step (f:=fun _=>some ((i : Int),(i : Int) + 1)) (fun k=>?_) (Ev.now _)
  simp only [q10_Turn.l0]
  rw [if_pos (by omega),if_pos (by omega),if_pos (by omega),if_pos (by omega),if_neg c,w64 (x:=(i : Int) + 1) (by omega) (by omega)]
def turnVal (l : List Int) : Int×Int:=if sjtAt l.length l + 1 = fact l.length then(-1,-1) else turnGo (sjt l.length (sjtAt l.length l + 1)) l l.length 0
theorem refTurn_ev {l : List Int} (h : OrdP l) : Ev (fun k=>q10_Turn.f k l) (turnVal l):=by
 obtain ⟨r0,r1⟩:=ordP_range h (m:=l.length) (Nat.le_refl _)
 have h18:=h.1
 have b:=fact_le (n:=l.length) h18
 have hA:=refOrderAt_ev l.length l h rfl
 unfold turnVal
 refine Ev.bind (f:=fun k (t : Int)=>_) hA ?_
 refine Ev.bind (f:=fun k (t : Int)=>_) (factorial_ev h18) ?_
 rw [w64 (x:=sjtAt l.length l + 1) (by omega) (by omega)]
 by_cases c : sjtAt l.length l + 1 = fact l.length
 ·rw [show (if sjtAt l.length l + 1 = fact l.length then ((-1 : Int), (-1 : Int)) else turnGo (sjt l.length (sjtAt l.length l + 1)) l l.length 0) = (-1, -1) from if_pos c]
  exact Ev.congr (fun k=>if_pos (by omega)) (Ev.now _)
 rw [show(if sjtAt l.length l + 1 = fact l.length then((-1 : Int),(-1 : Int)) else turnGo (sjt l.length (sjtAt l.length l + 1)) l l.length 0) = _ from if_neg c]
 refine Ev.congr (fun k=>if_neg (by omega)) ?_
 refine Ev.bind (f:=fun k (t : List Int)=>_) (refOrder_ev l.length (sjtAt l.length l + 1) h18 (by omega) (by omega)) ?_
 exact turn_l0 h18 (sjt_len _ _) rfl l.length 0 (by omega)
theorem Turn_ev (l : List Int) : Ev (fun k=>turns_Turn.f k l) (if OrdP l then((turnVal l).1,(turnVal l).2,0) else(0,0,2)):=by
 refine Ev.bind (f:=fun k (b : Bool)=>_) (isOrder_ev l) ?_
 by_cases c : OrdP l
 rotate_left
 ·rw [decide_eq_false c, if_neg c]
  exact Ev.congr (fun k=>if_neg (by decide)) (Ev.now _)
 obtain ⟨r0,r1⟩:=ordP_range c (m:=l.length) (Nat.le_refl _)
 rw [decide_eq_true c,if_pos c]
 refine Ev.congr (fun k=>(if_pos rfl).trans (if_pos c.1)) ?_
 refine Ev.bind (f:=fun k (t : Int)=>_) (orderAt_ev c) ?_
 refine Ev.congr (fun k=>if_pos ⟨r0,r1⟩) ?_
 unfold turnVal
 by_cases c1 : sjtAt l.length l + 1 = fact l.length
 ·refine Ev.congr (fun k => if_pos c1) ?_
  rw [if_pos c1]
  exact Ev.now _
 refine Ev.congr (fun k=>if_neg c1) ?_
 rw [if_neg c1]
 exact Ev.now _
theorem OrderAt_ev (l : List Int) : Ev (fun k=>turns_OrderAt.f k l) (if OrdP l then(sjtAt l.length l,0) else(0,2)):=by
 refine Ev.bind (f:=fun k (b : Bool)=>_) (isOrder_ev l) ?_
 by_cases c : OrdP l
 rotate_left
 ·rw [decide_eq_false c, if_neg c]
  exact Ev.congr (fun k=>if_neg (by decide)) (Ev.now _)
 rw [decide_eq_true c,if_pos c]
 refine Ev.congr (fun k=>if_pos rfl) ?_
 exact Ev.bind (f:=fun k (t : Int)=>some (t,(0 : Int))) (orderAt_ev c) (Ev.now _)
theorem ord_j1 (s : List Int) (hs : s.length≤42) : ∀ p q t1 t2 t3 : Int,(if OrdP s then(sjtAt s.length s,(0 : Int)) else(0,2)) =(p,q) →(if OrdP s then((turnVal s).1,(turnVal s).2,(0 : Int)) else(0,0,2)) =(t1,t2,t3)→Ev (fun k=>w10_TurnsOrders.j1 k s p q t3 t1 t2) true:=by
 intro p q t1 t2 t3 e f
 have h1:=orders_ev hs
 by_cases c : OrdP s
 rotate_left
 ·rw [if_neg c] at e f
  simp only [Prod.mk.injEq] at e f
  obtain ⟨rfl,rfl⟩:=e
  obtain ⟨rfl,rfl,rfl⟩:=f
  rw [decide_eq_false c] at h1
  refine Ev.step (fun k=>rfl) ?_
  refine Ev.bind (f:=fun k (t : Bool)=>_) h1 ?_
  refine Ev.congr (fun k=>if_neg (by decide)) ?_
  refine Ev.congr (fun k=>if_pos rfl) ?_
  refine Ev.congr (fun k=>if_pos rfl) ?_
  refine Ev.congr (fun k=>if_pos rfl) ?_
  exact Ev.congr (fun k=>if_pos rfl) awake_some
 rw [if_pos c] at e f
 simp only [Prod.mk.injEq] at e f
 obtain ⟨rfl,rfl⟩:=e
 obtain ⟨rfl,rfl,rfl⟩:=f
 rw [decide_eq_true c] at h1
 refine Ev.step (fun k=>rfl) ?_
 refine Ev.bind (f:=fun k (t : Bool)=>_) h1 ?_
 refine Ev.congr (fun k=>if_pos rfl) ?_
 refine Ev.bind (f:=fun k (t : Int)=>_) (refOrderAt_ev s.length s c rfl) ?_
 refine Ev.congr (fun k=>if_pos rfl) ?_
 refine Ev.congr (fun k=>if_pos rfl) ?_
 refine Ev.bind (f:=fun k (t : Int×Int)=>_) (refTurn_ev c) ?_
 refine Ev.congr (fun k=>if_pos (by simp)) ?_
 exact Ev.congr (fun k=>if_pos rfl) awake_some
theorem ord_bad (n a : Int) (s : List Int) {p q t1 t2 t3 : Int} (h : Ev (fun k=>w10_TurnsOrders.j1 k s p q t3 t1 t2) true) : Ev (fun k=>w10_TurnsOrders.j0 k n a s [] 2 p q t3 true t1 t2) true:=by
 refine Ev.step (f:=fun k=>w10_TurnsOrders.j1 k s p q t3 t1 t2) (fun k=>?_) h
 simp only [w10_TurnsOrders.j0]
 rw [if_pos trivial,if_pos (by rfl),if_pos trivial]
theorem turnsOrders_law (n a : Int) (l2 : List Int) : ∃ k,w10_TurnsOrders.f k n a l2 = some true:=by
 refine Ev.rounds ?_
 have hl :(l2.take 42).length≤42:=by rw [List.length_take];omega
 obtain ⟨s,es⟩ : ∃ d,l2.take 42 = d:=⟨_,rfl⟩
 rw [es] at hl
 obtain ⟨p,q,e⟩ : ∃ p q,(if OrdP s then(sjtAt s.length s,(0 : Int)) else(0,2)) =(p,q):=⟨_,_,rfl⟩
 obtain ⟨t1,t2,t3,e2⟩ : ∃ t1 t2 t3,(if OrdP s then((turnVal s).1,(turnVal s).2,(0 : Int)) else(0,0,2)) =(t1,t2,t3):=⟨_,_,_,rfl⟩
 have h1:=ord_j1 s hl p q t1 t2 t3 e e2
 have hA:=OrderAt_ev s
 have hT:=Turn_ev s
 rw [e] at hA
 rw [e2] at hT
 unfold w10_TurnsOrders.f w10_list.f turns_Order.f
 rw [es]
 simp only [Option.bind_some]
 by_cases c : 0≤n∧n≤18
 rotate_left
 ·rw [if_neg (fun h => c ⟨h.1, h.2.1⟩)]
  refine Ev.bind (f:=fun k (t : Int×Int)=>_) hA ?_
  refine Ev.bind (f:=fun k (t : Int×Int×Int)=>_) hT ?_
  by_cases c1 : n < 0
  ·exact Ev.congr (fun k=>if_pos c1) (ord_bad _ _ _ h1)
  refine Ev.congr (fun k=>if_neg c1) ?_
  exact Ev.congr (fun k=>if_pos (by omega)) (ord_bad _ _ _ h1)
 obtain ⟨m,rfl⟩ : ∃ m : Nat,n = m:=⟨n.toNat,by omega⟩
 rw [show((m : Int)).toNat = m by omega]
 have hm : m≤18:=by omega
 have c0 : ¬ (m : Int) < 0:=by omega
 have c18 : ¬ (m : Int) > 18:=by omega
 by_cases ca : 0≤a∧a≤fact m - 1
 rotate_left
 ·rw [if_neg (fun h => ca ⟨h.2.2.1, h.2.2.2⟩)]
  refine Ev.bind (f:=fun k (t : Int×Int)=>_) hA ?_
  refine Ev.bind (f:=fun k (t : Int×Int×Int)=>_) hT ?_
  refine Ev.congr (fun k=>if_neg c0) ?_
  refine Ev.congr (fun k=>if_neg c18) ?_
  by_cases c1 : a < 0
  ·exact Ev.congr (fun k=>if_pos c1) (ord_bad _ _ _ h1)
  refine Ev.congr (fun k=>if_neg c1) ?_
  refine Ev.bind (f:=fun k (t : Int)=>_) (factorial_ev hm) ?_
  rw [show decide (a ≥ fact m) = true from decide_eq_true (by omega)]
  exact ord_bad _ _ _ h1
 rw [if_pos ⟨c.1,c.2,ca.1,ca.2⟩]
 refine Ev.bind (f:=fun k (t : Int×Int)=>_) hA ?_
 refine Ev.bind (f:=fun k (t : Int×Int×Int)=>_) hT ?_
 refine Ev.congr (fun k=>if_neg c0) ?_
 refine Ev.congr (fun k=>if_neg c18) ?_
 refine Ev.congr (fun k=>if_neg (by omega)) ?_
 refine Ev.bind (f:=fun k (t : Int)=>_) (factorial_ev hm) ?_
 rw [show decide (a ≥ fact m) = false from decide_eq_false (by omega)]
 refine Ev.step (f:=fun k=>(q10_Order.f k (m : Int) a).bind fun t591=>((w10_ints.f k (sjt m a) t591).bind fun t594=>(if t594 = true then(if(0 : Int) = 0 then(w10_TurnsOrders.j1 k s p q t3 t1 t2) else(some false)) else(some false)))) (fun k=>?_) ?_
 ·simp only [w10_TurnsOrders.j0]
  rw [if_neg (by decide)]
 refine Ev.bind (f:=fun k (t : List Int)=>_) (refOrder_ev m a hm ca.1 (by omega)) ?_
 have hi:=ints_ev (sjt m a) (sjt m a) (by rw [sjt_len];omega)
 rw [decide_eq_true rfl] at hi
 refine Ev.bind (f:=fun k (t : Bool)=>_) hi ?_
 refine Ev.congr (fun k=>if_pos rfl) ?_
 exact Ev.congr (fun k=>if_pos rfl) h1
end Go.Proofs.Ytbfhlaggllofdaa.P

namespace Go.Proofs.Ytbfhlaggllofdaa.Pure
open Go.RowKit Go.Proofs.Ytbfhlaggllofdaa.S Go.Proofs.YtbfhlaggllofdaaW.PrintWords Go.Proofs.YtbfhlaggllofdaaW.PrintLast
theorem TurnsOrders : w10_TurnsOrders.Pure:=fun a0 a1 l2 _ _ _ _ _=>P.turnsOrders_law a0 a1 l2
end Go.Proofs.Ytbfhlaggllofdaa.Pure
