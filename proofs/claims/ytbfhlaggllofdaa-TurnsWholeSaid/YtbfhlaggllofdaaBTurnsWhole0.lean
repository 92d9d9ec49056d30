-- Written by wip/bundle2.py: texts of this claim, one behind the other.
import Derived.WalkKit
import Derived.Deep.Draws
import Derived.Maps.OwnSet
import Derived.Maps.Views
import Derived.Test.YtbfhlaggllofdaaProg
import Derived.Below
import Derived.Deep.AppendLies
import Derived.Maps.AppendAt
import Derived.OwnWalk
import Derived.Laws.BytesArg
import Derived.Laws.MakeOwn
import Derived.Laws.OwnMore
import Derived.Deep.OwnRows
import Derived.Tactics
import Derived.Lib.ConvBytes
import Derived.Laws.Slices
import Derived.KernelRfl
import Derived.RowKit3
import Derived.Deep.LoopGhost
import Derived.Deep.QuietTactic
import Derived.BigQuiet
import Derived.WideLaws
import Derived.Deep.DeepCutAuto
import Derived.Deep.CutBlock
import Derived.Deep.RegionHeld3
import Derived.Laws.Rows
import Derived.Lib.AppendStr
import Derived.ArgAppend
import Derived.Laws.IdiomCopy
import Derived.OrdersHeld
import Derived.Laws.BitsLemmas
import Derived.RowKit
import Derived.Deep.DeepMust
import Derived.WalkSpells
import Derived.Laws.EntriesVeiled
import Derived.IntWalk
import Derived.Test.YtbfhlaggllofdaaVTurnsWholeWords
import Derived.Test.YtbfhlaggllofdaaVTurnsWholeLast
import Derived.Test.YtbfhlaggllofdaaVTurnsWholeTab
import Derived.Test.YtbfhlaggllofdaaVTurnsWholeApart
import Derived.Test.YtbfhlaggllofdaaVTurnsWholeFoot
import Derived.Test.YtbfhlaggllofdaaVTurnsWholeKept
import Derived.Test.YtbfhlaggllofdaaVTurnsWholeShare
import Derived.Test.YtbfhlaggllofdaaVTurnsWholeN
import Derived.Laws.StructEq
import Derived.Test.YtbfhlaggllofdaaVTurnsWholeRepsOne
import Derived.Test.YtbfhlaggllofdaaVTurnsWholeInv
import Derived.Test.YtbfhlaggllofdaaVTurnsWholeGuard
import Derived.Test.YtbfhlaggllofdaaVTurnsWholeMore
import Derived.BigRegion
import Derived.Laws.CopyOwn
import Derived.RangeFuncWrites
import Derived.RangeFuncLeaves
import Derived.RangeFuncCalls
import Derived.RangeFuncNested
import Derived.RangeFuncBound
import Derived.Shelf.Abstract
import Derived.Shelf.RegionOpen
import Derived.OwnWalkIn
import Derived.TacticsInMore
import Derived.LoopNIn
import Derived.LoopIn
import Derived.RangeFuncBox
import Derived.Shelf.Spec.SlicesInsertGrow
set_option linter.unusedVariables false
set_option linter.unusedSimpArgs false

namespace Go.Proofs.Ytbfhlaggllofdaa.Lib
open Go.Maps (Keyed IsMap Tidy)

/-- An element is held as it stands. -/
def Rv (v : Value) : Option (DataW Value×List MemPlace):=some (.held v,[])
/-- Block b of w is a map of m entries; at the key k it holds 'f k'. -/
def MapAt (w : World) (P : Program) (k : TypeId) (b m : Nat) (f : Value→Option Value) : Prop :=
 ∃ D,w.ownsMap P k Rv b m D∧Maps.size D = m∧∀ kv kl,keyOf P k kv = some kl→Maps.has D kl =(f kv).isSome∧∀ z : Value,D.atKey kl (.held z) = .held ((f kv).getD z)
theorem MapAt.lt {w : World} {P : Program} {k : TypeId} {b m : Nat} {f : Value→Option Value} (h : MapAt w P k b m f) : b < w.heap.size:=by
 obtain ⟨D,h1,_⟩:=h
 exact h1.lt
theorem MapAt.made (w : World) (P : Program) (k : TypeId) : MapAt (w.alloc (.map #[] 0)) P k w.heap.size 0 (fun _=>none) :=
 ⟨_,World.ownsMap_made w P k Rv,rfl,fun _ _ _=>⟨rfl,fun _=>rfl⟩⟩
theorem MapAt.congr {w : World} {P : Program} {k : TypeId} {b m : Nat} {f g : Value→Option Value} (h : MapAt w P k b m f) (e : ∀ kv kl,keyOf P k kv = some kl→f kv = g kv) : MapAt w P k b m g:=by
 obtain ⟨D,h1,h2,h3⟩:=h
 refine⟨D,h1,h2,fun kv kl hk=>?_⟩
 rw [← e kv kl hk]
 exact h3 kv kl hk
theorem MapAt.kept {w w' : World} {P : Program} {k : TypeId} {b m : Nat} {f : Value→Option Value} {row : Option Nat} (h : MapAt w P k b m f) (hg : w.grownBy w' row) (hne : some b≠row) : MapAt w' P k b m f:=by
 obtain ⟨D,h1,h2,h3⟩:=h
 exact⟨D,h1.kept hg hne,h2,h3⟩
theorem MapAt.block {w w' : World} {P : Program} {k : TypeId} {b m : Nat} {f : Value→Option Value} (h : MapAt w P k b m f) (hb : w'.heap[b]? = w.heap[b]?) : MapAt w' P k b m f:=by
 obtain ⟨D,⟨es,clock,h0,F,hs,hD⟩,h2,h3⟩:=h
 exact⟨D,⟨es,clock,hb.trans h0,F,hs,hD⟩,h2,h3⟩
theorem MapAt.drewN {w : World} {P : Program} {k : TypeId} {b m : Nat} {f : Value→Option Value} (h : MapAt w P k b m f) (n : Nat) : MapAt (w.drewN n) P k b m f:=h.block rfl
theorem MapAt.drew {w : World} {P : Program} {k : TypeId} {b m : Nat} {f : Value→Option Value} (h : MapAt w P k b m f) : MapAt w.drew P k b m f:=h.block rfl
theorem MapAt.alloc {w : World} {P : Program} {k : TypeId} {b m : Nat} {f : Value→Option Value} (h : MapAt w P k b m f) (o : Obj) : MapAt (w.alloc o) P k b m f:=by
 obtain ⟨D,h1,h2,h3⟩:=h
 exact⟨D,h1.alloc o,h2,h3⟩
theorem MapAt.setCell {w : World} {P : Program} {k : TypeId} {b m : Nat} {f : Value→Option Value} (h : MapAt w P k b m f) {a : Addr} (ha : b≠a.block) (u : Value) : MapAt (w.setCell a u) P k b m f:=by
 obtain ⟨D,h1,h2,h3⟩:=h
 exact⟨D,h1.setCell ha u,h2,h3⟩
theorem MapAt.below {w w' : World} {P : Program} {k : TypeId} {b m : Nat} {f : Value→Option Value} (h : MapAt w P k b m f) (hb : Go.RowKit.Below w.heap.size w w') : MapAt w' P k b m f:=h.block (hb.block b h.lt)
section
variable {w : World} {P : Program} {t k e : TypeId} {b m : Nat} {f : Value → Option Value}

/-- What a store makes of f. -/
theorem put_fact (K : Keyed P k) {D : DataW Value} (hD : Tidy D) (h2 : Maps.size D = m) (h3 : ∀ kv kl, keyOf P k kv = some kl → Maps.has D kl = (f kv).isSome ∧ ∀ z : Value, D.atKey kl (.held z) = .held ((f kv).getD z))
  {key val : Value} {kl : Lit} (hkey : keyOf P k key = some kl) {f' : Value→Option Value} (e1 : f' key = some val) (e2 : ∀ v,v≠key→f' v = f v) :
  Maps.size (D.put kl (.held val)) =(if(f key).isSome then m else m + 1)∧∀ kv kl',keyOf P k kv = some kl'→Maps.has (D.put kl (.held val)) kl' =(f' kv).isSome∧∀ z : Value,(D.put kl (.held val)).atKey kl' (.held z) = .held ((f' kv).getD z):=by
 refine⟨by rw [Maps.size_put hD,(h3 key kl hkey).1,h2],fun kv kl' hk'=>?_⟩
 by_cases hne : kv = key
 ·subst hne
  rw [hkey] at hk'
  injection hk' with hk'
  subst hk'
  rw [e1]
  exact⟨Maps.has_put_same hD.isMap (K.key hkey) _,fun z=>Maps.atKey_put_same hD.isMap (K.key hkey) _ _⟩
 have hl : kl'≠kl:=fun e0=>hne (K.inj (e0 ▸ hk') hkey)
 rw [e2 kv hne]
 exact⟨(Maps.has_put_other hl _).trans (h3 kv kl' hk').1,fun z=>(Maps.atKey_put_other hl _ _).trans ((h3 kv kl' hk').2 z)⟩
theorem MapAt.bound {n : Nat} {D : DataW Value} (h : w.ownsMap P k Rv b n D) : w.ownsMap P k Rv b (Maps.size D) D:=by
 obtain ⟨es,clock,hb,F,hs,hD⟩:=h
 refine⟨es,clock,hb,F,?_,hD⟩
 rw [hD]
 simp [Maps.size,length_sorted]
/-- 'm[k] = v'. -/
theorem MapAt.store (h : MapAt w P k b m f) (K : Keyed P k) (ht : P.underlying t = some (.map k e)) (hm : m < maxLen) {key val : Value} {kl : Lit} (hkey : keyOf P k key = some kl) {f' : Value → Option Value} (e1 : f' key = some val) (e2 : ∀ v, v ≠ key → f' v = f v) :
  ∃ w',(Instr.mapUpdate t (.map (some b)) key val).run P w = .ok () w'∧MapAt w' P k b (if(f key).isSome then m else m + 1) f'∧w.grownBy w' (some b):=by
 obtain ⟨D,h1,h2,h3⟩:=h
 obtain ⟨w',hrun,h4,h5⟩:=h1.update K ht hm (val:=val) (d:=.held val) (ps:=[]) hkey rfl
 obtain ⟨h6,h7⟩:=put_fact K (h1.tidy K) h2 h3 hkey (val:=val) e1 e2
 exact⟨w',hrun,⟨_,h6 ▸ MapAt.bound h4,h6,h7⟩,h5⟩
end

section
variable {P : Program} (w : World) {ops : Array Oper} {rest : List Oper} {o : Oper} {a : Act} {Q : Exit → Act → World → Prop}

end

section
variable {P : Program} (W : World) {ops : Array Oper} {rest : List Oper} {o : Oper} {a : Act} {Q : Exit → Act → World → Prop}
end

end Go.Proofs.Ytbfhlaggllofdaa.Lib

namespace Go.Proofs.Ytbfhlaggllofdaa.S
open Go.Proofs.Ytbfhlaggllofdaa.Lib
open Go.Maps (Keyed)
open Go.RowKit Go.Proofs.YtbfhlaggllofdaaW.PrintWords Go.Proofs.YtbfhlaggllofdaaW.PrintLast Go.Proofs.YtbfhlaggllofdaaW.PrintMore
attribute [local go_sem] max2_int min2_int max_two min_two max_three min_three max_four min_four
set_option linter.unusedVariables false
set_option linter.unusedSimpArgs false

def errW : Option Int → Value
 | none=>.nilIface
 | some c=>.iface 0 (.int .i64 c)
theorem errW_none : errW none = .nilIface:=rfl
theorem errW_some (c : Int) : errW (some c) = .iface 0 (.int .i64 c):=rfl
theorem info3 :(Try.prog.info? 3).map (fun i=>(i.zero,i.size,i.bytes)) = some (some (.int .i64 0),1,8):=by kernel_rfl
-- the values' own types
def rd_L1 (xs : List (List Int)) (i : Int) :(List Int):=xs.getD i.toNat ([] : List Int)
theorem at_L1 {w : World} {A : Option Addr} {n : Nat} {xs : List (List Int)} (h : Kd.C (Kd.slice 3 (Kd.int .i64)) w A n xs) (i : Int) (h0 : 0≤i) (h1 : i < n) : ∃ ad A0 c0,A = some ad∧w.cell? (ad.add i.toNat) = some (.slice A0 (rd_L1 xs i).length c0) ∧(rd_L1 xs i).length≤c0 ∧(Kd.int .i64).C w A0 (rd_L1 xs i).length (rd_L1 xs i):=by
 obtain ⟨ad,c,e,_,hK,hc0⟩:=Kd.C_get h ([] : List Int) i h0 h1
 have hc : ∀ j u,c[j]? = some u→w.cell? (ad.add (i.toNat * 1 + j)) = some u:=hc0
 obtain ⟨A0,c0,rfl,l0,g0⟩:=hK
 exact⟨ad,A0,c0,e,by have hq:=hc 0 _ rfl;rwa [Nat.mul_one,Nat.add_zero] at hq,l0,g0⟩
end Go.Proofs.Ytbfhlaggllofdaa.S

namespace Go.Proofs.Ytbfhlaggllofdaa.T
open Go.RowKit Go.Proofs.YtbfhlaggllofdaaW.PrintWords Go.Proofs.YtbfhlaggllofdaaW.PrintLast Go.Proofs.YtbfhlaggllofdaaW.PrintMore
set_option linter.unusedVariables false
set_option linter.unusedSimpArgs false
/-- The first a of a + b have been done. -/
def mk_ (a b : Nat) : Array Bool:=(List.replicate a true ++ List.replicate b false).toArray
section
variable {P : Program} {md : Region.Mode} {ops : Array Oper} {Q : Exit → Act → World → Prop} {S : World → Prop} {ds : List Nat} {i b n : Nat} {N : Option Tmp} {oi : Oper} {v : Value} {a a' : Act} {w : World}
theorem pm_ (hi : ops[i]? = some oi) (hN : oi.dst = N) (hc : anyB md ops (mk_ i (b + 1)) (mk_ (i + 1) b) i = true) (hQ : ∀ c a w,Q (.panic c) (a.put oi.dst v) w→Q (.panic c) a w) (hy : Yields P ops oi v a) (ha : a.put N v = a') (h : wpAnyLast P md ops Q S ds n (mk_ (i + 1) b) a' w) : wpAnyLast P md ops Q S ds (n + 1) (mk_ i (b + 1)) a w :=
 pure_ (mk_ (i + 1) b) hi hN hc hQ hy ha h
theorem tm_ (hi : ops[i]? = some oi) (hN : oi.dst = N) (hc : takeB md ops ds (mk_ i (b + 1)) (mk_ (i + 1) b) i = true) (hQ : ∀ c a w,Q (.panic c) (a.put oi.dst v) w→Q (.panic c) a w) (hy : YieldsIf P ops S oi v a) (hS : S w) (ha : a.put N v = a') (h : wpAnyLast P md ops Q S ds n (mk_ (i + 1) b) a' w) : wpAnyLast P md ops Q S ds (n + 1) (mk_ i (b + 1)) a w :=
 take_ (mk_ (i + 1) b) hi hN hc hQ hy hS ha h
theorem px_ {l : Array Bool} {fuel : Nat} (l' : Array Bool) (hi : ops[i]? = some oi) (hN : oi.dst = N) (hc : anyB md ops l l' i = true) (hQ : ∀ c a w,Q (.panic c) (a.put oi.dst v) w→Q (.panic c) a w) (hy : Yields P ops oi v a) (ha : a.put N v = a') (h : wpAnyLast P md ops Q S ds fuel l' a' w) : wpAnyLast P md ops Q S ds (fuel + 1) l a w :=
 pure_ l' hi hN hc hQ hy ha h
theorem tx_ {l : Array Bool} {fuel : Nat} (l' : Array Bool) (hi : ops[i]? = some oi) (hN : oi.dst = N) (hc : takeB md ops ds l l' i = true) (hQ : ∀ c a w,Q (.panic c) (a.put oi.dst v) w→Q (.panic c) a w) (hy : YieldsIf P ops S oi v a) (hS : S w) (ha : a.put N v = a') (h : wpAnyLast P md ops Q S ds fuel l' a' w) : wpAnyLast P md ops Q S ds (fuel + 1) l a w :=
 take_ l' hi hN hc hQ hy hS ha h
theorem om_ (hi : ops[i]? = some oi) (hN : oi.dst = N) (hc : readyB md ops (mk_ i (b + 1)) (mk_ (i + 1) b) i = true) (hd : i ∉ ds)
  (h : ∀ K : Act→World→Prop,Shut (∀ a' w',S w' →(S w'→wpAnyLast P md ops Q S ds n (mk_ (i + 1) b) a' w')→K a' w')→if Region.wanted oi (yielded ops a.tmps) = true then Oper.wp P oi a w K Q else K (a.put N undef) w) :
  wpAnyLast P md ops Q S ds (n + 1) (mk_ i (b + 1)) a w :=
 one_ (mk_ (i + 1) b) hi hN hc hd h
end
/-- A call of a function value. -/
theorem goesV_ {P : Program} {ops : Array Oper} {Q : Exit → Act → World → Prop} {oi : Oper} {N : Option Tmp} {a : Act} {w : World} {K : Act → World → Prop} {f : FuncId} {fn : Func} {x : Operand} {cap : Array Value} {ys : Array Operand} {ts : Array TypeId} (hf : P.funcs[f]? = some fn) (hname : (fn.name == "runtime.NumGoroutine") = false) (hb : fn.body.isSome = true) (args : Array Value)
  (hw : Region.wanted oi (yielded ops a.tmps) = true) (hN : oi.dst = N) (hop : oi.op = .call { callee:=.value x,args:=ys,argTypes:=ts }) (hx : a.eval x = .func (.func f) #[] cap) (hargs : ys.map a.eval ++ cap = args)
  (h : Calls P f args w fun e w'=>∃ v,e = .returned v∧K (a.put N v) w') : if Region.wanted oi (yielded ops a.tmps) = true then Oper.wp P oi a w K Q else K (a.put N undef) w:=by
 refine call_ f args hw hN ?_ h
 have he:=enters_ hf hname hb args w
 unfold execOp
 simp [hop,resolve,Deferred.ofValue,invoke,hx,hargs,he]
end Go.Proofs.Ytbfhlaggllofdaa.T

namespace Go.Proofs.Ytbfhlaggllofdaa.G
def gray : Nat → Int → List Int
 | 0,_=>[]
 | n + 1,a=>if a < 2 ^ n then gray n a else gray n (2 * 2 ^ n - 1 - a) ++ [(n : Int) + 1]
def grayAt (l : List Int) : Nat → Int
 | 0=>0
 | m + 1=>if(m : Int) + 1 ∈ l then 2 * 2 ^ m - 1 - grayAt l m else grayAt l m
theorem pow_pos2 (n : Nat) :(1 : Int)≤2 ^ n:=by
 have : 0 < 2 ^ n:=Nat.pow_pos (by decide)
 have h :((2 ^ n : Nat) : Int) =(2 : Int) ^ n:=by simp
 omega
theorem gray_mem : ∀ (n : Nat) (a : Int) (x : Int), x ∈ gray n a → 1 ≤ x ∧ x ≤ n
 | 0,_,_,h=>by simp [gray] at h
 | n + 1,a,x,h=>by
  unfold gray at h
  split at h
  ·have:=gray_mem n _ x h;omega
  ·rcases List.mem_append.1 h with h | h
   ·have:=gray_mem n _ x h;omega
   ·simp at h;omega
theorem gray_sorted : ∀ (n : Nat) (a : Int), (gray n a).Pairwise (· < ·)
 | 0,_=>.nil
 | n + 1,a=>by
  unfold gray
  split
  ·exact gray_sorted n _
  ·refine List.pairwise_append.2 ⟨gray_sorted n _, by simp, fun x hx y hy => ?_⟩
   have:=gray_mem n _ x hx
   simp at hy;omega
theorem grayAt_congr {l l' : List Int} : ∀ m : Nat, (∀ x : Int, x ≤ m → (x ∈ l ↔ x ∈ l')) → grayAt l m = grayAt l' m
 | 0,_=>rfl
 | m + 1,h=>by
  have ih:=grayAt_congr m (fun x hx=>h x (by omega))
  have hm:=h ((m : Int) + 1) (by omega)
  unfold grayAt
  rw [ih]
  by_cases c :(m : Int) + 1 ∈ l
  ·rw [if_pos c,if_pos (hm.1 c)]
  ·rw [if_neg c,if_neg (fun h=>c (hm.2 h))]
theorem grayAt_gray : ∀ (n : Nat) (a : Int), 0 ≤ a → a < 2 ^ n → grayAt (gray n a) n = a
 | 0,a,h0,h1=>by simp at h1;simp [grayAt];omega
 | n + 1,a,h0,h1=>by
  have h2 :(2 : Int) ^ (n + 1) = 2 * 2 ^ n:=by rw [Int.pow_succ];omega
  rw [h2] at h1
  unfold grayAt gray
  by_cases c : a < 2 ^ n
  ·rw [if_pos c, if_neg (fun h => by have := gray_mem n _ _ h; omega)]
   exact grayAt_gray n a h0 c
  ·rw [if_neg c, if_pos (by simp), grayAt_congr n (l' := gray n (2 * 2 ^ n - 1 - a)) (fun x hx => by simp; omega), grayAt_gray n _ (by omega) (by omega)]
   omega
def only (a b : List Int) : Nat:=(a.filter (fun x=>!(b.contains x))).length
def ch : Nat → Nat → Int
 | _,0=>1
 | 0,_ + 1=>0
 | n + 1,k + 1=>ch n k + ch n (k + 1)
theorem ch_zero (n : Nat) : ch n 0 = 1:=by cases n <;> rfl
theorem ch_succ (n k : Nat) : ch (n + 1) (k + 1) = ch n k + ch n (k + 1):=rfl
theorem ch_pos : ∀ (n k : Nat), k ≤ n → 1 ≤ ch n k
 | n,0,_=>by rw [ch_zero];decide
 | n + 1,k + 1,h=>by
  rw [ch_succ]
  have:=ch_pos n k (by omega)
  by_cases c : k + 1≤n
  ·have:=ch_pos n (k + 1) c;omega
  ·have : 0≤ch n (k + 1):=by
    have hz : ∀ (n k : Nat),0≤ch n k:=fun n=>by
     induction n with
     | zero=>intro k;cases k <;> simp [ch]
     | succ n ih => intro k; cases k with
      | zero=>rw [ch_zero];decide
      | succ k=>rw [ch_succ];have:=ih k;have:=ih (k + 1);omega
    exact hz n (k + 1)
   omega
theorem ch_big : ∀ (n k : Nat), n < k → ch n k = 0
 | 0,_ + 1,_=>rfl
 | n + 1,k + 1,h=>by rw [ch_succ,ch_big n k (by omega),ch_big n (k + 1) (by omega)];rfl
theorem ch_nonneg (n k : Nat) : 0≤ch n k:=by
 by_cases c : k≤n
 ·have:=ch_pos n k c;omega
 rw [ch_big n k (by omega)];decide
def chSum (n : Nat) : Nat → Int
 | 0=>0
 | j + 1=>chSum n j + ch n j
theorem chSum_succ (n : Nat) : ∀ j, chSum (n + 1) (j + 1) = chSum n j + chSum n (j + 1)
 | 0=>by simp [chSum,ch_zero]
 | j + 1=>by
  have:=chSum_succ n j
  have e : chSum (n + 1) (j + 1 + 1) = chSum (n + 1) (j + 1) + ch (n + 1) (j + 1):=rfl
  rw [e,this,ch_succ]
  simp only [chSum]
  omega
theorem chSum_all : ∀ n, chSum n (n + 1) = 2 ^ n
 | 0=>by simp [chSum,ch]
 | n + 1=>by
  have e : chSum n (n + 1 + 1) = chSum n (n + 1) + ch n (n + 1):=rfl
  rw [chSum_succ,e,ch_big n (n + 1) (by omega),chSum_all n,Int.pow_succ]
  omega
theorem chSum_mono (n : Nat) : ∀ j,chSum n j≤chSum n (j + 1):=fun j=>by
 have:=ch_nonneg n j
 show _≤chSum n j + ch n j
 omega
theorem ch_le (n : Nat) : ∀ k,k≤n→ch n k≤2 ^ n:=fun k h=>by
 have h0 : ∀ j,0≤chSum n j:=fun j=>by
  induction j with
  | zero=>exact Int.le_refl 0
  | succ j ih=>exact Int.le_trans ih (chSum_mono n j)
 have h1 : ∀ d,chSum n (k + 1)≤chSum n (k + 1 + d):=fun d=>by
  induction d with
  | zero=>exact Int.le_refl _
  | succ d ih=>exact Int.le_trans ih (chSum_mono n _)
 have:=h1 (n - k)
 rw [show k + 1 + (n - k) = n + 1 by omega,chSum_all] at this
 have e : chSum n (k + 1) = chSum n k + ch n k:=rfl
 have:=h0 k
 omega
def door : Nat → Nat → Int → List Int
 | 0,_,_=>[]
 | _ + 1,0,_=>[]
 | n + 1,k + 1,a=>if a < ch n (k + 1) then door n (k + 1) a else door n k (ch (n + 1) (k + 1) - 1 - a) ++ [(n : Int) + 1]
def doorAt : List Int → Nat → Int → Int
 | [],_,a=>a
 | x :: s,k,a=>doorAt s (k + 1) (ch x.toNat (k + 1) - 1 - a)
theorem door_mem : ∀ (n k : Nat) (a x : Int), x ∈ door n k a → 1 ≤ x ∧ x ≤ n
 | 0,_,_,_,h=>by simp [door] at h
 | n + 1,0,_,_,h=>by simp [door] at h
 | n + 1,k + 1,a,x,h=>by
  unfold door at h
  split at h
  ·have:=door_mem n _ _ x h;omega
  ·rcases List.mem_append.1 h with h | h
   ·have:=door_mem n _ _ x h;omega
   ·simp at h;omega
theorem door_sorted : ∀ (n k : Nat) (a : Int), (door n k a).Pairwise (· < ·)
 | 0,_,_=>by simp [door]
 | n + 1,0,_=>by simp [door]
 | n + 1,k + 1,a=>by
  unfold door
  split
  ·exact door_sorted n _ _
  ·refine List.pairwise_append.2 ⟨door_sorted n _ _, by simp, fun x hx y hy => ?_⟩
   have:=door_mem n _ _ x hx
   simp at hy;omega
theorem door_len : ∀ (n k : Nat) (a : Int), 0 ≤ a → a < ch n k → (door n k a).length = k
 | 0,0,_,_,_=>rfl
 | 0,k + 1,a,h0,h1=>by simp [ch] at h1;omega
 | n + 1,0,_,_,_=>rfl
 | n + 1,k + 1,a,h0,h1=>by
  rw [ch_succ] at h1
  unfold door
  split
  ·exact door_len n (k + 1) a h0 (by assumption)
  ·rw [List.length_append, door_len n k _ (by rw [ch_succ]; omega) (by rw [ch_succ]; omega)]
   rfl
theorem doorAt_snoc : ∀ (l : List Int) (x : Int) (k : Nat) (a : Int), doorAt (l ++ [x]) k a = ch x.toNat (k + l.length + 1) - 1 - doorAt l k a
 | [],x,k,a=>rfl
 | y :: l,x,k,a=>by
  show doorAt (l ++ [x]) (k + 1) _ = _
  rw [doorAt_snoc l x (k + 1)]
  simp only [doorAt,List.length_cons]
  rw [show k + 1 + l.length + 1 = k + (l.length + 1) + 1 by omega]
theorem doorAt_door : ∀ (n k : Nat) (a : Int), 0 ≤ a → a < ch n k → doorAt (door n k a) 0 0 = a
 | 0,0,a,h0,h1=>by simp [ch] at h1;simp [door,doorAt];omega
 | 0,k + 1,a,h0,h1=>by simp [ch] at h1;omega
 | n + 1,0,a,h0,h1=>by simp [ch] at h1;simp [door,doorAt];omega
 | n + 1,k + 1,a,h0,h1=>by
  have hs:=h1
  rw [ch_succ] at h1
  unfold door
  split
  ·exact doorAt_door n (k + 1) a h0 (by assumption)
  ·have b0 : 0 ≤ ch (n + 1) (k + 1) - 1 - a := by omega
   have b1 : ch (n + 1) (k + 1) - 1 - a < ch n k:=by rw [ch_succ];omega
   rw [doorAt_snoc,door_len n k _ b0 b1,doorAt_door n k _ b0 b1,show((n : Int) + 1).toNat = n + 1 by omega,show 0 + k + 1 = k + 1 by omega]
   omega
def seq : Nat → List Int
 | 0=>[]
 | k + 1=>seq k ++ [(k : Int) + 1]
def bw : Nat → Nat → Int
 | 0,_=>1
 | m + 1,j=>(j : Int) * bw m j + bw m (j + 1)
theorem bw_pos : ∀ m j, 1 ≤ bw m j
 | 0,_=>by unfold bw;decide
 | m + 1,j=>by
  have h1:=bw_pos m j
  have h2:=bw_pos m (j + 1)
  have : 0 ≤(j : Int) * bw m j:=Int.mul_nonneg (by omega) (by omega)
  unfold bw;omega
def gOf (m u : Nat) (a : Int) : Nat:=(min (u : Int) (a / bw m u)).toNat
def grp : Nat → Nat → Int → List Int
 | 0,_,_=>[]
 | m + 1,u,a=>(gOf m u a : Int) :: grp m (max u (gOf m u a + 1)) (a - (gOf m u a : Int) * bw m u)
def grpAt : List Int → Nat → Int
 | [],_=>0
 | g :: l,u=>g * bw l.length u + grpAt l (max u (g.toNat + 1))
theorem grp_len : ∀ (m u : Nat) (a : Int), (grp m u a).length = m
 | 0,_,_=>rfl
 | m + 1,u,a=>by unfold grp;rw [List.length_cons,grp_len m]
theorem div_bw (m u : Nat) (a : Int) (h0 : 0≤a) : 0≤a / bw m u ∧(a / bw m u) * bw m u≤a∧a < (a / bw m u) * bw m u + bw m u:=by
 have hb:=bw_pos m u
 have h1:=Int.mul_ediv_add_emod a (bw m u)
 have h2:=Int.emod_nonneg a (show bw m u≠0 by omega)
 have h3:=Int.emod_lt_of_pos a (show 0 < bw m u by omega)
 rw [Int.mul_comm] at h1
 exact⟨Int.ediv_nonneg h0 (by omega),by omega,by omega⟩
/-- the two ways of a group: a new one, or one of those before -/
theorem gOf_cases (m u : Nat) (a : Int) (h0 : 0 ≤ a) (h1 : a < bw (m + 1) u) :
  (gOf m u a = u∧max u (gOf m u a + 1) = u + 1 ∧(u : Int) * bw m u≤a∧a - (gOf m u a : Int) * bw m u < bw m (u + 1)) ∨
  (gOf m u a < u∧max u (gOf m u a + 1) = u∧a < (u : Int) * bw m u∧a - (gOf m u a : Int) * bw m u < bw m u ∧(gOf m u a : Int) = a / bw m u):=by
 have hb:=bw_pos m u
 obtain ⟨d0,d1,d2⟩:=div_bw m u a h0
 unfold bw at h1
 by_cases c :(u : Int)≤a / bw m u
 ·have e : gOf m u a = u := by unfold gOf; omega
  have hm :(u : Int) * bw m u ≤(a / bw m u) * bw m u:=Int.mul_le_mul_of_nonneg_right c (by omega)
  exact .inl ⟨e,by omega,by omega,by rw [e];omega⟩
 have e :(gOf m u a : Int) = a / bw m u:=by unfold gOf;omega
 have hm :(a / bw m u + 1) * bw m u ≤(u : Int) * bw m u:=Int.mul_le_mul_of_nonneg_right (by omega) (by omega)
 rw [Int.add_mul,Int.one_mul] at hm
 exact .inr ⟨by omega,by omega,by omega,by rw [e];omega,e⟩
theorem gOf_rest (m u : Nat) (a : Int) (h0 : 0≤a) (h1 : a < bw (m + 1) u) : 0≤a - (gOf m u a : Int) * bw m u∧a - (gOf m u a : Int) * bw m u < bw m (max u (gOf m u a + 1)):=by
 obtain ⟨d0,d1,d2⟩:=div_bw m u a h0
 rcases gOf_cases m u a h0 h1 with ⟨e1,e2,e3,e4⟩ |⟨e1,e2,e3,e4,e5⟩
 ·rw [e2];rw [e1] at e4 ⊢;exact⟨by omega,e4⟩
 rw [e2];rw [e5] at e4 ⊢;exact⟨by omega,e4⟩
theorem grpAt_grp : ∀ (m u : Nat) (a : Int), 0 ≤ a → a < bw m u → grpAt (grp m u a) u = a
 | 0,u,a,h0,h1=>by simp [bw] at h1;simp [grp,grpAt];omega
 | m + 1,u,a,h0,h1=>by
  obtain ⟨r0,r1⟩:=gOf_rest m u a h0 h1
  unfold grp grpAt
  rw [grp_len,Int.toNat_natCast,grpAt_grp m _ _ r0 r1]
  omega
def prod : List Int → Int
 | []=>1
 | s :: d=>s * prod d
def turnD (size odd a : Int) : Int:=if odd % 2 = 1 then size - 1 - a else a
def dial : List Int → Int → List Int
 | [],_=>[]
 | _ :: d,a=>a / prod d :: dial d (turnD (prod d) (a / prod d) (a % prod d))
def dialAt : List Int → List Int → Int
 | _ :: d,x :: l=>x * prod d + turnD (prod d) x (dialAt d l)
 | _,_=>0
def isDial : List Int → List Int → Prop
 | [],[]=>True
 | s :: d,x :: l=>0≤x∧x < s∧isDial d l
 | _,_=>False
theorem prod_pos : ∀ {d : List Int}, (∀ s ∈ d, 1 ≤ s) → 1 ≤ prod d
 | [],_=>by decide
 | s :: d,h=>by
  have h1:=h s (by simp)
  have h2:=prod_pos (d:=d) (fun x hx=>h x (List.mem_cons_of_mem _ hx))
  have:=Int.mul_le_mul h1 h2 (by decide) (by omega)
  simpa [prod] using this
theorem turnD_range {size odd a : Int} (h0 : 0≤a) (h1 : a < size) : 0≤turnD size odd a∧turnD size odd a < size:=by unfold turnD;split <;> omega
theorem turnD_turnD (size odd a : Int) : turnD size odd (turnD size odd a) = a:=by unfold turnD;split <;> omega
theorem divD {P s a : Int} (hP : 1≤P) (h0 : 0≤a) (h1 : a < s * P) : 0≤a / P∧a / P < s∧0≤a % P∧a % P < P∧a = a / P * P + a % P:=by
 have:=Int.mul_ediv_add_emod a P
 rw [Int.mul_comm] at this
 exact⟨Int.ediv_nonneg h0 (by omega),Int.ediv_lt_of_lt_mul (by omega) h1,Int.emod_nonneg a (by omega),Int.emod_lt_of_pos a (by omega),this.symm⟩
theorem dial_len : ∀ (d : List Int) (a : Int), (dial d a).length = d.length
 | [],_=>rfl
 | _ :: d,a=>by unfold dial;rw [List.length_cons,dial_len d,List.length_cons]
theorem dialAt_dial : ∀ {d : List Int} {a : Int}, (∀ s ∈ d, 1 ≤ s) → 0 ≤ a → a < prod d → dialAt d (dial d a) = a
 | [],a,_,h0,h1=>by simp [prod] at h1;simp [dial,dialAt];omega
 | s :: d,a,h,h0,h1=>by
  have hP:=prod_pos (d:=d) (fun x hx=>h x (List.mem_cons_of_mem _ hx))
  obtain ⟨x0,x1,p0,p1,e⟩:=divD hP h0 h1
  obtain ⟨t0,t1⟩:=turnD_range (odd:=a / prod d) p0 p1
  unfold dial dialAt
  rw [dialAt_dial (fun x hx=>h x (List.mem_cons_of_mem _ hx)) t0 t1,turnD_turnD]
  omega
def ins (l : List Int) (p : Nat) (x : Int) : List Int:=l.take p ++ x :: l.drop p
/-- where the greatest number goes -/
def place (n : Nat) (r p : Int) : Int:=if r % 2 = 0 then(n : Int) - p else p
def sjt : Nat → Int → List Int
 | 0,_=>[]
 | n + 1,a=>ins (sjt n (a / ((n : Int) + 1))) (place n (a / ((n : Int) + 1)) (a % ((n : Int) + 1))).toNat ((n : Int) + 1)
def fact : Nat → Int
 | 0=>1
 | n + 1=>((n : Int) + 1) * fact n
theorem fact_pos : ∀ n, 1 ≤ fact n
 | 0=>by decide
 | n + 1=>by
  have h:=fact_pos n
  have:=Int.mul_le_mul (show(1 : Int) ≤(n : Int) + 1 by omega) h (by decide) (by omega)
  simpa [fact] using this
theorem ins_len (l : List Int) (p : Nat) (x : Int) :(ins l p x).length = l.length + 1:=by
 unfold ins
 rw [List.length_append,List.length_cons,List.length_take,List.length_drop]
 omega
theorem sjt_len : ∀ (n : Nat) (a : Int), (sjt n a).length = n
 | 0,_=>rfl
 | n + 1,a=>by unfold sjt;rw [ins_len,sjt_len n]
theorem mem_ins {l : List Int} {p : Nat} {x y : Int} : y ∈ ins l p x↔y = x∨y ∈ l:=by
 unfold ins
 rw [List.mem_append,List.mem_cons]
 constructor
 ·rintro (h | h | h)
  ·exact .inr (List.mem_of_mem_take h)
  ·exact .inl h
  exact .inr (List.mem_of_mem_drop h)
 rintro(h | h)
 ·exact .inr (.inl h)
 rw [← List.take_append_drop p l] at h
 rcases List.mem_append.1 h with h | h
 ·exact .inl h
 exact .inr (.inr h)
theorem sjt_mem : ∀ (n : Nat) (a x : Int), x ∈ sjt n a ↔ 1 ≤ x ∧ x ≤ n
 | 0,_,x=>by simp [sjt];omega
 | n + 1,a,x=>by
  unfold sjt
  rw [mem_ins,sjt_mem n]
  omega
/-- the numbers up to m, in their order -/
def upto (m : Int) (l : List Int) : List Int:=l.filter (fun x=>decide (x≤m))
def sjtAt : Nat → List Int → Int
 | 0,_=>0
 | m + 1,l=>sjtAt m l * ((m : Int) + 1) + place m (sjtAt m l) ((upto ((m : Int) + 1) l).idxOf ((m : Int) + 1))
theorem upto_upto {m k : Int} (h : m≤k) (l : List Int) : upto m (upto k l) = upto m l:=by
 unfold upto
 rw [List.filter_filter]
 refine List.filter_congr (fun x _=>?_)
 by_cases c : x≤m
 rotate_left
 ·simp [c]
 simp [c];omega
theorem sjtAt_upto : ∀ (m : Nat) (k : Int) (l : List Int), (m : Int) ≤ k → sjtAt m (upto k l) = sjtAt m l
 | 0,_,_,_=>rfl
 | m + 1,k,l,h=>by
  unfold sjtAt
  rw [sjtAt_upto m k l (by omega),upto_upto (by omega)]
theorem upto_ins_lt {l : List Int} {p : Nat} {x m : Int} (h : m < x) : upto m (ins l p x) = upto m l:=by
 unfold upto ins
 rw [List.filter_append,List.filter_cons,if_neg (by simp;omega),← List.filter_append,List.take_append_drop]
theorem upto_all {l : List Int} {m : Int} (h : ∀ x ∈ l,x≤m) : upto m l = l:=by
 unfold upto
 rw [List.filter_eq_self]
 intro x hx;simpa using h x hx
theorem idxOf_ins {l : List Int} {p : Nat} {x : Int} (hp : p≤l.length) (hx : x ∉ l) :(ins l p x).idxOf x = p:=by
 unfold ins
 rw [List.idxOf_append,if_neg (fun h=>hx (List.mem_of_mem_take h)),List.idxOf_cons_self,List.length_take]
 omega
theorem place_place (n : Nat) (r p : Int) : place n r (place n r p) = p:=by unfold place;split <;> omega
theorem place_range {n : Nat} {r p : Int} (h0 : 0≤p) (h1 : p≤n) : 0≤place n r p∧place n r p≤n:=by unfold place;split <;> omega
theorem sjtAt_sjt : ∀ (n : Nat) (a : Int), 0 ≤ a → a < fact n → sjtAt n (sjt n a) = a
 | 0,a,h0,h1=>by simp [fact] at h1;simp [sjtAt];omega
 | n + 1,a,h0,h1=>by
  have hn :(0 : Int) < (n : Int) + 1:=by omega
  have r0 : 0≤a / ((n : Int) + 1):=Int.ediv_nonneg h0 (by omega)
  have r1 : a / ((n : Int) + 1) < fact n:=Int.ediv_lt_of_lt_mul hn (by rw [Int.mul_comm];exact h1)
  have p0:=Int.emod_nonneg a (show(n : Int) + 1≠0 by omega)
  have p1:=Int.emod_lt_of_pos a hn
  have q:=place_range (n:=n) (r:=a / ((n : Int) + 1)) p0 (by omega)
  have hnot :(n : Int) + 1 ∉ sjt n (a / ((n : Int) + 1)):=fun h=>by have:=(sjt_mem n _ _).1 h;omega
  have e : sjt (n + 1) a = ins (sjt n (a / ((n : Int) + 1))) (place n (a / ((n : Int) + 1)) (a % ((n : Int) + 1))).toNat ((n : Int) + 1):=rfl
  have e1 : sjtAt n (sjt (n + 1) a) = a / ((n : Int) + 1):=by
   rw [← sjtAt_upto n n _ (Int.le_refl _),e,upto_ins_lt (by omega),sjtAt_upto n n _ (Int.le_refl _)]
   exact sjtAt_sjt n _ r0 r1
  have e2 :(upto ((n : Int) + 1) (sjt (n + 1) a)).idxOf ((n : Int) + 1) =(place n (a / ((n : Int) + 1)) (a % ((n : Int) + 1))).toNat:=by
   rw [upto_all (fun x hx=>by have:=(sjt_mem (n + 1) a x).1 hx;omega),e,idxOf_ins (by rw [sjt_len];omega) hnot]
  unfold sjtAt
  rw [e1,e2,Int.toNat_of_nonneg q.1,place_place]
  have:=Int.mul_ediv_add_emod a ((n : Int) + 1)
  rw [Int.mul_comm] at this
  exact this
theorem nodup_len : ∀ {l m : List Int}, l.Nodup → (∀ x ∈ l, x ∈ m) → l.length ≤ m.length
 | [],_,_,_=>Nat.zero_le _
 | x :: l,m,h,hs=>by
  obtain ⟨h1,h2⟩:=List.nodup_cons.1 h
  have hx:=hs x (by simp)
  have:=nodup_len (m:=m.erase x) h2 (fun y hy=>(List.mem_erase_of_ne (show y≠x from fun e=>h1 (e ▸ hy))).2 (hs y (List.mem_cons_of_mem _ hy)))
  rw [List.length_erase_of_mem hx] at this
  have:=List.length_pos_of_mem hx
  simp only [List.length_cons]
  omega
/-- y arises from x by an exchange of what stands at i and i + 1. -/
def Swap (x y : List Int) (i : Nat) : Prop:=∃ s a b t,s.length = i∧a≠b∧x = s ++ a :: b :: t∧y = s ++ b :: a :: t
theorem Swap.cons {x y : List Int} {i : Nat} (h : Swap x y i) (z : Int) : Swap (z :: x) (z :: y) (i + 1):=by
 obtain ⟨s,a,b,t,h1,h2,h3,h4⟩:=h
 exact⟨z :: s,a,b,t,by simp [h1],h2,by simp [h3],by simp [h4]⟩
theorem Swap.snoc {x y : List Int} {i : Nat} (h : Swap x y i) (z : Int) : Swap (x ++ [z]) (y ++ [z]) i:=by
 obtain ⟨s,a,b,t,h1,h2,h3,h4⟩:=h
 exact⟨s,a,b,t ++ [z],h1,h2,by simp [h3],by simp [h4]⟩
end Go.Proofs.Ytbfhlaggllofdaa.G

namespace Go.Proofs.Ytbfhlaggllofdaa.P
open Go.RowKit Go.Proofs.YtbfhlaggllofdaaW.PrintWords

theorem w64 {x : Int} (h0 : -9223372036854775808≤x) (h1 : x≤9223372036854775807) : wrap64 x = x:=by
 unfold wrap64
 omega
theorem rd_nat (l : List Int) (i : Nat) : rd l (i : Int) = l.getD i 0:=by
 unfold rd
 rw [show((i : Int)).toNat = i by omega]
theorem rd_lt (l : List Int) (i : Nat) (h : i < l.length) : rd l (i : Int) = l[i]:=by
 rw [rd_nat,List.getD_eq_getElem?_getD,List.getElem?_eq_getElem h,Option.getD_some]
theorem rd_mem {l : List Int} {x : Int} (h0 : 0≤x) (h1 : x < l.length) : rd l x ∈ l:=by
 obtain ⟨n,rfl⟩:=Int.eq_ofNat_of_zero_le h0
 rw [rd_lt l n (by omega)]
 exact List.getElem_mem _
theorem drop_cons (l : List Int) (i : Nat) (h : i < l.length) : l.drop i = rd l (i : Int) :: l.drop (i + 1):=by
 rw [rd_lt l i h,List.drop_eq_getElem_cons h]
theorem nodup_len : ∀ (n : Nat) (l : List Int) (lo : Int), l.Nodup → (∀ a ∈ l, lo < a ∧ a ≤ lo + n) → l.length ≤ n
 | 0,l,lo,_,h=>by
  cases l with
  | nil=>simp
  | cons a t=>have:=h a (by simp);omega
 | n + 1,l,lo,hd,h=>by
  have h1:=nodup_len n (l.erase (lo + 1)) (lo + 1) (hd.erase _) (fun a ha=>by
   have hm:=List.mem_of_mem_erase ha
   have hne : a≠lo + 1:=fun e=>by
    subst e
    exact(List.Nodup.not_mem_erase hd) ha
   have:=h a hm
   omega)
  have h2 : l.length ≤(l.erase (lo + 1)).length + 1:=by
   rw [List.length_erase]
   split <;> omega
  omega
end Go.Proofs.Ytbfhlaggllofdaa.P

namespace Go.Proofs.Ytbfhlaggllofdaa.T
open Go.RowKit Go.Proofs.YtbfhlaggllofdaaW.PrintWords Go.Proofs.YtbfhlaggllofdaaW.PrintLast Go.Proofs.YtbfhlaggllofdaaW.PrintMore
open Go.Proofs.Ytbfhlaggllofdaa.G Go.Proofs.Ytbfhlaggllofdaa.Lib Go.Proofs.Ytbfhlaggllofdaa.P
set_option linter.unusedVariables false
set_option linter.unusedSimpArgs false
/-- block b holds f 0, f 1, .. f (n - 1) -/
def Tbl (w : World) (b n : Nat) (f : Nat→Int) : Prop:=(∀ i,i < n→w.cell? ⟨b,i,none⟩ = some (.int .i64 (f i))) ∧(∀ i,w.frozen? ⟨b,i,none⟩ = false)
theorem Tbl.drew {w : World} {b n : Nat} {f : Nat→Int} (h : Tbl w b n f) : Tbl w.drew b n f:=h
theorem Tbl.drewN {w : World} {b n : Nat} {f : Nat→Int} (h : Tbl w b n f) (k : Nat) : Tbl (w.drewN k) b n f:=h
theorem Tbl.set {w : World} {b n : Nat} {f f' : Nat→Int} {i : Nat} {v : Int} (h : Tbl w b n f) (hi : i < n) (hf : ∀ x,x < n→f' x = if x = i then v else f x) : Tbl (w.setCell ⟨b,i,none⟩ (.int .i64 v)) b n f':=by
 refine⟨fun x hx=>?_,fun x=>by rw [World.frozen?_setCell];exact h.2 x⟩
 rw [hf x hx]
 by_cases c : x = i
 ·subst c
  rw [if_pos rfl]
  exact World.cell?_setCell_same' w _ _ (by rw [h.1 x hx];rfl)
 rw [if_neg c,World.cell?_setCell_other (w:=w) (a:=⟨b,i,none⟩) (b:=⟨b,x,none⟩) (h:=fun e=>c (by injection e with _ e;exact e.symm))]
 exact h.1 x hx
theorem Tbl.congr {w : World} {b n : Nat} {f f' : Nat→Int} (h : Tbl w b n f) (hf : ∀ x,x < n→f' x = f x) : Tbl w b n f':=⟨fun x hx=>by rw [hf x hx];exact h.1 x hx,h.2⟩
theorem Tbl.below {w w' : World} {b n : Nat} {f : Nat→Int} (h : Tbl w b n f) (hn : 0 < n) (hb : Below w.heap.size w w') : Tbl w' b n f:=by
 have hlt : b < w.heap.size:=World.block_lt_of_cell? w _ (h.1 0 hn)
 refine⟨fun x hx=>(hb.cell (p:=⟨b,x,none⟩) hlt).trans (h.1 x hx),fun x=>?_⟩
 have:=h.2 x
 unfold World.frozen? at this ⊢
 simp only at this ⊢
 rw [hb.block b hlt]
 exact this
theorem Tbl.made (w : World) (n t : Nat) (cs : Array Value) (hcs : cs = Array.replicate n (.int .i64 0)) : Tbl (w.alloc (.cells cs t (0,0))) w.heap.size n (fun _=>0):=by
 subst hcs
 have hb:=heap_alloc_new w (.cells (Array.replicate n (.int .i64 0)) t (0,0))
 refine⟨fun x hx=>?_,fun x=>bkF hb x⟩
 rw [bkC hb x]
 simp [hx]
theorem zc : Try.zeroCells80 = Array.replicate 1681 (.int .i64 0):=by kernel_rfl
theorem zc2 : Try.zeroCells82 = Array.replicate 462 (.int .i64 0):=by kernel_rfl
theorem ch_le64 {n k : Nat} (h : n≤41) : 0≤ch n k∧ch n k≤9000000000000000:=by
 refine⟨ch_nonneg n k,?_⟩
 by_cases c : k≤n
 rotate_left
 ·rw [ch_big n k (by omega)];decide
 refine Int.le_trans (ch_le n k c) ?_
 have :(2 : Nat) ^ n≤2 ^ 41:=Nat.pow_le_pow_right (by decide) h
 have e :((2 ^ n : Nat) : Int) =(2 : Int) ^ n:=by simp
 rw [← e]
 have :(2 ^ n : Nat)≤2199023255552:=by simpa using this
 omega
def chV (n : Nat) (i : Nat) : Int:=if i / 41 < n then ch (i / 41) (i % 41) else 0
def chW (n k : Nat) (i : Nat) : Int:=if i / 41 < n ∨(i / 41 = n∧i % 41 < k) then ch (i / 41) (i % 41) else 0
theorem chW_end {n i : Nat} (h : i < 1681) : chV (n + 1) i = chW n (n + 1) i:=by
 unfold chV chW
 by_cases c1 : i / 41 < n
 ·rw [if_pos (by omega),if_pos (.inl c1)]
 by_cases c2 : i / 41 = n
 rotate_left
 ·rw [if_neg (by omega),if_neg (by omega)]
 rw [if_pos (by omega)]
 by_cases c3 : i % 41 < n + 1
 ·rw [if_pos (.inr ⟨c2,c3⟩)]
 rw [if_neg (by omega),c2,ch_big n (i % 41) (by omega)]
theorem chW_step {n k i : Nat} (hk : k < 41) : chW n (k + 1) i = if i = n * 41 + k then ch n k else chW n k i:=by
 unfold chW
 by_cases c : i = n * 41 + k
 ·have e1 : i / 41 = n := by omega
  have e2 : i % 41 = k:=by omega
  rw [if_pos c,if_pos (.inr ⟨e1,by omega⟩),e1,e2]
 rw [if_neg c]
 by_cases c1 : i / 41 < n ∨(i / 41 = n∧i % 41 < k)
 ·rw [if_pos c1,if_pos (by omega)]
 rw [if_neg c1,if_neg (by omega)]
theorem chW_start {n i : Nat} : chW n 1 i = if i = n * 41 then 1 else chV n i:=by
 unfold chW chV
 by_cases c : i = n * 41
 rotate_left
 ·rw [if_neg c]
  by_cases c1 : i / 41 < n
  ·rw [if_pos (.inl c1),if_pos c1]
  rw [if_neg c1,if_neg (by omega)]
 have e1 : i / 41 = n:=by omega
 have e2 : i % 41 = 0:=by omega
 rw [if_pos c,if_pos (.inr ⟨e1,by omega⟩),e2,ch_zero]
theorem chW_at {n k a b : Nat} (hb : b < 41) (h : a < n) : chW n k (a * 41 + b) = ch a b:=by
 unfold chW
 rw [show(a * 41 + b) / 41 = a by omega,show(a * 41 + b) % 41 = b by omega,if_pos (.inl h)]
theorem chV_at {n a b : Nat} (hb : b < 41) (h : a < n) : chV n (a * 41 + b) = ch a b:=by
 unfold chV
 rw [show(a * 41 + b) / 41 = a by omega,show(a * 41 + b) % 41 = b by omega,if_pos h]
theorem meas2 {m j : Nat} {z : Int} (hz : z =(j : Int) + 1 + 1) (h : j≤m) : m + 1 + 1 - (intOf (Value.int .i64 z)).toNat < m + 1 + 1 - (intOf (Value.int .i64 ((j + 1 : Nat) : Int))).toNat:=by
 show m + 1 + 1 - z.toNat < m + 1 + 1 - (((j + 1 : Nat) : Int)).toNat
 omega
set_option maxHeartbeats 1000000 in
set_option maxRecDepth 100000 in
theorem choices_calls (w : World) : Calls Try.prog 58 #[] w fun e w'=>e = .returned (.pointer (some ⟨w.heap.size,0,none⟩))∧Tbl w' w.heap.size 1681 (chV 41)∧Below w.heap.size w w':=by
 go_enter Try.func58,Try.ntmps58
 go_wp2
 go_loopw [6] (fun v6 wr=>∃ n : Nat,v6 = .int .i64 n∧Aside0 (n≤41)∧Aside0 (Tbl wr w.heap.size 1681 (chV n))∧Aside0 (Below w.heap.size w wr)) (fun v6 _=>41 - (intOf v6).toNat)
 case atStart=>exact⟨0,rfl,⟨by omega⟩,⟨(Tbl.made w 1681 _ _ zc).congr (fun x _=>by unfold chV;rw [if_neg (by omega)])⟩,⟨bwA (Below.refl _ _) _⟩⟩
 obtain ⟨n,rfl,HN,HT,HB⟩:=hrel
 by_cases c : n < 41
 rotate_left
 ·obtain rfl : n = 41 := by have := HN.out; omega
  go_wp2
  go_ret
  exact⟨rfl,HT.out,HB.out⟩
 have c1 : decide ((n : Int) < 41) = true:=decide_eq_true (by omega)
 have q0:=eq_true (show(0 : Int)≤n by omega)
 have q1:=eq_true (show(n : Int) < 41 by omega)
 have q2:=HT.out.1 (n * 41) (by omega)
 have q3:=HT.out.2 (n * 41)
 have HT1:=Aside0.mk (HT.out.set (f':=chW n 1) (i:=n * 41) (v:=1) (by omega) (fun x _=>chW_start))
 have HB1:=Aside0.mk (HB.out.setCell (p:=⟨w.heap.size,n * 41,none⟩) (Nat.le_refl _) (.int .i64 1))
 go_wp2
 go_loopw [3] (fun v3 wq=>∃ k : Nat,v3 = .int .i64 k∧Aside0 (1≤k∧k≤n + 1)∧Aside0 (Tbl wq w.heap.size 1681 (chW n k))∧Aside0 (Below w.heap.size w wq)) (fun v3 _=>n + 1 - (intOf v3).toNat)
 case atStart=>exact⟨1,rfl,⟨by omega⟩,HT1,HB1⟩
 clear HT1 HB1 HT HB q2 q3
 obtain ⟨k,rfl,HK,HT,HB⟩:=hrel
 obtain ⟨k1,k2⟩:=HK.out
 by_cases c3 : k≤n
 rotate_left
 ·have c3b : decide ((k : Int) ≤ n) = false := decide_eq_false (by omega)
  have c3c : decide (k≤n) = false:=decide_eq_false (by omega)
  obtain rfl : k = n + 1:=by omega
  go_wp2
  go_roundw
  case rel=>exact⟨n + 1,by simp,⟨by omega⟩,⟨HT.out.congr (fun x hx=>chW_end hx)⟩,HB⟩
  simp [intOf];omega
 obtain ⟨m,rfl⟩ : ∃ m,n = m + 1:=⟨n - 1,by omega⟩
 obtain ⟨j,rfl⟩ : ∃ j,k = j + 1:=⟨k - 1,by omega⟩
 have c3b : decide (((j + 1 : Nat) : Int) ≤(m + 1 : Nat)) = true:=decide_eq_true (by omega)
 have c3c : decide (j≤m) = true:=decide_eq_true (by omega)
 have l1:=HT.out.1 (m * 41 + j) (by omega)
 have l2:=HT.out.1 (m * 41 + (j + 1)) (by omega)
 have l3:=HT.out.1 ((m + 1) * 41 + (j + 1)) (by omega)
 have l4:=HT.out.2 ((m + 1) * 41 + (j + 1))
 rw [chW_at (by omega) (by omega)] at l1 l2
 have HS:=Aside0.mk (HT.out.set (f':=chW (m + 1) (j + 1 + 1)) (i:=(m + 1) * 41 + (j + 1)) (v:=ch (m + 1) (j + 1)) (by omega) (fun x _=>chW_step (by omega))).drew
 have HB1:=Aside0.mk (bw1 (HB.out.setCell (p:=⟨w.heap.size,(m + 1) * 41 + (j + 1),none⟩) (Nat.le_refl _) (.int .i64 (ch (m + 1) (j + 1)))))
 have d1:=eq_true (show(m : Int) < 41 by omega)
 have d2:=eq_true (show(j : Int) < 41 by omega)
 have d3:=eq_true (show(j : Int) + 1 < 41 by omega)
 have d4:=eq_true (show(m : Int) + 1 < 41 by omega)
 have d5:=eq_true (show 0 ≤(j : Int) + 1 by omega)
 have d6:=eq_true (show 0 ≤(m : Int) + 1 by omega)
 have wm : wrap64 (m : Int) = m:=w64 (by omega) (by omega)
 have wj : wrap64 (j : Int) = j:=w64 (by omega) (by omega)
 have wj2 : wrap64 ((j : Int) + 1 + 1) =(j : Int) + 1 + 1:=w64 (by omega) (by omega)
 have hwab : wrap64 (ch m j + ch m (j + 1)) = ch (m + 1) (j + 1):=by
  have b1:=ch_le64 (n:=m) (k:=j) (by omega)
  have b2:=ch_le64 (n:=m) (k:=j + 1) (by omega)
  exact w64 (by omega) (by omega)
 obtain ⟨va,hva⟩ : ∃ v,ch m j = v:=⟨_,rfl⟩
 obtain ⟨vb,hvb⟩ : ∃ v,ch m (j + 1) = v:=⟨_,rfl⟩
 obtain ⟨vc,hvc⟩ : ∃ v,ch (m + 1) (j + 1) = v:=⟨_,rfl⟩
 rw [hva] at l1 hwab
 rw [hvb] at l2 hwab
 rw [hvc] at hwab HS HB1
 clear hva hvb hvc k1 k2 c3 c
 go_wp2
 refine start_ (n:=25) (S:=fun W'=>W'.cell? ⟨w.heap.size,m * 41 + j,none⟩ = some (.int .i64 va)∧W'.cell? ⟨w.heap.size,m * 41 + (j + 1),none⟩ = some (.int .i64 vb)) (ds:=[24]) (mk_ 0 25) (by kernel_rfl) rfl (by kernel_rfl) ⟨l1,l2⟩ (fun hHeld=>?_)
 iterate 24 (first
 |(refine pm_ (v:=?_) (a':=?_) rfl rfl (by kernel_rfl) (fun _ _ _ h=>h) ?_ ?_ ?_;rotate_left 2;(focus refine Or.inl ⟨by rfl,?_⟩;intro w';go_simp;with_reducible rfl);(focus simp only [List.getElem_toArray,List.getElem_cons_succ,List.getElem_cons_zero,Act.put,List.setIfInBounds_toArray,List.set_cons_zero,List.set_cons_succ,i64_w,i32_w];rfl))
 |(refine tm_ (v:=?_) (a':=?_) rfl rfl (by kernel_rfl) (fun _ _ _ h=>h) ?_ hHeld ?_ ?_;rotate_left 2;(focus refine Or.inl ⟨by rfl,?_⟩;rintro w' ⟨s0,s1⟩;go_simp;with_reducible rfl);(focus simp only [List.getElem_toArray,List.getElem_cons_succ,List.getElem_cons_zero,Act.put,List.setIfInBounds_toArray,List.set_cons_zero,List.set_cons_succ,i64_w,i32_w];rfl)))
 refine last_ (i:=24) (N:=none) (mk_ 25 0) rfl rfl (by kernel_rfl) (by decide) (fun K hK=>?_)
 have l3' : wr.drew.cell? ⟨w.heap.size,(m + 1) * 41 + (j + 1),none⟩ = some (.int .i64 (chW (m + 1) (j + 1) ((m + 1) * 41 + (j + 1)))):=l3
 have l4' : wr.drew.frozen? ⟨w.heap.size,(m + 1) * 41 + (j + 1),none⟩ = false:=l4
 refine skip_ (w1:=?_) (by rfl) rfl ?_ ?_
 rotate_left
 ·go_simp
  rfl
 refine hK.out _ _ ?_
 clear hK K
 refine done_ (by kernel_rfl) ?_
 try go_wp2
 go_roundw
 case rel=>exact⟨j + 1 + 1,by simp [wj2],⟨by have:=of_decide_eq_true c3c;omega⟩,HS,HB1⟩
 exact meas2 wj2 (of_decide_eq_true c3c)
def facA (n : Nat) : Array Value:=((List.range 19).map (fun i=>Value.int .i64 (if i < n then fact i else 0))).toArray
def facZ : Array Value:=#[.int .i64 0,.int .i64 0,.int .i64 0,.int .i64 0,.int .i64 0,.int .i64 0,.int .i64 0,.int .i64 0,.int .i64 0,.int .i64 0,.int .i64 0,.int .i64 0,.int .i64 0,.int .i64 0,.int .i64 0,.int .i64 0,.int .i64 0,.int .i64 0,.int .i64 0]
def facL : Array Value:=#[.int .i64 1,.int .i64 1,.int .i64 2,.int .i64 6,.int .i64 24,.int .i64 120,.int .i64 720,.int .i64 5040,.int .i64 40320,.int .i64 362880,.int .i64 3628800,.int .i64 39916800,.int .i64 479001600,.int .i64 6227020800,.int .i64 87178291200,.int .i64 1307674368000,.int .i64 20922789888000,.int .i64 355687428096000,.int .i64 6402373705728000]
theorem facA_end : facA 19 = #[.int .i64 1,.int .i64 1,.int .i64 2,.int .i64 6,.int .i64 24,.int .i64 120,.int .i64 720,.int .i64 5040,.int .i64 40320,.int .i64 362880,.int .i64 3628800,.int .i64 39916800,.int .i64 479001600,.int .i64 6227020800,.int .i64 87178291200,.int .i64 1307674368000,.int .i64 20922789888000,.int .i64 355687428096000,.int .i64 6402373705728000]:=by kernel_rfl
theorem facA_one : facA 1 = #[.int .i64 1,.int .i64 0,.int .i64 0,.int .i64 0,.int .i64 0,.int .i64 0,.int .i64 0,.int .i64 0,.int .i64 0,.int .i64 0,.int .i64 0,.int .i64 0,.int .i64 0,.int .i64 0,.int .i64 0,.int .i64 0,.int .i64 0,.int .i64 0,.int .i64 0]:=by kernel_rfl
theorem fact_le {n : Nat} (h : n≤18) : 1≤fact n∧fact n≤6402373705728000:=by
 have : ∀ n : Fin 19,1≤fact n.val∧fact n.val≤6402373705728000:=by decide +kernel
 exact this ⟨n,by omega⟩
theorem facA_at {n i : Nat} (h : i < n) (h19 : i < 19) :(facA n)[i]? = some (.int .i64 (fact i)):=by
 unfold facA
 simp [h19,h]
theorem facA_set {n : Nat} (h : n < 19) :(facA n).setIfInBounds n (.int .i64 (fact n)) = facA (n + 1):=by
 unfold facA
 apply Array.ext_getElem?
 intro i
 simp only [Array.getElem?_setIfInBounds,List.getElem?_toArray,List.getElem?_map,List.size_toArray,List.length_map,List.length_range]
 by_cases c : n = i
 ·subst c
  simp [h]
 rw [if_neg c]
 by_cases h19 : i < 19
 rotate_left
 ·simp [h19]
 rw [List.getElem?_range h19]
 simp only [Option.map_some]
 congr 2
 by_cases c1 : i < n
 ·rw [if_pos c1,if_pos (by omega)]
 rw [if_neg c1,if_neg (by omega)]
theorem wpList_build_as {P : Program} {ops : Array Oper} {rest : List Oper} {o : Oper} {a : Act} {w : World} {Q : Exit → Act → World → Prop} (hg : o.guard = none) (t : TypeId) (parts : Array (Nat × Operand)) (ho : o.op = .build t parts)
  (cs : Array Value) (hb : P.built t (parts.map fun(i,x)=>(i,a.eval x)).toList = some cs) (h : wpList P ops Q rest (a.put o.dst (.agg cs)) w) : wpList P ops Q (o :: rest) a w :=
 wpList_build hg t parts ho (by rw [hb];rfl) (by rw [hb];exact h)
theorem meas3 {N n : Nat} {z : Int} (h : n < N) (hz : z =(n : Int) + 1) : N - (intOf (Value.int .i64 z)).toNat < N - (intOf (Value.int .i64 (n : Int))).toNat:=by
 show N - z.toNat < N - ((n : Int)).toNat
 omega
set_option maxHeartbeats 2000000 in
set_option maxRecDepth 100000 in
theorem fac_calls (w : World) : Calls Try.prog 64 #[] w fun e w'=>e = .returned (.agg #[.int .i64 1,.int .i64 1,.int .i64 2,.int .i64 6,.int .i64 24,.int .i64 120,.int .i64 720,.int .i64 5040,.int .i64 40320,.int .i64 362880,.int .i64 3628800,.int .i64 39916800,.int .i64 479001600,.int .i64 6227020800,.int .i64 87178291200,.int .i64 1307674368000,.int .i64 20922789888000,.int .i64 355687428096000,.int .i64 6402373705728000])∧Below w.heap.size w w':=by
 go_enter Try.func64,Try.ntmps64
 have hi76 :(Try.prog.info? 76).map (·.size) = some (#[.int .i64 1,.int .i64 0,.int .i64 0,.int .i64 0,.int .i64 0,.int .i64 0,.int .i64 0,.int .i64 0,.int .i64 0,.int .i64 0,.int .i64 0,.int .i64 0,.int .i64 0,.int .i64 0,.int .i64 0,.int .i64 0,.int .i64 0,.int .i64 0,.int .i64 0] : Array Value).size:=by kernel_rfl
 go_upto_region 1 with (fail)
 refine wp_region_lit ?_
 refine wpList_build_as rfl 76 #[(0,.const (.int .i64 1))] rfl #[.int .i64 1,.int .i64 0,.int .i64 0,.int .i64 0,.int .i64 0,.int .i64 0,.int .i64 0,.int .i64 0,.int .i64 0,.int .i64 0,.int .i64 0,.int .i64 0,.int .i64 0,.int .i64 0,.int .i64 0,.int .i64 0,.int .i64 0,.int .i64 0,.int .i64 0] (by kernel_rfl) ?_
 refine wpList_plain rfl (fun K hK=>?_)
 go_simp
 refine hK _ _ ?_
 clear hK
 refine wpList_store_row rfl 76 (.tmp 1) (.tmp 3) rfl (w.heap.size + 1) #[.int .i64 1,.int .i64 0,.int .i64 0,.int .i64 0,.int .i64 0,.int .i64 0,.int .i64 0,.int .i64 0,.int .i64 0,.int .i64 0,.int .i64 0,.int .i64 0,.int .i64 0,.int .i64 0,.int .i64 0,.int .i64 0,.int .i64 0,.int .i64 0,.int .i64 0] rfl rfl 76 #[.int .i64 0,.int .i64 0,.int .i64 0,.int .i64 0,.int .i64 0,.int .i64 0,.int .i64 0,.int .i64 0,.int .i64 0,.int .i64 0,.int .i64 0,.int .i64 0,.int .i64 0,.int .i64 0,.int .i64 0,.int .i64 0,.int .i64 0,.int .i64 0,.int .i64 0] (heap_alloc2_new _ _ _) hi76 rfl (by kernel_rfl) ?_
 obtain ⟨W0,hW0⟩ : ∃ W0,((w.alloc (.cells #[.int .i64 0,.int .i64 0,.int .i64 0,.int .i64 0,.int .i64 0,.int .i64 0,.int .i64 0,.int .i64 0,.int .i64 0,.int .i64 0,.int .i64 0,.int .i64 0,.int .i64 0,.int .i64 0,.int .i64 0,.int .i64 0,.int .i64 0,.int .i64 0,.int .i64 0] 76)).alloc (.cells #[.int .i64 0,.int .i64 0,.int .i64 0,.int .i64 0,.int .i64 0,.int .i64 0,.int .i64 0,.int .i64 0,.int .i64 0,.int .i64 0,.int .i64 0,.int .i64 0,.int .i64 0,.int .i64 0,.int .i64 0,.int .i64 0,.int .i64 0,.int .i64 0,.int .i64 0] 76)).setRow (w.heap.size + 1) #[.int .i64 1,.int .i64 0,.int .i64 0,.int .i64 0,.int .i64 0,.int .i64 0,.int .i64 0,.int .i64 0,.int .i64 0,.int .i64 0,.int .i64 0,.int .i64 0,.int .i64 0,.int .i64 0,.int .i64 0,.int .i64 0,.int .i64 0,.int .i64 0,.int .i64 0] = W0:=⟨_,rfl⟩
 have HB0:=Aside0.mk (show Below w.heap.size w W0 by rw [← hW0];exact below_setRow (bwA (bwA (Below.refl _ _) _) _) (by simp) _)
 have HF0:=Aside0.mk (show W0.heap[w.heap.size + 1]? = some (.cells (facA 1) 76 (0,0)) by
  rw [← hW0,facA_one]
  exact setRow_heap _ _ _ _ _ _ (heap_alloc2_new _ _ _))
 have HZ0:=Aside0.mk (show W0.heap[w.heap.size]? = some (.cells facZ 76 (0,0)) by
  rw [← hW0,setRow_other _ _ _ _ (by simp)]
  exact heap_alloc2_old _ _ _)
 rw [hW0]
 clear hW0
 refine wpList_nil ?_
 go_wp2
 go_loopw [2] (fun v2 wr=>∃ n : Nat,v2 = .int .i64 n∧Aside0 (1≤n∧n≤19)∧Aside0 (wr.heap[w.heap.size]? = some (.cells facZ 76 (0,0)))∧Aside0 (wr.heap[w.heap.size + 1]? = some (.cells (facA n) 76 (0,0)))∧Aside0 (Below w.heap.size w wr)) (fun v2 _=>19 - (intOf v2).toNat)
 case atStart=>exact⟨1,rfl,⟨by omega⟩,HZ0,HF0,HB0⟩
 clear HZ0 HF0 HB0
 obtain ⟨n,rfl,HN,HZ,HF,HB⟩:=hrel
 obtain ⟨n1,n2⟩:=HN.out
 by_cases c : n < 19
 rotate_left
 ·obtain rfl : n = 19 := by omega
  clear c n1 n2
  have hF : wr.heap[w.heap.size + 1]? = some (.cells facL 76 (0,0)):=by rw [HF.out,facA_end];rfl
  have hiL :(Try.prog.info? 76).map (·.size) = some facL.size:=by kernel_rfl
  go_wp2_with (first |(refine wpList_load_row rfl 76 (.tmp 1) rfl (w.heap.size + 1) rfl 76 facL (0,0) _ hF Try.underlying76 rfl hiL ?_) |(refine wpList_store_row rfl 76 (.tmp 0) (.tmp 16) rfl w.heap.size facL rfl rfl 76 facZ HZ.out hiL rfl (by kernel_rfl) ?_))
  refine bodyPost_ret (results_cell_row rfl _ _ w.heap.size 76 facL (0,0) _ rfl (setRow_heap _ _ _ _ _ _ HZ.out) Try.underlying76 rfl hiL) rfl ?_
  exact⟨rfl,below_setRow HB.out (Nat.le_refl _) _⟩
 obtain ⟨m,rfl⟩ : ∃ m,n = m + 1:=⟨n - 1,by omega⟩
 have c1 : decide (((m + 1 : Nat) : Int) < 19) = true:=decide_eq_true (by omega)
 have c2 : decide ((m : Int) + 1 < 19) = true:=decide_eq_true (by omega)
 have c3 : decide (m + 1 < 19) = true:=decide_eq_true (by omega)
 have c4 : decide (m < 18) = true:=decide_eq_true (by omega)
 have l1 : wr.cell? ⟨w.heap.size + 1,m,none⟩ = some (.int .i64 (fact m)):=(bkC HF.out m).trans (facA_at (by omega) (by omega))
 obtain ⟨x,hx⟩ : ∃ x,(facA (m + 1))[m + 1]? = some x:=⟨(facA (m + 1))[m + 1]'(by unfold facA;simp;omega),Array.getElem?_eq_getElem _⟩
 have l2 : wr.cell? ⟨w.heap.size + 1,m + 1,none⟩ = some x:=(bkC HF.out (m + 1)).trans hx
 have l3:=bkF HF.out (m + 1)
 have d1:=eq_true (show(m : Int) < 19 by omega)
 have d2:=eq_true (show(m : Int) + 1 < 19 by omega)
 have d3:=eq_true (show 0 ≤(m : Int) + 1 by omega)
 have wm : wrap64 (m : Int) = m:=w64 (by omega) (by omega)
 have wm2 : wrap64 ((m : Int) + 1 + 1) =(m : Int) + 1 + 1:=w64 (by omega) (by omega)
 have hf :((m : Int) + 1) * fact m = fact (m + 1):=rfl
 have b:=fact_le (n:=m + 1) (by omega)
 have hwf : wrap64 (((m : Int) + 1) * fact m) = fact (m + 1):=by rw [hf];exact w64 (by omega) (by omega)
 have HZ1:=Aside0.mk ((Below.heap_setCell wr ⟨w.heap.size + 1,m + 1,none⟩ (.int .i64 (fact (m + 1))) w.heap.size (by simp)).trans HZ.out)
 have HF1:=Aside0.mk (show(wr.setCell ⟨w.heap.size + 1,m + 1,none⟩ (.int .i64 (fact (m + 1)))).heap[w.heap.size + 1]? = some (.cells (facA (m + 1 + 1)) 76 (0,0)) by
  have:=blk_set HF.out (m + 1) (.int .i64 (fact (m + 1)))
  rwa [facA_set (by omega)] at this)
 have HB1:=Aside0.mk (HB.out.setCell (p:=⟨w.heap.size + 1,m + 1,none⟩) (by simp) (.int .i64 (fact (m + 1))))
 obtain ⟨va,hva⟩ : ∃ v,fact m = v:=⟨_,rfl⟩
 obtain ⟨vb,hvb⟩ : ∃ v,fact (m + 1) = v:=⟨_,rfl⟩
 rw [hva] at l1 hwf
 rw [hvb] at hwf HZ1 HF1 HB1
 clear hva hvb hf b hx c n1 n2 HZ HF HB
 go_wp2
 repeat(go_quiet (fail);try go_wp2)
 go_roundw
 case rel=>exact⟨m + 1 + 1,by simp [wm2],⟨by have:=of_decide_eq_true c4;omega⟩,HZ1,HF1,HB1⟩
 exact meas3 (by have:=of_decide_eq_true c4;omega) (by omega)
end Go.Proofs.Ytbfhlaggllofdaa.T

namespace Go.Proofs.Ytbfhlaggllofdaa.T
open Go.RowKit Go.Proofs.YtbfhlaggllofdaaW.PrintWords Go.Proofs.YtbfhlaggllofdaaW.PrintLast Go.Proofs.YtbfhlaggllofdaaW.PrintMore
set_option linter.unusedVariables false
theorem R_blk5 {W : World} {g base : Nat} {e : TypeId} {ok : Nat → Prop} {a b c d f : Int} (h : W.heap[g]? = some (.cells #[.int .i64 a, .int .i64 b, .int .i64 c, .int .i64 d, .int .i64 f] e (0, 0))) (hb : base ≤ g) (hok : ok g) :
  Kd.R (Kd.int .i64) e W base ok (.slice (some ⟨g,0,none⟩) 5 5) [a,b,c,d,f]:=by
 refine⟨fun k hk=>?_,[.int .i64 a,.int .i64 b,.int .i64 c,.int .i64 d,.int .i64 f],?_,?_⟩
 ·have : g = k := by simpa [Value.ownBlock] using hk
  subst this
  exact hok
 ·exact⟨rfl,.inr ⟨g,5,_,rfl,hb,h,Nat.le_refl _,by decide,rfl,rfl⟩⟩
 exact Reps.one (show Kd.M (Kd.int .i64) _ _ _ a [.int .i64 a] from rfl) (Reps.one (show Kd.M (Kd.int .i64) _ _ _ b [.int .i64 b] from rfl) (Reps.one (show Kd.M (Kd.int .i64) _ _ _ c [.int .i64 c] from rfl) (Reps.one (show Kd.M (Kd.int .i64) _ _ _ d [.int .i64 d] from rfl) (Reps.one (show Kd.M (Kd.int .i64) _ _ _ f [.int .i64 f] from rfl) (Reps.none _ _)))))
theorem cells5 (a b c d f : Int) :(#[.int .i64 a,.int .i64 b,.int .i64 c,.int .i64 d,.int .i64 f] : Array Value).all (·.oneCell') = true:=by
 rw [← Array.all_toList]
 rfl
theorem own_ge {W : World} {g k : Nat} (hg : g = W.heap.size) (hk :(.slice (some ⟨g,0,none⟩) 5 5 : Value).ownBlock = some k) : W.heap.size≤k:=by
 have : g = k:=by simpa [Value.ownBlock] using hk
 omega
theorem own_no {g : Nat} {v : Value} (hl : ∀ k,v.ownBlock = some k→k < g) (h : some g = v.ownBlock) : False:=by
 have:=hl g h.symm
 omega
end Go.Proofs.Ytbfhlaggllofdaa.T

namespace Go.Proofs.Ytbfhlaggllofdaa.S
open Go.Proofs.Ytbfhlaggllofdaa.Lib
open Go.Maps (Keyed)
open Go.RowKit Go.Proofs.YtbfhlaggllofdaaW.PrintWords Go.Proofs.YtbfhlaggllofdaaW.PrintLast Go.Proofs.YtbfhlaggllofdaaW.PrintMore
attribute [local go_sem] max2_int min2_int max_two min_two max_three min_three max_four min_four
set_option linter.unusedVariables false
set_option linter.unusedSimpArgs false

def w10_ints.l0 : Nat → List Int → List Int → Int → Option (Bool)
 | 0,_,_,_=>none
 | k + 1,x0,x1,x5=>if x5 < (x0.length : Int) then(if 0≤x5 then(if x5 < (x1.length : Int) then(if(rd x0 x5) =(rd x1 x5) then(w10_ints.l0 k x0 x1 (wrap64 (x5 + 1))) else(some false)) else(none)) else(none)) else(some true)
def w10_ints.f (k : Nat) (l0 : List Int) (l1 : List Int) : Option (Bool):=if(l0.length : Int) =(l1.length : Int) then(w10_ints.l0 k l0 l1 0) else(some false)
set_option maxHeartbeats 8000000 in
set_option maxRecDepth 100000 in
theorem w10_ints.calls (k : Nat) (A0 : Option Addr) (c0 : Nat) (l0 : List Int) (A1 : Option Addr) (c1 : Nat) (l1 : List Int) (r : Bool) (w : World) (hr0 : Kd.C (Kd.int .i64) w A0 l0.length l0) (hc0 : l0.length ≤ c0) (hr1 : Kd.C (Kd.int .i64) w A1 l1.length l1) (hc1 : l1.length ≤ c1) (h : w10_ints.f k l0 l1 = some r) :
  Calls Try.prog 22 #[.slice A0 l0.length c0,.slice A1 l1.length c1] w fun e w'=>e = .returned (.bool r)∧Drawn0 w w':=by
 have HR0:=Aside0.mk hr0
 have HC0:=Aside0.mk hc0
 clear hr0 hc0
 have HR1:=Aside0.mk hr1
 have HC1:=Aside0.mk hc1
 clear hr1 hc1
 have H :(if(l0.length : Int) =(l1.length : Int) then(w10_ints.l0 k l0 l1 0) else(some false)) = some r:=h
 clear h
 by_cases c3 :(l0.length : Int) =(l1.length : Int)
 rotate_left
 ·rw [if_neg c3] at H
  have c3b0 :((l0.length : Int) ==(l1.length : Int)) = false:=beq_eq_false_iff_ne.mpr c3
  have c3b1 :((l0.length : Int) !=(l1.length : Int)) = true:=bne_iff_ne.mpr c3
  have c3b2 :(l0.length == l1.length) = false:=by first | simpa using c3 |(simp at c3 ⊢;omega)
  obtain rfl:=Option.some.inj H
  go_enter Try.func22,Try.ntmps22
  go_wp2
  repeat(go_quiet (fail);try go_wp2)
  go_ret
  exact⟨by first | rfl |(simp;done) |(simp [*];done),by repeat(first | exact Drawn0.refl _ | apply Drawn0.step)⟩
 rw [if_pos c3] at H
 have c3b0 :((l0.length : Int) ==(l1.length : Int)) = true:=beq_iff_eq.mpr c3
 have c3b1 :((l0.length : Int) !=(l1.length : Int)) = false:=bne_eq_false_iff_eq.mpr c3
 have c3b2 :(l0.length == l1.length) = true:=by first | simpa using c3 |(simp at c3 ⊢;omega)
 clear c3
 have H':=Aside0.mk H
 clear H
 go_enter Try.func22,Try.ntmps22
 go_wp2
 repeat(go_quiet (fail);try go_wp2)
 go_loopg [5] k (fun kq v5 w'=>∃ (x5_1 : Int),v5 = .int .i64 x5_1∧Aside0 (w10_ints.l0 kq l0 l1 x5_1 = some r)∧Aside0 (kq≤k)∧Drawn0 w w')
 case atStart=>exact⟨(0),(by first | rfl |(simp;done) |(simp [*];done)),H',⟨Nat.le_refl _⟩,by repeat(first | exact Drawn0.refl _ | apply Drawn0.step)⟩
 clear H'
 try clear c1
 try clear c2
 try clear p2
 try clear c3
 try clear c3b0
 try clear c3b1
 try clear c3b2
 obtain ⟨x5_1,rfl,HA,HK1,⟨m1,rfl⟩⟩:=hrel
 cases gk with
 | zero=>exact absurd HA.out (by simp [w10_ints.l0])
 | succ k1 =>
  have H:=HA.out
  clear HA
  simp only [w10_ints.l0] at H
  by_cases c4 : x5_1 < (l0.length : Int)
  rotate_left
  ·rw [if_neg c4] at H
   have c4b0 : decide (x5_1 < (l0.length : Int)) = false:=decide_eq_false c4
   clear c4
   obtain rfl:=Option.some.inj H
   go_wp2
   repeat(go_quiet (fail);try go_wp2)
   go_ret
   exact⟨by first | rfl |(simp;done) |(simp [*];done),by repeat(first | exact Drawn0.refl _ | apply Drawn0.step)⟩
  rw [if_pos c4] at H
  have c4b0 : decide (x5_1 < (l0.length : Int)) = true:=decide_eq_true c4
  clear c4
  by_cases c5 : 0≤x5_1
  rotate_left
  ·rw [if_neg c5] at H
   exact absurd H (by simp)
  rw [if_pos c5] at H
  have c5b0 : decide (0≤x5_1) = true:=decide_eq_true c5
  clear c5
  by_cases c6 : x5_1 < (l1.length : Int)
  rotate_left
  ·rw [if_neg c6] at H
   exact absurd H (by simp)
  rw [if_pos c6] at H
  have c6b0 : decide (x5_1 < (l1.length : Int)) = true:=decide_eq_true c6
  clear c6
  by_cases c7 :(rd l0 x5_1) =(rd l1 x5_1)
  rotate_left
  ·rw [if_neg c7] at H
   have c7b0 :((rd l0 x5_1) ==(rd l1 x5_1)) = false:=beq_eq_false_iff_ne.mpr c7
   have c7b1 :((rd l0 x5_1) !=(rd l1 x5_1)) = true:=bne_iff_ne.mpr c7
   obtain rfl:=Option.some.inj H
   have p111 : 0 ≤(x5_1 : Int):=of_decide_eq_true (by first |(with_reducible assumption) | assumption)
   have q111 : x5_1 < (l0.length : Int):=of_decide_eq_true (by first |(with_reducible assumption) | assumption)
   obtain ⟨ad111,e111,hx111_0⟩:=Kd.at_int HR0.out x5_1 p111 q111
   cases e111
   replace p111:=eq_true p111
   replace q111:=eq_true q111
   have p112 : 0 ≤(x5_1 : Int):=of_decide_eq_true (by first |(with_reducible assumption) | assumption)
   have q112 : x5_1 < (l1.length : Int):=of_decide_eq_true (by first |(with_reducible assumption) | assumption)
   obtain ⟨ad112,e112,hx112_0⟩:=Kd.at_int HR1.out x5_1 p112 q112
   cases e112
   replace p112:=eq_true p112
   replace q112:=eq_true q112
   go_wp2
   repeat(go_quiet (fail);try go_wp2)
   go_ret
   exact⟨by first | rfl |(simp;done) |(simp [*];done),by repeat(first | exact Drawn0.refl _ | apply Drawn0.step)⟩
  rw [if_pos c7] at H
  have c7b0 :((rd l0 x5_1) ==(rd l1 x5_1)) = true:=beq_iff_eq.mpr c7
  have c7b1 :((rd l0 x5_1) !=(rd l1 x5_1)) = false:=bne_eq_false_iff_eq.mpr c7
  clear c7
  have H':=Aside0.mk H
  clear H
  have p111 : 0 ≤(x5_1 : Int):=of_decide_eq_true (by first |(with_reducible assumption) | assumption)
  have q111 : x5_1 < (l0.length : Int):=of_decide_eq_true (by first |(with_reducible assumption) | assumption)
  obtain ⟨ad111,e111,hx111_0⟩:=Kd.at_int HR0.out x5_1 p111 q111
  cases e111
  replace p111:=eq_true p111
  replace q111:=eq_true q111
  have p112 : 0 ≤(x5_1 : Int):=of_decide_eq_true (by first |(with_reducible assumption) | assumption)
  have q112 : x5_1 < (l1.length : Int):=of_decide_eq_true (by first |(with_reducible assumption) | assumption)
  obtain ⟨ad112,e112,hx112_0⟩:=Kd.at_int HR1.out x5_1 p112 q112
  cases e112
  replace p112:=eq_true p112
  replace q112:=eq_true q112
  go_wp2
  repeat(go_quiet (fail);try go_wp2)
  go_roundg k1
  case measure=>have:=HK1.out;omega
  exact⟨(wrap64 (x5_1 + 1)),(by first | rfl |(simp;done) |(simp [*];done)),H',⟨by have:=HK1.out;omega⟩,by repeat(first | exact Drawn0.refl _ | apply Drawn0.step)⟩
end Go.Proofs.Ytbfhlaggllofdaa.S

namespace Go.Proofs.Ytbfhlaggllofdaa.T
open Go.RowKit Go.Proofs.YtbfhlaggllofdaaW.PrintWords Go.Proofs.YtbfhlaggllofdaaW.PrintLast Go.Proofs.YtbfhlaggllofdaaW.PrintMore
open Go.Proofs.Ytbfhlaggllofdaa.G Go.Proofs.Ytbfhlaggllofdaa.Lib Go.Proofs.Ytbfhlaggllofdaa.P
set_option linter.unusedVariables false
set_option linter.unusedSimpArgs false
theorem bw_le64 {m j : Nat} (h : m + j≤21) : 1≤bw m j∧bw m j≤9000000000000000:=by
 refine⟨bw_pos m j,?_⟩
 have : ∀ m : Fin 22,∀ j : Fin 22,m.val + j.val≤21→bw m.val j.val≤9000000000000000:=by decide +kernel
 exact this ⟨m,by omega⟩ ⟨j,by omega⟩ h
def rs0 (J : Nat) (i : Nat) : Int:=if i < J then 1 else 0
def rsV (M : Nat) (i : Nat) : Int:=if i / 22 < M∧i % 22 + i / 22 < 22 then bw (i / 22) (i % 22) else 0
def rsW (M J : Nat) (i : Nat) : Int:=if(i / 22 < M∧i % 22 + i / 22 < 22) ∨(i / 22 = M∧i % 22 < J) then bw (i / 22) (i % 22) else 0
theorem rs0_step {J i : Nat} : rs0 (J + 1) i = if i = J then 1 else rs0 J i:=by
 unfold rs0
 by_cases c : i = J
 ·rw [if_pos (by omega),if_pos c]
 rw [if_neg c]
 by_cases c1 : i < J
 ·rw [if_pos (by omega),if_pos c1]
 rw [if_neg (by omega),if_neg c1]
theorem rs0_end {i : Nat} : rsV 1 i = rs0 22 i:=by
 unfold rsV rs0
 by_cases c : i < 22
 rotate_left
 ·rw [if_neg (by omega),if_neg c]
 rw [if_pos (by omega),if_pos c,show i / 22 = 0 by omega]
 rfl
theorem rsW_start {M i : Nat} : rsW M 0 i = rsV M i:=by
 unfold rsW rsV
 by_cases c : i / 22 < M∧i % 22 + i / 22 < 22
 ·rw [if_pos (.inl c),if_pos c]
 rw [if_neg (by omega),if_neg c]
theorem rsW_end {M i J : Nat} (h : J + M = 22) : rsV (M + 1) i = rsW M J i:=by
 unfold rsW rsV
 by_cases c : i / 22 < M + 1∧i % 22 + i / 22 < 22
 ·rw [if_pos c,if_pos (by omega)]
 rw [if_neg c,if_neg (by omega)]
theorem rsW_step {M J i : Nat} (hJ : J < 22) : rsW M (J + 1) i = if i = M * 22 + J then bw M J else rsW M J i:=by
 unfold rsW
 by_cases c : i = M * 22 + J
 ·have e1 : i / 22 = M := by omega
  have e2 : i % 22 = J:=by omega
  rw [if_pos c,if_pos (.inr ⟨e1,by omega⟩),e1,e2]
 rw [if_neg c]
 by_cases c1 :(i / 22 < M∧i % 22 + i / 22 < 22) ∨(i / 22 = M∧i % 22 < J)
 ·rw [if_pos c1,if_pos (by omega)]
 rw [if_neg c1,if_neg (by omega)]
theorem rsW_at {M J a b : Nat} (hb : b + a < 22) (h : a < M) : rsW M J (a * 22 + b) = bw a b:=by
 unfold rsW
 rw [show(a * 22 + b) / 22 = a by omega,show(a * 22 + b) % 22 = b by omega,if_pos (.inl ⟨h,hb⟩)]
theorem rsV_at {M a b : Nat} (hb : b + a < 22) (h : a < M) : rsV M (a * 22 + b) = bw a b:=by
 unfold rsV
 rw [show(a * 22 + b) / 22 = a by omega,show(a * 22 + b) % 22 = b by omega,if_pos ⟨h,hb⟩]
theorem meas1 {N j : Nat} {z : Int} (hz : z =(j : Int) + 1) (h : j < N) : N - (intOf (Value.int .i64 z)).toNat < N - (intOf (Value.int .i64 (j : Int))).toNat:=by
 show N - z.toNat < N - ((j : Int)).toNat
 omega
set_option maxHeartbeats 1000000 in
set_option maxRecDepth 100000 in
theorem rests_calls (w : World) : Calls Try.prog 59 #[] w fun e w'=>e = .returned (.pointer (some ⟨w.heap.size,0,none⟩))∧Tbl w' w.heap.size 462 (rsV 21)∧Below w.heap.size w w':=by
 go_enter Try.func59,Try.ntmps59
 go_wp2
 go_loopw [7] (fun v7 wr=>∃ n : Nat,v7 = .int .i64 n∧Aside0 (n≤22)∧Aside0 (Tbl wr w.heap.size 462 (rs0 n))∧Aside0 (Below w.heap.size w wr)) (fun v7 _=>22 - (intOf v7).toNat)
 case atStart=>exact⟨0,rfl,⟨by omega⟩,⟨(Tbl.made w 462 _ _ zc2).congr (fun x _=>by unfold rs0;rw [if_neg (by omega)])⟩,⟨bwA (Below.refl _ _) _⟩⟩
 obtain ⟨n,rfl,HN,HT,HB⟩:=hrel
 by_cases c : n < 22
 ·have c1 : decide ((n : Int) < 22) = true := decide_eq_true (by omega)
  have c2 : decide (n < 22) = true:=decide_eq_true c
  have q0:=eq_true (show(0 : Int)≤n by omega)
  have q1:=eq_true (show(n : Int) < 22 by omega)
  have q2:=HT.out.1 n (by omega)
  have q3:=HT.out.2 n
  have wn : wrap64 ((n : Int) + 1) =(n : Int) + 1:=w64 (by omega) (by omega)
  have HT1:=Aside0.mk (HT.out.set (f':=rs0 (n + 1)) (i:=n) (v:=1) (by omega) (fun x _=>rs0_step))
  have HB1:=Aside0.mk (HB.out.setCell (p:=⟨w.heap.size,n,none⟩) (Nat.le_refl _) (.int .i64 1))
  clear c
  go_wp2
  go_roundw
  case rel=>exact⟨n + 1,by simp [wn],⟨by have:=of_decide_eq_true c2;omega⟩,HT1,HB1⟩
  exact meas1 wn (of_decide_eq_true c2)
 obtain rfl : n = 22:=by have:=HN.out;omega
 have HT1:=Aside0.mk (HT.out.congr (fun x _=>rs0_end))
 clear c HT
 go_wp2
 go_loopw [3] (fun v3 wq=>∃ m : Nat,v3 = .int .i64 m∧Aside0 (1≤m∧m≤21)∧Aside0 (Tbl wq w.heap.size 462 (rsV m))∧Aside0 (Below w.heap.size w wq)) (fun v3 _=>21 - (intOf v3).toNat)
 case atStart=>exact⟨1,rfl,⟨by omega⟩,HT1,HB⟩
 clear HT1 HB
 obtain ⟨m,rfl,HM,HT,HB⟩:=hrel
 obtain ⟨m1,m2⟩:=HM.out
 by_cases c3 : m < 21
 rotate_left
 ·obtain rfl : m = 21 := by omega
  go_wp2
  go_ret
  exact⟨rfl,HT.out,HB.out⟩
 obtain ⟨m,rfl⟩ : ∃ m',m = m' + 1:=⟨m - 1,by omega⟩
 have c3b : decide (((m + 1 : Nat) : Int) < 21) = true:=decide_eq_true (by omega)
 have c3c : decide (m < 20) = true:=decide_eq_true (by omega)
 have c3d : decide ((m : Int) + 1 < 21) = true:=decide_eq_true (by omega)
 have c3e : decide (m + 1 < 21) = true:=decide_eq_true (by omega)
 have wm1 : wrap64 ((m : Int) + 1 + 1) =(m : Int) + 1 + 1:=w64 (by omega) (by omega)
 have HT1:=Aside0.mk (HT.out.congr (fun x _=>rsW_start))
 clear c3 m1 m2 HT
 go_wp2
 go_loopw [4] (fun v4 wq=>∃ j : Nat,v4 = .int .i64 j∧Aside0 (j + (m + 1)≤22)∧Aside0 (Tbl wq w.heap.size 462 (rsW (m + 1) j))∧Aside0 (Below w.heap.size w wq)) (fun v4 _=>22 - (intOf v4).toNat)
 case atStart=>exact⟨0,rfl,⟨by have:=of_decide_eq_true c3c;omega⟩,HT1,HB⟩
 clear HT1 HB
 obtain ⟨j,rfl,HJ,HT,HB⟩:=hrel
 have j1:=HJ.out
 have m1:=of_decide_eq_true c3c
 have wjm : wrap64 ((j : Int) + ((m + 1 : Nat) : Int)) =(j : Int) + ((m + 1 : Nat) : Int):=w64 (by omega) (by omega)
 have wjm2 : wrap64 ((j : Int) + ((m : Int) + 1)) =(j : Int) + ((m : Int) + 1):=w64 (by omega) (by omega)
 by_cases c4 : j + (m + 1) < 22
 rotate_left
 ·have c4b : decide ((j : Int) + ((m : Int) + 1) < 22) = false := decide_eq_false (by omega)
  have c4d : decide ((j : Int) + ((m + 1 : Nat) : Int) < 22) = false:=decide_eq_false (by omega)
  have HT2:=Aside0.mk (HT.out.congr (fun x hx=>rsW_end (show j + (m + 1) = 22 by omega)))
  clear HT
  go_wp2
  go_roundw
  case rel=>exact⟨m + 1 + 1,by simp [wm1],⟨by omega⟩,HT2,HB⟩
  exact meas1 (j:=m + 1) (by omega) (by omega)
 have c4b : decide ((j : Int) + ((m : Int) + 1) < 22) = true:=decide_eq_true (by omega)
 have c4d : decide ((j : Int) + ((m + 1 : Nat) : Int) < 22) = true:=decide_eq_true (by omega)
 have c4c : decide (j + (m + 1) < 22) = true:=decide_eq_true c4
 have l1:=HT.out.1 (m * 22 + j) (by omega)
 have l2:=HT.out.1 (m * 22 + (j + 1)) (by omega)
 have l3:=HT.out.1 ((m + 1) * 22 + j) (by omega)
 have l4:=HT.out.2 ((m + 1) * 22 + j)
 rw [rsW_at (by omega) (by omega)] at l1 l2
 have HS:=Aside0.mk (HT.out.set (f':=rsW (m + 1) (j + 1)) (i:=(m + 1) * 22 + j) (v:=bw (m + 1) j) (by omega) (fun x _=>rsW_step (by omega))).drew
 have HB1:=Aside0.mk (bw1 (HB.out.setCell (p:=⟨w.heap.size,(m + 1) * 22 + j,none⟩) (Nat.le_refl _) (.int .i64 (bw (m + 1) j))))
 have d1:=eq_true (show(m : Int) < 21 by omega)
 have d2:=eq_true (show(j : Int) < 22 by omega)
 have d3:=eq_true (show(j : Int) + 1 < 22 by omega)
 have d4:=eq_true (show(m : Int) + 1 < 21 by omega)
 have d5:=eq_true (show 0 ≤(j : Int) + 1 by omega)
 have d6:=eq_true (show 0 ≤(m : Int) + 1 by omega)
 have wm : wrap64 (m : Int) = m:=w64 (by omega) (by omega)
 have wj1 : wrap64 ((j : Int) + 1) =(j : Int) + 1:=w64 (by omega) (by omega)
 have b1:=bw_le64 (m:=m) (j:=j) (by omega)
 have b2:=bw_le64 (m:=m) (j:=j + 1) (by omega)
 have b3:=bw_le64 (m:=m + 1) (j:=j) (by omega)
 have e3 : bw (m + 1) j =(j : Int) * bw m j + bw m (j + 1):=rfl
 have b4 : 0 ≤(j : Int) * bw m j:=Int.mul_nonneg (by omega) (by omega)
 have hwm : wrap64 ((j : Int) * bw m j) =(j : Int) * bw m j:=w64 (by omega) (by omega)
 have hwab : wrap64 ((j : Int) * bw m j + bw m (j + 1)) = bw (m + 1) j:=w64 (by omega) (by omega)
 obtain ⟨va,hva⟩ : ∃ v,bw m j = v:=⟨_,rfl⟩
 obtain ⟨vb,hvb⟩ : ∃ v,bw m (j + 1) = v:=⟨_,rfl⟩
 obtain ⟨vc,hvc⟩ : ∃ v,bw (m + 1) j = v:=⟨_,rfl⟩
 rw [hva] at l1 hwab hwm
 rw [hvb] at l2 hwab
 rw [hvc] at hwab HS HB1
 clear hva hvb hvc b1 b2 b3 b4 e3 c4 j1 m1 HT
 go_wp2
 refine start_ (n:=27) (S:=fun W'=>W'.cell? ⟨w.heap.size,m * 22 + j,none⟩ = some (.int .i64 va)∧W'.cell? ⟨w.heap.size,m * 22 + (j + 1),none⟩ = some (.int .i64 vb)) (ds:=[26]) (mk_ 0 27) (by kernel_rfl) rfl (by kernel_rfl) ⟨l1,l2⟩ (fun hHeld=>?_)
 iterate 26 (first
 |(refine pm_ (v:=?_) (a':=?_) rfl rfl (by kernel_rfl) (fun _ _ _ h=>h) ?_ ?_ ?_;rotate_left 2;(focus refine Or.inl ⟨by rfl,?_⟩;intro w';go_simp;with_reducible rfl);(focus simp only [List.getElem_toArray,List.getElem_cons_succ,List.getElem_cons_zero,Act.put,List.setIfInBounds_toArray,List.set_cons_zero,List.set_cons_succ,i64_w,i32_w];rfl))
 |(refine tm_ (v:=?_) (a':=?_) rfl rfl (by kernel_rfl) (fun _ _ _ h=>h) ?_ hHeld ?_ ?_;rotate_left 2;(focus refine Or.inl ⟨by rfl,?_⟩;rintro w' ⟨s0,s1⟩;go_simp;with_reducible rfl);(focus simp only [List.getElem_toArray,List.getElem_cons_succ,List.getElem_cons_zero,Act.put,List.setIfInBounds_toArray,List.set_cons_zero,List.set_cons_succ,i64_w,i32_w];rfl)))
 refine last_ (i:=26) (N:=none) (mk_ 27 0) rfl rfl (by kernel_rfl) (by decide) (fun K hK=>?_)
 have l3' : wr.drew.cell? ⟨w.heap.size,(m + 1) * 22 + j,none⟩ = some (.int .i64 (rsW (m + 1) j ((m + 1) * 22 + j))):=l3
 have l4' : wr.drew.frozen? ⟨w.heap.size,(m + 1) * 22 + j,none⟩ = false:=l4
 refine skip_ (w1:=?_) (by rfl) rfl ?_ ?_
 rotate_left
 ·go_simp
  rfl
 refine hK.out _ _ ?_
 clear hK K
 refine done_ (by kernel_rfl) ?_
 try go_wp2
 go_roundw
 case rel=>exact⟨j + 1,by simp [wj1],⟨by have:=of_decide_eq_true c4c;omega⟩,HS,HB1⟩
 exact meas1 wj1 (by have:=of_decide_eq_true c4c;omega)
theorem choices_new (w : World) : Calls Try.prog 58 #[] w fun e w'=>∃ g : Nat,e = .returned (.pointer (some ⟨g,0,none⟩))∧Tbl w' g 1681 (chV 41)∧Below w.heap.size w w'∧w.heap.size≤g :=
 (choices_calls w).mono fun e w' h=>⟨_,h.1,h.2.1,h.2.2,Nat.le_refl _⟩
theorem rests_new (w : World) : Calls Try.prog 59 #[] w fun e w'=>∃ g : Nat,e = .returned (.pointer (some ⟨g,0,none⟩))∧Tbl w' g 462 (rsV 21)∧Below w.heap.size w w'∧w.heap.size≤g :=
 (rests_calls w).mono fun e w' h=>⟨_,h.1,h.2.1,h.2.2,Nat.le_refl _⟩
end Go.Proofs.Ytbfhlaggllofdaa.T

namespace Go.Proofs.Ytbfhlaggllofdaa.S
open Go.Proofs.Ytbfhlaggllofdaa.Lib
open Go.Maps (Keyed)
open Go.RowKit Go.Proofs.YtbfhlaggllofdaaW.PrintWords Go.Proofs.YtbfhlaggllofdaaW.PrintLast Go.Proofs.YtbfhlaggllofdaaW.PrintMore
attribute [local go_sem] max2_int min2_int max_two min_two max_three min_three max_four min_four
set_option linter.unusedVariables false
set_option linter.unusedSimpArgs false

def turns_within.f (a0 : Int) (a1 : Int) (a2 : Int) : Option (Bool):=if a0 ≥ a1 then(some (decide (a0≤a2))) else(some false)
set_option maxHeartbeats 8000000 in
set_option maxRecDepth 100000 in
theorem turns_within.calls (a0 : Int) (a1 : Int) (a2 : Int) (r : Bool) (w : World) (h : turns_within.f a0 a1 a2 = some r) :
  Calls Try.prog 56 #[.int .i64 a0,.int .i64 a1,.int .i64 a2] w fun e w'=>e = .returned (.bool r)∧Drawn0 w w':=by
 have H :(if a0 ≥ a1 then(some (decide (a0≤a2))) else(some false)) = some r:=h
 clear h
 by_cases c4 : a0 ≥ a1
 ·rw [if_pos c4] at H
  have c4b0 : decide (a1≤a0) = true:=decide_eq_true c4
  clear c4
  obtain rfl:=Option.some.inj H
  go_enter Try.func56,Try.ntmps56
  go_wp2
  go_ret
  exact⟨by first | rfl |(simp;done) |(simp [*];done),by repeat(first | exact Drawn0.refl _ | apply Drawn0.step)⟩
 rw [if_neg c4] at H
 have c4b0 : decide (a1≤a0) = false:=decide_eq_false c4
 clear c4
 obtain rfl:=Option.some.inj H
 go_enter Try.func56,Try.ntmps56
 go_wp2
 go_ret
 exact⟨by first | rfl |(simp;done) |(simp [*];done),by repeat(first | exact Drawn0.refl _ | apply Drawn0.step)⟩
end Go.Proofs.Ytbfhlaggllofdaa.S

namespace Go.Proofs.Ytbfhlaggllofdaa.T
open Go.RowKit Go.Proofs.Ytbfhlaggllofdaa.S Go.Proofs.Ytbfhlaggllofdaa.P Go.Proofs.Ytbfhlaggllofdaa.G
open Go.Proofs.YtbfhlaggllofdaaW.PrintWords Go.Proofs.YtbfhlaggllofdaaW.PrintLast Go.Proofs.YtbfhlaggllofdaaW.PrintMore
set_option linter.unusedVariables false
structure IsS (n : Int) (l : List Int) : Prop where
 mem : ∀ x ∈ l,1≤x∧x≤n
 sorted : l.Pairwise (· < ·)
theorem within_yes {x lo hi : Int} (h : lo≤x∧x≤hi) : turns_within.f x lo hi = some true:=by
 unfold turns_within.f;rw [if_pos h.1,decide_eq_true h.2]
theorem within_no {x lo hi : Int} (h : ¬ (lo≤x∧x≤hi)) : turns_within.f x lo hi = some false:=by
 unfold turns_within.f
 split
 ·rw [decide_eq_false (by omega)]
 rfl
theorem IsS.take {n : Int} {l : List Int} (h : IsS n l) (i : Nat) : IsS n (l.take i):=⟨fun x hx=>h.mem x (List.mem_of_mem_take hx),h.sorted.sublist (List.take_sublist i l)⟩
end Go.Proofs.Ytbfhlaggllofdaa.T

namespace Go.Proofs.Ytbfhlaggllofdaa.S
open Go.Proofs.Ytbfhlaggllofdaa.Lib
open Go.Maps (Keyed)
open Go.RowKit Go.Proofs.YtbfhlaggllofdaaW.PrintWords Go.Proofs.YtbfhlaggllofdaaW.PrintLast Go.Proofs.YtbfhlaggllofdaaW.PrintMore
attribute [local go_sem] max2_int min2_int max_two min_two max_three min_three max_four min_four
set_option linter.unusedVariables false
set_option linter.unusedSimpArgs false

open Go.Proofs.Ytbfhlaggllofdaa.G Go.Proofs.Ytbfhlaggllofdaa.T Go.Proofs.Ytbfhlaggllofdaa.P
def turns_Groupings.f (a0 : Int) : Option (Int×Int):=some (if 0≤a0∧a0≤20 then(bw a0.toNat 0,0) else(0,2))
set_option maxHeartbeats 800000 in
theorem turns_Groupings.calls (a0 : Int) (r1 r2 : Int) (w : World) (h : turns_Groupings.f a0 = some (r1, r2)) :
  Calls Try.prog 28 #[.int .i64 a0] w fun e w'=>e = .returned (.tuple #[.int .i64 r1,.int .i64 r2])∧Below w.heap.size w w':=by
 replace h:=Option.some.inj h
 have HB:=Aside0.mk (Below.refl w.heap.size w)
 by_cases c0 : 0≤a0∧a0≤20
 rotate_left
 ·rw [if_neg c0] at h
  injection h with h1 h2
  subst h1;subst h2
  have hi1:=Aside0.mk (within_no c0)
  clear c0
  go_enter Try.func28,Try.ntmps28
  go_wp2_with (go_at_call 56;go_must (with_reducible refine(turns_within.calls a0 0 20 false _ hi1.out).mono ?_;rintro e w' ⟨rfl,⟨nd,rfl⟩⟩))
  go_ret2
  exact⟨rfl,by repeat(first |(with_reducible first | exact HB.out | apply bwN) | exact HB.out)⟩
 rw [if_pos c0] at h
 obtain ⟨n,rfl⟩ : ∃ n : Nat,a0 = n:=⟨a0.toNat,by omega⟩
 injection h with h1 h2
 rw [show((n : Int)).toNat = n by omega] at h1
 subst h1;subst h2
 have hi1:=Aside0.mk (within_yes c0)
 have d1:=eq_true (show(n : Int) < 21 by omega)
 have HN:=Aside0.mk (show n≤20 by omega)
 clear c0
 go_enter Try.func28,Try.ntmps28
 go_wp2_with (first |(go_at_call 56;go_must (with_reducible refine(turns_within.calls (n : Int) 0 20 true _ hi1.out).mono ?_;rintro e w' ⟨rfl,⟨nd,rfl⟩⟩)) |(go_at_call 59;go_must (refine(rests_new _).mono ?_;rintro e w1 ⟨g,rfl,ht,hb,hg⟩;have l1:=ht.1 (n * 22 + 0) (by have:=HN.out;omega);rw [rsV_at (by have:=HN.out;omega) (by have:=HN.out;omega)] at l1;simp only [Nat.add_zero] at l1;have HB1:=Aside0.mk (bwT (by repeat(first |(with_reducible first | exact HB.out | apply bwN) | exact HB.out)) hb);clear ht hb)))
 go_ret2
 exact⟨rfl,HB1.out⟩

open Go.Proofs.Ytbfhlaggllofdaa.T Go.Proofs.Ytbfhlaggllofdaa.P
def badDial (s : Int) : Bool:=!decide (1≤s∧s≤10)
def slices_ContainsFunc_int_int.f (l0 : List Int) : Option Bool:=some (l0.any badDial)
set_option maxHeartbeats 800000 in
theorem dials_fn.calls (s : Int) (w : World) : Calls Try.prog 69 #[.int .i64 s] w fun e w'=>e = .returned (.bool (badDial s))∧Drawn0 w w':=by
 by_cases c : 1≤s∧s≤10
 ·have e : badDial s = false := by unfold badDial; rw [decide_eq_true c]; rfl
  have HV:=Aside0.mk (fun(W : World)=>turns_within.calls s 1 10 true W (within_yes c))
  rw [e]
  clear c e
  go_enter Try.func69,Try.ntmps69
  go_wp2_with (go_at_call 56;go_must ((with_reducible refine(HV.out _).mono ?_);rintro e w1 ⟨rfl,⟨nd,rfl⟩⟩))
  go_ret
  exact⟨rfl,by repeat(first | exact Drawn0.refl _ | apply Drawn0.step)⟩
 have e : badDial s = true:=by unfold badDial;rw [decide_eq_false c];rfl
 have HV:=Aside0.mk (fun(W : World)=>turns_within.calls s 1 10 false W (within_no c))
 rw [e]
 clear c e
 go_enter Try.func69,Try.ntmps69
 go_wp2_with (go_at_call 56;go_must ((with_reducible refine(HV.out _).mono ?_);rintro e w1 ⟨rfl,⟨nd,rfl⟩⟩))
 go_ret
 exact⟨rfl,by repeat(first | exact Drawn0.refl _ | apply Drawn0.step)⟩
set_option maxHeartbeats 800000 in
theorem dials_index.calls (l : List Int) (A : Option Addr) (c1 : Nat) (w : World) (hr1 : Kd.C (Kd.int .i64) w A l.length l) :
  Calls Try.prog 74 #[.slice A l.length c1,.func (.func 69) #[] #[]] w fun e w'=>∃ r : Int,e = .returned (.int .i64 r)∧Drawn0 w w'∧Aside0 ((0≤r) =(l.any badDial = true)):=by
 have hm :(l.length : Int)≤9223372036854775807:=by have:=hr1.2.1;omega
 have HR1:=Aside0.mk hr1
 clear hr1
 go_enter Try.func74,Try.ntmps74
 go_wp2
 go_loopw [8] (fun v8 wr=>∃ i : Int,v8 = .int .i64 i∧Aside0 (0≤i∧i≤l.length)∧Aside0 ((l.take i.toNat).any badDial = false)∧Drawn0 w wr) (fun v8 _=>l.length - (intOf v8).toNat)
 case atStart=>exact⟨0,rfl,⟨by simp⟩,⟨rfl⟩,by repeat(first | exact Drawn0.refl _ | apply Drawn0.step)⟩
 obtain ⟨i,rfl,HI,HN,⟨nd,rfl⟩⟩:=hrel
 obtain ⟨p0,p1⟩:=HI.out
 by_cases c2 : i < (l.length : Int)
 rotate_left
 ·have c2b0 : decide (i < (l.length : Int)) = false := decide_eq_false c2
  have HF:=Aside0.mk (show(0 ≤(-1 : Int)) =(l.any badDial = true) by
   have:=HN.out
   rw [List.take_of_length_le (by omega)] at this
   rw [this]
   simp)
  clear c2
  go_wp2
  go_ret
  exact⟨_,rfl,by repeat(first | exact Drawn0.refl _ | apply Drawn0.step),HF⟩
 have c2b0 : decide (i < (l.length : Int)) = true:=decide_eq_true c2
 obtain ⟨ad,ea,hx⟩:=Kd.at_int HR1.out i p0 c2
 cases ea
 have hlt : i.toNat < l.length:=by omega
 have hrd : rd l i = l[i.toNat]:=by
  unfold rd
  rw [List.getD_eq_getElem?_getD,List.getElem?_eq_getElem hlt,Option.getD_some]
 have htk : l.take (i + 1).toNat = l.take i.toNat ++ [rd l i]:=by
  rw [show(i + 1).toNat = i.toNat + 1 by omega,List.take_succ_eq_append_getElem hlt,hrd]
 have HC:=Aside0.mk (fun W=>dials_fn.calls (rd l i) W)
 have q0:=eq_true p0
 have q1:=eq_true c2
 cases c3 : badDial (rd l i) with
 | true =>
  rw [c3] at HC
  have HF:=Aside0.mk (show(0≤i) =(l.any badDial = true) from propext ⟨fun _=>List.any_eq_true.2 ⟨_,by rw [hrd];exact List.getElem_mem hlt,c3⟩,fun _=>p0⟩)
  clear hrd htk c2 c3 hlt p1 p0
  go_wp2_with (go_at_call 69;go_must ((with_reducible refine(HC.out _).mono ?_);rintro e w2 ⟨rfl,⟨nd2,rfl⟩⟩))
  go_ret
  exact⟨_,rfl,by repeat(first | exact Drawn0.refl _ | apply Drawn0.step),HF⟩
 | false =>
  rw [c3] at HC
  have HN2:=Aside0.mk (show(l.take (i + 1).toNat).any badDial = false by
   rw [htk,List.any_append,HN.out]
   simp [c3])
  clear hrd htk c2 c3 hlt p0
  have hi : wrap64 (i + 1) = i + 1:=by have:=of_eq_true q1;have:=HI.out;unfold wrap64;omega
  go_wp2_with (go_at_call 69;go_must ((with_reducible refine(HC.out _).mono ?_);rintro e w2 ⟨rfl,⟨nd2,rfl⟩⟩))
  go_roundw
  case rel=>exact⟨i + 1,by go_num,⟨by have:=of_eq_true q1;have:=HI.out;omega⟩,HN2,by repeat(first | exact Drawn0.refl _ | apply Drawn0.step)⟩
  have:=of_eq_true q1;have:=HI.out;simp [intOf,hi];omega
set_option maxHeartbeats 800000 in
theorem slices_ContainsFunc_int_int.calls (A0 : Option Addr) (c0 : Nat) (l0 : List Int) (r : Bool) (w : World) (hr0 : Kd.C (Kd.int .i64) w A0 l0.length l0) (hc0 : l0.length ≤ c0) (h : slices_ContainsFunc_int_int.f l0 = some r) :
  Calls Try.prog 68 #[.slice A0 l0.length c0,.func (.func 69) #[] #[]] w fun e w'=>e = .returned (.bool r)∧Drawn0 w w':=by
 have HS:=Aside0.mk (fun n=>dials_index.calls l0 A0 c0 (w.drewN n) (Kd.C_drewN hr0 n))
 have HI:=Aside0.mk (dials_index.calls l0 A0 c0 w hr0)
 have HB:=Aside0.mk (show l0.any badDial = r from Option.some.inj h)
 clear h hr0
 go_enter Try.func68,Try.ntmps68
 go_wp2_with (go_at_call 74;go_must ((with_reducible refine HI.out.mono ?_);rintro e w1 ⟨q,rfl,⟨nd,rfl⟩,hq⟩;have hqr : decide (0≤q) = r:=(by rw [← HB.out];cases hc : l0.any badDial with | true=>exact decide_eq_true (by rw [hq.out];exact hc) | false=>exact decide_eq_false (by rw [hq.out,hc];decide));clear hq))
 go_ret
 exact⟨rfl,by repeat(first | exact Drawn0.refl _ | apply Drawn0.step)⟩

mutual
def turns_settings.j0 : Nat → List Int → Bool → Option (List Int × Bool)
 | 0,_,_=>none
 | k + 1,x0,x12=>if x12 = true then(some (([] : List Int),false)) else(if 0 ≤(wrap64 ((x0.length : Int) + 1)) then(if(wrap64 ((x0.length : Int) + 1) : Int).toNat≤35184372088832 then((some (List.replicate (wrap64 ((x0.length : Int) + 1) : Int).toNat 0 : List Int)).bind fun y102=>(if 0 ≤(x0.length : Int) then(if(x0.length : Int) < (y102.length : Int) then(turns_settings.l0 k x0 (y102.set ((x0.length : Int) : Int).toNat 1) (wrap64 ((x0.length : Int) - 1))) else(none)) else(none))) else(none)) else(none))
def turns_settings.l0 : Nat → List Int → List Int → Int → Option (List Int × Bool)
 | 0,_,_,_=>none
 | k + 1,x0,x4,x5=>if x5 ≥ 0 then(if 0≤x5 then(if x5 < (x0.length : Int) then(if 0 ≤(wrap64 (x5 + 1)) then(if(wrap64 (x5 + 1)) < (x4.length : Int) then(if x5 < (x4.length : Int) then(turns_settings.l0 k x0 (x4.set (x5 : Int).toNat (wrap64 ((rd x0 x5) * (rd x4 (wrap64 (x5 + 1)))))) (wrap64 (x5 - 1))) else(none)) else(none)) else(none)) else(none)) else(none)) else(some (x4,true))
end
def turns_settings.f (k : Nat) (l0 : List Int) : Option (List Int×Bool):=if(l0.length : Int) > 12 then(turns_settings.j0 k l0 true) else((slices_ContainsFunc_int_int.f l0).bind fun t101=>(turns_settings.j0 k l0 t101))
def turns_settings.T8 : Bool×List (List Nat×List Nat):=(true,[([],[]),([],[]),([],[]),([],[]),([2,3],[2,3]),([4],[4]),([],[]),([],[]),([7],[7]),([6,8],[6,8]),([9],[9]),([5,10],[5,10]),([0,1,0,1,2,3,4,5,6,7,8,9,10,11],[0,1]),([12,11,0,1,2,3,4,5,6,7,8,9,10,11],[11,12])])
def turns_settings.B8 : List Nat:=[0,0,0,0,12,28,0,0,128,448,960,2044,4095,8191]
theorem turns_settings.tab8 : rtab .any (opsOf Try.f55 8) = turns_settings.T8:=by kernel_rfl
theorem turns_settings.bits8 : waitsOk turns_settings.T8.2 turns_settings.B8 = true:=by kernel_rfl
set_option maxHeartbeats 8000000 in
set_option maxRecDepth 100000 in
theorem turns_settings.calls (k : Nat) (A0 : Option Addr) (c0 : Nat) (l0 : List Int) (r1 : List Int) (r2 : Bool) (w : World) (hr0 : Kd.C (Kd.int .i64) w A0 l0.length l0) (hc0 : l0.length ≤ c0) (h : turns_settings.f k l0 = some (r1, r2)) :
  Calls Try.prog 55 #[.slice A0 l0.length c0] w fun e w'=>∃ v0_ : Value,e = .returned (.tuple #[v0_,.bool r2])∧Kd.R (Kd.int .i64) 3 w' w.heap.size (fun _=>True) v0_ r1∧Below w.heap.size w w':=by
 have HR0:=Aside0.mk hr0
 have HC0:=Aside0.mk hc0
 clear hr0 hc0
 have HB:=Aside0.mk (Below.refl w.heap.size w)
 have H :(if(l0.length : Int) > 12 then(turns_settings.j0 k l0 true) else((slices_ContainsFunc_int_int.f l0).bind fun t101=>(turns_settings.j0 k l0 t101))) = some (r1,r2):=h
 clear h
 have HC2:=Aside0.mk H
 clear H
 go_enter Try.func55,Try.ntmps55
 go_upto_region 1 with (fail)
 go_cut [12] (fun v12 wc=>∃ (kq : Nat) (x12_1 : Bool),v12 = .bool x12_1∧Aside0 (turns_settings.j0 kq l0 x12_1 = some (r1,r2))∧Aside0 (kq≤k)∧Aside0 (Below w.heap.size w wc))
 case first =>
  have H:=HC2.out
  clear HC2
  by_cases c3 :(l0.length : Int) > 12
  ·rw [if_pos c3] at H
   have c3b0 : decide (12 < (l0.length : Int)) = true:=decide_eq_true c3
   have c3b1 : decide (12 < l0.length) = true:=decide_eq_true (by omega)
   clear c3
   (first | rw [c3b0] |(simp only [i64_w,i32_w];rw [c3b0]) | skip)
   have H':=Aside0.mk H
   clear H
   go_wp2
   go_meet
   exact⟨_,(true),(by first | rfl |(simp;done) |(simp [*];done)),H',⟨by first | omega | exact Nat.le_refl _⟩,⟨by repeat(first |(with_reducible first | exact HB.out | apply bwA | apply bwN | apply bw1) | exact HB.out)⟩⟩
  rw [if_neg c3] at H
  have c3b0 : decide (12 < (l0.length : Int)) = false:=decide_eq_false c3
  have c3b1 : decide (12 < l0.length) = false:=decide_eq_false (by omega)
  clear c3
  (first | rw [c3b0] |(simp only [i64_w,i32_w];rw [c3b0]) | skip)
  replace H:=Option.bind_eq_some_iff.mp H
  obtain ⟨t101,A40,H⟩:=H
  replace H :(turns_settings.j0 k l0 t101) = some (r1,r2):=H
  have A4:=Aside0.mk A40
  clear A40
  have H':=Aside0.mk H
  clear H
  go_wp2_with (first |(go_at_call 68;(with_reducible refine(slices_ContainsFunc_int_int.calls _ _ l0 t101 _ ?side1 ?side2 A4.out).mono ?_);(case side1=>repeat(first | exact(Kd.C_below HR0.out HB.out) |(with_reducible refine Kd.C_alloc ?_ _) |(with_reducible refine Kd.C_drewN ?_ _) |(with_reducible refine Kd.C_drew ?_)));(case side2=>exact HC0.out);rintro e w' ⟨rfl,⟨nd,rfl⟩⟩))
  go_meet
  exact⟨_,(t101),(by first | rfl |(simp;done) |(simp [*];done)),H',⟨by first | omega | exact Nat.le_refl _⟩,⟨by repeat(first |(with_reducible first | exact HB.out | apply bwA | apply bwN | apply bw1) | exact HB.out)⟩⟩
 case rest =>
  clear HC2
  try clear p2
  try clear c3
  try clear c3b0
  try clear c3b1
  obtain ⟨kq,x12_1,rfl,HA,HJ1,HB⟩:=hcut
  cases kq with
  | zero=>exact absurd HA.out (by simp [turns_settings.j0])
  | succ kj1 =>
   have H:=HA.out
   clear HA
   simp only [turns_settings.j0] at H
   by_cases c5 : x12_1 = true
   ·subst c5
    have H1 :(some (([] : List Int),false)) = some (r1,r2):=by rw [if_pos rfl] at H;exact H
    clear H
    have H:=H1
    clear H1
    simp only [Option.some.injEq,Prod.mk.injEq] at H
    obtain ⟨rfl,rfl⟩:=H
    go_wp2
    go_ret2
    exact⟨_,by first | rfl |(simp [errW_none,errW_some] <;> rfl) |(simp [*,errW_none,errW_some] <;> rfl),by first | exact Kd.R_nil _ _ _ _ _ | exact Kd.N_nil _ _ _ _ _ | exact Kd.V_nil _ _ _ _ _ | exact Kd.Q_nil _ _ _ _ _ | exact Kd.S_nil _ _ _ _ _,by repeat(first |(with_reducible first | exact HB.out | apply bwA | apply bwN | apply bw1) | exact HB.out)⟩
   replace c5:=Bool.eq_false_iff.mpr c5
   subst c5
   have H1 :(if 0 ≤(wrap64 ((l0.length : Int) + 1)) then(if(wrap64 ((l0.length : Int) + 1) : Int).toNat≤35184372088832 then((some (List.replicate (wrap64 ((l0.length : Int) + 1) : Int).toNat 0 : List Int)).bind fun y102=>(if 0 ≤(l0.length : Int) then(if(l0.length : Int) < (y102.length : Int) then(turns_settings.l0 kj1 l0 (y102.set ((l0.length : Int) : Int).toNat 1) (wrap64 ((l0.length : Int) - 1))) else(none)) else(none))) else(none)) else(none)) = some (r1,r2):=by rw [if_neg (show ¬ (false = true) by decide)] at H;exact H
   clear H
   have H:=H1
   clear H1
   obtain ⟨ji6,hji6⟩ : ∃ j_ : Int,(wrap64 ((l0.length : Int) + 1)) = j_:=⟨_,rfl⟩
   replace H :(if 0 ≤(ji6) then(if(ji6 : Int).toNat≤35184372088832 then((some (List.replicate (ji6 : Int).toNat 0 : List Int)).bind fun y102=>(if 0 ≤(l0.length : Int) then(if(l0.length : Int) < (y102.length : Int) then(turns_settings.l0 kj1 l0 (y102.set ((l0.length : Int) : Int).toNat 1) (wrap64 ((l0.length : Int) - 1))) else(none)) else(none))) else(none)) else(none)) = some (r1,r2):=by first |(rw [hji6] at H;exact H) |(simp only [hji6] at H ⊢;exact H)
   have hji6w :(IntKind.i64.wrap ((l0.length : Int) + 1)) = ji6:=(i64_w _).trans hji6
   by_cases c7 : 0 ≤(ji6)
   rotate_left
   ·rw [if_neg c7] at H
    exact absurd H (by simp)
   rw [if_pos c7] at H
   have c7b0:=eq_true c7
   have c7b1 : decide (0 ≤(ji6)) = true:=decide_eq_true c7
   clear c7
   by_cases c8 :(ji6 : Int).toNat≤35184372088832
   rotate_left
   ·rw [if_neg c8] at H
    exact absurd H (by simp)
   rw [if_pos c8] at H
   have c8b0:=eq_true c8
   have c8b1 : decide ((ji6 : Int).toNat≤35184372088832) = true:=decide_eq_true c8
   clear c8
   obtain ⟨y102,hy102⟩ : ∃ y_ : List Int,y_ =(List.replicate (ji6 : Int).toNat 0):=⟨_,rfl⟩
   replace H :(if 0 ≤(l0.length : Int) then(if(l0.length : Int) < (y102.length : Int) then(turns_settings.l0 kj1 l0 (y102.set ((l0.length : Int) : Int).toNat 1) (wrap64 ((l0.length : Int) - 1))) else(none)) else(none)) = some (r1,r2):=by first |(rw [hy102];with_reducible exact H) |(have H2_:=(Option.bind_some _ _).symm.trans H;rw [hy102];with_reducible exact H2_) |(have H2_:=(Option.bind_some _ _).symm.trans H;with_reducible exact H2_) | with_reducible exact H |(rw [hy102];exact H) | exact H
   have Ny102:=Aside0.mk hy102
   clear hy102
   by_cases c9 : 0 ≤(l0.length : Int)
   rotate_left
   ·rw [if_neg c9] at H
    exact absurd H (by simp)
   rw [if_pos c9] at H
   have c9b0 : decide (0 ≤(l0.length : Int)) = true:=decide_eq_true c9
   have c9b1 : decide (0≤l0.length) = true:=decide_eq_true (by omega)
   clear c9
   by_cases c10 :(l0.length : Int) < (y102.length : Int)
   rotate_left
   ·rw [if_neg c10] at H
    exact absurd H (by simp)
   rw [if_pos c10] at H
   have c10b0 : decide ((l0.length : Int) < (y102.length : Int)) = true:=decide_eq_true c10
   have c10b1 : decide (l0.length < y102.length) = true:=decide_eq_true (Int.ofNat_lt.mp c10)
   clear c10
   obtain ⟨y105,hy105⟩ : ∃ y_ : List Int,y_ =(y102.set ((l0.length : Int) : Int).toNat 1):=⟨_,rfl⟩
   replace H :(turns_settings.l0 kj1 l0 y105 (wrap64 ((l0.length : Int) - 1))) = some (r1,r2):=by first |(rw [hy105];with_reducible exact H) |(have H2_:=(Option.bind_some _ _).symm.trans H;rw [hy105];with_reducible exact H2_) |(have H2_:=(Option.bind_some _ _).symm.trans H;with_reducible exact H2_) | with_reducible exact H |(rw [hy105];exact H) | exact H
   have Ny105:=Aside0.mk hy105
   clear hy105
   have H':=Aside0.mk H
   clear H
   go_wp2_with (first |((with_reducible refine gate_dst (N:=16) rfl ?_);refine Kd.R_make (Kd.int .i64) _ 3 rfl (N:=16) rfl 22 _ _ rfl ji6 rfl rfl Try.underlying22 (.int .i64 0) 8 info3 rfl (by decide) (by omega) 0 (ok:=fun _=>True) (okp:=fun _=>True) rfl (fun _ hk=>hk) trivial (of_decide_eq_true (by first |(with_reducible assumption) | assumption)) (Nat.le_trans (Nat.mul_le_mul_right _ (of_decide_eq_true (by first |(with_reducible assumption) | assumption) : ji6.toNat≤35184372088832)) (by omega)) (Below.refl _ _) (Nat.le_refl _) ?_;intro v103 w12 ho13 hb hg_ hnew_;clear hg_ hnew_;(first | rw [← Ny102.out] at ho13 |(simp only [Int.reduceToNat] at ho13;rw [← Ny102.out] at ho13));have n0_:=Aside0.mk (Kd.R_lower ho13 (bwZ (by repeat(first |(with_reducible first | exact HB.out | apply bwA | apply bwN | apply bw1) | exact HB.out))));have n1_:=Aside0.mk (bwT (by repeat(first |(with_reducible first | exact HB.out | apply bwA | apply bwN | apply bw1) | exact HB.out)) hb);clear HB;have HO104:=n0_;have HB:=n1_;clear n0_ n1_;clear hb ho13;have p11 : 0 ≤((l0.length : Int) : Int):=of_decide_eq_true (by first |(with_reducible assumption) | assumption);have q11 :((l0.length : Int) : Int) < ((y102.length : Int) : Int):=of_decide_eq_true (by first |(with_reducible assumption) | assumption);obtain ⟨go11,co11,eo11,gb11,gl11,cl11,HG11⟩:=Kd.R_form HO104.out (by omega);(first | cases eo11 |(injection eo11 with ea_ en_ ec_;(first | subst ea_ |(injection ea_ with ea_;subst ea_));subst ec_;clear en_));have GB11:=Aside0.mk gb11;have GG11:=Aside0.mk HG11;clear gb11 gl11 HG11;obtain ⟨hx11_0,hf11_0⟩:=Kd.R_celln 0 HO104.out ((l0.length : Int) : Int) p11 q11;replace p11:=eq_true p11;replace q11:=eq_true q11;obtain ⟨hy14_,hz14_⟩:=Kd.R_celln 0 HO104.out ((l0.length : Int) : Int) (of_decide_eq_true (by first |(with_reducible assumption) | assumption)) (of_decide_eq_true (by first |(with_reducible assumption) | assumption));(try simp only [Go.IntWalk.toNatUp] at hy14_ hz14_);have HP14:=Kd.R_putg HO104.out ((l0.length : Int) : Int) 1) |((with_reducible refine gate_store (t:=3) (p:=20) rfl ?_);refine store_event (t:=3) (p:=20) (v:=?vo_w15) (w1:=(w12.setCell ⟨go11,((l0.length : Int) : Int).toNat,none⟩ (.int .i64 1))) ?hg ?ho ?hn ?hr ?_;(case ho=>rfl);(case hg=>rfl);(case hn=>rfl);(case hr=>first |(go_simp;done) |(go_simp;rfl));intro w15 hw;have hg : w12.grownBy w15 (some go11):=(by rw [hw];exact HP14.2);have hp_ : Kd.R (Kd.int .i64) 3 w15 w.heap.size (fun _=>True) (.slice (some ⟨go11,0,none⟩) y102.length co11) y105:=(by rw [hw,Ny105.out];exact HP14.1);clear HP14;have n0_:=Aside0.mk (hp_);have n1_:=Aside0.mk ((by rw [hw];exact bwS (HB.out) GB11.out : Below w.heap.size w w15));clear HO104;clear HB;have HO104:=n0_;have HB:=n1_;clear n0_ n1_;clear hg hw hp_))
   go_loopg [5] kj1 (fun kq v5 w'=>∃ (x4_2 : List Int) (x5_2 : Int),v5 = .int .i64 x5_2∧Aside0 (turns_settings.l0 kq l0 x4_2 x5_2 = some (r1,r2))∧Aside0 (kq≤kj1)∧Aside0 (Kd.R (Kd.int .i64) 3 w' w.heap.size (fun _=>True) (.slice (some ⟨go11,0,none⟩) y102.length co11) x4_2)∧Aside0 (Below w.heap.size w w'))
   case atStart=>exact⟨(y105),(wrap64 ((l0.length : Int) - 1)),(by first | rfl |(simp;done) |(simp [*];done)),H',⟨Nat.le_refl _⟩,⟨by(with_reducible repeat(first | apply Kd.R_alloc | apply Kd.R_drewN | apply Kd.R_drew));exact HO104.out⟩,⟨by repeat(first |(with_reducible first | exact HB.out | apply bwA | apply bwN | apply bw1) | exact HB.out)⟩⟩
   clear H'
   try clear c1
   try clear p1
   try clear q1
   try clear hx1
   try clear hf1
   try clear p2
   try clear c3
   try clear c3b0
   try clear c3b1
   try clear c5
   try clear p6
   try clear c7
   try clear c7b0
   try clear c7b1
   try clear c8
   try clear c8b0
   try clear c8b1
   try clear c9
   try clear c9b0
   try clear c9b1
   try clear c10
   try clear c10b0
   try clear c10b1
   try clear p11
   try clear q11
   try clear hx11
   try clear hf11
   try clear hx11_0
   try clear p11
   try clear p2
   try clear q11
   obtain ⟨x4_2,x5_2,rfl,HA,HK2,HO_4,HB⟩:=hrel
   have hl4_2:=(Kd.R_reads' HO_4.out).1
   rw [hl4_2] at HO_4
   (try simp only [hl4_2])
   cases gk with
   | zero=>exact absurd HA.out (by simp [turns_settings.l0])
   | succ k2 =>
    have H:=HA.out
    clear HA
    simp only [turns_settings.l0] at H
    by_cases c16 : x5_2 ≥ 0
    rotate_left
    ·rw [if_neg c16] at H
     have c16b0 : decide (0≤x5_2) = false:=decide_eq_false c16
     clear c16
     simp only [Option.some.injEq,Prod.mk.injEq] at H
     obtain ⟨rfl,rfl⟩:=H
     go_wp2
     go_ret2
     exact⟨_,by first | rfl |(simp [errW_none,errW_some] <;> rfl) |(simp only [← hji6];first | rfl |(simp [errW_none,errW_some] <;> rfl)) |(simp [*,errW_none,errW_some] <;> rfl),by(with_reducible repeat(first | apply Kd.R_alloc | apply Kd.R_drewN | apply Kd.R_drew));exact HO_4.out,by repeat(first |(with_reducible first | exact HB.out | apply bwA | apply bwN | apply bw1) | exact HB.out)⟩
    rw [if_pos c16] at H
    have c16b0 : decide (0≤x5_2) = true:=decide_eq_true c16
    clear c16
    by_cases c17 : 0≤x5_2
    rotate_left
    ·rw [if_neg c17] at H
     exact absurd H (by simp)
    rw [if_pos c17] at H
    have c17b0 : decide (0≤x5_2) = true:=decide_eq_true c17
    clear c17
    by_cases c18 : x5_2 < (l0.length : Int)
    rotate_left
    ·rw [if_neg c18] at H
     exact absurd H (by simp)
    rw [if_pos c18] at H
    have c18b0 : decide (x5_2 < (l0.length : Int)) = true:=decide_eq_true c18
    clear c18
    obtain ⟨ji19,hji19⟩ : ∃ j_ : Int,(wrap64 (x5_2 + 1)) = j_:=⟨_,rfl⟩
    replace H :(if 0 ≤(ji19) then(if(ji19) < (x4_2.length : Int) then(if x5_2 < (x4_2.length : Int) then(turns_settings.l0 k2 l0 (x4_2.set (x5_2 : Int).toNat (wrap64 ((rd l0 x5_2) * (rd x4_2 (ji19))))) (wrap64 (x5_2 - 1))) else(none)) else(none)) else(none)) = some (r1,r2):=by first |(rw [hji19] at H;exact H) |(simp only [hji19] at H ⊢;exact H)
    have hji19w :(IntKind.i64.wrap (x5_2 + 1)) = ji19:=(i64_w _).trans hji19
    by_cases c20 : 0 ≤(ji19)
    rotate_left
    ·rw [if_neg c20] at H
     exact absurd H (by simp)
    rw [if_pos c20] at H
    have c20b0 : decide (0 ≤(ji19)) = true:=decide_eq_true c20
    clear c20
    by_cases c21 :(ji19) < (x4_2.length : Int)
    rotate_left
    ·rw [if_neg c21] at H
     exact absurd H (by simp)
    rw [if_pos c21] at H
    have c21b0 : decide ((ji19) < (x4_2.length : Int)) = true:=decide_eq_true c21
    clear c21
    by_cases c22 : x5_2 < (x4_2.length : Int)
    rotate_left
    ·rw [if_neg c22] at H
     exact absurd H (by simp)
    rw [if_pos c22] at H
    have c22b0 : decide (x5_2 < (x4_2.length : Int)) = true:=decide_eq_true c22
    clear c22
    obtain ⟨y108,hy108⟩ : ∃ y_ : List Int,y_ =(x4_2.set (x5_2 : Int).toNat (wrap64 ((rd l0 x5_2) * (rd x4_2 (ji19))))):=⟨_,rfl⟩
    replace H :(turns_settings.l0 k2 l0 y108 (wrap64 (x5_2 - 1))) = some (r1,r2):=by first |(rw [hy108];with_reducible exact H) |(have H2_:=(Option.bind_some _ _).symm.trans H;rw [hy108];with_reducible exact H2_) |(have H2_:=(Option.bind_some _ _).symm.trans H;with_reducible exact H2_) | with_reducible exact H |(rw [hy108];exact H) | exact H
    have Ny108:=Aside0.mk hy108
    clear hy108
    have H':=Aside0.mk H
    clear H
    try go_wp2
    have n0_:=Aside0.mk (Kd.R_drew HO_4.out)
    have n1_:=Aside0.mk (bw1 HB.out)
    clear HO_4
    clear HB
    have HO_4:=n0_
    have HB:=n1_
    clear n0_ n1_
    have p106 : 0 ≤(x5_2 : Int):=of_decide_eq_true (by first |(with_reducible assumption) | assumption)
    have q106 : x5_2 < (l0.length : Int):=of_decide_eq_true (by first |(with_reducible assumption) | assumption)
    obtain ⟨ad106,e106,hx106_0⟩:=Kd.at_int HR0.out x5_2 p106 q106
    have hw106_0:=hx106_0
    cases e106
    replace hx106_0:=(HB.out.cell (World.block_lt_of_cell? w _ hx106_0)).trans hx106_0
    replace p106:=eq_true p106
    replace q106:=eq_true q106
    have p107 : 0 ≤((ji19) : Int):=of_decide_eq_true (by first |(with_reducible assumption) | assumption)
    have q107 :(ji19) < (x4_2.length : Int):=of_decide_eq_true (by first |(with_reducible assumption) | assumption)
    obtain ⟨ad107,e107,hx107_0⟩:=Kd.at_int (Kd.R_reads' HO_4.out).2.2 (ji19) p107 q107
    obtain rfl :(⟨go11,0,none⟩ : Addr) = ad107:=(by injection e107)
    (first | simp only [add_plain] at hx107_0 | simp only [add_at] at hx107_0 | simp only [Addr.add,Nat.zero_add] at hx107_0 | skip)
    replace p107:=eq_true p107
    replace q107:=eq_true q107
    have p23 : 0 ≤(x5_2 : Int):=of_decide_eq_true (by first |(with_reducible assumption) | assumption)
    have q23 :(x5_2 : Int) < ((x4_2.length : Int) : Int):=of_decide_eq_true (by first |(with_reducible assumption) | assumption)
    obtain ⟨hx23_0,hf23_0⟩:=Kd.R_celln 0 HO_4.out (x5_2 : Int) p23 q23
    replace p23:=eq_true p23
    replace q23:=eq_true q23
    have HP25:=Kd.R_putn HO_4.out (x5_2 : Int) (wrap64 ((rd l0 x5_2) * (rd x4_2 (ji19))))
    rw [← Ny108.out] at HP25
    have HQ25:=Aside0.mk HP25
    clear HP25
    refine start_ (n:=14) (S:=fun w'=>w'.cell? (ad106.add (x5_2).toNat) = some (.int .i64 (rd l0 x5_2))∧w'.cell? ⟨go11,((ji19)).toNat,none⟩ = some (.int .i64 (rd x4_2 (ji19)))) (ds:=[13]) #[false,false,false,false,false,false,false,false,false,false,false,false,false,false] (by kernel_rfl) rfl rfl ⟨((HB.out.cell (World.block_lt_of_cell? w _ hw106_0)).trans hw106_0),hx107_0⟩ (fun hHeld=>?_);refine with_tabW turns_settings.tab8 turns_settings.bits8 (fun HT_ HW_=>?_)
    generalize wr.drew = w24 at HO_4 HB HQ25 hf23_0 hx106_0 hx107_0 hx23_0 hHeld ⊢
    refine pure_ (i:=0) (N:=some 28) (v:=?_) (a':=?_) #[true,false,false,false,false,false,false,false,false,false,false,false,false,false] rfl rfl (any_of HT_.out (by kernel_rfl)) (fun _ _ _ h=>h) (Or.inl ⟨by rfl,?_⟩) ?_ ?_
    rotate_left
    ·intro w'
     go_simp
     with_reducible rfl
    rotate_left
    ·simp only [Act.put, List.setIfInBounds_toArray, List.set_cons_zero, List.set_cons_succ, i64_w, i32_w]
     rfl
    refine pure_ (i:=1) (N:=some 29) (v:=?_) (a':=?_) #[true,true,false,false,false,false,false,false,false,false,false,false,false,false] rfl rfl (any_of HT_.out (by kernel_rfl)) (fun _ _ _ h=>h) (Or.inl ⟨by rfl,?_⟩) ?_ ?_
    rotate_left
    ·intro w'
     go_simp
     with_reducible rfl
    rotate_left
    ·simp only [Act.put, List.setIfInBounds_toArray, List.set_cons_zero, List.set_cons_succ, i64_w, i32_w]
     rfl
    refine pure_ (i:=2) (N:=some 30) (v:=?_) (a':=?_) #[true,true,true,false,false,false,false,false,false,false,false,false,false,false] rfl rfl (any_of HT_.out (by kernel_rfl)) (fun _ _ _ h=>h) (Or.inl ⟨by rfl,?_⟩) ?_ ?_
    rotate_left
    ·intro w'
     go_simp
     with_reducible rfl
    rotate_left
    ·simp only [Act.put, List.setIfInBounds_toArray, List.set_cons_zero, List.set_cons_succ, i64_w, i32_w]
     rfl
    refine pure_ (i:=3) (N:=some 31) (v:=?_) (a':=?_) #[true,true,true,true,false,false,false,false,false,false,false,false,false,false] rfl rfl (any_of HT_.out (by kernel_rfl)) (fun _ _ _ h=>h) (Or.inl ⟨by rfl,?_⟩) ?_ ?_
    rotate_left
    ·intro w'
     go_simp
     with_reducible rfl
    rotate_left
    ·simp only [Act.put, List.setIfInBounds_toArray, List.set_cons_zero, List.set_cons_succ, i64_w, i32_w]
     rfl
    refine pure_ (i:=4) (N:=some 32) (v:=?_) (a':=?_) #[true,true,true,true,true,false,false,false,false,false,false,false,false,false] rfl rfl (any_of HT_.out (by kernel_rfl)) (fun _ _ _ h=>h) (Or.inl ⟨by rfl,?_⟩) ?_ ?_
    rotate_left
    ·intro w'
     go_simp
     with_reducible rfl
    rotate_left
    ·simp only [Act.put, List.setIfInBounds_toArray, List.set_cons_zero, List.set_cons_succ, i64_w, i32_w]
     rfl
    refine pure_ (i:=6) (N:=some 34) (v:=?_) (a':=?_) #[true,true,true,true,true,false,true,false,false,false,false,false,false,false] rfl rfl (any_of HT_.out (by kernel_rfl)) (fun _ _ _ h=>h) (Or.inl ⟨by rfl,?_⟩) ?_ ?_
    rotate_left
    ·intro w'
     go_simp
     with_reducible rfl
    rotate_left
    ·simp only [Act.put, List.setIfInBounds_toArray, List.set_cons_zero, List.set_cons_succ, i64_w, i32_w]
     rfl
    refine pure_ (i:=7) (N:=some 35) (v:=?_) (a':=?_) #[true,true,true,true,true,false,true,true,false,false,false,false,false,false] rfl rfl (any_of HT_.out (by kernel_rfl)) (fun _ _ _ h=>h) (Or.inl ⟨by rfl,?_⟩) ?_ ?_
    rotate_left
    ·intro w'
     go_simp
     with_reducible rfl
    rotate_left
    ·simp only [Act.put, List.setIfInBounds_toArray, List.set_cons_zero, List.set_cons_succ, i64_w, i32_w]
     rfl
    refine pure_ (i:=8) (N:=some 36) (v:=?_) (a':=?_) #[true,true,true,true,true,false,true,true,true,false,false,false,false,false] rfl rfl (any_of HT_.out (by kernel_rfl)) (fun _ _ _ h=>h) (Or.inl ⟨by rfl,?_⟩) ?_ ?_
    rotate_left
    ·intro w'
     go_simp
     with_reducible rfl
    rotate_left
    ·simp only [Act.put, List.setIfInBounds_toArray, List.set_cons_zero, List.set_cons_succ, i64_w, i32_w]
     rfl
    refine pure_ (i:=9) (N:=some 37) (v:=?_) (a':=?_) #[true,true,true,true,true,false,true,true,true,true,false,false,false,false] rfl rfl (any_of HT_.out (by kernel_rfl)) (fun _ _ _ h=>h) (Or.inl ⟨by rfl,?_⟩) ?_ ?_
    rotate_left
    ·intro w'
     go_simp
     with_reducible rfl
    rotate_left
    ·simp only [Act.put, List.setIfInBounds_toArray, List.set_cons_zero, List.set_cons_succ, i64_w, i32_w]
     rfl
    refine take_ (i:=5) (N:=some 33) (v:=?_) (a':=?_) #[true,true,true,true,true,true,true,true,true,true,false,false,false,false] rfl rfl (take_ofW HT_.out HW_.out (by kernel_rfl)) (fun _ _ _ h=>h) (Or.inl ⟨by rfl,?_⟩) hHeld ?_ ?_
    rotate_left
    ·rintro w' ⟨s0, s1⟩
     go_simp
     with_reducible rfl
    rotate_left
    ·simp only [Act.put, List.setIfInBounds_toArray, List.set_cons_zero, List.set_cons_succ, i64_w, i32_w]
     rfl
    refine take_ (i:=10) (N:=some 38) (v:=?_) (a':=?_) #[true,true,true,true,true,true,true,true,true,true,true,false,false,false] rfl rfl (take_ofW HT_.out HW_.out (by kernel_rfl)) (fun _ _ _ h=>h) (Or.inl ⟨by rfl,?_⟩) hHeld ?_ ?_
    rotate_left
    ·rintro w' ⟨s0, s1⟩
     go_simp
     with_reducible rfl
    rotate_left
    ·simp only [Act.put, List.setIfInBounds_toArray, List.set_cons_zero, List.set_cons_succ, i64_w, i32_w]
     rfl
    refine pure_ (i:=11) (N:=some 39) (v:=?_) (a':=?_) #[true,true,true,true,true,true,true,true,true,true,true,true,false,false] rfl rfl (any_of HT_.out (by kernel_rfl)) (fun _ _ _ h=>h) (Or.inl ⟨by rfl,?_⟩) ?_ ?_
    rotate_left
    ·intro w'
     go_simp
     with_reducible rfl
    rotate_left
    ·simp only [Act.put, List.setIfInBounds_toArray, List.set_cons_zero, List.set_cons_succ, i64_w, i32_w]
     rfl
    refine pure_ (i:=12) (N:=some 40) (v:=?_) (a':=?_) #[true,true,true,true,true,true,true,true,true,true,true,true,true,false] rfl rfl (any_of HT_.out (by kernel_rfl)) (fun _ _ _ h=>h) (Or.inl ⟨by rfl,?_⟩) ?_ ?_
    rotate_left
    ·intro w'
     go_simp
     with_reducible rfl
    rotate_left
    ·simp only [Act.put, List.setIfInBounds_toArray, List.set_cons_zero, List.set_cons_succ, i64_w, i32_w]
     rfl
    refine last_ (i:=13) (N:=none) #[true,true,true,true,true,true,true,true,true,true,true,true,true,true] rfl rfl (one_of HT_.out (by kernel_rfl)) (by decide) (fun K hK=>?_)
    refine skip_ (w1:=?_) (by rfl) rfl ?_ ?_
    rotate_left
    ·go_simp
     rfl
    refine hK.out _ _ ?_
    clear hK K
    refine done_ (done_of HT_.out (by kernel_rfl)) ?_
    try go_wp2
    (try simp only [← hl4_2])
    go_roundg k2
    case measure=>have:=HJ1.out;have:=HK2.out;omega
    exact⟨(y108),(wrap64 (x5_2 - 1)),(by first | rfl |(simp;done) |(simp [*];done)),H',⟨by have:=HJ1.out;have:=HK2.out;omega⟩,⟨by(try simp only [hl4_2]);(with_reducible repeat(first | apply Kd.R_alloc | apply Kd.R_drewN | apply Kd.R_drew));exact HQ25.out⟩,⟨by repeat(first |(with_reducible first | exact HB.out | apply bwA | apply bwN | apply bw1 | refine bwS ?_ GB11.out) | exact HB.out)⟩⟩
end Go.Proofs.Ytbfhlaggllofdaa.S

namespace Go.Proofs.Ytbfhlaggllofdaa.T
open Go Go.RowKit Go.Proofs.Ytbfhlaggllofdaa.S Go.Proofs.Ytbfhlaggllofdaa.P Go.Proofs.Ytbfhlaggllofdaa.G
open Go.Proofs.YtbfhlaggllofdaaW.PrintWords Go.Proofs.YtbfhlaggllofdaaW.PrintLast Go.Proofs.YtbfhlaggllofdaaW.PrintMore
set_option linter.unusedVariables false
def sufs : List Int → List Int
 | []=>[1]
 | s :: d=>prod (s :: d) :: sufs d
theorem sufs_len : ∀ d : List Int, (sufs d).length = d.length + 1
 | []=>rfl
 | s :: d=>by unfold sufs;rw [List.length_cons,sufs_len d,List.length_cons]
theorem sufs_at : ∀ (d : List Int) (i : Nat), i ≤ d.length → rd (sufs d) (i : Int) = prod (d.drop i)
 | [],0,_=>rfl
 | [],i + 1,h=>by simp at h
 | s :: d,0,_=>rfl
 | s :: d,i + 1,h=>by
  have:=sufs_at d i (by simpa using h)
  rw [List.drop_succ_cons,← this]
  rw [rd_nat,rd_nat]
  rfl
theorem prod_le10 : ∀ (n : Nat) (d : List Int), (∀ s ∈ d, 1 ≤ s ∧ s ≤ 10) → d.length ≤ n → 1 ≤ prod d ∧ prod d ≤ 10 ^ n
 | n,[],_,_=>⟨by decide,by have :(1 : Int)≤10 ^ n:=Int.pow_pos (by decide);exact this⟩
 | 0,s :: d,_,h=>by simp at h
 | n + 1,s :: d,hd,h=>by
  obtain ⟨h1,h2⟩:=prod_le10 n d (fun x hx=>hd x (List.mem_cons_of_mem _ hx)) (by simpa using h)
  have hs:=hd s (by simp)
  refine⟨prod_pos (fun x hx=>(hd x hx).1),?_⟩
  show s * prod d≤10 ^ (n + 1)
  have:=Int.mul_le_mul hs.2 h2 (by omega) (by decide)
  rw [Int.pow_succ,Int.mul_comm (10 ^ n)]
  exact this
theorem prod_12 {d : List Int} (hd : ∀ s ∈ d,1≤s∧s≤10) (h : d.length≤12) : 1≤prod d∧prod d≤1000000000000:=by
 have:=prod_le10 12 d hd h
 exact⟨this.1,Int.le_trans this.2 (by decide)⟩
theorem prod_drop {d : List Int} (hd : ∀ s ∈ d,1≤s∧s≤10) (h : d.length≤12) (i : Nat) : 1≤prod (d.drop i)∧prod (d.drop i)≤1000000000000 :=
 prod_12 (fun s hs=>hd s (List.mem_of_mem_drop hs)) (by rw [List.length_drop];omega)
theorem settings_loop (d : List Int) (hd : ∀ s ∈ d, 1 ≤ s ∧ s ≤ 10) (h : d.length ≤ 12) : ∀ i : Nat, i ≤ d.length → Ev (fun k => turns_settings.l0 k d (List.replicate i 0 ++ sufs (d.drop i)) ((i : Int) - 1)) (sufs d, true)
 | 0,_=>by
  refine Ev.step (f:=fun _=>some (sufs d,true)) (fun k=>?_) (Ev.now _)
  simp only [turns_settings.l0]
  rw [if_neg (by omega)]
  rfl
 | i + 1,hi=>by
  have hlen :(List.replicate (i + 1) (0 : Int) ++ sufs (d.drop (i + 1))).length = d.length + 1:=by
   rw [List.length_append,List.length_replicate,sufs_len,List.length_drop];omega
  have e :((i + 1 : Nat) : Int) - 1 =(i : Int):=by omega
  have w1 : wrap64 ((i : Int) + 1) =((i + 1 : Nat) : Int):=by rw [w64 (by omega) (by omega)];rfl
  have w2 : wrap64 ((i : Int) - 1) =(i : Int) - 1:=w64 (by omega) (by omega)
  have hr : rd (List.replicate (i + 1) (0 : Int) ++ sufs (d.drop (i + 1))) ((i + 1 : Nat) : Int) = prod (d.drop (i + 1)):=by
   have:=sufs_at (d.drop (i + 1)) 0 (by omega)
   rw [List.drop_zero] at this
   rw [← this,rd_nat,rd_nat,List.getD_eq_getElem?_getD,List.getD_eq_getElem?_getD,List.getElem?_append_right (by simp)]
   simp
  have hdr:=drop_cons d i (by omega)
  have hp : rd d (i : Int) * prod (d.drop (i + 1)) = prod (d.drop i):=by rw [hdr];rfl
  have hb:=prod_drop hd h i
  have w3 : wrap64 (prod (d.drop i)) = prod (d.drop i):=w64 (by omega) (by omega)
  refine Ev.step (fun k=>?_) (settings_loop d hd h i (by omega))
  simp only [turns_settings.l0]
  rw [e,if_pos (by omega),if_pos (by omega),if_pos (by omega),w1,if_pos (by omega),if_pos (by omega),if_pos (by omega),hr,hp,w3,w2]
  congr 1
  rw [show((i : Int)).toNat = i by omega,hdr]
  rw [List.replicate_succ',List.append_assoc,List.set_append_right _ _ (by simp)]
  simp [sufs]
def Dials (d : List Int) : Prop:=d.length≤12∧d.any badDial = false
instance (d : List Int) : Decidable (Dials d):=by unfold Dials;infer_instance
theorem Dials.mem {d : List Int} (h : Dials d) : ∀ s ∈ d,1≤s∧s≤10:=by
 intro s hs
 have:=List.any_eq_false.1 h.2 s hs
 unfold badDial at this
 by_cases c : 1≤s∧s≤10
 ·exact c
 rw [decide_eq_false c] at this;exact absurd rfl this
theorem dials_iff (d : List Int) : Dials d↔d.length≤12∧∀ s ∈ d,1≤s∧s≤10:=by
 refine⟨fun h=>⟨h.1,h.mem⟩,fun h=>⟨h.1,List.any_eq_false.2 fun s hs=>?_⟩⟩
 unfold badDial
 rw [decide_eq_true (h.2 s hs)]
 decide
theorem settings_ev (d : List Int) : Ev (fun k=>turns_settings.f k d) (if Dials d then(sufs d,true) else([],false)):=by
 have hno : Ev (fun k=>turns_settings.j0 k d true) ([],false):=by
  refine Ev.step (f:=fun _=>some ([],false)) (fun k=>?_) (Ev.now _)
  simp only [turns_settings.j0]
  rw [if_pos trivial]
 by_cases c :(d.length : Int) > 12
 ·rw [if_neg (fun hh => by have := hh.1; omega)]
  refine Ev.congr (fun k=>?_) hno
  unfold turns_settings.f
  rw [if_pos c]
 cases hb : d.any badDial with
 | true =>
  rw [if_neg (fun hh=>by have:=hh.2;rw [hb] at this;cases this)]
  refine Ev.congr (fun k=>?_) hno
  unfold turns_settings.f slices_ContainsFunc_int_int.f
  rw [if_neg c,hb]
  rfl
 | false =>
  have hD : Dials d:=⟨by omega,hb⟩
  rw [if_pos hD]
  have w1 : wrap64 ((d.length : Int) + 1) =(d.length : Int) + 1:=w64 (by omega) (by omega)
  have w2 : wrap64 ((d.length : Int) - 1) =(d.length : Int) - 1:=w64 (by omega) (by omega)
  have hj : Ev (fun k=>turns_settings.j0 k d false) (sufs d,true):=by
   refine Ev.step (fun k=>?_) (settings_loop d hD.mem hD.1 d.length (Nat.le_refl _))
   simp only [turns_settings.j0]
   rw [if_neg (by decide),w1,w2,if_pos (by omega),if_pos (by omega),Option.bind_some,if_pos (by omega),List.length_replicate,if_pos (by omega),List.drop_length,show((d.length : Int) + 1).toNat = d.length + 1 by omega,show((d.length : Int)).toNat = d.length by omega,List.replicate_succ',List.set_append_right _ _ (by simp)]
   simp [sufs]
  refine Ev.congr (fun k=>?_) hj
  unfold turns_settings.f slices_ContainsFunc_int_int.f
  rw [if_neg c,hb]
  rfl
theorem settings_new (A0 : Option Addr) (c0 : Nat) (d : List Int) (w : World) (hr0 : Kd.C (Kd.int .i64) w A0 d.length d) (hc0 : d.length ≤ c0) :
  Calls Try.prog 55 #[.slice A0 d.length c0] w fun e w'=>∃ v0_ : Value,e = .returned (.tuple #[v0_,.bool (decide (Dials d))])∧Kd.R (Kd.int .i64) 3 w' w.heap.size (fun _=>True) v0_ (if Dials d then sufs d else [])∧Below w.heap.size w w':=by
 obtain ⟨k,hk⟩:=(settings_ev d).rounds
 by_cases c : Dials d
 ·rw [if_pos c] at hk ⊢
  rw [decide_eq_true c]
  exact turns_settings.calls k A0 c0 d _ _ w hr0 hc0 hk
 rw [if_neg c] at hk ⊢
 rw [decide_eq_false c]
 exact turns_settings.calls k A0 c0 d _ _ w hr0 hc0 hk
def RowAt (w : World) (g n : Nat) (f : Nat→Int) : Prop:=∀ i,i < n→w.cell? ⟨g,i,none⟩ = some (.int .i64 (f i))
theorem RowAt.below {w W : World} {g n : Nat} {f : Nat→Int} (h : RowAt w g n f) (hg : g < w.heap.size) (hb : Below w.heap.size w W) : RowAt W g n f:=fun i hi=>(hb.cell (p:=⟨g,i,none⟩) hg).trans (h i hi)
theorem row_of_R {w : World} {base g c : Nat} {ok : Nat→Prop} {xs : List Int} {e n : Nat} (h : Kd.R (Kd.int .i64) e w base ok (.slice (some ⟨g,0,none⟩) n c) xs) : RowAt w g xs.length (fun i=>rd xs (i : Int)):=by
 intro i hi
 obtain ⟨ad,e1,e2⟩:=Kd.at_int (Kd.R_reads' h).2.2 (i : Int) (by omega) (by omega)
 injection e1 with e1
 subst e1
 have he :(⟨g,0,none⟩ : Addr).add i =⟨g,i,none⟩:=by
  cases i with
  | zero=>rfl
  | succ j=>simp [Addr.add]
 rw [show((i : Int)).toNat = i by omega,he] at e2
 exact e2
theorem settings_yes (A0 : Option Addr) (c0 : Nat) (d : List Int) (w : World) (hr0 : Kd.C (Kd.int .i64) w A0 d.length d) (hc0 : d.length ≤ c0) (hD : Dials d) :
  Calls Try.prog 55 #[.slice A0 d.length c0] w fun e w'=>∃ g c : Nat,e = .returned (.tuple #[.slice (some ⟨g,0,none⟩) (d.length + 1) c,.bool true])∧RowAt w' g (d.length + 1) (fun i=>prod (d.drop i))∧g < w'.heap.size∧Below w.heap.size w w':=by
 refine(settings_new A0 c0 d w hr0 hc0).mono ?_
 rintro e w' ⟨v,rfl,hv,hb⟩
 rw [if_pos hD] at hv
 obtain ⟨g,c,rfl,h1,h2,_⟩:=Kd.R_form hv (by rw [sufs_len];omega)
 have hx:=row_of_R hv
 rw [sufs_len] at hx hv ⊢
 refine⟨g,c,by rw [decide_eq_true hD],fun i hi=>?_,h2,hb⟩
 rw [hx i hi]
 show some (Value.int .i64 (rd (sufs d) (i : Int))) = _
 rw [sufs_at d i (by omega)]
theorem settings_no (A0 : Option Addr) (c0 : Nat) (d : List Int) (w : World) (hr0 : Kd.C (Kd.int .i64) w A0 d.length d) (hc0 : d.length ≤ c0) (hD : ¬ Dials d) :
  Calls Try.prog 55 #[.slice A0 d.length c0] w fun e w'=>∃ v : Value,e = .returned (.tuple #[v,.bool false])∧Below w.heap.size w w':=by
 refine(settings_new A0 c0 d w hr0 hc0).mono ?_
 rintro e w' ⟨v,rfl,hv,hb⟩
 exact⟨v,by rw [decide_eq_false hD],hb⟩
theorem dial_step {d : List Int} (hD : Dials d) {i : Nat} (hi : i < d.length) {a : Int} (h0 : 0 ≤ a) (h1 : a < prod (d.drop i)) :
  ∃ P x y : Int,prod (d.drop (i + 1)) = P∧a / P = x∧turnD P x (a % P) = y ∧(1≤P∧P≤1000000000000∧0≤x∧0≤y∧y < P) ∧(P == 0) = false ∧(P = 0) = False∧Int.tdiv a P = x∧wrap64 x = x ∧(0≤Int.tmod a P∧Int.tmod a P < P)∧turnD P x (Int.tmod a P) = y∧dial (d.drop i) a = x :: dial (d.drop (i + 1)) y:=by
 have hP:=prod_drop hD.mem hD.1 (i + 1)
 have hP0:=prod_drop hD.mem hD.1 i
 rw [drop_cons d i hi] at h1 ⊢
 have hm:=hD.mem _ (rd_mem (l:=d) (x:=(i : Int)) (by omega) (by omega))
 obtain ⟨x0,x1,p0,p1,e⟩:=divD hP.1 h0 h1
 obtain ⟨t0,t1⟩:=turnD_range (odd:=a / prod (d.drop (i + 1))) p0 p1
 have ht : Int.tmod a (prod (d.drop (i + 1))) = a % prod (d.drop (i + 1)):=Int.tmod_eq_emod_of_nonneg h0
 refine⟨_,_,_,rfl,rfl,rfl,⟨hP.1,hP.2,x0,t0,t1⟩,by rw [beq_eq_false_iff_ne];omega,eq_false (by omega),Int.tdiv_eq_ediv_of_nonneg h0,w64 (by omega) (by omega),by rw [ht];exact⟨p0,p1⟩,by rw [ht],rfl⟩
instance isDialDec : (d l : List Int) → Decidable (isDial d l)
 | [],[]=>isTrue trivial
 | s :: d,x :: l=>by
  have:=isDialDec d l
  unfold isDial
  infer_instance
 | [],_ :: _=>isFalse (fun h=>h)
 | _ :: _,[]=>isFalse (fun h=>h)
theorem turner_calls (w : World) (n : Int) : Calls Try.prog 57 #[.int .i64 n] w fun e w'=>e = .returned (.func (.func 70) #[] #[.pointer (some ⟨w.heap.size,0,none⟩)])∧w' = w.alloc (.cells #[.int .i64 n] 3):=by
 go_enter Try.func57,Try.ntmps57
 go_wp2
 go_ret
 exact⟨rfl,rfl⟩
theorem turner_fn (w : World) (n x a : Int) (b : Nat) (hc : w.cell? ⟨b,0,none⟩ = some (.int .i64 n)) (h0 : 0≤a∧a < n) (hn : n≤1000000000000) (hx : 0≤x) : Calls Try.prog 70 #[.int .i64 x,.int .i64 a,.pointer (some ⟨b,0,none⟩)] w fun e w'=>e = .returned (.int .i64 (turnD n x a))∧Drawn0 w w':=by
 have HD:=Aside0.mk (show Int.tmod x 2 = x % 2 from Int.tmod_eq_emod_of_nonneg hx)
 have w1 : wrap64 (n - 1) = n - 1:=w64 (by omega) (by omega)
 have w2 : wrap64 (n - 1 - a) = n - 1 - a:=w64 (by omega) (by omega)
 by_cases c : x % 2 = 1
 ·have e : turnD n x a = n - 1 - a := if_pos c
  have cb :(Int.tmod x 2 == 1) = true:=by rw [HD.out];exact beq_iff_eq.2 c
  rw [e]
  clear e c h0 hn hx
  go_enter Try.func70,Try.ntmps70
  go_wp2
  go_ret
  exact⟨by first | rfl | simp [*],by repeat(first | exact Drawn0.refl _ | apply Drawn0.step)⟩
 have e : turnD n x a = a:=if_neg c
 have cb :(Int.tmod x 2 == 1) = false:=by rw [HD.out];exact beq_eq_false_iff_ne.2 c
 rw [e]
 clear e c h0 hn hx w1 w2
 go_enter Try.func70,Try.ntmps70
 go_wp2
 go_ret
 exact⟨by first | rfl | simp [*],by repeat(first | exact Drawn0.refl _ | apply Drawn0.step)⟩
end Go.Proofs.Ytbfhlaggllofdaa.T

namespace Go.Proofs.Ytbfhlaggllofdaa.Rng
open Go Go.RowKit
variable {F : Fence} {n : Nat} {P : Program}
def cellOf (B : Nat) : Addr:=⟨B,0,none⟩
/-- The iterator's promise: it calls yield with x 0 .. x (N - 1), one behind the other, as long as yield says 'more'; it writes nothing but its own cell at B. -/
def SeqBox (F : Fence) (n : Nat) (P : Program) (g B N : Nat) (x : Nat→Value) (v0 : Value) : Prop :=
 ∀ (l : Nat) (J : Nat→World→Prop) (Jx : World→Prop) (W : World),
  (∀ j W v,J j W→J j (W.setCell (cellOf B) v)) →
  (∀ j W1 v,j < N→J j W1→W1.cell? (cellOf B) = some v→W1.frozen? (cellOf B) = false→YieldAt F (n - 1) P l #[x j] W1 fun e W' =>
   (e = .returned (.bool true)∧J (j + 1) W'∧W'.cell? (cellOf B) = some v∧W'.frozen? (cellOf B) = false) ∨(e = .returned (.bool false)∧Jx W')) →
  W.cell? (cellOf B) = some v0→W.frozen? (cellOf B) = false→J 0 W →
  CallsIn F n P g #[.func (.yield l) #[] #[],.pointer (some (cellOf B))] W fun e W'=>(∃ v,e = .returned v) ∧(J N W'∨Jx W')
/-- How a round's body may be left. -/
def boxPost (B0 B : Nat) (I : Nat → World → Prop) (Ix : Code → World → Prop) (j : Nat) (W : World) : Exit → Act → World → Prop
 | .normal,_,W'=>KeepsFrom B0 W W'∧W'.cell? (cellOf B) = W.cell? (cellOf B)∧W'.frozen? (cellOf B) = W.frozen? (cellOf B)∧I (j + 1) W'
 | .exit id,_,W'=>KeepsFrom B0 W W'∧Ix (.exit id) W'
 | .ret,_,_=>False
 | .goto _,_,_=>False
 | .panic _,_,_=>False
 | .outgrown,_,_=>False
theorem cell_putObj {W : World} {l B : Nat} {o' : Obj} (h : B≠l) :(W.putObj l o').cell? (cellOf B) = W.cell? (cellOf B):=by
 unfold World.cell? cellOf
 rw [World.putObj_heap_other (by omega)]
theorem frozen_putObj {W : World} {l B : Nat} {o' : Obj} (h : B≠l) :(W.putObj l o').frozen? (cellOf B) = W.frozen? (cellOf B):=by
 unfold World.frozen? cellOf
 rw [World.putObj_heap_other (by omega)]
theorem wpIn_rangeFunc_box {g : Operand} {p : Tmp} {assign body : Code} {Q : Exit → Act → World → Prop} {a : Act} {w : World}
  (hro : F.round = none) (h1 : 1≤n) {gf B N : Nat} {x : Nat→Value} {v0 : Value} (hg : a.eval g = .func (.func gf) #[] #[.pointer (some (cellOf B))]) (hFg : F.fn gf) (eg : ∀ args w,(callFunc gf args).run P w = .ok (.enter gf args) w)
  (hseq : SeqBox F (n - 1) P gf B N x v0) (hB : B < w.heap.size) (hc : w.cell? (cellOf B) = some v0) (hf : w.frozen? (cellOf B) = false)
  (I : Nat→World→Prop) (Ix : Code→World→Prop)
  (hIb : ∀ j W v,I j W→I j (W.setCell (cellOf B) v))
  (hIp : ∀ j W l o o',w.heap.size≤l→W.heap[l]? = some o→o.isCells = false→I j W→I j (W.putObj l o'))
  (hXp : ∀ c W l o o',w.heap.size≤l→W.heap[l]? = some o→o.isCells = false→Ix c W→Ix c (W.putObj l o'))
  (h0 : ∀ o o',I 0 ((w.alloc o).alloc o')) (a₁ : Nat→Act)
  (hassign : ∀ (l j : Nat) (W : World) (K : Act→World→Prop),K (a₁ j) W →
   assign.wpIn (F.inRound l) (n - 1 - 1) P (Exit.then K (fun _ _ _=>False)) { tmps:=a.tmps.setIfInBounds p (x j),defers:=[] } W)
  (hbody : ∀ (l j : Nat) (W : World) (v : Value),j < N→w.heap.size≤l→W.cell? (cellOf B) = some v→W.frozen? (cellOf B) = false→I j W→body.wpIn (F.inRound l) (n - 1 - 1) P (boxPost w.heap.size B I Ix j W) (a₁ j) W)
  (hdone : ∀ (D : Nat) (W : World),w.heap.size≤D→I N W→W.heap[D]? = some (.deferred (some []))→Q .normal { a with defers:={ target:=.collected D,args:=#[] } :: a.defers } W)
  (hstop : ∀ (D : Nat) (c : Code) (W : World),w.heap.size≤D→Ix c W→W.heap[D]? = some (.deferred (some []))→c.wpIn F n P Q { a with defers:={ target:=.collected D,args:=#[] } :: a.defers } W) :
  (Code.rangeFunc g #[p] assign body).wpIn F n P Q a w:=by
 refine wpIn_rangeFunc ?_
 intro fn hfn
 rw [hro]
 obtain ⟨rec,hrec⟩ : ∃ rec : LoopState→Option Code→Loop,rec = fun st pe=>{ state:=st,pending:=pe,fn,tmps:=a.tmps,params:=#[p],assign,body,defers:=w.heap.size }:=⟨_,rfl⟩
 obtain ⟨W1,hW1⟩ : ∃ W1,(w.alloc (.deferred (some []))).alloc (.loop (rec .ready none)) = W1:=⟨_,rfl⟩
 have hs1 : W1.heap.size = w.heap.size + 2:=by rw [← hW1];simp
 have hL1 : W1.heap[w.heap.size + 1]? = some (.loop (rec .ready none)):=by
  rw [← hW1]
  have:=World.alloc_heap_new (w.alloc (.deferred (some []))) (.loop (rec .ready none))
  rwa [World.size_alloc] at this
 have hK1 : W1.heap[w.heap.size]? = some (.deferred (some [])):=by
  rw [← hW1]
  exact(Below.heap_alloc _ _ _ (by simp)).trans (World.alloc_heap_new w _)
 have hc1 : W1.cell? (cellOf B) = some v0:=by
  rw [← hW1]
  exact(Below.cell (((Below.refl w.heap.size w).alloc (Nat.le_refl _) _).alloc (by simp) _) (p:=cellOf B) hB).trans hc
 have hf1 : W1.frozen? (cellOf B) = false:=by
  rw [← hW1]
  unfold World.frozen? cellOf at hf ⊢
  simp only at hf ⊢
  rw [Below.heap_alloc _ _ _ (by simp;omega),Below.heap_alloc _ _ _ hB]
  exact hf
 -- the two records
 have keepS : ∀ {W : World} {v : Value} {k : Nat} {o : Obj},o.isCells = false→W.heap[k]? = some o →(W.setCell (cellOf B) v).heap[k]? = some o:=fun ho h=>(KeepsOthers.setCell _ _ _).same _ _ h ho
 refine⟨w.heap.size + 1,[{ target:=.collected w.heap.size,args:=#[] }],W1,{ target:=.fn (.func gf) #[.pointer (some (cellOf B))],args:=#[.func (.yield (w.heap.size + 1)) #[] #[]] },W1,gf,
  #[.func (.yield (w.heap.size + 1)) #[] #[],.pointer (some (cellOf B))],W1,?_,?_,?_,?_,fun _=>h1,?_⟩
 ·rw [← hW1,hrec];exact run_enterLoop_outer _ _ _ _ _
 ·simp only [resolve, hg]
  simp [go_sem]
 ·intro f' hf';simp [Target.leads] at hf';subst hf';exact hFg
 ·simp [invoke,go_sem,eg]
 refine (hseq (w.heap.size + 1)
  (fun j W=>I j W∧W.heap[w.heap.size + 1]? = some (.loop (rec .ready none))∧W.heap[w.heap.size]? = some (.deferred (some [])))
  (fun W=>∃ c,Ix c W∧W.heap[w.heap.size + 1]? = some (.loop (rec .done (some c)))∧W.heap[w.heap.size]? = some (.deferred (some [])))
  W1 (fun j W v h=>⟨hIb _ _ _ h.1,keepS rfl h.2.1,keepS rfl h.2.2⟩) ?_ hc1 hf1 ⟨by rw [← hW1];exact h0 _ _,hL1,hK1⟩).mono ?_
 ·-- one round
  rintro j W v hj ⟨hi,hl,hk⟩ hcv hfv
  have hlt : w.heap.size + 1 < W.heap.size:=(Array.getElem?_eq_some_iff.1 hl).1
  have hy:=run_yield (P:=P) (args:=#[x j]) hl (by rw [hrec];rfl)
  rw [hrec] at hy
  have et :(#[p].zip #[x j]).foldl (fun t (p,v)=>t.setIfInBounds p v) a.tmps = a.tmps.setIfInBounds p (x j):=by simp
  refine⟨fn,_,assign,body,hy,roundIn_of_wpIn hfn ?_⟩
  rw [et]
  refine hassign _ j W _ ?_
  refine⟨_,run_beginRound hl (by rw [hrec]),?_⟩
  obtain ⟨W2,hW2⟩ : ∃ W2,W.putObj (w.heap.size + 1) (.loop { rec .ready none with state:=.busy }) = W2:=⟨_,rfl⟩
  have hl2 : W2.heap[w.heap.size + 1]? = some (.loop { rec .ready none with state:=.busy }):=by rw [← hW2];exact World.putObj_heap_same hlt
  have hk2 : W2.heap[w.heap.size]? = some (.deferred (some [])):=by rw [← hW2];exact(World.putObj_heap_other (by omega)).trans hk
  have hi2 : I j W2:=by rw [← hW2];exact hIp _ _ _ _ _ (by omega) hl rfl hi
  have hc2 : W2.cell? (cellOf B) = some v:=by rw [← hW2];exact(cell_putObj (by omega)).trans hcv
  have hf2 : W2.frozen? (cellOf B) = false:=by rw [← hW2];exact(frozen_putObj (by omega)).trans hfv
  rw [hW2]
  refine wpIn_mono (hbody _ j W2 v hj (by omega) hc2 hf2 hi2) ?_
  have fin : ∀ (jump : Option Code) (W3 : World),KeepsFrom w.heap.size W2 W3 →
    (Instr.endRound (w.heap.size + 1) jump).run P W3 = .ok (.bool jump.isNone) (W3.putObj (w.heap.size + 1) (.loop (rec (if jump.isNone then .ready else .done) jump))) ∧
    W3.heap[w.heap.size + 1]? = some (.loop { rec .ready none with state:=.busy }) ∧
    (W3.putObj (w.heap.size + 1) (.loop (rec (if jump.isNone then .ready else .done) jump))).heap[w.heap.size + 1]? = some (.loop (rec (if jump.isNone then .ready else .done) jump)) ∧
    (W3.putObj (w.heap.size + 1) (.loop (rec (if jump.isNone then .ready else .done) jump))).heap[w.heap.size]? = some (.deferred (some [])):=fun jump W3 hk3=>by
   have hl3:=hk3.same _ _ (by omega) hl2 rfl
   have:=run_endRound (P:=P) jump hl3
   rw [hrec] at this ⊢
   exact⟨this,by rw [hrec] at hl3;exact hl3,World.putObj_heap_same (Array.getElem?_eq_some_iff.1 hl3).1,(World.putObj_heap_other (by omega)).trans (hk3.same _ _ (Nat.le_refl _) hk2 rfl)⟩
  rintro e a3 W3 hp
  cases e with
  | normal =>
   obtain ⟨hk3,hc3,hf3,hi3⟩:=hp
   obtain ⟨hr,hl3,hl4,hk4⟩:=fin none W3 hk3
   exact⟨_,_,hr,.inl ⟨rfl,⟨hIp _ _ _ _ _ (by omega) hl3 rfl hi3,hl4,hk4⟩,(cell_putObj (by omega)).trans (hc3.trans hc2),(frozen_putObj (by omega)).trans (hf3.trans hf2)⟩⟩
  | exit id =>
   obtain ⟨hk3,hi3⟩:=hp
   obtain ⟨hr,hl3,hl4,hk4⟩:=fin (some (.exit id)) W3 hk3
   exact⟨_,_,hr,.inr ⟨rfl,.exit id,hXp _ _ _ _ _ (by omega) hl3 rfl hi3,hl4,hk4⟩⟩
  | ret=>exact hp.elim
  | goto t=>exact hp.elim
  | panic chn=>exact hp.elim
  | outgrown=>exact hp.elim
 -- behind the iterator
 rintro e W2 ⟨⟨v,rfl⟩,(⟨hi,hl,hk⟩ |⟨c,hi,hl,hk⟩)⟩
 ·exact⟨none,_,by have:=run_endLoop (P:=P) hl (by rw [hrec];simp);rw [hrec] at this;exact this,hdone _ _ (Nat.le_refl _) (hIp _ _ _ _ _ (by omega) hl rfl hi) ((World.putObj_heap_other (by omega)).trans hk)⟩
 exact⟨some c,_,by have:=run_endLoop (P:=P) hl (by rw [hrec];simp);rw [hrec] at this;exact this,hstop _ c _ (Nat.le_refl _) (hXp _ _ _ _ _ (by omega) hl rfl hi) ((World.putObj_heap_other (by omega)).trans hk)⟩
end Go.Proofs.Ytbfhlaggllofdaa.Rng

namespace Go.Proofs.Ytbfhlaggllofdaa.Rng
open Go Go.RowKit Go.Shelf Go.Proofs
attribute [local go_sem] Oper.semAt_some
set_option linter.unusedVariables false
set_option maxRecDepth 100000 in
set_option maxHeartbeats 1000000 in
theorem down_seq (F : Fence) (n : Nat) (hF : F.fn 71) (hro : F.round = none) (hn : 1 ≤ n) (B N : Nat) (hN : N ≤ 1000) :
  SeqBox F n Try.prog 71 B N (fun j=>.int .i64 ((N : Int) - j)) (.int .i64 N):=by
 intro l J Jx W hJb hY hc hf h0
 simp only [cellOf] at hJb hY hc hf ⊢
 refine callsIn_of_wp Try.func71 rfl hF ?_ hro
 simp only [Try.ntmps71,List.size_toArray,List.length_cons,List.length_nil,Nat.reduceAdd,Nat.reduceSub,Array.replicate_succ,Array.replicate_zero,List.push_toArray,List.append_toArray,List.nil_append,List.cons_append]
 gi_wp2
 gi_loopw [3] (fun p wr => ∃ j : Nat, j ≤ N ∧ wr.cell? ⟨B, 0, none⟩ = some (.int .i64 ((N : Int) - j)) ∧ wr.frozen? ⟨B, 0, none⟩ = false ∧ J j wr)
  (fun p wr=>(intOf ((wr.cell? ⟨B,0,none⟩).getD (.int .i64 0))).toNat)
 case atStart=>exact⟨0,Nat.zero_le _,by simpa using hc,hf,h0⟩
 obtain ⟨j,hj,hcj,hfj,hJ⟩:=hrel
 by_cases c : j < N
 rotate_left
 ·have c1 : decide (0 < (N : Int) - j) = false := decide_eq_false (by omega)
  gi_wp2
  go_end0
  obtain rfl : j = N:=by omega
  exact⟨⟨_,rfl⟩,.inl hJ⟩
 have c1 : decide (0 < (N : Int) - j) = true:=decide_eq_true (by omega)
 obtain ⟨fn,tmps,assign,body,hy,hR⟩:=hY j wr _ c hJ hcj hfj
 gi_wp2
 refine hR.mono ?_
 rintro e W3 (⟨rfl,hJ3,hc3,hf3⟩ |⟨rfl,hJx3⟩)
 ·gi_wp2
  go_roundw
  case rel=>exact⟨j + 1,c,by rw [World.cell?_setCell_same' _ _ _ (by rw [hc3];rfl)];simp;omega,by rw [World.frozen?_setCell];exact hf3,hJb _ _ _ hJ3⟩
  rw [World.cell?_setCell_same' _ _ _ (by rw [hc3];rfl),hcj];simp [intOf];omega
 gi_wp2
 refine bodyPost_ret (results_none rfl _ _ _) rfl ?_
 exact⟨⟨_,rfl⟩,.inr hJx3⟩
end Go.Proofs.Ytbfhlaggllofdaa.Rng

namespace Go.Proofs.Ytbfhlaggllofdaa.T
open Go Go.RowKit Go.Shelf Go.Proofs.YtbfhlaggllofdaaW.PrintWords Go.Proofs.YtbfhlaggllofdaaW.PrintLast Go.Proofs.YtbfhlaggllofdaaW.PrintMore
open Go.Proofs.Ytbfhlaggllofdaa.Rng
set_option linter.unusedVariables false
abbrev Bx:=Nat×TypeId×Value
structure LI (w : World) (n₀ : Nat) (bs : List Bx) (v : Value) (out : List Int) (W : World) : Prop where
 box : ∀ x ∈ bs,(w.heap.size≤x.1∧x.1 < n₀)∧Boxed W x.1 x.2.1 x.2.2
 row : W.ownsRow n₀ 3 1 v out.length (out.map (Value.int .i64))
 below : Below w.heap.size w W
 size : w.heap.size≤n₀∧n₀≤W.heap.size
section
variable {w W : World} {n₀ : Nat} {bs : List Bx} {v : Value} {out : List Int}
theorem LI.row_ge (h : LI w n₀ bs v out W) {j : Nat} (e : v.ownBlock = some j) : n₀≤j:=own_base h.row j e
theorem LI.grown (h : LI w n₀ bs v out W) {W' : World} {row : Option Nat} (hg : W.grownBy W' row) (hrow : ∀ k,row = some k →(n₀≤k ∨(w.heap.size≤k∧∀ x ∈ bs,x.1≠k))∧some k≠v.ownBlock) : LI w n₀ bs v out W':=by
 have hs:=h.size
 have hsz : W.heap.size≤W'.heap.size:=hg.size
 refine⟨fun x hx=>⟨(h.box x hx).1,(h.box x hx).2.kept hg (fun e=>?_)⟩,h.row.kept hg ?_,h.below.grown hg h.below.size (fun k e=>?_),⟨hs.1,by omega⟩⟩
 ·have b := (h.box x hx).1.2
  rcases(hrow _ e.symm).1 with hh | hh
  ·omega
  exact hh.2 x hx rfl
 ·by_cases c : v.ownBlock = none
  ·rcases h.row.2 with ⟨rfl, _⟩ | ⟨g, cap, cur, rfl, _⟩
   ·exact .inl rfl
   simp [Value.ownBlock] at c
  refine .inr (fun e=>?_)
  cases hr : row with
  | none=>rw [hr] at e;exact c e
  | some k=>exact(hrow k hr).2 (hr ▸ e.symm)
 rcases(hrow _ e).1 with hh | hh
 ·omega
 exact hh.1
theorem LI.far (h : LI w n₀ bs v out W) {B : Nat} (hB : w.heap.size≤B∧B < n₀) (hne : ∀ x ∈ bs,x.1≠B) (u : Value) : LI w n₀ bs v out (W.setCell (cellOf B) u) :=
 h.grown (grownBy_setCell' W B u) (fun k e=>by
  obtain rfl : B = k:=by simpa using e
  exact⟨.inr ⟨hB.1,hne⟩,fun e=>by have:=h.row_ge e.symm;omega⟩)
theorem LI.put (h : LI w n₀ bs v out W) {l : Nat} {o : Obj} (o' : Obj) (hl : n₀≤l) (ho : W.heap[l]? = some o) (hc : o.isCells = false) : LI w n₀ bs v out (W.putObj l o') :=
 h.grown (grownBy_putObj' W l o') (fun k e=>by
  obtain rfl : l = k:=by simpa using e
  refine⟨.inl hl,fun e=>?_⟩
  rcases h.row.2 with ⟨rfl,_⟩ |⟨g,cap,cur,rfl,_,hgb,_⟩
  ·simp [Value.ownBlock] at e
  ·obtain rfl : l = g := by simpa [Value.ownBlock] using e
   rw [hgb] at ho;cases ho;cases hc)
theorem LI.alloc (h : LI w n₀ bs v out W) (o : Obj) : LI w n₀ bs v out (W.alloc o):=h.grown (World.grownBy_alloc W o none) (fun k e=>by cases e)
theorem LI.drew (h : LI w n₀ bs v out W) : LI w n₀ bs v out W.drew:=⟨h.box,h.row,bw1 h.below,h.size⟩
theorem LI.drewN (h : LI w n₀ bs v out W) (k : Nat) : LI w n₀ bs v out (W.drewN k):=⟨h.box,h.row,bwN h.below k,h.size⟩
/-- A store into one of the boxes. -/
theorem LI.set (h : LI w n₀ bs v out W) {b : Nat} {t : TypeId} {u0 : Value} (hb :(b,t,u0) ∈ bs) (u : Value) {bs' : List Bx} (hbs : ∀ x ∈ bs',(x.1 = b∧x.2.1 = t∧x.2.2 = u) ∨(x.1≠b∧x ∈ bs)) : LI w n₀ bs' v out (W.setCell ⟨b,0,none⟩ u):=by
 obtain ⟨hb1,hb2⟩:=h.box _ hb
 simp only at hb1 hb2
 have hg:=grownBy_setCell' W b u
 have hs:=h.size
 refine⟨fun x hx=>?_,own_setCell h.row (p:=⟨b,0,none⟩) (fun e=>by have:=h.row_ge e.symm;simp only at this;omega) u,h.below.grown hg h.below.size (fun k e=>by(obtain rfl : b = k:=(by simpa using e));exact hb1.1),⟨hs.1,Nat.le_trans hs.2 hg.size⟩⟩
 rcases hbs x hx with ⟨e1,e2,e3⟩ |⟨e1,e2⟩
 ·rw [e1, e2, e3]
  exact⟨hb1,hb2.set u⟩
 exact⟨(h.box x e2).1,(h.box x e2).2.kept hg (by simpa using e1)⟩
/-- The row grows: behind an append (of a slice literal laid at tmp). -/
theorem LI.append (h : LI w n₀ bs v out W) {tmp : Obj} {w1 : World} {v' : Value} {x : Int} {m : Nat} {ys : List Value} (hm : m = (out ++ [x]).length) (hy : ys = (out ++ [x]).map (Value.int .i64)) (hown : w1.ownsRow n₀ 3 1 v' m ys) (hg : (W.alloc tmp).grownBy w1 v.ownBlock) :
  LI w n₀ bs v' (out ++ [x]) w1∧KeepsOthers W w1:=by
 subst hm;subst hy
 have ha:=h.alloc tmp
 have hs:=h.size
 have hsz : W.heap.size ≤(W.alloc tmp).heap.size:=by simp
 refine⟨⟨fun y hy=>⟨(h.box y hy).1,(ha.box y hy).2.kept hg (fun e=>by have:=h.row_ge e.symm;have:=(h.box y hy).1.2;omega)⟩,hown,ha.below.grown hg ha.below.size (fun k e=>by have:=h.row_ge e;omega),⟨hs.1,by have:=hg.size;omega⟩⟩,?_⟩
 refine(KeepsOthers.alloc W tmp).trans (KeepsOthers.of_grownBy hg fun j o ej hj=>?_)
 rcases ha.row.2 with ⟨rfl,_⟩ |⟨g,cap,cur,rfl,_,hgb,_⟩
 ·simp [Value.ownBlock] at ej
 obtain rfl : g = j:=by simpa [Value.ownBlock] using ej
 rw [hgb] at hj;cases hj;rfl
theorem cellOf_eq {W W' : World} {B : Nat} (h : W'.heap[B]? = W.heap[B]?) : W'.cell? (cellOf B) = W.cell? (cellOf B)∧W'.frozen? (cellOf B) = W.frozen? (cellOf B):=by
 unfold World.cell? World.frozen? cellOf
 simp only
 rw [h]
 exact⟨rfl,rfl⟩
theorem LI.keepB (h : LI w n₀ bs v out W) {tmp : Obj} {w1 : World} {B : Nat} (hB : B < n₀) (hg :(W.alloc tmp).grownBy w1 v.ownBlock) : w1.heap[B]? = W.heap[B]?:=by
 have hs:=h.size
 refine(hg.block B (by simp;omega) (fun e=>?_)).trans (Below.heap_alloc W tmp B (by omega))
 have:=h.row_ge e.symm
 omega
theorem LI.tight (h : LI w n₀ bs v out W) : Kd.R (Kd.int .i64) 3 W w.heap.size (fun k=>some k = v.ownBlock) v out :=
 Kd.R_lower (Kd.R_of_own h.row (fun k e=>e.symm)) h.size.1
theorem not_row {W : World} {base D : Nat} {ok : Nat→Prop} {o : Obj} (h : Kd.R (Kd.int .i64) 3 W base ok v out) (hD : W.heap[D]? = some o) (hc : o.isCells = false) : some D≠v.ownBlock:=fun e=>by
 obtain ⟨cells,hh⟩:=Kd.R_typed h D e.symm
 rw [hh] at hD;cases hD;cases hc
theorem R_putD {W : World} {base D : Nat} {ok : Nat→Prop} {o : Obj} (o' : Obj) (h : Kd.R (Kd.int .i64) 3 W base ok v out) (hD : W.heap[D]? = some o) (hc : o.isCells = false) : Kd.R (Kd.int .i64) 3 (W.putObj D o') base (fun _=>True) v out :=
 Kd.R_mono (Kd.R_step (Kd.R_tight rfl h) (fun k hk _=>World.putObj_heap_other (fun e=>not_row h hD hc (e ▸ hk)))) (fun _ _=>trivial)
end
/-- What the body of a function with a range over a function must achieve (no panic). -/
def postM (P : Program) (fn : Func) (R : Ending → World → Prop) : Exit → Act → World → Prop
 | .normal,a,w=>LeavesInM Fence.wide 9 P fn a.tmps R a.defers .returning w
 | .ret,a,w=>LeavesInM Fence.wide 9 P fn a.tmps R a.defers .returning w
 | .panic _,_,_=>False
 | .exit _,_,_=>False
 | .goto _,_,_=>False
 | .outgrown,_,_=>False
theorem calls_marks {P : Program} {f : FuncId} {fn : Func} {c : Code} {args : Array Value} {w : World} {R : Ending → World → Prop}
  (hf : P.funcs[f]? = some fn) (hb : fn.body = some c) (h : c.wp P (postM P fn R) { tmps:=args ++ Array.replicate (fn.ntmps - args.size) undef,defers:=[] } w) : Calls P f args w R :=
 (callsIn_wide (n:=9)).1 (callsIn_of_wp_marks hf hb trivial (wpIn_mono (wpIn_wide.2 h) (fun e a w hq=>by cases e <;> first | exact hq | exact hq.elim)) rfl)
/-- A region's many orders come to one state. -/
def joinPost (A : Act) (W : World) : Exit → Act → World → Prop
 | .normal,a,w=>a = A∧w = W
 | .ret,_,_=>False
 | .panic _,_,_=>False
 | .exit _,_,_=>False
 | .goto _,_,_=>False
 | .outgrown,_,_=>False
theorem wpIn_join {F : Fence} {n : Nat} {P : Program} {c : Code} {Q : Exit→Act→World→Prop} {a A : Act} {w W : World} (h1 : c.wpIn F n P (joinPost A W) a w) (h2 : Q .normal A W) : c.wpIn F n P Q a w :=
 wpIn_mono h1 (fun e a w h=>by
  cases e with
  | normal=>obtain ⟨rfl,rfl⟩:=h;exact h2
  | ret=>exact h.elim
  | panic c=>exact h.elim
  | exit i=>exact h.elim
  | goto t=>exact h.elim
  | outgrown=>exact h.elim)
theorem down_calls (w : World) (n : Int) : Calls Try.prog 60 #[.int .i64 n] w fun e w'=>e = .returned (.func (.func 71) #[] #[.pointer (some (cellOf w.heap.size))])∧w' = w.alloc (.cells #[.int .i64 n] 3):=by
 go_enter Try.func60,Try.ntmps60
 go_wp2
 go_ret
 exact⟨rfl,rfl⟩
end Go.Proofs.Ytbfhlaggllofdaa.T

namespace Go.Proofs.Ytbfhlaggllofdaa.T
open Go Go.RowKit Go.Shelf Go.Proofs.YtbfhlaggllofdaaW.PrintWords Go.Proofs.YtbfhlaggllofdaaW.PrintLast Go.Proofs.YtbfhlaggllofdaaW.PrintMore
set_option linter.unusedVariables false
def plainOp : Op → Bool
 | .move _=>true
 | .assign _=>true
 | .load _ _=>true
 | .store _ _ _=>true
 | .indexAddr _ _ _=>true
 | .binOp _ _ _ _ _=>true
 | .nilCheck _=>true
 | _=>false
variable {P : Program}
theorem run_v {s : Sem Value} {w w' : World} {r : Next} (hr : Sem.run P (do pure (Next.value (← s))) w = .ok r w') : ∃ v,r = .value v:=by
 rw [Sem.run_bind] at hr
 cases hs : Sem.run P s w with
 | ok a w1=>rw [hs] at hr;simp [Result.andThen] at hr;exact⟨_,hr.1.symm⟩
 | halt a w1=>rw [hs] at hr;simp [Result.andThen] at hr
theorem run_u {s : Sem Unit} {w w' : World} {r : Next} (hr : Sem.run P (do s;pure Next.skip) w = .ok r w') : r = .skip:=by
 rw [Sem.run_bind] at hr
 cases hs : Sem.run P s w with
 | ok a w1=>rw [hs] at hr;simp [Result.andThen] at hr;exact hr.1.symm
 | halt a w1=>rw [hs] at hr;simp [Result.andThen] at hr
def Gives (P : Program) (s : Sem Next) : Prop:=∀ w w' r,s.run P w = .ok r w' →(∃ v,r = .value v)∨r = .skip
theorem gives_pure (v : Value) : Gives P (pure (.value v)):=fun w w' r h=>by simp at h;exact .inl ⟨_,h.1.symm⟩
theorem gives_panic : Gives P (runtimePanic .nilDeref : Sem Next):=fun w w' r h=>by simp [runtimePanic] at h;try simp [goPanic] at h
theorem gives_bind {α : Type} {s : Sem α} {g : α→Sem Next} (h : ∀ x,Gives P (g x)) : Gives P (s >>= g):=fun w w' r hr=>by
 rw [Sem.run_bind] at hr
 cases hs : Sem.run P s w with
 | ok a w1=>rw [hs] at hr;exact h a _ _ _ hr
 | halt a w1=>rw [hs] at hr;simp [Result.andThen] at hr
theorem gives_ite {c : Prop} [Decidable c] {s t : Sem Next} (h1 : Gives P s) (h2 : Gives P t) : Gives P (if c then s else t):=by split <;> assumption
theorem nil_run {ρ : Operand→Value} {dst : Option Nat} {x : Operand} {ty : TypeId} {pos : String} {after : Array Edge} {guard : Option (Nat×Bool)} : Gives P (execOp ρ ⟨dst,.nilCheck x,ty,pos,after,guard⟩):=by
 simp only [execOp]
 split
 ·exact gives_panic
 ·exact gives_panic
 ·exact gives_panic
 ·split
  ·exact gives_panic
  ·exact gives_bind fun x=>gives_bind fun y=>gives_ite (gives_bind fun _=>gives_pure _) (gives_pure _)
  exact gives_pure _
 exact gives_pure _
theorem plain_run {ρ : Operand→Value} {o : Oper} (h : plainOp o.op = true) {w w' : World} {r : Next} (hr :(execOp ρ o).run P w = .ok r w') :(∃ v,r = .value v)∨r = .skip:=by
 obtain ⟨dst,op,ty,pos,after,guard⟩:=o
 cases op <;> simp only [plainOp,Bool.false_eq_true] at h
 all_goals first
  | exact .inl (run_v hr)
  | exact .inr (run_u hr)
  |(simp [execOp] at hr;exact .inl ⟨_,hr.1.symm⟩)
  | exact nil_run _ _ _ hr
theorem plain_about {o : Oper} (h : plainOp o.op = true) (w : World) (ρ : Operand→Value) : o.about P w ρ = none:=by
 unfold Oper.about
 cases ho : o.op <;> rw [ho] at h <;> first | rfl | cases h
theorem plain_defer {o : Oper} (h : plainOp o.op = true) : ∀ c,o.op≠.defer c:=fun c e=>by rw [e] at h;cases h
theorem upon_round {F : Fence} {n : Nat} {o : Oper} {a : Act} {w : World} {next next' : Act→World→Prop} {Q : Exit→Act→World→Prop} (hp : plainOp o.op = true) (hn : ∀ a w,next a w→next' a w) (h : o.wp P a w next Q) : o.wpIn F n P a w next' Q:=by
 refine⟨(fun f hf=>by rw [plain_about hp] at hf;cases hf),?_⟩
 rw [Oper.semAt_plain F _ _ (plain_defer hp)]
 unfold Oper.wp at h
 cases hr :(execOp a.eval o).run P w with
 | ok r w' =>
  rw [hr] at h
  rcases plain_run hp hr with ⟨v,rfl⟩ | rfl
  ·exact hn _ _ h
  exact hn _ _ h
 | halt x w' =>
  rw [hr] at h
  cases x <;> first | exact h | exact h.elim
theorem ops_round {F : Fence} {n : Nat} {ops : Array Oper} {Q : Exit → Act → World → Prop} (hp : ∀ (i : Nat) (o : Oper), ops[i]? = some o → plainOp o.op = true) (hq : ¬ LetsOut Q) : ∀ (l : List Nat) (a : Act) (w : World), wpOps P ops Q l a w → wpOpsIn F n P ops Q l a w
 | [],_,_,h=>h
 | i :: rest,a,w,h=>by
  unfold wpOps at h
  unfold wpOpsIn
  cases ho : ops[i]? with
  | none =>
   rw [ho] at h
   exact ops_round hp hq rest a w h
  | some o =>
   rw [ho] at h
   simp only at h ⊢
   by_cases c : Region.wanted o (yielded ops a.tmps) = true
   ·rw [if_pos c] at h ⊢
    rcases h with h | h
    ·exact upon_round (hp i o ho) (fun a w h=>ops_round hp hq rest a w h) h
    ·exact absurd h.2 hq
   ·rw [if_neg c] at h ⊢
    exact⟨(fun f hf=>by rw [plain_about (hp i o ho)] at hf;cases hf),ops_round hp hq rest _ w h⟩
theorem start_round {F : Fence} {m : Nat} {ops : Array Oper} {A : Act} {W : World} {S : World → Prop} {ds : List Nat} {id n : Nat} {a : Act} {w : World} (l : Array Bool) (hm : P.follows .mixedOrders = true) (hp : ops.all (fun o => plainOp o.op) = true) (hn : ops.size = n) (hl : Array.replicate n false = l) (hS : S w.drew)
  (h : S w.drew→wpAnyLast P .any ops (joinPost A W) S ds n l a w.drew) :(Code.region id ops true).wpIn F m P (joinPost A W) a w:=by
 subst hn
 subst hl
 refine wpIn_region_draw (fun t=>ops_round (fun i o ho=>?_) (fun hh=>by obtain ⟨a,w,hh⟩:=hh;exact hh) _ _ _ ?_)
 ·exact(Array.all_eq_true_iff_forall_mem.1 hp) o (Array.mem_of_getElem? ho)
 simp only [Region.schedule,hm,Bool.true_or,if_true]
 exact wpAny_sound ops.size t _ a _ (wpAny_of_last _ _ _ _ (h hS))
theorem LI.appendD {w W : World} {n₀ : Nat} {bs : List Bx} {v : Value} {out : List Int} (h : LI w n₀ bs v out W) {tmp : Obj} {wa : World} {v' : Value} {x : Int} {m : Nat} {ys : List Value} (hm : m = (out ++ [x]).length) (hy : ys = (out ++ [x]).map (Value.int .i64)) (hown : wa.ownsRow n₀ 3 1 v' m ys) (hg : (W.alloc tmp).drew.grownBy wa v.ownBlock) :
  LI w n₀ bs v' (out ++ [x]) wa∧KeepsOthers W wa∧∀ B,B < n₀→wa.heap[B]? = W.heap[B]?:=by
 have hg' :(W.drew.alloc tmp).grownBy wa v.ownBlock:=hg
 obtain ⟨h1,h2⟩:=h.drew.append hm hy hown hg'
 exact⟨h1,⟨h2.size,h2.same⟩,fun B hB=>h.drew.keepB hB hg'⟩
theorem keepsFrom_drew (B : Nat) (W : World) : KeepsFrom B W W.drew:=⟨Nat.le_refl _,fun _ _ _ h _=>h⟩
end Go.Proofs.Ytbfhlaggllofdaa.T

namespace Go.Proofs.Ytbfhlaggllofdaa.S
open Go.Proofs.Ytbfhlaggllofdaa.Lib
open Go.Maps (Keyed)
open Go.RowKit Go.Proofs.YtbfhlaggllofdaaW.PrintWords Go.Proofs.YtbfhlaggllofdaaW.PrintLast Go.Proofs.YtbfhlaggllofdaaW.PrintMore
attribute [local go_sem] max2_int min2_int max_two min_two max_three min_three max_four min_four
set_option linter.unusedVariables false
set_option linter.unusedSimpArgs false

open Go.Proofs.Ytbfhlaggllofdaa.G Go.Proofs.Ytbfhlaggllofdaa.T Go.Proofs.Ytbfhlaggllofdaa.P
def turns_Setting.f (l0 : List Int) (a1 : Int) : Option (List Int×Int):=some (if Dials l0∧0≤a1∧a1≤prod l0 - 1 then(dial l0 a1,0) else([],2))
theorem cell_alloc {w : World} {p : Addr} {v : Value} (o : Obj) (h : w.cell? p = some v) :(w.drew.alloc o).cell? p = some v :=
 ((bwA (Below.refl w.drew.heap.size w.drew) o).cell (World.block_lt_of_cell? w _ h)).trans h
set_option maxHeartbeats 400000 in
set_option maxRecDepth 100000 in
theorem turns_Setting.calls (A0 : Option Addr) (c0 : Nat) (l0 : List Int) (a1 : Int) (r1 : List Int) (r2 : Int) (w : World) (hr0 : Kd.C (Kd.int .i64) w A0 l0.length l0) (hc0 : l0.length ≤ c0) (h : turns_Setting.f l0 a1 = some (r1, r2)) :
  Calls Try.prog 17 #[.slice A0 l0.length c0,.int .i64 a1] w fun e w'=>∃ v0_ : Value,e = .returned (.tuple #[v0_,.int .i64 r2])∧Kd.R (Kd.int .i64) 3 w' w.heap.size (fun _=>True) v0_ r1∧Below w.heap.size w w':=by
 replace h:=Option.some.inj h
 by_cases hD : Dials l0
 rotate_left
 ·rw [if_neg (fun hh => hD hh.1)] at h
  injection h with h1 h2
  subst h1;subst h2
  have HS:=Aside0.mk (settings_no A0 c0 l0 w hr0 hc0 hD)
  clear hr0 hc0 hD
  go_enter Try.func17,Try.ntmps17
  go_wp2_with (go_at_call 55;go_must (refine HS.out.mono ?_;rintro e w1 ⟨vs,rfl,hb⟩;have HB1:=Aside0.mk hb;clear hb))
  go_ret2
  exact⟨_,rfl,Kd.R_nil _ _ _ _ _,by repeat(first |(with_reducible first | exact HB1.out | apply bwN) | exact HB1.out)⟩
 have HS:=Aside0.mk (settings_yes A0 c0 l0 w hr0 hc0 hD)
 have HL:=Aside0.mk hD
 have hp12:=prod_12 hD.mem hD.1
 have w0 : wrap64 (prod l0 - 1) = prod l0 - 1:=w64 (by omega) (by omega)
 have y0:=eq_true (show(0 : Int) < ((l0.length + 1 : Nat) : Int) by omega)
 have y1:=eq_true (show(0 : Int) < (l0.length : Int) + 1 by omega)
 clear hr0 hc0
 by_cases c1 : 0≤a1∧a1≤prod l0 - 1
 rotate_left
 ·rw [if_neg (fun hh => c1 hh.2)] at h
  injection h with h1 h2
  subst h1;subst h2
  have hi:=Aside0.mk (within_no c1)
  obtain ⟨pn,hpn⟩ : ∃ v,prod l0 = v:=⟨_,rfl⟩
  have HP:=Aside0.mk hpn
  rw [hpn] at w0 hi
  clear c1 hp12 hpn hD
  go_enter Try.func17,Try.ntmps17
  go_wp2_with (first |(go_at_call 55;go_must (refine HS.out.mono ?_;rintro e w1 ⟨g,cg,rfl,ht,hg,hb⟩;have z0 : w1.cell? ⟨g,0,none⟩ = some (.int .i64 pn):=(ht 0 (Nat.zero_lt_succ _)).trans (by rw [← HP.out];rfl);have HT:=Aside0.mk ht;have HG:=Aside0.mk hg;have HB1:=Aside0.mk hb;clear ht hg hb)) |(go_at_call 56;go_must (with_reducible refine(turns_within.calls a1 0 (pn - 1) false _ hi.out).mono ?_;rintro e w' ⟨rfl,⟨nd,rfl⟩⟩)))
  go_ret2
  exact⟨_,rfl,Kd.R_nil _ _ _ _ _,by repeat(first |(with_reducible first | exact HB1.out | apply bwN) | exact HB1.out)⟩
 rw [if_pos ⟨hD,c1⟩] at h
 injection h with h1 h2
 subst h2
 have hi:=Aside0.mk (within_yes c1)
 have HA:=Aside0.mk (show 0≤a1∧a1 < prod l0 by omega)
 have HR:=Aside0.mk h1
 obtain ⟨pn,hpn⟩ : ∃ v,prod l0 = v:=⟨_,rfl⟩
 have HP:=Aside0.mk hpn
 rw [hpn] at w0 hi
 clear c1 hp12 hpn h1 hD
 go_enter Try.func17,Try.ntmps17
 go_wp2_with (first |(go_at_call 55;go_must (refine HS.out.mono ?_;rintro e w1 ⟨g,cg,rfl,ht,hg,hb⟩;have z0 : w1.cell? ⟨g,0,none⟩ = some (.int .i64 pn):=(ht 0 (Nat.zero_lt_succ _)).trans (by rw [← HP.out];rfl);have HT:=Aside0.mk ht;have HG:=Aside0.mk hg;have HB1:=Aside0.mk hb;clear ht hg hb)) |(go_at_call 56;go_must (with_reducible refine(turns_within.calls a1 0 (pn - 1) true _ hi.out).mono ?_;rintro e w' ⟨rfl,⟨nd,rfl⟩⟩)))
 have HR0:=Aside0.mk (show [] ++ dial (l0.drop 0) a1 = r1 from HR.out)
 clear HR
 go_loopw [1,8,29] (fun v1 v8 v29 wr=>∃ (i : Nat) (a : Int) (out : List Int),v1 = .int .i64 a∧v29 = .int .i64 (i : Int)∧Aside0 (i≤l0.length∧0≤a∧a < prod (l0.drop i)∧out.length = i)∧Aside0 (out ++ dial (l0.drop i) a = r1)∧Aside0 (Kd.R (Kd.int .i64) 3 wr w1.heap.size (fun _=>True) v8 out)∧Aside0 (Below w1.heap.size w1 wr)) (fun v1 v8 v29 _=>l0.length - (intOf v29).toNat)
 case atStart=>exact⟨0,a1,[],rfl,rfl,⟨Nat.zero_le _,HA.out.1,HA.out.2,rfl⟩,HR0,⟨Kd.R_nil _ _ _ _ _⟩,⟨bwN (Below.refl _ _) _⟩⟩
 clear HR0
 obtain ⟨i,a,out,rfl,rfl,HM,HR,HO,HB⟩:=hrel
 obtain ⟨m0,m1,m2,m3⟩:=HM.out
 by_cases c : i < l0.length
 rotate_left
 ·have cb : decide ((i : Int) < (l0.length : Int)) = false := decide_eq_false (by omega)
  have cb1 : decide (i < l0.length) = false:=decide_eq_false c
  have hr : out = r1:=by rw [← HR.out,show l0.drop i = [] from List.drop_eq_nil_of_le (by omega)];simp [dial]
  subst hr
  clear m0 m1 m2 m3 c
  go_wp2
  go_ret2
  exact⟨_,rfl,Kd.R_lower HO.out (bwZ HB1.out),bwT HB1.out HB.out⟩
 have cb : decide ((i : Int) < (l0.length : Int)) = true:=decide_eq_true (by omega)
 have cb1 : decide (i < l0.length) = true:=decide_eq_true c
 have hl:=HL.out.1
 have i0:=eq_true (show(0 : Int) ≤(i : Int) + 1 by omega)
 have i1:=eq_true (show(i : Int) + 1 < ((l0.length + 1 : Nat) : Int) by omega)
 have i2:=eq_true (show(i : Int) + 1 < (l0.length : Int) + 1 by omega)
 have i3:=eq_true (show(i : Int) < (l0.length : Int) by omega)
 have wi : wrap64 ((i : Int) + 1) =(i : Int) + 1:=w64 (by omega) (by omega)
 have HML:=Aside0.mk (show out.length≤12 by omega)
 have HC:=Aside0.mk (show i + 1≤l0.length∧∀ x : Int,(out ++ [x]).length = i + 1 from⟨by omega,fun x=>by rw [List.length_append,List.length_singleton];omega⟩)
 have HMS:=Aside0.mk (show l0.length - (intOf (.int .i64 ((i : Int) + 1))).toNat < l0.length - (intOf (.int .i64 (i : Int))).toNat by show l0.length - ((i : Int) + 1).toNat < l0.length - ((i : Int)).toNat;omega)
 obtain ⟨P,x,y,eP,ex,ey,hb,b0,b1,ht,wx,hm,et,hd⟩:=dial_step HL.out c m1 m2
 have l1 : wr.cell? ⟨g,i + 1,none⟩ = some (.int .i64 (prod (l0.drop (i + 1)))):=(HT.out.below HG.out HB.out) (i + 1) (by omega)
 rw [eP] at l1
 have HR2:=Aside0.mk (show(out ++ [x]) ++ dial (l0.drop (i + 1)) y = r1 by rw [← HR.out,hd];simp)
 have HM2:=Aside0.mk (show i + 1≤l0.length∧0≤y∧y < prod (l0.drop (i + 1)) ∧(out ++ [x]).length = i + 1 from⟨HC.out.1,hb.2.2.2.1,by rw [eP];exact hb.2.2.2.2,HC.out.2 x⟩)
 have HTM:=Aside0.mk hm
 have HBD:=Aside0.mk hb
 have HET:=Aside0.mk et
 have HEP:=Aside0.mk eP
 clear hd et hm hb eP ex ey m0 m1 m2 m3 c hl HM HR HC
 go_wp2_with (first |((with_reducible refine gate_builtin (b:=.append) (xs:=#[.tmp 39,.tmp 41]) rfl ?_);at_builtin;refine Kd.R_append (Kd.int .i64) (w0:=w1) w1.heap.size rfl (.tmp 39) (.tmp 41) 22 3 (.int .i64 0) 8 rfl Try.underlying22 info3 rfl (by decide) (by omega) u8 out x [.int .i64 x] (fun _=>True) (fun _=>False) rfl rfl ?aP (fun _ hk=>hk.elim) ?aF ?aO ?aB ?aS ?aL ?_;(case aP=>exact rfl);(case aB=>exact(by repeat(first |(with_reducible first | exact HB.out | apply bwA | apply bwN | apply bw1) | exact HB.out)));(case aF=>exact(fun _ _=>trivial));(case aO=>exact(by(with_reducible repeat(first | apply Kd.R_alloc | apply Kd.R_drewN | apply Kd.R_drew));exact HO.out));(case aS=>exact(bwZ (by repeat(first |(with_reducible first | exact HB.out | apply bwA | apply bwN | apply bw1) | exact HB.out))));(case aL=>have:=HML.out;omega);intro v262 wa ho hb hg hat;have HO1:=Aside0.mk ho;have HBx:=Aside0.mk hb;clear ho hb hg hat))
 have HPa : wa.cell? ⟨g,i + 1,none⟩ = some (.int .i64 P):=((HT.out.below HG.out HBx.out) (i + 1) (Nat.lt_succ_of_le HM2.out.1)).trans (by rw [← HEP.out])
 have HCL :(wa.drew.alloc (.cells #[.int .i64 P] 3)).cell? ⟨wa.heap.size,0,none⟩ = some (.int .i64 P):=(Boxed.new wa.drew 3 (.int .i64 P)).cell
 refine start_ (n:=16) (S:=fun W'=>W'.cell? ⟨g,i + 1,none⟩ = some (.int .i64 P)) (ds:=[]) #[false,false,false,false,false,false,false,false,false,false,false,false,false,false,false,false] (by kernel_rfl) rfl rfl HPa (fun hHeld=>?_)
 first
 |(refine px_ (i:=0) (N:=some 43) (v:=?_) (a':=?_) #[true,false,false,false,false,false,false,false,false,false,false,false,false,false,false,false] rfl rfl (by kernel_rfl) (fun _ _ _ h=>h) ?_ ?_ ?_;rotate_left 2;(focus refine Or.inl ⟨by rfl,?_⟩;intro w';go_simp;with_reducible rfl);(focus simp only [List.getElem_toArray,List.getElem_cons_succ,List.getElem_cons_zero,Act.put,List.setIfInBounds_toArray,List.set_cons_zero,List.set_cons_succ,i64_w,i32_w];rfl))
 |(refine tx_ (i:=0) (N:=some 43) (v:=?_) (a':=?_) #[true,false,false,false,false,false,false,false,false,false,false,false,false,false,false,false] rfl rfl (by kernel_rfl) (fun _ _ _ h=>h) ?_ hHeld ?_ ?_;rotate_left 2;(focus refine Or.inl ⟨by rfl,?_⟩;intro w' s0;go_simp;with_reducible rfl);(focus simp only [List.getElem_toArray,List.getElem_cons_succ,List.getElem_cons_zero,Act.put,List.setIfInBounds_toArray,List.set_cons_zero,List.set_cons_succ,i64_w,i32_w];rfl))
 first
 |(refine px_ (i:=1) (N:=some 44) (v:=?_) (a':=?_) #[true,true,false,false,false,false,false,false,false,false,false,false,false,false,false,false] rfl rfl (by kernel_rfl) (fun _ _ _ h=>h) ?_ ?_ ?_;rotate_left 2;(focus refine Or.inl ⟨by rfl,?_⟩;intro w';go_simp;with_reducible rfl);(focus simp only [List.getElem_toArray,List.getElem_cons_succ,List.getElem_cons_zero,Act.put,List.setIfInBounds_toArray,List.set_cons_zero,List.set_cons_succ,i64_w,i32_w];rfl))
 |(refine tx_ (i:=1) (N:=some 44) (v:=?_) (a':=?_) #[true,true,false,false,false,false,false,false,false,false,false,false,false,false,false,false] rfl rfl (by kernel_rfl) (fun _ _ _ h=>h) ?_ hHeld ?_ ?_;rotate_left 2;(focus refine Or.inl ⟨by rfl,?_⟩;intro w' s0;go_simp;with_reducible rfl);(focus simp only [List.getElem_toArray,List.getElem_cons_succ,List.getElem_cons_zero,Act.put,List.setIfInBounds_toArray,List.set_cons_zero,List.set_cons_succ,i64_w,i32_w];rfl))
 first
 |(refine px_ (i:=2) (N:=some 45) (v:=?_) (a':=?_) #[true,true,true,false,false,false,false,false,false,false,false,false,false,false,false,false] rfl rfl (by kernel_rfl) (fun _ _ _ h=>h) ?_ ?_ ?_;rotate_left 2;(focus refine Or.inl ⟨by rfl,?_⟩;intro w';go_simp;with_reducible rfl);(focus simp only [List.getElem_toArray,List.getElem_cons_succ,List.getElem_cons_zero,Act.put,List.setIfInBounds_toArray,List.set_cons_zero,List.set_cons_succ,i64_w,i32_w];rfl))
 |(refine tx_ (i:=2) (N:=some 45) (v:=?_) (a':=?_) #[true,true,true,false,false,false,false,false,false,false,false,false,false,false,false,false] rfl rfl (by kernel_rfl) (fun _ _ _ h=>h) ?_ hHeld ?_ ?_;rotate_left 2;(focus refine Or.inl ⟨by rfl,?_⟩;intro w' s0;go_simp;with_reducible rfl);(focus simp only [List.getElem_toArray,List.getElem_cons_succ,List.getElem_cons_zero,Act.put,List.setIfInBounds_toArray,List.set_cons_zero,List.set_cons_succ,i64_w,i32_w];rfl))
 first
 |(refine px_ (i:=3) (N:=some 46) (v:=?_) (a':=?_) #[true,true,true,true,false,false,false,false,false,false,false,false,false,false,false,false] rfl rfl (by kernel_rfl) (fun _ _ _ h=>h) ?_ ?_ ?_;rotate_left 2;(focus refine Or.inl ⟨by rfl,?_⟩;intro w';go_simp;with_reducible rfl);(focus simp only [List.getElem_toArray,List.getElem_cons_succ,List.getElem_cons_zero,Act.put,List.setIfInBounds_toArray,List.set_cons_zero,List.set_cons_succ,i64_w,i32_w];rfl))
 |(refine tx_ (i:=3) (N:=some 46) (v:=?_) (a':=?_) #[true,true,true,true,false,false,false,false,false,false,false,false,false,false,false,false] rfl rfl (by kernel_rfl) (fun _ _ _ h=>h) ?_ hHeld ?_ ?_;rotate_left 2;(focus refine Or.inl ⟨by rfl,?_⟩;intro w' s0;go_simp;with_reducible rfl);(focus simp only [List.getElem_toArray,List.getElem_cons_succ,List.getElem_cons_zero,Act.put,List.setIfInBounds_toArray,List.set_cons_zero,List.set_cons_succ,i64_w,i32_w];rfl))
 first
 |(refine px_ (i:=4) (N:=some 47) (v:=?_) (a':=?_) #[true,true,true,true,true,false,false,false,false,false,false,false,false,false,false,false] rfl rfl (by kernel_rfl) (fun _ _ _ h=>h) ?_ ?_ ?_;rotate_left 2;(focus refine Or.inl ⟨by rfl,?_⟩;intro w';go_simp;with_reducible rfl);(focus simp only [List.getElem_toArray,List.getElem_cons_succ,List.getElem_cons_zero,Act.put,List.setIfInBounds_toArray,List.set_cons_zero,List.set_cons_succ,i64_w,i32_w];rfl))
 |(refine tx_ (i:=4) (N:=some 47) (v:=?_) (a':=?_) #[true,true,true,true,true,false,false,false,false,false,false,false,false,false,false,false] rfl rfl (by kernel_rfl) (fun _ _ _ h=>h) ?_ hHeld ?_ ?_;rotate_left 2;(focus refine Or.inl ⟨by rfl,?_⟩;intro w' s0;go_simp;with_reducible rfl);(focus simp only [List.getElem_toArray,List.getElem_cons_succ,List.getElem_cons_zero,Act.put,List.setIfInBounds_toArray,List.set_cons_zero,List.set_cons_succ,i64_w,i32_w];rfl))
 first
 |(refine px_ (i:=6) (N:=some 49) (v:=?_) (a':=?_) #[true,true,true,true,true,false,true,false,false,false,false,false,false,false,false,false] rfl rfl (by kernel_rfl) (fun _ _ _ h=>h) ?_ ?_ ?_;rotate_left 2;(focus refine Or.inl ⟨by rfl,?_⟩;intro w';go_simp;with_reducible rfl);(focus simp only [List.getElem_toArray,List.getElem_cons_succ,List.getElem_cons_zero,Act.put,List.setIfInBounds_toArray,List.set_cons_zero,List.set_cons_succ,i64_w,i32_w];rfl))
 |(refine tx_ (i:=6) (N:=some 49) (v:=?_) (a':=?_) #[true,true,true,true,true,false,true,false,false,false,false,false,false,false,false,false] rfl rfl (by kernel_rfl) (fun _ _ _ h=>h) ?_ hHeld ?_ ?_;rotate_left 2;(focus refine Or.inl ⟨by rfl,?_⟩;intro w' s0;go_simp;with_reducible rfl);(focus simp only [List.getElem_toArray,List.getElem_cons_succ,List.getElem_cons_zero,Act.put,List.setIfInBounds_toArray,List.set_cons_zero,List.set_cons_succ,i64_w,i32_w];rfl))
 first
 |(refine px_ (i:=7) (N:=some 50) (v:=?_) (a':=?_) #[true,true,true,true,true,false,true,true,false,false,false,false,false,false,false,false] rfl rfl (by kernel_rfl) (fun _ _ _ h=>h) ?_ ?_ ?_;rotate_left 2;(focus refine Or.inl ⟨by rfl,?_⟩;intro w';go_simp;with_reducible rfl);(focus simp only [List.getElem_toArray,List.getElem_cons_succ,List.getElem_cons_zero,Act.put,List.setIfInBounds_toArray,List.set_cons_zero,List.set_cons_succ,i64_w,i32_w];rfl))
 |(refine tx_ (i:=7) (N:=some 50) (v:=?_) (a':=?_) #[true,true,true,true,true,false,true,true,false,false,false,false,false,false,false,false] rfl rfl (by kernel_rfl) (fun _ _ _ h=>h) ?_ hHeld ?_ ?_;rotate_left 2;(focus refine Or.inl ⟨by rfl,?_⟩;intro w' s0;go_simp;with_reducible rfl);(focus simp only [List.getElem_toArray,List.getElem_cons_succ,List.getElem_cons_zero,Act.put,List.setIfInBounds_toArray,List.set_cons_zero,List.set_cons_succ,i64_w,i32_w];rfl))
 first
 |(refine px_ (i:=8) (N:=some 51) (v:=?_) (a':=?_) #[true,true,true,true,true,false,true,true,true,false,false,false,false,false,false,false] rfl rfl (by kernel_rfl) (fun _ _ _ h=>h) ?_ ?_ ?_;rotate_left 2;(focus refine Or.inl ⟨by rfl,?_⟩;intro w';go_simp;with_reducible rfl);(focus simp only [List.getElem_toArray,List.getElem_cons_succ,List.getElem_cons_zero,Act.put,List.setIfInBounds_toArray,List.set_cons_zero,List.set_cons_succ,i64_w,i32_w];rfl))
 |(refine tx_ (i:=8) (N:=some 51) (v:=?_) (a':=?_) #[true,true,true,true,true,false,true,true,true,false,false,false,false,false,false,false] rfl rfl (by kernel_rfl) (fun _ _ _ h=>h) ?_ hHeld ?_ ?_;rotate_left 2;(focus refine Or.inl ⟨by rfl,?_⟩;intro w' s0;go_simp;with_reducible rfl);(focus simp only [List.getElem_toArray,List.getElem_cons_succ,List.getElem_cons_zero,Act.put,List.setIfInBounds_toArray,List.set_cons_zero,List.set_cons_succ,i64_w,i32_w];rfl))
 first
 |(refine px_ (i:=9) (N:=some 52) (v:=?_) (a':=?_) #[true,true,true,true,true,false,true,true,true,true,false,false,false,false,false,false] rfl rfl (by kernel_rfl) (fun _ _ _ h=>h) ?_ ?_ ?_;rotate_left 2;(focus refine Or.inl ⟨by rfl,?_⟩;intro w';go_simp;with_reducible rfl);(focus simp only [List.getElem_toArray,List.getElem_cons_succ,List.getElem_cons_zero,Act.put,List.setIfInBounds_toArray,List.set_cons_zero,List.set_cons_succ,i64_w,i32_w];rfl))
 |(refine tx_ (i:=9) (N:=some 52) (v:=?_) (a':=?_) #[true,true,true,true,true,false,true,true,true,true,false,false,false,false,false,false] rfl rfl (by kernel_rfl) (fun _ _ _ h=>h) ?_ hHeld ?_ ?_;rotate_left 2;(focus refine Or.inl ⟨by rfl,?_⟩;intro w' s0;go_simp;with_reducible rfl);(focus simp only [List.getElem_toArray,List.getElem_cons_succ,List.getElem_cons_zero,Act.put,List.setIfInBounds_toArray,List.set_cons_zero,List.set_cons_succ,i64_w,i32_w];rfl))
 first
 |(refine px_ (i:=10) (N:=some 53) (v:=?_) (a':=?_) #[true,true,true,true,true,false,true,true,true,true,true,false,false,false,false,false] rfl rfl (by kernel_rfl) (fun _ _ _ h=>h) ?_ ?_ ?_;rotate_left 2;(focus refine Or.inl ⟨by rfl,?_⟩;intro w';go_simp;with_reducible rfl);(focus simp only [List.getElem_toArray,List.getElem_cons_succ,List.getElem_cons_zero,Act.put,List.setIfInBounds_toArray,List.set_cons_zero,List.set_cons_succ,i64_w,i32_w];rfl))
 |(refine tx_ (i:=10) (N:=some 53) (v:=?_) (a':=?_) #[true,true,true,true,true,false,true,true,true,true,true,false,false,false,false,false] rfl rfl (by kernel_rfl) (fun _ _ _ h=>h) ?_ hHeld ?_ ?_;rotate_left 2;(focus refine Or.inl ⟨by rfl,?_⟩;intro w' s0;go_simp;with_reducible rfl);(focus simp only [List.getElem_toArray,List.getElem_cons_succ,List.getElem_cons_zero,Act.put,List.setIfInBounds_toArray,List.set_cons_zero,List.set_cons_succ,i64_w,i32_w];rfl))
 first
 |(refine px_ (i:=11) (N:=some 54) (v:=?_) (a':=?_) #[true,true,true,true,true,false,true,true,true,true,true,true,false,false,false,false] rfl rfl (by kernel_rfl) (fun _ _ _ h=>h) ?_ ?_ ?_;rotate_left 2;(focus refine Or.inl ⟨by rfl,?_⟩;intro w';go_simp;with_reducible rfl);(focus simp only [List.getElem_toArray,List.getElem_cons_succ,List.getElem_cons_zero,Act.put,List.setIfInBounds_toArray,List.set_cons_zero,List.set_cons_succ,i64_w,i32_w];rfl))
 |(refine tx_ (i:=11) (N:=some 54) (v:=?_) (a':=?_) #[true,true,true,true,true,false,true,true,true,true,true,true,false,false,false,false] rfl rfl (by kernel_rfl) (fun _ _ _ h=>h) ?_ hHeld ?_ ?_;rotate_left 2;(focus refine Or.inl ⟨by rfl,?_⟩;intro w' s0;go_simp;with_reducible rfl);(focus simp only [List.getElem_toArray,List.getElem_cons_succ,List.getElem_cons_zero,Act.put,List.setIfInBounds_toArray,List.set_cons_zero,List.set_cons_succ,i64_w,i32_w];rfl))
 first
 |(refine px_ (i:=12) (N:=some 55) (v:=?_) (a':=?_) #[true,true,true,true,true,false,true,true,true,true,true,true,true,false,false,false] rfl rfl (by kernel_rfl) (fun _ _ _ h=>h) ?_ ?_ ?_;rotate_left 2;(focus refine Or.inl ⟨by rfl,?_⟩;intro w';go_simp;with_reducible rfl);(focus simp only [List.getElem_toArray,List.getElem_cons_succ,List.getElem_cons_zero,Act.put,List.setIfInBounds_toArray,List.set_cons_zero,List.set_cons_succ,i64_w,i32_w];rfl))
 |(refine tx_ (i:=12) (N:=some 55) (v:=?_) (a':=?_) #[true,true,true,true,true,false,true,true,true,true,true,true,true,false,false,false] rfl rfl (by kernel_rfl) (fun _ _ _ h=>h) ?_ hHeld ?_ ?_;rotate_left 2;(focus refine Or.inl ⟨by rfl,?_⟩;intro w' s0;go_simp;with_reducible rfl);(focus simp only [List.getElem_toArray,List.getElem_cons_succ,List.getElem_cons_zero,Act.put,List.setIfInBounds_toArray,List.set_cons_zero,List.set_cons_succ,i64_w,i32_w];rfl))
 first
 |(refine px_ (i:=13) (N:=some 56) (v:=?_) (a':=?_) #[true,true,true,true,true,false,true,true,true,true,true,true,true,true,false,false] rfl rfl (by kernel_rfl) (fun _ _ _ h=>h) ?_ ?_ ?_;rotate_left 2;(focus refine Or.inl ⟨by rfl,?_⟩;intro w';go_simp;with_reducible rfl);(focus simp only [List.getElem_toArray,List.getElem_cons_succ,List.getElem_cons_zero,Act.put,List.setIfInBounds_toArray,List.set_cons_zero,List.set_cons_succ,i64_w,i32_w];rfl))
 |(refine tx_ (i:=13) (N:=some 56) (v:=?_) (a':=?_) #[true,true,true,true,true,false,true,true,true,true,true,true,true,true,false,false] rfl rfl (by kernel_rfl) (fun _ _ _ h=>h) ?_ hHeld ?_ ?_;rotate_left 2;(focus refine Or.inl ⟨by rfl,?_⟩;intro w' s0;go_simp;with_reducible rfl);(focus simp only [List.getElem_toArray,List.getElem_cons_succ,List.getElem_cons_zero,Act.put,List.setIfInBounds_toArray,List.set_cons_zero,List.set_cons_succ,i64_w,i32_w];rfl))
 refine one_ (i:=5) #[true,true,true,true,true,true,true,true,true,true,true,true,true,true,false,false] rfl rfl (by kernel_rfl) (by decide) (fun K hK=>?_)
 refine goes_ Try.func57 (by kernel_rfl) rfl #[.int .i64 P] (by rfl) rfl rfl (by(try simp only [List.map_toArray,List.map_cons,List.map_nil]);first | done | rfl) ?_
 refine(turner_calls _ P).mono ?_
 rintro e wx ⟨rfl,rfl⟩
 refine⟨_,rfl,?_⟩
 refine hK.out _ _ (show(wa.drew.alloc (.cells #[.int .i64 P] 3)).cell? ⟨g,i + 1,none⟩ = some (.int .i64 P) from(cell_alloc _ HPa)) (fun hHeld=>?_)
 clear hK K
 refine norm_ (a':=?_) ?_ ?_
 rotate_left
 ·show Act.put _ (some 48) _ = _
  simp only [List.getElem_toArray,List.getElem_cons_succ,List.getElem_cons_zero,Act.put,List.setIfInBounds_toArray,List.set_cons_zero,List.set_cons_succ,i64_w,i32_w]
  rfl
 refine one_ (i:=14) #[true,true,true,true,true,true,true,true,true,true,true,true,true,true,true,false] rfl rfl (by kernel_rfl) (by decide) (fun K hK=>?_)
 refine goesV_ (f:=70) (cap:=#[.pointer (some ⟨wa.heap.size,0,none⟩)]) Try.func70 (by kernel_rfl) rfl #[.int .i64 x,.int .i64 (Int.tmod a P),.pointer (some ⟨wa.heap.size,0,none⟩)] (by rfl) rfl rfl (by rfl) (by first | rfl |(simp only [List.map_toArray,List.map_cons,List.map_nil];rfl)) ?_
 refine(turner_fn _ P x (Int.tmod a P) wa.heap.size HCL HTM.out HBD.out.2.1 HBD.out.2.2.1).mono ?_
 rintro e wx ⟨rfl,⟨nd2,rfl⟩⟩
 refine⟨_,rfl,?_⟩
 refine hK.out _ _ hHeld (fun hHeld=>?_)
 rw [HET.out]
 clear hK K
 refine norm_ (a':=?_) ?_ ?_
 rotate_left
 ·show Act.put _ (some 57) _ = _
  simp only [List.getElem_toArray,List.getElem_cons_succ,List.getElem_cons_zero,Act.put,List.setIfInBounds_toArray,List.set_cons_zero,List.set_cons_succ,i64_w,i32_w]
  rfl
 first
 |(refine px_ (i:=15) (N:=some 1) (v:=?_) (a':=?_) #[true,true,true,true,true,true,true,true,true,true,true,true,true,true,true,true] rfl rfl (by kernel_rfl) (fun _ _ _ h=>h) ?_ ?_ ?_;rotate_left 2;(focus refine Or.inl ⟨by rfl,?_⟩;intro w';go_simp;with_reducible rfl);(focus simp only [List.getElem_toArray,List.getElem_cons_succ,List.getElem_cons_zero,Act.put,List.setIfInBounds_toArray,List.set_cons_zero,List.set_cons_succ,i64_w,i32_w];rfl))
 |(refine tx_ (i:=15) (N:=some 1) (v:=?_) (a':=?_) #[true,true,true,true,true,true,true,true,true,true,true,true,true,true,true,true] rfl rfl (by kernel_rfl) (fun _ _ _ h=>h) ?_ hHeld ?_ ?_;rotate_left 2;(focus refine Or.inl ⟨by rfl,?_⟩;intro w' s0;go_simp;with_reducible rfl);(focus simp only [List.getElem_toArray,List.getElem_cons_succ,List.getElem_cons_zero,Act.put,List.setIfInBounds_toArray,List.set_cons_zero,List.set_cons_succ,i64_w,i32_w];rfl))
 refine done_ (by kernel_rfl) ?_
 clear HPa hHeld HCL
 try go_wp2
 go_roundw
 case rel=>exact⟨i + 1,y,out ++ [x],rfl,(by simp [wi]),HM2,HR2,⟨by(with_reducible repeat(first | apply Kd.R_alloc | apply Kd.R_drewN | apply Kd.R_drew));exact HO1.out⟩,⟨by repeat(first |(with_reducible first | exact HBx.out | apply bwA | apply bwN | apply bw1) | exact HBx.out)⟩⟩
 (first | exact HMS.out |(rw [wi];exact HMS.out) |(simp only [wi];exact HMS.out))

def slices_Reverse_int_int.l0 : Nat → List Int → Int → Int → Option (List Int)
 | 0,_,_,_=>none
 | k + 1,x0,x2,x3=>if x2 < x3 then(if 0≤x3 then(if x3 < (x0.length : Int) then(if 0≤x2 then(if x2 < (x0.length : Int) then(slices_Reverse_int_int.l0 k ((x0.set (x2 : Int).toNat (rd x0 x3)).set (x3 : Int).toNat (rd x0 x2)) (wrap64 (x2 + 1)) (wrap64 (x3 - 1))) else(none)) else(none)) else(none)) else(none)) else(some x0)
def slices_Reverse_int_int.f (k : Nat) (l0 : List Int) : Option (List Int):=slices_Reverse_int_int.l0 k l0 0 (wrap64 ((l0.length : Int) - 1))
def slices_Reverse_int_int.T3 : Bool×List (List Nat×List Nat):=(true,[([],[]),([],[]),([],[]),([],[]),([],[]),([],[]),([4,5],[4,5]),([6],[6]),([],[]),([],[]),([8,9],[8,9]),([10],[10]),([0,1,0,1,4,5,6,7,11],[0,1]),([12,7,0,1,4,5,6,7,11],[7,12]),([2,3,0,1,2,3,4,5,6,7,8,9,10,11,12,13],[2,3]),([14,11,13,0,1,2,3,4,5,6,7,8,9,10,11,12,13],[11,14])])
def slices_Reverse_int_int.B3 : List Nat:=[0,0,0,0,0,0,48,112,0,0,768,1792,4083,8179,16383,32767]
theorem slices_Reverse_int_int.tab3 : rtab .any (opsOf Try.f61 3) = slices_Reverse_int_int.T3:=by kernel_rfl
theorem slices_Reverse_int_int.bits3 : waitsOk slices_Reverse_int_int.T3.2 slices_Reverse_int_int.B3 = true:=by kernel_rfl
set_option maxHeartbeats 8000000 in
set_option maxRecDepth 100000 in
theorem slices_Reverse_int_int.calls (k : Nat) (P0_ : Nat → Prop) (u9000_ : Value) (l0 : List Int) (r : List Int) (w0 w : World) (hB : Below w0.heap.size w0 w) (ho0 : Kd.R (Kd.int .i64) 3 w w0.heap.size P0_ u9000_ l0) (h : slices_Reverse_int_int.f k l0 = some r) :
  Calls Try.prog 61 #[u9000_] w fun e w'=>e = .returned (.tuple #[])∧Kd.R (Kd.int .i64) 3 w' w0.heap.size (fun k_=>(P0_ k_∨w.heap.size≤k_)) u9000_ r∧Below w0.heap.size w0 w'∧Kept w w' (fun k_=>P0_ k_):=by
 have HO0:=Aside0.mk (show Kd.R (Kd.int .i64) 3 w w0.heap.size (fun k_=>(P0_ k_∨w.heap.size≤k_)) u9000_ l0 from Kd.R_mono ho0 (fun k_ hk=>(.inl hk)))
 have HK:=Aside0.mk (Kept.refl w (fun k_=>P0_ k_))
 have HW0:=Aside0.mk hB.size
 have HB:=Aside0.mk hB
 clear hB
 have H :(slices_Reverse_int_int.l0 k l0 0 (wrap64 ((l0.length : Int) - 1))) = some r:=h
 clear h
 have H':=Aside0.mk H
 clear H
 obtain ⟨Ao2,co2,eo2⟩:=Kd.R_slice HO0.out
 subst eo2
 go_enter Try.func61,Try.ntmps61
 go_wp2
 go_loopg [2,3] k (fun kq v2 v3 w'=>∃ (x0_1 : List Int) (x2_1 : Int) (x3_1 : Int),v2 = .int .i64 x2_1∧v3 = .int .i64 x3_1∧Aside0 (slices_Reverse_int_int.l0 kq x0_1 x2_1 x3_1 = some r)∧Aside0 (kq≤k)∧Aside0 (Kd.R (Kd.int .i64) 3 w' w0.heap.size (fun k_=>(P0_ k_∨w.heap.size≤k_)) (.slice Ao2 l0.length co2) x0_1)∧Aside0 (Kept w w' (fun k_=>P0_ k_))∧Aside0 (Below w0.heap.size w0 w'))
 case atStart=>exact⟨(l0),(0),(wrap64 ((l0.length : Int) - 1)),(by first | rfl |(simp;done) |(simp [*];done)),(by first | rfl |(simp;done) |(simp [*];done)),H',⟨Nat.le_refl _⟩,⟨by(with_reducible repeat(first | apply Kd.R_alloc | apply Kd.R_drewN | apply Kd.R_drew));exact HO0.out⟩,⟨by repeat(first |(with_reducible first | exact HK.out | apply Kept.alloc | apply Kept.drewN | apply Kept.drew) | exact HK.out)⟩,⟨by repeat(first |(with_reducible first | exact HB.out | apply bwA | apply bwN | apply bw1) | exact HB.out)⟩⟩
 clear H'
 try clear p2
 obtain ⟨x0_1,x2_1,x3_1,rfl,rfl,HA,HK1,HO_0,HK,HB⟩:=hrel
 have hl0_1:=(Kd.R_reads' HO_0.out).1
 rw [hl0_1] at HO_0
 (try simp only [hl0_1])
 cases gk with
 | zero=>exact absurd HA.out (by simp [slices_Reverse_int_int.l0])
 | succ k1 =>
  have H:=HA.out
  clear HA
  simp only [slices_Reverse_int_int.l0] at H
  by_cases c3 : x2_1 < x3_1
  rotate_left
  ·rw [if_neg c3] at H
   have c3b0 : decide (x2_1 < x3_1) = false:=decide_eq_false c3
   clear c3
   obtain rfl:=Option.some.inj H
   go_wp2
   first | go_end0 |((try simp only [Exit.inBlock,Exit.then]);refine bodyPost_ret (results_none rfl _ _ _) rfl ?_)
   exact⟨by first | rfl |(simp [errW_none,errW_some] <;> rfl) |(simp [*,errW_none,errW_some] <;> rfl),(by first | exact(by(with_reducible repeat(first | apply Kd.R_alloc | apply Kd.R_drewN | apply Kd.R_drew));exact HO_0.out) |(simp only [hl0_1];exact(by(with_reducible repeat(first | apply Kd.R_alloc | apply Kd.R_drewN | apply Kd.R_drew));exact HO_0.out))),by repeat(first |(with_reducible first | exact HB.out | apply bwA | apply bwN | apply bw1) | exact HB.out),by repeat(first |(with_reducible first | exact HK.out | apply Kept.alloc | apply Kept.drewN | apply Kept.drew) | exact HK.out)⟩
  rw [if_pos c3] at H
  have c3b0 : decide (x2_1 < x3_1) = true:=decide_eq_true c3
  clear c3
  by_cases c4 : 0≤x3_1
  rotate_left
  ·rw [if_neg c4] at H
   exact absurd H (by simp)
  rw [if_pos c4] at H
  have c4b0 : decide (0≤x3_1) = true:=decide_eq_true c4
  clear c4
  by_cases c5 : x3_1 < (x0_1.length : Int)
  rotate_left
  ·rw [if_neg c5] at H
   exact absurd H (by simp)
  rw [if_pos c5] at H
  have c5b0 : decide (x3_1 < (x0_1.length : Int)) = true:=decide_eq_true c5
  clear c5
  by_cases c6 : 0≤x2_1
  rotate_left
  ·rw [if_neg c6] at H
   exact absurd H (by simp)
  rw [if_pos c6] at H
  have c6b0 : decide (0≤x2_1) = true:=decide_eq_true c6
  clear c6
  by_cases c7 : x2_1 < (x0_1.length : Int)
  rotate_left
  ·rw [if_neg c7] at H
   exact absurd H (by simp)
  rw [if_pos c7] at H
  have c7b0 : decide (x2_1 < (x0_1.length : Int)) = true:=decide_eq_true c7
  clear c7
  obtain ⟨y115,hy115⟩ : ∃ y_ : List Int,y_ =(x0_1.set (x2_1 : Int).toNat (rd x0_1 x3_1)):=⟨_,rfl⟩
  replace H :(slices_Reverse_int_int.l0 k1 (y115.set (x3_1 : Int).toNat (rd x0_1 x2_1)) (wrap64 (x2_1 + 1)) (wrap64 (x3_1 - 1))) = some r:=by first |(rw [hy115];with_reducible exact H) |(have H2_:=(Option.bind_some _ _).symm.trans H;rw [hy115];with_reducible exact H2_) |(have H2_:=(Option.bind_some _ _).symm.trans H;with_reducible exact H2_) | with_reducible exact H |(rw [hy115];exact H) | exact H
  have Ny115:=Aside0.mk hy115
  clear hy115
  obtain ⟨y116,hy116⟩ : ∃ y_ : List Int,y_ =(y115.set (x3_1 : Int).toNat (rd x0_1 x2_1)):=⟨_,rfl⟩
  replace H :(slices_Reverse_int_int.l0 k1 y116 (wrap64 (x2_1 + 1)) (wrap64 (x3_1 - 1))) = some r:=by first |(rw [hy116];with_reducible exact H) |(have H2_:=(Option.bind_some _ _).symm.trans H;rw [hy116];with_reducible exact H2_) |(have H2_:=(Option.bind_some _ _).symm.trans H;with_reducible exact H2_) | with_reducible exact H |(rw [hy116];exact H) | exact H
  have Ny116:=Aside0.mk hy116
  clear hy116
  have H':=Aside0.mk H
  clear H
  try go_wp2
  have n0_:=Aside0.mk (Kd.R_drew HO_0.out)
  have n1_:=Aside0.mk (Kept.drew HK.out)
  have n2_:=Aside0.mk (bw1 HB.out)
  clear HO_0
  clear HK
  clear HB
  have HO_0:=n0_
  have HK:=n1_
  have HB:=n2_
  clear n0_ n1_ n2_
  have p113 : 0 ≤(x3_1 : Int):=of_decide_eq_true (by first |(with_reducible assumption) | assumption)
  have q113 : x3_1 < (x0_1.length : Int):=of_decide_eq_true (by first |(with_reducible assumption) | assumption)
  obtain ⟨ad113,e113,hx113_0⟩:=Kd.at_int (Kd.R_reads' HO_0.out).2.2 x3_1 p113 q113
  cases e113
  replace p113:=eq_true p113
  replace q113:=eq_true q113
  have p114 : 0 ≤(x2_1 : Int):=of_decide_eq_true (by first |(with_reducible assumption) | assumption)
  have q114 : x2_1 < (x0_1.length : Int):=of_decide_eq_true (by first |(with_reducible assumption) | assumption)
  obtain ⟨ad114,e114,hx114_0⟩:=Kd.at_int (Kd.R_reads' HO_0.out).2.2 x2_1 p114 q114
  obtain rfl : ad113 = ad114:=(by injection e114)
  replace p114:=eq_true p114
  replace q114:=eq_true q114
  have p8 : 0 ≤(x2_1 : Int):=of_decide_eq_true (by first |(with_reducible assumption) | assumption)
  have q8 :(x2_1 : Int) < ((x0_1.length : Int) : Int):=of_decide_eq_true (by first |(with_reducible assumption) | assumption)
  obtain ⟨go8,co8,eo8,gb8,gl8,cl8,HG8⟩:=Kd.R_form HO_0.out (by omega)
  (first | cases eo8 |(injection eo8 with ea_ en_ ec_;(first | subst ea_ |(injection ea_ with ea_;subst ea_));subst ec_;clear en_))
  have GB8:=Aside0.mk gb8
  have GG8:=Aside0.mk HG8
  clear gb8 gl8 HG8
  have HMgo8:=Aside0.mk (show(P0_ go8∨w.heap.size≤go8) from(HO_0.out.1 _ rfl))
  (first | simp only [add_plain] at hx113_0 | skip)
  (first | simp only [add_plain] at hx114_0 | skip)
  obtain ⟨hx8_0,hf8_0⟩:=Kd.R_celln 0 HO_0.out (x2_1 : Int) p8 q8
  replace p8:=eq_true p8
  replace q8:=eq_true q8
  have HP11:=Kd.R_putn HO_0.out (x2_1 : Int) (rd x0_1 x3_1)
  rw [← Ny115.out] at HP11
  have HQ11:=Aside0.mk HP11
  clear HP11
  have p9 : 0 ≤(x3_1 : Int):=of_decide_eq_true (by first |(with_reducible assumption) | assumption)
  have q9 :(x3_1 : Int) < ((x0_1.length : Int) : Int):=of_decide_eq_true (by first |(with_reducible assumption) | assumption)
  obtain ⟨hx9_0,hf9_0⟩:=Kd.R_celln 0 HQ11.out (x3_1 : Int) p9 q9
  replace p9:=eq_true p9
  replace q9:=eq_true q9
  have HP12:=Kd.R_putn HQ11.out (x3_1 : Int) (rd x0_1 x2_1)
  rw [← Ny116.out] at HP12
  have HQ12:=Aside0.mk HP12
  clear HP12
  refine start_ (n:=16) (S:=fun w'=>w'.cell? ⟨go8,(x3_1).toNat,none⟩ = some (.int .i64 (rd x0_1 x3_1))∧w'.cell? ⟨go8,(x2_1).toNat,none⟩ = some (.int .i64 (rd x0_1 x2_1))) (ds:=[13,15]) #[false,false,false,false,false,false,false,false,false,false,false,false,false,false,false,false] (by kernel_rfl) rfl rfl ⟨hx113_0,hx114_0⟩ (fun hHeld=>?_);refine with_tabW slices_Reverse_int_int.tab3 slices_Reverse_int_int.bits3 (fun HT_ HW_=>?_)
  generalize wr.drew = w10 at HO_0 HK HB GG8 HQ11 HQ12 hf8_0 hf9_0 hx113_0 hx114_0 hx8_0 hx9_0 hHeld ⊢
  refine pure_ (i:=0) (N:=some 14) (v:=?_) (a':=?_) #[true,false,false,false,false,false,false,false,false,false,false,false,false,false,false,false] rfl rfl (any_of HT_.out (by kernel_rfl)) (fun _ _ _ h=>h) (Or.inl ⟨by rfl,?_⟩) ?_ ?_
  rotate_left
  ·intro w'
   go_simp
   with_reducible rfl
  rotate_left
  ·simp only [Act.put, List.setIfInBounds_toArray, List.set_cons_zero, List.set_cons_succ, i64_w, i32_w]
   rfl
  refine pure_ (i:=1) (N:=some 15) (v:=?_) (a':=?_) #[true,true,false,false,false,false,false,false,false,false,false,false,false,false,false,false] rfl rfl (any_of HT_.out (by kernel_rfl)) (fun _ _ _ h=>h) (Or.inl ⟨by rfl,?_⟩) ?_ ?_
  rotate_left
  ·intro w'
   go_simp
   with_reducible rfl
  rotate_left
  ·simp only [Act.put, List.setIfInBounds_toArray, List.set_cons_zero, List.set_cons_succ, i64_w, i32_w]
   rfl
  refine pure_ (i:=2) (N:=some 16) (v:=?_) (a':=?_) #[true,true,true,false,false,false,false,false,false,false,false,false,false,false,false,false] rfl rfl (any_of HT_.out (by kernel_rfl)) (fun _ _ _ h=>h) (Or.inl ⟨by rfl,?_⟩) ?_ ?_
  rotate_left
  ·intro w'
   go_simp
   with_reducible rfl
  rotate_left
  ·simp only [Act.put, List.setIfInBounds_toArray, List.set_cons_zero, List.set_cons_succ, i64_w, i32_w]
   rfl
  refine pure_ (i:=3) (N:=some 17) (v:=?_) (a':=?_) #[true,true,true,true,false,false,false,false,false,false,false,false,false,false,false,false] rfl rfl (any_of HT_.out (by kernel_rfl)) (fun _ _ _ h=>h) (Or.inl ⟨by rfl,?_⟩) ?_ ?_
  rotate_left
  ·intro w'
   go_simp
   with_reducible rfl
  rotate_left
  ·simp only [Act.put, List.setIfInBounds_toArray, List.set_cons_zero, List.set_cons_succ, i64_w, i32_w]
   rfl
  refine pure_ (i:=4) (N:=some 18) (v:=?_) (a':=?_) #[true,true,true,true,true,false,false,false,false,false,false,false,false,false,false,false] rfl rfl (any_of HT_.out (by kernel_rfl)) (fun _ _ _ h=>h) (Or.inl ⟨by rfl,?_⟩) ?_ ?_
  rotate_left
  ·intro w'
   go_simp
   with_reducible rfl
  rotate_left
  ·simp only [Act.put, List.setIfInBounds_toArray, List.set_cons_zero, List.set_cons_succ, i64_w, i32_w]
   rfl
  refine pure_ (i:=5) (N:=some 19) (v:=?_) (a':=?_) #[true,true,true,true,true,true,false,false,false,false,false,false,false,false,false,false] rfl rfl (any_of HT_.out (by kernel_rfl)) (fun _ _ _ h=>h) (Or.inl ⟨by rfl,?_⟩) ?_ ?_
  rotate_left
  ·intro w'
   go_simp
   with_reducible rfl
  rotate_left
  ·simp only [Act.put, List.setIfInBounds_toArray, List.set_cons_zero, List.set_cons_succ, i64_w, i32_w]
   rfl
  refine pure_ (i:=6) (N:=some 20) (v:=?_) (a':=?_) #[true,true,true,true,true,true,true,false,false,false,false,false,false,false,false,false] rfl rfl (any_of HT_.out (by kernel_rfl)) (fun _ _ _ h=>h) (Or.inl ⟨by rfl,?_⟩) ?_ ?_
  rotate_left
  ·intro w'
   go_simp
   with_reducible rfl
  rotate_left
  ·simp only [Act.put, List.setIfInBounds_toArray, List.set_cons_zero, List.set_cons_succ, i64_w, i32_w]
   rfl
  refine pure_ (i:=8) (N:=some 22) (v:=?_) (a':=?_) #[true,true,true,true,true,true,true,false,true,false,false,false,false,false,false,false] rfl rfl (any_of HT_.out (by kernel_rfl)) (fun _ _ _ h=>h) (Or.inl ⟨by rfl,?_⟩) ?_ ?_
  rotate_left
  ·intro w'
   go_simp
   with_reducible rfl
  rotate_left
  ·simp only [Act.put, List.setIfInBounds_toArray, List.set_cons_zero, List.set_cons_succ, i64_w, i32_w]
   rfl
  refine pure_ (i:=9) (N:=some 23) (v:=?_) (a':=?_) #[true,true,true,true,true,true,true,false,true,true,false,false,false,false,false,false] rfl rfl (any_of HT_.out (by kernel_rfl)) (fun _ _ _ h=>h) (Or.inl ⟨by rfl,?_⟩) ?_ ?_
  rotate_left
  ·intro w'
   go_simp
   with_reducible rfl
  rotate_left
  ·simp only [Act.put, List.setIfInBounds_toArray, List.set_cons_zero, List.set_cons_succ, i64_w, i32_w]
   rfl
  refine pure_ (i:=10) (N:=some 24) (v:=?_) (a':=?_) #[true,true,true,true,true,true,true,false,true,true,true,false,false,false,false,false] rfl rfl (any_of HT_.out (by kernel_rfl)) (fun _ _ _ h=>h) (Or.inl ⟨by rfl,?_⟩) ?_ ?_
  rotate_left
  ·intro w'
   go_simp
   with_reducible rfl
  rotate_left
  ·simp only [Act.put, List.setIfInBounds_toArray, List.set_cons_zero, List.set_cons_succ, i64_w, i32_w]
   rfl
  refine take_ (i:=7) (N:=some 21) (v:=?_) (a':=?_) #[true,true,true,true,true,true,true,true,true,true,true,false,false,false,false,false] rfl rfl (take_ofW HT_.out HW_.out (by kernel_rfl)) (fun _ _ _ h=>h) (Or.inl ⟨by rfl,?_⟩) hHeld ?_ ?_
  rotate_left
  ·rintro w' ⟨s0, s1⟩
   go_simp
   with_reducible rfl
  rotate_left
  ·simp only [Act.put, List.setIfInBounds_toArray, List.set_cons_zero, List.set_cons_succ, i64_w, i32_w]
   rfl
  refine take_ (i:=11) (N:=some 25) (v:=?_) (a':=?_) #[true,true,true,true,true,true,true,true,true,true,true,true,false,false,false,false] rfl rfl (take_ofW HT_.out HW_.out (by kernel_rfl)) (fun _ _ _ h=>h) (Or.inl ⟨by rfl,?_⟩) hHeld ?_ ?_
  rotate_left
  ·rintro w' ⟨s0, s1⟩
   go_simp
   with_reducible rfl
  rotate_left
  ·simp only [Act.put, List.setIfInBounds_toArray, List.set_cons_zero, List.set_cons_succ, i64_w, i32_w]
   rfl
  refine pure_ (i:=12) (N:=some 26) (v:=?_) (a':=?_) #[true,true,true,true,true,true,true,true,true,true,true,true,true,false,false,false] rfl rfl (any_of HT_.out (by kernel_rfl)) (fun _ _ _ h=>h) (Or.inl ⟨by rfl,?_⟩) ?_ ?_
  rotate_left
  ·intro w'
   go_simp
   with_reducible rfl
  rotate_left
  ·simp only [Act.put, List.setIfInBounds_toArray, List.set_cons_zero, List.set_cons_succ, i64_w, i32_w]
   rfl
  refine last_ (i:=13) (N:=none) #[true,true,true,true,true,true,true,true,true,true,true,true,true,true,false,false] rfl rfl (one_of HT_.out (by kernel_rfl)) (by decide) (fun K hK=>?_)
  refine skip_ (w1:=?_) (by rfl) rfl ?_ ?_
  rotate_left
  ·go_simp
   rfl
  refine hK.out _ _ ?_
  clear hK K
  refine pure_ (i:=14) (N:=some 27) (v:=?_) (a':=?_) #[true,true,true,true,true,true,true,true,true,true,true,true,true,true,true,false] rfl rfl (any_of HT_.out (by kernel_rfl)) (fun _ _ _ h=>h) (Or.inl ⟨by rfl,?_⟩) ?_ ?_
  rotate_left
  ·intro w'
   go_simp
   with_reducible rfl
  rotate_left
  ·simp only [Act.put, List.setIfInBounds_toArray, List.set_cons_zero, List.set_cons_succ, i64_w, i32_w]
   rfl
  refine last_ (i:=15) (N:=none) #[true,true,true,true,true,true,true,true,true,true,true,true,true,true,true,true] rfl rfl (one_of HT_.out (by kernel_rfl)) (by decide) (fun K hK=>?_)
  refine skip_ (w1:=?_) (by rfl) rfl ?_ ?_
  rotate_left
  ·go_simp
   rfl
  refine hK.out _ _ ?_
  clear hK K
  refine done_ (done_of HT_.out (by kernel_rfl)) ?_
  try go_wp2
  (try simp only [← hl0_1])
  go_roundg k1
  case measure=>have:=HK1.out;omega
  exact⟨(y116),(wrap64 (x2_1 + 1)),(wrap64 (x3_1 - 1)),(by first | rfl |(simp;done) |(simp [*];done)),(by first | rfl |(simp;done) |(simp [*];done)),H',⟨by have:=HK1.out;omega⟩,⟨by(try simp only [hl0_1]);(with_reducible repeat(first | apply Kd.R_alloc | apply Kd.R_drewN | apply Kd.R_drew));exact HQ12.out⟩,⟨by repeat(first |(with_reducible first | exact HK.out | apply Kept.alloc | apply Kept.drewN | apply Kept.drew | refine Kept.setCell ?_ HMgo8.out _ | refine Kept.setCell ?_ HMgo8.out _) | exact HK.out)⟩,⟨by repeat(first |(with_reducible first | exact HB.out | apply bwA | apply bwN | apply bw1 | refine bwS ?_ GB8.out | refine bwS ?_ GB8.out) | exact HB.out)⟩⟩
end Go.Proofs.Ytbfhlaggllofdaa.S

namespace Go.Proofs.Ytbfhlaggllofdaa.P
open Go.RowKit Go.Proofs.Ytbfhlaggllofdaa.S Go.Proofs.YtbfhlaggllofdaaW.PrintWords Go.Proofs.YtbfhlaggllofdaaW.PrintLast Go.Proofs.YtbfhlaggllofdaaW.PrintMore
set_option linter.unusedVariables false

theorem rd_put (R : List Int) (v w x : Int) (hv : 0≤v) (hw : 0≤w) (hl : v < R.length) : rd (R.set v.toNat x) w = if v = w then x else rd R w:=by
 unfold rd
 simp only [List.getD_eq_getElem?_getD,List.getElem?_set]
 by_cases c : v = w
 rotate_left
 ·rw [if_neg (by omega),if_neg c]
 subst c
 rw [if_pos rfl,if_pos (by omega),if_pos rfl]
 rfl
theorem reverse_loop (xs : List Int) (hl : xs.length≤1000) (d : Nat) : ∀ (i : Nat) (R : List Int),2 * i + d = xs.length→R.length = xs.length →
  (∀ m : Nat,m < xs.length→rd R (m : Int) = if m < i∨xs.length - 1 - m < i then rd xs ((xs.length - 1 - m : Nat) : Int) else rd xs (m : Int))→Ev (fun k=>slices_Reverse_int_int.l0 k R (i : Int) ((xs.length : Int) - 1 - i)) xs.reverse:=by
 induction d using Nat.strongRecOn with
 | _ d ih =>
  intro i R h hR hv
  by_cases c : 2≤d
  rotate_left
  ·have hx : R = xs.reverse:=by
    apply List.ext_getElem
    ·simp [hR]
    ·intro m h1 h2
     have hm:=hv m (by omega)
     rw [rd_lt R m h1] at hm
     rw [hm,List.getElem_reverse]
     by_cases c3 : m < i∨xs.length - 1 - m < i
     ·rw [if_pos c3,rd_lt xs _ (by omega)]
     ·rw [if_neg c3, rd_lt xs m (by omega)]
      congr 1
      omega
   rw [hx] at *
   refine Ev.step (f:=fun _=>some xs.reverse) (fun k=>?_) (Ev.now _)
   simp only [slices_Reverse_int_int.l0]
   rw [if_neg (by omega)]
  obtain ⟨e,rfl⟩ : ∃ e,d = e + 2:=⟨d - 2,by omega⟩
  have w1 : wrap64 ((i : Int) + 1) =((i + 1 : Nat) : Int):=by rw [w64 (by omega) (by omega)];rfl
  have w2 : wrap64 ((xs.length : Int) - 1 - i - 1) =(xs.length : Int) - 1 - ((i + 1 : Nat) : Int):=by rw [w64 (by omega) (by omega)];omega
  have e3 :(xs.length : Int) - 1 - i =((xs.length - 1 - i : Nat) : Int):=by omega
  refine Ev.step (fun k=>?_) (ih e (by omega) (i + 1) ((R.set (i : Int).toNat (rd R ((xs.length : Int) - 1 - i))).set ((xs.length : Int) - 1 - i).toNat (rd R (i : Int))) (by omega) (by simp [hR]) (fun m hm=>?_))
  ·simp only [slices_Reverse_int_int.l0]
   rw [if_pos (by omega),if_pos (by omega),if_pos (by omega),if_pos (by omega),if_pos (by omega),w1,w2]
  rw [rd_put _ _ _ _ (by omega) (by omega) (by rw [List.length_set];omega),rd_put _ _ _ _ (by omega) (by omega) (by omega)]
  have hi:=hv i (by omega)
  rw [if_neg (by omega)] at hi
  have hj:=hv (xs.length - 1 - i) (by omega)
  rw [if_neg (by omega)] at hj
  by_cases c1 : m = xs.length - 1 - i
  ·subst c1
   rw [if_pos e3,if_pos (by omega),hi,show xs.length - 1 - (xs.length - 1 - i) = i by omega]
  rw [if_neg (by omega)]
  by_cases c2 : m = i
  ·subst c2
   rw [if_pos rfl,if_pos (by omega),e3,hj]
  rw [if_neg (by omega),hv m hm]
  by_cases c3 : m < i∨xs.length - 1 - m < i
  ·rw [if_pos c3,if_pos (by omega)]
  rw [if_neg c3,if_neg (by omega)]
theorem reverse_ev (xs : List Int) (hl : xs.length≤1000) : Ev (fun k=>slices_Reverse_int_int.f k xs) xs.reverse:=by
 have w : wrap64 ((xs.length : Int) - 1) =(xs.length : Int) - 1 - ((0 : Nat) : Int):=by rw [w64 (by omega) (by omega)];omega
 refine Ev.congr (fun k=>?_) (reverse_loop xs hl xs.length 0 xs (by omega) rfl (fun m hm=>by rw [if_neg (by omega)]))
 unfold slices_Reverse_int_int.f
 rw [w]
 rfl
end Go.Proofs.Ytbfhlaggllofdaa.P

namespace Go.Proofs.Ytbfhlaggllofdaa.S
open Go.Proofs.Ytbfhlaggllofdaa.Lib
open Go.Maps (Keyed)
open Go.RowKit Go.Proofs.YtbfhlaggllofdaaW.PrintWords Go.Proofs.YtbfhlaggllofdaaW.PrintLast Go.Proofs.YtbfhlaggllofdaaW.PrintMore
attribute [local go_sem] max2_int min2_int max_two min_two max_three min_three max_four min_four
set_option linter.unusedVariables false
set_option linter.unusedSimpArgs false

open Go Go.Proofs.Ytbfhlaggllofdaa.G Go.Proofs.Ytbfhlaggllofdaa.T Go.Proofs.Ytbfhlaggllofdaa.P Go.Proofs.Ytbfhlaggllofdaa.Rng
attribute [local go_sem] Oper.semAt_some
def turns_Choice.f (a0 a1 a2 : Int) : Option (List Int×Int):=some (if 0≤a0∧a0≤40∧0≤a1∧a1≤a0∧0≤a2∧a2≤ch a0.toNat a1.toNat - 1 then(door a0.toNat a1.toNat a2,0) else([],2))
theorem choice_w1 {w w1 : World} {k a : Int} {g : Nat} (hb : Below ((w.alloc (.cells #[.int .i64 k] 3)).alloc (.cells #[.int .i64 a] 3)).heap.size ((w.alloc (.cells #[.int .i64 k] 3)).alloc (.cells #[.int .i64 a] 3)) w1) (hg : ((w.alloc (.cells #[.int .i64 k] 3)).alloc (.cells #[.int .i64 a] 3)).heap.size ≤ g) :
  Boxed w1 w.heap.size 3 (.int .i64 k)∧Boxed w1 (w.heap.size + 1) 3 (.int .i64 a)∧w.heap.size + 2≤g∧Below w.heap.size w w1∧w.heap.size + 2≤w1.heap.size:=by
 have b0 : Boxed (w.alloc (.cells #[.int .i64 k] 3)) w.heap.size 3 (.int .i64 k):=Boxed.new _ _ _
 have b1:=Boxed.new (w.alloc (.cells #[.int .i64 k] 3)) 3 (.int .i64 a)
 rw [show(w.alloc (.cells #[.int .i64 k] 3)).heap.size = w.heap.size + 1 by simp] at b1
 have hs:=hb.size
 simp at hg hs
 exact⟨(hb.block _ (by simp;omega)).trans (b0.alloc _),(hb.block _ (by simp)).trans b1,hg,bwT (bwA (bwA (Below.refl _ _) _) _) hb,hs⟩
theorem choice_start {w w1 : World} {k a n : Int} {g : Nat} (m : Nat) (b0 : Boxed w1 w.heap.size 3 (.int .i64 k)) (b1 : Boxed w1 (w.heap.size + 1) 3 (.int .i64 a)) (hb : Below w.heap.size w w1) (hs : w.heap.size + 2 ≤ w1.heap.size) :
  LI w (w1.heap.size + 3) [(w.heap.size,3,.int .i64 k),(w.heap.size + 1,3,.int .i64 a),(w1.heap.size,67,.pointer (some ⟨g,0,none⟩)),(w1.heap.size + 1,22,.slice none 0 0)] (.slice none 0 0) [] ((((w1.alloc (.cells #[.pointer (some ⟨g,0,none⟩)] 67)).drewN m).alloc (.cells #[.slice none 0 0] 22)).alloc (.cells #[.int .i64 n] 3)):=by
 have b2 : Boxed (w1.alloc (.cells #[.pointer (some ⟨g,0,none⟩)] 67)) w1.heap.size 67 (.pointer (some ⟨g,0,none⟩)):=Boxed.new _ _ _
 have b3:=Boxed.new ((w1.alloc (.cells #[.pointer (some ⟨g,0,none⟩)] 67)).drewN m) 22 (.slice none 0 0)
 rw [show((w1.alloc (.cells #[.pointer (some ⟨g,0,none⟩)] 67)).drewN m).heap.size = w1.heap.size + 1 by simp] at b3
 refine⟨fun x hx=>?_,World.ownsRow_nil _ _ _ _,bwA (bwA (bwN (bwA hb _) _) _) _,by simp;omega⟩
 simp only [List.mem_cons,List.not_mem_nil,or_false] at hx
 rcases hx with rfl | rfl | rfl | rfl
 ·exact⟨by simp;omega,((show Boxed ((w1.alloc (.cells #[.pointer (some ⟨g,0,none⟩)] 67)).drewN m) _ _ _ from b0.alloc _).alloc _).alloc _⟩
 ·exact⟨by simp;omega,((show Boxed ((w1.alloc (.cells #[.pointer (some ⟨g,0,none⟩)] 67)).drewN m) _ _ _ from b1.alloc _).alloc _).alloc _⟩
 ·exact⟨by simp;omega,((show Boxed ((w1.alloc (.cells #[.pointer (some ⟨g,0,none⟩)] 67)).drewN m) _ _ _ from b2).alloc _).alloc _⟩
 exact⟨by simp;omega,b3.alloc _⟩
theorem choice_box (w1 : World) (o : Obj) (n : Int) (m : Nat) : Boxed ((((w1.alloc o).drewN m).alloc (.cells #[.slice none 0 0] 22)).alloc (.cells #[.int .i64 n] 3)) (w1.heap.size + 1 + 1) 3 (.int .i64 n):=by
 have:=Boxed.new (((w1.alloc o).drewN m).alloc (.cells #[.slice none 0 0] 22)) 3 (.int .i64 n)
 rwa [show(((w1.alloc o).drewN m).alloc (.cells #[.slice none 0 0] 22)).heap.size = w1.heap.size + 1 + 1 by simp] at this
theorem Tbl.of_heap {w W : World} {b n : Nat} {f : Nat→Int} (h : Tbl w b n f) (e : W.heap[b]? = w.heap[b]?) : Tbl W b n f:=by
 refine⟨fun i hi=>?_,fun i=>?_⟩
 ·have := h.1 i hi
  unfold World.cell? at this ⊢
  simp only at this ⊢
  rw [e];exact this
 have:=h.2 i
 unfold World.frozen? at this ⊢
 simp only at this ⊢
 rw [e];exact this
theorem choice_set9 {w W : World} {s n₀ g : Nat} {k a : Int} {v vv : Value} {out : List Int} (hs : w.heap.size + 2 ≤ s) (h : LI w n₀ [(w.heap.size, 3, .int .i64 k), (w.heap.size + 1, 3, .int .i64 a), (s, 67, .pointer (some ⟨g, 0, none⟩)), (s + 1, 22, v)] vv out W) (u : Value) :
  LI w n₀ [(w.heap.size,3,.int .i64 k),(w.heap.size + 1,3,.int .i64 a),(s,67,.pointer (some ⟨g,0,none⟩)),(s + 1,22,u)] vv out (W.setCell ⟨s + 1,0,none⟩ u):=by
 refine h.set (t:=22) (u0:=v) (by simp) u (fun x hx=>?_)
 simp only [List.mem_cons,List.not_mem_nil,or_false] at hx
 rcases hx with rfl | rfl | rfl | rfl
 ·exact .inr ⟨by show w.heap.size≠s + 1;omega,by simp⟩
 ·exact .inr ⟨by show w.heap.size + 1≠s + 1;omega,by simp⟩
 ·exact .inr ⟨by show s≠s + 1;omega,by simp⟩
 exact .inl ⟨rfl,rfl,rfl⟩
theorem choice_set5 {w W : World} {s n₀ g : Nat} {k a : Int} {v : Value} {out : List Int} {vv : Value} (hs : w.heap.size + 2 ≤ s) (h : LI w n₀ [(w.heap.size, 3, .int .i64 k), (w.heap.size + 1, 3, .int .i64 a), (s, 67, .pointer (some ⟨g, 0, none⟩)), (s + 1, 22, v)] vv out W) (b : Int) :
  LI w n₀ [(w.heap.size,3,.int .i64 k),(w.heap.size + 1,3,.int .i64 b),(s,67,.pointer (some ⟨g,0,none⟩)),(s + 1,22,v)] vv out (W.setCell ⟨w.heap.size + 1,0,none⟩ (.int .i64 b)):=by
 refine h.set (t:=3) (u0:=.int .i64 a) (by simp) _ (fun x hx=>?_)
 simp only [List.mem_cons,List.not_mem_nil,or_false] at hx
 rcases hx with rfl | rfl | rfl | rfl
 ·exact .inr ⟨by show w.heap.size≠w.heap.size + 1;omega,by simp⟩
 ·exact .inl ⟨rfl,rfl,rfl⟩
 ·exact .inr ⟨by show s≠w.heap.size + 1;omega,by simp⟩
 exact .inr ⟨by show s + 1≠w.heap.size + 1;omega,by simp⟩
theorem choice_set4 {w W : World} {s n₀ g : Nat} {k a : Int} {v : Value} {out : List Int} {vv : Value} (hs : w.heap.size + 2 ≤ s) (h : LI w n₀ [(w.heap.size, 3, .int .i64 k), (w.heap.size + 1, 3, .int .i64 a), (s, 67, .pointer (some ⟨g, 0, none⟩)), (s + 1, 22, v)] vv out W) (b : Int) :
  LI w n₀ [(w.heap.size,3,.int .i64 b),(w.heap.size + 1,3,.int .i64 a),(s,67,.pointer (some ⟨g,0,none⟩)),(s + 1,22,v)] vv out (W.setCell ⟨w.heap.size,0,none⟩ (.int .i64 b)):=by
 refine h.set (t:=3) (u0:=.int .i64 k) (by simp) _ (fun x hx=>?_)
 simp only [List.mem_cons,List.not_mem_nil,or_false] at hx
 rcases hx with rfl | rfl | rfl | rfl
 ·exact .inl ⟨rfl,rfl,rfl⟩
 ·exact .inr ⟨by show w.heap.size + 1≠w.heap.size;omega,by simp⟩
 ·exact .inr ⟨by show s≠w.heap.size;omega,by simp⟩
 exact .inr ⟨by show s + 1≠w.heap.size;omega,by simp⟩
theorem heap_set3 {W wa : World} {b c d j : Nat} {x y z : Value} (h : wa.heap[j]? = W.heap[j]?) (h1 : j≠b) (h2 : j≠c) (h3 : j≠d) :(((wa.setCell ⟨b,0,none⟩ x).setCell ⟨c,0,none⟩ y).setCell ⟨d,0,none⟩ z).heap[j]? = W.heap[j]? :=
 (((Below.heap_setCell _ ⟨d,0,none⟩ z _ h3).trans (Below.heap_setCell _ ⟨c,0,none⟩ y _ h2)).trans (Below.heap_setCell _ ⟨b,0,none⟩ x _ h1)).trans h
theorem choice_step {n j m k : Nat} {a : Int} {out R : List Int} (hm : n = j + 1 + m) (hn : n ≤ 40) (hk : k + 1 ≤ 40) (h : 0 ≤ a ∧ a < ch (n - j) (k + 1) ∧ out.length ≤ j) (hg : out ++ (door (n - j) (k + 1) a).reverse = R) :
  (n : Int) - (j : Int) =(m : Int) + 1 ∧((m : Int) < 41 ∧(m : Int) + 1 < 41∧0 ≤(m : Int) + 1 ∧(k : Int) + 1 < 41∧0 ≤(k : Int) + 1) ∧(m * 41 + (k + 1) < 1681 ∧(m + 1) * 41 + (k + 1) < 1681∧k + 1 < 41∧m < 41∧m + 1 < 41) ∧
  (wrap64 (m : Int) =(m : Int)∧wrap64 (k : Int) =(k : Int)∧wrap64 (ch (m + 1) (k + 1) - 1) = ch (m + 1) (k + 1) - 1∧wrap64 (ch (m + 1) (k + 1) - 1 - a) = ch (m + 1) (k + 1) - 1 - a)∧out.length≤40 ∧
  (ch m (k + 1)≤a →(0≤ch (m + 1) (k + 1) - 1 - a∧ch (m + 1) (k + 1) - 1 - a < ch (n - (j + 1)) k ∧(out ++ [(m : Int) + 1]).length≤j + 1) ∧(out ++ [(m : Int) + 1]) ++ (door (n - (j + 1)) k (ch (m + 1) (k + 1) - 1 - a)).reverse = R) ∧
  (¬ ch m (k + 1)≤a →(0≤a∧a < ch (n - (j + 1)) (k + 1)∧out.length≤j + 1)∧out ++ (door (n - (j + 1)) (k + 1) a).reverse = R):=by
 rw [show n - j = m + 1 by omega] at h hg
 rw [show n - (j + 1) = m by omega]
 have b1:=ch_le64 (n:=m + 1) (k:=k + 1) (by omega)
 have hr : R = out ++ (if a < ch m (k + 1) then door m (k + 1) a else door m k (ch (m + 1) (k + 1) - 1 - a) ++ [(m : Int) + 1]).reverse:=hg.symm
 have hs:=ch_succ m k
 obtain ⟨A,hA⟩ : ∃ P,ch (m + 1) (k + 1) = P:=⟨_,rfl⟩
 obtain ⟨B,hB⟩ : ∃ P,ch m (k + 1) = P:=⟨_,rfl⟩
 obtain ⟨C,hC⟩ : ∃ P,ch m k = P:=⟨_,rfl⟩
 rw [hA] at h b1 hr hs ⊢
 rw [hB] at hs hr ⊢
 rw [hC] at hs ⊢
 refine⟨by omega,⟨by omega,by omega,by omega,by omega,by omega⟩,⟨by omega,by omega,by omega,by omega,by omega⟩,⟨w64 (by omega) (by omega),w64 (by omega) (by omega),w64 (by omega) (by omega),w64 (by omega) (by omega)⟩,by omega,fun c=>⟨⟨by omega,by omega,by rw [List.length_append,List.length_singleton];omega⟩,?_⟩,fun c=>⟨⟨by omega,by omega,by omega⟩,?_⟩⟩
 ·rw [hr, if_neg (by omega)]
  simp
 rw [hr,if_pos (by omega)]
set_option maxHeartbeats 400000 in
set_option maxRecDepth 100000 in
theorem turns_Choice.calls (a0 a1 a2 : Int) (r1 : List Int) (r2 : Int) (w : World) (h : turns_Choice.f a0 a1 a2 = some (r1, r2)) :
  Calls Try.prog 31 #[.int .i64 a0,.int .i64 a1,.int .i64 a2] w fun e w'=>∃ v0_ : Value,e = .returned (.tuple #[v0_,.int .i64 r2])∧Kd.R (Kd.int .i64) 3 w' w.heap.size (fun _=>True) v0_ r1∧Below w.heap.size w w':=by
 replace h:=Option.some.inj h
 have HB:=Aside0.mk (Below.refl w.heap.size w)
 by_cases c0 : 0≤a0∧a0≤40
 rotate_left
 ·rw [if_neg (fun hh => c0 ⟨hh.1, hh.2.1⟩)] at h
  injection h with h1 h2
  subst h1;subst h2
  have hi1:=Aside0.mk (within_no c0)
  clear c0
  go_enter Try.func31,Try.ntmps31
  go_wp2_with (go_at_call 58;go_must (refine(choices_new _).mono ?_;rintro e w1 ⟨g,rfl,ht,hb,hg⟩;have HT:=Aside0.mk ht;have HG0:=Aside0.mk hg;have HBW:=Aside0.mk hb;clear ht hb hg))
  obtain ⟨b0,b1,hg,hbw,hs⟩:=choice_w1 HBW.out HG0.out
  have HBB:=Aside0.mk hbw
  clear b0 b1 hg hbw hs HBW HG0
  go_wp2
  refine start_ (n:=22) (S:=fun _=>True) (ds:=[]) (mk_ 0 22) (by kernel_rfl) rfl (by kernel_rfl) trivial (fun hHeld=>?_)
  iterate 1 (first
  |(refine pm_ (v:=?_) (a':=?_) rfl rfl (by kernel_rfl) (fun _ _ _ h=>h) ?_ ?_ ?_;rotate_left 2;(focus refine Or.inl ⟨by rfl,?_⟩;intro w';go_simp;with_reducible rfl);(focus simp only [List.getElem_toArray,List.getElem_cons_succ,List.getElem_cons_zero,Act.put,List.setIfInBounds_toArray,List.set_cons_zero,List.set_cons_succ,i64_w,i32_w];rfl)))
  refine om_ rfl rfl (by kernel_rfl) (by decide) (fun K hK=>?_)
  refine goes_ Try.func56 (by kernel_rfl) rfl #[.int .i64 a0,.int .i64 0,.int .i64 40] (by rfl) rfl rfl (by(try simp only [List.map_toArray,List.map_cons,List.map_nil]);first | done | rfl) ?_
  refine(turns_within.calls a0 0 40 false _ hi1.out).mono ?_
  rintro e wx ⟨rfl,⟨nd,rfl⟩⟩
  refine⟨_,rfl,?_⟩
  refine hK.out _ _ hHeld (fun hHeld=>?_)
  clear hK K
  refine norm_ (a':=?_) ?_ ?_
  rotate_left
  ·show Act.put _ (some 13) _ = _
   simp only [List.getElem_toArray,List.getElem_cons_succ,List.getElem_cons_zero,Act.put,List.setIfInBounds_toArray,List.set_cons_zero,List.set_cons_succ,i64_w,i32_w]
   rfl
  iterate 20 (first
  |(refine pm_ (v:=?_) (a':=?_) rfl rfl (by kernel_rfl) (fun _ _ _ h=>h) ?_ ?_ ?_;rotate_left 2;(focus refine Or.inl ⟨by rfl,?_⟩;intro w';go_simp;with_reducible rfl);(focus simp only [List.getElem_toArray,List.getElem_cons_succ,List.getElem_cons_zero,Act.put,List.setIfInBounds_toArray,List.set_cons_zero,List.set_cons_succ,i64_w,i32_w];rfl))
  |(refine pm_ (v:=undef) (a':=?_) rfl rfl (by kernel_rfl) (fun _ _ _ h=>h) (Or.inr ⟨by rfl,rfl⟩) ?_ ?_;rotate_left;(focus simp only [List.getElem_toArray,List.getElem_cons_succ,List.getElem_cons_zero,Act.put,List.setIfInBounds_toArray,List.set_cons_zero,List.set_cons_succ,i64_w,i32_w];rfl)))
  refine done_ (by kernel_rfl) ?_
  all_goals go_wp2
  all_goals go_ret2
  all_goals exact⟨_,rfl,Kd.R_nil _ _ _ _ _,by repeat(first |(with_reducible first | exact HBB.out | apply bwA | apply bwN | apply bw1) | exact HBB.out)⟩
 have hi1:=Aside0.mk (within_yes c0)
 obtain ⟨n,rfl⟩ : ∃ n : Nat,a0 = n:=⟨a0.toNat,by omega⟩
 have d0:=eq_true (show 0 ≤(n : Int) by omega)
 have d1:=eq_true (show(n : Int) < 41 by omega)
 have HN:=Aside0.mk (show n≤40 by omega)
 rw [show((n : Int)).toNat = n by omega] at h
 by_cases c1 : 0≤a1∧a1 ≤(n : Int)
 rotate_left
 ·rw [if_neg (fun hh => c1 ⟨hh.2.2.1, hh.2.2.2.1⟩)] at h
  injection h with h1 h2
  subst h1;subst h2
  have hi2:=Aside0.mk (within_no c1)
  clear c0 c1
  go_enter Try.func31,Try.ntmps31
  go_wp2_with (go_at_call 58;go_must (refine(choices_new _).mono ?_;rintro e w1 ⟨g,rfl,ht,hb,hg⟩;have HT:=Aside0.mk ht;have HG0:=Aside0.mk hg;have HBW:=Aside0.mk hb;clear ht hb hg))
  obtain ⟨b0,b1,hg,hbw,hs⟩:=choice_w1 HBW.out HG0.out
  have HBB:=Aside0.mk hbw
  have c4:=(b0.alloc (.cells #[.pointer (some ⟨g,0,none⟩)] 67)).cell
  clear b0 b1 hg hbw hs HBW HG0
  go_wp2
  refine start_ (n:=22) (S:=fun W'=>W'.cell? ⟨w.heap.size,0,none⟩ = some (.int .i64 a1)) (ds:=[]) (mk_ 0 22) (by kernel_rfl) rfl (by kernel_rfl) c4 (fun hHeld=>?_)
  iterate 1 (first
  |(refine pm_ (v:=?_) (a':=?_) rfl rfl (by kernel_rfl) (fun _ _ _ h=>h) ?_ ?_ ?_;rotate_left 2;(focus refine Or.inl ⟨by rfl,?_⟩;intro w';go_simp;with_reducible rfl);(focus simp only [List.getElem_toArray,List.getElem_cons_succ,List.getElem_cons_zero,Act.put,List.setIfInBounds_toArray,List.set_cons_zero,List.set_cons_succ,i64_w,i32_w];rfl)))
  refine om_ rfl rfl (by kernel_rfl) (by decide) (fun K hK=>?_)
  refine goes_ Try.func56 (by kernel_rfl) rfl #[.int .i64 (n : Int),.int .i64 0,.int .i64 40] (by rfl) rfl rfl (by(try simp only [List.map_toArray,List.map_cons,List.map_nil]);first | done | rfl) ?_
  refine(turns_within.calls (n : Int) 0 40 true _ hi1.out).mono ?_
  rintro e wx ⟨rfl,⟨nd,rfl⟩⟩
  refine⟨_,rfl,?_⟩
  refine hK.out _ _ hHeld (fun hHeld=>?_)
  clear hK K
  refine norm_ (a':=?_) ?_ ?_
  rotate_left
  ·show Act.put _ (some 13) _ = _
   simp only [List.getElem_toArray,List.getElem_cons_succ,List.getElem_cons_zero,Act.put,List.setIfInBounds_toArray,List.set_cons_zero,List.set_cons_succ,i64_w,i32_w]
   rfl
  iterate 4 (first
  |(refine pm_ (v:=?_) (a':=?_) rfl rfl (by kernel_rfl) (fun _ _ _ h=>h) ?_ ?_ ?_;rotate_left 2;(focus refine Or.inl ⟨by rfl,?_⟩;intro w';go_simp;with_reducible rfl);(focus simp only [List.getElem_toArray,List.getElem_cons_succ,List.getElem_cons_zero,Act.put,List.setIfInBounds_toArray,List.set_cons_zero,List.set_cons_succ,i64_w,i32_w];rfl))
  |(refine tm_ (v:=?_) (a':=?_) rfl rfl (by kernel_rfl) (fun _ _ _ h=>h) ?_ hHeld ?_ ?_;rotate_left 2;(focus refine Or.inl ⟨by rfl,?_⟩;intro w' s0;go_simp;with_reducible rfl);(focus simp only [List.getElem_toArray,List.getElem_cons_succ,List.getElem_cons_zero,Act.put,List.setIfInBounds_toArray,List.set_cons_zero,List.set_cons_succ,i64_w,i32_w];rfl)))
  refine om_ rfl rfl (by kernel_rfl) (by decide) (fun K hK=>?_)
  refine goes_ Try.func56 (by kernel_rfl) rfl #[.int .i64 a1,.int .i64 0,.int .i64 (n : Int)] (by rfl) rfl rfl (by(try simp only [List.map_toArray,List.map_cons,List.map_nil]);first | done | rfl) ?_
  refine(turns_within.calls a1 0 (n : Int) false _ hi2.out).mono ?_
  rintro e wx ⟨rfl,⟨nd,rfl⟩⟩
  refine⟨_,rfl,?_⟩
  refine hK.out _ _ hHeld (fun hHeld=>?_)
  clear hK K
  refine norm_ (a':=?_) ?_ ?_
  rotate_left
  ·show Act.put _ (some 18) _ = _
   simp only [List.getElem_toArray,List.getElem_cons_succ,List.getElem_cons_zero,Act.put,List.setIfInBounds_toArray,List.set_cons_zero,List.set_cons_succ,i64_w,i32_w]
   rfl
  iterate 15 (first
  |(refine pm_ (v:=?_) (a':=?_) rfl rfl (by kernel_rfl) (fun _ _ _ h=>h) ?_ ?_ ?_;rotate_left 2;(focus refine Or.inl ⟨by rfl,?_⟩;intro w';go_simp;with_reducible rfl);(focus simp only [List.getElem_toArray,List.getElem_cons_succ,List.getElem_cons_zero,Act.put,List.setIfInBounds_toArray,List.set_cons_zero,List.set_cons_succ,i64_w,i32_w];rfl))
  |(refine pm_ (v:=undef) (a':=?_) rfl rfl (by kernel_rfl) (fun _ _ _ h=>h) (Or.inr ⟨by rfl,rfl⟩) ?_ ?_;rotate_left;(focus simp only [List.getElem_toArray,List.getElem_cons_succ,List.getElem_cons_zero,Act.put,List.setIfInBounds_toArray,List.set_cons_zero,List.set_cons_succ,i64_w,i32_w];rfl)))
  refine done_ (by kernel_rfl) ?_
  all_goals go_wp2
  all_goals go_ret2
  all_goals exact⟨_,rfl,Kd.R_nil _ _ _ _ _,by repeat(first |(with_reducible first | exact HBB.out | apply bwA | apply bwN | apply bw1) | exact HBB.out)⟩
 have hi2:=Aside0.mk (within_yes c1)
 obtain ⟨k,rfl⟩ : ∃ n : Nat,a1 = n:=⟨a1.toNat,by omega⟩
 rw [show((k : Int)).toNat = k by omega] at h
 have hb:=ch_le64 (n:=n) (k:=k) (by omega)
 have d2:=eq_true (show 0 ≤(k : Int) by omega)
 have d3:=eq_true (show(k : Int) < 41 by omega)
 have HK:=Aside0.mk (show k≤n∧n * 41 + k < 1681∧k < 41∧n < 41 by omega)
 by_cases c2 : 0≤a2∧a2≤ch n k - 1
 rotate_left
 ·rw [if_neg (fun hh => c2 hh.2.2.2.2)] at h
  injection h with h1 h2
  subst h1;subst h2
  have hi3:=Aside0.mk (within_no c2)
  have WS:=Aside0.mk (show wrap64 (ch n k - 1) = ch n k - 1 from w64 (by omega) (by omega))
  clear c0 c1 c2 hb
  obtain ⟨pn,hpn⟩ : ∃ v,ch n k = v:=⟨_,rfl⟩
  have HP:=Aside0.mk hpn
  rw [hpn] at WS hi3
  have ws:=WS.out
  clear hpn
  go_enter Try.func31,Try.ntmps31
  go_wp2_with (go_at_call 58;go_must (refine(choices_new _).mono ?_;rintro e w1 ⟨g,rfl,ht,hb,hg⟩;have HT:=Aside0.mk ht;have HG0:=Aside0.mk hg;have HBW:=Aside0.mk hb;clear ht hb hg))
  obtain ⟨b0,b1,hg,hbw,hs⟩:=choice_w1 HBW.out HG0.out
  have HBB:=Aside0.mk hbw
  have c4:=(b0.alloc (.cells #[.pointer (some ⟨g,0,none⟩)] 67)).cell
  have c5:=(b1.alloc (.cells #[.pointer (some ⟨g,0,none⟩)] 67)).cell
  have c8:=(Boxed.new w1 67 (.pointer (some ⟨g,0,none⟩))).cell
  have l1:=(Tbl.below HT.out (by decide) (bwA (Below.refl _ _) (.cells #[.pointer (some ⟨g,0,none⟩)] 67))).1 (n * 41 + k) HK.out.2.1
  rw [chV_at HK.out.2.2.1 HK.out.2.2.2,HP.out] at l1
  clear b0 b1 hg hbw hs HBW HG0
  go_wp2
  refine start_ (n:=22) (S:=fun W'=>W'.cell? ⟨w.heap.size,0,none⟩ = some (.int .i64 (k : Int))∧W'.cell? ⟨w.heap.size + 1,0,none⟩ = some (.int .i64 a2)∧W'.cell? ⟨w1.heap.size,0,none⟩ = some (.pointer (some ⟨g,0,none⟩))∧W'.cell? ⟨g,n * 41 + k,none⟩ = some (.int .i64 pn)) (ds:=[]) (mk_ 0 22) (by kernel_rfl) rfl (by kernel_rfl) ⟨c4,c5,c8,l1⟩ (fun hHeld=>?_)
  iterate 1 (first
  |(refine pm_ (v:=?_) (a':=?_) rfl rfl (by kernel_rfl) (fun _ _ _ h=>h) ?_ ?_ ?_;rotate_left 2;(focus refine Or.inl ⟨by rfl,?_⟩;intro w';go_simp;with_reducible rfl);(focus simp only [List.getElem_toArray,List.getElem_cons_succ,List.getElem_cons_zero,Act.put,List.setIfInBounds_toArray,List.set_cons_zero,List.set_cons_succ,i64_w,i32_w];rfl)))
  refine om_ rfl rfl (by kernel_rfl) (by decide) (fun K hK=>?_)
  refine goes_ Try.func56 (by kernel_rfl) rfl #[.int .i64 (n : Int),.int .i64 0,.int .i64 40] (by rfl) rfl rfl (by(try simp only [List.map_toArray,List.map_cons,List.map_nil]);first | done | rfl) ?_
  refine(turns_within.calls (n : Int) 0 40 true _ hi1.out).mono ?_
  rintro e wx ⟨rfl,⟨nd,rfl⟩⟩
  refine⟨_,rfl,?_⟩
  refine hK.out _ _ hHeld (fun hHeld=>?_)
  clear hK K
  refine norm_ (a':=?_) ?_ ?_
  rotate_left
  ·show Act.put _ (some 13) _ = _
   simp only [List.getElem_toArray,List.getElem_cons_succ,List.getElem_cons_zero,Act.put,List.setIfInBounds_toArray,List.set_cons_zero,List.set_cons_succ,i64_w,i32_w]
   rfl
  iterate 4 (first
  |(refine pm_ (v:=?_) (a':=?_) rfl rfl (by kernel_rfl) (fun _ _ _ h=>h) ?_ ?_ ?_;rotate_left 2;(focus refine Or.inl ⟨by rfl,?_⟩;intro w';go_simp;with_reducible rfl);(focus simp only [List.getElem_toArray,List.getElem_cons_succ,List.getElem_cons_zero,Act.put,List.setIfInBounds_toArray,List.set_cons_zero,List.set_cons_succ,i64_w,i32_w];rfl))
  |(refine tm_ (v:=?_) (a':=?_) rfl rfl (by kernel_rfl) (fun _ _ _ h=>h) ?_ hHeld ?_ ?_;rotate_left 2;(focus refine Or.inl ⟨by rfl,?_⟩;rintro w' ⟨s0,s1,s2,s3⟩;go_simp;with_reducible rfl);(focus simp only [List.getElem_toArray,List.getElem_cons_succ,List.getElem_cons_zero,Act.put,List.setIfInBounds_toArray,List.set_cons_zero,List.set_cons_succ,i64_w,i32_w];rfl)))
  refine om_ rfl rfl (by kernel_rfl) (by decide) (fun K hK=>?_)
  refine goes_ Try.func56 (by kernel_rfl) rfl #[.int .i64 (k : Int),.int .i64 0,.int .i64 (n : Int)] (by rfl) rfl rfl (by(try simp only [List.map_toArray,List.map_cons,List.map_nil]);first | done | rfl) ?_
  refine(turns_within.calls (k : Int) 0 (n : Int) true _ hi2.out).mono ?_
  rintro e wx ⟨rfl,⟨nd,rfl⟩⟩
  refine⟨_,rfl,?_⟩
  refine hK.out _ _ hHeld (fun hHeld=>?_)
  clear hK K
  refine norm_ (a':=?_) ?_ ?_
  rotate_left
  ·show Act.put _ (some 18) _ = _
   simp only [List.getElem_toArray,List.getElem_cons_succ,List.getElem_cons_zero,Act.put,List.setIfInBounds_toArray,List.set_cons_zero,List.set_cons_succ,i64_w,i32_w]
   rfl
  iterate 12 (first
  |(refine pm_ (v:=?_) (a':=?_) rfl rfl (by kernel_rfl) (fun _ _ _ h=>h) ?_ ?_ ?_;rotate_left 2;(focus refine Or.inl ⟨by rfl,?_⟩;intro w';go_simp;with_reducible rfl);(focus simp only [List.getElem_toArray,List.getElem_cons_succ,List.getElem_cons_zero,Act.put,List.setIfInBounds_toArray,List.set_cons_zero,List.set_cons_succ,i64_w,i32_w];rfl))
  |(refine tm_ (v:=?_) (a':=?_) rfl rfl (by kernel_rfl) (fun _ _ _ h=>h) ?_ hHeld ?_ ?_;rotate_left 2;(focus refine Or.inl ⟨by rfl,?_⟩;rintro w' ⟨s0,s1,s2,s3⟩;go_simp;with_reducible rfl);(focus simp only [List.getElem_toArray,List.getElem_cons_succ,List.getElem_cons_zero,Act.put,List.setIfInBounds_toArray,List.set_cons_zero,List.set_cons_succ,i64_w,i32_w];rfl)))
  rw [ws]
  refine om_ rfl rfl (by kernel_rfl) (by decide) (fun K hK=>?_)
  refine goes_ Try.func56 (by kernel_rfl) rfl #[.int .i64 a2,.int .i64 0,.int .i64 (pn - 1)] (by rfl) rfl rfl (by(try simp only [List.map_toArray,List.map_cons,List.map_nil]);first | done | rfl) ?_
  refine(turns_within.calls a2 0 (pn - 1) false _ hi3.out).mono ?_
  rintro e wx ⟨rfl,⟨nd,rfl⟩⟩
  refine⟨_,rfl,?_⟩
  refine hK.out _ _ hHeld (fun hHeld=>?_)
  clear hK K
  refine norm_ (a':=?_) ?_ ?_
  rotate_left
  ·show Act.put _ (some 31) _ = _
   simp only [List.getElem_toArray,List.getElem_cons_succ,List.getElem_cons_zero,Act.put,List.setIfInBounds_toArray,List.set_cons_zero,List.set_cons_succ,i64_w,i32_w]
   rfl
  iterate 2 (first
  |(refine pm_ (v:=?_) (a':=?_) rfl rfl (by kernel_rfl) (fun _ _ _ h=>h) ?_ ?_ ?_;rotate_left 2;(focus refine Or.inl ⟨by rfl,?_⟩;intro w';go_simp;with_reducible rfl);(focus simp only [List.getElem_toArray,List.getElem_cons_succ,List.getElem_cons_zero,Act.put,List.setIfInBounds_toArray,List.set_cons_zero,List.set_cons_succ,i64_w,i32_w];rfl)))
  refine done_ (by kernel_rfl) ?_
  all_goals go_wp2
  all_goals go_ret2
  all_goals exact⟨_,rfl,Kd.R_nil _ _ _ _ _,by repeat(first |(with_reducible first | exact HBB.out | apply bwA | apply bwN | apply bw1) | exact HBB.out)⟩
 rw [if_pos ⟨c0.1,c0.2,c1.1,c1.2,c2⟩] at h
 injection h with h1 h2
 subst h2
 have hi3:=Aside0.mk (within_yes c2)
 have WS:=Aside0.mk (show wrap64 (ch n k - 1) = ch n k - 1 from w64 (by omega) (by omega))
 have HA:=Aside0.mk (show 0≤a2∧a2 < ch n k by omega)
 have HR:=Aside0.mk h1
 clear c0 c1 c2 hb h1
 obtain ⟨pn,hpn⟩ : ∃ v,ch n k = v:=⟨_,rfl⟩
 have HP:=Aside0.mk hpn
 rw [hpn] at WS hi3
 have ws:=WS.out
 clear hpn
 refine calls_marks Try.func31 rfl ?_
 simp only [Try.ntmps31,List.size_toArray,List.length_cons,List.length_nil,Nat.reduceAdd,Nat.reduceSub,Array.replicate_succ,Array.replicate_zero,List.push_toArray,List.append_toArray,List.nil_append,List.cons_append]
 go_wp2_with (go_at_call 58;go_must (refine(choices_new _).mono ?_;rintro e w1 ⟨g,rfl,ht,hb,hg⟩;have HT:=Aside0.mk ht;have HG0:=Aside0.mk hg;have HBW:=Aside0.mk hb;clear ht hb hg))
 obtain ⟨b0,b1,hg,hbw,hs⟩:=choice_w1 HBW.out HG0.out
 have B0:=Aside0.mk b0
 have B1:=Aside0.mk b1
 have HGG:=Aside0.mk hg
 have HBB:=Aside0.mk hbw
 have HS1:=Aside0.mk hs
 have HGL:=Aside0.mk (World.block_lt_of_cell? w1 _ (HT.out.1 0 (by decide)))
 have c4:=(b0.alloc (.cells #[.pointer (some ⟨g,0,none⟩)] 67)).cell
 have c5:=(b1.alloc (.cells #[.pointer (some ⟨g,0,none⟩)] 67)).cell
 have c8:=(Boxed.new w1 67 (.pointer (some ⟨g,0,none⟩))).cell
 have l1:=(Tbl.below HT.out (by decide) (bwA (Below.refl _ _) (.cells #[.pointer (some ⟨g,0,none⟩)] 67))).1 (n * 41 + k) HK.out.2.1
 rw [chV_at HK.out.2.2.1 HK.out.2.2.2,HP.out] at l1
 clear b0 b1 hg hbw hs HBW HG0
 go_wp2
 refine start_ (n:=22) (S:=fun W'=>W'.cell? ⟨w.heap.size,0,none⟩ = some (.int .i64 (k : Int))∧W'.cell? ⟨w.heap.size + 1,0,none⟩ = some (.int .i64 a2)∧W'.cell? ⟨w1.heap.size,0,none⟩ = some (.pointer (some ⟨g,0,none⟩))∧W'.cell? ⟨g,n * 41 + k,none⟩ = some (.int .i64 pn)) (ds:=[]) (mk_ 0 22) (by kernel_rfl) rfl (by kernel_rfl) ⟨c4,c5,c8,l1⟩ (fun hHeld=>?_)
 iterate 1 (first
 |(refine pm_ (v:=?_) (a':=?_) rfl rfl (by kernel_rfl) (fun _ _ _ h=>h) ?_ ?_ ?_;rotate_left 2;(focus refine Or.inl ⟨by rfl,?_⟩;intro w';go_simp;with_reducible rfl);(focus simp only [List.getElem_toArray,List.getElem_cons_succ,List.getElem_cons_zero,Act.put,List.setIfInBounds_toArray,List.set_cons_zero,List.set_cons_succ,i64_w,i32_w];rfl))
 |(refine tm_ (v:=?_) (a':=?_) rfl rfl (by kernel_rfl) (fun _ _ _ h=>h) ?_ hHeld ?_ ?_;rotate_left 2;(focus refine Or.inl ⟨by rfl,?_⟩;rintro w' ⟨s0,s1,s2,s3⟩;go_simp;with_reducible rfl);(focus simp only [List.getElem_toArray,List.getElem_cons_succ,List.getElem_cons_zero,Act.put,List.setIfInBounds_toArray,List.set_cons_zero,List.set_cons_succ,i64_w,i32_w];rfl)))
 refine om_ rfl rfl (by kernel_rfl) (by decide) (fun K hK=>?_)
 refine goes_ Try.func56 (by kernel_rfl) rfl #[.int .i64 (n : Int),.int .i64 0,.int .i64 40] (by rfl) rfl rfl (by(try simp only [List.map_toArray,List.map_cons,List.map_nil]);first | done | rfl) ?_
 refine(turns_within.calls (n : Int) 0 40 true _ hi1.out).mono ?_
 rintro e wx ⟨rfl,⟨nd,rfl⟩⟩
 refine⟨_,rfl,?_⟩
 refine hK.out _ _ hHeld (fun hHeld=>?_)
 clear hK K
 refine norm_ (a':=?_) ?_ ?_
 rotate_left
 ·show Act.put _ (some 13) _ = _
  simp only [List.getElem_toArray,List.getElem_cons_succ,List.getElem_cons_zero,Act.put,List.setIfInBounds_toArray,List.set_cons_zero,List.set_cons_succ,i64_w,i32_w]
  rfl
 iterate 4 (first
 |(refine pm_ (v:=?_) (a':=?_) rfl rfl (by kernel_rfl) (fun _ _ _ h=>h) ?_ ?_ ?_;rotate_left 2;(focus refine Or.inl ⟨by rfl,?_⟩;intro w';go_simp;with_reducible rfl);(focus simp only [List.getElem_toArray,List.getElem_cons_succ,List.getElem_cons_zero,Act.put,List.setIfInBounds_toArray,List.set_cons_zero,List.set_cons_succ,i64_w,i32_w];rfl))
 |(refine tm_ (v:=?_) (a':=?_) rfl rfl (by kernel_rfl) (fun _ _ _ h=>h) ?_ hHeld ?_ ?_;rotate_left 2;(focus refine Or.inl ⟨by rfl,?_⟩;rintro w' ⟨s0,s1,s2,s3⟩;go_simp;with_reducible rfl);(focus simp only [List.getElem_toArray,List.getElem_cons_succ,List.getElem_cons_zero,Act.put,List.setIfInBounds_toArray,List.set_cons_zero,List.set_cons_succ,i64_w,i32_w];rfl)))
 refine om_ rfl rfl (by kernel_rfl) (by decide) (fun K hK=>?_)
 refine goes_ Try.func56 (by kernel_rfl) rfl #[.int .i64 (k : Int),.int .i64 0,.int .i64 (n : Int)] (by rfl) rfl rfl (by(try simp only [List.map_toArray,List.map_cons,List.map_nil]);first | done | rfl) ?_
 refine(turns_within.calls (k : Int) 0 (n : Int) true _ hi2.out).mono ?_
 rintro e wx ⟨rfl,⟨nd,rfl⟩⟩
 refine⟨_,rfl,?_⟩
 refine hK.out _ _ hHeld (fun hHeld=>?_)
 clear hK K
 refine norm_ (a':=?_) ?_ ?_
 rotate_left
 ·show Act.put _ (some 18) _ = _
  simp only [List.getElem_toArray,List.getElem_cons_succ,List.getElem_cons_zero,Act.put,List.setIfInBounds_toArray,List.set_cons_zero,List.set_cons_succ,i64_w,i32_w]
  rfl
 iterate 12 (first
 |(refine pm_ (v:=?_) (a':=?_) rfl rfl (by kernel_rfl) (fun _ _ _ h=>h) ?_ ?_ ?_;rotate_left 2;(focus refine Or.inl ⟨by rfl,?_⟩;intro w';go_simp;with_reducible rfl);(focus simp only [List.getElem_toArray,List.getElem_cons_succ,List.getElem_cons_zero,Act.put,List.setIfInBounds_toArray,List.set_cons_zero,List.set_cons_succ,i64_w,i32_w];rfl))
 |(refine tm_ (v:=?_) (a':=?_) rfl rfl (by kernel_rfl) (fun _ _ _ h=>h) ?_ hHeld ?_ ?_;rotate_left 2;(focus refine Or.inl ⟨by rfl,?_⟩;rintro w' ⟨s0,s1,s2,s3⟩;go_simp;with_reducible rfl);(focus simp only [List.getElem_toArray,List.getElem_cons_succ,List.getElem_cons_zero,Act.put,List.setIfInBounds_toArray,List.set_cons_zero,List.set_cons_succ,i64_w,i32_w];rfl)))
 rw [ws]
 refine om_ rfl rfl (by kernel_rfl) (by decide) (fun K hK=>?_)
 refine goes_ Try.func56 (by kernel_rfl) rfl #[.int .i64 a2,.int .i64 0,.int .i64 (pn - 1)] (by rfl) rfl rfl (by(try simp only [List.map_toArray,List.map_cons,List.map_nil]);first | done | rfl) ?_
 refine(turns_within.calls a2 0 (pn - 1) true _ hi3.out).mono ?_
 rintro e wx ⟨rfl,⟨nd,rfl⟩⟩
 refine⟨_,rfl,?_⟩
 refine hK.out _ _ hHeld (fun hHeld=>?_)
 clear hK K
 refine norm_ (a':=?_) ?_ ?_
 rotate_left
 ·show Act.put _ (some 31) _ = _
  simp only [List.getElem_toArray,List.getElem_cons_succ,List.getElem_cons_zero,Act.put,List.setIfInBounds_toArray,List.set_cons_zero,List.set_cons_succ,i64_w,i32_w]
  rfl
 iterate 2 (first
 |(refine pm_ (v:=?_) (a':=?_) rfl rfl (by kernel_rfl) (fun _ _ _ h=>h) ?_ ?_ ?_;rotate_left 2;(focus refine Or.inl ⟨by rfl,?_⟩;intro w';go_simp;with_reducible rfl);(focus simp only [List.getElem_toArray,List.getElem_cons_succ,List.getElem_cons_zero,Act.put,List.setIfInBounds_toArray,List.set_cons_zero,List.set_cons_succ,i64_w,i32_w];rfl))
 |(refine tm_ (v:=?_) (a':=?_) rfl rfl (by kernel_rfl) (fun _ _ _ h=>h) ?_ hHeld ?_ ?_;rotate_left 2;(focus refine Or.inl ⟨by rfl,?_⟩;rintro w' ⟨s0,s1,s2,s3⟩;go_simp;with_reducible rfl);(focus simp only [List.getElem_toArray,List.getElem_cons_succ,List.getElem_cons_zero,Act.put,List.setIfInBounds_toArray,List.set_cons_zero,List.set_cons_succ,i64_w,i32_w];rfl)))
 refine done_ (by kernel_rfl) ?_
 clear c4 c5 c8 l1 hHeld
 go_wp2_with (go_at_call 60;go_must (refine(down_calls _ (n : Int)).mono ?_;rintro e w' ⟨rfl,rfl⟩))
 refine(wpIn_wide (n:=9)).1 ?_
 refine wpIn_rangeFunc_box (F := Fence.wide) (n := 9) rfl (by omega) (gf := 71) (B := w1.heap.size + 1 + 1) (N := n) (x := fun j => .int .i64 ((n : Int) - j)) (v0 := .int .i64 n) rfl trivial (enters_of Try.func71 (by kernel_rfl) rfl) (down_seq _ _ trivial rfl (by omega) _ n (by have := HN.out; omega)) ?hB (choice_box _ _ _ _).cell (choice_box _ _ _ _).frozen
  (fun j W=>∃ (k : Nat) (a : Int) (out : List Int) (v : Value),LI w (w1.heap.size + 3) [(w.heap.size,3,.int .i64 (k : Int)),(w.heap.size + 1,3,.int .i64 a),(w1.heap.size,67,.pointer (some ⟨g,0,none⟩)),(w1.heap.size + 1,22,v)] v out W∧Aside0 (W.heap[g]? = w1.heap[g]?)∧Aside0 (k≤40)∧Aside0 (0≤a∧a < ch (n - j) k∧out.length≤j)∧Aside0 (out ++ (door (n - j) k a).reverse = r1.reverse))
  (fun c W=>∃ (k : Nat) (a : Int) (out : List Int) (v : Value),LI w (w1.heap.size + 3) [(w.heap.size,3,.int .i64 (k : Int)),(w.heap.size + 1,3,.int .i64 a),(w1.heap.size,67,.pointer (some ⟨g,0,none⟩)),(w1.heap.size + 1,22,v)] v out W∧Aside0 (out.length≤40)∧Aside0 (out = r1.reverse)∧c = .exit 0) ?hIb ?hIp ?hXp ?h0
  (fun j=>{ tmps:=#[.int .i64 n,.int .i64 k,.int .i64 a2,undef,.pointer (some ⟨w.heap.size,0,none⟩),.pointer (some ⟨w.heap.size + 1,0,none⟩),.slice none 0 0,.int .i64 0,.pointer (some ⟨w1.heap.size,0,none⟩),.pointer (some ⟨w1.heap.size + 1,0,none⟩),.int .i64 ((n : Int) - j),.pointer (some ⟨g,0,none⟩),.int .i64 n,.bool true,.bool false,.bool false,.int .i64 k,.int .i64 n,.bool true,.bool false,.bool false,.bool false,.int .i64 a2,.pointer (some ⟨g,0,none⟩),.int .i64 n,.int .i64 k,.pointer (some ⟨g,0,none⟩),.pointer (some ⟨g,n * 41,none⟩),.pointer (some ⟨g,n * 41 + k,none⟩),.int .i64 pn,.int .i64 (pn - 1),.bool true,.bool false,.bool false,.int .i64 n,.func (.func 71) #[] #[.pointer (some (cellOf (w1.heap.size + 1 + 1)))],.int .i64 ((n : Int) - j),undef,undef,undef,undef,undef,undef,undef,undef,undef,undef,undef,undef,undef,undef,undef,undef,undef,undef,undef,undef,undef,undef,undef,undef,undef,undef,undef,undef,undef,undef,undef],defers:=[] }) ?assign ?body ?done ?stop
 case hB=>simp
 case hIb =>
  rintro j W u ⟨k,a,out,v,h,h1,h2⟩
  exact⟨k,a,out,v,h.far (by have:=HS1.out;omega) (by have:=HS1.out;simp;omega) u,⟨(Below.heap_setCell _ (cellOf (w1.heap.size + 1 + 1)) u g (by have:=HGL.out;show g≠w1.heap.size + 1 + 1;omega)).trans h1.out⟩,h2⟩
 case hIp =>
  rintro j W l o o' hl ho hc ⟨k,a,out,v,h,h1,h2⟩
  have hl' : w1.heap.size + 3≤l:=by simp at hl;omega
  exact⟨k,a,out,v,h.put o' hl' ho hc,⟨(World.putObj_heap_other (by have:=HGL.out;omega)).trans h1.out⟩,h2⟩
 case hXp =>
  rintro c W l o o' hl ho hc ⟨k,a,out,v,h,h1⟩
  exact⟨k,a,out,v,h.put o' (by simp at hl;omega) ho hc,h1⟩
 case h0 =>
  intro o o'
  have hgl:=HGL.out
  refine⟨k,a2,[],_,((choice_start _ B0.out B1.out HBB.out HS1.out).alloc _).alloc _,⟨?_⟩,⟨by have:=HK.out;have:=HN.out;omega⟩,⟨by have:=HA.out;rw [Nat.sub_zero];exact⟨this.1,this.2,Nat.le_refl _⟩⟩,⟨by rw [Nat.sub_zero,HR.out];rfl⟩⟩
  rw [Below.heap_alloc _ _ _ (by simp;omega),Below.heap_alloc _ _ _ (by simp;omega),Below.heap_alloc _ _ _ (by simp;omega),Below.heap_alloc _ _ _ (by simp;omega)]
  exact Below.heap_alloc _ _ _ hgl
 case assign =>
  intro l j W K hK
  gi_wp2
  exact hK
 case body =>
  rintro l j W u hj hl hcB hfB ⟨k',a,out,v,hL,HTB,HK40,HJ,HG⟩
  obtain ⟨m,hm⟩ : ∃ m,n = j + 1 + m:=⟨n - j - 1,by omega⟩
  have m0:=eq_true (show 0 ≤(m : Int) by omega)
  have hc4:=(hL.box (w.heap.size,3,.int .i64 (k' : Int)) (by simp)).2.cell
  have hf4:=(hL.box (w.heap.size,3,.int .i64 (k' : Int)) (by simp)).2.frozen
  have hc5:=(hL.box (w.heap.size + 1,3,.int .i64 a) (by simp)).2.cell
  have hf5:=(hL.box (w.heap.size + 1,3,.int .i64 a) (by simp)).2.frozen
  have hc8:=(hL.box (w1.heap.size,67,.pointer (some ⟨g,0,none⟩)) (by simp)).2.cell
  have hc9:=(hL.box (w1.heap.size + 1,22,v) (by simp)).2.cell
  have hf9:=(hL.box (w1.heap.size + 1,22,v) (by simp)).2.frozen
  cases k' with
  | zero =>
   have kb :(((0 : Nat) : Int) == 0) = true:=rfl
   have HX:=Aside0.mk (show out.length≤40 by have:=HJ.out;have:=HN.out;omega)
   have HG1:=Aside0.mk (show out = r1.reverse by
    have:=HG.out
    rw [show n - j = m + 1 by omega] at this
    simpa [door] using this)
   clear hm hj hl m0 HJ HG
   gi_wp2
   (first | exact⟨KeepsFrom.refl _ _,0,a,out,⟨v,hL⟩,HX,HG1⟩ | exact⟨KeepsFrom.refl _ _,0,a,out,⟨v,hL⟩,HX,HG1,rfl⟩ | exact⟨KeepsFrom.refl _ _,⟨0,a,out,⟨v,hL⟩,HX,HG1⟩⟩)
  | succ k' =>
   obtain ⟨e1,⟨p1,p2,p3,p4,p5⟩,⟨i1,i2,i3,i4,i5⟩,⟨wx,wk,s1,s2⟩,ho,yes,no⟩:=choice_step hm HN.out HK40.out HJ.out HG.out
   have kb :(((k' + 1 : Nat) : Int) == 0) = false:=by simp;omega
   have kb2 :((k' : Int) + 1 == 0) = false:=by simp;omega
   have q1:=eq_true p1
   have q2:=eq_true p2
   have q3:=eq_true p3
   have q4:=eq_true p4
   have q5:=eq_true p5
   have HTW:=Aside0.mk (Tbl.of_heap HT.out HTB.out)
   have l1:=HTW.out.1 (m * 41 + (k' + 1)) i1
   have l2:=HTW.out.1 ((m + 1) * 41 + (k' + 1)) i2
   rw [chV_at i3 i4] at l1
   rw [chV_at i3 i5] at l2
   simp only [e1]
   by_cases c : ch m (k' + 1)≤a
   rotate_left
   ·have cb : decide (ch m (k' + 1) ≤ a) = false := decide_eq_false c
    obtain ⟨j1,g1⟩:=no c
    have HJ1:=Aside0.mk j1
    have HG1:=Aside0.mk g1
    clear yes no j1 g1 ho c e1 hm hj hl HJ HG p1 p2 p3 p4 p5 i1 i2 i3 i4 i5 s1 s2
    obtain ⟨pm,hpm⟩ : ∃ v,ch m (k' + 1) = v:=⟨_,rfl⟩
    rw [hpm] at cb l1
    clear hpm
    gi_wp2
    refine wpIn_join (A:=?A2) (W:=W.drew) ?h5 ?h6
    case h5 =>
     refine start_round (n:=10) (S:=fun W'=>W'.cell? ⟨w.heap.size,0,none⟩ = some (.int .i64 ((k' : Int) + 1))∧W'.cell? ⟨w.heap.size + 1,0,none⟩ = some (.int .i64 a)∧W'.cell? ⟨w1.heap.size,0,none⟩ = some (.pointer (some ⟨g,0,none⟩))∧W'.cell? ⟨g,m * 41 + (k' + 1),none⟩ = some (.int .i64 pm)) (ds:=[]) (mk_ 0 10) (by kernel_rfl) (by kernel_rfl) rfl (by kernel_rfl) ⟨hc4,hc5,hc8,l1⟩ (fun hHeld=>?_)
     iterate 10 (first
     |(refine pm_ (v:=?_) (a':=?_) rfl rfl (by kernel_rfl) (fun _ _ _ h=>h) ?_ ?_ ?_;rotate_left 2;(focus refine Or.inl ⟨by rfl,?_⟩;intro w';go_simp;with_reducible rfl);(focus simp only [List.getElem_toArray,List.getElem_cons_succ,List.getElem_cons_zero,Act.put,List.setIfInBounds_toArray,List.set_cons_zero,List.set_cons_succ,i64_w,i32_w];rfl))
     |(refine tm_ (v:=?_) (a':=?_) rfl rfl (by kernel_rfl) (fun _ _ _ h=>h) ?_ hHeld ?_ ?_;rotate_left 2;(focus refine Or.inl ⟨by rfl,?_⟩;rintro w' ⟨s0,s1,s2,s3⟩;go_simp;with_reducible rfl);(focus simp only [List.getElem_toArray,List.getElem_cons_succ,List.getElem_cons_zero,Act.put,List.setIfInBounds_toArray,List.set_cons_zero,List.set_cons_succ,i64_w,i32_w];rfl)))
     refine done_ (by kernel_rfl) ?_
     refine And.intro ?_ ?_ <;> rfl
    gi_wp2
    exact⟨keepsFrom_drew _ _,rfl,rfl,k' + 1,a,out,v,hL.drew,HTB,HK40,HJ1,HG1⟩
   have cb : decide (ch m (k' + 1)≤a) = true:=decide_eq_true c
   obtain ⟨j1,g1⟩:=yes c
   have HJ1:=Aside0.mk j1
   have HG1:=Aside0.mk g1
   have HO:=Aside0.mk ho
   have HK41:=Aside0.mk (show k'≤40 from Nat.le_of_succ_le HK40.out)
   have I2:=Aside0.mk i2
   have I3:=Aside0.mk i3
   have I5:=Aside0.mk i5
   clear yes no j1 g1 ho c e1 hm hj hl HJ HG p1 p2 p3 p4 p5 i1 i2 i3 i4 i5
   obtain ⟨pm,hpm⟩ : ∃ v,ch m (k' + 1) = v:=⟨_,rfl⟩
   obtain ⟨pc,hpc⟩ : ∃ v,ch (m + 1) (k' + 1) = v:=⟨_,rfl⟩
   have HPC:=Aside0.mk hpc
   rw [hpm] at cb l1
   rw [hpc] at l2 s1 s2 HJ1 HG1
   clear hpm hpc
   gi_wp2
   refine wpIn_join (A:=?A) (W:=W.drew) ?h1 ?h2
   case h1 =>
    refine start_round (n:=10) (S:=fun W'=>W'.cell? ⟨w.heap.size,0,none⟩ = some (.int .i64 ((k' : Int) + 1))∧W'.cell? ⟨w.heap.size + 1,0,none⟩ = some (.int .i64 a)∧W'.cell? ⟨w1.heap.size,0,none⟩ = some (.pointer (some ⟨g,0,none⟩))∧W'.cell? ⟨g,m * 41 + (k' + 1),none⟩ = some (.int .i64 pm)) (ds:=[]) (mk_ 0 10) (by kernel_rfl) (by kernel_rfl) rfl (by kernel_rfl) ⟨hc4,hc5,hc8,l1⟩ (fun hHeld=>?_)
    iterate 10 (first
    |(refine pm_ (v:=?_) (a':=?_) rfl rfl (by kernel_rfl) (fun _ _ _ h=>h) ?_ ?_ ?_;rotate_left 2;(focus refine Or.inl ⟨by rfl,?_⟩;intro w';go_simp;with_reducible rfl);(focus simp only [List.getElem_toArray,List.getElem_cons_succ,List.getElem_cons_zero,Act.put,List.setIfInBounds_toArray,List.set_cons_zero,List.set_cons_succ,i64_w,i32_w];rfl))
    |(refine tm_ (v:=?_) (a':=?_) rfl rfl (by kernel_rfl) (fun _ _ _ h=>h) ?_ hHeld ?_ ?_;rotate_left 2;(focus refine Or.inl ⟨by rfl,?_⟩;rintro w' ⟨s0,s1,s2,s3⟩;go_simp;with_reducible rfl);(focus simp only [List.getElem_toArray,List.getElem_cons_succ,List.getElem_cons_zero,Act.put,List.setIfInBounds_toArray,List.set_cons_zero,List.set_cons_succ,i64_w,i32_w];rfl)))
    refine done_ (by kernel_rfl) ?_
    refine And.intro ?_ ?_ <;> rfl
   obtain ⟨i0,hi,hz0,hz1,hz2⟩:=info_parts info3
   have HLL:=Aside0.mk hL
   have HSZ:=Aside0.mk (hL.alloc (.cells #[.int .i64 ((m : Int) + 1)] 3)).size.2
   gi_wp2_with (gi_at_builtin;go_must (refine wpListIn_append_own _ rfl (.tmp 49) (.tmp 51) 22 rfl (w1.heap.size + 3) 3 i0 (.int .i64 0) 1 8 Try.underlying22 hi hz0 hz1 hz2 rfl (by decide) v out.length (out.map (Value.int .i64)) rfl (HLL.out.alloc _).drew.row ⟨W.heap.size,0,none⟩ 1 1 [.int .i64 ((m : Int) + 1)] rfl rfl (cell_one_new _ _ _) (by simp [Value.oneCell']) (by have:=HO.out;unfold maxLen;omega) (by have:=HO.out;omega) HSZ.out ?_;intro v' wa hown' hgrow _;obtain ⟨g',cap',rfl⟩:=ownsRow_succ hown';obtain ⟨hL1,hK1,hKB⟩:=HLL.out.appendD (x:=(m : Int) + 1) (by simp) (by simp) hown' hgrow;have hL2:=choice_set9 HS1.out hL1 (.slice (some ⟨g',0,none⟩) (out.length + 1) cap');have hx9:=hL1.box (w1.heap.size + 1,22,v) (by simp);have k9:=hx9.2.cell;have kf9:=hx9.2.frozen;have HL2:=Aside0.mk hL2;have HK1:=Aside0.mk hK1;have HKB:=Aside0.mk hKB;clear hL1 hL2 hK1 hKB hown' hgrow hx9))
   have HTB2:=Aside0.mk (show(wa.setCell ⟨w1.heap.size + 1,0,none⟩ (.slice (some ⟨g',0,none⟩) (out.length + 1) cap')).heap[g]? = w1.heap[g]? from(Below.heap_setCell _ ⟨w1.heap.size + 1,0,none⟩ _ _ (by have:=HGL.out;show g≠w1.heap.size + 1;omega)).trans ((HKB.out g (by have:=HGL.out;omega)).trans HTB.out))
   have l2':=(Tbl.of_heap HT.out HTB2.out).1 ((m + 1) * 41 + (k' + 1)) I2.out
   rw [chV_at I3.out I5.out,HPC.out] at l2'
   have y4:=(HL2.out.box (w.heap.size,3,.int .i64 ((k' : Int) + 1)) (by simp)).2.cell
   have y5:=(HL2.out.box (w.heap.size + 1,3,.int .i64 a) (by simp)).2.cell
   have yf5:=(HL2.out.box (w.heap.size + 1,3,.int .i64 a) (by simp)).2.frozen
   have y8:=(HL2.out.box (w1.heap.size,67,.pointer (some ⟨g,0,none⟩)) (by simp)).2.cell
   refine wpIn_join (A:=?A3) (W:=?W3) ?h3 ?h4
   case h3 =>
    refine start_round (n:=11) (S:=fun W'=>W'.cell? ⟨w.heap.size,0,none⟩ = some (.int .i64 ((k' : Int) + 1))∧W'.cell? ⟨w.heap.size + 1,0,none⟩ = some (.int .i64 a)∧W'.cell? ⟨w1.heap.size,0,none⟩ = some (.pointer (some ⟨g,0,none⟩))∧W'.cell? ⟨g,(m + 1) * 41 + (k' + 1),none⟩ = some (.int .i64 pc)) (ds:=[10]) (mk_ 0 11) (by kernel_rfl) (by kernel_rfl) rfl (by kernel_rfl) ⟨y4,y5,y8,l2'⟩ (fun hHeld=>?_)
    iterate 10 (first
    |(refine pm_ (v:=?_) (a':=?_) rfl rfl (by kernel_rfl) (fun _ _ _ h=>h) ?_ ?_ ?_;rotate_left 2;(focus refine Or.inl ⟨by rfl,?_⟩;intro w';go_simp;with_reducible rfl);(focus simp only [List.getElem_toArray,List.getElem_cons_succ,List.getElem_cons_zero,Act.put,List.setIfInBounds_toArray,List.set_cons_zero,List.set_cons_succ,i64_w,i32_w];rfl))
    |(refine tm_ (v:=?_) (a':=?_) rfl rfl (by kernel_rfl) (fun _ _ _ h=>h) ?_ hHeld ?_ ?_;rotate_left 2;(focus refine Or.inl ⟨by rfl,?_⟩;rintro w' ⟨s0,s1,s2,s3⟩;go_simp;with_reducible rfl);(focus simp only [List.getElem_toArray,List.getElem_cons_succ,List.getElem_cons_zero,Act.put,List.setIfInBounds_toArray,List.set_cons_zero,List.set_cons_succ,i64_w,i32_w];rfl)))
    refine last_ (i:=10) (N:=none) (mk_ 11 0) rfl rfl (by kernel_rfl) (by decide) (fun K hK=>?_)
    have y5' :(wa.setCell ⟨w1.heap.size + 1,0,none⟩ (.slice (some ⟨g',0,none⟩) (out.length + 1) cap')).drew.cell? ⟨w.heap.size + 1,0,none⟩ = some (.int .i64 a):=y5
    have yf5' :(wa.setCell ⟨w1.heap.size + 1,0,none⟩ (.slice (some ⟨g',0,none⟩) (out.length + 1) cap')).drew.frozen? ⟨w.heap.size + 1,0,none⟩ = false:=yf5
    refine skip_ (w1:=?_) (by rfl) rfl ?_ ?_
    rotate_left
    ·go_simp
     rfl
    refine hK.out _ _ ?_
    clear hK K
    refine done_ (by kernel_rfl) ?_
    refine And.intro ?_ ?_ <;> rfl
   have HL3:=Aside0.mk (choice_set5 HS1.out HL2.out (pc - 1 - a))
   have z4:=(HL3.out.box (w.heap.size,3,.int .i64 ((k' : Int) + 1)) (by simp)).2.cell
   have zf4:=(HL3.out.box (w.heap.size,3,.int .i64 ((k' : Int) + 1)) (by simp)).2.frozen
   clear y4 y5 yf5 y8 l2'
   gi_wp2
   have hs1:=HS1.out
   have hgl:=HGL.out
   have hgg:=HGG.out
   obtain ⟨x1,x2⟩:=cellOf_eq (W:=W) (W':=(((wa.setCell ⟨w1.heap.size + 1,0,none⟩ (.slice (some ⟨g',0,none⟩) (out.length + 1) cap')).setCell ⟨w.heap.size + 1,0,none⟩ (.int .i64 (pc - 1 - a))).setCell ⟨w.heap.size,0,none⟩ (.int .i64 (k' : Int))).drew) (heap_set3 (HKB.out (w1.heap.size + 1 + 1) (by omega)) (by omega) (by omega) (by omega))
   have HTB3:=Aside0.mk (show((((wa.setCell ⟨w1.heap.size + 1,0,none⟩ (.slice (some ⟨g',0,none⟩) (out.length + 1) cap')).setCell ⟨w.heap.size + 1,0,none⟩ (.int .i64 (pc - 1 - a))).setCell ⟨w.heap.size,0,none⟩ (.int .i64 (k' : Int))).drew).heap[g]? = w1.heap[g]? from(heap_set3 (HKB.out g (by omega)) (by omega) (by omega) (by omega)).trans HTB.out)
   exact⟨((((HK1.out.trans (KeepsOthers.setCell _ _ _)).trans (KeepsOthers.setCell _ _ _)).trans (KeepsOthers.setCell _ _ _)).from _).trans (keepsFrom_drew _ _),x1,x2,k',_,_,⟨_,(choice_set4 HS1.out HL3.out (k' : Int)).drew⟩,HTB3,HK41,HJ1,HG1⟩
 case done =>
  rintro D W hD ⟨k',a,out,v,hL,HTB,HK40,HJ,HG'⟩ hK
  have HG:=Aside0.mk (show out = r1.reverse by
   have:=HG'.out
   rw [Nat.sub_self] at this
   simpa [door] using this)
  have HO:=Aside0.mk (show out.length≤40 by have:=HJ.out;have:=HN.out;omega)
  clear HTB HK40 HJ HG'
  have hlen:=HO.out
  obtain ⟨kr,hkr⟩:=(reverse_ev out (by omega)).rounds
  have HRV:=Aside0.mk hkr
  have hrr : out.reverse = r1:=by rw [HG.out,List.reverse_reverse]
  rw [hrr] at HRV
  have HTR:=Aside0.mk hL.tight
  have HBL:=Aside0.mk hL.below
  have hc9:=(hL.box (w1.heap.size + 1,22,v) (by simp)).2.cell
  have HB9:=Aside0.mk (hL.box (w1.heap.size + 1,22,v) (by simp))
  have HDD:=Aside0.mk (show w1.heap.size + 3≤D by simp at hD;omega)
  have HKD:=Aside0.mk hK
  have HGE:=Aside0.mk (fun j=>hL.row_ge (j:=j))
  have HWW:=Aside0.mk (Nat.le_trans (Nat.le_trans hL.size.1 HDD.out) (Nat.le_refl D))
  clear hL HO HG hlen hkr hrr hD hK
  go_wp2_with (go_at_call 61;go_must (refine(slices_Reverse_int_int.calls kr (fun k=>some k = v.ownBlock) v out r1 w _ HBL.out HTR.out HRV.out).mono ?_;rintro e w2 ⟨rfl,ho2,hb2,hk2⟩;have HO2:=Aside0.mk ho2;have HB2:=Aside0.mk hb2;have k9 : w2.cell? ⟨w1.heap.size + 1,0,none⟩ = some v:=(show Boxed w2 _ 22 v from(hk2.2 _ (HB9.out.2).lt (fun e=>by have:=HGE.out _ e.symm;omega)).trans HB9.out.2).cell;have HKD2:=Aside0.mk ((hk2.2 D (Array.getElem?_eq_some_iff.1 HKD.out).1 (not_row HTR.out HKD.out rfl)).trans HKD.out);clear ho2 hb2 hk2))
  refine⟨by simp,.inl ⟨_,_,rfl,run_takeDeferred HKD2.out,?_⟩⟩
  exact⟨_,results_list (rs:=[.tmp 6,.tmp 7]) rfl (by simp) (.tmp (.tmp .nil)),_,rfl,R_putD _ HO2.out HKD2.out rfl,HB2.out.grown (grownBy_putObj' _ _ _) HB2.out.size (fun k e=>by obtain rfl : D = k:=(by simpa using e);exact HWW.out)⟩
 case stop =>
  rintro D c W hD ⟨k',a,out,v,hL,HO,HG,rfl⟩ hK
  refine wpIn_wide.2 ?_
  have hlen:=HO.out
  obtain ⟨kr,hkr⟩:=(reverse_ev out (by omega)).rounds
  have HRV:=Aside0.mk hkr
  have hrr : out.reverse = r1:=by rw [HG.out,List.reverse_reverse]
  rw [hrr] at HRV
  have HTR:=Aside0.mk hL.tight
  have HBL:=Aside0.mk hL.below
  have hc9:=(hL.box (w1.heap.size + 1,22,v) (by simp)).2.cell
  have HB9:=Aside0.mk (hL.box (w1.heap.size + 1,22,v) (by simp))
  have HDD:=Aside0.mk (show w1.heap.size + 3≤D by simp at hD;omega)
  have HKD:=Aside0.mk hK
  have HGE:=Aside0.mk (fun j=>hL.row_ge (j:=j))
  have HWW:=Aside0.mk (Nat.le_trans (Nat.le_trans hL.size.1 HDD.out) (Nat.le_refl D))
  clear hL HO HG hlen hkr hrr hD hK
  go_wp2_with (go_at_call 61;go_must (refine(slices_Reverse_int_int.calls kr (fun k=>some k = v.ownBlock) v out r1 w _ HBL.out HTR.out HRV.out).mono ?_;rintro e w2 ⟨rfl,ho2,hb2,hk2⟩;have HO2:=Aside0.mk ho2;have HB2:=Aside0.mk hb2;have k9 : w2.cell? ⟨w1.heap.size + 1,0,none⟩ = some v:=(show Boxed w2 _ 22 v from(hk2.2 _ (HB9.out.2).lt (fun e=>by have:=HGE.out _ e.symm;omega)).trans HB9.out.2).cell;have HKD2:=Aside0.mk ((hk2.2 D (Array.getElem?_eq_some_iff.1 HKD.out).1 (not_row HTR.out HKD.out rfl)).trans HKD.out);clear ho2 hb2 hk2))
  refine⟨by simp,.inl ⟨_,_,rfl,run_takeDeferred HKD2.out,?_⟩⟩
  exact⟨_,results_list (rs:=[.tmp 6,.tmp 7]) rfl (by simp) (.tmp (.tmp .nil)),_,rfl,R_putD _ HO2.out HKD2.out rfl,HB2.out.grown (grownBy_putObj' _ _ _) HB2.out.size (fun k e=>by obtain rfl : D = k:=(by simpa using e);exact HWW.out)⟩

open Go Go.Proofs.Ytbfhlaggllofdaa.G Go.Proofs.Ytbfhlaggllofdaa.T Go.Proofs.Ytbfhlaggllofdaa.P Go.Proofs.Ytbfhlaggllofdaa.Rng
attribute [local go_sem] Oper.semAt_some
def turns_Set.f (a0 a1 : Int) : Option (List Int×Int):=some (if 0≤a0∧a0≤40∧0≤a1∧a1≤2 ^ a0.toNat - 1 then(gray a0.toNat a1,0) else([],2))
theorem pow40 {n : Nat} (h : n≤41) :(1 : Int)≤2 ^ n ∧(2 : Int) ^ n≤2199023255552:=by
 refine⟨pow_pos2 n,?_⟩
 have :(2 : Nat) ^ n≤2 ^ 41:=Nat.pow_le_pow_right (by decide) h
 have e :((2 ^ n : Nat) : Int) =(2 : Int) ^ n:=by simp
 rw [← e]
 have :(2 ^ n : Nat)≤2199023255552:=by simpa using this
 omega
theorem set_start (w : World) (a1 n : Int) (m : Nat) : LI w (w.heap.size + 3) [(w.heap.size,3,.int .i64 a1),(w.heap.size + 1,22,.slice none 0 0)] (.slice none 0 0) [] ((((w.alloc (.cells #[.int .i64 a1] 3)).drewN m).alloc (.cells #[.slice none 0 0] 22)).alloc (.cells #[.int .i64 n] 3)):=by
 refine⟨fun x hx=>?_,World.ownsRow_nil _ _ _ _,bwA (bwA (bwN (bwA (Below.refl _ _) _) _) _) _,by simp⟩
 have b0 : Boxed (w.alloc (.cells #[.int .i64 a1] 3)) w.heap.size 3 (.int .i64 a1):=Boxed.new _ _ _
 have b1:=Boxed.new ((w.alloc (.cells #[.int .i64 a1] 3)).drewN m) 22 (.slice none 0 0)
 rw [show((w.alloc (.cells #[.int .i64 a1] 3)).drewN m).heap.size = w.heap.size + 1 by simp] at b1
 simp only [List.mem_cons,List.not_mem_nil,or_false] at hx
 rcases hx with rfl | rfl
 ·exact⟨by simp,((show Boxed ((w.alloc (.cells #[.int .i64 a1] 3)).drewN m) _ _ _ from b0).alloc _).alloc _⟩
 exact⟨by simp,b1.alloc _⟩
theorem set_box (w : World) (a1 n : Int) (m : Nat) : Boxed ((((w.alloc (.cells #[.int .i64 a1] 3)).drewN m).alloc (.cells #[.slice none 0 0] 22)).alloc (.cells #[.int .i64 n] 3)) (w.heap.size + 1 + 1) 3 (.int .i64 n):=by
 have:=Boxed.new (((w.alloc (.cells #[.int .i64 a1] 3)).drewN m).alloc (.cells #[.slice none 0 0] 22)) 3 (.int .i64 n)
 rwa [show(((w.alloc (.cells #[.int .i64 a1] 3)).drewN m).alloc (.cells #[.slice none 0 0] 22)).heap.size = w.heap.size + 1 + 1 by simp] at this
theorem set_step {n j m : Nat} {a : Int} {out R : List Int} (hm : n = j + 1 + m) (hn : n ≤ 40) (h : 0 ≤ a ∧ a < 2 ^ (n - j) ∧ out.length ≤ j) (hg : out ++ (gray (n - j) a).reverse = R) :
  (n : Int) - (j : Int) =(m : Int) + 1 ∧(wrap64 (m : Int) =(m : Int)∧wrap64 (2 ^ m) =(2 : Int) ^ m∧wrap64 (2 ^ min m 64) =(2 : Int) ^ m∧IntKind.i64.wrap (2 ^ min m 64) =(2 : Int) ^ m∧wrap64 (2 * 2 ^ m) = 2 * (2 : Int) ^ m∧wrap64 (2 * 2 ^ m - 1) = 2 * (2 : Int) ^ m - 1∧wrap64 (2 * 2 ^ m - 1 - a) = 2 * (2 : Int) ^ m - 1 - a)∧out.length≤40 ∧
  ((2 : Int) ^ m≤a →(0≤2 * 2 ^ m - 1 - a∧2 * 2 ^ m - 1 - a < 2 ^ (n - (j + 1)) ∧(out ++ [(m : Int) + 1]).length≤j + 1) ∧(out ++ [(m : Int) + 1]) ++ (gray (n - (j + 1)) (2 * 2 ^ m - 1 - a)).reverse = R) ∧
  (¬ (2 : Int) ^ m≤a →(0≤a∧a < 2 ^ (n - (j + 1))∧out.length≤j + 1)∧out ++ (gray (n - (j + 1)) a).reverse = R):=by
 have hp:=pow40 (n:=m) (by omega)
 have h2 :(2 : Int) ^ (m + 1) = 2 * 2 ^ m:=by rw [Int.pow_succ];omega
 rw [show n - j = m + 1 by omega] at h hg
 rw [show n - (j + 1) = m by omega]
 rw [h2] at h
 have hr : R = out ++ (if a < 2 ^ m then gray m a else gray m (2 * 2 ^ m - 1 - a) ++ [(m : Int) + 1]).reverse:=hg.symm
 have hmm : min m 64 = m:=Nat.min_eq_left (by omega)
 rw [hmm]
 obtain ⟨P,hP⟩ : ∃ P,(2 : Int) ^ m = P:=⟨_,rfl⟩
 rw [hP] at hp h hr ⊢
 have s1 : wrap64 P = P:=w64 (by omega) (by omega)
 refine⟨by omega,⟨w64 (by omega) (by omega),s1,s1,by rw [i64_w];exact s1,w64 (by omega) (by omega),w64 (by omega) (by omega),w64 (by omega) (by omega)⟩,by omega,fun c=>⟨⟨by omega,by omega,by rw [List.length_append,List.length_singleton];omega⟩,?_⟩,fun c=>⟨⟨by omega,by omega,by omega⟩,?_⟩⟩
 ·rw [hr, if_neg (by omega)]
  simp
 rw [hr,if_pos (by omega)]
set_option maxHeartbeats 400000 in
set_option maxRecDepth 100000 in
theorem turns_Set.calls (a0 a1 : Int) (r1 : List Int) (r2 : Int) (w : World) (h : turns_Set.f a0 a1 = some (r1, r2)) :
  Calls Try.prog 38 #[.int .i64 a0,.int .i64 a1] w fun e w'=>∃ v0_ : Value,e = .returned (.tuple #[v0_,.int .i64 r2])∧Kd.R (Kd.int .i64) 3 w' w.heap.size (fun _=>True) v0_ r1∧Below w.heap.size w w':=by
 replace h:=Option.some.inj h
 have HB:=Aside0.mk (Below.refl w.heap.size w)
 by_cases c0 : 0≤a0∧a0≤40
 rotate_left
 ·rw [if_neg (fun hh => c0 ⟨hh.1, hh.2.1⟩)] at h
  injection h with h1 h2
  subst h1;subst h2
  have hi1:=Aside0.mk (within_no c0)
  clear c0
  go_enter Try.func38,Try.ntmps38
  go_wp2
  refine start_ (n:=11) (S:=fun _=>True) (ds:=[]) (mk_ 0 11) (by kernel_rfl) rfl (by kernel_rfl) trivial (fun hHeld=>?_)
  refine pm_ (v:=?_) (a':=?_) rfl rfl (by kernel_rfl) (fun _ _ _ h=>h) ?_ ?_ ?_;rotate_left 2;(focus refine Or.inl ⟨by rfl,?_⟩;intro w';go_simp;with_reducible rfl);(focus simp only [List.getElem_toArray,List.getElem_cons_succ,List.getElem_cons_zero,Act.put,List.setIfInBounds_toArray,List.set_cons_zero,List.set_cons_succ,i64_w,i32_w];rfl)
  refine om_ rfl rfl (by kernel_rfl) (by decide) (fun K hK=>?_)
  refine goes_ Try.func56 (by kernel_rfl) rfl #[.int .i64 a0,.int .i64 0,.int .i64 40] (by rfl) rfl rfl (by(try simp only [List.map_toArray,List.map_cons,List.map_nil]);first | done | rfl) ?_
  refine(turns_within.calls a0 0 40 false _ hi1.out).mono ?_
  rintro e w1 ⟨rfl,⟨nd,rfl⟩⟩
  refine⟨_,rfl,?_⟩
  refine hK.out _ _ trivial (fun hHeld=>?_)
  clear hK K
  refine norm_ (a':=?_) ?_ ?_
  rotate_left
  ·show Act.put _ (some 10) _ = _
   simp only [List.getElem_toArray,List.getElem_cons_succ,List.getElem_cons_zero,Act.put,List.setIfInBounds_toArray,List.set_cons_zero,List.set_cons_succ,i64_w,i32_w]
   rfl
  iterate 9 (first
  |(refine pm_ (v:=?_) (a':=?_) rfl rfl (by kernel_rfl) (fun _ _ _ h=>h) ?_ ?_ ?_;rotate_left 2;(focus refine Or.inl ⟨by rfl,?_⟩;intro w';go_simp;with_reducible rfl);(focus simp only [List.getElem_toArray,List.getElem_cons_succ,List.getElem_cons_zero,Act.put,List.setIfInBounds_toArray,List.set_cons_zero,List.set_cons_succ,i64_w,i32_w];rfl))
  |(refine pm_ (v:=undef) (a':=?_) rfl rfl (by kernel_rfl) (fun _ _ _ h=>h) (Or.inr ⟨by rfl,rfl⟩) ?_ ?_;rotate_left;(focus simp only [List.getElem_toArray,List.getElem_cons_succ,List.getElem_cons_zero,Act.put,List.setIfInBounds_toArray,List.set_cons_zero,List.set_cons_succ,i64_w,i32_w];rfl)))
  refine done_ (by kernel_rfl) ?_
  all_goals go_wp2
  all_goals go_ret2
  all_goals exact⟨_,rfl,Kd.R_nil _ _ _ _ _,by repeat(first |(with_reducible first | exact HB.out | apply bwA | apply bwN | apply bw1) | exact HB.out)⟩
 have hi1:=Aside0.mk (within_yes c0)
 obtain ⟨n,rfl⟩ : ∃ n : Nat,a0 = n:=⟨a0.toNat,by omega⟩
 have d0:=eq_true (show 0 ≤(n : Int) by omega)
 have HN:=Aside0.mk (show n≤40 by omega)
 have hp:=pow40 (n:=n) (by omega)
 rw [show((n : Int)).toNat = n by omega] at h
 by_cases c1 : 0≤a1∧a1≤2 ^ n - 1
 rotate_left
 ·rw [if_neg (fun hh => c1 hh.2.2)] at h
  injection h with h1 h2
  subst h1;subst h2
  have hi2:=Aside0.mk (within_no c1)
  have ws0 : wrap64 (2 ^ n) =(2 : Int) ^ n:=w64 (by omega) (by omega)
  have ws1 : wrap64 ((2 : Int) ^ n - 1) = 2 ^ n - 1:=w64 (by omega) (by omega)
  have HSUB:=Aside0.mk (show IntKind.i64.wrap (IntKind.i64.wrap (2 ^ min n 64) - 1) = 2 ^ n - 1 by rw [Nat.min_eq_left (by omega),i64_w,i64_w,ws0,ws1])
  clear c0 c1 hp
  go_enter Try.func38,Try.ntmps38
  go_wp2
  go_region_with (go_at_call 56;go_must (first |(with_reducible refine(turns_within.calls (n : Int) 0 40 true _ hi1.out).mono ?_;rintro e w' ⟨rfl,⟨nd,rfl⟩⟩) |(rw [HSUB.out];refine(turns_within.calls a1 0 (2 ^ n - 1) false _ hi2.out).mono ?_;rintro e w' ⟨rfl,⟨nd,rfl⟩⟩)))
  all_goals go_wp2
  all_goals go_ret2
  all_goals exact⟨_,rfl,Kd.R_nil _ _ _ _ _,by repeat(first |(with_reducible first | exact HB.out | apply bwA | apply bwN | apply bw1) | exact HB.out)⟩
 rw [if_pos ⟨c0.1,c0.2,c1⟩] at h
 injection h with h1 h2
 subst h2
 have hi2:=Aside0.mk (within_yes c1)
 have ws0 : wrap64 (2 ^ n) =(2 : Int) ^ n:=w64 (by omega) (by omega)
 have ws1 : wrap64 ((2 : Int) ^ n - 1) = 2 ^ n - 1:=w64 (by omega) (by omega)
 have HSUB:=Aside0.mk (show IntKind.i64.wrap (IntKind.i64.wrap (2 ^ min n 64) - 1) = 2 ^ n - 1 by rw [Nat.min_eq_left (by omega),i64_w,i64_w,ws0,ws1])
 have HA:=Aside0.mk (show 0≤a1∧a1 < 2 ^ n by omega)
 have HR:=Aside0.mk h1
 clear c0 c1 hp h1
 obtain ⟨pn,hpn⟩ : ∃ v,(2 : Int) ^ n = v:=⟨_,rfl⟩
 have HP:=Aside0.mk hpn
 refine calls_marks Try.func38 rfl ?_
 simp only [Try.ntmps38,List.size_toArray,List.length_cons,List.length_nil,Nat.reduceAdd,Nat.reduceSub,Array.replicate_succ,Array.replicate_zero,List.push_toArray,List.append_toArray,List.nil_append,List.cons_append]
 go_wp2
 go_region_with (go_at_call 56;go_must (first |(with_reducible refine(turns_within.calls (n : Int) 0 40 true _ hi1.out).mono ?_;rintro e w' ⟨rfl,⟨nd,rfl⟩⟩) |(rw [HSUB.out];refine(turns_within.calls a1 0 (2 ^ n - 1) true _ hi2.out).mono ?_;rintro e w' ⟨rfl,⟨nd,rfl⟩⟩)))
 go_wp2_with (go_at_call 60;go_must (refine(down_calls _ (n : Int)).mono ?_;rintro e w' ⟨rfl,rfl⟩))
 refine(wpIn_wide (n:=9)).1 ?_
 refine wpIn_rangeFunc_box (F := Fence.wide) (n := 9) rfl (by omega) (gf := 71) (B := w.heap.size + 1 + 1) (N := n) (x := fun j => .int .i64 ((n : Int) - j)) (v0 := .int .i64 n) rfl trivial (enters_of Try.func71 (by kernel_rfl) rfl) (down_seq _ _ trivial rfl (by omega) _ n (by have := HN.out; omega)) ?hB (set_box _ _ _ _).cell (set_box _ _ _ _).frozen
  (fun j W=>∃ (a : Int) (out : List Int) (v : Value),LI w (w.heap.size + 3) [(w.heap.size,3,.int .i64 a),(w.heap.size + 1,22,v)] v out W∧Aside0 (0≤a∧a < 2 ^ (n - j)∧out.length≤j)∧Aside0 (out ++ (gray (n - j) a).reverse =(gray n a1).reverse))
  (fun _ _=>False) ?hIb ?hIp (fun _ _ _ _ _ _ _ _ h=>h) ?h0
  (fun j=>{ tmps:=#[.int .i64 n,.int .i64 a1,undef,.pointer (some ⟨w.heap.size,0,none⟩),.slice none 0 0,.int .i64 0,.pointer (some ⟨w.heap.size + 1,0,none⟩),.int .i64 ((n : Int) - j),undef,.int .i64 n,.bool true,.bool false,.bool false,.int .i64 a1,.int .i64 n,.int .i64 (wrap64 (2 ^ min n 64)),.int .i64 (pn - 1),.bool true,.bool false,.bool false,.int .i64 n,.func (.func 71) #[] #[.pointer (some (cellOf (w.heap.size + 1 + 1)))],.int .i64 ((n : Int) - j),undef,undef,undef,undef,undef,undef,undef,undef,undef,undef,undef,undef,undef,undef,undef,undef,undef,undef],defers:=[] }) ?assign ?body ?done ?stop
 case hB=>simp
 case hIb =>
  rintro j W u ⟨a,out,v,h,h1,h2⟩
  exact⟨a,out,v,h.far (by omega) (by simp;omega) u,h1,h2⟩
 case hIp =>
  rintro j W l o o' hl ho hc ⟨a,out,v,h,h1,h2⟩
  exact⟨a,out,v,h.put o' (by simp at hl;omega) ho hc,h1,h2⟩
 case h0 =>
  intro o o'
  exact⟨a1,[],_,((set_start w a1 n _).alloc _).alloc _,⟨by have:=HA.out;simp;omega⟩,⟨by simp⟩⟩
 case assign =>
  intro l j W K hK
  gi_wp2
  exact hK
 case body =>
  rintro l j W u hj hl hcB hfB ⟨a,out,v,hL,HJ,HG⟩
  obtain ⟨m,hm⟩ : ∃ m,n = j + 1 + m:=⟨n - j - 1,by omega⟩
  have m0:=eq_true (show 0 ≤(m : Int) by omega)
  have hc3:=(hL.box (w.heap.size,3,.int .i64 a) (by simp)).2.cell
  have hf3:=(hL.box (w.heap.size,3,.int .i64 a) (by simp)).2.frozen
  have hc6:=(hL.box (w.heap.size + 1,22,v) (by simp)).2.cell
  have hf6:=(hL.box (w.heap.size + 1,22,v) (by simp)).2.frozen
  obtain ⟨e1,⟨wx,s1,s2,s3,s4,s5,s6⟩,ho,yes,no⟩:=set_step hm HN.out HJ.out HG.out
  simp only [e1]
  by_cases c :(2 : Int) ^ m≤a
  rotate_left
  ·have cb : decide ((2 : Int) ^ m ≤ a) = false := decide_eq_false c
   obtain ⟨j1,g1⟩:=no c
   have HJ1:=Aside0.mk j1
   have HG1:=Aside0.mk g1
   clear yes no j1 g1 ho c e1 hm hj hl HJ HG
   obtain ⟨pm,hpm⟩ : ∃ v,(2 : Int) ^ m = v:=⟨_,rfl⟩
   rw [hpm] at cb s1 s2 s3 s4 s5 s6
   clear hpm
   gi_wp2
   exact⟨KeepsFrom.refl _ _,rfl,rfl,a,out,⟨v,hL⟩,HJ1,HG1⟩
  have cb : decide ((2 : Int) ^ m≤a) = true:=decide_eq_true c
  obtain ⟨j1,g1⟩:=yes c
  have HJ1:=Aside0.mk j1
  have HG1:=Aside0.mk g1
  have HO:=Aside0.mk ho
  clear yes no j1 g1 ho c e1 hm hj hl HJ HG
  obtain ⟨pm,hpm⟩ : ∃ v,(2 : Int) ^ m = v:=⟨_,rfl⟩
  rw [hpm] at cb s1 s2 s3 s4 s5 s6 HJ1 HG1
  clear hpm
  obtain ⟨i0,hi,hz0,hz1,hz2⟩:=info_parts info3
  have HLL:=Aside0.mk hL
  have HSZ:=Aside0.mk (hL.alloc (.cells #[.int .i64 ((m : Int) + 1)] 3)).size.2
  gi_wp2_with (gi_at_builtin;refine wpListIn_append_own _ rfl (.tmp 29) (.tmp 31) 22 rfl (w.heap.size + 3) 3 i0 (.int .i64 0) 1 8 Try.underlying22 hi hz0 hz1 hz2 rfl (by decide) v out.length (out.map (Value.int .i64)) rfl (HLL.out.alloc _).row ⟨W.heap.size,0,none⟩ 1 1 [.int .i64 ((m : Int) + 1)] rfl rfl (cell_one_new _ _ _) (by simp [Value.oneCell']) (by have:=HO.out;unfold maxLen;omega) (by have:=HO.out;omega) HSZ.out ?_;intro v' w1 hown' hgrow _;obtain ⟨g',cap',rfl⟩:=ownsRow_succ hown';obtain ⟨hL1,hK1⟩:=HLL.out.append (x:=(m : Int) + 1) (by simp) (by simp) hown' hgrow;have hL2:=hL1.set (b:=w.heap.size + 1) (t:=22) (u0:=v) (by simp) (.slice (some ⟨g',0,none⟩) (out.length + 1) cap') (bs':=[(w.heap.size,3,.int .i64 a),(w.heap.size + 1,22,.slice (some ⟨g',0,none⟩) (out.length + 1) cap')]) (by simp);have hL3:=Aside0.mk (hL2.set (b:=w.heap.size) (t:=3) (u0:=.int .i64 a) (by simp) (.int .i64 (2 * pm - 1 - a)) (bs':=[(w.heap.size,3,.int .i64 (2 * pm - 1 - a)),(w.heap.size + 1,22,.slice (some ⟨g',0,none⟩) (out.length + 1) cap')]) (by simp));have k6:=(hL1.box (w.heap.size + 1,22,v) (by simp)).2.cell;have kf6:=(hL1.box (w.heap.size + 1,22,v) (by simp)).2.frozen;have k3:=(hL2.box (w.heap.size,3,.int .i64 a) (by simp)).2.cell;have kf3:=(hL2.box (w.heap.size,3,.int .i64 a) (by simp)).2.frozen;have HK1:=Aside0.mk hK1;have HKB:=Aside0.mk (HLL.out.keepB (B:=w.heap.size + 1 + 1) (by omega) hgrow);clear hL1 hL2 hK1 hown' hgrow)
  have hx : ∀ X Y,((w1.setCell ⟨w.heap.size + 1,0,none⟩ X).setCell ⟨w.heap.size,0,none⟩ Y).heap[w.heap.size + 1 + 1]? = W.heap[w.heap.size + 1 + 1]?:=fun X Y =>
   ((Below.heap_setCell _ ⟨w.heap.size,0,none⟩ Y _ (show w.heap.size + 1 + 1≠w.heap.size from Nat.ne_of_gt (Nat.lt_succ_of_lt (Nat.lt_succ_self _)))).trans (Below.heap_setCell _ ⟨w.heap.size + 1,0,none⟩ X _ (show w.heap.size + 1 + 1≠w.heap.size + 1 from Nat.ne_of_gt (Nat.lt_succ_self _)))).trans HKB.out
  obtain ⟨x1,x2⟩:=cellOf_eq (hx (.slice (some ⟨g',0,none⟩) (out.length + 1) cap') (.int .i64 (2 * pm - 1 - a)))
  exact⟨((HK1.out.trans (KeepsOthers.setCell _ _ _)).trans (KeepsOthers.setCell _ _ _)).from _,x1,x2,_,_,⟨_,hL3.out⟩,HJ1,HG1⟩
 case done =>
  rintro D W hD ⟨a,out,v,hL,HJ,HG⟩ hK
  have ho : out =(gray n a1).reverse:=by
   have:=HG.out
   rw [Nat.sub_self] at this
   simpa [gray] using this
  have hlen : out.length≤40:=by have:=HJ.out;have:=HN.out;omega
  obtain ⟨kr,hkr⟩:=(reverse_ev out (by omega)).rounds
  have HRV:=Aside0.mk hkr
  have hrr : out.reverse = r1:=by rw [ho,List.reverse_reverse];exact HR.out
  rw [hrr] at HRV
  have HT:=Aside0.mk hL.tight
  have HBL:=Aside0.mk hL.below
  have hc6:=(hL.box (w.heap.size + 1,22,v) (by simp)).2.cell
  have HB6:=Aside0.mk (hL.box (w.heap.size + 1,22,v) (by simp))
  have HDD:=Aside0.mk (show w.heap.size + 3≤D by simp at hD;omega)
  have HKD:=Aside0.mk hK
  have HGE:=Aside0.mk (fun j=>hL.row_ge (j:=j))
  clear hL HJ HG ho hlen hkr hrr hD hK
  go_wp2_with (go_at_call 61;go_must (refine(slices_Reverse_int_int.calls kr (fun k=>some k = v.ownBlock) v out r1 w _ HBL.out HT.out HRV.out).mono ?_;rintro e w2 ⟨rfl,ho2,hb2,hk2⟩;have HO2:=Aside0.mk ho2;have HB2:=Aside0.mk hb2;have k6 : w2.cell? ⟨w.heap.size + 1,0,none⟩ = some v:=(show Boxed w2 _ 22 v from(hk2.2 _ (HB6.out.2).lt (fun e=>by have:=HGE.out _ e.symm;omega)).trans HB6.out.2).cell;have HKD2:=Aside0.mk ((hk2.2 D (Array.getElem?_eq_some_iff.1 HKD.out).1 (not_row HT.out HKD.out rfl)).trans HKD.out);clear ho2 hb2 hk2))
  refine⟨by simp,.inl ⟨_,_,rfl,run_takeDeferred HKD2.out,?_⟩⟩
  exact⟨_,results_list (rs:=[.tmp 4,.tmp 5]) rfl (by simp) (.tmp (.tmp .nil)),_,rfl,R_putD _ HO2.out HKD2.out rfl,HB2.out.grown (grownBy_putObj' _ _ _) HB2.out.size (fun k e=>by obtain rfl : D = k:=(by simpa using e);have:=HDD.out;omega)⟩
 case stop =>
  rintro D c W _ h _
  exact h.elim
end Go.Proofs.Ytbfhlaggllofdaa.S

namespace Go.Proofs.Ytbfhlaggllofdaa.T
open Go Go.RowKit Go.Shelf Go.Proofs.YtbfhlaggllofdaaW.PrintWords Go.Proofs.YtbfhlaggllofdaaW.PrintLast Go.Proofs.YtbfhlaggllofdaaW.PrintMore
set_option linter.unusedVariables false
def ρI : Ren:=⟨fun | 21=>73 | 27=>75 | 28=>76 | 35=>77 | 39=>61 | n=>n,fun | 22=>22 | 3=>3 | n=>n,fun n=>n⟩
set_option maxRecDepth 100000 in
theorem layI : Lays2.n21 Try.prog ρI where
 mixed:=by kernel_rfl
 f21:=by kernel_rfl
 f27:=by kernel_rfl
 f28:=by kernel_rfl
 f35:=by kernel_rfl
 f39:=by kernel_rfl
 t0:=Try.underlying0
 a0:=Try.isAgg0
 z0:=Try.sizeOf0
 v0:=Try.zeroValue0
 t3:=Try.underlying3
 a3:=Try.isAgg3
 z3:=Try.sizeOf3
 v3:=Try.zeroValue3
 t4:=Try.underlying4
 a4:=Try.isAgg4
 z4:=Try.sizeOf4
 v4:=Try.zeroValue4
 t22:=Try.underlying22
 a22:=Try.isAgg22
 z22:=Try.sizeOf22
 v22:=Try.zeroValue22
 i3:=by kernel_rfl
def patch (cur : Array Value) (o : Nat) : List Value → Array Value
 | []=>cur
 | v :: r=>patch (cur.setIfInBounds o v) (o + 1) r
theorem patch_size : ∀ (vs : List Value) (cur : Array Value) (o : Nat), (patch cur o vs).size = cur.size
 | [],_,_=>rfl
 | v :: r,cur,o=>by unfold patch;rw [patch_size r];simp
theorem patch_get : ∀ (vs : List Value) (cur : Array Value) (o j : Nat), o + vs.length ≤ cur.size → (patch cur o vs)[j]? = if o ≤ j ∧ j < o + vs.length then vs[j - o]? else cur[j]?
 | [],cur,o,j,h=>by
  rw [if_neg (by rw [List.length_nil];omega)]
  rfl
 | v :: r,cur,o,j,h=>by
  have h' : o + (r.length + 1)≤cur.size:=by simpa using h
  unfold patch
  rw [patch_get r _ _ j (by simp;omega)]
  by_cases c : o + 1≤j∧j < o + 1 + r.length
  ·rw [if_pos c,if_pos (by simp;omega),show j - o =(j - (o + 1)) + 1 by omega,List.getElem?_cons_succ]
  ·rw [if_neg c]
   by_cases c1 : j = o
   ·subst c1
    rw [if_pos (by simp),Nat.sub_self,List.getElem?_cons_zero,Array.getElem?_setIfInBounds_self_of_lt (by omega)]
   ·rw [if_neg (by simp;omega),Array.getElem?_setIfInBounds_ne (by omega)]
theorem heap_setCells (b : Nat) : ∀ (vs : List Value) (o : Nat) (w : World) (cur : Array Value) (e : TypeId) (fz : Nat × Nat), w.heap[b]? = some (.cells cur e fz) → (w.setCells b o vs).heap[b]? = some (.cells (patch cur o vs) e fz)
 | [],_,_,_,_,_,h=>h
 | v :: r,o,w,cur,e,fz,h=>by
  unfold World.setCells patch
  refine heap_setCells b r (o + 1) _ _ e fz ?_
  unfold World.setCell
  simp [Array.getElem?_modify,h]
/-- The row with x at i. -/
theorem patched {cur : Array Value} {xs : List Int} {n i : Nat} {x : Int} (hn : xs.length = n) (hi : i ≤ n) (hs : n + 1 ≤ cur.size) (hc : ∀ j, j < i → cur[j]? = some (.int .i64 (xs.getD j 0))) {vs cs : List Value} (hvs : vs = [.int .i64 x]) (hcs : cs = (xs.map (Value.int .i64)).drop i) :
  (patch (patch cur (i + 1) cs) i vs).toList.take ((n + 1) * 1) =((xs.take i ++ x :: xs.drop i)).map (Value.int .i64):=by
 subst hvs;subst hcs
 have hl :((xs.map (Value.int .i64)).drop i).length = n - i:=by simp [hn]
 apply List.ext_getElem?
 intro j
 rw [List.getElem?_take,Array.getElem?_toList,patch_get _ _ _ j (by rw [patch_size];simp;omega),patch_get _ _ _ j (by rw [hl];omega),hl,List.getElem?_map]
 simp only [List.length_singleton,Nat.mul_one]
 have ht :(xs.take i).length = i:=by rw [List.length_take];omega
 by_cases c0 : j < n + 1
 rotate_left
 ·rw [if_neg c0, List.getElem?_eq_none (by rw [List.length_append, List.length_cons, List.length_drop, ht]; omega)]
  rfl
 rw [if_pos c0]
 by_cases c1 : i≤j∧j < i + 1
 ·rw [if_pos c1]
  obtain rfl : i = j:=by omega
  rw [List.getElem?_append_right (by omega),ht,Nat.sub_self]
  rfl
 rw [if_neg c1]
 by_cases c2 : i + 1≤j∧j < i + 1 + (n - i)
 ·rw [if_pos c2,List.getElem?_append_right (by omega),ht,show j - i =(j - (i + 1)) + 1 by omega,List.getElem?_cons_succ,List.getElem?_drop,List.getElem?_drop,List.getElem?_map]
 have hj : j < i:=by omega
 rw [if_neg c2,hc j hj,List.getElem?_append_left (by omega),List.getElem?_take_of_lt hj,List.getD_eq_getElem?_getD,List.getElem?_eq_getElem (by omega)]
 rfl
theorem patch_swap {cur : Array Value} {i : Nat} {v : Value} {cs : List Value} (h : i + 1 + cs.length≤cur.size) : patch (patch cur i [v]) (i + 1) cs = patch (patch cur (i + 1) cs) i [v]:=by
 apply Array.ext_getElem?
 intro j
 rw [patch_get _ _ _ j (by rw [patch_size];omega),patch_get _ _ _ j (by simp;omega),patch_get _ _ _ j (by rw [patch_size];simp;omega),patch_get _ _ _ j h]
 simp only [List.length_singleton]
 by_cases c1 : i≤j∧j < i + 1
 rotate_left
 ·rw [if_neg c1,if_neg c1]
 rw [if_pos c1,if_pos c1,if_neg (by omega)]
theorem below_sc {B b : Nat} {a : World} (hb : B ≤ b) : ∀ (vs : List Value) (o : Nat) {w : World}, Below B a w → Below B a (w.setCells b o vs)
 | [],_,_,h=>h
 | v :: r,o,w,h=>below_sc hb r (o + 1) (h.setCell hb v)
theorem zc_size (k : Nat) :(Builtin.zeroCells (Value.int .i64 0).cells k).size = k:=by simp [Builtin.zeroCells,Value.cells]
/-- A row laid anew. -/
theorem new_own {W : World} {base n G : Nat} {L : List Value} (hL : L.length = n) (hb : base ≤ W.heap.size) (h1 : n ≤ G) (h2 : G ≤ maxLen) :
  (W.drew.alloc (.cells (L.toArray ++ Builtin.zeroCells (Value.int .i64 0).cells (G - n)) 3)).ownsRow base 3 1 (.slice (some ⟨W.heap.size,0,none⟩) n G) n L:=by
 refine⟨by omega,.inr ⟨W.heap.size,G,L.toArray ++ Builtin.zeroCells (Value.int .i64 0).cells (G - n),rfl,hb,?_,h1,h2,?_,?_⟩⟩
 ·show (W.heap.push _)[W.heap.size]? = _
  rw [Array.getElem?_push,if_pos rfl]
 ·rw [Array.size_append, zc_size]
  simp
  omega
 rw [Array.toList_append,List.take_append_of_le_length (by simp;omega)]
 simp [List.take_of_length_le (by omega : L.length≤n)]
theorem insert_own {W : World} {base n i : Nat} {v : Value} {xs : List Int} (hv : W.ownsRow base 3 1 v n (xs.map (Value.int .i64))) (hb : base ≤ W.heap.size) (hn : n ≤ 100) (hi : i ≤ n) (x : Int) :
  Calls Try.prog 73 #[v,.int .i64 i,.slice (some ⟨W.heap.size,0,none⟩) 1 1] (W.alloc (.cells #[.int .i64 x] 3)) fun e w'=>∃ v',e = .returned v'∧w'.ownsRow base 3 1 v' (n + 1) ((xs.take i ++ x :: xs.drop i).map (Value.int .i64))∧Below base W w':=by
 have hxl : xs.length = n:=by have:=hv.1;simpa using this
 obtain ⟨w1,hw1⟩ : ∃ w1,w1 = W.alloc (.cells #[.int .i64 x] 3):=⟨_,rfl⟩
 have hs1 : w1.heap.size = W.heap.size + 1:=by rw [hw1];simp
 have hbw : Below base W w1:=by rw [hw1];exact(Below.refl _ _).alloc hb _
 have hlit : w1.heap[W.heap.size]? = some (.cells #[.int .i64 x] 3 (0,0)):=by rw [hw1];show(W.heap.push _)[W.heap.size]? = _;rw [Array.getElem?_push,if_pos rfl]
 have hvs : ∀ (j : Nat) (u : Value),[Value.int .i64 x][j]? = some u→w1.cell? ⟨W.heap.size,0 + j,none⟩ = some u:=by
  intro j u hj
  cases j with
  | zero =>
   simp at hj
   subst hj
   unfold World.cell?
   simp [hlit]
  | succ j=>simp at hj
 have h1v : ∀ u ∈ [Value.int .i64 x],u.oneCell' = true:=by simp [Value.oneCell']
 have hml : ∀ G,G≤maxLen→True:=fun _ _=>trivial
 rw [← hw1]
 rcases hv.2 with ⟨rfl,rfl⟩ |⟨g,cap,cur,rfl,hg,hcur,hnc,hcm,hsz,htake⟩
 ·obtain rfl : i = 0 := by omega
  obtain rfl : xs = []:=List.eq_nil_of_length_eq_zero hxl
  refine(Any2.slices_Insert_int_end_grow layI none 0 0 W.heap.size 0 1 1 [] [.int .i64 x] w1 (by omega) (by omega) (by omega) (by omega) rfl rfl (fun _=>rfl) (fun a ha=>by cases ha) hvs h1v).mono ?_
  rintro e w' ⟨rfl,rfl⟩
  exact⟨_,rfl,new_own (L:=[.int .i64 x]) rfl (by omega) (grownCap_ge _ _ _ _) (grownCap_le_maxLen _ _ _ _ (by unfold maxLen;omega)),hbw.drew.alloc (by show base≤w1.heap.size;omega) _⟩
 have hgW : g < W.heap.size:=(Array.getElem?_eq_some_iff.1 hcur).1
 have hcur1 : w1.heap[g]? = some (.cells cur 3 (0,0)):=by
  rw [hw1,Below.heap_alloc _ _ _ hgW];exact hcur
 have hcl :((xs.map (Value.int .i64))).length = n:=by simp [hxl]
 have hget : ∀ j,j < n→cur[j]? = some (.int .i64 (xs.getD j 0)):=by
  intro j hj
  have h1 :(cur.toList.take (n * 1))[j]? =(xs.map (Value.int .i64))[j]?:=by rw [htake]
  rw [List.getElem?_take_of_lt (by omega),Array.getElem?_toList,List.getElem?_map,List.getElem?_eq_getElem (by omega)] at h1
  rw [h1,List.getD_eq_getElem?_getD,List.getElem?_eq_getElem (by omega)]
  rfl
 have hcell : ∀ j,w1.cell? ⟨g,0 + j,none⟩ = cur[j]?:=fun j=>by
  unfold World.cell?
  simp [hcur1]
 have hcs : ∀ (j : Nat) (u : Value),(xs.map (Value.int .i64))[j]? = some u→w1.cell? ⟨g,0 + j,none⟩ = some u:=by
  intro j u hj
  rw [hcell]
  have hjn : j < n:=by have:=(List.getElem?_eq_some_iff.1 hj).1;simp at this;omega
  rw [hget j hjn,← hj,List.getElem?_map,List.getElem?_eq_getElem (by omega),List.getD_eq_getElem?_getD,List.getElem?_eq_getElem (by omega)]
  rfl
 have h1c : ∀ u ∈ xs.map (Value.int .i64),u.oneCell' = true:=by
  intro u hu
  obtain ⟨y,_,rfl⟩:=List.mem_map.1 hu
  rfl
 have hfz : ∀ j,w1.frozen? ⟨g,j,none⟩ = false:=fun j=>by
  unfold World.frozen?
  simp [hcur1]
 have hrl :((xs.take i ++ x :: xs.drop i).map (Value.int .i64)).length =(n + 1) * 1:=by
  simp [List.length_take];omega
 by_cases ci : i = n
 ·subst ci
  have hd : xs.drop i = []:=List.drop_eq_nil_of_le (by omega)
  by_cases cr : i + 1≤cap
  ·refine (Any2.slices_Insert_int_end_room layI g 0 i cap W.heap.size 0 1 1 [.int .i64 x] w1 (by omega) cr (by unfold maxLen at hcm; omega) rfl (fun j hj => ?_) (fun j hj => hfz _) hvs h1v).mono ?_
   ·rw [show(0 + i + j) = 0 + (i + j) by omega,hcell,Array.getElem?_eq_getElem (by omega)];rfl
   rintro e w' ⟨rfl,rfl⟩
   refine⟨_,rfl,⟨hrl,.inr ⟨g,cap,patch cur (0 + i) [.int .i64 x],rfl,hg,heap_setCells g _ _ _ _ _ _ hcur1,cr,hcm,by rw [patch_size];exact hsz,?_⟩⟩,below_sc hg _ _ hbw⟩
   have:=patched (cur:=cur) (x:=x) hxl (Nat.le_refl i) (by omega) (fun j hj=>hget j hj) rfl (cs:=[]) (by rw [List.drop_eq_nil_of_le (by simp [hxl])])
   rw [Nat.zero_add]
   exact this
  refine(Any2.slices_Insert_int_end_grow layI (some ⟨g,0,none⟩) i cap W.heap.size 0 1 1 (xs.map (Value.int .i64)) [.int .i64 x] w1 (by omega) hnc (by omega) (by omega) hcl rfl (fun h=>by cases h) (fun a ha j u hj=>?_) hvs h1v).mono ?_
  ·injection ha with ha
   subst ha
   have:=hcs j u hj
   rw [Nat.zero_add] at this
   cases j with
   | zero=>exact this
   | succ j=>simpa [Addr.add] using this
  rintro e w' ⟨rfl,rfl⟩
  refine⟨_,rfl,?_,hbw.drew.alloc (by show base≤w1.heap.size;omega) _⟩
  have:=new_own (W:=w1) (base:=base) (n:=i + 1) (L:=xs.map (Value.int .i64) ++ [.int .i64 x]) (by simp [hxl]) (by omega) (grownCap_ge w1 (i + 1) cap 3) (grownCap_le_maxLen _ _ _ _ (by unfold maxLen;omega))
  rw [hd,List.take_of_length_le (by omega),List.map_append]
  exact this
 have hin : i < n:=by omega
 by_cases cr : n + 1≤cap
 ·refine (Any2.slices_Insert_int_shift layI g 0 n cap i W.heap.size 0 1 1 (xs.map (Value.int .i64)) [.int .i64 x] w1 hin (by omega) cr (by unfold maxLen at hcm; omega) (by omega) hcl rfl hcs (fun j hj => ?_) (fun j hj => hfz _) hvs h1c h1v 3 3 1 cap (by unfold World.shape?; rw [hlit]; rfl) (by unfold World.shape?; rw [hcur1]; simp; omega) (by omega) (by unfold World.frozen?; rw [hlit]; rfl) (by unfold World.frozen?; rw [hlit]; rfl)).mono ?_
  ·rw [hcell,Array.getElem?_eq_getElem (by omega)];rfl
  rintro e w' ⟨rfl,rfl⟩
  refine⟨_,rfl,⟨hrl,.inr ⟨g,cap,_,rfl,hg,heap_setCells g _ _ _ _ _ _ (heap_setCells g _ _ _ _ _ _ (show w1.drew.heap[g]? = _ from hcur1)),cr,hcm,by rw [patch_size,patch_size];exact hsz,?_⟩⟩,below_sc hg _ _ (below_sc hg _ _ hbw.drew)⟩
  rw [Nat.zero_add,Nat.zero_add]
  exact patched hxl hi (by omega) (fun j hj=>hget j (by omega)) rfl rfl
 refine(Any2.slices_Insert_int_grow layI g 0 n cap i W.heap.size 0 1 1 (xs.map (Value.int .i64)) [.int .i64 x] w1 hin (by omega) hnc (by omega) (by omega) hcl rfl hcs hvs h1c h1v).mono ?_
 rintro e w' ⟨rfl,rfl⟩
 have hge:=grownCap_ge w1 (n + 1) cap 3
 have hle:=grownCap_le_maxLen w1 (n + 1) cap 3 (by unfold maxLen;omega)
 obtain ⟨G,hG⟩ : ∃ G,grownCap w1 (n + 1) cap 3 = G:=⟨_,rfl⟩
 rw [hG] at hge hle
 simp only [show ρI.t 3 = 3 from rfl,hG]
 obtain ⟨R,hR⟩ : ∃ R : Array Value,R =((xs.map (Value.int .i64)).take i).toArray ++ Builtin.zeroCells (Value.int .i64 0).cells (n + 1 - i) ++ Builtin.zeroCells (Value.int .i64 0).cells (G - (n + 1)):=⟨_,rfl⟩
 have hRs : R.size = G:=by
  rw [hR,Array.size_append,Array.size_append,zc_size,zc_size]
  simp
  omega
 have hRg : ∀ j,j < i→R[j]? = some (.int .i64 (xs.getD j 0)):=by
  intro j hj
  rw [hR,Array.append_assoc,Array.getElem?_append_left (by simp;omega)]
  simp only [List.getElem?_toArray]
  rw [List.getElem?_take_of_lt hj,List.getElem?_map,List.getElem?_eq_getElem (by omega),List.getD_eq_getElem?_getD,List.getElem?_eq_getElem (by omega)]
  rfl
 rw [← hR]
 have hnew :((w1.alloc (.cells R 3)).drew).heap[w1.heap.size]? = some (.cells R 3 (0,0)):=by show(w1.heap.push _)[w1.heap.size]? = _;rw [Array.getElem?_push,if_pos rfl]
 have h2:=heap_setCells w1.heap.size ((xs.map (Value.int .i64)).drop i) (i + 1) _ _ _ _ (show(((w1.alloc (.cells R 3)).drew.setCells w1.heap.size i [.int .i64 x]).drew).heap[w1.heap.size]? = _ from heap_setCells w1.heap.size [.int .i64 x] i _ _ _ _ hnew)
 rw [patch_swap (by simp;omega)] at h2
 refine⟨_,rfl,⟨hrl,.inr ⟨w1.heap.size,G,_,rfl,by omega,h2,hge,hle,by rw [patch_size,patch_size];omega,patched hxl hi (by omega) hRg rfl rfl⟩⟩,below_sc (by omega) _ _ (below_sc (by omega) _ _ (hbw.alloc (by omega) _).drew).drew⟩
end Go.Proofs.Ytbfhlaggllofdaa.T

namespace Go.Proofs.Ytbfhlaggllofdaa.T
open Go Go.RowKit Go.Proofs.YtbfhlaggllofdaaW.PrintWords Go.Proofs.YtbfhlaggllofdaaW.PrintLast Go.Proofs.YtbfhlaggllofdaaW.PrintMore
open Go.Proofs.Ytbfhlaggllofdaa.G Go.Proofs.Ytbfhlaggllofdaa.P
set_option linter.unusedVariables false
theorem fac_new (w : World) : Calls Try.prog 64 #[] w fun e w'=>e = .returned (.agg (facA 19))∧Below w.heap.size w w':=by
 rw [facA_end]
 exact fac_calls w
theorem facA_get {i : Nat} (h : i < 19) :(facA 19)[i]? = some (.int .i64 (fact i)):=facA_at h h
theorem fac_index {n : Nat} (h : n < 19) (w : World) : Sem.run Try.prog (Instr.index 76 (.agg (facA 19)) (.int .i64 (n : Int))) w = .ok (.int .i64 (fact n)) w:=by
 have hg:=facA_get h
 have hu:=run_underlying (P:=Try.prog) Try.underlying76
 unfold Instr.index
 simp [asIntOf,hu,show(0 : Int) ≤(n : Int) by omega,show(n : Int) < 19 by omega,h,part,hg,Try.sizeOf3,Try.isAgg3]
theorem fact_dvd {i : Nat} : ∀ {n : Nat}, i ≤ n → ∃ K : Int, 1 ≤ K ∧ fact n = K * fact i
 | 0,h=>⟨1,by decide,by rw [show i = 0 by omega];decide⟩
 | n + 1,h=>by
  by_cases c : i = n + 1
  ·exact⟨1,by decide,by rw [c,Int.one_mul]⟩
  ·obtain ⟨K, h1, h2⟩ := fact_dvd (n := n) (i := i) (by omega)
   refine⟨((n : Int) + 1) * K,?_,by rw [Int.mul_assoc,← h2];rfl⟩
   have:=Int.mul_le_mul (show(1 : Int) ≤(n : Int) + 1 by omega) h1 (by decide) (by omega)
   simpa using this
theorem order_step {n i : Nat} {a : Int} (hn : n ≤ 18) (hi : i < n) (h0 : 0 ≤ a) (h1 : a < fact n) :
  ∃ F M D q t p : Int,∃ u : Nat,fact n = F∧fact (i + 1) = M∧a / (fact n / fact (i + 1)) = q∧a / (fact n / fact i) = t ∧
  ((M == 0) = false ∧(M = 0) = False∧Int.tdiv F M = D∧wrap64 D = D) ∧((D == 0) = false ∧(D = 0) = False∧Int.tdiv a D = q∧wrap64 q = q) ∧(Int.tmod q ((i : Int) + 1) = p∧Int.tdiv q ((i : Int) + 1) = t∧wrap64 t = t)∧u≤i ∧
  ((Int.tmod t 2 == 0) = true ∧(i : Int) - p = u ∨(Int.tmod t 2 == 0) = false∧p = u)∧wrap64 (u : Int) = u∧sjt (i + 1) q = ins (sjt i t) u ((i : Int) + 1):=by
 have b1:=fact_le hn
 have b2:=fact_le (n:=i + 1) (by omega)
 obtain ⟨K,hK,e1⟩:=fact_dvd (n:=n) (i:=i + 1) (by omega)
 have hp:=fact_pos i
 have hf : fact (i + 1) =((i : Int) + 1) * fact i:=rfl
 have d1 : fact n / fact (i + 1) = K:=by rw [e1];exact Int.mul_ediv_cancel _ (by omega)
 have d2 : fact n / fact i = K * ((i : Int) + 1):=by
  rw [e1,hf,← Int.mul_assoc];exact Int.mul_ediv_cancel _ (by omega)
 have hKn : K≤fact n:=by
  rw [e1]
  have:=Int.mul_le_mul_of_nonneg_left b2.1 (show 0≤K by omega)
  omega
 obtain ⟨q,hq⟩ : ∃ q,a / K = q:=⟨_,rfl⟩
 have q0 : 0≤q:=by rw [← hq];exact Int.ediv_nonneg h0 (by omega)
 have q1 : q≤a:=by rw [← hq];exact Int.ediv_le_self _ h0
 obtain ⟨t,ht⟩ : ∃ t,q / ((i : Int) + 1) = t:=⟨_,rfl⟩
 have t0 : 0≤t:=by rw [← ht];exact Int.ediv_nonneg q0 (by omega)
 have t1 : t≤q:=by rw [← ht];exact Int.ediv_le_self _ q0
 obtain ⟨p,hpp⟩ : ∃ p,q % ((i : Int) + 1) = p:=⟨_,rfl⟩
 have p0 : 0≤p:=by rw [← hpp];exact Int.emod_nonneg _ (by omega)
 have p1 : p < (i : Int) + 1:=by rw [← hpp];exact Int.emod_lt_of_pos _ (by omega)
 have e2 : Int.tdiv (fact n) (fact (i + 1)) = K:=by rw [Int.tdiv_eq_ediv_of_nonneg (by omega),d1]
 have e3 : Int.tdiv a K = q:=by rw [Int.tdiv_eq_ediv_of_nonneg h0,hq]
 have e4 : Int.tmod q ((i : Int) + 1) = p:=by rw [Int.tmod_eq_emod_of_nonneg q0,hpp]
 have e5 : Int.tdiv q ((i : Int) + 1) = t:=by rw [Int.tdiv_eq_ediv_of_nonneg q0,ht]
 have e6 : Int.tmod t 2 = t % 2:=Int.tmod_eq_emod_of_nonneg t0
 obtain ⟨r0,r1⟩:=place_range (n:=i) (r:=t) p0 (by omega)
 have hs : sjt (i + 1) q = ins (sjt i t) (place i t p).toNat ((i : Int) + 1):=by rw [← hpp,← ht];rfl
 refine⟨_,_,K,q,t,p,(place i t p).toNat,rfl,rfl,by rw [d1,hq],by have e:=Int.ediv_ediv (x:=a) (y:=K) (z:=(i : Int) + 1);rw [if_neg (by omega),Int.sub_zero] at e;rw [d2,← e,hq,ht],⟨beq_eq_false_iff_ne.2 (by omega),eq_false (by omega),e2,w64 (by omega) (by omega)⟩,⟨beq_eq_false_iff_ne.2 (by omega),eq_false (by omega),e3,w64 (by omega) (by omega)⟩,⟨e4,e5,w64 (by omega) (by omega)⟩,by omega,?_,w64 (by omega) (by omega),hs⟩
 rw [e6]
 unfold place at r0 r1 ⊢
 by_cases c : t % 2 = 0
 ·rw [if_pos c] at r0 r1 ⊢
  exact .inl ⟨beq_iff_eq.2 c,by omega⟩
 rw [if_neg c] at r0 r1 ⊢
 exact .inr ⟨beq_eq_false_iff_ne.2 c,by omega⟩
end Go.Proofs.Ytbfhlaggllofdaa.T
