-- Written by wip/bundle2.py: texts of this claim, one behind the other.
import Derived.WalkKit
import Derived.Deep.Draws
import Derived.Maps.OwnSet
import Derived.Maps.Views
import Derived.Test.YtnfmeafiaipplaaVLoopsLatticeWords
import Derived.Test.YtnfmeafiaipplaaVLoopsLatticeLast
import Derived.Test.YtnfmeafiaipplaaVLoopsLatticeMore
import Derived.Test.YtnfmeafiaipplaaProg
import Derived.Below
import Derived.Deep.AppendLies
import Derived.Maps.AppendAt
import Derived.OwnWalk
import Derived.Laws.BytesArg
import Derived.Laws.MakeOwn
import Derived.Laws.OwnMore
import Derived.Deep.OwnRows
import Derived.Tactics
import Derived.Lib.ConvBytes
import Derived.Laws.Slices
import Derived.KernelRfl
import Derived.RowKit3
import Derived.Deep.LoopGhost
import Derived.Deep.QuietTactic
import Derived.BigQuiet
import Derived.WideLaws
import Derived.Deep.DeepCutAuto
import Derived.Deep.CutBlock
import Derived.Deep.RegionHeld3
import Derived.Laws.Rows
import Derived.Lib.AppendStr
import Derived.ArgAppend
import Derived.Laws.IdiomCopy
import Derived.OrdersHeld
import Derived.Laws.BitsLemmas
import Derived.RowKit
import Derived.Deep.DeepMust
import Derived.WalkSpells
import Derived.Laws.EntriesVeiled
import Derived.IntWalk
import Derived.Test.YtnfmeafiaipplaaVLoopsLatticeTab
import Derived.Test.YtnfmeafiaipplaaVLoopsLatticeApart
import Derived.Test.YtnfmeafiaipplaaVLoopsLatticeFoot
import Derived.Test.YtnfmeafiaipplaaVLoopsLatticeKept
import Derived.Test.YtnfmeafiaipplaaVLoopsLatticeShare
import Derived.Test.YtnfmeafiaipplaaVLoopsLatticeN
import Derived.Test.YtnfmeafiaipplaaVLoopsLatticeEqStruct
import Derived.Test.YtnfmeafiaipplaaVLoopsLatticeRepsOne
import Derived.Test.YtnfmeafiaipplaaVLoopsLatticeInv
import Derived.Test.YtnfmeafiaipplaaVLoopsLatticeGuard
import Derived.DeepKeys4
import Derived.StillTailTactics
set_option linter.unusedVariables false
set_option linter.unusedSimpArgs false

namespace Go.Proofs.Ytnfmeafiaipplaa.Lib
open Go.Maps (Keyed IsMap Tidy)

/-- An element is held as it stands. -/
def Rv (v : Value) : Option (DataW Value×List MemPlace):=some (.held v,[])
/-- Block b of w is a map of m entries; at the key k it holds 'f k'. -/
def MapAt (w : World) (P : Program) (k : TypeId) (b m : Nat) (f : Value→Option Value) : Prop :=
 ∃ D,w.ownsMap P k Rv b m D∧Maps.size D = m∧∀ kv kl,keyOf P k kv = some kl→Maps.has D kl =(f kv).isSome∧∀ z : Value,D.atKey kl (.held z) = .held ((f kv).getD z)
theorem MapAt.lt {w : World} {P : Program} {k : TypeId} {b m : Nat} {f : Value→Option Value} (h : MapAt w P k b m f) : b < w.heap.size:=by
 obtain ⟨D,h1,_⟩:=h
 exact h1.lt
theorem MapAt.made (w : World) (P : Program) (k : TypeId) : MapAt (w.alloc (.map #[] 0)) P k w.heap.size 0 (fun _=>none) :=
 ⟨_,World.ownsMap_made w P k Rv,rfl,fun _ _ _=>⟨rfl,fun _=>rfl⟩⟩
theorem MapAt.congr {w : World} {P : Program} {k : TypeId} {b m : Nat} {f g : Value→Option Value} (h : MapAt w P k b m f) (e : ∀ kv kl,keyOf P k kv = some kl→f kv = g kv) : MapAt w P k b m g:=by
 obtain ⟨D,h1,h2,h3⟩:=h
 refine⟨D,h1,h2,fun kv kl hk=>?_⟩
 rw [← e kv kl hk]
 exact h3 kv kl hk
theorem MapAt.kept {w w' : World} {P : Program} {k : TypeId} {b m : Nat} {f : Value→Option Value} {row : Option Nat} (h : MapAt w P k b m f) (hg : w.grownBy w' row) (hne : some b≠row) : MapAt w' P k b m f:=by
 obtain ⟨D,h1,h2,h3⟩:=h
 exact⟨D,h1.kept hg hne,h2,h3⟩
theorem MapAt.block {w w' : World} {P : Program} {k : TypeId} {b m : Nat} {f : Value→Option Value} (h : MapAt w P k b m f) (hb : w'.heap[b]? = w.heap[b]?) : MapAt w' P k b m f:=by
 obtain ⟨D,⟨es,clock,h0,F,hs,hD⟩,h2,h3⟩:=h
 exact⟨D,⟨es,clock,hb.trans h0,F,hs,hD⟩,h2,h3⟩
theorem MapAt.drewN {w : World} {P : Program} {k : TypeId} {b m : Nat} {f : Value→Option Value} (h : MapAt w P k b m f) (n : Nat) : MapAt (w.drewN n) P k b m f:=h.block rfl
theorem MapAt.drew {w : World} {P : Program} {k : TypeId} {b m : Nat} {f : Value→Option Value} (h : MapAt w P k b m f) : MapAt w.drew P k b m f:=h.block rfl
theorem MapAt.alloc {w : World} {P : Program} {k : TypeId} {b m : Nat} {f : Value→Option Value} (h : MapAt w P k b m f) (o : Obj) : MapAt (w.alloc o) P k b m f:=by
 obtain ⟨D,h1,h2,h3⟩:=h
 exact⟨D,h1.alloc o,h2,h3⟩
theorem MapAt.setCell {w : World} {P : Program} {k : TypeId} {b m : Nat} {f : Value→Option Value} (h : MapAt w P k b m f) {a : Addr} (ha : b≠a.block) (u : Value) : MapAt (w.setCell a u) P k b m f:=by
 obtain ⟨D,h1,h2,h3⟩:=h
 exact⟨D,h1.setCell ha u,h2,h3⟩
theorem MapAt.below {w w' : World} {P : Program} {k : TypeId} {b m : Nat} {f : Value→Option Value} (h : MapAt w P k b m f) (hb : Go.RowKit.Below w.heap.size w w') : MapAt w' P k b m f:=h.block (hb.block b h.lt)
/-- A map's block is no row of cells. -/
theorem MapAt.ne {w : World} {P : Program} {k : TypeId} {b m : Nat} {f : Value→Option Value} (h : MapAt w P k b m f) {g : Nat} {cs : Array Value} {t : TypeId} {fr : Nat×Nat} (hg : w.heap[g]? = some (.cells cs t fr)) : b≠g:=by
 rintro rfl
 obtain ⟨D,⟨es,clock,h0,_⟩,_⟩:=h
 rw [hg] at h0
 cases h0
section
variable {w : World} {P : Program} {t k e : TypeId} {b m : Nat} {f : Value → Option Value}

/-- 'm[k]'. -/
theorem MapAt.look (h : MapAt w P k b m f) (K : Keyed P k) (ht : P.underlying t = some (.map k e)) {z : Value} (hz : (zeroValue e).run P w = .ok z w) {key : Value} {kl : Lit} (hkey : keyOf P k key = some kl) :
  (Instr.lookup t (.map (some b)) key false).run P w = .ok ((f key).getD z) w:=by
 obtain ⟨D,h1,h2,h3⟩:=h
 obtain ⟨v,ps,hrun,hv⟩:=h1.lookup K ht hz (R:=Rv) rfl hkey
 rw [hrun]
 have:=(h3 key kl hkey).2 z
 rw [this] at hv
 injection hv with hv
 injection hv with hv
 injection hv with hv
 rw [hv]
/-- 'v, ok := m[k]'. -/
theorem MapAt.lookOk (h : MapAt w P k b m f) (K : Keyed P k) (ht : P.underlying t = some (.map k e)) {z : Value} (hz : (zeroValue e).run P w = .ok z w) {key : Value} {kl : Lit} (hkey : keyOf P k key = some kl) :
  (Instr.lookup t (.map (some b)) key true).run P w = .ok (.tuple #[(f key).getD z,.bool (f key).isSome]) w:=by
 obtain ⟨D,h1,h2,h3⟩:=h
 obtain ⟨v,ps,hrun,hv⟩:=h1.look_ok K ht hz (R:=Rv) rfl hkey
 rw [hrun,(h3 key kl hkey).1]
 have:=(h3 key kl hkey).2 z
 rw [this] at hv
 injection hv with hv
 injection hv with hv
 injection hv with hv
 rw [hv]
theorem MapAt.len (h : MapAt w P k b m f) (ht : P.underlying t = some (.map k e)) (ty : TypeId) :(Builtin.len_ #[t] ty #[.map (some b)]).run P w = .ok (.int .i64 m) w:=by
 obtain ⟨D,h1,h2,_⟩:=h
 rw [← h2]
 exact h1.len ht ty
/-- What a store makes of f. -/
theorem put_fact (K : Keyed P k) {D : DataW Value} (hD : Tidy D) (h2 : Maps.size D = m) (h3 : ∀ kv kl, keyOf P k kv = some kl → Maps.has D kl = (f kv).isSome ∧ ∀ z : Value, D.atKey kl (.held z) = .held ((f kv).getD z))
  {key val : Value} {kl : Lit} (hkey : keyOf P k key = some kl) {f' : Value→Option Value} (e1 : f' key = some val) (e2 : ∀ v,v≠key→f' v = f v) :
  Maps.size (D.put kl (.held val)) =(if(f key).isSome then m else m + 1)∧∀ kv kl',keyOf P k kv = some kl'→Maps.has (D.put kl (.held val)) kl' =(f' kv).isSome∧∀ z : Value,(D.put kl (.held val)).atKey kl' (.held z) = .held ((f' kv).getD z):=by
 refine⟨by rw [Maps.size_put hD,(h3 key kl hkey).1,h2],fun kv kl' hk'=>?_⟩
 by_cases hne : kv = key
 ·subst hne
  rw [hkey] at hk'
  injection hk' with hk'
  subst hk'
  rw [e1]
  exact⟨Maps.has_put_same hD.isMap (K.key hkey) _,fun z=>Maps.atKey_put_same hD.isMap (K.key hkey) _ _⟩
 have hl : kl'≠kl:=fun e0=>hne (K.inj (e0 ▸ hk') hkey)
 rw [e2 kv hne]
 exact⟨(Maps.has_put_other hl _).trans (h3 kv kl' hk').1,fun z=>(Maps.atKey_put_other hl _ _).trans ((h3 kv kl' hk').2 z)⟩
theorem MapAt.bound {n : Nat} {D : DataW Value} (h : w.ownsMap P k Rv b n D) : w.ownsMap P k Rv b (Maps.size D) D:=by
 obtain ⟨es,clock,hb,F,hs,hD⟩:=h
 refine⟨es,clock,hb,F,?_,hD⟩
 rw [hD]
 simp [Maps.size,length_sorted]
/-- 'm[k] = v'. -/
theorem MapAt.store (h : MapAt w P k b m f) (K : Keyed P k) (ht : P.underlying t = some (.map k e)) (hm : m < maxLen) {key val : Value} {kl : Lit} (hkey : keyOf P k key = some kl) {f' : Value → Option Value} (e1 : f' key = some val) (e2 : ∀ v, v ≠ key → f' v = f v) :
  ∃ w',(Instr.mapUpdate t (.map (some b)) key val).run P w = .ok () w'∧MapAt w' P k b (if(f key).isSome then m else m + 1) f'∧w.grownBy w' (some b):=by
 obtain ⟨D,h1,h2,h3⟩:=h
 obtain ⟨w',hrun,h4,h5⟩:=h1.update K ht hm (val:=val) (d:=.held val) (ps:=[]) hkey rfl
 obtain ⟨h6,h7⟩:=put_fact K (h1.tidy K) h2 h3 hkey (val:=val) e1 e2
 exact⟨w',hrun,⟨_,h6 ▸ MapAt.bound h4,h6,h7⟩,h5⟩
end

section
variable {P : Program} (w : World) {ops : Array Oper} {rest : List Oper} {o : Oper} {a : Act} {Q : Exit → Act → World → Prop}

end

def encI (g : Int → Option Value) : Value → Option Value
 | .int .i64 x=>g x
 | _=>none
theorem wfI {x : Int} (h0 : -9223372036854775808≤x) (h1 : x≤9223372036854775807) :(Lit.int .i64 x).wf = true:=WalkArith.wf_i64 (by omega)
section
variable {P : Program} (W : World) {ops : Array Oper} {rest : List Oper} {o : Oper} {a : Act} {Q : Exit → Act → World → Prop}
theorem wpList_appendRun (hg : o.guard = none) (s x : Operand) (t : TypeId) (ho : o.op = .call { callee := .builtin .append, args := #[s, x], argTypes := #[t, t] }) {v y v1 : Value} {w1 : World} {ty : TypeId}
  (hrun :(Builtin.append_ #[t,t] ty #[v,y]).run P W = .ok v1 w1) (hty : o.type = ty) (hs : a.eval s = v) (hx : a.eval x = y) (hK : wpList P ops Q rest (a.put o.dst v1) w1) : wpList P ops Q (o :: rest) a W:=by
 refine wpList_plain hg fun K hK'=>?_
 unfold Oper.wp execOp
 simp only [ho,resolve,invoke,builtin,Sem.run_bind,Sem.run_pure,Result.andThen_ok,List.map_toArray,List.map_cons,List.map_nil,hs,hx,hty,hrun]
 exact hK' _ _ hK
end

theorem append_extract {P : Program} {t : TypeId} {v y : Value} {W : World} {Φ : Value → World → Prop}
  (h : ∀ (o : Oper) (a : Act) (Kc : Act→World→Prop) (Q : Exit→Act→World→Prop),o.guard = none→o.op = .call { callee:=.builtin .append,args:=#[.const v,.const y],argTypes:=#[t,t] } →(∀ v1 w1,Φ v1 w1→Kc (a.put o.dst v1) w1)→Oper.wp P o a W Kc Q) (ty : TypeId) :
  ∃ v1 w1,(Builtin.append_ #[t,t] ty #[v,y]).run P W = .ok v1 w1∧Φ v1 w1:=by
 have h1 := h { dst := some 0, op := .call { callee := .builtin .append, args := #[.const v, .const y], argTypes := #[t, t] }, type := ty, pos := "", after := #[], guard := none } ⟨#[undef], []⟩
  (fun a' w'=>∃ v1,a'.tmps = #[v1]∧Φ v1 w') (fun _ _ _=>False) rfl rfl (fun v1 w1 hp=>⟨v1,rfl,hp⟩)
 unfold Oper.wp execOp at h1
 simp only [resolve,invoke,builtin,Sem.run_bind,Sem.run_pure,Result.andThen_ok,List.map_toArray,List.map_cons,List.map_nil] at h1
 have e1 : Act.eval ⟨#[undef],[]⟩ (.const v) = v:=rfl
 have e2 : Act.eval ⟨#[undef],[]⟩ (.const y) = y:=rfl
 rw [e1,e2] at h1
 cases hr :(Builtin.append_ #[t,t] ty #[v,y]).run P W with
 | ok v1 w1 =>
  rw [hr] at h1
  obtain ⟨v2,h2,h3⟩:=h1
  have : v1 = v2:=by
   have h4 :(Act.put (⟨#[undef],[]⟩ : Act) (some 0) v1).tmps = #[v2]:=h2
   simpa [Act.put] using h4
  subst this
  exact⟨v1,w1,rfl,h3⟩
 | halt e w1 =>
  rw [hr] at h1
  cases e <;> exact absurd h1 (by simp [Result.andThen,Oper.upon])
end Go.Proofs.Ytnfmeafiaipplaa.Lib

namespace Go.Proofs.Ytnfmeafiaipplaa.Lib
open Go.RowKit Go.Proofs.YtnfmeafiaipplaaW.PrintWords Go.Proofs.YtnfmeafiaipplaaW.PrintLast Go.Proofs.YtnfmeafiaipplaaW.PrintMore
set_option linter.unusedVariables false

/-- append(v, p), p laid in a new block. -/
theorem append_one {α : Type} (d : Kd α) {P : Program} {w0 W : World} (base : Nat) (t ty e : TypeId) (z : Value) (bytes : Nat) (ht : P.underlying t = some (.slice e)) (hinfo : (P.info? e).map (fun i => (i.zero, i.size, i.bytes)) = some (some z, d.sz, bytes)) (hz : z.cells.size = d.sz) (hs0 : 0 < d.sz) (hb0 : 0 < bytes)
  {v : Value} {xs : List α} (p : α) (cs : List Value) {ok : Nat→Prop} (okp : Nat→Prop) (hp : d.M W base okp p cs) (hokp : ∀ k,okp k→ok k∧some k≠v.ownBlock) (hfresh : ∀ k,W.heap.size≤k→ok k)
  (HO : d.R e W base ok v xs) (HB : Below base w0 W) (hbase : base≤W.heap.size) (hl :(xs.length + 1) * bytes≤140737488355328) :
  ∃ v1 w1,(Builtin.append_ #[t,t] ty #[v,.slice (some ⟨W.heap.size,0,none⟩) 1 1]).run P (W.alloc (.cells cs.toArray e)) = .ok v1 w1∧d.R e w1 base ok v1 (xs ++ [p])∧Below base w0 w1∧W.grownBy w1 v.ownBlock ∧(v1.ownBlock = v.ownBlock∨∃ b,v1.ownBlock = some b∧W.heap.size≤b):=by
 refine append_extract (P:=P) (t:=t) (v:=v) (y:=.slice (some ⟨W.heap.size,0,none⟩) 1 1) (Φ:=fun v1 w1=>d.R e w1 base ok v1 (xs ++ [p])∧Below base w0 w1∧W.grownBy w1 v.ownBlock ∧(v1.ownBlock = v.ownBlock∨∃ b,v1.ownBlock = some b∧W.heap.size≤b)) ?_ ty
 intro o a Kc Q hg ho hK
 have hw : Region.wanted o (yielded #[] a.tmps) = true:=by simp [Region.wanted,hg]
 have := Kd.R_append_step (P := P) (ops := #[]) (o := o) (a := a) (Q := Q) (Kc := Kc) d (w0 := w0) (W := W) base hw (.const v) (.const (.slice (some ⟨W.heap.size, 0, none⟩) 1 1)) t e z bytes ho ht hinfo hz hs0 hb0 v xs p cs ok okp rfl rfl hp hokp hfresh HO HB hbase hl
  (fun v1 w1 h1 h2 h3 h4=>hK v1 w1 ⟨h1,h2,h3,h4⟩)
 rw [if_pos hw] at this
 exact this
end Go.Proofs.Ytnfmeafiaipplaa.Lib

namespace Go.Proofs.Ytnfmeafiaipplaa.S
open Go.Proofs.Ytnfmeafiaipplaa.Lib
open Go.Maps (Keyed)
open Go.RowKit Go.Proofs.YtnfmeafiaipplaaW.PrintWords Go.Proofs.YtnfmeafiaipplaaW.PrintLast Go.Proofs.YtnfmeafiaipplaaW.PrintMore
attribute [local go_sem] max2_int min2_int max_two min_two max_three min_three max_four min_four
set_option linter.unusedVariables false
set_option linter.unusedSimpArgs false

def errW : Option Int → Value
 | none=>.nilIface
 | some c=>.iface 0 (.int .i64 c)
theorem errW_none : errW none = .nilIface:=rfl
theorem errW_some (c : Int) : errW (some c) = .iface 0 (.int .i64 c):=rfl
theorem info3 :(Try.prog.info? 3).map (fun i=>(i.zero,i.size,i.bytes)) = some (some (.int .i64 0),1,8):=by kernel_rfl
theorem info23 :(Try.prog.info? 23).map (fun i=>(i.zero,i.size,i.bytes)) = some (some (.agg #[(.int .i64 0),(.int .i64 0)]),2,16):=by kernel_rfl
theorem info39 :(Try.prog.info? 39).map (fun i=>(i.zero,i.size,i.bytes)) = some (some (.agg #[(.int .i64 0),(.int .i64 0),(.int .i64 0)]),3,24):=by kernel_rfl
theorem info98 :(Try.prog.info? 98).map (fun i=>(i.zero,i.size,i.bytes)) = some (some (.agg #[(.int .i64 0),(.int .i64 0),(.int .i64 0),(.int .i64 0)]),4,32):=by kernel_rfl
-- the values' own types
structure S39 where
 f0 : Int
 f1 : Int
 f2 : Int
def z39 : S39:=⟨(0 : Int),(0 : Int),(0 : Int)⟩
def k39 : Kd S39:=Kd.iso (Kd.pair (Kd.int .i64) (Kd.pair (Kd.int .i64) (Kd.int .i64))) (fun x : S39=>(x.f0,x.f1,x.f2))
theorem k39_open {w : World} {x : S39} {cs : List Value} (h : k39.K w x cs) : cs = [.int .i64 x.f0,.int .i64 x.f1,.int .i64 x.f2]:=by
 obtain ⟨_,_,rfl,rfl,⟨_,_,rfl,rfl,rfl⟩⟩:=h
 exact rfl
theorem k39_mk (w : World) (x : S39)  : k39.K w x [.int .i64 x.f0,.int .i64 x.f1,.int .i64 x.f2]:=⟨[.int .i64 x.f0],[.int .i64 x.f1,.int .i64 x.f2],rfl,rfl,⟨[.int .i64 x.f1],[.int .i64 x.f2],rfl,rfl,rfl⟩⟩
theorem k39_mkM (w : World) (base : Nat) (ok : Nat→Prop) (x : S39)  : k39.M w base ok x [.int .i64 x.f0,.int .i64 x.f1,.int .i64 x.f2]:=⟨[.int .i64 x.f0],[.int .i64 x.f1,.int .i64 x.f2],rfl,rfl,⟨[.int .i64 x.f1],[.int .i64 x.f2],rfl,rfl,rfl⟩⟩
def rd_T39 (xs : List S39) (i : Int) : S39:=xs.getD i.toNat z39
theorem at_T39 {w : World} {A : Option Addr} {n : Nat} {xs : List S39} (h : Kd.C k39 w A n xs) (i : Int) (h0 : 0≤i) (h1 : i < n) : ∃ ad ,A = some ad∧w.cell? (ad.add (i.toNat * 3)) = some (.int .i64 (rd_T39 xs i).f0)∧w.cell? ⟨(ad.add (i.toNat * 3)).block,(ad.add (i.toNat * 3)).off + 1,none⟩ = some (.int .i64 (rd_T39 xs i).f1)∧w.cell? ⟨(ad.add (i.toNat * 3)).block,(ad.add (i.toNat * 3)).off + 2,none⟩ = some (.int .i64 (rd_T39 xs i).f2):=by
 obtain ⟨ad,c,e,_,hK,hc0⟩:=Kd.C_get h z39 i h0 h1
 have hc : ∀ j u,c[j]? = some u→w.cell? (ad.add (i.toNat * 3 + j)) = some u:=hc0
 obtain rfl:=k39_open hK
 exact⟨ad,e,hc 0 _ rfl,by rw [← add_field _ _ 1 (by omega)];exact hc 1 _ rfl,by rw [← add_field _ _ 2 (by omega)];exact hc 2 _ rfl⟩
structure S98 where
 f0 : Int
 f1 : Int
 f2 : Int
 f3 : Int
def z98 : S98:=⟨(0 : Int),(0 : Int),(0 : Int),(0 : Int)⟩
def k98 : Kd S98:=Kd.iso (Kd.pair (Kd.int .i64) (Kd.pair (Kd.int .i64) (Kd.pair (Kd.int .i64) (Kd.int .i64)))) (fun x : S98=>(x.f0,x.f1,x.f2,x.f3))
theorem k98_open {w : World} {x : S98} {cs : List Value} (h : k98.K w x cs) : cs = [.int .i64 x.f0,.int .i64 x.f1,.int .i64 x.f2,.int .i64 x.f3]:=by
 obtain ⟨_,_,rfl,rfl,⟨_,_,rfl,rfl,⟨_,_,rfl,rfl,rfl⟩⟩⟩:=h
 exact rfl
theorem k98_mkM (w : World) (base : Nat) (ok : Nat→Prop) (x : S98)  : k98.M w base ok x [.int .i64 x.f0,.int .i64 x.f1,.int .i64 x.f2,.int .i64 x.f3]:=⟨[.int .i64 x.f0],[.int .i64 x.f1,.int .i64 x.f2,.int .i64 x.f3],rfl,rfl,⟨[.int .i64 x.f1],[.int .i64 x.f2,.int .i64 x.f3],rfl,rfl,⟨[.int .i64 x.f2],[.int .i64 x.f3],rfl,rfl,rfl⟩⟩⟩
def rd_T98 (xs : List S98) (i : Int) : S98:=xs.getD i.toNat z98
theorem at_T98 {w : World} {A : Option Addr} {n : Nat} {xs : List S98} (h : Kd.C k98 w A n xs) (i : Int) (h0 : 0≤i) (h1 : i < n) : ∃ ad ,A = some ad∧w.cell? (ad.add (i.toNat * 4)) = some (.int .i64 (rd_T98 xs i).f0)∧w.cell? ⟨(ad.add (i.toNat * 4)).block,(ad.add (i.toNat * 4)).off + 1,none⟩ = some (.int .i64 (rd_T98 xs i).f1)∧w.cell? ⟨(ad.add (i.toNat * 4)).block,(ad.add (i.toNat * 4)).off + 2,none⟩ = some (.int .i64 (rd_T98 xs i).f2)∧w.cell? ⟨(ad.add (i.toNat * 4)).block,(ad.add (i.toNat * 4)).off + 3,none⟩ = some (.int .i64 (rd_T98 xs i).f3):=by
 obtain ⟨ad,c,e,_,hK,hc0⟩:=Kd.C_get h z98 i h0 h1
 have hc : ∀ j u,c[j]? = some u→w.cell? (ad.add (i.toNat * 4 + j)) = some u:=hc0
 obtain rfl:=k98_open hK
 exact⟨ad,e,hc 0 _ rfl,by rw [← add_field _ _ 1 (by omega)];exact hc 1 _ rfl,by rw [← add_field _ _ 2 (by omega)];exact hc 2 _ rfl,by rw [← add_field _ _ 3 (by omega)];exact hc 3 _ rfl⟩
structure S23 where
 f0 : Int
 f1 : Int
def z23 : S23:=⟨(0 : Int),(0 : Int)⟩
def k23 : Kd S23:=Kd.iso (Kd.pair (Kd.int .i64) (Kd.int .i64)) (fun x : S23=>(x.f0,x.f1))
theorem k23_open {w : World} {x : S23} {cs : List Value} (h : k23.K w x cs) : cs = [.int .i64 x.f0,.int .i64 x.f1]:=by
 obtain ⟨_,_,rfl,rfl,rfl⟩:=h
 exact rfl
theorem k23_mkM (w : World) (base : Nat) (ok : Nat→Prop) (x : S23)  : k23.M w base ok x [.int .i64 x.f0,.int .i64 x.f1]:=⟨[.int .i64 x.f0],[.int .i64 x.f1],rfl,rfl,rfl⟩
def rd_T23 (xs : List S23) (i : Int) : S23:=xs.getD i.toNat z23
theorem at_T23 {w : World} {A : Option Addr} {n : Nat} {xs : List S23} (h : Kd.C k23 w A n xs) (i : Int) (h0 : 0≤i) (h1 : i < n) : ∃ ad ,A = some ad∧w.cell? (ad.add (i.toNat * 2)) = some (.int .i64 (rd_T23 xs i).f0)∧w.cell? ⟨(ad.add (i.toNat * 2)).block,(ad.add (i.toNat * 2)).off + 1,none⟩ = some (.int .i64 (rd_T23 xs i).f1):=by
 obtain ⟨ad,c,e,_,hK,hc0⟩:=Kd.C_get h z23 i h0 h1
 have hc : ∀ j u,c[j]? = some u→w.cell? (ad.add (i.toNat * 2 + j)) = some u:=hc0
 obtain rfl:=k23_open hK
 exact⟨ad,e,hc 0 _ rfl,by rw [← add_field _ _ 1 (by omega)];exact hc 1 _ rfl⟩
structure S87 where
 f0 : Int
 f1 : Int
 f2 : Int
def z87 : S87:=⟨(0 : Int),(0 : Int),(0 : Int)⟩
def k87 : Kd S87:=Kd.iso (Kd.pair (Kd.int .i64) (Kd.pair (Kd.int .i64) (Kd.int .i64))) (fun x : S87=>(x.f0,x.f1,x.f2))
theorem k87_open {w : World} {x : S87} {cs : List Value} (h : k87.K w x cs) : cs = [.int .i64 x.f0,.int .i64 x.f1,.int .i64 x.f2]:=by
 obtain ⟨_,_,rfl,rfl,⟨_,_,rfl,rfl,rfl⟩⟩:=h
 exact rfl
theorem k87_mkM (w : World) (base : Nat) (ok : Nat→Prop) (x : S87)  : k87.M w base ok x [.int .i64 x.f0,.int .i64 x.f1,.int .i64 x.f2]:=⟨[.int .i64 x.f0],[.int .i64 x.f1,.int .i64 x.f2],rfl,rfl,⟨[.int .i64 x.f1],[.int .i64 x.f2],rfl,rfl,rfl⟩⟩
def rd_T87 (xs : List S87) (i : Int) : S87:=xs.getD i.toNat z87
theorem at_T87 {w : World} {A : Option Addr} {n : Nat} {xs : List S87} (h : Kd.C k87 w A n xs) (i : Int) (h0 : 0≤i) (h1 : i < n) : ∃ ad ,A = some ad∧w.cell? (ad.add (i.toNat * 3)) = some (.int .i64 (rd_T87 xs i).f0)∧w.cell? ⟨(ad.add (i.toNat * 3)).block,(ad.add (i.toNat * 3)).off + 1,none⟩ = some (.int .i64 (rd_T87 xs i).f1)∧w.cell? ⟨(ad.add (i.toNat * 3)).block,(ad.add (i.toNat * 3)).off + 2,none⟩ = some (.int .i64 (rd_T87 xs i).f2):=by
 obtain ⟨ad,c,e,_,hK,hc0⟩:=Kd.C_get h z87 i h0 h1
 have hc : ∀ j u,c[j]? = some u→w.cell? (ad.add (i.toNat * 3 + j)) = some u:=hc0
 obtain rfl:=k87_open hK
 exact⟨ad,e,hc 0 _ rfl,by rw [← add_field _ _ 1 (by omega)];exact hc 1 _ rfl,by rw [← add_field _ _ 2 (by omega)];exact hc 2 _ rfl⟩
structure S89 where
 f0 : Int
 f1 : Int
 f2 : Bool

def loops_within.f (a0 : Int) (a1 : Int) (a2 : Int) : Option (Bool):=if a0 ≥ a1 then(some (decide (a0≤a2))) else(some false)
set_option maxHeartbeats 8000000 in
set_option maxRecDepth 100000 in
theorem loops_within.calls (a0 : Int) (a1 : Int) (a2 : Int) (r : Bool) (w : World) (h : loops_within.f a0 a1 a2 = some r) :
  Calls Try.prog 61 #[.int .i64 a0,.int .i64 a1,.int .i64 a2] w fun e w'=>e = .returned (.bool r)∧Drawn0 w w':=by
 have H :(if a0 ≥ a1 then(some (decide (a0≤a2))) else(some false)) = some r:=h
 clear h
 by_cases c4 : a0 ≥ a1
 ·rw [if_pos c4] at H
  have c4b0 : decide (a1≤a0) = true:=decide_eq_true c4
  clear c4
  obtain rfl:=Option.some.inj H
  go_enter Try.func61,Try.ntmps61
  go_wp2
  go_ret
  exact⟨by first | rfl |(simp;done) |(simp [*];done),by repeat(first | exact Drawn0.refl _ | apply Drawn0.step)⟩
 rw [if_neg c4] at H
 have c4b0 : decide (a1≤a0) = false:=decide_eq_false c4
 clear c4
 obtain rfl:=Option.some.inj H
 go_enter Try.func61,Try.ntmps61
 go_wp2
 go_ret
 exact⟨by first | rfl |(simp;done) |(simp [*];done),by repeat(first | exact Drawn0.refl _ | apply Drawn0.step)⟩

def loops_hasParts.f (a0_0 : Int) (a0_1 : Int) (a0_2 : Int) : Option (Bool):=if a0_0 = 4 then(some true) else(some (a0_0 == 5))
set_option maxHeartbeats 8000000 in
set_option maxRecDepth 100000 in
theorem loops_hasParts.calls (a0_0 : Int) (a0_1 : Int) (a0_2 : Int) (r : Bool) (w : World) (h : loops_hasParts.f a0_0 a0_1 a0_2 = some r) :
  Calls Try.prog 45 #[.agg #[.int .i64 a0_0,.int .i64 a0_1,.int .i64 a0_2]] w fun e w'=>e = .returned (.bool r)∧Below w.heap.size w w':=by
 have hu39:=Try.underlying39
 have HB:=Aside0.mk (Below.refl w.heap.size w)
 have H :(if a0_0 = 4 then(some true) else(some (a0_0 == 5))) = some r:=h
 clear h
 by_cases c2 : a0_0 = 4
 rotate_left
 ·rw [if_neg c2] at H
  have c2b0 :(a0_0 == 4) = false:=beq_eq_false_iff_ne.mpr c2
  have c2b1 :(a0_0 != 4) = true:=bne_iff_ne.mpr c2
  obtain rfl:=Option.some.inj H
  go_enter Try.func45,Try.ntmps45
  go_wp2_with (first |((with_reducible refine gate_dst (N:=1) rfl ?_);refine box_event ?hg (N:=1) ?hd (cs:=#[.int .i64 a0_0,.int .i64 a0_1,.int .i64 a0_2]) (t:=39) ?hr ?_;(case hd=>rfl);(case hg=>rfl);(case hr=>first |(go_simp;done) |(go_simp;rfl));intro gb108 hg w5 hbox hb;have n0_:=Aside0.mk (bwT (by repeat(first |(with_reducible first | exact HB.out | apply bwA | apply bwN | apply bw1) | exact HB.out)) hb);have n1_:=Aside0.mk (hbox);have n2_:=Aside0.mk ((by rw [hg];exact(bwZ (by repeat(first |(with_reducible first | exact HB.out | apply bwA | apply bwN | apply bw1) | exact HB.out))) : w.heap.size≤gb108));have n3_:=Aside0.mk ((by rw [hg];exact(bwZ (by repeat(first |(with_reducible first | exact HB.out | apply bwA | apply bwN | apply bw1) | exact HB.out))) : w.heap.size≤gb108));clear HB;have HB:=n0_;have BK108:=n1_;have GW108:=n2_;have GE108:=n3_;clear n0_ n1_ n2_ n3_;clear hb hbox hg;have hcz6_0 : w5.cell? ⟨gb108,0,none⟩ = some (.int .i64 a0_0):=(bkC BK108.out 0).trans rfl;have hcz6_1 : w5.cell? ⟨gb108,1,none⟩ = some (.int .i64 a0_1):=(bkC BK108.out 1).trans rfl;have hcz6_2 : w5.cell? ⟨gb108,2,none⟩ = some (.int .i64 a0_2):=(bkC BK108.out 2).trans rfl;have hfz6_0:=bkF BK108.out 0;have hfz6_1:=bkF BK108.out 1;have hfz6_2:=bkF BK108.out 2))
  go_ret
  exact⟨by first | rfl |(simp [errW_none,errW_some] <;> rfl) |(simp [*,errW_none,errW_some] <;> rfl),by repeat(first |(with_reducible first | exact HB.out | apply bwA | apply bwN | apply bw1 | refine bwS ?_ GE108.out) | exact HB.out)⟩
 rw [if_pos c2] at H
 have c2b0 :(a0_0 == 4) = true:=beq_iff_eq.mpr c2
 have c2b1 :(a0_0 != 4) = false:=bne_eq_false_iff_eq.mpr c2
 clear c2
 obtain rfl:=Option.some.inj H
 go_enter Try.func45,Try.ntmps45
 go_wp2_with (first |((with_reducible refine gate_dst (N:=1) rfl ?_);refine box_event ?hg (N:=1) ?hd (cs:=#[.int .i64 a0_0,.int .i64 a0_1,.int .i64 a0_2]) (t:=39) ?hr ?_;(case hd=>rfl);(case hg=>rfl);(case hr=>first |(go_simp;done) |(go_simp;rfl));intro gb108 hg w3 hbox hb;have n0_:=Aside0.mk (bwT (by repeat(first |(with_reducible first | exact HB.out | apply bwA | apply bwN | apply bw1) | exact HB.out)) hb);have n1_:=Aside0.mk (hbox);have n2_:=Aside0.mk ((by rw [hg];exact(bwZ (by repeat(first |(with_reducible first | exact HB.out | apply bwA | apply bwN | apply bw1) | exact HB.out))) : w.heap.size≤gb108));have n3_:=Aside0.mk ((by rw [hg];exact(bwZ (by repeat(first |(with_reducible first | exact HB.out | apply bwA | apply bwN | apply bw1) | exact HB.out))) : w.heap.size≤gb108));clear HB;have HB:=n0_;have BK108:=n1_;have GW108:=n2_;have GE108:=n3_;clear n0_ n1_ n2_ n3_;clear hb hbox hg;have hcz4_0 : w3.cell? ⟨gb108,0,none⟩ = some (.int .i64 a0_0):=(bkC BK108.out 0).trans rfl;have hcz4_1 : w3.cell? ⟨gb108,1,none⟩ = some (.int .i64 a0_1):=(bkC BK108.out 1).trans rfl;have hcz4_2 : w3.cell? ⟨gb108,2,none⟩ = some (.int .i64 a0_2):=(bkC BK108.out 2).trans rfl;have hfz4_0:=bkF BK108.out 0;have hfz4_1:=bkF BK108.out 1;have hfz4_2:=bkF BK108.out 2))
 go_ret
 exact⟨by first | rfl |(simp [errW_none,errW_some] <;> rfl) |(simp [*,errW_none,errW_some] <;> rfl),by repeat(first |(with_reducible first | exact HB.out | apply bwA | apply bwN | apply bw1 | refine bwS ?_ GE108.out) | exact HB.out)⟩

mutual
def loops_areTypes.l0 : Nat → List (S39) → List (S39) → Int → Int → Option (Bool)
 | 0,_,_,_,_=>none
 | k + 1,x0,x10,x11,x12=>if x12 < x11 then(if 0≤x12 then(if x12 < (x10.length : Int) then((loops_hasParts.f ((rd_T39 x10 x12).f0) ((rd_T39 x10 x12).f1) ((rd_T39 x10 x12).f2)).bind fun t112=>(if t112 = true then(loops_areTypes.j1 k x0 (wrap64 ((x0.length : Int) - 1)) x10 x11 x12 ((rd_T39 x10 x12).f0) ((rd_T39 x10 x12).f1) ((rd_T39 x10 x12).f2)) else(loops_areTypes.j1 k x0 0 x10 x11 x12 ((rd_T39 x10 x12).f0) ((rd_T39 x10 x12).f1) ((rd_T39 x10 x12).f2)))) else(none)) else(none)) else(some true)
def loops_areTypes.j1 : Nat → List (S39) → Int → List (S39) → Int → Int → Int → Int → Int → Option (Bool)
 | 0,_,_,_,_,_,_,_,_=>none
 | k + 1,x0,x5,x10,x11,x12,x112000,x112001,x112002=>(loops_within.f x112000 0 5).bind fun t113=>(if t113 = true then((loops_within.f x112001 0 x5).bind fun t114=>(if t114 = true then((loops_within.f x112002 0 x5).bind fun t115=>(if t115 = true then(loops_areTypes.l0 k x0 x10 x11 (wrap64 (x12 + 1))) else(some false))) else(some false))) else(some false))
end
def loops_areTypes.f (k : Nat) (l0 : List (S39)) : Option (Bool):=(loops_within.f (l0.length : Int) 1 24).bind fun t109=>(if t109 = true then(loops_areTypes.l0 k l0 l0 (l0.length : Int) 0) else(some false))
theorem loops_areTypes.mono_l : ∀ k, (∀ y0 y1 y2 y3, LeO (loops_areTypes.l0 k y0 y1 y2 y3) (loops_areTypes.l0 (k + 1) y0 y1 y2 y3)) ∧ (∀ y0 y1 y2 y3 y4 y5 y6 y7, LeO (loops_areTypes.j1 k y0 y1 y2 y3 y4 y5 y6 y7) (loops_areTypes.j1 (k + 1) y0 y1 y2 y3 y4 y5 y6 y7))
 | 0=>⟨fun _ _ _ _ r h=>by simp [loops_areTypes.l0] at h,fun _ _ _ _ _ _ _ _ r h=>by simp [loops_areTypes.j1] at h⟩
 | k + 1=>by
  obtain ⟨ih0,ih1⟩:=loops_areTypes.mono_l k
  refine⟨?_,?_⟩
  ·intro y0 y1 y2 y3
   unfold loops_areTypes.l0
   repeat' first
   |(with_reducible exact ih0 _ _ _ _)
   |(with_reducible exact ih1 _ _ _ _ _ _ _ _)
   |(with_reducible exact LeO.refl _)
   |(with_reducible exact LeO.none _)
   |(with_reducible refine LeO.ite ?_ ?_)
   |(with_reducible refine LeO.bind ?_ (fun _=>?_))
   | exact ih0 _ _ _ _
   | exact ih1 _ _ _ _ _ _ _ _
   | exact LeO.none _
   | refine LeO.ite ?_ ?_
   | refine LeO.bind ?_ (fun _=>?_)
  ·intro y0 y1 y2 y3 y4 y5 y6 y7
   unfold loops_areTypes.j1
   repeat' first
   |(with_reducible exact ih0 _ _ _ _)
   |(with_reducible exact ih1 _ _ _ _ _ _ _ _)
   |(with_reducible exact LeO.refl _)
   |(with_reducible exact LeO.none _)
   |(with_reducible refine LeO.ite ?_ ?_)
   |(with_reducible refine LeO.bind ?_ (fun _=>?_))
   | exact ih0 _ _ _ _
   | exact ih1 _ _ _ _ _ _ _ _
   | exact LeO.none _
   | refine LeO.ite ?_ ?_
   | refine LeO.bind ?_ (fun _=>?_)
theorem loops_areTypes.mono : ∀ a0 k,LeO (loops_areTypes.f k a0) (loops_areTypes.f (k + 1) a0):=by
 intro a0 k
 obtain ⟨ih0,ih1⟩:=loops_areTypes.mono_l k
 unfold loops_areTypes.f
 repeat' first
   |(with_reducible exact ih0 _ _ _ _)
   |(with_reducible exact ih1 _ _ _ _ _ _ _ _)
   |(with_reducible exact LeO.refl _)
   |(with_reducible exact LeO.none _)
   |(with_reducible refine LeO.ite ?_ ?_)
   |(with_reducible refine LeO.bind ?_ (fun _=>?_))
   | exact ih0 _ _ _ _
   | exact ih1 _ _ _ _ _ _ _ _
   | exact LeO.none _
   | refine LeO.ite ?_ ?_
   | refine LeO.bind ?_ (fun _=>?_)
set_option maxHeartbeats 8000000 in
set_option maxRecDepth 100000 in
theorem loops_areTypes.calls (k : Nat) (A0 : Option Addr) (c0 : Nat) (l0 : List (S39)) (r : Bool) (w : World) (hr0 : Kd.C k39 w A0 l0.length l0) (hc0 : l0.length ≤ c0) (h : loops_areTypes.f k l0 = some r) :
  Calls Try.prog 47 #[.slice A0 l0.length c0] w fun e w'=>e = .returned (.bool r)∧Below w.heap.size w w':=by
 have hu39:=Try.underlying39
 have HR0:=Aside0.mk hr0
 have HC0:=Aside0.mk hc0
 clear hr0 hc0
 have HB:=Aside0.mk (Below.refl w.heap.size w)
 have H :((loops_within.f (l0.length : Int) 1 24).bind fun t109=>(if t109 = true then(loops_areTypes.l0 k l0 l0 (l0.length : Int) 0) else(some false))) = some r:=h
 clear h
 replace H:=Option.bind_eq_some_iff.mp H
 obtain ⟨t109,A20,H⟩:=H
 replace H :(if t109 = true then(loops_areTypes.l0 k l0 l0 (l0.length : Int) 0) else(some false)) = some r:=H
 have A2:=Aside0.mk A20
 clear A20
 by_cases c3 : t109 = true
 rotate_left
 ·replace c3 := Bool.eq_false_iff.mpr c3
  subst c3
  have H1 :(some false) = some r:=by rw [if_neg (show ¬ (false = true) by decide)] at H;exact H
  clear H
  have H:=H1
  clear H1
  obtain rfl:=Option.some.inj H
  go_enter Try.func47,Try.ntmps47
  go_wp2_with (first |((with_reducible refine gate_callee (f:=61) rfl ?_);refine goesL_ (some 8) rfl rfl Try.func61 (by kernel_rfl) rfl #[.int .i64 (l0.length : Int),.int .i64 1,.int .i64 24] rfl (by(try simp only [List.map_toArray,List.map_cons,List.map_nil]);first | done | rfl |(simp only [List.length_drop,List.length_take];rfl)) ?_;(with_reducible refine(loops_within.calls (l0.length : Int) 1 24 false _ A2.out).mono ?_);rintro e w' ⟨rfl,⟨nd,rfl⟩⟩;refine⟨_,rfl,?_⟩))
  go_ret
  exact⟨by first | rfl |(simp [errW_none,errW_some] <;> rfl) |(simp [*,errW_none,errW_some] <;> rfl),by repeat(first |(with_reducible first | exact HB.out | apply bwA | apply bwN | apply bw1) | exact HB.out)⟩
 subst c3
 have H1 :(loops_areTypes.l0 k l0 l0 (l0.length : Int) 0) = some r:=by rw [if_pos rfl] at H;exact H
 clear H
 have H:=H1
 clear H1
 have H':=Aside0.mk H
 clear H
 go_enter Try.func47,Try.ntmps47
 go_wp2_with (first |((with_reducible refine gate_callee (f:=61) rfl ?_);refine goesL_ (some 8) rfl rfl Try.func61 (by kernel_rfl) rfl #[.int .i64 (l0.length : Int),.int .i64 1,.int .i64 24] rfl (by(try simp only [List.map_toArray,List.map_cons,List.map_nil]);first | done | rfl |(simp only [List.length_drop,List.length_take];rfl)) ?_;(with_reducible refine(loops_within.calls (l0.length : Int) 1 24 true _ A2.out).mono ?_);rintro e w' ⟨rfl,⟨nd,rfl⟩⟩;refine⟨_,rfl,?_⟩))
 go_loopg [12] k (fun kq v12 w'=>∃ (x12_1 : Int),v12 = .int .i64 x12_1∧Aside0 (loops_areTypes.l0 kq l0 l0 (l0.length : Int) x12_1 = some r)∧Aside0 (kq≤k)∧Aside0 (Below w.heap.size w w'))
 case atStart=>exact⟨(0),(by first | rfl |(simp;done) |(simp [*];done)),H',⟨Nat.le_refl _⟩,⟨by repeat(first |(with_reducible first | exact HB.out | apply bwA | apply bwN | apply bw1) | exact HB.out)⟩⟩
 clear H'
 try clear p2
 try clear c3
 obtain ⟨x12_1,rfl,HA,HK1,HB⟩:=hrel
 cases gk with
 | zero=>exact absurd HA.out (by simp [loops_areTypes.l0])
 | succ k1 =>
  have H:=HA.out
  clear HA
  simp only [loops_areTypes.l0] at H
  by_cases c4 : x12_1 < (l0.length : Int)
  rotate_left
  ·rw [if_neg c4] at H
   have c4b0 : decide (x12_1 < (l0.length : Int)) = false:=decide_eq_false c4
   clear c4
   obtain rfl:=Option.some.inj H
   go_wp2
   go_ret
   exact⟨by first | rfl |(simp [errW_none,errW_some] <;> rfl) |(simp [*,errW_none,errW_some] <;> rfl),by repeat(first |(with_reducible first | exact HB.out | apply bwA | apply bwN | apply bw1) | exact HB.out)⟩
  rw [if_pos c4] at H
  have c4b0 : decide (x12_1 < (l0.length : Int)) = true:=decide_eq_true c4
  clear c4
  by_cases c5 : 0≤x12_1
  rotate_left
  ·rw [if_neg c5] at H
   exact absurd H (by simp)
  rw [if_pos c5] at H
  have c5b0 : decide (0≤x12_1) = true:=decide_eq_true c5
  clear c5
  by_cases c6 : x12_1 < (l0.length : Int)
  rotate_left
  ·rw [if_neg c6] at H
   exact absurd H (by simp)
  rw [if_pos c6] at H
  have c6b0 : decide (x12_1 < (l0.length : Int)) = true:=decide_eq_true c6
  clear c6
  replace H:=Option.bind_eq_some_iff.mp H
  obtain ⟨t112,A70,H⟩:=H
  replace H :(if t112 = true then(loops_areTypes.j1 k1 l0 (wrap64 ((l0.length : Int) - 1)) l0 (l0.length : Int) x12_1 ((rd_T39 l0 x12_1).f0) ((rd_T39 l0 x12_1).f1) ((rd_T39 l0 x12_1).f2)) else(loops_areTypes.j1 k1 l0 0 l0 (l0.length : Int) x12_1 ((rd_T39 l0 x12_1).f0) ((rd_T39 l0 x12_1).f1) ((rd_T39 l0 x12_1).f2))) = some r:=H
  have A7:=Aside0.mk A70
  clear A70
  have HC8:=Aside0.mk H
  clear H
  have p110 : 0 ≤(x12_1 : Int):=of_decide_eq_true (by first |(with_reducible assumption) | assumption)
  have q110 : x12_1 < (l0.length : Int):=of_decide_eq_true (by first |(with_reducible assumption) | assumption)
  obtain ⟨ad110,e110,hx110_0,hx110_1,hx110_2⟩:=at_T39 HR0.out x12_1 p110 q110
  cases e110
  replace hx110_0:=(HB.out.cell (World.block_lt_of_cell? w _ hx110_0)).trans hx110_0
  replace hx110_1:=(HB.out.cell (World.block_lt_of_cell? w _ hx110_1)).trans hx110_1
  replace hx110_2:=(HB.out.cell (World.block_lt_of_cell? w _ hx110_2)).trans hx110_2
  replace p110:=eq_true p110
  replace q110:=eq_true q110
  go_upto_if 17 with (first |((with_reducible refine gate_dst (N:=4) rfl ?_);refine box_event ?hg (N:=4) ?hd (cs:=#[.int .i64 0,.int .i64 0,.int .i64 0]) (t:=39) ?hr ?_;(case hd=>rfl);(case hg=>rfl);(case hr=>first |(go_simp;done) |(go_simp;rfl));intro gb111 hg w9 hbox hb;have n0_:=Aside0.mk (bwT (by repeat(first |(with_reducible first | exact HB.out | apply bwA | apply bwN | apply bw1) | exact HB.out)) hb);have n1_:=Aside0.mk (hbox);have n2_:=Aside0.mk ((by rw [hg];exact(bwZ (by repeat(first |(with_reducible first | exact HB.out | apply bwA | apply bwN | apply bw1) | exact HB.out))) : w.heap.size≤gb111));have n3_:=Aside0.mk ((by rw [hg];exact(bwZ (by repeat(first |(with_reducible first | exact HB.out | apply bwA | apply bwN | apply bw1) | exact HB.out))) : w.heap.size≤gb111));clear HB;have HB:=n0_;have BK111:=n1_;have GW111:=n2_;have GE111:=n3_;clear n0_ n1_ n2_ n3_;clear hb hbox hg;have hcz10_0 : w9.cell? ⟨gb111,0,none⟩ = some (.int .i64 0):=(bkC BK111.out 0).trans rfl;have hcz10_1 : w9.cell? ⟨gb111,1,none⟩ = some (.int .i64 0):=(bkC BK111.out 1).trans rfl;have hcz10_2 : w9.cell? ⟨gb111,2,none⟩ = some (.int .i64 0):=(bkC BK111.out 2).trans rfl;have hfz10_0:=bkF BK111.out 0;have hfz10_1:=bkF BK111.out 1;have hfz10_2:=bkF BK111.out 2) |((with_reducible refine gate_callee (f:=45) rfl ?_);refine goesL_ (some 17) rfl rfl Try.func45 (by kernel_rfl) rfl #[.agg #[.int .i64 ((rd_T39 l0 x12_1).f0),.int .i64 ((rd_T39 l0 x12_1).f1),.int .i64 ((rd_T39 l0 x12_1).f2)]] rfl (by(try simp only [List.map_toArray,List.map_cons,List.map_nil]);first | done | rfl |(simp only [List.length_drop,List.length_take];rfl)) ?_;(with_reducible refine(loops_hasParts.calls ((rd_T39 l0 x12_1).f0) ((rd_T39 l0 x12_1).f1) ((rd_T39 l0 x12_1).f2) t112 _ A7.out).mono ?_);rintro e w11 ⟨rfl,hb⟩;refine⟨_,rfl,?_⟩;have n0_:=Aside0.mk (bkB (g:=gb111) (o:=.cells #[.int .i64 ((rd_T39 l0 x12_1).f0),.int .i64 ((rd_T39 l0 x12_1).f1),.int .i64 ((rd_T39 l0 x12_1).f2)] 39 (0,0)) (by(with_reducible repeat(first | refine bkN ?_ _ | refine bkD ?_ | refine bkA ?_ _));refine blk_put (cs:=#[.int .i64 ((rd_T39 l0 x12_1).f0),.int .i64 ((rd_T39 l0 x12_1).f1),.int .i64 0]) ?_ 2 _ rfl;(with_reducible repeat(first | refine bkN ?_ _ | refine bkD ?_ | refine bkA ?_ _));refine blk_put (cs:=#[.int .i64 ((rd_T39 l0 x12_1).f0),.int .i64 0,.int .i64 0]) ?_ 1 _ rfl;(with_reducible repeat(first | refine bkN ?_ _ | refine bkD ?_ | refine bkA ?_ _));refine blk_put (cs:=#[.int .i64 0,.int .i64 0,.int .i64 0]) ?_ 0 _ rfl;(with_reducible repeat(first | refine bkN ?_ _ | refine bkD ?_ | refine bkA ?_ _));exact BK111.out) hb);have n1_:=Aside0.mk (bwT (by repeat(first |(with_reducible first | exact HB.out | apply bwA | apply bwN | apply bw1 | refine bwS ?_ GE111.out) | exact HB.out)) hb);clear BK111;clear HB;have BK111:=n0_;have HB:=n1_;clear n0_ n1_;(try clear hb);(try clear hb2);(try clear hk);(try clear hi)))
  (try simp only [Act.put,List.setIfInBounds_toArray,List.set_cons_zero,List.set_cons_succ])
  go_cut [5] (fun v5 wc=>∃ (kq : Nat) (x5_7 : Int),v5 = .int .i64 x5_7∧Aside0 (loops_areTypes.j1 kq l0 x5_7 l0 (l0.length : Int) x12_1 ((rd_T39 l0 x12_1).f0) ((rd_T39 l0 x12_1).f1) ((rd_T39 l0 x12_1).f2) = some r)∧Aside0 (kq≤k1)∧Aside0 (wc.heap[gb111]? = some (.cells #[.int .i64 ((rd_T39 l0 x12_1).f0),.int .i64 ((rd_T39 l0 x12_1).f1),.int .i64 ((rd_T39 l0 x12_1).f2)] 39 (0,0)))∧Aside0 (Below w.heap.size w wc))
  case first =>
   have H:=HC8.out
   clear HC8
   by_cases c12 : t112 = true
   ·subst c12
    have H1 :(loops_areTypes.j1 k1 l0 (wrap64 ((l0.length : Int) - 1)) l0 (l0.length : Int) x12_1 ((rd_T39 l0 x12_1).f0) ((rd_T39 l0 x12_1).f1) ((rd_T39 l0 x12_1).f2)) = some r:=by rw [if_pos rfl] at H;exact H
    clear H
    have H:=H1
    clear H1
    have H':=Aside0.mk H
    clear H
    go_wp2
    go_meet
    exact⟨_,(wrap64 ((l0.length : Int) - 1)),(by first | rfl |(simp;done) |(simp [*];done)),H',⟨by have:=HK1.out;first | omega | exact Nat.le_refl _⟩,⟨by(with_reducible repeat(first | refine bkN ?_ _ | refine bkD ?_ | refine bkA ?_ _));exact BK111.out⟩,⟨by repeat(first |(with_reducible first | exact HB.out | apply bwA | apply bwN | apply bw1 | refine bwS ?_ GE111.out) | exact HB.out)⟩⟩
   replace c12:=Bool.eq_false_iff.mpr c12
   subst c12
   have H1 :(loops_areTypes.j1 k1 l0 0 l0 (l0.length : Int) x12_1 ((rd_T39 l0 x12_1).f0) ((rd_T39 l0 x12_1).f1) ((rd_T39 l0 x12_1).f2)) = some r:=by rw [if_neg (show ¬ (false = true) by decide)] at H;exact H
   clear H
   have H:=H1
   clear H1
   have H':=Aside0.mk H
   clear H
   go_wp2
   go_meet
   exact⟨_,(0),(by first | rfl |(simp;done) |(simp [*];done)),H',⟨by have:=HK1.out;first | omega | exact Nat.le_refl _⟩,⟨by(with_reducible repeat(first | refine bkN ?_ _ | refine bkD ?_ | refine bkA ?_ _));exact BK111.out⟩,⟨by repeat(first |(with_reducible first | exact HB.out | apply bwA | apply bwN | apply bw1 | refine bwS ?_ GE111.out) | exact HB.out)⟩⟩
  case rest =>
   clear HC8
   try clear c1
   try clear p1
   try clear q1
   try clear hx1
   try clear p2
   try clear c3
   try clear c4
   try clear c4b0
   try clear c5
   try clear c5b0
   try clear c6
   try clear c6b0
   try clear p6
   try clear p11
   try clear q11
   try clear hx11
   try clear c12
   try clear hcz10_0
   try clear hcz10_1
   try clear hcz10_2
   try clear hfz10_0
   try clear hfz10_1
   try clear hfz10_2
   try clear hx110_0
   try clear hx110_1
   try clear hx110_2
   try clear p110
   try clear p2
   try clear q110
   obtain ⟨kq,x5_7,rfl,HA,HJ7,BK111,HB⟩:=hcut
   cases kq with
   | zero=>exact absurd HA.out (by simp [loops_areTypes.j1])
   | succ kj7 =>
    have H:=HA.out
    clear HA
    simp only [loops_areTypes.j1] at H
    replace H:=Option.bind_eq_some_iff.mp H
    obtain ⟨t113,A130,H⟩:=H
    replace H :(if t113 = true then((loops_within.f ((rd_T39 l0 x12_1).f1) 0 x5_7).bind fun t114=>(if t114 = true then((loops_within.f ((rd_T39 l0 x12_1).f2) 0 x5_7).bind fun t115=>(if t115 = true then(loops_areTypes.l0 kj7 l0 l0 (l0.length : Int) (wrap64 (x12_1 + 1))) else(some false))) else(some false))) else(some false)) = some r:=H
    have A13:=Aside0.mk A130
    clear A130
    by_cases c14 : t113 = true
    rotate_left
    ·replace c14 := Bool.eq_false_iff.mpr c14
     subst c14
     have H1 :(some false) = some r:=by rw [if_neg (show ¬ (false = true) by decide)] at H;exact H
     clear H
     have H:=H1
     clear H1
     obtain rfl:=Option.some.inj H
     have hcz22_0 : wc.cell? ⟨gb111,0,none⟩ = some (.int .i64 ((rd_T39 l0 x12_1).f0)):=(bkC BK111.out 0).trans rfl
     have hcz22_1 : wc.cell? ⟨gb111,1,none⟩ = some (.int .i64 ((rd_T39 l0 x12_1).f1)):=(bkC BK111.out 1).trans rfl
     have hcz22_2 : wc.cell? ⟨gb111,2,none⟩ = some (.int .i64 ((rd_T39 l0 x12_1).f2)):=(bkC BK111.out 2).trans rfl
     have hfz22_0:=bkF BK111.out 0
     have hfz22_1:=bkF BK111.out 1
     have hfz22_2:=bkF BK111.out 2
     go_wp2_with (first |((with_reducible refine gate_callee (f:=61) rfl ?_);refine goesL_ (some 23) rfl rfl Try.func61 (by kernel_rfl) rfl #[.int .i64 ((rd_T39 l0 x12_1).f0),.int .i64 0,.int .i64 5] rfl (by(try simp only [List.map_toArray,List.map_cons,List.map_nil]);first | done | rfl |(simp only [List.length_drop,List.length_take];rfl)) ?_;(with_reducible refine(loops_within.calls ((rd_T39 l0 x12_1).f0) 0 5 false _ A13.out).mono ?_);rintro e w' ⟨rfl,⟨nd,rfl⟩⟩;refine⟨_,rfl,?_⟩))
     go_ret
     exact⟨by first | rfl |(simp [errW_none,errW_some] <;> rfl) |(simp [*,errW_none,errW_some] <;> rfl),by repeat(first |(with_reducible first | exact HB.out | apply bwA | apply bwN | apply bw1 | refine bwS ?_ GE111.out) | exact HB.out)⟩
    subst c14
    have H1 :((loops_within.f ((rd_T39 l0 x12_1).f1) 0 x5_7).bind fun t114=>(if t114 = true then((loops_within.f ((rd_T39 l0 x12_1).f2) 0 x5_7).bind fun t115=>(if t115 = true then(loops_areTypes.l0 kj7 l0 l0 (l0.length : Int) (wrap64 (x12_1 + 1))) else(some false))) else(some false))) = some r:=by rw [if_pos rfl] at H;exact H
    clear H
    have H:=H1
    clear H1
    replace H:=Option.bind_eq_some_iff.mp H
    obtain ⟨t114,A150,H⟩:=H
    replace H :(if t114 = true then((loops_within.f ((rd_T39 l0 x12_1).f2) 0 x5_7).bind fun t115=>(if t115 = true then(loops_areTypes.l0 kj7 l0 l0 (l0.length : Int) (wrap64 (x12_1 + 1))) else(some false))) else(some false)) = some r:=H
    have A15:=Aside0.mk A150
    clear A150
    by_cases c16 : t114 = true
    rotate_left
    ·replace c16 := Bool.eq_false_iff.mpr c16
     subst c16
     have H1 :(some false) = some r:=by rw [if_neg (show ¬ (false = true) by decide)] at H;exact H
     clear H
     have H:=H1
     clear H1
     obtain rfl:=Option.some.inj H
     have hcz21_0 : wc.cell? ⟨gb111,0,none⟩ = some (.int .i64 ((rd_T39 l0 x12_1).f0)):=(bkC BK111.out 0).trans rfl
     have hcz21_1 : wc.cell? ⟨gb111,1,none⟩ = some (.int .i64 ((rd_T39 l0 x12_1).f1)):=(bkC BK111.out 1).trans rfl
     have hcz21_2 : wc.cell? ⟨gb111,2,none⟩ = some (.int .i64 ((rd_T39 l0 x12_1).f2)):=(bkC BK111.out 2).trans rfl
     have hfz21_0:=bkF BK111.out 0
     have hfz21_1:=bkF BK111.out 1
     have hfz21_2:=bkF BK111.out 2
     go_wp2_with (first |((with_reducible refine gate_callee (f:=61) rfl ?_);refine goesL_ (some 23) rfl rfl Try.func61 (by kernel_rfl) rfl #[.int .i64 ((rd_T39 l0 x12_1).f0),.int .i64 0,.int .i64 5] rfl (by(try simp only [List.map_toArray,List.map_cons,List.map_nil]);first | done | rfl |(simp only [List.length_drop,List.length_take];rfl)) ?_;(with_reducible refine(loops_within.calls ((rd_T39 l0 x12_1).f0) 0 5 true _ A13.out).mono ?_);rintro e w' ⟨rfl,⟨nd,rfl⟩⟩;refine⟨_,rfl,?_⟩) |(go_at_call 61;(with_reducible refine(loops_within.calls ((rd_T39 l0 x12_1).f1) 0 x5_7 false _ A15.out).mono ?_);rintro e w' ⟨rfl,⟨nd,rfl⟩⟩))
     go_ret
     exact⟨by first | rfl |(simp [errW_none,errW_some] <;> rfl) |(simp [*,errW_none,errW_some] <;> rfl),by repeat(first |(with_reducible first | exact HB.out | apply bwA | apply bwN | apply bw1 | refine bwS ?_ GE111.out) | exact HB.out)⟩
    subst c16
    have H1 :((loops_within.f ((rd_T39 l0 x12_1).f2) 0 x5_7).bind fun t115=>(if t115 = true then(loops_areTypes.l0 kj7 l0 l0 (l0.length : Int) (wrap64 (x12_1 + 1))) else(some false))) = some r:=by rw [if_pos rfl] at H;exact H
    clear H
    have H:=H1
    clear H1
    replace H:=Option.bind_eq_some_iff.mp H
    obtain ⟨t115,A170,H⟩:=H
    replace H :(if t115 = true then(loops_areTypes.l0 kj7 l0 l0 (l0.length : Int) (wrap64 (x12_1 + 1))) else(some false)) = some r:=H
    have A17:=Aside0.mk A170
    clear A170
    by_cases c18 : t115 = true
    rotate_left
    ·replace c18 := Bool.eq_false_iff.mpr c18
     subst c18
     have H1 :(some false) = some r:=by rw [if_neg (show ¬ (false = true) by decide)] at H;exact H
     clear H
     have H:=H1
     clear H1
     obtain rfl:=Option.some.inj H
     have hcz20_0 : wc.cell? ⟨gb111,0,none⟩ = some (.int .i64 ((rd_T39 l0 x12_1).f0)):=(bkC BK111.out 0).trans rfl
     have hcz20_1 : wc.cell? ⟨gb111,1,none⟩ = some (.int .i64 ((rd_T39 l0 x12_1).f1)):=(bkC BK111.out 1).trans rfl
     have hcz20_2 : wc.cell? ⟨gb111,2,none⟩ = some (.int .i64 ((rd_T39 l0 x12_1).f2)):=(bkC BK111.out 2).trans rfl
     have hfz20_0:=bkF BK111.out 0
     have hfz20_1:=bkF BK111.out 1
     have hfz20_2:=bkF BK111.out 2
     go_wp2_with (first |((with_reducible refine gate_callee (f:=61) rfl ?_);refine goesL_ (some 23) rfl rfl Try.func61 (by kernel_rfl) rfl #[.int .i64 ((rd_T39 l0 x12_1).f0),.int .i64 0,.int .i64 5] rfl (by(try simp only [List.map_toArray,List.map_cons,List.map_nil]);first | done | rfl |(simp only [List.length_drop,List.length_take];rfl)) ?_;(with_reducible refine(loops_within.calls ((rd_T39 l0 x12_1).f0) 0 5 true _ A13.out).mono ?_);rintro e w' ⟨rfl,⟨nd,rfl⟩⟩;refine⟨_,rfl,?_⟩) |(go_at_call 61;(with_reducible refine(loops_within.calls ((rd_T39 l0 x12_1).f1) 0 x5_7 true _ A15.out).mono ?_);rintro e w' ⟨rfl,⟨nd,rfl⟩⟩) |(go_at_call 61;(with_reducible refine(loops_within.calls ((rd_T39 l0 x12_1).f2) 0 x5_7 false _ A17.out).mono ?_);rintro e w' ⟨rfl,⟨nd,rfl⟩⟩))
     go_ret
     exact⟨by first | rfl |(simp [errW_none,errW_some] <;> rfl) |(simp [*,errW_none,errW_some] <;> rfl),by repeat(first |(with_reducible first | exact HB.out | apply bwA | apply bwN | apply bw1 | refine bwS ?_ GE111.out) | exact HB.out)⟩
    subst c18
    have H1 :(loops_areTypes.l0 kj7 l0 l0 (l0.length : Int) (wrap64 (x12_1 + 1))) = some r:=by rw [if_pos rfl] at H;exact H
    clear H
    have H:=H1
    clear H1
    have H':=Aside0.mk H
    clear H
    have hcz19_0 : wc.cell? ⟨gb111,0,none⟩ = some (.int .i64 ((rd_T39 l0 x12_1).f0)):=(bkC BK111.out 0).trans rfl
    have hcz19_1 : wc.cell? ⟨gb111,1,none⟩ = some (.int .i64 ((rd_T39 l0 x12_1).f1)):=(bkC BK111.out 1).trans rfl
    have hcz19_2 : wc.cell? ⟨gb111,2,none⟩ = some (.int .i64 ((rd_T39 l0 x12_1).f2)):=(bkC BK111.out 2).trans rfl
    have hfz19_0:=bkF BK111.out 0
    have hfz19_1:=bkF BK111.out 1
    have hfz19_2:=bkF BK111.out 2
    go_wp2_with (first |((with_reducible refine gate_callee (f:=61) rfl ?_);refine goesL_ (some 23) rfl rfl Try.func61 (by kernel_rfl) rfl #[.int .i64 ((rd_T39 l0 x12_1).f0),.int .i64 0,.int .i64 5] rfl (by(try simp only [List.map_toArray,List.map_cons,List.map_nil]);first | done | rfl |(simp only [List.length_drop,List.length_take];rfl)) ?_;(with_reducible refine(loops_within.calls ((rd_T39 l0 x12_1).f0) 0 5 true _ A13.out).mono ?_);rintro e w' ⟨rfl,⟨nd,rfl⟩⟩;refine⟨_,rfl,?_⟩) |(go_at_call 61;(with_reducible refine(loops_within.calls ((rd_T39 l0 x12_1).f1) 0 x5_7 true _ A15.out).mono ?_);rintro e w' ⟨rfl,⟨nd,rfl⟩⟩) |(go_at_call 61;(with_reducible refine(loops_within.calls ((rd_T39 l0 x12_1).f2) 0 x5_7 true _ A17.out).mono ?_);rintro e w' ⟨rfl,⟨nd,rfl⟩⟩))
    go_roundg kj7
    case measure=>have:=HK1.out;have:=HJ7.out;omega
    exact⟨(wrap64 (x12_1 + 1)),(by first | rfl |(simp;done) |(simp [*];done)),H',⟨by have:=HK1.out;have:=HJ7.out;omega⟩,⟨by repeat(first |(with_reducible first | exact HB.out | apply bwA | apply bwN | apply bw1 | refine bwS ?_ GE111.out) | exact HB.out)⟩⟩

def badNode (n : Nat) (i : Int) : Bool:=!decide (0≤i∧i ≤(n : Int) - 1)
theorem within_yes {a lo hi : Int} (h : lo≤a∧a≤hi) : loops_within.f a lo hi = some true:=by
 unfold loops_within.f
 rw [if_pos h.1,decide_eq_true h.2]
theorem within_no {a lo hi : Int} (h : ¬ (lo≤a∧a≤hi)) : loops_within.f a lo hi = some false:=by
 unfold loops_within.f
 by_cases c : a ≥ lo
 rotate_left
 ·rw [if_neg c]
 rw [if_pos c,decide_eq_false (fun h'=>h ⟨c,h'⟩)]
theorem within_b (i : Int) (n : Nat) : loops_within.f i 0 ((n : Int) - 1) = some (!badNode n i):=by
 unfold badNode
 by_cases h : 0≤i∧i ≤(n : Int) - 1
 ·rw [within_yes h,decide_eq_true h];rfl
 rw [within_no h,decide_eq_false h];rfl
def loops_areNodes.f (k : Nat) (l0 : List S39) (l1 : List Int) : Option Bool:=(loops_areTypes.f k l0).bind fun t=>if t = true then some (!(l1.any (badNode l0.length))) else some false
theorem loops_areNodes.mono : ∀ a0 a1 k,LeO (loops_areNodes.f k a0 a1) (loops_areNodes.f (k + 1) a0 a1):=by
 intro a0 a1 k
 unfold loops_areNodes.f
 exact LeO.bind (loops_areTypes.mono _ _) (fun _=>LeO.refl _)
set_option maxHeartbeats 800000 in
theorem nodes_fn.calls (n : Nat) (A : Option Addr) (c pa : Nat) (i : Int) (w : World) (ha : w.cell? ⟨pa, 0, none⟩ = some (.slice A n c)) (hn : (n : Int) ≤ 9223372036854775807) :
  Calls Try.prog 60 #[.int .i64 i,.pointer (some ⟨pa,0,none⟩)] w fun e w'=>e = .returned (.bool (badNode n i))∧Drawn0 w w':=by
 have hw : IntKind.i64.wrap ((n : Int) - 1) =(n : Int) - 1:=IntWalk.i64_in _ (by omega)
 have HV:=Aside0.mk (fun(W : World)=>loops_within.calls i 0 ((n : Int) - 1) (!badNode n i) W (within_b i n))
 have HN:=Aside0.mk hn
 cases hb : badNode n i with
 | true =>
  rw [hb] at HV
  clear hb
  go_enter Try.func60,Try.ntmps60
  go_wp2_with (go_at_call 61;go_must ((with_reducible refine(HV.out _).mono ?_);rintro e w1 ⟨rfl,⟨nd,rfl⟩⟩))
  go_ret
  exact⟨rfl,by repeat(first | exact Drawn0.refl _ | apply Drawn0.step)⟩
 | false =>
  rw [hb] at HV
  clear hb
  go_enter Try.func60,Try.ntmps60
  go_wp2_with (go_at_call 61;go_must ((with_reducible refine(HV.out _).mono ?_);rintro e w1 ⟨rfl,⟨nd,rfl⟩⟩))
  go_ret
  exact⟨rfl,by repeat(first | exact Drawn0.refl _ | apply Drawn0.step)⟩
set_option maxHeartbeats 800000 in
theorem nodes_index.calls (n : Nat) (A0 : Option Addr) (c0 pa : Nat) (hn : (n : Int) ≤ 9223372036854775807) (l : List Int) (A : Option Addr) (c1 : Nat) (w : World) (ha : w.cell? ⟨pa, 0, none⟩ = some (.slice A0 n c0)) (hr1 : Kd.C (Kd.int .i64) w A l.length l) :
  Calls Try.prog 68 #[.slice A l.length c1,.func (.func 60) #[] #[.pointer (some ⟨pa,0,none⟩)]] w fun e w'=>∃ r : Int,e = .returned (.int .i64 r)∧Drawn0 w w'∧Aside0 ((0≤r) =(l.any (badNode n) = true)):=by
 have hm :(l.length : Int)≤9223372036854775807:=by have:=hr1.2.1;omega
 have HR1:=Aside0.mk hr1
 have HA:=Aside0.mk (fun i m=>nodes_fn.calls n A0 c0 pa i (w.drewN m) ha hn)
 clear hr1 ha hn
 go_enter Try.func68,Try.ntmps68
 go_wp2
 go_loopw [8] (fun v8 wr=>∃ i : Int,v8 = .int .i64 i∧Aside0 (0≤i∧i≤l.length)∧Aside0 ((l.take i.toNat).any (badNode n) = false)∧Drawn0 w wr) (fun v8 _=>l.length - (intOf v8).toNat)
 case atStart=>exact⟨0,rfl,⟨by simp⟩,⟨rfl⟩,by repeat(first | exact Drawn0.refl _ | apply Drawn0.step)⟩
 obtain ⟨i,rfl,HI,HN,⟨nd,rfl⟩⟩:=hrel
 obtain ⟨p0,p1⟩:=HI.out
 by_cases c2 : i < (l.length : Int)
 rotate_left
 ·have c2b0 : decide (i < (l.length : Int)) = false := decide_eq_false c2
  have HF:=Aside0.mk (show(0 ≤(-1 : Int)) =(l.any (badNode n) = true) by
   have:=HN.out
   rw [List.take_of_length_le (by omega)] at this
   rw [this]
   simp)
  clear c2
  go_wp2
  go_ret
  exact⟨_,rfl,by repeat(first | exact Drawn0.refl _ | apply Drawn0.step),HF⟩
 have c2b0 : decide (i < (l.length : Int)) = true:=decide_eq_true c2
 obtain ⟨ad,ea,hx⟩:=Kd.at_int HR1.out i p0 c2
 cases ea
 have hlt : i.toNat < l.length:=by omega
 have hrd : rd l i = l[i.toNat]:=by
  unfold rd
  rw [List.getD_eq_getElem?_getD,List.getElem?_eq_getElem hlt,Option.getD_some]
 have htk : l.take (i + 1).toNat = l.take i.toNat ++ [rd l i]:=by
  rw [show(i + 1).toNat = i.toNat + 1 by omega,List.take_succ_eq_append_getElem hlt,hrd]
 have HC:=Aside0.mk (fun m=>HA.out (rd l i) m)
 have q0:=eq_true p0
 have q1:=eq_true c2
 cases c3 : badNode n (rd l i) with
 | true =>
  rw [c3] at HC
  have HF:=Aside0.mk (show(0≤i) =(l.any (badNode n) = true) from propext ⟨fun _=>List.any_eq_true.2 ⟨_,by rw [hrd];exact List.getElem_mem hlt,c3⟩,fun _=>p0⟩)
  clear hrd htk c2 c3 hlt p1 p0
  go_wp2_with (go_at_call 60;go_must ((with_reducible refine(HC.out _).mono ?_);rintro e w2 ⟨rfl,⟨nd2,rfl⟩⟩))
  go_ret
  exact⟨_,rfl,by repeat(first | exact Drawn0.refl _ | apply Drawn0.step),HF⟩
 | false =>
  rw [c3] at HC
  have HN2:=Aside0.mk (show(l.take (i + 1).toNat).any (badNode n) = false by
   rw [htk,List.any_append,HN.out]
   simp [c3])
  clear hrd htk c2 c3 hlt p0
  have hi : wrap64 (i + 1) = i + 1:=by have:=of_eq_true q1;have:=HI.out;unfold wrap64;omega
  go_wp2_with (go_at_call 60;go_must ((with_reducible refine(HC.out _).mono ?_);rintro e w2 ⟨rfl,⟨nd2,rfl⟩⟩))
  go_roundw
  case rel=>exact⟨i + 1,by go_num,⟨by have:=of_eq_true q1;have:=HI.out;omega⟩,HN2,by repeat(first | exact Drawn0.refl _ | apply Drawn0.step)⟩
  have:=of_eq_true q1;have:=HI.out;simp [intOf,hi];omega
set_option maxHeartbeats 800000 in
theorem nodes_contains.calls (n : Nat) (A : Option Addr) (c pa : Nat) (hn : (n : Int) ≤ 9223372036854775807) (A0 : Option Addr) (c0 : Nat) (l0 : List Int) (r : Bool) (w : World) (ha : w.cell? ⟨pa, 0, none⟩ = some (.slice A n c)) (hr0 : Kd.C (Kd.int .i64) w A0 l0.length l0) (h : l0.any (badNode n) = r) :
  Calls Try.prog 59 #[.slice A0 l0.length c0,.func (.func 60) #[] #[.pointer (some ⟨pa,0,none⟩)]] w fun e w'=>e = .returned (.bool r)∧Drawn0 w w':=by
 have HI:=Aside0.mk (nodes_index.calls n A c pa hn l0 A0 c0 w ha hr0)
 have HB:=Aside0.mk h
 clear h hr0 ha hn
 go_enter Try.func59,Try.ntmps59
 go_wp2_with (go_at_call 68;go_must ((with_reducible refine HI.out.mono ?_);rintro e w1 ⟨q,rfl,⟨nd,rfl⟩,hq⟩;have hqr : decide (0≤q) = r:=(by rw [← HB.out];cases hc : l0.any (badNode n) with | true=>exact decide_eq_true (by rw [hq.out];exact hc) | false=>exact decide_eq_false (by rw [hq.out,hc];decide));clear hq))
 go_ret
 exact⟨rfl,by repeat(first | exact Drawn0.refl _ | apply Drawn0.step)⟩
set_option maxHeartbeats 800000 in
theorem loops_areNodes.calls (k : Nat) (A0 : Option Addr) (c0 : Nat) (l0 : List S39) (A1 : Option Addr) (c1 : Nat) (l1 : List Int) (r : Bool) (w : World) (hr0 : Kd.C k39 w A0 l0.length l0) (hc0 : l0.length ≤ c0) (hr1 : Kd.C (Kd.int .i64) w A1 l1.length l1) (hc1 : l1.length ≤ c1) (h : loops_areNodes.f k l0 l1 = some r) :
  Calls Try.prog 40 #[.slice A0 l0.length c0,.slice A1 l1.length c1] w fun e w'=>e = .returned (.bool r)∧Below w.heap.size w w':=by
 have hn :(l0.length : Int)≤9223372036854775807:=by have:=hr0.2.1;omega
 unfold loops_areNodes.f at h
 replace h:=Option.bind_eq_some_iff.mp h
 obtain ⟨t,ht,h⟩:=h
 have HT:=Aside0.mk (loops_areTypes.calls k A0 c0 l0 t (w.alloc (.cells #[.slice A0 l0.length c0] 22)) (Kd.C_alloc hr0 _) hc0 ht)
 have hmf : ∀ (fn : Fn) (first cap : Array Value) (w : World),(Instr.makeFunc fn first cap).run Try.prog w = .ok (.func fn first cap) w:=fun _ _ _ _=>rfl
 have HBL:=Aside0.mk (fun(w1 : World) (hB : Below (w.alloc (.cells #[.slice A0 l0.length c0] 22)).heap.size (w.alloc (.cells #[.slice A0 l0.length c0] 22)) w1)=>(show Below w.heap.size w w1 from bwT (bwA (Below.refl _ _) _) hB))
 cases t with
 | false =>
  rw [if_neg (by decide)] at h
  obtain rfl:=Option.some.inj h
  clear h ht hr0 hr1 hc0 hc1
  go_enter Try.func40,Try.ntmps40
  go_wp2_with (go_at_call 47;go_must ((with_reducible refine HT.out.mono ?_);rintro e w1 ⟨rfl,hB⟩;have HB1:=Aside0.mk (HBL.out _ hB);clear hB))
  go_ret
  exact⟨rfl,HB1.out⟩
 | true =>
  rw [if_pos rfl] at h
  have HH:=Aside0.mk (Option.some.inj h)
  have HC:=Aside0.mk (fun(w1 : World) (hB : Below (w.alloc (.cells #[.slice A0 l0.length c0] 22)).heap.size (w.alloc (.cells #[.slice A0 l0.length c0] 22)) w1)=>nodes_contains.calls l0.length A0 c0 w.heap.size hn A1 c1 l1 (!r) w1 ((hB.cell (by simp)).trans ((bkC (heap_alloc_new w _) 0).trans rfl)) (Kd.C_below (Kd.C_alloc hr1 _) hB) (by rw [← HH.out,Bool.not_not]))
  clear h ht hr0 hr1 hc0 hc1
  go_enter Try.func40,Try.ntmps40
  go_wp2_with (first |(go_at_call 47;go_must ((with_reducible refine HT.out.mono ?_);rintro e w1 ⟨rfl,hB⟩;have HB1:=Aside0.mk (HBL.out _ hB);have HB2:=Aside0.mk hB;clear hB)) |(go_at_call 59;go_must ((with_reducible refine(HC.out _ HB2.out).mono ?_);rintro e w2 ⟨rfl,⟨nd,rfl⟩⟩)))
  go_ret
  exact⟨by simp,bwN HB1.out _⟩
end Go.Proofs.Ytnfmeafiaipplaa.S

namespace Go.Proofs.Ytnfmeafiaipplaa.Lib
open Go.Maps (Keyed)
set_option linter.unusedVariables false
theorem K6.own : laidOutB Try.prog = true:=by kernel_rfl
theorem K6.size : Try.prog.types.size = 130:=by kernel_rfl
theorem K6.cells3 : Try.prog.cellsOf 3 = 1:=by kernel_rfl
theorem K6.cells23 : Try.prog.cellsOf 23 = 2:=by kernel_rfl
theorem K6.cells98 : Try.prog.cellsOf 98 = 4:=by kernel_rfl
theorem K6.cells87 : Try.prog.cellsOf 87 = 3:=by kernel_rfl
theorem K6.wide23 :(match Try.prog.underlying 23 with | some (.array _ _) | some (.struct _)=>true | _=>false) = true:=by rw [Try.underlying23]
theorem K6.wide98 :(match Try.prog.underlying 98 with | some (.array _ _) | some (.struct _)=>true | _=>false) = true:=by rw [Try.underlying98]
theorem K6.wide87 :(match Try.prog.underlying 87 with | some (.array _ _) | some (.struct _)=>true | _=>false) = true:=by rw [Try.underlying87]
theorem K6.row23 :(23 : TypeId) < Try.prog.types.size:=of_decide_eq_true (by kernel_rfl)
theorem K6.kt23 : Try.prog.keyTypeAt 2 23 = true:=by kernel_rfl
set_option maxRecDepth 100000 in
theorem law23 : Keyed Try.prog 23:=Keyed.of_law (deep_law_laid K6.own (m:=2) (by omega) K6.row23 K6.kt23 K6.wide23)
theorem K6.row98 :(98 : TypeId) < Try.prog.types.size:=of_decide_eq_true (by kernel_rfl)
theorem K6.kt98 : Try.prog.keyTypeAt 2 98 = true:=by kernel_rfl
set_option maxRecDepth 100000 in
theorem law98 : Keyed Try.prog 98:=Keyed.of_law (deep_law_laid K6.own (m:=2) (by omega) K6.row98 K6.kt98 K6.wide98)
theorem K6.row87 :(87 : TypeId) < Try.prog.types.size:=of_decide_eq_true (by kernel_rfl)
theorem K6.kt87 : Try.prog.keyTypeAt 2 87 = true:=by kernel_rfl
set_option maxRecDepth 100000 in
theorem law87 : Keyed Try.prog 87:=Keyed.of_law (deep_law_laid K6.own (m:=2) (by omega) K6.row87 K6.kt87 K6.wide87)
theorem law3 : Keyed Try.prog 3:=Maps.int_keyed Try.underlying3
theorem law5 : Keyed Try.prog 5:=Maps.int_keyed Try.underlying5
/-- An int of 64 bits. -/
def I64 (a : Int) : Prop:=-9223372036854775808≤a∧a≤9223372036854775807
theorem I64.wf {a : Int} (h : I64 a) :(Lit.int .i64 a).wf = true:=wfI h.1 h.2
theorem key3 {a : Int} (h : I64 a) : keyOf Try.prog 3 (.int .i64 a) = some (.int .i64 a):=Maps.keyOf_int_mk Try.underlying3 h.wf
theorem key5 (c : Int) (h0 : 0≤c) (h1 : c≤255) : keyOf Try.prog 5 (.int .u8 c) = some (.int .u8 c):=Maps.keyOf_int_mk Try.underlying5 (WalkArith.wf_u8 ⟨h0,h1⟩)
theorem K6.lit3 {n : Nat} {a : Int} (h : I64 a) : Try.prog.keyLits (n + 1) 3 [.int .i64 a] = some [.int .i64 a]:=by
 unfold Program.keyLits
 rw [Try.underlying3]
 simp [h.wf]
def lit23 (a b : Int) : Lit:=.string (keyBytes [.int .i64 a,.int .i64 b])
def lit98 (a b c d : Int) : Lit:=.string (keyBytes [.int .i64 a,.int .i64 b,.int .i64 c,.int .i64 d])
def lit87 (a b c : Int) : Lit:=.string (keyBytes [.int .i64 a,.int .i64 b,.int .i64 c])
theorem key23 {a b : Int} (ha : I64 a) (hb : I64 b) : keyOf Try.prog 23 (.agg #[.int .i64 a,.int .i64 b]) = some (lit23 a b):=by
 have hk : Try.prog.keyType 23 = true:=by kernel_rfl
 have hf :(Value.agg #[.int .i64 a,.int .i64 b]).formed Try.prog 23 = true:=by simp [Value.formed,Try.underlying23,K6.cells23]
 have hl : Try.prog.keyLits (Try.prog.types.size + 1) 23 [.int .i64 a,.int .i64 b] = some [.int .i64 a,.int .i64 b]:=by
  rw [K6.size]
  unfold Program.keyLits
  rw [Try.underlying23]
  simp [K6.cells23,K6.cells3,List.range,List.range.loop,K6.lit3 ha,K6.lit3 hb]
 unfold keyOf
 rw [Try.underlying23]
 simp only [hk,hf,Bool.and_self,if_true]
 rw [show(Value.agg #[.int .i64 a,.int .i64 b]).cells.toList = [.int .i64 a,.int .i64 b] by simp [Value.cells],hl]
 rfl
theorem key98 {a b c d : Int} (ha : I64 a) (hb : I64 b) (hc : I64 c) (hd : I64 d) : keyOf Try.prog 98 (.agg #[.int .i64 a,.int .i64 b,.int .i64 c,.int .i64 d]) = some (lit98 a b c d):=by
 have hk : Try.prog.keyType 98 = true:=by kernel_rfl
 have hf :(Value.agg #[.int .i64 a,.int .i64 b,.int .i64 c,.int .i64 d]).formed Try.prog 98 = true:=by simp [Value.formed,Try.underlying98,K6.cells98]
 have hl : Try.prog.keyLits (Try.prog.types.size + 1) 98 [.int .i64 a,.int .i64 b,.int .i64 c,.int .i64 d] = some [.int .i64 a,.int .i64 b,.int .i64 c,.int .i64 d]:=by
  rw [K6.size]
  unfold Program.keyLits
  rw [Try.underlying98]
  simp [K6.cells98,K6.cells3,List.range,List.range.loop,K6.lit3 ha,K6.lit3 hb,K6.lit3 hc,K6.lit3 hd]
 unfold keyOf
 rw [Try.underlying98]
 simp only [hk,hf,Bool.and_self,if_true]
 rw [show(Value.agg #[.int .i64 a,.int .i64 b,.int .i64 c,.int .i64 d]).cells.toList = [.int .i64 a,.int .i64 b,.int .i64 c,.int .i64 d] by simp [Value.cells],hl]
 rfl
theorem key87 {a b c : Int} (ha : I64 a) (hb : I64 b) (hc : I64 c) : keyOf Try.prog 87 (.agg #[.int .i64 a,.int .i64 b,.int .i64 c]) = some (lit87 a b c):=by
 have hk : Try.prog.keyType 87 = true:=by kernel_rfl
 have hf :(Value.agg #[.int .i64 a,.int .i64 b,.int .i64 c]).formed Try.prog 87 = true:=by simp [Value.formed,Try.underlying87,K6.cells87]
 have hl : Try.prog.keyLits (Try.prog.types.size + 1) 87 [.int .i64 a,.int .i64 b,.int .i64 c] = some [.int .i64 a,.int .i64 b,.int .i64 c]:=by
  rw [K6.size]
  unfold Program.keyLits
  rw [Try.underlying87]
  simp [K6.cells87,K6.cells3,K6.lit3 ha,K6.lit3 hb,K6.lit3 hc]
 unfold keyOf
 rw [Try.underlying87]
 simp only [hk,hf,Bool.and_self,if_true]
 rw [show(Value.agg #[.int .i64 a,.int .i64 b,.int .i64 c]).cells.toList = [.int .i64 a,.int .i64 b,.int .i64 c] by simp [Value.cells],hl]
 rfl
end Go.Proofs.Ytnfmeafiaipplaa.Lib

namespace Go.Proofs.Ytnfmeafiaipplaa.Lib
open Go.RowKit Go.Proofs.YtnfmeafiaipplaaW.PrintWords Go.Proofs.YtnfmeafiaipplaaW.PrintLast Go.Proofs.YtnfmeafiaipplaaW.PrintMore
open Go.Maps (Keyed)
set_option linter.unusedVariables false

def decI : Value → Option Int
 | .int .i64 x=>some x
 | _=>none
def decL : Value → Option (List Int)
 | .agg xs=>xs.toList.mapM decI
 | _=>none
def keyL (l : List Int) : Value:=.agg (l.map (Value.int .i64)).toArray
theorem decI_eq {v : Value} {x : Int} (h : decI v = some x) : v = .int .i64 x:=by
 unfold decI at h
 split at h
 ·rw [Option.some.inj h]
 cases h
theorem mapM_decI : ∀ {xs : List Value} {l : List Int}, xs.mapM decI = some l → xs = l.map (Value.int .i64)
 | [],l,h=>by
  obtain rfl : [] = l:=Option.some.inj h
  rfl
 | v :: xs,l,h=>by
  rw [List.mapM_cons] at h
  obtain ⟨x,h1,h⟩:=Option.bind_eq_some_iff.mp h
  obtain ⟨l',h2,h⟩:=Option.bind_eq_some_iff.mp h
  obtain rfl:=Option.some.inj h
  rw [decI_eq h1,mapM_decI h2]
  rfl
theorem mapM_encI : ∀ (l : List Int), (l.map (Value.int .i64)).mapM decI = some l
 | []=>rfl
 | x :: l=>by
  rw [List.map_cons,List.mapM_cons,mapM_encI l]
  rfl
theorem decL_key (l : List Int) : decL (keyL l) = some l:=by
 unfold decL keyL
 simpa using mapM_encI l
theorem decL_eq {v : Value} {l : List Int} (h : decL v = some l) : v = keyL l:=by
 unfold decL at h
 split at h
 ·rename_i xs
  have:=mapM_decI h
  unfold keyL
  rw [← this]
 cases h
/-- A map keyed by arrays or structs of ints, told by a function of the key's ints. -/
def encL (g : List Int→Option Value) (v : Value) : Option Value:=(decL v).bind g
theorem encL_key (g : List Int→Option Value) (l : List Int) : encL g (keyL l) = g l:=by
 unfold encL
 rw [decL_key]
 rfl
/-- A row of one's own, when a map has grown. -/
theorem R_mapped {W w1 : World} {P : Program} {k : TypeId} {b m : Nat} {f : Value→Option Value} {α : Type} {d : Kd α} {e base : Nat} {ok : Nat→Prop} {v : Value} {xs : List α} (h : d.R e W base ok v xs) (hE : d.E = []) (hm : MapAt W P k b m f) (hg : W.grownBy w1 (some b)) : d.R e w1 base ok v xs :=
 Kd.R_grown2 h hE hg (fun k hk he=>by
  obtain ⟨inner,h1⟩:=Kd.R_own h
  obtain ⟨c1,e1⟩:=own_typed h1 k he.symm
  obtain rfl:=Option.some.inj hk
  exact hm.ne e1 rfl)
/-- A map, when a row of one's own has grown. -/
theorem MapAt.rowed {W w1 : World} {P : Program} {k : TypeId} {b m : Nat} {f : Value→Option Value} {α : Type} {d : Kd α} {e base : Nat} {ok : Nat→Prop} {v : Value} {xs : List α} (hm : MapAt W P k b m f) (h : d.R e W base ok v xs) (hg : W.grownBy w1 v.ownBlock) : MapAt w1 P k b m f :=
 hm.kept hg (fun hb=>by
  obtain ⟨inner,h1⟩:=Kd.R_own h
  obtain ⟨c1,e1⟩:=own_typed h1 b hb.symm
  exact hm.ne e1 rfl)
/-- A row of one's own, when blocks that it is not have changed. -/
theorem R_apart {W W' : World} {α : Type} {d : Kd α} {e base : Nat} {ok S : Nat→Prop} {v : Value} {xs : List α} (h : d.R e W base ok v xs) (hE : d.E = []) (hk : Kept W W' S) (hS : ∀ k cells,some k = v.ownBlock→W.heap[k]? = some (.cells cells e (0,0))→¬ S k) : d.R e W' base ok v xs :=
 Kd.R_mono (Kd.R_kept (Kd.R_tight2 hE h) hk (fun k hk=>by
  obtain ⟨inner,h1⟩:=Kd.R_own h
  obtain ⟨c1,e1⟩:=own_typed h1 k hk.1.symm
  exact hS k c1 hk.1 e1)) (fun k hk=>hk.2)
theorem blk_type {W : World} {k t t' : Nat} {c c' : Array Value} (h : W.heap[k]? = some (.cells c t (0,0))) (h' : W.heap[k]? = some (.cells c' t' (0,0))) : t = t':=by
 rw [h] at h'
 injection h' with h'
 injection h' with _ h' _
theorem own_blk {W : World} {α : Type} {d : Kd α} {e base : Nat} {ok : Nat→Prop} {v : Value} {xs : List α} (h : d.R e W base ok v xs) {k : Nat} (hk : some k = v.ownBlock) : ∃ c,W.heap[k]? = some (.cells c e (0,0)):=by
 obtain ⟨inner,h1⟩:=Kd.R_own h
 exact own_typed h1 k hk.symm
/-- A store into a box of another type than the row's elements. -/
theorem MapAt.box {W : World} {P : Program} {k : TypeId} {b m : Nat} {f : Value→Option Value} (hm : MapAt W P k b m f) {g t i : Nat} {c : Array Value} (hg : W.heap[g]? = some (.cells c t (0,0))) (u : Value) : MapAt (W.setCell ⟨g,i,none⟩ u) P k b m f:=hm.setCell (hm.ne hg) u
section
variable {α : Type} [DecidableEq α]
def numIx (ds : List α) (x : α) : Nat:=ds.idxOf x
def numStep (ds : List α) (x : α) : List α:=if x ∈ ds then ds else ds ++ [x]
def numGo : List α → List α → List Int → List Int × Int
 | [],ds,out=>(out,(ds.length : Int))
 | x :: xs,ds,out=>numGo xs (numStep ds x) (out ++ [(numIx (numStep ds x) x : Int)])
def numM (ds : List α) : α→Option Value:=fun x=>if x ∈ ds then some (.int .i64 (numIx ds x : Int)) else none
theorem numIx_new {ds : List α} {x : α} (h : x ∉ ds) : numIx (ds ++ [x]) x = ds.length:=by simp [numIx,List.idxOf_append,h]
theorem numIx_old {ds : List α} {y : α} (x : α) (h : y ∈ ds) : numIx (ds ++ [x]) y = numIx ds y:=by simp [numIx,List.idxOf_append,h]
theorem numM_none {ds : List α} {x : α} (h : x ∉ ds) : numM ds x = none:=if_neg h
theorem numM_some {ds : List α} {x : α} (h : x ∈ ds) : numM ds x = some (.int .i64 (numIx ds x : Int)):=if_pos h
theorem numM_new {ds : List α} {x : α} (h : x ∉ ds) : numM (ds ++ [x]) x = some (.int .i64 (ds.length : Int)):=by
 unfold numM
 rw [if_pos (by simp),numIx_new h]
theorem numM_far {ds : List α} {x y : α} (h : y≠x) : numM (ds ++ [x]) y = numM ds y:=by
 unfold numM
 by_cases hy : y ∈ ds
 rotate_left
 ·rw [if_neg (by simp [hy,h]),if_neg hy]
 rw [if_pos (by simp [hy]),if_pos hy,numIx_old x hy]
theorem numStep_old {ds : List α} {x : α} (h : x ∈ ds) : numStep ds x = ds:=if_pos h
theorem numStep_new {ds : List α} {x : α} (h : x ∉ ds) : numStep ds x = ds ++ [x]:=if_neg h
end
theorem nb_none {ds : List Int} {x : Int} (h : x ∉ ds) : encI (numM ds) (.int .i64 x) = none:=numM_none h
theorem nb_some {ds : List Int} {x : Int} (h : x ∈ ds) : encI (numM ds) (.int .i64 x) = some (.int .i64 (numIx ds x : Int)):=numM_some h
theorem nb_put1 {ds : List Int} {x : Int} (h : x ∉ ds) : encI (numM (ds ++ [x])) (.int .i64 x) = some (.int .i64 (ds.length : Int)):=numM_new h
theorem nb_put2 {ds : List Int} {x : Int} (h : x ∉ ds) : ∀ v,v≠.int .i64 x→encI (numM (ds ++ [x])) v = encI (numM ds) v:=by
 intro v hv
 unfold encI
 split
 ·rename_i y
  exact numM_far (fun e=>hv (by rw [e]))
 rfl
theorem nl_none {ds : List (List Int)} {x : List Int} (h : x ∉ ds) : encL (numM ds) (keyL x) = none:=by rw [encL_key,numM_none h]
theorem nl_some {ds : List (List Int)} {x : List Int} (h : x ∈ ds) : encL (numM ds) (keyL x) = some (.int .i64 (numIx ds x : Int)):=by rw [encL_key,numM_some h]
theorem nl_put1 {ds : List (List Int)} {x : List Int} (h : x ∉ ds) : encL (numM (ds ++ [x])) (keyL x) = some (.int .i64 (ds.length : Int)):=by rw [encL_key,numM_new h]
theorem nl_put2 {ds : List (List Int)} {x : List Int} (h : x ∉ ds) : ∀ v,v≠keyL x→encL (numM (ds ++ [x])) v = encL (numM ds) v:=by
 intro v hv
 unfold encL
 cases hd : decL v with
 | none=>rfl
 | some y=>exact numM_far (fun e=>hv (by rw [decL_eq hd,e]))
def i64B (x : Int) : Bool:=decide (-9223372036854775808≤x∧x≤9223372036854775807)
theorem i64B_I64 {x : Int} (h : i64B x = true) : I64 x:=by
 unfold i64B at h
 have:=of_decide_eq_true h
 exact this
end Go.Proofs.Ytnfmeafiaipplaa.Lib

namespace Go.Proofs.Ytnfmeafiaipplaa.S
open Go.Proofs.Ytnfmeafiaipplaa.Lib
open Go.Maps (Keyed)
open Go.RowKit Go.Proofs.YtnfmeafiaipplaaW.PrintWords Go.Proofs.YtnfmeafiaipplaaW.PrintLast Go.Proofs.YtnfmeafiaipplaaW.PrintMore
attribute [local go_sem] max2_int min2_int max_two min_two max_three min_three max_four min_four
set_option linter.unusedVariables false
set_option linter.unusedSimpArgs false

def loops_numbered_int.f (l0 : List Int) : Option (List Int×Int):=if l0.length≤5000∧l0.all i64B = true then some (numGo l0 [] []) else none
theorem nb_zero (w : World) :(zeroValue 3).run Try.prog w = .ok (.int .i64 0) w:=by kernel_rfl
set_option maxHeartbeats 2000000 in
set_option maxRecDepth 100000 in
theorem loops_numbered_int.calls (A0 : Option Addr) (c0 : Nat) (l0 : List Int) (r1 : List Int) (r2 : Int) (w : World) (hr0 : Kd.C (Kd.int .i64) w A0 l0.length l0) (hc0 : l0.length ≤ c0) (h : loops_numbered_int.f l0 = some (r1, r2)) :
  Calls Try.prog 62 #[.slice A0 l0.length c0] w fun e w'=>∃ v0_ : Value,e = .returned (.tuple #[v0_,.int .i64 r2])∧Kd.R (Kd.int .i64) 3 w' w.heap.size (fun _=>True) v0_ r1∧Below w.heap.size w w':=by
 have HR0:=Aside0.mk hr0
 clear hr0 hc0
 unfold loops_numbered_int.f at h
 by_cases c0 : l0.length≤5000∧l0.all i64B = true
 case neg=>rw [if_neg c0] at h;cases h
 rw [if_pos c0] at h
 have H:=Aside0.mk (Option.some.inj h)
 have HI:=Aside0.mk (fun x hx=>i64B_I64 (List.all_eq_true.mp c0.2 x hx))
 have HL:=Aside0.mk c0.1
 clear h c0
 have hmm:=@run_makeMap Try.prog
 go_enter Try.func62,Try.ntmps62
 go_wp2
 go_loopw [5,13] (fun v5 v13 wr=>∃ (x : Int) (ds out : List Int),v13 = .int .i64 x∧Aside0 (0≤x∧x≤l0.length∧ds.length≤x∧out.length = x)∧Aside0 (numGo (l0.drop x.toNat) ds out =(r1,r2))∧Aside0 (MapAt wr Try.prog 3 w.heap.size ds.length (encI (numM ds)))∧Aside0 (Kd.R (Kd.int .i64) 3 wr w.heap.size (fun _=>True) v5 out)∧Aside0 (Below w.heap.size w wr)) (fun _ v13 _=>l0.length - (intOf v13).toNat)
 case atStart=>exact⟨0,[],[],rfl,⟨by simp⟩,H,⟨(MapAt.made _ _ _).congr (fun kv kl _=>by unfold encI numM;split <;> simp)⟩,⟨Kd.R_nil _ _ _ _ _⟩,⟨by repeat(first | apply bwA | exact Below.refl _ _)⟩⟩
 clear H
 obtain ⟨x,ds,out,rfl,HX,HA,HM,HR,HB⟩:=hrel
 obtain ⟨p0,q0,e0,e1⟩:=HX.out
 have hl:=HL.out
 by_cases c2 : x < (l0.length : Int)
 rotate_left
 ·have c2b0 : decide (x < (l0.length : Int)) = false := decide_eq_false c2
  have hr :(out,(ds.length : Int)) =(r1,r2):=by rw [← HA.out,List.drop_eq_nil_of_le (by omega)];rfl
  injection hr with h1 h2
  subst h1
  subst h2
  have hlen : ∀ ty,(Builtin.len_ #[100] ty #[.map (some w.heap.size)]).run Try.prog wr = .ok (.int .i64 (ds.length : Int)) wr:=fun ty=>HM.out.len Try.underlying100 ty
  clear c2 p0 q0 e0 e1
  go_wp2
  go_ret2
  exact⟨_,rfl,HR.out,HB.out⟩
 have c2b0 : decide (x < (l0.length : Int)) = true:=decide_eq_true c2
 have hlt : x.toNat < l0.length:=by omega
 have hrd : rd l0 x = l0[x.toNat]:=by
  unfold rd
  rw [List.getD_eq_getElem?_getD,List.getElem?_eq_getElem hlt,Option.getD_some]
 have HA1 : numGo (l0.drop (x + 1).toNat) (numStep ds (rd l0 x)) (out ++ [(numIx (numStep ds (rd l0 x)) (rd l0 x) : Int)]) =(r1,r2):=by
  rw [← HA.out,List.drop_eq_getElem_cons hlt,hrd,show(x + 1).toNat = x.toNat + 1 by omega]
  rfl
 have hkey:=key3 (HI.out (rd l0 x) (by rw [hrd];exact List.getElem_mem hlt))
 obtain ⟨ad,ea,hx⟩:=Kd.at_int (Kd.C_below HR0.out HB.out) x p0 c2
 cases ea
 have HW:=Aside0.mk (show wrap64 (x + 1) = x + 1 by unfold wrap64;omega)
 have p1:=eq_true p0
 have q1:=eq_true c2
 have hsz : w.heap.size≤wr.heap.size:=HB.out.size
 by_cases c4 : rd l0 x ∈ ds
 ·rw [numStep_old c4] at HA1
  have hlo :(Instr.lookup 100 (.map (some w.heap.size)) (.int .i64 (rd l0 x)) true).run Try.prog wr = .ok (.tuple #[.int .i64 (numIx ds (rd l0 x) : Int),.bool true]) wr:=by
   rw [HM.out.lookOk law3 Try.underlying100 (nb_zero _) hkey,nb_some c4];rfl
  have hlk :(Instr.lookup 100 (.map (some w.heap.size)) (.int .i64 (rd l0 x)) false).run Try.prog wr = .ok (.int .i64 (numIx ds (rd l0 x) : Int)) wr:=by
   rw [HM.out.look law3 Try.underlying100 (nb_zero _) hkey,nb_some c4];rfl
  obtain ⟨j,hj⟩ : ∃ j : Int,j =(numIx ds (rd l0 x) : Int):=⟨_,rfl⟩
  rw [← hj] at hlo hlk HA1
  obtain ⟨v1,w1,hrun,ho,hB1,hgr,hat⟩:=append_one (Kd.int .i64) (P:=Try.prog) (w0:=w) (W:=wr) w.heap.size 65 65 3 (.int .i64 0) 8 Try.underlying65 info3 rfl (by decide) (by omega) (xs:=out) j [.int .i64 j] (ok:=fun _=>True) (fun _=>False) rfl (fun _ h=>h.elim) (fun _ _=>trivial) HR.out HB.out hsz (by omega)
  have HRUN:=Aside0.mk hrun
  have HO:=Aside0.mk ho
  have HB1:=Aside0.mk hB1
  have HM1:=Aside0.mk (HM.out.rowed HR.out hgr)
  have HX1:=Aside0.mk (show 0≤x + 1∧x + 1≤l0.length∧ds.length≤x + 1 ∧(out ++ [j]).length = x + 1 by simp;omega)
  have H1:=Aside0.mk HA1
  clear hrun ho hB1 hgr hat HA1 hkey c4 hj hrd HX HA c2 p0 e0 e1 hlt
  go_wp2_with (at_builtin;go_must (refine wpList_appendRun _ rfl _ _ _ rfl HRUN.out rfl rfl rfl ?_))
  go_roundw
  case rel=>exact⟨x + 1,ds,out ++ [j],by rw [HW.out],HX1,H1,HM1,HO,HB1⟩
  have:=of_eq_true p1;have:=of_eq_true q1;simp [intOf,HW.out];omega
 rw [numStep_new c4,numIx_new c4] at HA1
 have hlo :(Instr.lookup 100 (.map (some w.heap.size)) (.int .i64 (rd l0 x)) true).run Try.prog wr = .ok (.tuple #[.int .i64 0,.bool false]) wr:=by
  rw [HM.out.lookOk law3 Try.underlying100 (nb_zero _) hkey,nb_none c4];rfl
 obtain ⟨w2,hst,hm2,hg2⟩:=HM.out.store law3 Try.underlying100 (show ds.length < maxLen by unfold maxLen;omega) hkey (nb_put1 c4) (nb_put2 c4)
 rw [nb_none c4] at hm2
 have hB2 : Below w.heap.size w w2:=Below.grown HB.out hg2 HB.out.size (fun k hk=>by injection hk with hk;omega)
 have hR2:=R_mapped HR.out rfl HM.out hg2
 have hlk :(Instr.lookup 100 (.map (some w.heap.size)) (.int .i64 (rd l0 x)) false).run Try.prog w2 = .ok (.int .i64 (ds.length : Int)) w2:=by
  rw [hm2.look law3 Try.underlying100 (nb_zero _) hkey,nb_put1 c4];rfl
 obtain ⟨v1,w1,hrun,ho,hB1,hgr,hat⟩:=append_one (Kd.int .i64) (P:=Try.prog) (w0:=w) (W:=w2) w.heap.size 65 65 3 (.int .i64 0) 8 Try.underlying65 info3 rfl (by decide) (by omega) (xs:=out) (ds.length : Int) [.int .i64 (ds.length : Int)] (ok:=fun _=>True) (fun _=>False) rfl (fun _ h=>h.elim) (fun _ _=>trivial) hR2 hB2 hB2.size (by omega)
 have hlen : ∀ ty,(Builtin.len_ #[100] ty #[.map (some w.heap.size)]).run Try.prog wr = .ok (.int .i64 (ds.length : Int)) wr:=fun ty=>HM.out.len Try.underlying100 ty
 have HRUN:=Aside0.mk hrun
 have HO:=Aside0.mk ho
 have HB1:=Aside0.mk hB1
 have HM1:=Aside0.mk (show MapAt w1 Try.prog 3 w.heap.size (ds ++ [rd l0 x]).length (encI (numM (ds ++ [rd l0 x]))) by
  have:=hm2.rowed hR2 hgr
  simpa using this)
 have HX1:=Aside0.mk (show 0≤x + 1∧x + 1≤l0.length ∧(ds ++ [rd l0 x]).length≤x + 1 ∧(out ++ [(ds.length : Int)]).length = x + 1 by simp;omega)
 have H1:=Aside0.mk HA1
 clear hrun ho hB1 hgr hat HA1 hkey c4 hrd HX HA c2 p0 e0 e1 hlt hm2 hg2 hB2 hR2
 go_wp2_with (at_builtin;go_must (refine wpList_appendRun _ rfl _ _ _ rfl HRUN.out rfl rfl rfl ?_))
 go_roundw
 case rel=>exact⟨x + 1,ds ++ [rd l0 x],out ++ [(ds.length : Int)],by rw [HW.out],HX1,H1,HM1,HO,HB1⟩
 have:=of_eq_true p1;have:=of_eq_true q1;simp [intOf,HW.out];omega

def l98 (x : S98) : List Int:=[x.f0,x.f1,x.f2,x.f3]
def i98B (x : S98) : Bool:=(l98 x).all i64B
def loops_numbered_4_int.f (l0 : List S98) : Option (List Int×Int):=if l0.length≤5000∧l0.all i98B = true then some (numGo (l0.map l98) [] []) else none
theorem key_l98 {x : S98} (h : i98B x = true) : keyOf Try.prog 98 (keyL (l98 x)) = some (lit98 x.f0 x.f1 x.f2 x.f3):=by
 have h':=List.all_eq_true.mp h
 exact key98 (i64B_I64 (h' _ (by simp [l98]))) (i64B_I64 (h' _ (by simp [l98]))) (i64B_I64 (h' _ (by simp [l98]))) (i64B_I64 (h' _ (by simp [l98])))
set_option maxHeartbeats 2000000 in
set_option maxRecDepth 100000 in
theorem loops_numbered_4_int.calls (A0 : Option Addr) (c0 : Nat) (l0 : List S98) (r1 : List Int) (r2 : Int) (w : World) (hr0 : Kd.C k98 w A0 l0.length l0) (hc0 : l0.length ≤ c0) (h : loops_numbered_4_int.f l0 = some (r1, r2)) :
  Calls Try.prog 63 #[.slice A0 l0.length c0] w fun e w'=>∃ v0_ : Value,e = .returned (.tuple #[v0_,.int .i64 r2])∧Kd.R (Kd.int .i64) 3 w' w.heap.size (fun _=>True) v0_ r1∧Below w.heap.size w w':=by
 have HR0:=Aside0.mk hr0
 clear hr0 hc0
 unfold loops_numbered_4_int.f at h
 by_cases c0 : l0.length≤5000∧l0.all i98B = true
 case neg=>rw [if_neg c0] at h;cases h
 rw [if_pos c0] at h
 have H:=Aside0.mk (Option.some.inj h)
 have HI:=Aside0.mk (fun x hx=>List.all_eq_true.mp c0.2 x hx)
 have HL:=Aside0.mk c0.1
 clear h c0
 have hmm:=@run_makeMap Try.prog
 go_enter Try.func63,Try.ntmps63
 go_wp2
 go_loopw [5,13] (fun v5 v13 wr=>∃ (x : Int) (ds : List (List Int)) (out : List Int),v13 = .int .i64 x∧Aside0 (0≤x∧x≤l0.length∧ds.length≤x∧out.length = x)∧Aside0 (numGo ((l0.drop x.toNat).map l98) ds out =(r1,r2))∧Aside0 (MapAt wr Try.prog 98 w.heap.size ds.length (encL (numM ds)))∧Aside0 (Kd.R (Kd.int .i64) 3 wr w.heap.size (fun _=>True) v5 out)∧Aside0 (Below w.heap.size w wr)) (fun _ v13 _=>l0.length - (intOf v13).toNat)
 case atStart=>exact⟨0,[],[],rfl,⟨by simp⟩,H,⟨(MapAt.made _ _ _).congr (fun kv kl _=>by unfold encL numM;cases decL kv <;> simp)⟩,⟨Kd.R_nil _ _ _ _ _⟩,⟨by repeat(first | apply bwA | exact Below.refl _ _)⟩⟩
 clear H
 obtain ⟨x,ds,out,rfl,HX,HA,HM,HR,HB⟩:=hrel
 obtain ⟨p0,q0,e0,e1⟩:=HX.out
 have hl:=HL.out
 by_cases c2 : x < (l0.length : Int)
 rotate_left
 ·have c2b0 : decide (x < (l0.length : Int)) = false := decide_eq_false c2
  have hr :(out,(ds.length : Int)) =(r1,r2):=by rw [← HA.out,List.drop_eq_nil_of_le (by omega)];rfl
  injection hr with h1 h2
  subst h1
  subst h2
  have hlen : ∀ ty,(Builtin.len_ #[112] ty #[.map (some w.heap.size)]).run Try.prog wr = .ok (.int .i64 (ds.length : Int)) wr:=fun ty=>HM.out.len Try.underlying112 ty
  clear c2 p0 q0 e0 e1
  go_wp2
  go_ret2
  exact⟨_,rfl,HR.out,HB.out⟩
 have c2b0 : decide (x < (l0.length : Int)) = true:=decide_eq_true c2
 have hlt : x.toNat < l0.length:=by omega
 have hrd : rd_T98 l0 x = l0[x.toNat]:=by
  unfold rd_T98
  rw [List.getD_eq_getElem?_getD,List.getElem?_eq_getElem hlt,Option.getD_some]
 have HA1 : numGo ((l0.drop (x + 1).toNat).map l98) (numStep ds (l98 (rd_T98 l0 x))) (out ++ [(numIx (numStep ds (l98 (rd_T98 l0 x))) (l98 (rd_T98 l0 x)) : Int)]) =(r1,r2):=by
  rw [← HA.out,List.drop_eq_getElem_cons hlt,hrd,show(x + 1).toNat = x.toNat + 1 by omega,List.map_cons]
  rfl
 have hkey:=key_l98 (HI.out (rd_T98 l0 x) (by rw [hrd];exact List.getElem_mem hlt))
 obtain ⟨ad,ea,hx0,hx1,hx2,hx3⟩:=at_T98 (Kd.C_below HR0.out HB.out) x p0 c2
 cases ea
 have HW:=Aside0.mk (show wrap64 (x + 1) = x + 1 by unfold wrap64;omega)
 have p1:=eq_true p0
 have q1:=eq_true c2
 have hsz : w.heap.size≤wr.heap.size:=HB.out.size
 obtain ⟨X,hX⟩ : ∃ X,X = rd_T98 l0 x:=⟨_,rfl⟩
 rw [← hX] at hx0 hx1 hx2 hx3 hkey HA1
 have HH : l98 X = [X.f0,X.f1,X.f2,X.f3]:=rfl
 obtain ⟨wq,hwq⟩ : ∃ wq,wq = wr.alloc (.cells #[.int .i64 X.f0,.int .i64 X.f1,.int .i64 X.f2,.int .i64 X.f3] 98):=⟨_,rfl⟩
 have hbx : wq.heap[wr.heap.size]? = some (.cells #[.int .i64 X.f0,.int .i64 X.f1,.int .i64 X.f2,.int .i64 X.f3] 98 (0,0)):=by rw [hwq];exact heap_alloc_new wr _
 have hmq : MapAt wq Try.prog 98 w.heap.size ds.length (encL (numM ds)):=by rw [hwq];exact HM.out.alloc _
 have hrq : Kd.R (Kd.int .i64) 3 wq w.heap.size (fun _=>True) u5 out:=by rw [hwq];exact Kd.R_alloc HR.out _
 have hbq : Below w.heap.size w wq:=by rw [hwq];exact bwA HB.out _
 by_cases c4 : l98 X ∈ ds
 ·rw [numStep_old c4] at HA1
  have hlo :(Instr.lookup 112 (.map (some w.heap.size)) (.agg #[.int .i64 X.f0,.int .i64 X.f1,.int .i64 X.f2,.int .i64 X.f3]) true).run Try.prog wq = .ok (.tuple #[.int .i64 (numIx ds (l98 X) : Int),.bool true]) wq:=by
   have:=hmq.lookOk law98 Try.underlying112 (nb_zero _) hkey
   rw [nl_some c4] at this
   exact this
  have hlk :(Instr.lookup 112 (.map (some w.heap.size)) (.agg #[.int .i64 X.f0,.int .i64 X.f1,.int .i64 X.f2,.int .i64 X.f3]) false).run Try.prog wq = .ok (.int .i64 (numIx ds (l98 X) : Int)) wq:=by
   have:=hmq.look law98 Try.underlying112 (nb_zero _) hkey
   rw [nl_some c4] at this
   exact this
  obtain ⟨j,hj⟩ : ∃ j : Int,j =(numIx ds (l98 X) : Int):=⟨_,rfl⟩
  rw [← hj] at hlo hlk HA1
  obtain ⟨v1,w1,hrun,ho,hB1,hgr,hat⟩:=append_one (Kd.int .i64) (P:=Try.prog) (w0:=w) (W:=wq) w.heap.size 65 65 3 (.int .i64 0) 8 Try.underlying65 info3 rfl (by decide) (by omega) (xs:=out) j [.int .i64 j] (ok:=fun _=>True) (fun _=>False) rfl (fun _ h=>h.elim) (fun _ _=>trivial) hrq hbq hbq.size (by omega)
  have HO:=Aside0.mk ho
  have HB1:=Aside0.mk hB1
  have HM1:=Aside0.mk (hmq.rowed hrq hgr)
  subst hwq
  simp only [World.size_alloc] at hrun
  have HRUN:=Aside0.mk hrun
  have HX1:=Aside0.mk (show 0≤x + 1∧x + 1≤l0.length∧ds.length≤x + 1 ∧(out ++ [j]).length = x + 1 by simp;omega)
  have H1:=Aside0.mk HA1
  clear hrun ho hB1 hgr hat HA1 hkey c4 hj hX hrd HX HA c2 p0 e0 e1 hlt HH hbx hmq hrq hbq
  go_wp2_with (at_builtin;go_must (refine wpList_appendRun _ rfl _ _ _ rfl HRUN.out rfl rfl rfl ?_))
  go_roundw
  case rel=>exact⟨x + 1,ds,out ++ [j],by rw [HW.out],HX1,H1,HM1,HO,HB1⟩
  have:=of_eq_true p1;have:=of_eq_true q1;simp [intOf,HW.out];omega
 rw [numStep_new c4,numIx_new c4] at HA1
 have hlo :(Instr.lookup 112 (.map (some w.heap.size)) (.agg #[.int .i64 X.f0,.int .i64 X.f1,.int .i64 X.f2,.int .i64 X.f3]) true).run Try.prog wq = .ok (.tuple #[.int .i64 0,.bool false]) wq:=by
  have:=hmq.lookOk law98 Try.underlying112 (nb_zero _) hkey
  rw [nl_none c4] at this
  exact this
 obtain ⟨w2,hst,hm2,hg2⟩:=hmq.store law98 Try.underlying112 (show ds.length < maxLen by unfold maxLen;omega) hkey (nl_put1 c4) (nl_put2 c4)
 rw [nl_none c4] at hm2
 have hst' :(Instr.mapUpdate 112 (.map (some w.heap.size)) (.agg #[.int .i64 X.f0,.int .i64 X.f1,.int .i64 X.f2,.int .i64 X.f3]) (.int .i64 (ds.length : Int))).run Try.prog wq = .ok () w2:=hst
 have hB2 : Below w.heap.size w w2:=Below.grown hbq hg2 hbq.size (fun k hk=>by injection hk with hk;omega)
 have hR2:=R_mapped hrq rfl hmq hg2
 have hbx2:=blk_grown hbx hg2 (by intro e;exact hmq.ne hbx (Option.some.inj e).symm)
 have hc0:=(bkC hbx2 0).trans rfl
 have hc1:=(bkC hbx2 1).trans rfl
 have hc2:=(bkC hbx2 2).trans rfl
 have hc3:=(bkC hbx2 3).trans rfl
 have hlk :(Instr.lookup 112 (.map (some w.heap.size)) (.agg #[.int .i64 X.f0,.int .i64 X.f1,.int .i64 X.f2,.int .i64 X.f3]) false).run Try.prog w2 = .ok (.int .i64 (ds.length : Int)) w2:=by
  have:=hm2.look law98 Try.underlying112 (nb_zero _) hkey
  rw [nl_put1 c4] at this
  exact this
 obtain ⟨v1,w1,hrun,ho,hB1,hgr,hat⟩:=append_one (Kd.int .i64) (P:=Try.prog) (w0:=w) (W:=w2) w.heap.size 65 65 3 (.int .i64 0) 8 Try.underlying65 info3 rfl (by decide) (by omega) (xs:=out) (ds.length : Int) [.int .i64 (ds.length : Int)] (ok:=fun _=>True) (fun _=>False) rfl (fun _ h=>h.elim) (fun _ _=>trivial) hR2 hB2 hB2.size (by omega)
 have hlen : ∀ ty,(Builtin.len_ #[112] ty #[.map (some w.heap.size)]).run Try.prog wq = .ok (.int .i64 (ds.length : Int)) wq:=fun ty=>hmq.len Try.underlying112 ty
 have HRUN:=Aside0.mk hrun
 have HO:=Aside0.mk ho
 have HB1:=Aside0.mk hB1
 have HM1:=Aside0.mk (show MapAt w1 Try.prog 98 w.heap.size (ds ++ [l98 X]).length (encL (numM (ds ++ [l98 X]))) by
  have:=hm2.rowed hR2 hgr
  simpa using this)
 have HX1:=Aside0.mk (show 0≤x + 1∧x + 1≤l0.length ∧(ds ++ [l98 X]).length≤x + 1 ∧(out ++ [(ds.length : Int)]).length = x + 1 by simp;omega)
 have H1:=Aside0.mk HA1
 subst hwq
 clear hrun ho hB1 hgr hat HA1 hkey c4 hX hrd HX HA c2 p0 e0 e1 hlt HH hbx hmq hrq hbq hst hm2 hg2 hB2 hR2 hbx2
 go_wp2_with (at_builtin;go_must (refine wpList_appendRun _ rfl _ _ _ rfl HRUN.out rfl rfl rfl ?_))
 go_roundw
 case rel=>exact⟨x + 1,ds ++ [l98 X],out ++ [(ds.length : Int)],by rw [HW.out],HX1,H1,HM1,HO,HB1⟩
 have:=of_eq_true p1;have:=of_eq_true q1;simp [intOf,HW.out];omega

mutual
def loops_classes.l0 : Nat → List (S39) → List Int → List (S39) → Int → Int → Option (List Int)
 | 0,_,_,_,_,_=>none
 | k + 1,x0,x3,x14,x15,x16=>if x16 < x15 then(if 0≤x16 then(if x16 < (x14.length : Int) then(if x3.length < 17592186044416 then(loops_classes.l0 k x0 (x3 ++ [(rd_T39 x14 x16).f0]) x14 x15 (wrap64 (x16 + 1))) else(none)) else(none)) else(none)) else((loops_numbered_int.f x3).bind fun bt121=>(loops_classes.l1 k x0 bt121.1 bt121.2))
def loops_classes.l1 : Nat → List (S39) → List Int → Int → Option (List Int)
 | 0,_,_,_=>none
 | k + 1,x0,x6,x7=>loops_classes.l2 k x0 x6 x7 ([] : List (S98)) x0 (x0.length : Int) 0
def loops_classes.l2 : Nat → List (S39) → List Int → Int → List (S98) → List (S39) → Int → Int → Option (List Int)
 | 0,_,_,_,_,_,_,_=>none
 | k + 1,x0,x6,x7,x8,x31,x32,x33=>if x33 < x32 then(if 0≤x33 then(if x33 < (x31.length : Int) then(if x33 < (x6.length : Int) then((loops_hasParts.f ((rd_T39 x31 x33).f0) ((rd_T39 x31 x33).f1) ((rd_T39 x31 x33).f2)).bind fun t129=>(if t129 = true then(if 0 ≤((rd_T39 x31 x33).f1) then(if((rd_T39 x31 x33).f1) < (x6.length : Int) then(if 0 ≤((rd_T39 x31 x33).f2) then(if((rd_T39 x31 x33).f2) < (x6.length : Int) then(if x8.length < 4398046511104 then(loops_classes.l2 k x0 x6 x7 (x8 ++ [(⟨rd x6 x33,(rd_T39 x31 x33).f0,rd x6 ((rd_T39 x31 x33).f1),rd x6 ((rd_T39 x31 x33).f2)⟩ : S98)]) x31 x32 (wrap64 (x33 + 1))) else(none)) else(none)) else(none)) else(none)) else(none)) else(if x8.length < 4398046511104 then(loops_classes.l2 k x0 x6 x7 (x8 ++ [(⟨rd x6 x33,(rd_T39 x31 x33).f0,0,0⟩ : S98)]) x31 x32 (wrap64 (x33 + 1))) else(none)))) else(none)) else(none)) else(none)) else((loops_numbered_4_int.f x8).bind fun bt138=>(if bt138.2 = x7 then(some bt138.1) else(loops_classes.l1 k x0 bt138.1 bt138.2)))
end
def loops_classes.f (k : Nat) (l0 : List (S39)) : Option (List Int):=loops_classes.l0 k l0 ([] : List Int) l0 (l0.length : Int) 0
theorem loops_classes.mono_l : ∀ k, (∀ y0 y1 y2 y3 y4, LeO (loops_classes.l0 k y0 y1 y2 y3 y4) (loops_classes.l0 (k + 1) y0 y1 y2 y3 y4)) ∧ (∀ y0 y1 y2, LeO (loops_classes.l1 k y0 y1 y2) (loops_classes.l1 (k + 1) y0 y1 y2)) ∧ (∀ y0 y1 y2 y3 y4 y5 y6, LeO (loops_classes.l2 k y0 y1 y2 y3 y4 y5 y6) (loops_classes.l2 (k + 1) y0 y1 y2 y3 y4 y5 y6))
 | 0=>⟨fun _ _ _ _ _ r h=>by simp [loops_classes.l0] at h,fun _ _ _ r h=>by simp [loops_classes.l1] at h,fun _ _ _ _ _ _ _ r h=>by simp [loops_classes.l2] at h⟩
 | k + 1=>by
  obtain ⟨ih0,ih1,ih2⟩:=loops_classes.mono_l k
  refine⟨?_,?_,?_⟩
  ·intro y0 y1 y2 y3 y4
   unfold loops_classes.l0
   repeat' first
   |(with_reducible exact ih0 _ _ _ _ _)
   |(with_reducible exact ih1 _ _ _)
   |(with_reducible exact ih2 _ _ _ _ _ _ _)
   |(with_reducible exact LeO.refl _)
   |(with_reducible exact LeO.none _)
   |(with_reducible refine LeO.ite ?_ ?_)
   |(with_reducible refine LeO.bind ?_ (fun _=>?_))
   | exact ih0 _ _ _ _ _
   | exact ih1 _ _ _
   | exact ih2 _ _ _ _ _ _ _
   | exact LeO.none _
   | refine LeO.ite ?_ ?_
   | refine LeO.bind ?_ (fun _=>?_)
  ·intro y0 y1 y2
   unfold loops_classes.l1
   repeat' first
   |(with_reducible exact ih0 _ _ _ _ _)
   |(with_reducible exact ih1 _ _ _)
   |(with_reducible exact ih2 _ _ _ _ _ _ _)
   |(with_reducible exact LeO.refl _)
   |(with_reducible exact LeO.none _)
   |(with_reducible refine LeO.ite ?_ ?_)
   |(with_reducible refine LeO.bind ?_ (fun _=>?_))
   | exact ih0 _ _ _ _ _
   | exact ih1 _ _ _
   | exact ih2 _ _ _ _ _ _ _
   | exact LeO.none _
   | refine LeO.ite ?_ ?_
   | refine LeO.bind ?_ (fun _=>?_)
  ·intro y0 y1 y2 y3 y4 y5 y6
   unfold loops_classes.l2
   repeat' first
   |(with_reducible exact ih0 _ _ _ _ _)
   |(with_reducible exact ih1 _ _ _)
   |(with_reducible exact ih2 _ _ _ _ _ _ _)
   |(with_reducible exact LeO.refl _)
   |(with_reducible exact LeO.none _)
   |(with_reducible refine LeO.ite ?_ ?_)
   |(with_reducible refine LeO.bind ?_ (fun _=>?_))
   | exact ih0 _ _ _ _ _
   | exact ih1 _ _ _
   | exact ih2 _ _ _ _ _ _ _
   | exact LeO.none _
   | refine LeO.ite ?_ ?_
   | refine LeO.bind ?_ (fun _=>?_)
theorem loops_classes.mono : ∀ a0 k,LeO (loops_classes.f k a0) (loops_classes.f (k + 1) a0):=by
 intro a0 k
 obtain ⟨ih0,ih1,ih2⟩:=loops_classes.mono_l k
 unfold loops_classes.f
 repeat' first
   |(with_reducible exact ih0 _ _ _ _ _)
   |(with_reducible exact ih1 _ _ _)
   |(with_reducible exact ih2 _ _ _ _ _ _ _)
   |(with_reducible exact LeO.refl _)
   |(with_reducible exact LeO.none _)
   |(with_reducible refine LeO.ite ?_ ?_)
   |(with_reducible refine LeO.bind ?_ (fun _=>?_))
   | exact ih0 _ _ _ _ _
   | exact ih1 _ _ _
   | exact ih2 _ _ _ _ _ _ _
   | exact LeO.none _
   | refine LeO.ite ?_ ?_
   | refine LeO.bind ?_ (fun _=>?_)
def loops_classes.T12 : Bool×List (List Nat×List Nat):=(true,[([],[]),([],[]),([0,1],[0,1]),([2],[2]),([],[]),([4],[4]),([3,5],[3,5]),([],[]),([7,6,0,1,2,3,4,5,6,7],[6,7])])
def loops_classes.B12 : List Nat:=[0,0,3,7,0,16,63,0,255]
theorem loops_classes.tab12 : rtab .any (opsOf Try.f41 12) = loops_classes.T12:=by kernel_rfl
theorem loops_classes.bits12 : waitsOk loops_classes.T12.2 loops_classes.B12 = true:=by kernel_rfl
def loops_classes.T14 : Bool×List (List Nat×List Nat):=(true,[([],[]),([],[]),([1],[1]),([0,2],[0,2]),([3],[3]),([],[]),([],[]),([6],[6]),([5,7],[5,7]),([8],[8]),([0,1,2,3,4],[]),([10,4,0,1,2,3,4],[4,10]),([0,1,2,3,4,5,6,7,8,9,10,11],[]),([12,9,11,0,1,2,3,4,5,6,7,8,9,10,11],[9,12])])
def loops_classes.B14 : List Nat:=[0,0,2,7,15,0,0,64,224,480,31,1055,4095,8191]
theorem loops_classes.tab14 : rtab .any (opsOf Try.f41 14) = loops_classes.T14:=by kernel_rfl
theorem loops_classes.bits14 : waitsOk loops_classes.T14.2 loops_classes.B14 = true:=by kernel_rfl
set_option maxHeartbeats 8000000 in
set_option maxRecDepth 100000 in
theorem loops_classes.calls (k : Nat) (A0 : Option Addr) (c0 : Nat) (l0 : List (S39)) (r : List Int) (w : World) (hr0 : Kd.C k39 w A0 l0.length l0) (hc0 : l0.length ≤ c0) (h : loops_classes.f k l0 = some r) :
  Calls Try.prog 41 #[.slice A0 l0.length c0] w fun e w'=>∃ v0_ : Value,e = .returned (v0_)∧Kd.R (Kd.int .i64) 3 w' w.heap.size (fun _=>True) v0_ r∧Below w.heap.size w w':=by
 have hu39:=Try.underlying39
 have hu98:=Try.underlying98
 have HR0:=Aside0.mk hr0
 have HC0:=Aside0.mk hc0
 clear hr0 hc0
 have HB:=Aside0.mk (Below.refl w.heap.size w)
 have H :(loops_classes.l0 k l0 ([] : List Int) l0 (l0.length : Int) 0) = some r:=h
 clear h
 have H':=Aside0.mk H
 clear H
 go_enter Try.func41,Try.ntmps41
 go_wp2
 go_loopg [3,16] k (fun kq v3 v16 w'=>∃ (x3_1 : List Int) (x16_1 : Int),v16 = .int .i64 x16_1∧Aside0 (loops_classes.l0 kq l0 x3_1 l0 (l0.length : Int) x16_1 = some r)∧Aside0 (kq≤k)∧Aside0 (Kd.R (Kd.int .i64) 3 w' w.heap.size (fun _=>True) v3 x3_1)∧Aside0 (Below w.heap.size w w'))
 case atStart=>exact⟨(([] : List Int)),(0),(by first | rfl |(simp;done) |(simp [*];done)),H',⟨Nat.le_refl _⟩,⟨by first | exact Kd.R_nil _ _ _ _ _ | exact Kd.N_nil _ _ _ _ _ | exact Kd.V_nil _ _ _ _ _ | exact Kd.Q_nil _ _ _ _ _ | exact Kd.S_nil _ _ _ _ _⟩,⟨by repeat(first |(with_reducible first | exact HB.out | apply bwA | apply bwN | apply bw1) | exact HB.out)⟩⟩
 clear H'
 obtain ⟨x3_1,x16_1,rfl,HA,HK1,HO_3,HB⟩:=hrel
 cases gk with
 | zero=>exact absurd HA.out (by simp [loops_classes.l0])
 | succ k1 =>
  have H:=HA.out
  clear HA
  simp only [loops_classes.l0] at H
  by_cases c2 : x16_1 < (l0.length : Int)
  ·rw [if_pos c2] at H
   have c2b0 : decide (x16_1 < (l0.length : Int)) = true:=decide_eq_true c2
   clear c2
   by_cases c3 : 0≤x16_1
   rotate_left
   ·rw [if_neg c3] at H
    exact absurd H (by simp)
   rw [if_pos c3] at H
   have c3b0 : decide (0≤x16_1) = true:=decide_eq_true c3
   clear c3
   by_cases c4 : x16_1 < (l0.length : Int)
   rotate_left
   ·rw [if_neg c4] at H
    exact absurd H (by simp)
   rw [if_pos c4] at H
   have c4b0 : decide (x16_1 < (l0.length : Int)) = true:=decide_eq_true c4
   clear c4
   by_cases c5 : x3_1.length < 17592186044416
   rotate_left
   ·rw [if_neg c5] at H
    exact absurd H (by simp)
   rw [if_pos c5] at H
   have LMc5:=Aside0.mk c5
   clear c5
   obtain ⟨y118,hy118⟩ : ∃ y_ : List Int,y_ =(x3_1 ++ [(rd_T39 l0 x16_1).f0]):=⟨_,rfl⟩
   replace H :(loops_classes.l0 k1 l0 y118 l0 (l0.length : Int) (wrap64 (x16_1 + 1))) = some r:=by first |(rw [hy118];with_reducible exact H) |(have H2_:=(Option.bind_some _ _).symm.trans H;rw [hy118];with_reducible exact H2_) |(have H2_:=(Option.bind_some _ _).symm.trans H;with_reducible exact H2_) | with_reducible exact H |(rw [hy118];exact H) | exact H
   have Ny118:=Aside0.mk hy118
   clear hy118
   have H':=Aside0.mk H
   clear H
   have p116 : 0 ≤(x16_1 : Int):=of_decide_eq_true (by first |(with_reducible assumption) | assumption)
   have q116 : x16_1 < (l0.length : Int):=of_decide_eq_true (by first |(with_reducible assumption) | assumption)
   obtain ⟨ad116,e116,hx116_0,hx116_1,hx116_2⟩:=at_T39 HR0.out x16_1 p116 q116
   cases e116
   replace hx116_0:=(HB.out.cell (World.block_lt_of_cell? w _ hx116_0)).trans hx116_0
   replace hx116_1:=(HB.out.cell (World.block_lt_of_cell? w _ hx116_1)).trans hx116_1
   replace hx116_2:=(HB.out.cell (World.block_lt_of_cell? w _ hx116_2)).trans hx116_2
   replace p116:=eq_true p116
   replace q116:=eq_true q116
   go_wp2_with (first |((with_reducible refine gate_dst (N:=5) rfl ?_);refine box_event ?hg (N:=5) ?hd (cs:=#[.int .i64 0,.int .i64 0,.int .i64 0]) (t:=39) ?hr ?_;(case hd=>rfl);(case hg=>rfl);(case hr=>first |(go_simp;done) |(go_simp;rfl));intro gb117 hg w6 hbox hb;have n0_:=Aside0.mk (Kd.R_below (by(with_reducible repeat(first | apply Kd.R_alloc | apply Kd.R_drewN | apply Kd.R_drew));exact HO_3.out) hb);have n1_:=Aside0.mk (bwT (by repeat(first |(with_reducible first | exact HB.out | apply bwA | apply bwN | apply bw1) | exact HB.out)) hb);have n2_:=Aside0.mk (hbox);have n3_:=Aside0.mk ((by rw [hg];exact(bwZ (by repeat(first |(with_reducible first | exact HB.out | apply bwA | apply bwN | apply bw1) | exact HB.out))) : w.heap.size≤gb117));have n4_:=Aside0.mk ((by rw [hg];exact(bwZ (by repeat(first |(with_reducible first | exact HB.out | apply bwA | apply bwN | apply bw1) | exact HB.out))) : w.heap.size≤gb117));clear HO_3;clear HB;have HO_3:=n0_;have HB:=n1_;have BK117:=n2_;have GW117:=n3_;have GE117:=n4_;clear n0_ n1_ n2_ n3_ n4_;clear hb hbox hg;have hcz7_0 : w6.cell? ⟨gb117,0,none⟩ = some (.int .i64 0):=(bkC BK117.out 0).trans rfl;have hcz7_1 : w6.cell? ⟨gb117,1,none⟩ = some (.int .i64 0):=(bkC BK117.out 1).trans rfl;have hcz7_2 : w6.cell? ⟨gb117,2,none⟩ = some (.int .i64 0):=(bkC BK117.out 2).trans rfl;have hfz7_0:=bkF BK117.out 0;have hfz7_1:=bkF BK117.out 1;have hfz7_2:=bkF BK117.out 2) |((with_reducible refine gate_builtin (b:=.append) (xs:=#[.tmp 20,.tmp 23]) rfl ?_);at_builtin;refine Kd.R_append (Kd.int .i64) (w0:=w) w.heap.size rfl (.tmp 20) (.tmp 23) 65 3 (.int .i64 0) 8 rfl Try.underlying65 info3 rfl (by decide) (by omega) u3 x3_1 ((rd_T39 l0 x16_1).f0) [.int .i64 ((rd_T39 l0 x16_1).f0)] (fun _=>True) (fun _=>False) rfl (by first |(go_simp;done) |(go_simp;rfl)) ?aP (fun _ hk=>hk.elim) ?aF ?aO ?aB ?aS ?aL ?_;(case aP=>exact rfl);(case aB=>exact(by repeat(first |(with_reducible first | exact HB.out | apply bwA | apply bwN | apply bw1 | refine bwS ?_ GE117.out) | exact HB.out)));(case aF=>exact(fun _ _=>trivial));(case aO=>exact(by(with_reducible repeat(first | apply Kd.R_alloc | apply Kd.R_drewN | apply Kd.R_drew));exact Kd.R_mono (Kd.R_far (p:=⟨gb117,2,none⟩) (Kd.R_far (p:=⟨gb117,1,none⟩) (Kd.R_far (p:=⟨gb117,0,none⟩) (Kd.R_types HO_3.out BK117.out (by decide)) (fun _ hk=>hk.2) (.int .i64 ((rd_T39 l0 x16_1).f0))) (fun _ hk=>hk.2) (.int .i64 ((rd_T39 l0 x16_1).f1))) (fun _ hk=>hk.2) (.int .i64 ((rd_T39 l0 x16_1).f2))) (fun _ hk=>trivial)));(case aS=>exact(bwZ (by repeat(first |(with_reducible first | exact HB.out | apply bwA | apply bwN | apply bw1 | refine bwS ?_ GE117.out) | exact HB.out))));(case aL=>have:=LMc5.out;omega);intro v119 w8 ho hb hg hat;rw [← Ny118.out] at ho;have n0_:=Aside0.mk (blk_grown (g:=gb117) (o:=.cells #[.int .i64 ((rd_T39 l0 x16_1).f0),.int .i64 ((rd_T39 l0 x16_1).f1),.int .i64 ((rd_T39 l0 x16_1).f2)] 39 (0,0)) (by(with_reducible repeat(first | refine bkN ?_ _ | refine bkD ?_ | refine bkA ?_ _));refine blk_put (cs:=#[.int .i64 ((rd_T39 l0 x16_1).f0),.int .i64 ((rd_T39 l0 x16_1).f1),.int .i64 0]) ?_ 2 _ rfl;(with_reducible repeat(first | refine bkN ?_ _ | refine bkD ?_ | refine bkA ?_ _));refine blk_put (cs:=#[.int .i64 ((rd_T39 l0 x16_1).f0),.int .i64 0,.int .i64 0]) ?_ 1 _ rfl;(with_reducible repeat(first | refine bkN ?_ _ | refine bkD ?_ | refine bkA ?_ _));refine blk_put (cs:=#[.int .i64 0,.int .i64 0,.int .i64 0]) ?_ 0 _ rfl;(with_reducible repeat(first | refine bkN ?_ _ | refine bkD ?_ | refine bkA ?_ _));exact BK117.out) hg (Kd.R_ne HO_3.out BK117.out (by decide)));have n1_:=Aside0.mk (hb);have n2_:=Aside0.mk (ho);clear BK117;clear HB;clear HO_3;have BK117:=n0_;have HB:=n1_;have HO120:=n2_;clear n0_ n1_ n2_;clear ho hb hg hat))
   go_roundg k1
   case measure=>have:=HK1.out;omega
   exact⟨(y118),(wrap64 (x16_1 + 1)),(by first | rfl |(simp;done) |(simp [*];done)),H',⟨by have:=HK1.out;omega⟩,⟨by(with_reducible repeat(first | apply Kd.R_alloc | apply Kd.R_drewN | apply Kd.R_drew));exact HO120.out⟩,⟨by repeat(first |(with_reducible first | exact HB.out | apply bwA | apply bwN | apply bw1 | refine bwS ?_ GE117.out) | exact HB.out)⟩⟩
  rw [if_neg c2] at H
  have c2b0 : decide (x16_1 < (l0.length : Int)) = false:=decide_eq_false c2
  clear c2
  replace H:=Option.bind_eq_some_iff.mp H
  obtain ⟨⟨t121,t122⟩,A90,H⟩:=H
  replace H :(loops_classes.l1 k1 l0 t121 t122) = some r:=H
  have A9:=Aside0.mk A90
  clear A90
  have H':=Aside0.mk H
  clear H
  obtain ⟨Ao10,co10,eo10⟩:=Kd.R_slice HO_3.out
  subst eo10
  go_wp2_with (first |((with_reducible refine gate_callee (f:=62) rfl ?_);refine goesL_ (some 28) rfl rfl Try.func62 (by kernel_rfl) rfl #[.slice Ao10 x3_1.length co10] rfl (by(try simp only [List.map_toArray,List.map_cons,List.map_nil]);first | done | rfl |(simp only [List.length_drop,List.length_take];rfl)) ?_;(with_reducible refine(loops_numbered_int.calls _ _ x3_1 t121 t122 _ ?side1 ?side2 A9.out).mono ?_);(case side1=>repeat(first | exact(Kd.R_reads' HO_3.out).2.2 |(with_reducible refine Kd.C_alloc ?_ _) |(with_reducible refine Kd.C_drewN ?_ _) |(with_reducible refine Kd.C_drew ?_)));(case side2=>exact(Kd.R_reads' HO_3.out).2.1);rintro e w11 ⟨v123,rfl,ho0,hb⟩;refine⟨_,rfl,?_⟩;have n0_:=Aside0.mk (Kd.R_elder' (by(with_reducible repeat(first | apply Kd.R_alloc | apply Kd.R_drewN | apply Kd.R_drew));exact HO_3.out) (Kd.R_base ho0) hb);have n1_:=Aside0.mk (Kd.R_lower (Kd.R_new' ho0 (Kd.R_lt (by(with_reducible repeat(first | apply Kd.R_alloc | apply Kd.R_drewN | apply Kd.R_drew));exact HO_3.out))) (bwZ (by repeat(first |(with_reducible first | exact HB.out | apply bwA | apply bwN | apply bw1) | exact HB.out))));have n2_:=Aside0.mk (bwT (by repeat(first |(with_reducible first | exact HB.out | apply bwA | apply bwN | apply bw1) | exact HB.out)) hb);clear HO_3;clear HB;have HO_3:=n0_;have HO124:=n1_;have HB:=n2_;clear n0_ n1_ n2_;(try clear hb);(try clear hb2);(try clear hk);(try clear hi);(try clear ho0)))
  go_loopg [6,7] k1 (fun kq v6 v7 w'=>∃ (x6_2 : List Int) (x7_2 : Int),v7 = .int .i64 x7_2∧Aside0 (loops_classes.l1 kq l0 x6_2 x7_2 = some r)∧Aside0 (kq≤k1)∧Aside0 (Kd.R (Kd.int .i64) 3 w' w.heap.size (fun _=>True) v6 x6_2)∧Aside0 (Below w.heap.size w w'))
  case atStart=>exact⟨(t121),(t122),(by first | rfl |(simp;done) |(simp [*];done)),H',⟨Nat.le_refl _⟩,⟨by(with_reducible repeat(first | apply Kd.R_alloc | apply Kd.R_drewN | apply Kd.R_drew));exact Kd.R_mono HO124.out (fun _ hk=>trivial)⟩,⟨by repeat(first |(with_reducible first | exact HB.out | apply bwA | apply bwN | apply bw1) | exact HB.out)⟩⟩
  clear H'
  try clear p1
  try clear q1
  try clear hx1
  try clear c2
  try clear c2b0
  try clear p2
  try clear c3
  try clear c3b0
  try clear c4
  try clear c4b0
  try clear c5
  try clear c6
  try clear p6
  try clear p11
  try clear q11
  try clear hx11
  try clear hcz7_0
  try clear hcz7_1
  try clear hcz7_2
  try clear hfz7_0
  try clear hfz7_1
  try clear hfz7_2
  try clear hx116_0
  try clear hx116_1
  try clear hx116_2
  try clear p116
  try clear q116
  obtain ⟨x6_2,x7_2,rfl,HA,HK2,HO_6,HB⟩:=hrel
  cases gk with
  | zero=>exact absurd HA.out (by simp [loops_classes.l1])
  | succ k2 =>
   have H:=HA.out
   clear HA
   simp only [loops_classes.l1] at H
   have H':=Aside0.mk H
   clear H
   go_wp2
   go_loopg [8,33] k2 (fun kq v8 v33 w'=>∃ (x8_3 : List (S98)) (x33_3 : Int),v33 = .int .i64 x33_3∧Aside0 (loops_classes.l2 kq l0 x6_2 x7_2 x8_3 l0 (l0.length : Int) x33_3 = some r)∧Aside0 (kq≤k2)∧Aside0 (Kd.R (Kd.int .i64) 3 w' w.heap.size (fun _=>True) u6 x6_2)∧Aside0 (Kd.R k98 98 w' w.heap.size (fun _=>True) v8 x8_3)∧Aside0 (Below w.heap.size w w'))
   case atStart=>exact⟨(([] : List (S98))),(0),(by first | rfl |(simp;done) |(simp [*];done)),H',⟨Nat.le_refl _⟩,⟨by(with_reducible repeat(first | apply Kd.R_alloc | apply Kd.R_drewN | apply Kd.R_drew));exact HO_6.out⟩,⟨by first | exact Kd.R_nil _ _ _ _ _ | exact Kd.N_nil _ _ _ _ _ | exact Kd.V_nil _ _ _ _ _ | exact Kd.Q_nil _ _ _ _ _ | exact Kd.S_nil _ _ _ _ _⟩,⟨by repeat(first |(with_reducible first | exact HB.out | apply bwA | apply bwN | apply bw1) | exact HB.out)⟩⟩
   clear H'
   try clear p1
   try clear q1
   try clear hx1
   try clear c2
   try clear c2b0
   try clear p2
   try clear c3
   try clear c3b0
   try clear c4
   try clear c4b0
   try clear c5
   try clear c6
   try clear p6
   try clear p11
   try clear q11
   try clear hx11
   try clear hcz7_0
   try clear hcz7_1
   try clear hcz7_2
   try clear hfz7_0
   try clear hfz7_1
   try clear hfz7_2
   try clear hx116_0
   try clear hx116_1
   try clear hx116_2
   try clear p1
   try clear p11
   try clear p116
   try clear p2
   try clear p6
   try clear q1
   try clear q11
   try clear q116
   obtain ⟨x8_3,x33_3,rfl,HA,HK3,HO_6,HO_8,HB⟩:=hrel
   cases gk with
   | zero=>exact absurd HA.out (by simp [loops_classes.l2])
   | succ k3 =>
    have H:=HA.out
    clear HA
    simp only [loops_classes.l2] at H
    by_cases c12 : x33_3 < (l0.length : Int)
    rotate_left
    ·rw [if_neg c12] at H
     have c12b0 : decide (x33_3 < (l0.length : Int)) = false:=decide_eq_false c12
     clear c12
     replace H:=Option.bind_eq_some_iff.mp H
     obtain ⟨⟨t138,t139⟩,A570,H⟩:=H
     replace H :(if t139 = x7_2 then(some t138) else(loops_classes.l1 k3 l0 t138 t139)) = some r:=H
     have A57:=Aside0.mk A570
     clear A570
     by_cases c58 : t139 = x7_2
     ·rw [if_pos c58] at H
      have c58b0 :(t139 == x7_2) = true:=beq_iff_eq.mpr c58
      have c58b1 :(t139 != x7_2) = false:=bne_eq_false_iff_eq.mpr c58
      clear c58
      obtain rfl:=Option.some.inj H
      obtain ⟨Ao59,co59,eo59⟩:=Kd.R_slice HO_8.out
      subst eo59
      go_wp2_with (first |((with_reducible refine gate_callee (f:=63) rfl ?_);refine goesL_ (some 66) rfl rfl Try.func63 (by kernel_rfl) rfl #[.slice Ao59 x8_3.length co59] rfl (by(try simp only [List.map_toArray,List.map_cons,List.map_nil]);first | done | rfl |(simp only [List.length_drop,List.length_take];rfl)) ?_;(with_reducible refine(loops_numbered_4_int.calls _ _ x8_3 t138 t139 _ ?side1 ?side2 A57.out).mono ?_);(case side1=>repeat(first | exact(Kd.R_reads' HO_8.out).2.2 |(with_reducible refine Kd.C_alloc ?_ _) |(with_reducible refine Kd.C_drewN ?_ _) |(with_reducible refine Kd.C_drew ?_)));(case side2=>exact(Kd.R_reads' HO_8.out).2.1);rintro e w60 ⟨v140,rfl,ho0,hb⟩;refine⟨_,rfl,?_⟩;have n0_:=Aside0.mk (Kd.R_elder' (by(with_reducible repeat(first | apply Kd.R_alloc | apply Kd.R_drewN | apply Kd.R_drew));exact HO_6.out) (Kd.R_base ho0) hb);have n1_:=Aside0.mk (Kd.R_below (by(with_reducible repeat(first | apply Kd.R_alloc | apply Kd.R_drewN | apply Kd.R_drew));exact HO_8.out) hb);have n2_:=Aside0.mk (Kd.R_lower (Kd.R_new' ho0 (Kd.R_lt (by(with_reducible repeat(first | apply Kd.R_alloc | apply Kd.R_drewN | apply Kd.R_drew));exact HO_6.out))) (bwZ (by repeat(first |(with_reducible first | exact HB.out | apply bwA | apply bwN | apply bw1) | exact HB.out))));have n3_:=Aside0.mk (bwT (by repeat(first |(with_reducible first | exact HB.out | apply bwA | apply bwN | apply bw1) | exact HB.out)) hb);clear HO_6;clear HO_8;clear HB;have HO_6:=n0_;have HO_8:=n1_;have HO141:=n2_;have HB:=n3_;clear n0_ n1_ n2_ n3_;(try clear hb);(try clear hb2);(try clear hk);(try clear hi);(try clear ho0)))
      go_ret
      exact⟨_,by first | rfl |(simp [errW_none,errW_some] <;> rfl) |(simp [*,errW_none,errW_some] <;> rfl),by(with_reducible repeat(first | apply Kd.R_alloc | apply Kd.R_drewN | apply Kd.R_drew));exact Kd.R_mono HO141.out (fun _ hk=>trivial),by repeat(first |(with_reducible first | exact HB.out | apply bwA | apply bwN | apply bw1) | exact HB.out)⟩
     rw [if_neg c58] at H
     have c58b0 :(t139 == x7_2) = false:=beq_eq_false_iff_ne.mpr c58
     have c58b1 :(t139 != x7_2) = true:=bne_iff_ne.mpr c58
     have H':=Aside0.mk H
     clear H
     obtain ⟨Ao61,co61,eo61⟩:=Kd.R_slice HO_8.out
     subst eo61
     go_wp2_with (first |((with_reducible refine gate_callee (f:=63) rfl ?_);refine goesL_ (some 66) rfl rfl Try.func63 (by kernel_rfl) rfl #[.slice Ao61 x8_3.length co61] rfl (by(try simp only [List.map_toArray,List.map_cons,List.map_nil]);first | done | rfl |(simp only [List.length_drop,List.length_take];rfl)) ?_;(with_reducible refine(loops_numbered_4_int.calls _ _ x8_3 t138 t139 _ ?side1 ?side2 A57.out).mono ?_);(case side1=>repeat(first | exact(Kd.R_reads' HO_8.out).2.2 |(with_reducible refine Kd.C_alloc ?_ _) |(with_reducible refine Kd.C_drewN ?_ _) |(with_reducible refine Kd.C_drew ?_)));(case side2=>exact(Kd.R_reads' HO_8.out).2.1);rintro e w62 ⟨v140,rfl,ho0,hb⟩;refine⟨_,rfl,?_⟩;have n0_:=Aside0.mk (Kd.R_elder' (by(with_reducible repeat(first | apply Kd.R_alloc | apply Kd.R_drewN | apply Kd.R_drew));exact HO_6.out) (Kd.R_base ho0) hb);have n1_:=Aside0.mk (Kd.R_below (by(with_reducible repeat(first | apply Kd.R_alloc | apply Kd.R_drewN | apply Kd.R_drew));exact HO_8.out) hb);have n2_:=Aside0.mk (Kd.R_lower (Kd.R_new' ho0 (Kd.R_lt (by(with_reducible repeat(first | apply Kd.R_alloc | apply Kd.R_drewN | apply Kd.R_drew));exact HO_6.out))) (bwZ (by repeat(first |(with_reducible first | exact HB.out | apply bwA | apply bwN | apply bw1) | exact HB.out))));have n3_:=Aside0.mk (bwT (by repeat(first |(with_reducible first | exact HB.out | apply bwA | apply bwN | apply bw1) | exact HB.out)) hb);clear HO_6;clear HO_8;clear HB;have HO_6:=n0_;have HO_8:=n1_;have HO141:=n2_;have HB:=n3_;clear n0_ n1_ n2_ n3_;(try clear hb);(try clear hb2);(try clear hk);(try clear hi);(try clear ho0)))
     go_roundg k3
     case measure=>have:=HK1.out;have:=HK2.out;have:=HK3.out;omega
     exact⟨(t138),(t139),(by first | rfl |(simp;done) |(simp [*];done)),H',⟨by have:=HK1.out;have:=HK2.out;have:=HK3.out;omega⟩,⟨by(with_reducible repeat(first | apply Kd.R_alloc | apply Kd.R_drewN | apply Kd.R_drew));exact Kd.R_mono HO141.out (fun _ hk=>trivial)⟩,⟨by repeat(first |(with_reducible first | exact HB.out | apply bwA | apply bwN | apply bw1) | exact HB.out)⟩⟩
    rw [if_pos c12] at H
    have c12b0 : decide (x33_3 < (l0.length : Int)) = true:=decide_eq_true c12
    clear c12
    by_cases c13 : 0≤x33_3
    rotate_left
    ·rw [if_neg c13] at H
     exact absurd H (by simp)
    rw [if_pos c13] at H
    have c13b0 : decide (0≤x33_3) = true:=decide_eq_true c13
    clear c13
    by_cases c14 : x33_3 < (l0.length : Int)
    rotate_left
    ·rw [if_neg c14] at H
     exact absurd H (by simp)
    rw [if_pos c14] at H
    have c14b0 : decide (x33_3 < (l0.length : Int)) = true:=decide_eq_true c14
    clear c14
    by_cases c15 : x33_3 < (x6_2.length : Int)
    rotate_left
    ·rw [if_neg c15] at H
     exact absurd H (by simp)
    rw [if_pos c15] at H
    have c15b0 : decide (x33_3 < (x6_2.length : Int)) = true:=decide_eq_true c15
    clear c15
    replace H:=Option.bind_eq_some_iff.mp H
    obtain ⟨t129,A160,H⟩:=H
    replace H :(if t129 = true then(if 0 ≤((rd_T39 l0 x33_3).f1) then(if((rd_T39 l0 x33_3).f1) < (x6_2.length : Int) then(if 0 ≤((rd_T39 l0 x33_3).f2) then(if((rd_T39 l0 x33_3).f2) < (x6_2.length : Int) then(if x8_3.length < 4398046511104 then(loops_classes.l2 k3 l0 x6_2 x7_2 (x8_3 ++ [(⟨rd x6_2 x33_3,(rd_T39 l0 x33_3).f0,rd x6_2 ((rd_T39 l0 x33_3).f1),rd x6_2 ((rd_T39 l0 x33_3).f2)⟩ : S98)]) l0 (l0.length : Int) (wrap64 (x33_3 + 1))) else(none)) else(none)) else(none)) else(none)) else(none)) else(if x8_3.length < 4398046511104 then(loops_classes.l2 k3 l0 x6_2 x7_2 (x8_3 ++ [(⟨rd x6_2 x33_3,(rd_T39 l0 x33_3).f0,0,0⟩ : S98)]) l0 (l0.length : Int) (wrap64 (x33_3 + 1))) else(none))) = some r:=H
    have A16:=Aside0.mk A160
    clear A160
    by_cases c17 : t129 = true
    rotate_left
    ·replace c17 := Bool.eq_false_iff.mpr c17
     subst c17
     have H1 :(if x8_3.length < 4398046511104 then(loops_classes.l2 k3 l0 x6_2 x7_2 (x8_3 ++ [(⟨rd x6_2 x33_3,(rd_T39 l0 x33_3).f0,0,0⟩ : S98)]) l0 (l0.length : Int) (wrap64 (x33_3 + 1))) else(none)) = some r:=by rw [if_neg (show ¬ (false = true) by decide)] at H;exact H
     clear H
     have H:=H1
     clear H1
     by_cases c41 : x8_3.length < 4398046511104
     rotate_left
     ·rw [if_neg c41] at H
      exact absurd H (by simp)
     rw [if_pos c41] at H
     have LMc41:=Aside0.mk c41
     clear c41
     obtain ⟨y135,hy135⟩ : ∃ y_ : List (S98),y_ =(x8_3 ++ [(⟨rd x6_2 x33_3,(rd_T39 l0 x33_3).f0,0,0⟩ : S98)]):=⟨_,rfl⟩
     replace H :(loops_classes.l2 k3 l0 x6_2 x7_2 y135 l0 (l0.length : Int) (wrap64 (x33_3 + 1))) = some r:=by first |(rw [hy135];with_reducible exact H) |(have H2_:=(Option.bind_some _ _).symm.trans H;rw [hy135];with_reducible exact H2_) |(have H2_:=(Option.bind_some _ _).symm.trans H;with_reducible exact H2_) | with_reducible exact H |(rw [hy135];exact H) | exact H
     have Ny135:=Aside0.mk hy135
     clear hy135
     have H':=Aside0.mk H
     clear H
     have p125 : 0 ≤(x33_3 : Int):=of_decide_eq_true (by first |(with_reducible assumption) | assumption)
     have q125 : x33_3 < (l0.length : Int):=of_decide_eq_true (by first |(with_reducible assumption) | assumption)
     obtain ⟨ad125,e125,hx125_0,hx125_1,hx125_2⟩:=at_T39 HR0.out x33_3 p125 q125
     cases e125
     replace hx125_0:=(HB.out.cell (World.block_lt_of_cell? w _ hx125_0)).trans hx125_0
     replace hx125_1:=(HB.out.cell (World.block_lt_of_cell? w _ hx125_1)).trans hx125_1
     replace hx125_2:=(HB.out.cell (World.block_lt_of_cell? w _ hx125_2)).trans hx125_2
     replace p125:=eq_true p125
     replace q125:=eq_true q125
     try go_wp2_with (first |((with_reducible refine gate_dst (N:=10) rfl ?_);refine box_event ?hg (N:=10) ?hd (cs:=#[.int .i64 0,.int .i64 0,.int .i64 0]) (t:=39) ?hr ?_;(case hd=>rfl);(case hg=>rfl);(case hr=>first |(go_simp;done) |(go_simp;rfl));intro gb126 hg w42 hbox hb;have n0_:=Aside0.mk (Kd.R_below (by(with_reducible repeat(first | apply Kd.R_alloc | apply Kd.R_drewN | apply Kd.R_drew));exact HO_6.out) hb);have n1_:=Aside0.mk (Kd.R_below (by(with_reducible repeat(first | apply Kd.R_alloc | apply Kd.R_drewN | apply Kd.R_drew));exact HO_8.out) hb);have n2_:=Aside0.mk (bwT (by repeat(first |(with_reducible first | exact HB.out | apply bwA | apply bwN | apply bw1) | exact HB.out)) hb);have n3_:=Aside0.mk (hbox);have n4_:=Aside0.mk ((by rw [hg];exact(bwZ (by repeat(first |(with_reducible first | exact HB.out | apply bwA | apply bwN | apply bw1) | exact HB.out))) : w.heap.size≤gb126));have n5_:=Aside0.mk ((by rw [hg];exact(bwZ (by repeat(first |(with_reducible first | exact HB.out | apply bwA | apply bwN | apply bw1) | exact HB.out))) : w.heap.size≤gb126));clear HO_6;clear HO_8;clear HB;have HO_6:=n0_;have HO_8:=n1_;have HB:=n2_;have BK126:=n3_;have GW126:=n4_;have GE126:=n5_;clear n0_ n1_ n2_ n3_ n4_ n5_;clear hb hbox hg;have hcz43_0 : w42.cell? ⟨gb126,0,none⟩ = some (.int .i64 0):=(bkC BK126.out 0).trans rfl;have hcz43_1 : w42.cell? ⟨gb126,1,none⟩ = some (.int .i64 0):=(bkC BK126.out 1).trans rfl;have hcz43_2 : w42.cell? ⟨gb126,2,none⟩ = some (.int .i64 0):=(bkC BK126.out 2).trans rfl;have hfz43_0:=bkF BK126.out 0;have hfz43_1:=bkF BK126.out 1;have hfz43_2:=bkF BK126.out 2))
     have n0_ : Aside0 (Kd.R (Kd.int .i64) 3 (((w42.setCell ⟨gb126,0,none⟩ (.int .i64 ((rd_T39 l0 x33_3).f0))).setCell ⟨gb126,1,none⟩ (.int .i64 ((rd_T39 l0 x33_3).f1))).setCell ⟨gb126,2,none⟩ (.int .i64 ((rd_T39 l0 x33_3).f2))) w.heap.size (fun _=>True) u6 x6_2):=⟨by(with_reducible repeat(first | apply Kd.R_alloc | apply Kd.R_drewN | apply Kd.R_drew));exact Kd.R_mono (Kd.R_far (p:=⟨gb126,2,none⟩) (Kd.R_far (p:=⟨gb126,1,none⟩) (Kd.R_far (p:=⟨gb126,0,none⟩) (Kd.R_types HO_6.out BK126.out (by decide)) (fun _ hk=>hk.2) (.int .i64 ((rd_T39 l0 x33_3).f0))) (fun _ hk=>hk.2) (.int .i64 ((rd_T39 l0 x33_3).f1))) (fun _ hk=>hk.2) (.int .i64 ((rd_T39 l0 x33_3).f2))) (fun _ hk=>trivial)⟩
     have n1_ : Aside0 (Kd.R k98 98 (((w42.setCell ⟨gb126,0,none⟩ (.int .i64 ((rd_T39 l0 x33_3).f0))).setCell ⟨gb126,1,none⟩ (.int .i64 ((rd_T39 l0 x33_3).f1))).setCell ⟨gb126,2,none⟩ (.int .i64 ((rd_T39 l0 x33_3).f2))) w.heap.size (fun _=>True) u8 x8_3):=⟨by(with_reducible repeat(first | apply Kd.R_alloc | apply Kd.R_drewN | apply Kd.R_drew));exact Kd.R_mono (Kd.R_far (p:=⟨gb126,2,none⟩) (Kd.R_far (p:=⟨gb126,1,none⟩) (Kd.R_far (p:=⟨gb126,0,none⟩) (Kd.R_types HO_8.out BK126.out (by decide)) (fun _ hk=>hk.2) (.int .i64 ((rd_T39 l0 x33_3).f0))) (fun _ hk=>hk.2) (.int .i64 ((rd_T39 l0 x33_3).f1))) (fun _ hk=>hk.2) (.int .i64 ((rd_T39 l0 x33_3).f2))) (fun _ hk=>trivial)⟩
     have n2_ : Aside0 ((((w42.setCell ⟨gb126,0,none⟩ (.int .i64 ((rd_T39 l0 x33_3).f0))).setCell ⟨gb126,1,none⟩ (.int .i64 ((rd_T39 l0 x33_3).f1))).setCell ⟨gb126,2,none⟩ (.int .i64 ((rd_T39 l0 x33_3).f2))).heap[gb126]? = some (.cells #[.int .i64 ((rd_T39 l0 x33_3).f0),.int .i64 ((rd_T39 l0 x33_3).f1),.int .i64 ((rd_T39 l0 x33_3).f2)] 39 (0,0))):=⟨by(with_reducible repeat(first | refine bkN ?_ _ | refine bkD ?_ | refine bkA ?_ _));refine blk_put (cs:=#[.int .i64 ((rd_T39 l0 x33_3).f0),.int .i64 ((rd_T39 l0 x33_3).f1),.int .i64 0]) ?_ 2 _ rfl;(with_reducible repeat(first | refine bkN ?_ _ | refine bkD ?_ | refine bkA ?_ _));refine blk_put (cs:=#[.int .i64 ((rd_T39 l0 x33_3).f0),.int .i64 0,.int .i64 0]) ?_ 1 _ rfl;(with_reducible repeat(first | refine bkN ?_ _ | refine bkD ?_ | refine bkA ?_ _));refine blk_put (cs:=#[.int .i64 0,.int .i64 0,.int .i64 0]) ?_ 0 _ rfl;(with_reducible repeat(first | refine bkN ?_ _ | refine bkD ?_ | refine bkA ?_ _));exact BK126.out⟩
     have n3_ : Aside0 (Below w.heap.size w (((w42.setCell ⟨gb126,0,none⟩ (.int .i64 ((rd_T39 l0 x33_3).f0))).setCell ⟨gb126,1,none⟩ (.int .i64 ((rd_T39 l0 x33_3).f1))).setCell ⟨gb126,2,none⟩ (.int .i64 ((rd_T39 l0 x33_3).f2)))):=⟨by repeat(first |(with_reducible first | exact HB.out | apply bwA | apply bwN | apply bw1 | refine bwS ?_ GE126.out) | exact HB.out)⟩
     (try clear HO_6)
     (try clear HO_8)
     (try clear BK126)
     (try clear HB)
     generalize (((w42.setCell ⟨gb126,0,none⟩ (.int .i64 ((rd_T39 l0 x33_3).f0))).setCell ⟨gb126,1,none⟩ (.int .i64 ((rd_T39 l0 x33_3).f1))).setCell ⟨gb126,2,none⟩ (.int .i64 ((rd_T39 l0 x33_3).f2))) = w44 at n0_ n1_ n2_ n3_ ⊢
     have HO_6:=n0_
     have HO_8:=n1_
     have BK126:=n2_
     have HB:=n3_
     clear n0_ n1_ n2_ n3_
     have n0_:=Aside0.mk (Kd.R_drew HO_6.out)
     have n1_:=Aside0.mk (Kd.R_drew HO_8.out)
     have n2_:=Aside0.mk (bkD BK126.out)
     have n3_:=Aside0.mk (bw1 HB.out)
     clear HO_6
     clear HO_8
     clear BK126
     clear HB
     have HO_6:=n0_
     have HO_8:=n1_
     have BK126:=n2_
     have HB:=n3_
     clear n0_ n1_ n2_ n3_
     obtain ⟨Ao46,co46,eo46⟩:=Kd.R_slice HO_6.out
     (first | subst eo46 |(injection eo46 with f1_ f2_ f3_;have f4_:=f1_.symm;have f5_:=f3_.symm;clear f1_ f2_ f3_;subst f4_;subst f5_))
     have p127 : 0 ≤(x33_3 : Int):=of_decide_eq_true (by first |(with_reducible assumption) | assumption)
     have q127 : x33_3 < (x6_2.length : Int):=of_decide_eq_true (by first |(with_reducible assumption) | assumption)
     obtain ⟨ad127,e127,hx127_0⟩:=Kd.at_int (Kd.R_reads' HO_6.out).2.2 x33_3 p127 q127
     cases e127
     replace p127:=eq_true p127
     replace q127:=eq_true q127
     refine start_ (n:=9) (S:=fun w'=>w'.cell? ⟨gb126,0,none⟩ = some (.int .i64 ((rd_T39 l0 x33_3).f0))∧w'.cell? ⟨gb126,1,none⟩ = some (.int .i64 ((rd_T39 l0 x33_3).f1))∧w'.cell? ⟨gb126,2,none⟩ = some (.int .i64 ((rd_T39 l0 x33_3).f2))∧w'.cell? (ad127.add (x33_3).toNat) = some (.int .i64 (rd x6_2 x33_3))) (ds:=[]) #[false,false,false,false,false,false,false,false,false] (by kernel_rfl) rfl rfl ⟨(bkC BK126.out 0).trans rfl,(bkC BK126.out 1).trans rfl,(bkC BK126.out 2).trans rfl,hx127_0⟩ (fun hHeld=>?_);refine with_tabW loops_classes.tab12 loops_classes.bits12 (fun HT_ HW_=>?_)
     generalize w44.drew = w45 at HO_6 HO_8 BK126 HB hx127_0 hHeld ⊢
     refine pure_ (i:=0) (N:=some 38) (v:=?_) (a':=?_) #[true,false,false,false,false,false,false,false,false] rfl rfl (any_of HT_.out (by kernel_rfl)) (fun _ _ _ h=>h) (Or.inl ⟨by rfl,?_⟩) ?_ ?_
     rotate_left
     ·intro w'
      go_simp
      with_reducible rfl
     rotate_left
     ·simp only [Act.put, List.setIfInBounds_toArray, List.set_cons_zero, List.set_cons_succ, i64_w, i32_w]
      rfl
     refine pure_ (i:=1) (N:=some 39) (v:=?_) (a':=?_) #[true,true,false,false,false,false,false,false,false] rfl rfl (any_of HT_.out (by kernel_rfl)) (fun _ _ _ h=>h) (Or.inl ⟨by rfl,?_⟩) ?_ ?_
     rotate_left
     ·intro w'
      go_simp
      with_reducible rfl
     rotate_left
     ·simp only [Act.put, List.setIfInBounds_toArray, List.set_cons_zero, List.set_cons_succ, i64_w, i32_w]
      rfl
     refine pure_ (i:=2) (N:=some 40) (v:=?_) (a':=?_) #[true,true,true,false,false,false,false,false,false] rfl rfl (any_of HT_.out (by kernel_rfl)) (fun _ _ _ h=>h) (Or.inl ⟨by rfl,?_⟩) ?_ ?_
     rotate_left
     ·intro w'
      go_simp
      with_reducible rfl
     rotate_left
     ·simp only [Act.put, List.setIfInBounds_toArray, List.set_cons_zero, List.set_cons_succ, i64_w, i32_w]
      rfl
     refine pure_ (i:=4) (N:=some 42) (v:=?_) (a':=?_) #[true,true,true,false,true,false,false,false,false] rfl rfl (any_of HT_.out (by kernel_rfl)) (fun _ _ _ h=>h) (Or.inl ⟨by rfl,?_⟩) ?_ ?_
     rotate_left
     ·intro w'
      go_simp
      with_reducible rfl
     rotate_left
     ·simp only [Act.put, List.setIfInBounds_toArray, List.set_cons_zero, List.set_cons_succ, i64_w, i32_w]
      rfl
     refine take_ (i:=3) (N:=some 41) (v:=?_) (a':=?_) #[true,true,true,true,true,false,false,false,false] rfl rfl (take_ofW HT_.out HW_.out (by kernel_rfl)) (fun _ _ _ h=>h) (Or.inl ⟨by rfl,?_⟩) hHeld ?_ ?_
     rotate_left
     ·rintro w' ⟨s0, s1, s2, s3⟩
      go_simp
      with_reducible rfl
     rotate_left
     ·simp only [Act.put, List.setIfInBounds_toArray, List.set_cons_zero, List.set_cons_succ, i64_w, i32_w]
      rfl
     refine take_ (i:=5) (N:=some 43) (v:=?_) (a':=?_) #[true,true,true,true,true,true,false,false,false] rfl rfl (take_ofW HT_.out HW_.out (by kernel_rfl)) (fun _ _ _ h=>h) (Or.inl ⟨by rfl,?_⟩) hHeld ?_ ?_
     rotate_left
     ·rintro w' ⟨s0, s1, s2, s3⟩
      go_simp
      with_reducible rfl
     rotate_left
     ·simp only [Act.put, List.setIfInBounds_toArray, List.set_cons_zero, List.set_cons_succ, i64_w, i32_w]
      rfl
     refine pure_ (i:=6) (N:=some 44) (v:=?_) (a':=?_) #[true,true,true,true,true,true,true,false,false] rfl rfl (any_of HT_.out (by kernel_rfl)) (fun _ _ _ h=>h) (Or.inl ⟨by rfl,?_⟩) ?_ ?_
     rotate_left
     ·intro w'
      go_simp
      with_reducible rfl
     rotate_left
     ·simp only [Act.put, List.setIfInBounds_toArray, List.set_cons_zero, List.set_cons_succ, i64_w, i32_w]
      rfl
     refine one_ (i:=7) (N:=some 11) #[true,true,true,true,true,true,true,true,false] rfl rfl (one_of HT_.out (by kernel_rfl)) (by decide) (fun K hK=>?_)
     refine box_step ?hg (N:=11) ?hd (cs:=#[.int .i64 0,.int .i64 0,.int .i64 0,.int .i64 0]) (t:=98) ?hr ?_;(case hd=>rfl);(case hg=>rfl);(case hr=>first |(go_simp;done) |(go_simp;rfl))
     intro gb128 hg w47 hbox hb
     have HS3_:=(hb.cell (World.block_lt_of_cell? _ _ (hHeld.2.2.2))).trans (hHeld.2.2.2)
     have n0_:=Aside0.mk (Kd.R_below (by(with_reducible repeat(first | apply Kd.R_alloc | apply Kd.R_drewN | apply Kd.R_drew));exact HO_6.out) hb)
     have n1_:=Aside0.mk (Kd.R_below (Kd.R_elderB (by(with_reducible repeat(first | apply Kd.R_alloc | apply Kd.R_drewN | apply Kd.R_drew));exact HO_8.out) gb128 (Nat.le_of_eq hg.symm)) hb)
     have n2_:=Aside0.mk (bkB (g:=gb126) (o:=.cells #[.int .i64 ((rd_T39 l0 x33_3).f0),.int .i64 ((rd_T39 l0 x33_3).f1),.int .i64 ((rd_T39 l0 x33_3).f2)] 39 (0,0)) (by(with_reducible repeat(first | refine bkN ?_ _ | refine bkD ?_ | refine bkA ?_ _));exact BK126.out) hb)
     have n3_:=Aside0.mk (bwT (by repeat(first |(with_reducible first | exact HB.out | apply bwA | apply bwN | apply bw1 | refine bwS ?_ GE126.out) | exact HB.out)) hb)
     have n4_:=Aside0.mk (hbox)
     have n5_:=Aside0.mk ((by rw [hg];exact(bwZ (by repeat(first |(with_reducible first | exact HB.out | apply bwA | apply bwN | apply bw1 | refine bwS ?_ GE126.out) | exact HB.out))) : w.heap.size≤gb128))
     have n6_:=Aside0.mk ((by rw [hg];exact(bwZ (by repeat(first |(with_reducible first | exact HB.out | apply bwA | apply bwN | apply bw1 | refine bwS ?_ GE126.out) | exact HB.out))) : w.heap.size≤gb128))
     have n7_:=Aside0.mk ((by rw [hg];exact Nat.ne_of_lt (blk_lt (g:=gb126) (o:=.cells #[.int .i64 ((rd_T39 l0 x33_3).f0),.int .i64 ((rd_T39 l0 x33_3).f1),.int .i64 ((rd_T39 l0 x33_3).f2)] 39 (0,0)) (by(with_reducible repeat(first | refine bkN ?_ _ | refine bkD ?_ | refine bkA ?_ _));exact BK126.out)) : gb126≠gb128))
     have n8_:=Aside0.mk ((by rw [hg];exact Nat.ne_of_gt (blk_lt (g:=gb126) (o:=.cells #[.int .i64 ((rd_T39 l0 x33_3).f0),.int .i64 ((rd_T39 l0 x33_3).f1),.int .i64 ((rd_T39 l0 x33_3).f2)] 39 (0,0)) (by(with_reducible repeat(first | refine bkN ?_ _ | refine bkD ?_ | refine bkA ?_ _));exact BK126.out)) : gb128≠gb126))
     clear HO_6
     clear HO_8
     clear BK126
     clear HB
     have HO_6:=n0_
     have HO_8:=n1_
     have BK126:=n2_
     have HB:=n3_
     have BK128:=n4_
     have GW128:=n5_
     have GE128:=n6_
     have NB126_128:=n7_
     have NB128_126:=n8_
     clear n0_ n1_ n2_ n3_ n4_ n5_ n6_ n7_ n8_
     clear hb hbox hg
     refine hK.out _ _ ⟨(bkC BK126.out 0).trans rfl,(bkC BK126.out 1).trans rfl,(bkC BK126.out 2).trans rfl,HS3_⟩ (fun hHeld=>?_)
     clear hK K
     refine norm_ (a':=?_) ?_ ?_
     rotate_left
     ·show Act.put _ (some 11) _ = _
      simp only [Act.put,List.setIfInBounds_toArray,List.set_cons_zero,List.set_cons_succ,i64_w,i32_w]
      rfl
     refine one_ (i:=8) (N:=none) #[true,true,true,true,true,true,true,true,true] rfl rfl (one_of HT_.out (by kernel_rfl)) (by decide) (fun K hK=>?_)
     have hs48 : w47.cell? ⟨gb128,0,none⟩ = some (.int .i64 0):=(bkC BK128.out 0).trans rfl
     have hfs48:=bkF BK128.out 0
     have hns48_0:=NB126_128.out
     have hms48_0:=NB128_126.out
     have hs49 : w47.cell? ⟨gb128,1,none⟩ = some (.int .i64 0):=(bkC BK128.out 1).trans rfl
     have hfs49:=bkF BK128.out 1
     have hns49_0:=NB126_128.out
     have hms49_0:=NB128_126.out
     have hs50 : w47.cell? ⟨gb128,2,none⟩ = some (.int .i64 0):=(bkC BK128.out 2).trans rfl
     have hfs50:=bkF BK128.out 2
     have hns50_0:=NB126_128.out
     have hms50_0:=NB128_126.out
     have hs51 : w47.cell? ⟨gb128,3,none⟩ = some (.int .i64 0):=(bkC BK128.out 3).trans rfl
     have hfs51:=bkF BK128.out 3
     have hns51_0:=NB126_128.out
     have hms51_0:=NB128_126.out
     refine skip_ (w1:=?_) (by rfl) rfl ?_ ?_
     rotate_left
     ·go_simp
      rfl
     refine hK.out _ _ ⟨((cell_far (p:=⟨gb128,_,none⟩) NB126_128.out _).trans (((cell_far (p:=⟨gb128,_,none⟩) NB126_128.out _).trans (((cell_far (p:=⟨gb128,_,none⟩) NB126_128.out _).trans (((cell_far (p:=⟨gb128,_,none⟩) NB126_128.out _).trans (hHeld.1)))))))),((cell_far (p:=⟨gb128,_,none⟩) NB126_128.out _).trans (((cell_far (p:=⟨gb128,_,none⟩) NB126_128.out _).trans (((cell_far (p:=⟨gb128,_,none⟩) NB126_128.out _).trans (((cell_far (p:=⟨gb128,_,none⟩) NB126_128.out _).trans (hHeld.2.1)))))))),((cell_far (p:=⟨gb128,_,none⟩) NB126_128.out _).trans (((cell_far (p:=⟨gb128,_,none⟩) NB126_128.out _).trans (((cell_far (p:=⟨gb128,_,none⟩) NB126_128.out _).trans (((cell_far (p:=⟨gb128,_,none⟩) NB126_128.out _).trans (hHeld.2.2.1)))))))),((cell_far (p:=⟨gb128,_,none⟩) (by first | exact Kd.own_blk (Kd.R_ne HO_6.out BK128.out (by decide)) |(rw [add_block];exact Kd.own_blk (Kd.R_ne HO_6.out BK128.out (by decide))) |(show(Addr.add _ _).block≠_;rw [add_block];exact Kd.own_blk (Kd.R_ne HO_6.out BK128.out (by decide))) |(dsimp only;exact Kd.own_blk (Kd.R_ne HO_6.out BK128.out (by decide)))) _).trans (((cell_far (p:=⟨gb128,_,none⟩) (by first | exact Kd.own_blk (Kd.R_ne HO_6.out BK128.out (by decide)) |(rw [add_block];exact Kd.own_blk (Kd.R_ne HO_6.out BK128.out (by decide))) |(show(Addr.add _ _).block≠_;rw [add_block];exact Kd.own_blk (Kd.R_ne HO_6.out BK128.out (by decide))) |(dsimp only;exact Kd.own_blk (Kd.R_ne HO_6.out BK128.out (by decide)))) _).trans (((cell_far (p:=⟨gb128,_,none⟩) (by first | exact Kd.own_blk (Kd.R_ne HO_6.out BK128.out (by decide)) |(rw [add_block];exact Kd.own_blk (Kd.R_ne HO_6.out BK128.out (by decide))) |(show(Addr.add _ _).block≠_;rw [add_block];exact Kd.own_blk (Kd.R_ne HO_6.out BK128.out (by decide))) |(dsimp only;exact Kd.own_blk (Kd.R_ne HO_6.out BK128.out (by decide)))) _).trans (((cell_far (p:=⟨gb128,_,none⟩) (by first | exact Kd.own_blk (Kd.R_ne HO_6.out BK128.out (by decide)) |(rw [add_block];exact Kd.own_blk (Kd.R_ne HO_6.out BK128.out (by decide))) |(show(Addr.add _ _).block≠_;rw [add_block];exact Kd.own_blk (Kd.R_ne HO_6.out BK128.out (by decide))) |(dsimp only;exact Kd.own_blk (Kd.R_ne HO_6.out BK128.out (by decide)))) _).trans (hHeld.2.2.2))))))))⟩ (fun hHeld=>?_)
     clear hK K
     refine done_ (done_of HT_.out (by kernel_rfl)) ?_
     have hnb52:=NB126_128.out
     have hnc52:=NB128_126.out
     have hcz53_0 : w47.cell? ⟨gb126,0,none⟩ = some (.int .i64 ((rd_T39 l0 x33_3).f0)):=(bkC BK126.out 0).trans rfl
     have hcz53_1 : w47.cell? ⟨gb126,1,none⟩ = some (.int .i64 ((rd_T39 l0 x33_3).f1)):=(bkC BK126.out 1).trans rfl
     have hcz53_2 : w47.cell? ⟨gb126,2,none⟩ = some (.int .i64 ((rd_T39 l0 x33_3).f2)):=(bkC BK126.out 2).trans rfl
     have hfz53_0:=bkF BK126.out 0
     have hfz53_1:=bkF BK126.out 1
     have hfz53_2:=bkF BK126.out 2
     try go_wp2_with (first |((with_reducible refine gate_callee (f:=45) rfl ?_);refine goesL_ (some 46) rfl rfl Try.func45 (by kernel_rfl) rfl #[.agg #[.int .i64 ((rd_T39 l0 x33_3).f0),.int .i64 ((rd_T39 l0 x33_3).f1),.int .i64 ((rd_T39 l0 x33_3).f2)]] rfl (by(try simp only [List.map_toArray,List.map_cons,List.map_nil]);first | done | rfl |(simp only [List.length_drop,List.length_take];rfl)) ?_;(with_reducible refine(loops_hasParts.calls ((rd_T39 l0 x33_3).f0) ((rd_T39 l0 x33_3).f1) ((rd_T39 l0 x33_3).f2) false _ A16.out).mono ?_);rintro e w54 ⟨rfl,hb⟩;refine⟨_,rfl,?_⟩;have n0_:=Aside0.mk (Kd.R_below (by(with_reducible repeat(first | apply Kd.R_alloc | apply Kd.R_drewN | apply Kd.R_drew));exact(Kd.R_mono (Kd.R_far (p:=⟨gb128,3,none⟩) (Kd.R_far (p:=⟨gb128,2,none⟩) (Kd.R_far (p:=⟨gb128,1,none⟩) (Kd.R_far (p:=⟨gb128,0,none⟩) (Kd.R_types HO_6.out BK128.out (by decide)) (fun _ hk=>hk.2) (.int .i64 (rd x6_2 x33_3))) (fun _ hk=>hk.2) (.int .i64 ((rd_T39 l0 x33_3).f0))) (fun _ hk=>hk.2) (.int .i64 0)) (fun _ hk=>hk.2) (.int .i64 0)) (fun _ h_=>h_.1))) hb);have n1_:=Aside0.mk (Kd.R_below (by(with_reducible repeat(first | apply Kd.R_alloc | apply Kd.R_drewN | apply Kd.R_drew));exact(Kd.R_mono (Kd.R_far (p:=⟨gb128,3,none⟩) (Kd.R_far (p:=⟨gb128,2,none⟩) (Kd.R_far (p:=⟨gb128,1,none⟩) (Kd.R_far (p:=⟨gb128,0,none⟩) (Kd.R_mono HO_8.out (fun k_ hk=>(⟨hk,hk.2⟩ : _∧k_≠gb128))) (fun _ hk=>hk.2) (.int .i64 (rd x6_2 x33_3))) (fun _ hk=>hk.2) (.int .i64 ((rd_T39 l0 x33_3).f0))) (fun _ hk=>hk.2) (.int .i64 0)) (fun _ hk=>hk.2) (.int .i64 0)) (fun _ h_=>h_.1))) hb);have n2_:=Aside0.mk (bkB (g:=gb126) (o:=.cells #[.int .i64 ((rd_T39 l0 x33_3).f0),.int .i64 ((rd_T39 l0 x33_3).f1),.int .i64 ((rd_T39 l0 x33_3).f2)] 39 (0,0)) (by(with_reducible repeat(first | refine bkN ?_ _ | refine bkD ?_ | refine bkA ?_ _));refine blk_far ?_ NB126_128.out _;(with_reducible repeat(first | refine bkN ?_ _ | refine bkD ?_ | refine bkA ?_ _));refine blk_far ?_ NB126_128.out _;(with_reducible repeat(first | refine bkN ?_ _ | refine bkD ?_ | refine bkA ?_ _));refine blk_far ?_ NB126_128.out _;(with_reducible repeat(first | refine bkN ?_ _ | refine bkD ?_ | refine bkA ?_ _));refine blk_far ?_ NB126_128.out _;(with_reducible repeat(first | refine bkN ?_ _ | refine bkD ?_ | refine bkA ?_ _));exact BK126.out) hb);have n3_:=Aside0.mk (bkB (g:=gb128) (o:=.cells #[.int .i64 (rd x6_2 x33_3),.int .i64 ((rd_T39 l0 x33_3).f0),.int .i64 0,.int .i64 0] 98 (0,0)) (by(with_reducible repeat(first | refine bkN ?_ _ | refine bkD ?_ | refine bkA ?_ _));refine blk_put (cs:=#[.int .i64 (rd x6_2 x33_3),.int .i64 ((rd_T39 l0 x33_3).f0),.int .i64 0,.int .i64 0]) ?_ 3 _ rfl;(with_reducible repeat(first | refine bkN ?_ _ | refine bkD ?_ | refine bkA ?_ _));refine blk_put (cs:=#[.int .i64 (rd x6_2 x33_3),.int .i64 ((rd_T39 l0 x33_3).f0),.int .i64 0,.int .i64 0]) ?_ 2 _ rfl;(with_reducible repeat(first | refine bkN ?_ _ | refine bkD ?_ | refine bkA ?_ _));refine blk_put (cs:=#[.int .i64 (rd x6_2 x33_3),.int .i64 0,.int .i64 0,.int .i64 0]) ?_ 1 _ rfl;(with_reducible repeat(first | refine bkN ?_ _ | refine bkD ?_ | refine bkA ?_ _));refine blk_put (cs:=#[.int .i64 0,.int .i64 0,.int .i64 0,.int .i64 0]) ?_ 0 _ rfl;(with_reducible repeat(first | refine bkN ?_ _ | refine bkD ?_ | refine bkA ?_ _));exact BK128.out) hb);have n4_:=Aside0.mk (bwT (by repeat(first |(with_reducible first | exact HB.out | apply bwA | apply bwN | apply bw1 | refine bwS ?_ GE126.out | refine bwS ?_ GE128.out) | exact HB.out)) hb);clear HO_6;clear HO_8;clear BK126;clear BK128;clear HB;have HO_6:=n0_;have HO_8:=n1_;have BK126:=n2_;have BK128:=n3_;have HB:=n4_;clear n0_ n1_ n2_ n3_ n4_;(try clear hb);(try clear hb2);(try clear hk);(try clear hi);have hcz55_0 : w54.cell? ⟨gb128,0,none⟩ = some (.int .i64 (rd x6_2 x33_3)):=(bkC BK128.out 0).trans rfl;have hcz55_1 : w54.cell? ⟨gb128,1,none⟩ = some (.int .i64 ((rd_T39 l0 x33_3).f0)):=(bkC BK128.out 1).trans rfl;have hcz55_2 : w54.cell? ⟨gb128,2,none⟩ = some (.int .i64 0):=(bkC BK128.out 2).trans rfl;have hcz55_3 : w54.cell? ⟨gb128,3,none⟩ = some (.int .i64 0):=(bkC BK128.out 3).trans rfl;have hfz55_0:=bkF BK128.out 0;have hfz55_1:=bkF BK128.out 1;have hfz55_2:=bkF BK128.out 2;have hfz55_3:=bkF BK128.out 3) |((with_reducible refine gate_builtin (b:=.append) (xs:=#[.tmp 59,.tmp 61]) rfl ?_);at_builtin;refine Kd.R_append k98 (w0:=w) w.heap.size rfl (.tmp 59) (.tmp 61) 97 98 (.agg #[(.int .i64 0),(.int .i64 0),(.int .i64 0),(.int .i64 0)]) 32 rfl Try.underlying97 info98 rfl (by decide) (by omega) u8 x8_3 (⟨rd x6_2 x33_3,(rd_T39 l0 x33_3).f0,0,0⟩ : S98) [.int .i64 (rd x6_2 x33_3),.int .i64 ((rd_T39 l0 x33_3).f0),.int .i64 0,.int .i64 0] (fun k_=>k_≠gb128) (fun _=>False) rfl rfl ?aP (fun _ hk=>hk.elim) ?aF ?aO ?aB ?aS ?aL ?_;(case aP=>exact k98_mkM _ _ _ (⟨rd x6_2 x33_3,(rd_T39 l0 x33_3).f0,0,0⟩ : S98));(case aB=>exact(by repeat(first |(with_reducible first | exact HB.out | apply bwA | apply bwN | apply bw1 | refine bwS ?_ GE126.out | refine bwS ?_ GE128.out) | exact HB.out)));(case aF=>exact(fun k_ hk=>Kd.freshB (g:=gb128) (o:=.cells #[.int .i64 (rd x6_2 x33_3),.int .i64 ((rd_T39 l0 x33_3).f0),.int .i64 0,.int .i64 0] 98 (0,0)) (by(with_reducible repeat(first | refine bkN ?_ _ | refine bkD ?_ | refine bkA ?_ _));exact BK128.out) k_ hk));(case aO=>exact(by(with_reducible repeat(first | apply Kd.R_alloc | apply Kd.R_drewN | apply Kd.R_drew));exact Kd.R_mono HO_8.out (fun _ hk=>hk.2)));(case aS=>exact(bwZ (by repeat(first |(with_reducible first | exact HB.out | apply bwA | apply bwN | apply bw1 | refine bwS ?_ GE126.out | refine bwS ?_ GE128.out) | exact HB.out))));(case aL=>have:=LMc41.out;omega);intro v136 w56 ho hb hg hat;rw [← Ny135.out] at ho;have n0_:=Aside0.mk (Kd.R_over' (by(with_reducible repeat(first | apply Kd.R_alloc | apply Kd.R_drewN | apply Kd.R_drew));exact HO_6.out) (Kd.R_typed (by(with_reducible repeat(first | apply Kd.R_alloc | apply Kd.R_drewN | apply Kd.R_drew));exact HO_8.out)) (by decide) hg);have n1_:=Aside0.mk (blk_grown (g:=gb126) (o:=.cells #[.int .i64 ((rd_T39 l0 x33_3).f0),.int .i64 ((rd_T39 l0 x33_3).f1),.int .i64 ((rd_T39 l0 x33_3).f2)] 39 (0,0)) (by(with_reducible repeat(first | refine bkN ?_ _ | refine bkD ?_ | refine bkA ?_ _));exact BK126.out) hg (Kd.R_ne HO_8.out BK126.out (by decide)));have n2_:=Aside0.mk (blk_grown (g:=gb128) (o:=.cells #[.int .i64 (rd x6_2 x33_3),.int .i64 ((rd_T39 l0 x33_3).f0),.int .i64 0,.int .i64 0] 98 (0,0)) (by(with_reducible repeat(first | refine bkN ?_ _ | refine bkD ?_ | refine bkA ?_ _));exact BK128.out) hg (Kd.R_away HO_8.out (fun _ hk=>hk.2)));have n3_:=Aside0.mk (hb);have n4_:=Aside0.mk (ho);clear HO_6;clear BK126;clear BK128;clear HB;clear HO_8;have HO_6:=n0_;have BK126:=n1_;have BK128:=n2_;have HB:=n3_;have HO137:=n4_;clear n0_ n1_ n2_ n3_ n4_;clear ho hb hg hat))
     go_roundg k3
     case measure=>have:=HK1.out;have:=HK2.out;have:=HK3.out;omega
     exact⟨(y135),(wrap64 (x33_3 + 1)),(by first | rfl |(simp;done) |(simp [*];done)),H',⟨by have:=HK1.out;have:=HK2.out;have:=HK3.out;omega⟩,⟨by(with_reducible repeat(first | apply Kd.R_alloc | apply Kd.R_drewN | apply Kd.R_drew));exact HO_6.out⟩,⟨by(with_reducible repeat(first | apply Kd.R_alloc | apply Kd.R_drewN | apply Kd.R_drew));exact Kd.R_mono HO137.out (fun _ hk=>trivial)⟩,⟨by repeat(first |(with_reducible first | exact HB.out | apply bwA | apply bwN | apply bw1 | refine bwS ?_ GE126.out | refine bwS ?_ GE128.out) | exact HB.out)⟩⟩
    subst c17
    have H1 :(if 0 ≤((rd_T39 l0 x33_3).f1) then(if((rd_T39 l0 x33_3).f1) < (x6_2.length : Int) then(if 0 ≤((rd_T39 l0 x33_3).f2) then(if((rd_T39 l0 x33_3).f2) < (x6_2.length : Int) then(if x8_3.length < 4398046511104 then(loops_classes.l2 k3 l0 x6_2 x7_2 (x8_3 ++ [(⟨rd x6_2 x33_3,(rd_T39 l0 x33_3).f0,rd x6_2 ((rd_T39 l0 x33_3).f1),rd x6_2 ((rd_T39 l0 x33_3).f2)⟩ : S98)]) l0 (l0.length : Int) (wrap64 (x33_3 + 1))) else(none)) else(none)) else(none)) else(none)) else(none)) = some r:=by rw [if_pos rfl] at H;exact H
    clear H
    have H:=H1
    clear H1
    by_cases c18 : 0 ≤((rd_T39 l0 x33_3).f1)
    rotate_left
    ·rw [if_neg c18] at H
     exact absurd H (by simp)
    rw [if_pos c18] at H
    have c18b0 : decide (0 ≤((rd_T39 l0 x33_3).f1)) = true:=decide_eq_true c18
    clear c18
    by_cases c19 :((rd_T39 l0 x33_3).f1) < (x6_2.length : Int)
    rotate_left
    ·rw [if_neg c19] at H
     exact absurd H (by simp)
    rw [if_pos c19] at H
    have c19b0 : decide (((rd_T39 l0 x33_3).f1) < (x6_2.length : Int)) = true:=decide_eq_true c19
    clear c19
    by_cases c20 : 0 ≤((rd_T39 l0 x33_3).f2)
    rotate_left
    ·rw [if_neg c20] at H
     exact absurd H (by simp)
    rw [if_pos c20] at H
    have c20b0 : decide (0 ≤((rd_T39 l0 x33_3).f2)) = true:=decide_eq_true c20
    clear c20
    by_cases c21 :((rd_T39 l0 x33_3).f2) < (x6_2.length : Int)
    rotate_left
    ·rw [if_neg c21] at H
     exact absurd H (by simp)
    rw [if_pos c21] at H
    have c21b0 : decide (((rd_T39 l0 x33_3).f2) < (x6_2.length : Int)) = true:=decide_eq_true c21
    clear c21
    by_cases c22 : x8_3.length < 4398046511104
    rotate_left
    ·rw [if_neg c22] at H
     exact absurd H (by simp)
    rw [if_pos c22] at H
    have LMc22:=Aside0.mk c22
    clear c22
    obtain ⟨y132,hy132⟩ : ∃ y_ : List (S98),y_ =(x8_3 ++ [(⟨rd x6_2 x33_3,(rd_T39 l0 x33_3).f0,rd x6_2 ((rd_T39 l0 x33_3).f1),rd x6_2 ((rd_T39 l0 x33_3).f2)⟩ : S98)]):=⟨_,rfl⟩
    replace H :(loops_classes.l2 k3 l0 x6_2 x7_2 y132 l0 (l0.length : Int) (wrap64 (x33_3 + 1))) = some r:=by first |(rw [hy132];with_reducible exact H) |(have H2_:=(Option.bind_some _ _).symm.trans H;rw [hy132];with_reducible exact H2_) |(have H2_:=(Option.bind_some _ _).symm.trans H;with_reducible exact H2_) | with_reducible exact H |(rw [hy132];exact H) | exact H
    have Ny132:=Aside0.mk hy132
    clear hy132
    have H':=Aside0.mk H
    clear H
    have p125 : 0 ≤(x33_3 : Int):=of_decide_eq_true (by first |(with_reducible assumption) | assumption)
    have q125 : x33_3 < (l0.length : Int):=of_decide_eq_true (by first |(with_reducible assumption) | assumption)
    obtain ⟨ad125,e125,hx125_0,hx125_1,hx125_2⟩:=at_T39 HR0.out x33_3 p125 q125
    cases e125
    replace hx125_0:=(HB.out.cell (World.block_lt_of_cell? w _ hx125_0)).trans hx125_0
    replace hx125_1:=(HB.out.cell (World.block_lt_of_cell? w _ hx125_1)).trans hx125_1
    replace hx125_2:=(HB.out.cell (World.block_lt_of_cell? w _ hx125_2)).trans hx125_2
    replace p125:=eq_true p125
    replace q125:=eq_true q125
    try go_wp2_with (first |((with_reducible refine gate_dst (N:=10) rfl ?_);refine box_event ?hg (N:=10) ?hd (cs:=#[.int .i64 0,.int .i64 0,.int .i64 0]) (t:=39) ?hr ?_;(case hd=>rfl);(case hg=>rfl);(case hr=>first |(go_simp;done) |(go_simp;rfl));intro gb126 hg w23 hbox hb;have n0_:=Aside0.mk (Kd.R_below (by(with_reducible repeat(first | apply Kd.R_alloc | apply Kd.R_drewN | apply Kd.R_drew));exact HO_6.out) hb);have n1_:=Aside0.mk (Kd.R_below (by(with_reducible repeat(first | apply Kd.R_alloc | apply Kd.R_drewN | apply Kd.R_drew));exact HO_8.out) hb);have n2_:=Aside0.mk (bwT (by repeat(first |(with_reducible first | exact HB.out | apply bwA | apply bwN | apply bw1) | exact HB.out)) hb);have n3_:=Aside0.mk (hbox);have n4_:=Aside0.mk ((by rw [hg];exact(bwZ (by repeat(first |(with_reducible first | exact HB.out | apply bwA | apply bwN | apply bw1) | exact HB.out))) : w.heap.size≤gb126));have n5_:=Aside0.mk ((by rw [hg];exact(bwZ (by repeat(first |(with_reducible first | exact HB.out | apply bwA | apply bwN | apply bw1) | exact HB.out))) : w.heap.size≤gb126));clear HO_6;clear HO_8;clear HB;have HO_6:=n0_;have HO_8:=n1_;have HB:=n2_;have BK126:=n3_;have GW126:=n4_;have GE126:=n5_;clear n0_ n1_ n2_ n3_ n4_ n5_;clear hb hbox hg;have hcz24_0 : w23.cell? ⟨gb126,0,none⟩ = some (.int .i64 0):=(bkC BK126.out 0).trans rfl;have hcz24_1 : w23.cell? ⟨gb126,1,none⟩ = some (.int .i64 0):=(bkC BK126.out 1).trans rfl;have hcz24_2 : w23.cell? ⟨gb126,2,none⟩ = some (.int .i64 0):=(bkC BK126.out 2).trans rfl;have hfz24_0:=bkF BK126.out 0;have hfz24_1:=bkF BK126.out 1;have hfz24_2:=bkF BK126.out 2))
    have n0_ : Aside0 (Kd.R (Kd.int .i64) 3 (((w23.setCell ⟨gb126,0,none⟩ (.int .i64 ((rd_T39 l0 x33_3).f0))).setCell ⟨gb126,1,none⟩ (.int .i64 ((rd_T39 l0 x33_3).f1))).setCell ⟨gb126,2,none⟩ (.int .i64 ((rd_T39 l0 x33_3).f2))) w.heap.size (fun _=>True) u6 x6_2):=⟨by(with_reducible repeat(first | apply Kd.R_alloc | apply Kd.R_drewN | apply Kd.R_drew));exact Kd.R_mono (Kd.R_far (p:=⟨gb126,2,none⟩) (Kd.R_far (p:=⟨gb126,1,none⟩) (Kd.R_far (p:=⟨gb126,0,none⟩) (Kd.R_types HO_6.out BK126.out (by decide)) (fun _ hk=>hk.2) (.int .i64 ((rd_T39 l0 x33_3).f0))) (fun _ hk=>hk.2) (.int .i64 ((rd_T39 l0 x33_3).f1))) (fun _ hk=>hk.2) (.int .i64 ((rd_T39 l0 x33_3).f2))) (fun _ hk=>trivial)⟩
    have n1_ : Aside0 (Kd.R k98 98 (((w23.setCell ⟨gb126,0,none⟩ (.int .i64 ((rd_T39 l0 x33_3).f0))).setCell ⟨gb126,1,none⟩ (.int .i64 ((rd_T39 l0 x33_3).f1))).setCell ⟨gb126,2,none⟩ (.int .i64 ((rd_T39 l0 x33_3).f2))) w.heap.size (fun _=>True) u8 x8_3):=⟨by(with_reducible repeat(first | apply Kd.R_alloc | apply Kd.R_drewN | apply Kd.R_drew));exact Kd.R_mono (Kd.R_far (p:=⟨gb126,2,none⟩) (Kd.R_far (p:=⟨gb126,1,none⟩) (Kd.R_far (p:=⟨gb126,0,none⟩) (Kd.R_types HO_8.out BK126.out (by decide)) (fun _ hk=>hk.2) (.int .i64 ((rd_T39 l0 x33_3).f0))) (fun _ hk=>hk.2) (.int .i64 ((rd_T39 l0 x33_3).f1))) (fun _ hk=>hk.2) (.int .i64 ((rd_T39 l0 x33_3).f2))) (fun _ hk=>trivial)⟩
    have n2_ : Aside0 ((((w23.setCell ⟨gb126,0,none⟩ (.int .i64 ((rd_T39 l0 x33_3).f0))).setCell ⟨gb126,1,none⟩ (.int .i64 ((rd_T39 l0 x33_3).f1))).setCell ⟨gb126,2,none⟩ (.int .i64 ((rd_T39 l0 x33_3).f2))).heap[gb126]? = some (.cells #[.int .i64 ((rd_T39 l0 x33_3).f0),.int .i64 ((rd_T39 l0 x33_3).f1),.int .i64 ((rd_T39 l0 x33_3).f2)] 39 (0,0))):=⟨by(with_reducible repeat(first | refine bkN ?_ _ | refine bkD ?_ | refine bkA ?_ _));refine blk_put (cs:=#[.int .i64 ((rd_T39 l0 x33_3).f0),.int .i64 ((rd_T39 l0 x33_3).f1),.int .i64 0]) ?_ 2 _ rfl;(with_reducible repeat(first | refine bkN ?_ _ | refine bkD ?_ | refine bkA ?_ _));refine blk_put (cs:=#[.int .i64 ((rd_T39 l0 x33_3).f0),.int .i64 0,.int .i64 0]) ?_ 1 _ rfl;(with_reducible repeat(first | refine bkN ?_ _ | refine bkD ?_ | refine bkA ?_ _));refine blk_put (cs:=#[.int .i64 0,.int .i64 0,.int .i64 0]) ?_ 0 _ rfl;(with_reducible repeat(first | refine bkN ?_ _ | refine bkD ?_ | refine bkA ?_ _));exact BK126.out⟩
    have n3_ : Aside0 (Below w.heap.size w (((w23.setCell ⟨gb126,0,none⟩ (.int .i64 ((rd_T39 l0 x33_3).f0))).setCell ⟨gb126,1,none⟩ (.int .i64 ((rd_T39 l0 x33_3).f1))).setCell ⟨gb126,2,none⟩ (.int .i64 ((rd_T39 l0 x33_3).f2)))):=⟨by repeat(first |(with_reducible first | exact HB.out | apply bwA | apply bwN | apply bw1 | refine bwS ?_ GE126.out) | exact HB.out)⟩
    (try clear HO_6)
    (try clear HO_8)
    (try clear BK126)
    (try clear HB)
    generalize (((w23.setCell ⟨gb126,0,none⟩ (.int .i64 ((rd_T39 l0 x33_3).f0))).setCell ⟨gb126,1,none⟩ (.int .i64 ((rd_T39 l0 x33_3).f1))).setCell ⟨gb126,2,none⟩ (.int .i64 ((rd_T39 l0 x33_3).f2))) = w25 at n0_ n1_ n2_ n3_ ⊢
    have HO_6:=n0_
    have HO_8:=n1_
    have BK126:=n2_
    have HB:=n3_
    clear n0_ n1_ n2_ n3_
    have n0_:=Aside0.mk (Kd.R_drew HO_6.out)
    have n1_:=Aside0.mk (Kd.R_drew HO_8.out)
    have n2_:=Aside0.mk (bkD BK126.out)
    have n3_:=Aside0.mk (bw1 HB.out)
    clear HO_6
    clear HO_8
    clear BK126
    clear HB
    have HO_6:=n0_
    have HO_8:=n1_
    have BK126:=n2_
    have HB:=n3_
    clear n0_ n1_ n2_ n3_
    obtain ⟨Ao27,co27,eo27⟩:=Kd.R_slice HO_6.out
    (first | subst eo27 |(injection eo27 with f1_ f2_ f3_;have f4_:=f1_.symm;have f5_:=f3_.symm;clear f1_ f2_ f3_;subst f4_;subst f5_))
    have p127 : 0 ≤(x33_3 : Int):=of_decide_eq_true (by first |(with_reducible assumption) | assumption)
    have q127 : x33_3 < (x6_2.length : Int):=of_decide_eq_true (by first |(with_reducible assumption) | assumption)
    obtain ⟨ad127,e127,hx127_0⟩:=Kd.at_int (Kd.R_reads' HO_6.out).2.2 x33_3 p127 q127
    cases e127
    replace p127:=eq_true p127
    replace q127:=eq_true q127
    refine start_ (n:=9) (S:=fun w'=>w'.cell? ⟨gb126,0,none⟩ = some (.int .i64 ((rd_T39 l0 x33_3).f0))∧w'.cell? ⟨gb126,1,none⟩ = some (.int .i64 ((rd_T39 l0 x33_3).f1))∧w'.cell? ⟨gb126,2,none⟩ = some (.int .i64 ((rd_T39 l0 x33_3).f2))∧w'.cell? (ad127.add (x33_3).toNat) = some (.int .i64 (rd x6_2 x33_3))) (ds:=[]) #[false,false,false,false,false,false,false,false,false] (by kernel_rfl) rfl rfl ⟨(bkC BK126.out 0).trans rfl,(bkC BK126.out 1).trans rfl,(bkC BK126.out 2).trans rfl,hx127_0⟩ (fun hHeld=>?_);refine with_tabW loops_classes.tab12 loops_classes.bits12 (fun HT_ HW_=>?_)
    generalize w25.drew = w26 at HO_6 HO_8 BK126 HB hx127_0 hHeld ⊢
    refine pure_ (i:=0) (N:=some 38) (v:=?_) (a':=?_) #[true,false,false,false,false,false,false,false,false] rfl rfl (any_of HT_.out (by kernel_rfl)) (fun _ _ _ h=>h) (Or.inl ⟨by rfl,?_⟩) ?_ ?_
    rotate_left
    ·intro w'
     go_simp
     with_reducible rfl
    rotate_left
    ·simp only [Act.put, List.setIfInBounds_toArray, List.set_cons_zero, List.set_cons_succ, i64_w, i32_w]
     rfl
    refine pure_ (i:=1) (N:=some 39) (v:=?_) (a':=?_) #[true,true,false,false,false,false,false,false,false] rfl rfl (any_of HT_.out (by kernel_rfl)) (fun _ _ _ h=>h) (Or.inl ⟨by rfl,?_⟩) ?_ ?_
    rotate_left
    ·intro w'
     go_simp
     with_reducible rfl
    rotate_left
    ·simp only [Act.put, List.setIfInBounds_toArray, List.set_cons_zero, List.set_cons_succ, i64_w, i32_w]
     rfl
    refine pure_ (i:=2) (N:=some 40) (v:=?_) (a':=?_) #[true,true,true,false,false,false,false,false,false] rfl rfl (any_of HT_.out (by kernel_rfl)) (fun _ _ _ h=>h) (Or.inl ⟨by rfl,?_⟩) ?_ ?_
    rotate_left
    ·intro w'
     go_simp
     with_reducible rfl
    rotate_left
    ·simp only [Act.put, List.setIfInBounds_toArray, List.set_cons_zero, List.set_cons_succ, i64_w, i32_w]
     rfl
    refine pure_ (i:=4) (N:=some 42) (v:=?_) (a':=?_) #[true,true,true,false,true,false,false,false,false] rfl rfl (any_of HT_.out (by kernel_rfl)) (fun _ _ _ h=>h) (Or.inl ⟨by rfl,?_⟩) ?_ ?_
    rotate_left
    ·intro w'
     go_simp
     with_reducible rfl
    rotate_left
    ·simp only [Act.put, List.setIfInBounds_toArray, List.set_cons_zero, List.set_cons_succ, i64_w, i32_w]
     rfl
    refine take_ (i:=3) (N:=some 41) (v:=?_) (a':=?_) #[true,true,true,true,true,false,false,false,false] rfl rfl (take_ofW HT_.out HW_.out (by kernel_rfl)) (fun _ _ _ h=>h) (Or.inl ⟨by rfl,?_⟩) hHeld ?_ ?_
    rotate_left
    ·rintro w' ⟨s0, s1, s2, s3⟩
     go_simp
     with_reducible rfl
    rotate_left
    ·simp only [Act.put, List.setIfInBounds_toArray, List.set_cons_zero, List.set_cons_succ, i64_w, i32_w]
     rfl
    refine take_ (i:=5) (N:=some 43) (v:=?_) (a':=?_) #[true,true,true,true,true,true,false,false,false] rfl rfl (take_ofW HT_.out HW_.out (by kernel_rfl)) (fun _ _ _ h=>h) (Or.inl ⟨by rfl,?_⟩) hHeld ?_ ?_
    rotate_left
    ·rintro w' ⟨s0, s1, s2, s3⟩
     go_simp
     with_reducible rfl
    rotate_left
    ·simp only [Act.put, List.setIfInBounds_toArray, List.set_cons_zero, List.set_cons_succ, i64_w, i32_w]
     rfl
    refine pure_ (i:=6) (N:=some 44) (v:=?_) (a':=?_) #[true,true,true,true,true,true,true,false,false] rfl rfl (any_of HT_.out (by kernel_rfl)) (fun _ _ _ h=>h) (Or.inl ⟨by rfl,?_⟩) ?_ ?_
    rotate_left
    ·intro w'
     go_simp
     with_reducible rfl
    rotate_left
    ·simp only [Act.put, List.setIfInBounds_toArray, List.set_cons_zero, List.set_cons_succ, i64_w, i32_w]
     rfl
    refine one_ (i:=7) (N:=some 11) #[true,true,true,true,true,true,true,true,false] rfl rfl (one_of HT_.out (by kernel_rfl)) (by decide) (fun K hK=>?_)
    refine box_step ?hg (N:=11) ?hd (cs:=#[.int .i64 0,.int .i64 0,.int .i64 0,.int .i64 0]) (t:=98) ?hr ?_;(case hd=>rfl);(case hg=>rfl);(case hr=>first |(go_simp;done) |(go_simp;rfl))
    intro gb128 hg w28 hbox hb
    have HS3_:=(hb.cell (World.block_lt_of_cell? _ _ (hHeld.2.2.2))).trans (hHeld.2.2.2)
    have n0_:=Aside0.mk (Kd.R_below (by(with_reducible repeat(first | apply Kd.R_alloc | apply Kd.R_drewN | apply Kd.R_drew));exact HO_6.out) hb)
    have n1_:=Aside0.mk (Kd.R_below (Kd.R_elderB (by(with_reducible repeat(first | apply Kd.R_alloc | apply Kd.R_drewN | apply Kd.R_drew));exact HO_8.out) gb128 (Nat.le_of_eq hg.symm)) hb)
    have n2_:=Aside0.mk (bkB (g:=gb126) (o:=.cells #[.int .i64 ((rd_T39 l0 x33_3).f0),.int .i64 ((rd_T39 l0 x33_3).f1),.int .i64 ((rd_T39 l0 x33_3).f2)] 39 (0,0)) (by(with_reducible repeat(first | refine bkN ?_ _ | refine bkD ?_ | refine bkA ?_ _));exact BK126.out) hb)
    have n3_:=Aside0.mk (bwT (by repeat(first |(with_reducible first | exact HB.out | apply bwA | apply bwN | apply bw1 | refine bwS ?_ GE126.out) | exact HB.out)) hb)
    have n4_:=Aside0.mk (hbox)
    have n5_:=Aside0.mk ((by rw [hg];exact(bwZ (by repeat(first |(with_reducible first | exact HB.out | apply bwA | apply bwN | apply bw1 | refine bwS ?_ GE126.out) | exact HB.out))) : w.heap.size≤gb128))
    have n6_:=Aside0.mk ((by rw [hg];exact(bwZ (by repeat(first |(with_reducible first | exact HB.out | apply bwA | apply bwN | apply bw1 | refine bwS ?_ GE126.out) | exact HB.out))) : w.heap.size≤gb128))
    have n7_:=Aside0.mk ((by rw [hg];exact Nat.ne_of_lt (blk_lt (g:=gb126) (o:=.cells #[.int .i64 ((rd_T39 l0 x33_3).f0),.int .i64 ((rd_T39 l0 x33_3).f1),.int .i64 ((rd_T39 l0 x33_3).f2)] 39 (0,0)) (by(with_reducible repeat(first | refine bkN ?_ _ | refine bkD ?_ | refine bkA ?_ _));exact BK126.out)) : gb126≠gb128))
    have n8_:=Aside0.mk ((by rw [hg];exact Nat.ne_of_gt (blk_lt (g:=gb126) (o:=.cells #[.int .i64 ((rd_T39 l0 x33_3).f0),.int .i64 ((rd_T39 l0 x33_3).f1),.int .i64 ((rd_T39 l0 x33_3).f2)] 39 (0,0)) (by(with_reducible repeat(first | refine bkN ?_ _ | refine bkD ?_ | refine bkA ?_ _));exact BK126.out)) : gb128≠gb126))
    clear HO_6
    clear HO_8
    clear BK126
    clear HB
    have HO_6:=n0_
    have HO_8:=n1_
    have BK126:=n2_
    have HB:=n3_
    have BK128:=n4_
    have GW128:=n5_
    have GE128:=n6_
    have NB126_128:=n7_
    have NB128_126:=n8_
    clear n0_ n1_ n2_ n3_ n4_ n5_ n6_ n7_ n8_
    clear hb hbox hg
    refine hK.out _ _ ⟨(bkC BK126.out 0).trans rfl,(bkC BK126.out 1).trans rfl,(bkC BK126.out 2).trans rfl,HS3_⟩ (fun hHeld=>?_)
    clear hK K
    refine norm_ (a':=?_) ?_ ?_
    rotate_left
    ·show Act.put _ (some 11) _ = _
     simp only [Act.put,List.setIfInBounds_toArray,List.set_cons_zero,List.set_cons_succ,i64_w,i32_w]
     rfl
    refine one_ (i:=8) (N:=none) #[true,true,true,true,true,true,true,true,true] rfl rfl (one_of HT_.out (by kernel_rfl)) (by decide) (fun K hK=>?_)
    have hs29 : w28.cell? ⟨gb128,0,none⟩ = some (.int .i64 0):=(bkC BK128.out 0).trans rfl
    have hfs29:=bkF BK128.out 0
    have hns29_0:=NB126_128.out
    have hms29_0:=NB128_126.out
    have hs30 : w28.cell? ⟨gb128,1,none⟩ = some (.int .i64 0):=(bkC BK128.out 1).trans rfl
    have hfs30:=bkF BK128.out 1
    have hns30_0:=NB126_128.out
    have hms30_0:=NB128_126.out
    have hs31 : w28.cell? ⟨gb128,2,none⟩ = some (.int .i64 0):=(bkC BK128.out 2).trans rfl
    have hfs31:=bkF BK128.out 2
    have hns31_0:=NB126_128.out
    have hms31_0:=NB128_126.out
    have hs32 : w28.cell? ⟨gb128,3,none⟩ = some (.int .i64 0):=(bkC BK128.out 3).trans rfl
    have hfs32:=bkF BK128.out 3
    have hns32_0:=NB126_128.out
    have hms32_0:=NB128_126.out
    refine skip_ (w1:=?_) (by rfl) rfl ?_ ?_
    rotate_left
    ·go_simp
     rfl
    refine hK.out _ _ ⟨((cell_far (p:=⟨gb128,_,none⟩) NB126_128.out _).trans (((cell_far (p:=⟨gb128,_,none⟩) NB126_128.out _).trans (((cell_far (p:=⟨gb128,_,none⟩) NB126_128.out _).trans (((cell_far (p:=⟨gb128,_,none⟩) NB126_128.out _).trans (hHeld.1)))))))),((cell_far (p:=⟨gb128,_,none⟩) NB126_128.out _).trans (((cell_far (p:=⟨gb128,_,none⟩) NB126_128.out _).trans (((cell_far (p:=⟨gb128,_,none⟩) NB126_128.out _).trans (((cell_far (p:=⟨gb128,_,none⟩) NB126_128.out _).trans (hHeld.2.1)))))))),((cell_far (p:=⟨gb128,_,none⟩) NB126_128.out _).trans (((cell_far (p:=⟨gb128,_,none⟩) NB126_128.out _).trans (((cell_far (p:=⟨gb128,_,none⟩) NB126_128.out _).trans (((cell_far (p:=⟨gb128,_,none⟩) NB126_128.out _).trans (hHeld.2.2.1)))))))),((cell_far (p:=⟨gb128,_,none⟩) (by first | exact Kd.own_blk (Kd.R_ne HO_6.out BK128.out (by decide)) |(rw [add_block];exact Kd.own_blk (Kd.R_ne HO_6.out BK128.out (by decide))) |(show(Addr.add _ _).block≠_;rw [add_block];exact Kd.own_blk (Kd.R_ne HO_6.out BK128.out (by decide))) |(dsimp only;exact Kd.own_blk (Kd.R_ne HO_6.out BK128.out (by decide)))) _).trans (((cell_far (p:=⟨gb128,_,none⟩) (by first | exact Kd.own_blk (Kd.R_ne HO_6.out BK128.out (by decide)) |(rw [add_block];exact Kd.own_blk (Kd.R_ne HO_6.out BK128.out (by decide))) |(show(Addr.add _ _).block≠_;rw [add_block];exact Kd.own_blk (Kd.R_ne HO_6.out BK128.out (by decide))) |(dsimp only;exact Kd.own_blk (Kd.R_ne HO_6.out BK128.out (by decide)))) _).trans (((cell_far (p:=⟨gb128,_,none⟩) (by first | exact Kd.own_blk (Kd.R_ne HO_6.out BK128.out (by decide)) |(rw [add_block];exact Kd.own_blk (Kd.R_ne HO_6.out BK128.out (by decide))) |(show(Addr.add _ _).block≠_;rw [add_block];exact Kd.own_blk (Kd.R_ne HO_6.out BK128.out (by decide))) |(dsimp only;exact Kd.own_blk (Kd.R_ne HO_6.out BK128.out (by decide)))) _).trans (((cell_far (p:=⟨gb128,_,none⟩) (by first | exact Kd.own_blk (Kd.R_ne HO_6.out BK128.out (by decide)) |(rw [add_block];exact Kd.own_blk (Kd.R_ne HO_6.out BK128.out (by decide))) |(show(Addr.add _ _).block≠_;rw [add_block];exact Kd.own_blk (Kd.R_ne HO_6.out BK128.out (by decide))) |(dsimp only;exact Kd.own_blk (Kd.R_ne HO_6.out BK128.out (by decide)))) _).trans (hHeld.2.2.2))))))))⟩ (fun hHeld=>?_)
    clear hK K
    refine done_ (done_of HT_.out (by kernel_rfl)) ?_
    have hnb33:=NB126_128.out
    have hnc33:=NB128_126.out
    have hcz34_0 : w28.cell? ⟨gb126,0,none⟩ = some (.int .i64 ((rd_T39 l0 x33_3).f0)):=(bkC BK126.out 0).trans rfl
    have hcz34_1 : w28.cell? ⟨gb126,1,none⟩ = some (.int .i64 ((rd_T39 l0 x33_3).f1)):=(bkC BK126.out 1).trans rfl
    have hcz34_2 : w28.cell? ⟨gb126,2,none⟩ = some (.int .i64 ((rd_T39 l0 x33_3).f2)):=(bkC BK126.out 2).trans rfl
    have hfz34_0:=bkF BK126.out 0
    have hfz34_1:=bkF BK126.out 1
    have hfz34_2:=bkF BK126.out 2
    try go_wp2_with (first |((with_reducible refine gate_callee (f:=45) rfl ?_);refine goesL_ (some 46) rfl rfl Try.func45 (by kernel_rfl) rfl #[.agg #[.int .i64 ((rd_T39 l0 x33_3).f0),.int .i64 ((rd_T39 l0 x33_3).f1),.int .i64 ((rd_T39 l0 x33_3).f2)]] rfl (by(try simp only [List.map_toArray,List.map_cons,List.map_nil]);first | done | rfl |(simp only [List.length_drop,List.length_take];rfl)) ?_;(with_reducible refine(loops_hasParts.calls ((rd_T39 l0 x33_3).f0) ((rd_T39 l0 x33_3).f1) ((rd_T39 l0 x33_3).f2) true _ A16.out).mono ?_);rintro e w35 ⟨rfl,hb⟩;refine⟨_,rfl,?_⟩;have n0_:=Aside0.mk (Kd.R_below (by(with_reducible repeat(first | apply Kd.R_alloc | apply Kd.R_drewN | apply Kd.R_drew));exact(Kd.R_mono (Kd.R_far (p:=⟨gb128,3,none⟩) (Kd.R_far (p:=⟨gb128,2,none⟩) (Kd.R_far (p:=⟨gb128,1,none⟩) (Kd.R_far (p:=⟨gb128,0,none⟩) (Kd.R_types HO_6.out BK128.out (by decide)) (fun _ hk=>hk.2) (.int .i64 (rd x6_2 x33_3))) (fun _ hk=>hk.2) (.int .i64 ((rd_T39 l0 x33_3).f0))) (fun _ hk=>hk.2) (.int .i64 0)) (fun _ hk=>hk.2) (.int .i64 0)) (fun _ h_=>h_.1))) hb);have n1_:=Aside0.mk (Kd.R_below (by(with_reducible repeat(first | apply Kd.R_alloc | apply Kd.R_drewN | apply Kd.R_drew));exact(Kd.R_mono (Kd.R_far (p:=⟨gb128,3,none⟩) (Kd.R_far (p:=⟨gb128,2,none⟩) (Kd.R_far (p:=⟨gb128,1,none⟩) (Kd.R_far (p:=⟨gb128,0,none⟩) (Kd.R_mono HO_8.out (fun k_ hk=>(⟨hk,hk.2⟩ : _∧k_≠gb128))) (fun _ hk=>hk.2) (.int .i64 (rd x6_2 x33_3))) (fun _ hk=>hk.2) (.int .i64 ((rd_T39 l0 x33_3).f0))) (fun _ hk=>hk.2) (.int .i64 0)) (fun _ hk=>hk.2) (.int .i64 0)) (fun _ h_=>h_.1))) hb);have n2_:=Aside0.mk (bkB (g:=gb126) (o:=.cells #[.int .i64 ((rd_T39 l0 x33_3).f0),.int .i64 ((rd_T39 l0 x33_3).f1),.int .i64 ((rd_T39 l0 x33_3).f2)] 39 (0,0)) (by(with_reducible repeat(first | refine bkN ?_ _ | refine bkD ?_ | refine bkA ?_ _));refine blk_far ?_ NB126_128.out _;(with_reducible repeat(first | refine bkN ?_ _ | refine bkD ?_ | refine bkA ?_ _));refine blk_far ?_ NB126_128.out _;(with_reducible repeat(first | refine bkN ?_ _ | refine bkD ?_ | refine bkA ?_ _));refine blk_far ?_ NB126_128.out _;(with_reducible repeat(first | refine bkN ?_ _ | refine bkD ?_ | refine bkA ?_ _));refine blk_far ?_ NB126_128.out _;(with_reducible repeat(first | refine bkN ?_ _ | refine bkD ?_ | refine bkA ?_ _));exact BK126.out) hb);have n3_:=Aside0.mk (bkB (g:=gb128) (o:=.cells #[.int .i64 (rd x6_2 x33_3),.int .i64 ((rd_T39 l0 x33_3).f0),.int .i64 0,.int .i64 0] 98 (0,0)) (by(with_reducible repeat(first | refine bkN ?_ _ | refine bkD ?_ | refine bkA ?_ _));refine blk_put (cs:=#[.int .i64 (rd x6_2 x33_3),.int .i64 ((rd_T39 l0 x33_3).f0),.int .i64 0,.int .i64 0]) ?_ 3 _ rfl;(with_reducible repeat(first | refine bkN ?_ _ | refine bkD ?_ | refine bkA ?_ _));refine blk_put (cs:=#[.int .i64 (rd x6_2 x33_3),.int .i64 ((rd_T39 l0 x33_3).f0),.int .i64 0,.int .i64 0]) ?_ 2 _ rfl;(with_reducible repeat(first | refine bkN ?_ _ | refine bkD ?_ | refine bkA ?_ _));refine blk_put (cs:=#[.int .i64 (rd x6_2 x33_3),.int .i64 0,.int .i64 0,.int .i64 0]) ?_ 1 _ rfl;(with_reducible repeat(first | refine bkN ?_ _ | refine bkD ?_ | refine bkA ?_ _));refine blk_put (cs:=#[.int .i64 0,.int .i64 0,.int .i64 0,.int .i64 0]) ?_ 0 _ rfl;(with_reducible repeat(first | refine bkN ?_ _ | refine bkD ?_ | refine bkA ?_ _));exact BK128.out) hb);have n4_:=Aside0.mk (bwT (by repeat(first |(with_reducible first | exact HB.out | apply bwA | apply bwN | apply bw1 | refine bwS ?_ GE126.out | refine bwS ?_ GE128.out) | exact HB.out)) hb);clear HO_6;clear HO_8;clear BK126;clear BK128;clear HB;have HO_6:=n0_;have HO_8:=n1_;have BK126:=n2_;have BK128:=n3_;have HB:=n4_;clear n0_ n1_ n2_ n3_ n4_;(try clear hb);(try clear hb2);(try clear hk);(try clear hi)))
    have n0_:=Aside0.mk (Kd.R_drew HO_6.out)
    have n1_:=Aside0.mk (Kd.R_drew HO_8.out)
    have n2_:=Aside0.mk (bkD BK126.out)
    have n3_:=Aside0.mk (bkD BK128.out)
    have n4_:=Aside0.mk (bw1 HB.out)
    clear HO_6
    clear HO_8
    clear BK126
    clear BK128
    clear HB
    have HO_6:=n0_
    have HO_8:=n1_
    have BK126:=n2_
    have BK128:=n3_
    have HB:=n4_
    clear n0_ n1_ n2_ n3_ n4_
    have p130 : 0 ≤(((rd_T39 l0 x33_3).f1) : Int):=of_decide_eq_true (by first |(with_reducible assumption) | assumption)
    have q130 :((rd_T39 l0 x33_3).f1) < (x6_2.length : Int):=of_decide_eq_true (by first |(with_reducible assumption) | assumption)
    obtain ⟨ad130,e130,hx130_0⟩:=Kd.at_int (Kd.R_reads' HO_6.out).2.2 ((rd_T39 l0 x33_3).f1) p130 q130
    obtain rfl : ad127 = ad130:=(by injection e130)
    replace p130:=eq_true p130
    replace q130:=eq_true q130
    have p131 : 0 ≤(((rd_T39 l0 x33_3).f2) : Int):=of_decide_eq_true (by first |(with_reducible assumption) | assumption)
    have q131 :((rd_T39 l0 x33_3).f2) < (x6_2.length : Int):=of_decide_eq_true (by first |(with_reducible assumption) | assumption)
    obtain ⟨ad131,e131,hx131_0⟩:=Kd.at_int (Kd.R_reads' HO_6.out).2.2 ((rd_T39 l0 x33_3).f2) p131 q131
    obtain rfl : ad127 = ad131:=(by injection e131)
    replace p131:=eq_true p131
    replace q131:=eq_true q131
    refine start_ (n:=14) (S:=fun w'=>w'.cell? ⟨gb126,0,none⟩ = some (.int .i64 ((rd_T39 l0 x33_3).f0))∧w'.cell? ⟨gb126,1,none⟩ = some (.int .i64 ((rd_T39 l0 x33_3).f1))∧w'.cell? ⟨gb126,2,none⟩ = some (.int .i64 ((rd_T39 l0 x33_3).f2))∧w'.cell? (ad127.add (((rd_T39 l0 x33_3).f1)).toNat) = some (.int .i64 (rd x6_2 ((rd_T39 l0 x33_3).f1)))∧w'.cell? (ad127.add (((rd_T39 l0 x33_3).f2)).toNat) = some (.int .i64 (rd x6_2 ((rd_T39 l0 x33_3).f2)))) (ds:=[]) #[false,false,false,false,false,false,false,false,false,false,false,false,false,false] (by kernel_rfl) rfl rfl ⟨(bkC BK126.out 0).trans rfl,(bkC BK126.out 1).trans rfl,(bkC BK126.out 2).trans rfl,hx130_0,hx131_0⟩ (fun hHeld=>?_);refine with_tabW loops_classes.tab14 loops_classes.bits14 (fun HT_ HW_=>?_)
    generalize w35.drew = w36 at HO_6 HO_8 BK126 BK128 HB hx130_0 hx131_0 hHeld ⊢
    refine pure_ (i:=0) (N:=some 47) (v:=?_) (a':=?_) #[true,false,false,false,false,false,false,false,false,false,false,false,false,false] rfl rfl (any_of HT_.out (by kernel_rfl)) (fun _ _ _ h=>h) (Or.inl ⟨by rfl,?_⟩) ?_ ?_
    rotate_left
    ·intro w'
     go_simp
     with_reducible rfl
    rotate_left
    ·simp only [Act.put, List.setIfInBounds_toArray, List.set_cons_zero, List.set_cons_succ, i64_w, i32_w]
     rfl
    refine pure_ (i:=1) (N:=some 48) (v:=?_) (a':=?_) #[true,true,false,false,false,false,false,false,false,false,false,false,false,false] rfl rfl (any_of HT_.out (by kernel_rfl)) (fun _ _ _ h=>h) (Or.inl ⟨by rfl,?_⟩) ?_ ?_
    rotate_left
    ·intro w'
     go_simp
     with_reducible rfl
    rotate_left
    ·simp only [Act.put, List.setIfInBounds_toArray, List.set_cons_zero, List.set_cons_succ, i64_w, i32_w]
     rfl
    refine pure_ (i:=5) (N:=some 52) (v:=?_) (a':=?_) #[true,true,false,false,false,true,false,false,false,false,false,false,false,false] rfl rfl (any_of HT_.out (by kernel_rfl)) (fun _ _ _ h=>h) (Or.inl ⟨by rfl,?_⟩) ?_ ?_
    rotate_left
    ·intro w'
     go_simp
     with_reducible rfl
    rotate_left
    ·simp only [Act.put, List.setIfInBounds_toArray, List.set_cons_zero, List.set_cons_succ, i64_w, i32_w]
     rfl
    refine pure_ (i:=6) (N:=some 53) (v:=?_) (a':=?_) #[true,true,false,false,false,true,true,false,false,false,false,false,false,false] rfl rfl (any_of HT_.out (by kernel_rfl)) (fun _ _ _ h=>h) (Or.inl ⟨by rfl,?_⟩) ?_ ?_
    rotate_left
    ·intro w'
     go_simp
     with_reducible rfl
    rotate_left
    ·simp only [Act.put, List.setIfInBounds_toArray, List.set_cons_zero, List.set_cons_succ, i64_w, i32_w]
     rfl
    refine take_ (i:=2) (N:=some 49) (v:=?_) (a':=?_) #[true,true,true,false,false,true,true,false,false,false,false,false,false,false] rfl rfl (take_ofW HT_.out HW_.out (by kernel_rfl)) (fun _ _ _ h=>h) (Or.inl ⟨by rfl,?_⟩) hHeld ?_ ?_
    rotate_left
    ·rintro w' ⟨s0, s1, s2, s3, s4⟩
     go_simp
     with_reducible rfl
    rotate_left
    ·simp only [Act.put, List.setIfInBounds_toArray, List.set_cons_zero, List.set_cons_succ, i64_w, i32_w]
     rfl
    refine pure_ (i:=3) (N:=some 50) (v:=?_) (a':=?_) #[true,true,true,true,false,true,true,false,false,false,false,false,false,false] rfl rfl (any_of HT_.out (by kernel_rfl)) (fun _ _ _ h=>h) (Or.inl ⟨by rfl,?_⟩) ?_ ?_
    rotate_left
    ·intro w'
     go_simp
     with_reducible rfl
    rotate_left
    ·simp only [Act.put, List.setIfInBounds_toArray, List.set_cons_zero, List.set_cons_succ, i64_w, i32_w]
     rfl
    refine take_ (i:=4) (N:=some 51) (v:=?_) (a':=?_) #[true,true,true,true,true,true,true,false,false,false,false,false,false,false] rfl rfl (take_ofW HT_.out HW_.out (by kernel_rfl)) (fun _ _ _ h=>h) (Or.inl ⟨by rfl,?_⟩) hHeld ?_ ?_
    rotate_left
    ·rintro w' ⟨s0, s1, s2, s3, s4⟩
     go_simp
     with_reducible rfl
    rotate_left
    ·simp only [Act.put, List.setIfInBounds_toArray, List.set_cons_zero, List.set_cons_succ, i64_w, i32_w]
     rfl
    refine pure_ (i:=10) (N:=some 57) (v:=?_) (a':=?_) #[true,true,true,true,true,true,true,false,false,false,true,false,false,false] rfl rfl (any_of HT_.out (by kernel_rfl)) (fun _ _ _ h=>h) (Or.inl ⟨by rfl,?_⟩) ?_ ?_
    rotate_left
    ·intro w'
     go_simp
     with_reducible rfl
    rotate_left
    ·simp only [Act.put, List.setIfInBounds_toArray, List.set_cons_zero, List.set_cons_succ, i64_w, i32_w]
     rfl
    refine take_ (i:=7) (N:=some 54) (v:=?_) (a':=?_) #[true,true,true,true,true,true,true,true,false,false,true,false,false,false] rfl rfl (take_ofW HT_.out HW_.out (by kernel_rfl)) (fun _ _ _ h=>h) (Or.inl ⟨by rfl,?_⟩) hHeld ?_ ?_
    rotate_left
    ·rintro w' ⟨s0, s1, s2, s3, s4⟩
     go_simp
     with_reducible rfl
    rotate_left
    ·simp only [Act.put, List.setIfInBounds_toArray, List.set_cons_zero, List.set_cons_succ, i64_w, i32_w]
     rfl
    refine pure_ (i:=8) (N:=some 55) (v:=?_) (a':=?_) #[true,true,true,true,true,true,true,true,true,false,true,false,false,false] rfl rfl (any_of HT_.out (by kernel_rfl)) (fun _ _ _ h=>h) (Or.inl ⟨by rfl,?_⟩) ?_ ?_
    rotate_left
    ·intro w'
     go_simp
     with_reducible rfl
    rotate_left
    ·simp only [Act.put, List.setIfInBounds_toArray, List.set_cons_zero, List.set_cons_succ, i64_w, i32_w]
     rfl
    refine take_ (i:=9) (N:=some 56) (v:=?_) (a':=?_) #[true,true,true,true,true,true,true,true,true,true,true,false,false,false] rfl rfl (take_ofW HT_.out HW_.out (by kernel_rfl)) (fun _ _ _ h=>h) (Or.inl ⟨by rfl,?_⟩) hHeld ?_ ?_
    rotate_left
    ·rintro w' ⟨s0, s1, s2, s3, s4⟩
     go_simp
     with_reducible rfl
    rotate_left
    ·simp only [Act.put, List.setIfInBounds_toArray, List.set_cons_zero, List.set_cons_succ, i64_w, i32_w]
     rfl
    refine one_ (i:=11) (N:=none) #[true,true,true,true,true,true,true,true,true,true,true,true,false,false] rfl rfl (one_of HT_.out (by kernel_rfl)) (by decide) (fun K hK=>?_)
    have hs37 : w36.cell? ⟨gb128,2,none⟩ = some (.int .i64 0):=(bkC BK128.out 2).trans rfl
    have hfs37:=bkF BK128.out 2
    have hns37_0:=NB126_128.out
    have hms37_0:=NB128_126.out
    refine skip_ (w1:=?_) (by rfl) rfl ?_ ?_
    rotate_left
    ·go_simp
     rfl
    refine hK.out _ _ ⟨((cell_far (p:=⟨gb128,_,none⟩) NB126_128.out _).trans (hHeld.1)),((cell_far (p:=⟨gb128,_,none⟩) NB126_128.out _).trans (hHeld.2.1)),((cell_far (p:=⟨gb128,_,none⟩) NB126_128.out _).trans (hHeld.2.2.1)),((cell_far (p:=⟨gb128,_,none⟩) (by first | exact Kd.own_blk (Kd.R_ne HO_6.out BK128.out (by decide)) |(rw [add_block];exact Kd.own_blk (Kd.R_ne HO_6.out BK128.out (by decide))) |(show(Addr.add _ _).block≠_;rw [add_block];exact Kd.own_blk (Kd.R_ne HO_6.out BK128.out (by decide))) |(dsimp only;exact Kd.own_blk (Kd.R_ne HO_6.out BK128.out (by decide)))) _).trans (hHeld.2.2.2.1)),((cell_far (p:=⟨gb128,_,none⟩) (by first | exact Kd.own_blk (Kd.R_ne HO_6.out BK128.out (by decide)) |(rw [add_block];exact Kd.own_blk (Kd.R_ne HO_6.out BK128.out (by decide))) |(show(Addr.add _ _).block≠_;rw [add_block];exact Kd.own_blk (Kd.R_ne HO_6.out BK128.out (by decide))) |(dsimp only;exact Kd.own_blk (Kd.R_ne HO_6.out BK128.out (by decide)))) _).trans (hHeld.2.2.2.2))⟩ (fun hHeld=>?_)
    clear hK K
    refine pure_ (i:=12) (N:=some 58) (v:=?_) (a':=?_) #[true,true,true,true,true,true,true,true,true,true,true,true,true,false] rfl rfl (any_of HT_.out (by kernel_rfl)) (fun _ _ _ h=>h) (Or.inl ⟨by rfl,?_⟩) ?_ ?_
    rotate_left
    ·intro w'
     go_simp
     with_reducible rfl
    rotate_left
    ·simp only [Act.put, List.setIfInBounds_toArray, List.set_cons_zero, List.set_cons_succ, i64_w, i32_w]
     rfl
    refine one_ (i:=13) (N:=none) #[true,true,true,true,true,true,true,true,true,true,true,true,true,true] rfl rfl (one_of HT_.out (by kernel_rfl)) (by decide) (fun K hK=>?_)
    have hs38 : w36.cell? ⟨gb128,3,none⟩ = some (.int .i64 0):=(bkC BK128.out 3).trans rfl
    have hfs38:=bkF BK128.out 3
    have hns38_0:=NB126_128.out
    have hms38_0:=NB128_126.out
    refine skip_ (w1:=?_) (by rfl) rfl ?_ ?_
    rotate_left
    ·go_simp
     rfl
    refine hK.out _ _ ⟨((cell_far (p:=⟨gb128,_,none⟩) NB126_128.out _).trans (hHeld.1)),((cell_far (p:=⟨gb128,_,none⟩) NB126_128.out _).trans (hHeld.2.1)),((cell_far (p:=⟨gb128,_,none⟩) NB126_128.out _).trans (hHeld.2.2.1)),((cell_far (p:=⟨gb128,_,none⟩) (by first | exact Kd.own_blk (Kd.R_ne HO_6.out BK128.out (by decide)) |(rw [add_block];exact Kd.own_blk (Kd.R_ne HO_6.out BK128.out (by decide))) |(show(Addr.add _ _).block≠_;rw [add_block];exact Kd.own_blk (Kd.R_ne HO_6.out BK128.out (by decide))) |(dsimp only;exact Kd.own_blk (Kd.R_ne HO_6.out BK128.out (by decide)))) _).trans (hHeld.2.2.2.1)),((cell_far (p:=⟨gb128,_,none⟩) (by first | exact Kd.own_blk (Kd.R_ne HO_6.out BK128.out (by decide)) |(rw [add_block];exact Kd.own_blk (Kd.R_ne HO_6.out BK128.out (by decide))) |(show(Addr.add _ _).block≠_;rw [add_block];exact Kd.own_blk (Kd.R_ne HO_6.out BK128.out (by decide))) |(dsimp only;exact Kd.own_blk (Kd.R_ne HO_6.out BK128.out (by decide)))) _).trans (hHeld.2.2.2.2))⟩ (fun hHeld=>?_)
    clear hK K
    refine done_ (done_of HT_.out (by kernel_rfl)) ?_
    have hcz39_0 : w36.cell? ⟨gb128,0,none⟩ = some (.int .i64 (rd x6_2 x33_3)):=(bkC BK128.out 0).trans rfl
    have hcz39_1 : w36.cell? ⟨gb128,1,none⟩ = some (.int .i64 ((rd_T39 l0 x33_3).f0)):=(bkC BK128.out 1).trans rfl
    have hcz39_2 : w36.cell? ⟨gb128,2,none⟩ = some (.int .i64 0):=(bkC BK128.out 2).trans rfl
    have hcz39_3 : w36.cell? ⟨gb128,3,none⟩ = some (.int .i64 0):=(bkC BK128.out 3).trans rfl
    have hfz39_0:=bkF BK128.out 0
    have hfz39_1:=bkF BK128.out 1
    have hfz39_2:=bkF BK128.out 2
    have hfz39_3:=bkF BK128.out 3
    try go_wp2_with (first |((with_reducible refine gate_builtin (b:=.append) (xs:=#[.tmp 59,.tmp 61]) rfl ?_);at_builtin;refine Kd.R_append k98 (w0:=w) w.heap.size rfl (.tmp 59) (.tmp 61) 97 98 (.agg #[(.int .i64 0),(.int .i64 0),(.int .i64 0),(.int .i64 0)]) 32 rfl Try.underlying97 info98 rfl (by decide) (by omega) u8 x8_3 (⟨rd x6_2 x33_3,(rd_T39 l0 x33_3).f0,rd x6_2 ((rd_T39 l0 x33_3).f1),rd x6_2 ((rd_T39 l0 x33_3).f2)⟩ : S98) [.int .i64 (rd x6_2 x33_3),.int .i64 ((rd_T39 l0 x33_3).f0),.int .i64 (rd x6_2 ((rd_T39 l0 x33_3).f1)),.int .i64 (rd x6_2 ((rd_T39 l0 x33_3).f2))] (fun k_=>k_≠gb128) (fun _=>False) rfl (by first |(go_simp;done) |(go_simp;rfl)) ?aP (fun _ hk=>hk.elim) ?aF ?aO ?aB ?aS ?aL ?_;(case aP=>exact k98_mkM _ _ _ (⟨rd x6_2 x33_3,(rd_T39 l0 x33_3).f0,rd x6_2 ((rd_T39 l0 x33_3).f1),rd x6_2 ((rd_T39 l0 x33_3).f2)⟩ : S98));(case aB=>exact(by repeat(first |(with_reducible first | exact HB.out | apply bwA | apply bwN | apply bw1 | refine bwS ?_ GE126.out | refine bwS ?_ GE128.out) | exact HB.out)));(case aF=>exact(fun k_ hk=>Kd.freshB (g:=gb128) (o:=.cells #[.int .i64 (rd x6_2 x33_3),.int .i64 ((rd_T39 l0 x33_3).f0),.int .i64 (rd x6_2 ((rd_T39 l0 x33_3).f1)),.int .i64 (rd x6_2 ((rd_T39 l0 x33_3).f2))] 98 (0,0)) (by(with_reducible repeat(first | refine bkN ?_ _ | refine bkD ?_ | refine bkA ?_ _));refine blk_put (cs:=#[.int .i64 (rd x6_2 x33_3),.int .i64 ((rd_T39 l0 x33_3).f0),.int .i64 (rd x6_2 ((rd_T39 l0 x33_3).f1)),.int .i64 0]) ?_ 3 _ rfl;(with_reducible repeat(first | refine bkN ?_ _ | refine bkD ?_ | refine bkA ?_ _));refine blk_put (cs:=#[.int .i64 (rd x6_2 x33_3),.int .i64 ((rd_T39 l0 x33_3).f0),.int .i64 0,.int .i64 0]) ?_ 2 _ rfl;(with_reducible repeat(first | refine bkN ?_ _ | refine bkD ?_ | refine bkA ?_ _));exact BK128.out) k_ hk));(case aO=>exact(by(with_reducible repeat(first | apply Kd.R_alloc | apply Kd.R_drewN | apply Kd.R_drew));exact Kd.R_mono (Kd.R_far (p:=⟨gb128,3,none⟩) (Kd.R_far (p:=⟨gb128,2,none⟩) (Kd.R_mono HO_8.out (fun k_ hk=>(⟨hk,hk.2⟩ : _∧k_≠gb128))) (fun _ hk=>hk.2) (.int .i64 (rd x6_2 ((rd_T39 l0 x33_3).f1)))) (fun _ hk=>hk.2) (.int .i64 (rd x6_2 ((rd_T39 l0 x33_3).f2)))) (fun _ hk=>hk.1.2)));(case aS=>exact(bwZ (by repeat(first |(with_reducible first | exact HB.out | apply bwA | apply bwN | apply bw1 | refine bwS ?_ GE126.out | refine bwS ?_ GE128.out) | exact HB.out))));(case aL=>have:=LMc22.out;omega);intro v133 w40 ho hb hg hat;rw [← Ny132.out] at ho;have n0_:=Aside0.mk (Kd.R_over' (by(with_reducible repeat(first | apply Kd.R_alloc | apply Kd.R_drewN | apply Kd.R_drew));exact(Kd.R_mono (Kd.R_far (p:=⟨gb128,3,none⟩) (Kd.R_far (p:=⟨gb128,2,none⟩) (Kd.R_types HO_6.out BK128.out (by decide)) (fun _ hk=>hk.2) (.int .i64 (rd x6_2 ((rd_T39 l0 x33_3).f1)))) (fun _ hk=>hk.2) (.int .i64 (rd x6_2 ((rd_T39 l0 x33_3).f2)))) (fun _ h_=>h_.1))) (Kd.R_typed (by(with_reducible repeat(first | apply Kd.R_alloc | apply Kd.R_drewN | apply Kd.R_drew));exact(Kd.R_mono (Kd.R_far (p:=⟨gb128,3,none⟩) (Kd.R_far (p:=⟨gb128,2,none⟩) (Kd.R_mono HO_8.out (fun k_ hk=>(⟨hk,hk.2⟩ : _∧k_≠gb128))) (fun _ hk=>hk.2) (.int .i64 (rd x6_2 ((rd_T39 l0 x33_3).f1)))) (fun _ hk=>hk.2) (.int .i64 (rd x6_2 ((rd_T39 l0 x33_3).f2)))) (fun _ h_=>h_.1)))) (by decide) hg);have n1_:=Aside0.mk (blk_grown (g:=gb126) (o:=.cells #[.int .i64 ((rd_T39 l0 x33_3).f0),.int .i64 ((rd_T39 l0 x33_3).f1),.int .i64 ((rd_T39 l0 x33_3).f2)] 39 (0,0)) (by(with_reducible repeat(first | refine bkN ?_ _ | refine bkD ?_ | refine bkA ?_ _));refine blk_far ?_ NB126_128.out _;(with_reducible repeat(first | refine bkN ?_ _ | refine bkD ?_ | refine bkA ?_ _));refine blk_far ?_ NB126_128.out _;(with_reducible repeat(first | refine bkN ?_ _ | refine bkD ?_ | refine bkA ?_ _));exact BK126.out) hg (Kd.R_ne HO_8.out BK126.out (by decide)));have n2_:=Aside0.mk (blk_grown (g:=gb128) (o:=.cells #[.int .i64 (rd x6_2 x33_3),.int .i64 ((rd_T39 l0 x33_3).f0),.int .i64 (rd x6_2 ((rd_T39 l0 x33_3).f1)),.int .i64 (rd x6_2 ((rd_T39 l0 x33_3).f2))] 98 (0,0)) (by(with_reducible repeat(first | refine bkN ?_ _ | refine bkD ?_ | refine bkA ?_ _));refine blk_put (cs:=#[.int .i64 (rd x6_2 x33_3),.int .i64 ((rd_T39 l0 x33_3).f0),.int .i64 (rd x6_2 ((rd_T39 l0 x33_3).f1)),.int .i64 0]) ?_ 3 _ rfl;(with_reducible repeat(first | refine bkN ?_ _ | refine bkD ?_ | refine bkA ?_ _));refine blk_put (cs:=#[.int .i64 (rd x6_2 x33_3),.int .i64 ((rd_T39 l0 x33_3).f0),.int .i64 0,.int .i64 0]) ?_ 2 _ rfl;(with_reducible repeat(first | refine bkN ?_ _ | refine bkD ?_ | refine bkA ?_ _));exact BK128.out) hg (Kd.R_away HO_8.out (fun _ hk=>hk.2)));have n3_:=Aside0.mk (hb);have n4_:=Aside0.mk (ho);clear HO_6;clear BK126;clear BK128;clear HB;clear HO_8;have HO_6:=n0_;have BK126:=n1_;have BK128:=n2_;have HB:=n3_;have HO134:=n4_;clear n0_ n1_ n2_ n3_ n4_;clear ho hb hg hat))
    go_roundg k3
    case measure=>have:=HK1.out;have:=HK2.out;have:=HK3.out;omega
    exact⟨(y132),(wrap64 (x33_3 + 1)),(by first | rfl |(simp;done) |(simp [*];done)),H',⟨by have:=HK1.out;have:=HK2.out;have:=HK3.out;omega⟩,⟨by(with_reducible repeat(first | apply Kd.R_alloc | apply Kd.R_drewN | apply Kd.R_drew));exact HO_6.out⟩,⟨by(with_reducible repeat(first | apply Kd.R_alloc | apply Kd.R_drewN | apply Kd.R_drew));exact Kd.R_mono HO134.out (fun _ hk=>trivial)⟩,⟨by repeat(first |(with_reducible first | exact HB.out | apply bwA | apply bwN | apply bw1 | refine bwS ?_ GE126.out | refine bwS ?_ GE128.out) | exact HB.out)⟩⟩

def canNs (cs ns : List Int) (k : Int) : List Int:=if rd cs k ∈ ns.map (rd cs) then ns else ns ++ [k]
def canIx (cs ns : List Int) (k : Int) : Int:=(numIx (ns.map (rd cs)) (rd cs k) : Int)
def CanPost (cs : List Int) (gn b : Nat) (wc W : World) (vn : Value) (ns : List Int) (r : Int) (e : Ending) (w' : World) : Prop :=
  e = .returned (.int .i64 r)∧∃ vn',w'.heap[gn]? = some (.cells #[vn'] 65 (0,0))∧Kd.R (Kd.int .i64) 3 w' wc.heap.size (fun _=>True) vn' ns∧MapAt w' Try.prog 3 b ns.length (encI (numM (ns.map (rd cs))))∧Kept W w' (fun i=>i = gn∨i = b∨some i = vn.ownBlock)∧Below wc.heap.size wc w'
set_option maxHeartbeats 2000000 in
set_option maxRecDepth 100000 in
theorem find_fn.calls (cs : List Int) (Ac : Option Addr) (cc ga gc gn b : Nat) (wc W : World) (vn : Value) (ns : List Int) (k : Int)
    (hB : Below wc.heap.size wc W) (hcs : Kd.C (Kd.int .i64) wc Ac cs.length cs) (hga : W.heap[ga]? = some (.cells #[.map (some b)] 100 (0,0))) (hgc : W.heap[gc]? = some (.cells #[.slice Ac cs.length cc] 65 (0,0))) (hgn : W.heap[gn]? = some (.cells #[vn] 65 (0,0))) (hge : wc.heap.size≤gn∧wc.heap.size≤b) (hne : gc≠gn)
    (hm : MapAt W Try.prog 3 b ns.length (encI (numM (ns.map (rd cs))))) (hr : Kd.R (Kd.int .i64) 3 W wc.heap.size (fun _=>True) vn ns) (hk : 0≤k∧k < cs.length) (hl : ns.length≤100000) (hi : I64 (rd cs k)) :
    Calls Try.prog 64 #[.int .i64 k,.pointer (some ⟨ga,0,none⟩),.pointer (some ⟨gc,0,none⟩),.pointer (some ⟨gn,0,none⟩)] W (CanPost cs gn b wc W vn (canNs cs ns k) (canIx cs (canNs cs ns k) k)):=by
  obtain ⟨ad,ea,hx0⟩:=Kd.at_int hcs k hk.1 hk.2
  subst ea
  have hx:=(hB.cell (World.block_lt_of_cell? wc _ hx0)).trans hx0
  have ca : W.cell? ⟨ga,0,none⟩ = some (.map (some b)):=(bkC hga 0).trans rfl
  have cc' : W.cell? ⟨gc,0,none⟩ = some (.slice (some ad) cs.length cc):=(bkC hgc 0).trans rfl
  have cn : W.cell? ⟨gn,0,none⟩ = some vn:=(bkC hgn 0).trans rfl
  have p1:=eq_true hk.1
  have q1:=eq_true hk.2
  have hkey:=key3 hi
  obtain ⟨x,hxx⟩ : ∃ x,x = rd cs k:=⟨_,rfl⟩
  rw [← hxx] at hx hkey
  by_cases c4 : rd cs k ∈ ns.map (rd cs)
  · have h4 : x ∈ ns.map (rd cs) := by rw [hxx]; exact c4
    have hlo : ∀ n,(Instr.lookup 100 (.map (some b)) (.int .i64 x) true).run Try.prog (W.drewN n) = .ok (.tuple #[.int .i64 (numIx (ns.map (rd cs)) x : Int),.bool true]) (W.drewN n):=fun n=>by
      rw [(hm.drewN n).lookOk law3 Try.underlying100 (nb_zero _) hkey,nb_some h4];rfl
    have hlk : ∀ n,(Instr.lookup 100 (.map (some b)) (.int .i64 x) false).run Try.prog (W.drewN n) = .ok (.int .i64 (numIx (ns.map (rd cs)) x : Int)) (W.drewN n):=fun n=>by
      rw [(hm.drewN n).look law3 Try.underlying100 (nb_zero _) hkey,nb_some h4];rfl
    have e1 : canNs cs ns k = ns:=if_pos c4
    have e2 : canIx cs ns k =(numIx (ns.map (rd cs)) x : Int):=by unfold canIx;rw [hxx]
    rw [e1,e2]
    have HF:=Aside0.mk (fun(w' : World) (hw : Drawn0 W w')=>show CanPost cs gn b wc W vn ns (numIx (ns.map (rd cs)) x : Int) (.returned (.int .i64 (numIx (ns.map (rd cs)) x : Int))) w' from(by obtain ⟨n,rfl⟩:=hw;exact⟨rfl,vn,hgn,Kd.R_drewN hr n,hm.drewN n,(Kept.refl W _).drewN n,bwN hB n⟩))
    clear e1 e2 c4 h4 hkey hm hr hl hi hne hge hgn hgc hga hcs hB hx0 hxx hk
    go_enter Try.func64,Try.ntmps64
    go_wp2
    repeat(go_quiet (fail);try go_wp2)
    go_ret
    exact HF.out _ (by repeat(first | exact Drawn0.refl _ | apply Drawn0.step))
  have h4 : x ∉ ns.map (rd cs):=by rw [hxx];exact c4
  have hlo : ∀ n,(Instr.lookup 100 (.map (some b)) (.int .i64 x) true).run Try.prog (W.drewN n) = .ok (.tuple #[.int .i64 0,.bool false]) (W.drewN n):=fun n=>by
    rw [(hm.drewN n).lookOk law3 Try.underlying100 (nb_zero _) hkey,nb_none h4];rfl
  have e1 : canNs cs ns k = ns ++ [k]:=if_neg c4
  have e2 : canIx cs (ns ++ [k]) k =(ns.length : Int):=by unfold canIx;rw [List.map_append,List.map_singleton,numIx_new (by rw [← hxx];exact h4),List.length_map]
  rw [e1,e2]
  obtain ⟨A,c,hv⟩:=Kd.R_slice hr
  subst hv
  have hlm : ns.length < maxLen:=by unfold maxLen;omega
  have HST:=Aside0.mk (fun n=>(hm.drewN n).store law3 Try.underlying100 (val:=.int .i64 (ns.length : Int)) hlm hkey (by have:=nb_put1 h4;rwa [List.length_map] at this) (nb_put2 h4))
  have HG:=Aside0.mk hgn
  have HGA:=Aside0.mk hga
  have HGC:=Aside0.mk hgc
  have HR:=Aside0.mk hr
  have HM:=Aside0.mk hm
  have HB:=Aside0.mk hB
  have HGE:=Aside0.mk hge
  have H4:=Aside0.mk h4
  have HL:=Aside0.mk hl
  have HKY:=Aside0.mk hkey
  have HXX:=Aside0.mk hxx
  have HNE:=Aside0.mk hne
  have HX0:=Aside0.mk hx0
  have HLT:=Aside0.mk (World.block_lt_of_cell? wc _ hx0)
  clear e1 e2 c4 h4 hkey hm hr hl hi hge hgn hgc hga hcs hB hxx hk hlm hne hx0
  go_enter Try.func64,Try.ntmps64
  go_wp2
  go_quiet (fail)
  go_wp2
  refine wp_region_still_tail 7 (by kernel_rfl) (by kernel_rfl) ?_
  simp only [List.take_succ_cons,List.take_zero,List.drop_succ_cons,List.drop_zero]
  change wpStill _ _ (W.drewN (nq + 1)) _ _ _
  repeat still_step
  refine wpStill_nil ?_
  change wpList _ _ _ _ _ (W.drewN (nq + 1))
  obtain ⟨w2,hst,hm2,hg2⟩:=HST.out (nq + 1)
  rw [nb_none H4.out] at hm2
  have hB2 : Below wc.heap.size wc w2:=Below.grown (bwN HB.out _) hg2 HB.out.size (fun k hk=>by injection hk with hk;have:=HGE.out.2;omega)
  have hR2:=R_mapped (Kd.R_drewN HR.out (nq + 1)) rfl (HM.out.drewN (nq + 1)) hg2
  have hn2:=blk_grown (w:=W.drewN (nq + 1)) HG.out hg2 (by intro e;exact HM.out.ne HG.out (Option.some.inj e).symm)
  have ha2:=blk_grown (w:=W.drewN (nq + 1)) HGA.out hg2 (by intro e;exact HM.out.ne HGA.out (Option.some.inj e).symm)
  have hc2:=blk_grown (w:=W.drewN (nq + 1)) HGC.out hg2 (by intro e;exact HM.out.ne HGC.out (Option.some.inj e).symm)
  have hkm :(if(none : Option Value).isSome then ns.length else ns.length + 1) = ns.length + 1:=rfl
  rw [hkm] at hm2
  obtain ⟨v1,w1,hrun,ho,hB1,hgr,hat⟩:=append_one (Kd.int .i64) (P:=Try.prog) (w0:=wc) (W:=w2) wc.heap.size 65 65 3 (.int .i64 0) 8 Try.underlying65 info3 rfl (by decide) (by omega) (xs:=ns) k [.int .i64 k] (ok:=fun _=>True) (fun _=>False) rfl (fun _ h=>h.elim) (fun _ _=>trivial) hR2 hB2 hB2.size (by have:=HL.out;omega)
  obtain ⟨A1,c1,e1⟩:=Kd.R_slice ho
  have e2 : v1 = .slice A1 (ns.length + 1) c1:=by rw [e1];simp
  clear e1
  subst e2
  obtain ⟨v1,hv1⟩ : ∃ v1,v1 = Value.slice A1 (ns.length + 1) c1:=⟨_,rfl⟩
  rw [← hv1] at ho hrun hat
  have hn1:=blk_grown hn2 hgr (Kd.R_ne hR2 hn2 (by decide))
  have ha1:=blk_grown ha2 hgr (Kd.R_ne hR2 ha2 (by decide))
  have hc1:=blk_grown hc2 hgr (Kd.R_ne hR2 hc2 (by decide))
  have hm1:=hm2.rowed hR2 hgr
  have hnf:=bkF hn1 0
  have cn2 : w2.cell? ⟨gn,0,none⟩ = some (.slice A ns.length c):=(bkC hn2 0).trans rfl
  have cn1 : w1.cell? ⟨gn,0,none⟩ = some (.slice A ns.length c):=(bkC hn1 0).trans rfl
  have hm3 : MapAt (w1.setCell ⟨gn,0,none⟩ v1) Try.prog 3 b (ns.length + 1) (encI (numM (ns.map (rd cs) ++ [x]))):=hm1.setCell (hm1.ne hn1) v1
  have hn3 :(w1.setCell ⟨gn,0,none⟩ v1).heap[gn]? = some (.cells #[v1] 65 (0,0)):=by simpa using blk_set hn1 0 v1
  have ha3:=blk_far ha1 (p:=⟨gn,0,none⟩) (by intro e;rw [e] at ha1;rw [ha1] at hn1;simp at hn1) v1
  have hc3:=blk_far hc1 (p:=⟨gn,0,none⟩) HNE.out v1
  have hR3 : Kd.R (Kd.int .i64) 3 (w1.setCell ⟨gn,0,none⟩ v1) wc.heap.size (fun _=>True) v1 (ns ++ [k]):=Kd.R_set ho hn1 (by intro q hq;have hq : q ∈ [3]:=hq;simp at hq;omega) 0 v1
  have hB3 : Below wc.heap.size wc (w1.setCell ⟨gn,0,none⟩ v1):=hB1.setCell HGE.out.1 v1
  have hx3:=(hB3.cell (p:=ad.add k.toNat) HLT.out).trans HX0.out
  rw [← HXX.out] at hx3
  have hx2:=(hB2.cell (p:=ad.add k.toNat) HLT.out).trans HX0.out
  have ca3 :(w1.setCell ⟨gn,0,none⟩ v1).cell? ⟨ga,0,none⟩ = some (.map (some b)):=(bkC ha3 0).trans rfl
  have cc3 :(w1.setCell ⟨gn,0,none⟩ v1).cell? ⟨gc,0,none⟩ = some (.slice (some ad) cs.length cc):=(bkC hc3 0).trans rfl
  have hlk : ∀ n,(Instr.lookup 100 (.map (some b)) (.int .i64 x) false).run Try.prog ((w1.setCell ⟨gn,0,none⟩ v1).drewN n) = .ok (.int .i64 (ns.length : Int)) ((w1.setCell ⟨gn,0,none⟩ v1).drewN n):=fun n=>by
    rw [(hm3.drewN n).look law3 Try.underlying100 (nb_zero _) HKY.out,nb_put1 H4.out,List.length_map];rfl
  have HK:=((((Kept.refl W (fun i=>i = gn∨i = b∨some i =(Value.slice A ns.length c).ownBlock)).drewN (nq + 1)).of_grown hg2 (fun k hk=>.inl (.inr (.inl (Option.some.inj hk).symm)))).of_grown hgr (fun k hk=>.inl (.inr (.inr hk.symm)))).setCell (p:=⟨gn,0,none⟩) (.inl (.inl rfl)) v1
  have HF:=Aside0.mk (fun(w' : World) (hw : Drawn0 (w1.setCell ⟨gn,0,none⟩ v1) w')=>show CanPost cs gn b wc W (.slice A ns.length c) (ns ++ [k]) (ns.length : Int) (.returned (.int .i64 (ns.length : Int))) w' from(by
    obtain ⟨n,rfl⟩:=hw
    have hmm:=hm3.drewN n
    refine⟨rfl,v1,hn3,Kd.R_drewN hR3 n,?_,HK.drewN n,bwN hB3 n⟩
    rw [List.map_append,List.map_singleton,← HXX.out,List.length_append]
    exact hmm))
  have HRUN:=Aside0.mk hrun
  subst hv1
  clear hm3 hn3 ha3 hc3 hR3 hB3 hx2 hn1 ha1 hc1 hm1 hn2 ha2 hc2 hR2 hB2 hm2 hg2 ho hB1 hgr hat hrun HK hkm HST HXX HX0
  go_wp2_with (at_builtin;go_must (refine wpList_appendRun _ rfl _ _ _ rfl HRUN.out rfl rfl rfl ?_))
  repeat(go_quiet (fail);try go_wp2)
  go_ret
  exact HF.out _ (by repeat(first | exact Drawn0.refl _ | apply Drawn0.step))
def CanSt (cs : List Int) (Ac : Option Addr) (cc ga gc gn b : Nat) (wc W : World) (vn : Value) (ns : List Int) : Prop :=
  Below wc.heap.size wc W∧W.heap[ga]? = some (.cells #[.map (some b)] 100 (0,0))∧W.heap[gc]? = some (.cells #[.slice Ac cs.length cc] 65 (0,0))∧W.heap[gn]? = some (.cells #[vn] 65 (0,0))∧MapAt W Try.prog 3 b ns.length (encI (numM (ns.map (rd cs))))∧Kd.R (Kd.int .i64) 3 W wc.heap.size (fun _=>True) vn ns
section
variable {cs ns : List Int} {Ac : Option Addr} {cc ga gc gn b : Nat} {wc W : World} {vn : Value}
theorem CanSt.below (h : CanSt cs Ac cc ga gc gn b wc W vn ns) {W' : World} (hB : Below W.heap.size W W') : CanSt cs Ac cc ga gc gn b wc W' vn ns:=by
  obtain ⟨h1,h2,h3,h4,h5,h6⟩:=h
  exact⟨below_then h1 h1.size hB,bkB h2 hB,bkB h3 hB,bkB h4 hB,h5.below hB,Kd.R_below h6 hB⟩
theorem CanSt.box (h : CanSt cs Ac cc ga gc gn b wc W vn ns) {g i : Nat} {c : Array Value} (hg : W.heap[g]? = some (.cells c 39 (0,0))) (hge : wc.heap.size≤g) (u : Value) : CanSt cs Ac cc ga gc gn b wc (W.setCell ⟨g,i,none⟩ u) vn ns:=by
  obtain ⟨h1,h2,h3,h4,h5,h6⟩:=h
  exact⟨h1.setCell hge u,blk_far h2 (blk_ne h2 hg (by decide)) u,blk_far h3 (blk_ne h3 hg (by decide)) u,blk_far h4 (blk_ne h4 hg (by decide)) u,h5.box hg u,Kd.R_set h6 hg (by intro q hq;have hq : q ∈ [3]:=hq;simp at hq;omega) i u⟩
/-- What find leaves alone: a block of type 39. -/
theorem CanSt.blk39 (h : CanSt cs Ac cc ga gc gn b wc W vn ns) {W' : World} (hk : Kept W W' (fun i=>i = gn∨i = b∨some i = vn.ownBlock)) {g : Nat} {c : Array Value} (hg : W.heap[g]? = some (.cells c 39 (0,0))) : W'.heap[g]? = some (.cells c 39 (0,0)):=by
  obtain ⟨h1,h2,h3,h4,h5,h6⟩:=h
  refine blk_kept hg hk ?_
  rintro(rfl | rfl | he)
  · exact absurd (blk_type hg h4) (by decide)
  · exact h5.ne hg rfl
  obtain ⟨c1,e1⟩:=own_blk h6 he
  exact absurd (blk_type hg e1) (by decide)
theorem CanSt.row39 (h : CanSt cs Ac cc ga gc gn b wc W vn ns) {W' : World} (hk : Kept W W' (fun i=>i = gn∨i = b∨some i = vn.ownBlock)) {base : Nat} {ok : Nat→Prop} {v : Value} {xs : List S39} (hr : Kd.R k39 39 W base ok v xs) : Kd.R k39 39 W' base ok v xs:=by
  obtain ⟨h1,h2,h3,h4,h5,h6⟩:=h
  refine R_apart hr rfl hk ?_
  rintro k c _ hg (rfl | rfl | he)
  · exact absurd (blk_type hg h4) (by decide)
  · exact h5.ne hg rfl
  obtain ⟨c1,e1⟩:=own_blk h6 he
  exact absurd (blk_type hg e1) (by decide)
/-- A row of types has grown. -/
theorem CanSt.row_app (h : CanSt cs Ac cc ga gc gn b wc W vn ns) {W' : World} {base : Nat} {ok : Nat→Prop} {v : Value} {xs : List S39} (hr : Kd.R k39 39 W base ok v xs) (hg : W.grownBy W' v.ownBlock) (hB : Below wc.heap.size wc W') : CanSt cs Ac cc ga gc gn b wc W' vn ns:=by
  obtain ⟨h1,h2,h3,h4,h5,h6⟩:=h
  refine⟨hB,blk_grown h2 hg (Kd.R_ne hr h2 (by decide)),blk_grown h3 hg (Kd.R_ne hr h3 (by decide)),blk_grown h4 hg (Kd.R_ne hr h4 (by decide)),h5.rowed hr hg,Kd.R_grown2 h6 rfl hg (fun k hk he=>?_)⟩
  obtain ⟨c1,e1⟩:=own_blk hr hk.symm
  obtain ⟨c2,e2⟩:=own_blk h6 he
  exact absurd (blk_type e1 e2) (by decide)
/-- The call of find. -/
theorem find_st (h : CanSt cs Ac cc ga gc gn b wc W vn ns) (hcs : Kd.C (Kd.int .i64) wc Ac cs.length cs) (hge : wc.heap.size ≤ gn ∧ wc.heap.size ≤ b) (hne : gc ≠ gn) (k : Int) (hk : 0 ≤ k ∧ k < cs.length) (hl : ns.length ≤ 100000) (hi : I64 (rd cs k)) :
    Calls Try.prog 64 #[.int .i64 k,.pointer (some ⟨ga,0,none⟩),.pointer (some ⟨gc,0,none⟩),.pointer (some ⟨gn,0,none⟩)] W fun e w'=>e = .returned (.int .i64 (canIx cs (canNs cs ns k) k))∧∃ vn',CanSt cs Ac cc ga gc gn b wc w' vn' (canNs cs ns k)∧Kept W w' (fun i=>i = gn∨i = b∨some i = vn.ownBlock):=by
  obtain ⟨h1,h2,h3,h4,h5,h6⟩:=h
  refine(find_fn.calls cs Ac cc ga gc gn b wc W vn ns k h1 hcs h2 h3 h4 hge hne h5 h6 hk hl hi).mono ?_
  rintro e w' ⟨he,vn',g1,g2,g3,g4,g5⟩
  refine⟨he,vn',⟨g5,blk_kept h2 g4 ?_,blk_kept h3 g4 ?_,g1,g3,g2⟩,g4⟩
  · rintro (rfl | rfl | he)
    · exact absurd (blk_type h2 h4) (by decide)
    · exact h5.ne h2 rfl
    · obtain ⟨c1, e1⟩ := own_blk h6 he
      exact absurd (blk_type h2 e1) (by decide)
  rintro(e | rfl | he)
  · exact hne e
  · exact h5.ne h3 rfl
  obtain ⟨c1,e1⟩:=own_blk h6 he
  exact absurd (blk_type h3 e1) (by decide)
end
theorem hasParts_b (x : S39) : loops_hasParts.f x.f0 x.f1 x.f2 = some (decide (x.f0 = 4∨x.f0 = 5)):=by
  unfold loops_hasParts.f
  by_cases c : x.f0 = 4
  · rw [if_pos c,decide_eq_true (.inl c)]
  rw [if_neg c]
  by_cases c5 : x.f0 = 5 <;> simp [c,c5]
theorem lit_row (W : World) (x : Int) : Kd.R (Kd.int .i64) 3 (W.alloc (.cells #[.int .i64 x] 3)) W.heap.size (fun _=>True) (.slice (some ⟨W.heap.size,0,none⟩) 1 1) [x]:=by
  refine⟨fun k hk=>trivial,[.int .i64 x],?_,?_⟩
  · have h2 := World.ownsRow_lit (base := W.heap.size) (e := 3) (size := 1) W #[.int .i64 x] 1 (Nat.le_refl _) (by decide) (by simp)
    exact(by simpa using h2 :(W.alloc (.cells #[.int .i64 x] 3)).ownsRow W.heap.size 3 1 (.slice (some ⟨W.heap.size,0,none⟩) 1 1) 1 [.int .i64 x])
  exact Reps.one (show Kd.M (Kd.int .i64) _ _ _ x [.int .i64 x] from rfl) (Reps.none _ _)
def canGo (t : List S39) (cs : List Int) : Nat → List Int → Int → List S39 → Option (List S39)
  | 0,_,_,_=>none
  | f + 1,ns,k,out =>
    if k < ns.length then
      (if 0 ≤ k ∧ ns.length ≤ 5000 ∧ 0 ≤ rd ns k ∧ rd ns k < t.length ∧ (out.length : Int) = k then
        (if (rd_T39 t (rd ns k)).f0 = 4 ∨ (rd_T39 t (rd ns k)).f0 = 5 then
          (if (0 ≤ (rd_T39 t (rd ns k)).f1 ∧ (rd_T39 t (rd ns k)).f1 < cs.length) ∧ (0 ≤ (rd_T39 t (rd ns k)).f2 ∧ (rd_T39 t (rd ns k)).f2 < cs.length) then
            canGo t cs f (canNs cs (canNs cs ns (rd_T39 t (rd ns k)).f1) (rd_T39 t (rd ns k)).f2) (k + 1) (out ++ [⟨(rd_T39 t (rd ns k)).f0,canIx cs (canNs cs ns (rd_T39 t (rd ns k)).f1) (rd_T39 t (rd ns k)).f1,canIx cs (canNs cs (canNs cs ns (rd_T39 t (rd ns k)).f1) (rd_T39 t (rd ns k)).f2) (rd_T39 t (rd ns k)).f2⟩])
           else none)
         else canGo t cs f ns (k + 1) (out ++ [rd_T39 t (rd ns k)]))
       else none)
    else some out
def loops_canonical.f (k : Nat) (l0 : List S39) (a1 : Int) : Option (List S39):=(loops_classes.f k l0).bind fun cs=>if cs.length = l0.length ∧(0≤a1∧a1 < cs.length)∧cs.all i64B = true then canGo l0 cs 10000 [a1] 0 [] else none
theorem loops_canonical.mono : ∀ a0 a1 k,LeO (loops_canonical.f k a0 a1) (loops_canonical.f (k + 1) a0 a1):=by
  intro a0 a1 k
  unfold loops_canonical.f
  exact LeO.bind (loops_classes.mono _ _) (fun _=>LeO.refl _)
theorem canNs_len (cs ns : List Int) (k : Int) :(canNs cs ns k).length≤ns.length + 1:=by
  unfold canNs
  split
  · omega
  simp
set_option maxHeartbeats 4000000 in
set_option maxRecDepth 100000 in
theorem loops_canonical.calls (k : Nat) (A0 : Option Addr) (c0 : Nat) (l0 : List S39) (a1 : Int) (r : List S39) (w : World) (hr0 : Kd.C k39 w A0 l0.length l0) (hc0 : l0.length ≤ c0) (h : loops_canonical.f k l0 a1 = some r) :
    Calls Try.prog 42 #[.slice A0 l0.length c0,.int .i64 a1] w fun e w'=>∃ v0_ : Value,e = .returned v0_∧Kd.R k39 39 w' w.heap.size (fun _=>True) v0_ r∧Below w.heap.size w w':=by
  unfold loops_canonical.f at h
  replace h:=Option.bind_eq_some_iff.mp h
  obtain ⟨cs,hcl,h⟩:=h
  by_cases c1 : cs.length = l0.length ∧(0≤a1∧a1 < cs.length)∧cs.all i64B = true
  case neg=>rw [if_neg c1] at h;cases h
  rw [if_pos c1] at h
  have H:=Aside0.mk h
  have HC:=Aside0.mk (loops_classes.calls k A0 c0 l0 cs w hr0 hc0 hcl)
  have HR0:=Aside0.mk hr0
  have HI:=Aside0.mk (fun(i : Int) (hi : 0≤i∧i < cs.length)=>(show I64 (rd cs i) from i64B_I64 (List.all_eq_true.mp c1.2.2 _ (by
    unfold rd
    rw [List.getD_eq_getElem?_getD,List.getElem?_eq_getElem (show i.toNat < cs.length by omega),Option.getD_some]
    exact List.getElem_mem _))))
  have HA1:=Aside0.mk c1.2.1
  have p1:=eq_true c1.2.1.1
  have q1:=eq_true c1.2.1.2
  have hmm:=@run_makeMap Try.prog
  have hmf : ∀ (fn : Fn) (first cap : Array Value) (w : World),(Instr.makeFunc fn first cap).run Try.prog w = .ok (.func fn first cap) w:=fun _ _ _ _=>rfl
  clear h hcl hr0 hc0 c1
  go_enter Try.func42,Try.ntmps42
  go_upto_region 2 with (go_at_call 41;go_must ((with_reducible refine HC.out.mono ?_);rintro e wc ⟨v,rfl,hR,hB⟩;obtain ⟨Ac,cc,ev⟩:=Kd.R_slice hR;subst ev;have HB:=Aside0.mk hB;have HCS:=Aside0.mk (Kd.R_reads' hR).2.2;clear hR hB))
  obtain ⟨ad1,ea1,hx1⟩:=Kd.at_int HCS.out a1 HA1.out.1 HA1.out.2
  subst ea1
  obtain ⟨x1,hx1e⟩ : ∃ x1,x1 = rd cs a1:=⟨_,rfl⟩
  have hi1:=HI.out a1 HA1.out
  rw [← hx1e] at hx1 hi1
  obtain ⟨w3,hst,hm3,hg3⟩:=(MapAt.made (wc.alloc (.cells #[.slice (some ad1) cs.length cc] 65)) Try.prog 3).store law3 Try.underlying100 (by unfold maxLen;omega) (key3 hi1) (val:=.int .i64 0) (f':=encI (numM ([a1].map (rd cs)))) (by rw [hx1e];exact nb_put1 (ds:=[]) (by simp)) (by
    rw [hx1e]
    intro v hv
    have:=nb_put2 (ds:=[]) (x:=rd cs a1) (by simp) v hv
    rw [show [a1].map (rd cs) = [] ++ [rd cs a1] from rfl,this]
    unfold encI numM
    split <;> simp)
  rw [show(if(none : Option Value).isSome then 0 else 0 + 1) = [a1].length from rfl] at hm3
  simp only [World.size_alloc] at hst hm3 hg3
  have hx1b :((wc.alloc (.cells #[.slice (some ad1) cs.length cc] 65)).alloc (.map #[] 0)).cell? (ad1.add a1.toNat) = some (.int .i64 x1):=((bwA (bwA (Below.refl _ _) _) _ : Below wc.heap.size wc ((wc.alloc (.cells #[.slice (some ad1) cs.length cc] 65)).alloc (.map #[] 0))).cell (World.block_lt_of_cell? wc _ hx1)).trans hx1
  have hgc0 :(wc.alloc (.cells #[.slice (some ad1) cs.length cc] 65)).heap[wc.heap.size]? = some (.cells #[.slice (some ad1) cs.length cc] 65 (0,0)):=heap_alloc_new wc _
  have hgc1 :((wc.alloc (.cells #[.slice (some ad1) cs.length cc] 65)).alloc (.map #[] 0)).heap[wc.heap.size]? = some (.cells #[.slice (some ad1) cs.length cc] 65 (0,0)):=bkB hgc0 (bwA (Below.refl _ _) _)
  have hgc3:=blk_grown hgc1 hg3 (by simp)
  have hB3 : Below wc.heap.size wc w3:=Below.grown (bwA (bwA (Below.refl _ _) _) _) hg3 (by simp;omega) (fun k hk=>by injection hk with hk;omega)
  obtain ⟨n3,hn3⟩ : ∃ n3,n3 = w3.heap.size:=⟨_,rfl⟩
  have hsz3 : wc.heap.size + 2≤n3:=by have:=hg3.size;simp at this;omega
  have HST0:=Aside0.mk (show CanSt cs (some ad1) cc n3 wc.heap.size (n3 + 1 + 1) (wc.heap.size + 1) wc (((w3.alloc (.cells #[.map (some (wc.heap.size + 1))] 100)).alloc (.cells #[.int .i64 a1] 3)).alloc (.cells #[.slice (some ⟨n3 + 1,0,none⟩) 1 1] 65)) (.slice (some ⟨n3 + 1,0,none⟩) 1 1) [a1] from by
    refine⟨bwA (bwA (bwA hB3 _) _) _,?_,?_,?_,((hm3.alloc _).alloc _).alloc _,?_⟩
    · exact bkB (bkB (by rw [hn3];exact heap_alloc_new w3 _) (bwA (Below.refl _ _) _)) (bwA (Below.refl _ _) _)
    · exact bkB (bkB (bkB hgc3 (bwA (Below.refl _ _) _)) (bwA (Below.refl _ _) _)) (bwA (Below.refl _ _) _)
    · have := heap_alloc_new ((w3.alloc (.cells #[.map (some (wc.heap.size + 1))] 100)).alloc (.cells #[.int .i64 a1] 3)) (.cells #[.slice (some ⟨n3 + 1, 0, none⟩) 1 1] 65)
      simpa [hn3] using this
    · have := lit_row (w3.alloc (.cells #[.map (some (wc.heap.size + 1))] 100)) a1
      simp only [World.size_alloc,← hn3] at this
      exact Kd.R_lower (Kd.R_alloc this _) (by omega))
  have HGE:=Aside0.mk (show wc.heap.size≤n3 + 1 + 1∧wc.heap.size≤wc.heap.size + 1 by omega)
  have HNE:=Aside0.mk (show wc.heap.size≠n3 + 1 + 1 by omega)
  have hn3' : w3.heap.size = n3:=hn3.symm
  have hca3 : w3.cell? ⟨wc.heap.size,0,none⟩ = some (.slice (some ad1) cs.length cc):=(bkC hgc3 0).trans rfl
  clear hgc0 hgc1 hgc3 hB3 hsz3 hm3 hg3 hi1 hx1e hn3
  go_wp2
  go_loopg [8,10] 10000 (fun kq v8 v10 wr=>∃ (ns : List Int) (i : Int) (out : List S39) (vn : Value),v10 = .int .i64 i∧Aside0 (canGo l0 cs kq ns i out = some r)∧Aside0 (CanSt cs (some ad1) cc n3 wc.heap.size (n3 + 1 + 1) (wc.heap.size + 1) wc wr vn ns)∧Aside0 (Kd.R k39 39 wr wc.heap.size (fun _=>True) v8 out))
  case atStart=>exact⟨[a1],0,[],_,rfl,H,HST0,⟨Kd.R_nil _ _ _ _ _⟩⟩
  clear H HST0
  obtain ⟨ns,i,out,vn,rfl,HG,HS,HO⟩:=hrel
  obtain ⟨m,hm1⟩ : ∃ m,gk = m + 1:=by
    cases gk with
    | zero=>exact absurd HG.out (by simp [canGo])
    | succ m=>exact⟨m,rfl⟩
  have HG1:=HG.out
  rw [hm1] at HG1
  unfold canGo at HG1
  obtain ⟨An,cn,en⟩:=Kd.R_slice HS.out.2.2.2.2.2
  subst en
  have cgn : wr.cell? ⟨n3 + 1 + 1,0,none⟩ = some (.slice An ns.length cn):=(bkC HS.out.2.2.2.1 0).trans rfl
  have HMM:=Aside0.mk (show m < gk by omega)
  by_cases c2 : i < (ns.length : Int)
  rotate_left
  · rw [if_neg c2] at HG1
    obtain rfl:=Option.some.inj HG1
    have c2b0 : decide (i < (ns.length : Int)) = false:=decide_eq_false c2
    have HFB:=Aside0.mk (below_then HB.out HB.out.size HS.out.1)
    have HFR:=Aside0.mk (Kd.R_lower HO.out HB.out.size)
    clear c2 HG1 hm1
    go_wp2
    go_ret
    exact⟨_,rfl,HFR.out,HFB.out⟩
  rw [if_pos c2] at HG1
  by_cases c3 : 0≤i∧ns.length≤5000∧0≤rd ns i∧rd ns i < l0.length ∧(out.length : Int) = i
  case neg=>rw [if_neg c3] at HG1;cases HG1
  rw [if_pos c3] at HG1
  obtain ⟨b0,b1,b2,b3,b4⟩:=c3
  obtain ⟨j,hj⟩ : ∃ j,j = rd ns i:=⟨_,rfl⟩
  obtain ⟨adn,ean,hxn⟩:=Kd.at_int (Kd.R_reads' HS.out.2.2.2.2.2).2.2 i b0 c2
  subst ean
  rw [← hj] at hxn HG1 b2 b3
  obtain ⟨X,hX⟩ : ∃ X,X = rd_T39 l0 j:=⟨_,rfl⟩
  rw [← hX] at HG1
  obtain ⟨adt,eat,ht0,ht1,ht2⟩:=at_T39 (Kd.C_below HR0.out (below_then HB.out HB.out.size HS.out.1)) j b2 b3
  subst eat
  rw [← hX] at ht0 ht1 ht2
  have c2b0 : decide (i < (ns.length : Int)) = true:=decide_eq_true c2
  have hw : wrap64 (i + 1) = i + 1:=by unfold wrap64;omega
  have HW:=Aside0.mk hw
  have r0:=eq_true b0
  have r1:=eq_true c2
  have r2:=eq_true b2
  have r3:=eq_true b3
  have HP:=Aside0.mk (fun W=>loops_hasParts.calls X.f0 X.f1 X.f2 _ W (hasParts_b X))
  have HSX:=Aside0.mk (show CanSt cs (some ad1) cc n3 wc.heap.size (n3 + 1 + 1) (wc.heap.size + 1) wc (wr.alloc (.cells #[.int .i64 X.f0,.int .i64 X.f1,.int .i64 X.f2] 39)) (.slice (some adn) ns.length cn) ns from HS.out.below (bwA (Below.refl _ _) _))
  have HBX:=Aside0.mk (show(wr.alloc (.cells #[.int .i64 X.f0,.int .i64 X.f1,.int .i64 X.f2] 39)).heap[wr.heap.size]? = some (.cells #[.int .i64 X.f0,.int .i64 X.f1,.int .i64 X.f2] 39 (0,0)) from heap_alloc_new wr _)
  have HOX:=Aside0.mk (Kd.R_alloc (Kd.R_mono (Kd.R_bound HO.out) (fun k hk=>hk.2.2.1) : Kd.R k39 39 wr wc.heap.size (fun k=>k < wr.heap.size) _ out) (.cells #[.int .i64 X.f0,.int .i64 X.f1,.int .i64 X.f2] 39))
  have HOL:=Aside0.mk (show out.length≤5000 by omega)
  have HNL:=Aside0.mk b1
  have HGX:=Aside0.mk (show wc.heap.size≤wr.heap.size from HS.out.1.size)
  by_cases c4 : X.f0 = 4∨X.f0 = 5
  rotate_left
  · rw [if_neg c4] at HG1
    rw [decide_eq_false c4] at HP
    have HG2:=Aside0.mk HG1
    clear HG HG1 c2 b0 b1 b2 b3 b4 c4 hj hX hw HS HO hm1
    go_wp2_with (first
      |(go_at_call 45;go_must ((with_reducible refine(HP.out _).mono ?_);rintro e w5 ⟨rfl,hB5⟩;have HS5:=Aside0.mk (HSX.out.below hB5);have hb5:=bkB HBX.out hB5;have HO5:=Aside0.mk (Kd.R_below HOX.out hB5);have hc50 : w5.cell? ⟨wr.heap.size,0,none⟩ = some (.int .i64 X.f0):=(bkC hb5 0).trans rfl;have hc51 : w5.cell? ⟨wr.heap.size,1,none⟩ = some (.int .i64 X.f1):=(bkC hb5 1).trans rfl;have hc52 : w5.cell? ⟨wr.heap.size,2,none⟩ = some (.int .i64 X.f2):=(bkC hb5 2).trans rfl;clear hB5 hb5))
      |(at_builtin;go_must (
           obtain ⟨v1,w1,hrun,ho,hB1,hgr,hat⟩:=append_one k39 (P:=Try.prog) (w0:=wc) (W:=w5) wc.heap.size 22 22 39 (.agg #[.int .i64 0,.int .i64 0,.int .i64 0]) 24 Try.underlying22 info39 rfl (by decide) (by omega) (xs:=out) X [.int .i64 X.f0,.int .i64 X.f1,.int .i64 X.f2] (ok:=fun _=>True) (fun _=>False) (k39_mkM _ _ _ _) (fun _ h=>h.elim) (fun _ _=>trivial) (Kd.R_mono HO5.out (fun _ _=>trivial)) HS5.out.1 HS5.out.1.size (by have:=HOL.out;omega);
           have HRUN:=Aside0.mk hrun;
           have HO1:=Aside0.mk ho;
           have HS1:=Aside0.mk (CanSt.row_app HS5.out (Kd.R_mono HO5.out (fun _ _=>trivial) : Kd.R k39 39 _ wc.heap.size (fun _=>True) _ out) hgr hB1);
           clear hrun ho hB1 hgr hat;
           refine wpList_appendRun _ rfl _ _ _ rfl HRUN.out rfl rfl rfl ?_)))
    go_roundg m
    case measure=>exact HMM.out
    case rel=>exact⟨_,i + 1,_,_,by rw [HW.out],HG2,HS1,HO1⟩
  rw [if_pos c4] at HG1
  rw [decide_eq_true c4] at HP
  by_cases c5 :(0≤X.f1∧X.f1 < cs.length) ∧(0≤X.f2∧X.f2 < cs.length)
  case neg=>rw [if_neg c5] at HG1;cases HG1
  rw [if_pos c5] at HG1
  have HG2:=Aside0.mk HG1
  have HC5:=Aside0.mk c5
  clear HG HG1 c2 b0 b1 b2 b3 b4 c4 c5 hj hX hw HS HO hm1
  have HF1:=Aside0.mk (fun(W : World) (h : CanSt cs (some ad1) cc n3 wc.heap.size (n3 + 1 + 1) (wc.heap.size + 1) wc W (.slice (some adn) ns.length cn) ns)=>find_st h HCS.out HGE.out HNE.out X.f1 HC5.out.1 (by have:=HNL.out;omega) (HI.out _ HC5.out.1))
  have HF2:=Aside0.mk (fun(W : World) (vn : Value) (h : CanSt cs (some ad1) cc n3 wc.heap.size (n3 + 1 + 1) (wc.heap.size + 1) wc W vn (canNs cs ns X.f1))=>find_st h HCS.out HGE.out HNE.out X.f2 HC5.out.2 (by have:=HNL.out;have:=canNs_len cs ns X.f1;omega) (HI.out _ HC5.out.2))
  obtain ⟨i1,hi1⟩ : ∃ i1,i1 = canIx cs (canNs cs ns X.f1) X.f1:=⟨_,rfl⟩
  obtain ⟨i2,hi2⟩ : ∃ i2,i2 = canIx cs (canNs cs (canNs cs ns X.f1) X.f2) X.f2:=⟨_,rfl⟩
  rw [← hi1] at HF1 HG2
  rw [← hi2] at HF2 HG2
  clear hi1 hi2
  go_wp2_with (first
    |(go_at_call 45;go_must ((with_reducible refine(HP.out _).mono ?_);rintro e w5 ⟨rfl,hB5⟩;have HS5:=Aside0.mk (HSX.out.below hB5);have HB5:=Aside0.mk (bkB HBX.out hB5);have HO5:=Aside0.mk (Kd.R_below HOX.out hB5);have hc51 : w5.cell? ⟨wr.heap.size,1,none⟩ = some (.int .i64 X.f1):=(bkC HB5.out 1).trans rfl;clear hB5))
    | (go_at_call 64; go_must (first
      | ((with_reducible refine (HF1.out _ HS5.out).mono ?_); rintro e w6 ⟨rfl, vn6, hS6, hK6⟩;
         have hb6:=HS5.out.blk39 hK6 HB5.out;
         have hO6:=HS5.out.row39 hK6 HO5.out;
         have hc61 : w6.cell? ⟨wr.heap.size,1,none⟩ = some (.int .i64 X.f1):=(bkC hb6 1).trans rfl;
         have hf61:=bkF hb6 1;
         have HS6:=Aside0.mk (hS6.box (i:=1) hb6 HGX.out (.int .i64 i1));
         have hb7 :(w6.setCell ⟨wr.heap.size,1,none⟩ (.int .i64 i1)).heap[wr.heap.size]? = some (.cells #[.int .i64 X.f0,.int .i64 i1,.int .i64 X.f2] 39 (0,0)):=by simpa using blk_set hb6 1 (.int .i64 i1);
         have hc62 :(w6.setCell ⟨wr.heap.size,1,none⟩ (.int .i64 i1)).cell? ⟨wr.heap.size,2,none⟩ = some (.int .i64 X.f2):=(bkC hb7 2).trans rfl;
         have HO7:=Aside0.mk (Kd.R_far hO6 (p:=⟨wr.heap.size,1,none⟩) (fun k hk=>Nat.ne_of_lt hk) (.int .i64 i1));
         have HB7:=Aside0.mk hb7;
         clear hS6 hK6 hb6 hO6 hb7)
      | ((with_reducible refine (HF2.out _ _ HS6.out).mono ?_); rintro e w8 ⟨rfl, vn8, hS8, hK8⟩;
         have hb8:=HS6.out.blk39 hK8 HB7.out;
         have hO8:=HS6.out.row39 hK8 HO7.out;
         have hc82 : w8.cell? ⟨wr.heap.size,2,none⟩ = some (.int .i64 X.f2):=(bkC hb8 2).trans rfl;
         have hf82:=bkF hb8 2;
         have HS8:=Aside0.mk (hS8.box (i:=2) hb8 HGX.out (.int .i64 i2));
         have hb9 :(w8.setCell ⟨wr.heap.size,2,none⟩ (.int .i64 i2)).heap[wr.heap.size]? = some (.cells #[.int .i64 X.f0,.int .i64 i1,.int .i64 i2] 39 (0,0)):=by simpa using blk_set hb8 2 (.int .i64 i2);
         have hc90 :(w8.setCell ⟨wr.heap.size,2,none⟩ (.int .i64 i2)).cell? ⟨wr.heap.size,0,none⟩ = some (.int .i64 X.f0):=(bkC hb9 0).trans rfl;
         have hc91 :(w8.setCell ⟨wr.heap.size,2,none⟩ (.int .i64 i2)).cell? ⟨wr.heap.size,1,none⟩ = some (.int .i64 i1):=(bkC hb9 1).trans rfl;
         have hc92 :(w8.setCell ⟨wr.heap.size,2,none⟩ (.int .i64 i2)).cell? ⟨wr.heap.size,2,none⟩ = some (.int .i64 i2):=(bkC hb9 2).trans rfl;
         have HO9:=Aside0.mk (Kd.R_far hO8 (p:=⟨wr.heap.size,2,none⟩) (fun k hk=>Nat.ne_of_lt hk) (.int .i64 i2));
         clear hS8 hK8 hb8 hO8 hb9)))
    |(at_builtin;go_must (
         obtain ⟨v1,w1,hrun,ho,hB1,hgr,hat⟩:=append_one k39 (P:=Try.prog) (w0:=wc) (W:=w8.setCell ⟨wr.heap.size,2,none⟩ (.int .i64 i2)) wc.heap.size 22 22 39 (.agg #[.int .i64 0,.int .i64 0,.int .i64 0]) 24 Try.underlying22 info39 rfl (by decide) (by omega) (xs:=out) (⟨X.f0,i1,i2⟩ : S39) [.int .i64 X.f0,.int .i64 i1,.int .i64 i2] (ok:=fun _=>True) (fun _=>False) (k39_mkM _ _ _ _) (fun _ h=>h.elim) (fun _ _=>trivial) (Kd.R_mono HO9.out (fun _ _=>trivial)) HS8.out.1 HS8.out.1.size (by have:=HOL.out;omega);
         simp only [World.size_setCell] at hrun;
         have HRUN:=Aside0.mk hrun;
         have HO1:=Aside0.mk ho;
         have HS1:=Aside0.mk (CanSt.row_app HS8.out (Kd.R_mono HO9.out (fun _ _=>trivial) : Kd.R k39 39 _ wc.heap.size (fun _=>True) _ out) hgr hB1);
         clear hrun ho hB1 hgr hat;
         refine wpList_appendRun _ rfl _ _ _ rfl HRUN.out rfl rfl rfl ?_)))
  go_roundg m
  case measure=>exact HMM.out
  exact⟨_,i + 1,_,_,by rw [HW.out],HG2,HS1,HO1⟩

def loops_Canonical.f (k : Nat) (l0 : List (S39)) (a1 : Int) : Option ((List (S39))×Int):=(loops_areNodes.f k l0 (([a1] : List Int))).bind fun t154=>(if t154 = true then((loops_canonical.f k l0 a1).bind fun t155=>(some (t155,0))) else(some (([] : List (S39)),2)))
theorem loops_Canonical.mono : ∀ a0 a1 k,LeO (loops_Canonical.f k a0 a1) (loops_Canonical.f (k + 1) a0 a1):=by
 intro a0 a1 k
 unfold loops_Canonical.f
 repeat' first
   |(with_reducible exact loops_areNodes.mono _ _ _)
   |(with_reducible exact loops_canonical.mono _ _ _)
   |(with_reducible exact LeO.refl _)
   |(with_reducible exact LeO.none _)
   |(with_reducible refine LeO.ite ?_ ?_)
   |(with_reducible refine LeO.bind ?_ (fun _=>?_))
   | exact loops_areNodes.mono _ _ _
   | exact loops_canonical.mono _ _ _
   | exact LeO.none _
   | refine LeO.ite ?_ ?_
   | refine LeO.bind ?_ (fun _=>?_)
set_option maxHeartbeats 8000000 in
set_option maxRecDepth 100000 in
theorem loops_Canonical.calls (k : Nat) (A0 : Option Addr) (c0 : Nat) (l0 : List (S39)) (a1 : Int) (r1 : List (S39)) (r2 : Int) (w : World) (hr0 : Kd.C k39 w A0 l0.length l0) (hc0 : l0.length ≤ c0) (h : loops_Canonical.f k l0 a1 = some (r1, r2)) :
  Calls Try.prog 17 #[.slice A0 l0.length c0,.int .i64 a1] w fun e w'=>∃ v0_ : Value,e = .returned (.tuple #[v0_,.int .i64 r2])∧Kd.R k39 39 w' w.heap.size (fun _=>True) v0_ r1∧Below w.heap.size w w':=by
 have HR0:=Aside0.mk hr0
 have HC0:=Aside0.mk hc0
 clear hr0 hc0
 have HB:=Aside0.mk (Below.refl w.heap.size w)
 have H :((loops_areNodes.f k l0 (([a1] : List Int))).bind fun t154=>(if t154 = true then((loops_canonical.f k l0 a1).bind fun t155=>(some (t155,0))) else(some (([] : List (S39)),2)))) = some (r1,r2):=h
 clear h
 obtain ⟨y151,hy151⟩ : ∃ y_ : List Int,y_ =(([a1] : List Int)):=⟨_,rfl⟩
 replace H :((loops_areNodes.f k l0 y151).bind fun t154=>(if t154 = true then((loops_canonical.f k l0 a1).bind fun t155=>(some (t155,0))) else(some (([] : List (S39)),2)))) = some (r1,r2):=by first |(rw [hy151];with_reducible exact H) |(have H2_:=(Option.bind_some _ _).symm.trans H;rw [hy151];with_reducible exact H2_) |(have H2_:=(Option.bind_some _ _).symm.trans H;with_reducible exact H2_) | with_reducible exact H |(rw [hy151];exact H) | exact H
 have Ny151:=Aside0.mk hy151
 clear hy151
 replace H:=Option.bind_eq_some_iff.mp H
 obtain ⟨t154,A30,H⟩:=H
 replace H :(if t154 = true then((loops_canonical.f k l0 a1).bind fun t155=>(some (t155,0))) else(some (([] : List (S39)),2))) = some (r1,r2):=H
 have A3:=Aside0.mk A30
 clear A30
 by_cases c4 : t154 = true
 rotate_left
 ·replace c4 := Bool.eq_false_iff.mpr c4
  subst c4
  have H1 :(some (([] : List (S39)),2)) = some (r1,r2):=by rw [if_neg (show ¬ (false = true) by decide)] at H;exact H
  clear H
  have H:=H1
  clear H1
  simp only [Option.some.injEq,Prod.mk.injEq] at H
  obtain ⟨rfl,rfl⟩:=H
  go_enter Try.func17,Try.ntmps17
  go_wp2_with (first |((with_reducible refine gate_dst (N:=8) rfl ?_);refine Kd.R_lit (Kd.int .i64) _ 3 ?hg (N:=8) ?hd (xs:=([a1] : List Int)) (inner:=[.int .i64 a1]) (ok:=fun _=>True) (okp:=fun _=>True) ?hr ?hp (fun _ hk=>hk) trivial (Below.refl _ _) (Nat.le_refl _) (by simp) ?_;(case hd=>rfl);(case hg=>rfl);(case hr=>first |(go_simp;done) |(go_simp;rfl));(case hp=>exact(Reps.one (show Kd.M (Kd.int .i64) _ _ _ a1 [.int .i64 a1] from rfl) (Reps.none _ _)));intro v152 w11 ho12 hb hg_ hnew_;clear hg_ hnew_;(first | rw [← Ny151.out] at ho12 |(simp only [Int.reduceToNat] at ho12;rw [← Ny151.out] at ho12));have n0_:=Aside0.mk (Kd.R_lower ho12 (bwZ (by repeat(first |(with_reducible first | exact HB.out | apply bwA | apply bwN | apply bw1) | exact HB.out))));have n1_:=Aside0.mk (bwT (by repeat(first |(with_reducible first | exact HB.out | apply bwA | apply bwN | apply bw1) | exact HB.out)) hb);clear HB;have HO153:=n0_;have HB:=n1_;clear n0_ n1_;clear hb ho12;obtain ⟨Ao13,co13,eo13⟩:=Kd.R_slice HO153.out;subst eo13) |((with_reducible refine gate_callee (f:=40) rfl ?_);refine goesL_ (some 9) rfl rfl Try.func40 (by kernel_rfl) rfl #[.slice A0 l0.length c0,.slice Ao13 y151.length co13] rfl (by(try simp only [List.map_toArray,List.map_cons,List.map_nil]);first | done | rfl |(simp only [List.length_drop,List.length_take];rfl)) ?_;(with_reducible refine(loops_areNodes.calls k _ _ l0 _ _ y151 false _ ?side1 ?side2 ?side3 ?side4 A3.out).mono ?_);(case side1=>repeat(first | exact(Kd.C_below HR0.out HB.out) |(with_reducible refine Kd.C_alloc ?_ _) |(with_reducible refine Kd.C_drewN ?_ _) |(with_reducible refine Kd.C_drew ?_)));(case side2=>exact HC0.out);(case side3=>repeat(first | exact(Kd.R_reads' HO153.out).2.2 |(with_reducible refine Kd.C_alloc ?_ _) |(with_reducible refine Kd.C_drewN ?_ _) |(with_reducible refine Kd.C_drew ?_)));(case side4=>exact(Kd.R_reads' HO153.out).2.1);rintro e w14 ⟨rfl,hb⟩;refine⟨_,rfl,?_⟩;have n0_:=Aside0.mk (Kd.R_below (by(with_reducible repeat(first | apply Kd.R_alloc | apply Kd.R_drewN | apply Kd.R_drew));exact HO153.out) hb);have n1_:=Aside0.mk (bwT (by repeat(first |(with_reducible first | exact HB.out | apply bwA | apply bwN | apply bw1) | exact HB.out)) hb);clear HO153;clear HB;have HO153:=n0_;have HB:=n1_;clear n0_ n1_;(try clear hb);(try clear hb2);(try clear hk);(try clear hi)))
  go_ret2
  exact⟨_,by first | rfl |(simp [errW_none,errW_some] <;> rfl) |(simp [*,errW_none,errW_some] <;> rfl),by first | exact Kd.R_nil _ _ _ _ _ | exact Kd.N_nil _ _ _ _ _ | exact Kd.V_nil _ _ _ _ _ | exact Kd.Q_nil _ _ _ _ _ | exact Kd.S_nil _ _ _ _ _,by repeat(first |(with_reducible first | exact HB.out | apply bwA | apply bwN | apply bw1) | exact HB.out)⟩
 subst c4
 have H1 :((loops_canonical.f k l0 a1).bind fun t155=>(some (t155,0))) = some (r1,r2):=by rw [if_pos rfl] at H;exact H
 clear H
 have H:=H1
 clear H1
 replace H:=Option.bind_eq_some_iff.mp H
 obtain ⟨t155,A50,H⟩:=H
 replace H :(some (t155,0)) = some (r1,r2):=H
 have A5:=Aside0.mk A50
 clear A50
 simp only [Option.some.injEq,Prod.mk.injEq] at H
 obtain ⟨rfl,rfl⟩:=H
 go_enter Try.func17,Try.ntmps17
 go_wp2_with (first |((with_reducible refine gate_dst (N:=8) rfl ?_);refine Kd.R_lit (Kd.int .i64) _ 3 ?hg (N:=8) ?hd (xs:=([a1] : List Int)) (inner:=[.int .i64 a1]) (ok:=fun _=>True) (okp:=fun _=>True) ?hr ?hp (fun _ hk=>hk) trivial (Below.refl _ _) (Nat.le_refl _) (by simp) ?_;(case hd=>rfl);(case hg=>rfl);(case hr=>first |(go_simp;done) |(go_simp;rfl));(case hp=>exact(Reps.one (show Kd.M (Kd.int .i64) _ _ _ a1 [.int .i64 a1] from rfl) (Reps.none _ _)));intro v152 w6 ho7 hb hg_ hnew_;clear hg_ hnew_;(first | rw [← Ny151.out] at ho7 |(simp only [Int.reduceToNat] at ho7;rw [← Ny151.out] at ho7));have n0_:=Aside0.mk (Kd.R_lower ho7 (bwZ (by repeat(first |(with_reducible first | exact HB.out | apply bwA | apply bwN | apply bw1) | exact HB.out))));have n1_:=Aside0.mk (bwT (by repeat(first |(with_reducible first | exact HB.out | apply bwA | apply bwN | apply bw1) | exact HB.out)) hb);clear HB;have HO153:=n0_;have HB:=n1_;clear n0_ n1_;clear hb ho7;obtain ⟨Ao8,co8,eo8⟩:=Kd.R_slice HO153.out;subst eo8) |((with_reducible refine gate_callee (f:=40) rfl ?_);refine goesL_ (some 9) rfl rfl Try.func40 (by kernel_rfl) rfl #[.slice A0 l0.length c0,.slice Ao8 y151.length co8] rfl (by(try simp only [List.map_toArray,List.map_cons,List.map_nil]);first | done | rfl |(simp only [List.length_drop,List.length_take];rfl)) ?_;(with_reducible refine(loops_areNodes.calls k _ _ l0 _ _ y151 true _ ?side1 ?side2 ?side3 ?side4 A3.out).mono ?_);(case side1=>repeat(first | exact(Kd.C_below HR0.out HB.out) |(with_reducible refine Kd.C_alloc ?_ _) |(with_reducible refine Kd.C_drewN ?_ _) |(with_reducible refine Kd.C_drew ?_)));(case side2=>exact HC0.out);(case side3=>repeat(first | exact(Kd.R_reads' HO153.out).2.2 |(with_reducible refine Kd.C_alloc ?_ _) |(with_reducible refine Kd.C_drewN ?_ _) |(with_reducible refine Kd.C_drew ?_)));(case side4=>exact(Kd.R_reads' HO153.out).2.1);rintro e w9 ⟨rfl,hb⟩;refine⟨_,rfl,?_⟩;have n0_:=Aside0.mk (Kd.R_below (by(with_reducible repeat(first | apply Kd.R_alloc | apply Kd.R_drewN | apply Kd.R_drew));exact HO153.out) hb);have n1_:=Aside0.mk (bwT (by repeat(first |(with_reducible first | exact HB.out | apply bwA | apply bwN | apply bw1) | exact HB.out)) hb);clear HO153;clear HB;have HO153:=n0_;have HB:=n1_;clear n0_ n1_;(try clear hb);(try clear hb2);(try clear hk);(try clear hi)) |((with_reducible refine gate_callee (f:=42) rfl ?_);refine goesL_ (some 13) rfl rfl Try.func42 (by kernel_rfl) rfl #[.slice A0 l0.length c0,.int .i64 a1] rfl (by(try simp only [List.map_toArray,List.map_cons,List.map_nil]);first | done | rfl |(simp only [List.length_drop,List.length_take];rfl)) ?_;(with_reducible refine(loops_canonical.calls k _ _ l0 a1 t155 _ ?side1 ?side2 A5.out).mono ?_);(case side1=>repeat(first | exact(Kd.C_below HR0.out HB.out) |(with_reducible refine Kd.C_alloc ?_ _) |(with_reducible refine Kd.C_drewN ?_ _) |(with_reducible refine Kd.C_drew ?_)));(case side2=>exact HC0.out);rintro e w10 ⟨v156,rfl,ho0,hb⟩;refine⟨_,rfl,?_⟩;have n0_:=Aside0.mk (Kd.R_below (by(with_reducible repeat(first | apply Kd.R_alloc | apply Kd.R_drewN | apply Kd.R_drew));exact HO153.out) hb);have n1_:=Aside0.mk (Kd.R_lower ho0 (bwZ (by repeat(first |(with_reducible first | exact HB.out | apply bwA | apply bwN | apply bw1) | exact HB.out))));have n2_:=Aside0.mk (bwT (by repeat(first |(with_reducible first | exact HB.out | apply bwA | apply bwN | apply bw1) | exact HB.out)) hb);clear HO153;clear HB;have HO153:=n0_;have HO157:=n1_;have HB:=n2_;clear n0_ n1_ n2_;(try clear hb);(try clear hb2);(try clear hk);(try clear hi);(try clear ho0)))
 go_ret2
 exact⟨_,by first | rfl |(simp [errW_none,errW_some] <;> rfl) |(simp [*,errW_none,errW_some] <;> rfl),by(with_reducible repeat(first | apply Kd.R_alloc | apply Kd.R_drewN | apply Kd.R_drew));exact HO157.out,by repeat(first |(with_reducible first | exact HB.out | apply bwA | apply bwN | apply bw1) | exact HB.out)⟩

def q06_Types.l0 : Nat → List (S39) → Int → Int → Option (Bool)
 | 0,_,_,_=>none
 | k + 1,x0,x1,x5=>if x5 < (x0.length : Int) then(if 0≤x5 then(if((rd_T39 x0 x5).f0) < 0 then(some false) else(if((rd_T39 x0 x5).f0) > 5 then(some false) else(if((rd_T39 x0 x5).f0) < 4 then(if((rd_T39 x0 x5).f1) = 0 then(if((rd_T39 x0 x5).f2) = 0 then(if((rd_T39 x0 x5).f1) < 0 then(some false) else(if((rd_T39 x0 x5).f1) ≥ (x0.length : Int) then(some false) else(if((rd_T39 x0 x5).f2) < 0 then(some false) else(if((rd_T39 x0 x5).f2) ≥ (x0.length : Int) then(some false) else(q06_Types.l0 k x0 x1 (wrap64 (x5 + 1))))))) else(some false)) else(some false)) else(if((rd_T39 x0 x5).f1) < 0 then(some false) else(if((rd_T39 x0 x5).f1) ≥ (x0.length : Int) then(some false) else(if((rd_T39 x0 x5).f2) < 0 then(some false) else(if((rd_T39 x0 x5).f2) ≥ (x0.length : Int) then(some false) else(q06_Types.l0 k x0 x1 (wrap64 (x5 + 1)))))))))) else(none)) else(if(x0.length : Int) ≥ 1 then(some (decide ((x0.length : Int)≤x1))) else(some false))
def q06_Types.f (k : Nat) (l0 : List (S39)) (a1 : Int) : Option (Bool):=q06_Types.l0 k l0 a1 0
set_option maxHeartbeats 8000000 in
set_option maxRecDepth 100000 in
theorem q06_Types.calls (k : Nat) (A0 : Option Addr) (c0 : Nat) (l0 : List (S39)) (a1 : Int) (r : Bool) (w : World) (hr0 : Kd.C k39 w A0 l0.length l0) (hc0 : l0.length ≤ c0) (h : q06_Types.f k l0 a1 = some r) :
  Calls Try.prog 26 #[.slice A0 l0.length c0,.int .i64 a1] w fun e w'=>e = .returned (.bool r)∧Below w.heap.size w w':=by
 have hu39:=Try.underlying39
 have HR0:=Aside0.mk hr0
 have HC0:=Aside0.mk hc0
 clear hr0 hc0
 have HB:=Aside0.mk (Below.refl w.heap.size w)
 have H :(q06_Types.l0 k l0 a1 0) = some r:=h
 clear h
 have H':=Aside0.mk H
 clear H
 go_enter Try.func26,Try.ntmps26
 go_wp2
 go_loopg [5] k (fun kq v5 w'=>∃ (x5_1 : Int),v5 = .int .i64 x5_1∧Aside0 (q06_Types.l0 kq l0 a1 x5_1 = some r)∧Aside0 (kq≤k)∧Aside0 (Below w.heap.size w w'))
 case atStart=>exact⟨(0),(by first | rfl |(simp;done) |(simp [*];done)),H',⟨Nat.le_refl _⟩,⟨by repeat(first |(with_reducible first | exact HB.out | apply bwA | apply bwN | apply bw1) | exact HB.out)⟩⟩
 clear H'
 try clear c2
 try clear p2
 obtain ⟨x5_1,rfl,HA,HK1,HB⟩:=hrel
 cases gk with
 | zero=>exact absurd HA.out (by simp [q06_Types.l0])
 | succ k1 =>
  have H:=HA.out
  clear HA
  simp only [q06_Types.l0] at H
  by_cases c3 : x5_1 < (l0.length : Int)
  rotate_left
  ·rw [if_neg c3] at H
   have c3b0 : decide (x5_1 < (l0.length : Int)) = false:=decide_eq_false c3
   clear c3
   by_cases c46 :(l0.length : Int) ≥ 1
   ·rw [if_pos c46] at H
    have c46b0 : decide (1 ≤(l0.length : Int)) = true:=decide_eq_true c46
    have c46b1 : decide (1≤l0.length) = true:=decide_eq_true (by omega)
    clear c46
    obtain rfl:=Option.some.inj H
    go_wp2
    go_ret
    exact⟨by first | rfl |(simp [errW_none,errW_some] <;> rfl) |(simp [*,errW_none,errW_some] <;> rfl),by repeat(first |(with_reducible first | exact HB.out | apply bwA | apply bwN | apply bw1) | exact HB.out)⟩
   rw [if_neg c46] at H
   have c46b0 : decide (1 ≤(l0.length : Int)) = false:=decide_eq_false c46
   have c46b1 : decide (1≤l0.length) = false:=decide_eq_false (by omega)
   clear c46
   obtain rfl:=Option.some.inj H
   go_wp2
   go_ret
   exact⟨by first | rfl |(simp [errW_none,errW_some] <;> rfl) |(simp [*,errW_none,errW_some] <;> rfl),by repeat(first |(with_reducible first | exact HB.out | apply bwA | apply bwN | apply bw1) | exact HB.out)⟩
  rw [if_pos c3] at H
  have c3b0 : decide (x5_1 < (l0.length : Int)) = true:=decide_eq_true c3
  clear c3
  by_cases c4 : 0≤x5_1
  rotate_left
  ·rw [if_neg c4] at H
   exact absurd H (by simp)
  rw [if_pos c4] at H
  have c4b0 : decide (0≤x5_1) = true:=decide_eq_true c4
  clear c4
  by_cases c5 :((rd_T39 l0 x5_1).f0) < 0
  ·rw [if_pos c5] at H
   have c5b0 : decide (((rd_T39 l0 x5_1).f0) < 0) = true:=decide_eq_true c5
   clear c5
   obtain rfl:=Option.some.inj H
   have p158 : 0 ≤(x5_1 : Int):=of_decide_eq_true (by first |(with_reducible assumption) | assumption)
   have q158 : x5_1 < (l0.length : Int):=of_decide_eq_true (by first |(with_reducible assumption) | assumption)
   obtain ⟨ad158,e158,hx158_0,hx158_1,hx158_2⟩:=at_T39 HR0.out x5_1 p158 q158
   cases e158
   replace hx158_0:=(HB.out.cell (World.block_lt_of_cell? w _ hx158_0)).trans hx158_0
   replace hx158_1:=(HB.out.cell (World.block_lt_of_cell? w _ hx158_1)).trans hx158_1
   replace hx158_2:=(HB.out.cell (World.block_lt_of_cell? w _ hx158_2)).trans hx158_2
   replace p158:=eq_true p158
   replace q158:=eq_true q158
   go_wp2_with (first |((with_reducible refine gate_dst (N:=6) rfl ?_);(try(refine gate_guard (by rfl) ?_;dsimp only));refine box_event ?hg (N:=6) ?hd (cs:=#[.int .i64 0,.int .i64 0,.int .i64 0]) (t:=39) ?hr ?_;(case hd=>rfl);(case hg=>rfl);(case hr=>first |(go_simp;done) |(go_simp;rfl));intro gb159 hg w6 hbox hb;have n0_:=Aside0.mk (bwT (by repeat(first |(with_reducible first | exact HB.out | apply bwA | apply bwN | apply bw1) | exact HB.out)) hb);have n1_:=Aside0.mk (hbox);have n2_:=Aside0.mk ((by rw [hg];exact(bwZ (by repeat(first |(with_reducible first | exact HB.out | apply bwA | apply bwN | apply bw1) | exact HB.out))) : w.heap.size≤gb159));have n3_:=Aside0.mk ((by rw [hg];exact(bwZ (by repeat(first |(with_reducible first | exact HB.out | apply bwA | apply bwN | apply bw1) | exact HB.out))) : w.heap.size≤gb159));clear HB;have HB:=n0_;have BK159:=n1_;have GW159:=n2_;have GE159:=n3_;clear n0_ n1_ n2_ n3_;clear hb hbox hg;have hcz7_0 : w6.cell? ⟨gb159,0,none⟩ = some (.int .i64 0):=(bkC BK159.out 0).trans rfl;have hcz7_1 : w6.cell? ⟨gb159,1,none⟩ = some (.int .i64 0):=(bkC BK159.out 1).trans rfl;have hcz7_2 : w6.cell? ⟨gb159,2,none⟩ = some (.int .i64 0):=(bkC BK159.out 2).trans rfl;have hfz7_0:=bkF BK159.out 0;have hfz7_1:=bkF BK159.out 1;have hfz7_2:=bkF BK159.out 2))
   go_ret
   exact⟨by first | rfl |(simp [errW_none,errW_some] <;> rfl) |(simp [*,errW_none,errW_some] <;> rfl),by repeat(first |(with_reducible first | exact HB.out | apply bwA | apply bwN | apply bw1 | refine bwS ?_ GE159.out) | exact HB.out)⟩
  rw [if_neg c5] at H
  have c5b0 : decide (((rd_T39 l0 x5_1).f0) < 0) = false:=decide_eq_false c5
  clear c5
  by_cases c8 :((rd_T39 l0 x5_1).f0) > 5
  ·rw [if_pos c8] at H
   have c8b0 : decide (5 < ((rd_T39 l0 x5_1).f0)) = true:=decide_eq_true c8
   clear c8
   obtain rfl:=Option.some.inj H
   have p158 : 0 ≤(x5_1 : Int):=of_decide_eq_true (by first |(with_reducible assumption) | assumption)
   have q158 : x5_1 < (l0.length : Int):=of_decide_eq_true (by first |(with_reducible assumption) | assumption)
   obtain ⟨ad158,e158,hx158_0,hx158_1,hx158_2⟩:=at_T39 HR0.out x5_1 p158 q158
   cases e158
   replace hx158_0:=(HB.out.cell (World.block_lt_of_cell? w _ hx158_0)).trans hx158_0
   replace hx158_1:=(HB.out.cell (World.block_lt_of_cell? w _ hx158_1)).trans hx158_1
   replace hx158_2:=(HB.out.cell (World.block_lt_of_cell? w _ hx158_2)).trans hx158_2
   replace p158:=eq_true p158
   replace q158:=eq_true q158
   go_wp2_with (first |((with_reducible refine gate_dst (N:=6) rfl ?_);(try(refine gate_guard (by rfl) ?_;dsimp only));refine box_event ?hg (N:=6) ?hd (cs:=#[.int .i64 0,.int .i64 0,.int .i64 0]) (t:=39) ?hr ?_;(case hd=>rfl);(case hg=>rfl);(case hr=>first |(go_simp;done) |(go_simp;rfl));intro gb159 hg w9 hbox hb;have n0_:=Aside0.mk (bwT (by repeat(first |(with_reducible first | exact HB.out | apply bwA | apply bwN | apply bw1) | exact HB.out)) hb);have n1_:=Aside0.mk (hbox);have n2_:=Aside0.mk ((by rw [hg];exact(bwZ (by repeat(first |(with_reducible first | exact HB.out | apply bwA | apply bwN | apply bw1) | exact HB.out))) : w.heap.size≤gb159));have n3_:=Aside0.mk ((by rw [hg];exact(bwZ (by repeat(first |(with_reducible first | exact HB.out | apply bwA | apply bwN | apply bw1) | exact HB.out))) : w.heap.size≤gb159));clear HB;have HB:=n0_;have BK159:=n1_;have GW159:=n2_;have GE159:=n3_;clear n0_ n1_ n2_ n3_;clear hb hbox hg;have hcz10_0 : w9.cell? ⟨gb159,0,none⟩ = some (.int .i64 0):=(bkC BK159.out 0).trans rfl;have hcz10_1 : w9.cell? ⟨gb159,1,none⟩ = some (.int .i64 0):=(bkC BK159.out 1).trans rfl;have hcz10_2 : w9.cell? ⟨gb159,2,none⟩ = some (.int .i64 0):=(bkC BK159.out 2).trans rfl;have hfz10_0:=bkF BK159.out 0;have hfz10_1:=bkF BK159.out 1;have hfz10_2:=bkF BK159.out 2))
   go_ret
   exact⟨by first | rfl |(simp [errW_none,errW_some] <;> rfl) |(simp [*,errW_none,errW_some] <;> rfl),by repeat(first |(with_reducible first | exact HB.out | apply bwA | apply bwN | apply bw1 | refine bwS ?_ GE159.out) | exact HB.out)⟩
  rw [if_neg c8] at H
  have c8b0 : decide (5 < ((rd_T39 l0 x5_1).f0)) = false:=decide_eq_false c8
  clear c8
  by_cases c11 :((rd_T39 l0 x5_1).f0) < 4
  rotate_left
  ·rw [if_neg c11] at H
   have c11b0 : decide (((rd_T39 l0 x5_1).f0) < 4) = false:=decide_eq_false c11
   clear c11
   by_cases c32 :((rd_T39 l0 x5_1).f1) < 0
   ·rw [if_pos c32] at H
    have c32b0 : decide (((rd_T39 l0 x5_1).f1) < 0) = true:=decide_eq_true c32
    clear c32
    obtain rfl:=Option.some.inj H
    have p158 : 0 ≤(x5_1 : Int):=of_decide_eq_true (by first |(with_reducible assumption) | assumption)
    have q158 : x5_1 < (l0.length : Int):=of_decide_eq_true (by first |(with_reducible assumption) | assumption)
    obtain ⟨ad158,e158,hx158_0,hx158_1,hx158_2⟩:=at_T39 HR0.out x5_1 p158 q158
    cases e158
    replace hx158_0:=(HB.out.cell (World.block_lt_of_cell? w _ hx158_0)).trans hx158_0
    replace hx158_1:=(HB.out.cell (World.block_lt_of_cell? w _ hx158_1)).trans hx158_1
    replace hx158_2:=(HB.out.cell (World.block_lt_of_cell? w _ hx158_2)).trans hx158_2
    replace p158:=eq_true p158
    replace q158:=eq_true q158
    go_wp2_with (first |((with_reducible refine gate_dst (N:=6) rfl ?_);(try(refine gate_guard (by rfl) ?_;dsimp only));refine box_event ?hg (N:=6) ?hd (cs:=#[.int .i64 0,.int .i64 0,.int .i64 0]) (t:=39) ?hr ?_;(case hd=>rfl);(case hg=>rfl);(case hr=>first |(go_simp;done) |(go_simp;rfl));intro gb159 hg w33 hbox hb;have n0_:=Aside0.mk (bwT (by repeat(first |(with_reducible first | exact HB.out | apply bwA | apply bwN | apply bw1) | exact HB.out)) hb);have n1_:=Aside0.mk (hbox);have n2_:=Aside0.mk ((by rw [hg];exact(bwZ (by repeat(first |(with_reducible first | exact HB.out | apply bwA | apply bwN | apply bw1) | exact HB.out))) : w.heap.size≤gb159));have n3_:=Aside0.mk ((by rw [hg];exact(bwZ (by repeat(first |(with_reducible first | exact HB.out | apply bwA | apply bwN | apply bw1) | exact HB.out))) : w.heap.size≤gb159));clear HB;have HB:=n0_;have BK159:=n1_;have GW159:=n2_;have GE159:=n3_;clear n0_ n1_ n2_ n3_;clear hb hbox hg;have hcz34_0 : w33.cell? ⟨gb159,0,none⟩ = some (.int .i64 0):=(bkC BK159.out 0).trans rfl;have hcz34_1 : w33.cell? ⟨gb159,1,none⟩ = some (.int .i64 0):=(bkC BK159.out 1).trans rfl;have hcz34_2 : w33.cell? ⟨gb159,2,none⟩ = some (.int .i64 0):=(bkC BK159.out 2).trans rfl;have hfz34_0:=bkF BK159.out 0;have hfz34_1:=bkF BK159.out 1;have hfz34_2:=bkF BK159.out 2))
    go_ret
    exact⟨by first | rfl |(simp [errW_none,errW_some] <;> rfl) |(simp [*,errW_none,errW_some] <;> rfl),by repeat(first |(with_reducible first | exact HB.out | apply bwA | apply bwN | apply bw1 | refine bwS ?_ GE159.out) | exact HB.out)⟩
   rw [if_neg c32] at H
   have c32b0 : decide (((rd_T39 l0 x5_1).f1) < 0) = false:=decide_eq_false c32
   clear c32
   by_cases c35 :((rd_T39 l0 x5_1).f1) ≥ (l0.length : Int)
   ·rw [if_pos c35] at H
    have c35b0 : decide ((l0.length : Int) ≤((rd_T39 l0 x5_1).f1)) = true:=decide_eq_true c35
    clear c35
    obtain rfl:=Option.some.inj H
    have p158 : 0 ≤(x5_1 : Int):=of_decide_eq_true (by first |(with_reducible assumption) | assumption)
    have q158 : x5_1 < (l0.length : Int):=of_decide_eq_true (by first |(with_reducible assumption) | assumption)
    obtain ⟨ad158,e158,hx158_0,hx158_1,hx158_2⟩:=at_T39 HR0.out x5_1 p158 q158
    cases e158
    replace hx158_0:=(HB.out.cell (World.block_lt_of_cell? w _ hx158_0)).trans hx158_0
    replace hx158_1:=(HB.out.cell (World.block_lt_of_cell? w _ hx158_1)).trans hx158_1
    replace hx158_2:=(HB.out.cell (World.block_lt_of_cell? w _ hx158_2)).trans hx158_2
    replace p158:=eq_true p158
    replace q158:=eq_true q158
    go_wp2_with (first |((with_reducible refine gate_dst (N:=6) rfl ?_);(try(refine gate_guard (by rfl) ?_;dsimp only));refine box_event ?hg (N:=6) ?hd (cs:=#[.int .i64 0,.int .i64 0,.int .i64 0]) (t:=39) ?hr ?_;(case hd=>rfl);(case hg=>rfl);(case hr=>first |(go_simp;done) |(go_simp;rfl));intro gb159 hg w36 hbox hb;have n0_:=Aside0.mk (bwT (by repeat(first |(with_reducible first | exact HB.out | apply bwA | apply bwN | apply bw1) | exact HB.out)) hb);have n1_:=Aside0.mk (hbox);have n2_:=Aside0.mk ((by rw [hg];exact(bwZ (by repeat(first |(with_reducible first | exact HB.out | apply bwA | apply bwN | apply bw1) | exact HB.out))) : w.heap.size≤gb159));have n3_:=Aside0.mk ((by rw [hg];exact(bwZ (by repeat(first |(with_reducible first | exact HB.out | apply bwA | apply bwN | apply bw1) | exact HB.out))) : w.heap.size≤gb159));clear HB;have HB:=n0_;have BK159:=n1_;have GW159:=n2_;have GE159:=n3_;clear n0_ n1_ n2_ n3_;clear hb hbox hg;have hcz37_0 : w36.cell? ⟨gb159,0,none⟩ = some (.int .i64 0):=(bkC BK159.out 0).trans rfl;have hcz37_1 : w36.cell? ⟨gb159,1,none⟩ = some (.int .i64 0):=(bkC BK159.out 1).trans rfl;have hcz37_2 : w36.cell? ⟨gb159,2,none⟩ = some (.int .i64 0):=(bkC BK159.out 2).trans rfl;have hfz37_0:=bkF BK159.out 0;have hfz37_1:=bkF BK159.out 1;have hfz37_2:=bkF BK159.out 2))
    go_ret
    exact⟨by first | rfl |(simp [errW_none,errW_some] <;> rfl) |(simp [*,errW_none,errW_some] <;> rfl),by repeat(first |(with_reducible first | exact HB.out | apply bwA | apply bwN | apply bw1 | refine bwS ?_ GE159.out) | exact HB.out)⟩
   rw [if_neg c35] at H
   have c35b0 : decide ((l0.length : Int) ≤((rd_T39 l0 x5_1).f1)) = false:=decide_eq_false c35
   clear c35
   by_cases c38 :((rd_T39 l0 x5_1).f2) < 0
   ·rw [if_pos c38] at H
    have c38b0 : decide (((rd_T39 l0 x5_1).f2) < 0) = true:=decide_eq_true c38
    clear c38
    obtain rfl:=Option.some.inj H
    have p158 : 0 ≤(x5_1 : Int):=of_decide_eq_true (by first |(with_reducible assumption) | assumption)
    have q158 : x5_1 < (l0.length : Int):=of_decide_eq_true (by first |(with_reducible assumption) | assumption)
    obtain ⟨ad158,e158,hx158_0,hx158_1,hx158_2⟩:=at_T39 HR0.out x5_1 p158 q158
    cases e158
    replace hx158_0:=(HB.out.cell (World.block_lt_of_cell? w _ hx158_0)).trans hx158_0
    replace hx158_1:=(HB.out.cell (World.block_lt_of_cell? w _ hx158_1)).trans hx158_1
    replace hx158_2:=(HB.out.cell (World.block_lt_of_cell? w _ hx158_2)).trans hx158_2
    replace p158:=eq_true p158
    replace q158:=eq_true q158
    go_wp2_with (first |((with_reducible refine gate_dst (N:=6) rfl ?_);(try(refine gate_guard (by rfl) ?_;dsimp only));refine box_event ?hg (N:=6) ?hd (cs:=#[.int .i64 0,.int .i64 0,.int .i64 0]) (t:=39) ?hr ?_;(case hd=>rfl);(case hg=>rfl);(case hr=>first |(go_simp;done) |(go_simp;rfl));intro gb159 hg w39 hbox hb;have n0_:=Aside0.mk (bwT (by repeat(first |(with_reducible first | exact HB.out | apply bwA | apply bwN | apply bw1) | exact HB.out)) hb);have n1_:=Aside0.mk (hbox);have n2_:=Aside0.mk ((by rw [hg];exact(bwZ (by repeat(first |(with_reducible first | exact HB.out | apply bwA | apply bwN | apply bw1) | exact HB.out))) : w.heap.size≤gb159));have n3_:=Aside0.mk ((by rw [hg];exact(bwZ (by repeat(first |(with_reducible first | exact HB.out | apply bwA | apply bwN | apply bw1) | exact HB.out))) : w.heap.size≤gb159));clear HB;have HB:=n0_;have BK159:=n1_;have GW159:=n2_;have GE159:=n3_;clear n0_ n1_ n2_ n3_;clear hb hbox hg;have hcz40_0 : w39.cell? ⟨gb159,0,none⟩ = some (.int .i64 0):=(bkC BK159.out 0).trans rfl;have hcz40_1 : w39.cell? ⟨gb159,1,none⟩ = some (.int .i64 0):=(bkC BK159.out 1).trans rfl;have hcz40_2 : w39.cell? ⟨gb159,2,none⟩ = some (.int .i64 0):=(bkC BK159.out 2).trans rfl;have hfz40_0:=bkF BK159.out 0;have hfz40_1:=bkF BK159.out 1;have hfz40_2:=bkF BK159.out 2))
    go_ret
    exact⟨by first | rfl |(simp [errW_none,errW_some] <;> rfl) |(simp [*,errW_none,errW_some] <;> rfl),by repeat(first |(with_reducible first | exact HB.out | apply bwA | apply bwN | apply bw1 | refine bwS ?_ GE159.out) | exact HB.out)⟩
   rw [if_neg c38] at H
   have c38b0 : decide (((rd_T39 l0 x5_1).f2) < 0) = false:=decide_eq_false c38
   clear c38
   by_cases c41 :((rd_T39 l0 x5_1).f2) ≥ (l0.length : Int)
   ·rw [if_pos c41] at H
    have c41b0 : decide ((l0.length : Int) ≤((rd_T39 l0 x5_1).f2)) = true:=decide_eq_true c41
    clear c41
    obtain rfl:=Option.some.inj H
    have p158 : 0 ≤(x5_1 : Int):=of_decide_eq_true (by first |(with_reducible assumption) | assumption)
    have q158 : x5_1 < (l0.length : Int):=of_decide_eq_true (by first |(with_reducible assumption) | assumption)
    obtain ⟨ad158,e158,hx158_0,hx158_1,hx158_2⟩:=at_T39 HR0.out x5_1 p158 q158
    cases e158
    replace hx158_0:=(HB.out.cell (World.block_lt_of_cell? w _ hx158_0)).trans hx158_0
    replace hx158_1:=(HB.out.cell (World.block_lt_of_cell? w _ hx158_1)).trans hx158_1
    replace hx158_2:=(HB.out.cell (World.block_lt_of_cell? w _ hx158_2)).trans hx158_2
    replace p158:=eq_true p158
    replace q158:=eq_true q158
    go_wp2_with (first |((with_reducible refine gate_dst (N:=6) rfl ?_);(try(refine gate_guard (by rfl) ?_;dsimp only));refine box_event ?hg (N:=6) ?hd (cs:=#[.int .i64 0,.int .i64 0,.int .i64 0]) (t:=39) ?hr ?_;(case hd=>rfl);(case hg=>rfl);(case hr=>first |(go_simp;done) |(go_simp;rfl));intro gb159 hg w42 hbox hb;have n0_:=Aside0.mk (bwT (by repeat(first |(with_reducible first | exact HB.out | apply bwA | apply bwN | apply bw1) | exact HB.out)) hb);have n1_:=Aside0.mk (hbox);have n2_:=Aside0.mk ((by rw [hg];exact(bwZ (by repeat(first |(with_reducible first | exact HB.out | apply bwA | apply bwN | apply bw1) | exact HB.out))) : w.heap.size≤gb159));have n3_:=Aside0.mk ((by rw [hg];exact(bwZ (by repeat(first |(with_reducible first | exact HB.out | apply bwA | apply bwN | apply bw1) | exact HB.out))) : w.heap.size≤gb159));clear HB;have HB:=n0_;have BK159:=n1_;have GW159:=n2_;have GE159:=n3_;clear n0_ n1_ n2_ n3_;clear hb hbox hg;have hcz43_0 : w42.cell? ⟨gb159,0,none⟩ = some (.int .i64 0):=(bkC BK159.out 0).trans rfl;have hcz43_1 : w42.cell? ⟨gb159,1,none⟩ = some (.int .i64 0):=(bkC BK159.out 1).trans rfl;have hcz43_2 : w42.cell? ⟨gb159,2,none⟩ = some (.int .i64 0):=(bkC BK159.out 2).trans rfl;have hfz43_0:=bkF BK159.out 0;have hfz43_1:=bkF BK159.out 1;have hfz43_2:=bkF BK159.out 2))
    go_ret
    exact⟨by first | rfl |(simp [errW_none,errW_some] <;> rfl) |(simp [*,errW_none,errW_some] <;> rfl),by repeat(first |(with_reducible first | exact HB.out | apply bwA | apply bwN | apply bw1 | refine bwS ?_ GE159.out) | exact HB.out)⟩
   rw [if_neg c41] at H
   have c41b0 : decide ((l0.length : Int) ≤((rd_T39 l0 x5_1).f2)) = false:=decide_eq_false c41
   clear c41
   have H':=Aside0.mk H
   clear H
   have p158 : 0 ≤(x5_1 : Int):=of_decide_eq_true (by first |(with_reducible assumption) | assumption)
   have q158 : x5_1 < (l0.length : Int):=of_decide_eq_true (by first |(with_reducible assumption) | assumption)
   obtain ⟨ad158,e158,hx158_0,hx158_1,hx158_2⟩:=at_T39 HR0.out x5_1 p158 q158
   cases e158
   replace hx158_0:=(HB.out.cell (World.block_lt_of_cell? w _ hx158_0)).trans hx158_0
   replace hx158_1:=(HB.out.cell (World.block_lt_of_cell? w _ hx158_1)).trans hx158_1
   replace hx158_2:=(HB.out.cell (World.block_lt_of_cell? w _ hx158_2)).trans hx158_2
   replace p158:=eq_true p158
   replace q158:=eq_true q158
   go_wp2_with (first |((with_reducible refine gate_dst (N:=6) rfl ?_);(try(refine gate_guard (by rfl) ?_;dsimp only));refine box_event ?hg (N:=6) ?hd (cs:=#[.int .i64 0,.int .i64 0,.int .i64 0]) (t:=39) ?hr ?_;(case hd=>rfl);(case hg=>rfl);(case hr=>first |(go_simp;done) |(go_simp;rfl));intro gb159 hg w44 hbox hb;have n0_:=Aside0.mk (bwT (by repeat(first |(with_reducible first | exact HB.out | apply bwA | apply bwN | apply bw1) | exact HB.out)) hb);have n1_:=Aside0.mk (hbox);have n2_:=Aside0.mk ((by rw [hg];exact(bwZ (by repeat(first |(with_reducible first | exact HB.out | apply bwA | apply bwN | apply bw1) | exact HB.out))) : w.heap.size≤gb159));have n3_:=Aside0.mk ((by rw [hg];exact(bwZ (by repeat(first |(with_reducible first | exact HB.out | apply bwA | apply bwN | apply bw1) | exact HB.out))) : w.heap.size≤gb159));clear HB;have HB:=n0_;have BK159:=n1_;have GW159:=n2_;have GE159:=n3_;clear n0_ n1_ n2_ n3_;clear hb hbox hg;have hcz45_0 : w44.cell? ⟨gb159,0,none⟩ = some (.int .i64 0):=(bkC BK159.out 0).trans rfl;have hcz45_1 : w44.cell? ⟨gb159,1,none⟩ = some (.int .i64 0):=(bkC BK159.out 1).trans rfl;have hcz45_2 : w44.cell? ⟨gb159,2,none⟩ = some (.int .i64 0):=(bkC BK159.out 2).trans rfl;have hfz45_0:=bkF BK159.out 0;have hfz45_1:=bkF BK159.out 1;have hfz45_2:=bkF BK159.out 2))
   go_roundg k1
   case measure=>have:=HK1.out;omega
   exact⟨(wrap64 (x5_1 + 1)),(by first | rfl |(simp;done) |(simp [*];done)),H',⟨by have:=HK1.out;omega⟩,⟨by repeat(first |(with_reducible first | exact HB.out | apply bwA | apply bwN | apply bw1 | refine bwS ?_ GE159.out) | exact HB.out)⟩⟩
  rw [if_pos c11] at H
  have c11b0 : decide (((rd_T39 l0 x5_1).f0) < 4) = true:=decide_eq_true c11
  clear c11
  by_cases c12 :((rd_T39 l0 x5_1).f1) = 0
  rotate_left
  ·rw [if_neg c12] at H
   have c12b0 :(((rd_T39 l0 x5_1).f1) == 0) = false:=beq_eq_false_iff_ne.mpr c12
   have c12b1 :(((rd_T39 l0 x5_1).f1) != 0) = true:=bne_iff_ne.mpr c12
   obtain rfl:=Option.some.inj H
   have p158 : 0 ≤(x5_1 : Int):=of_decide_eq_true (by first |(with_reducible assumption) | assumption)
   have q158 : x5_1 < (l0.length : Int):=of_decide_eq_true (by first |(with_reducible assumption) | assumption)
   obtain ⟨ad158,e158,hx158_0,hx158_1,hx158_2⟩:=at_T39 HR0.out x5_1 p158 q158
   cases e158
   replace hx158_0:=(HB.out.cell (World.block_lt_of_cell? w _ hx158_0)).trans hx158_0
   replace hx158_1:=(HB.out.cell (World.block_lt_of_cell? w _ hx158_1)).trans hx158_1
   replace hx158_2:=(HB.out.cell (World.block_lt_of_cell? w _ hx158_2)).trans hx158_2
   replace p158:=eq_true p158
   replace q158:=eq_true q158
   go_wp2_with (first |((with_reducible refine gate_dst (N:=6) rfl ?_);(try(refine gate_guard (by rfl) ?_;dsimp only));refine box_event ?hg (N:=6) ?hd (cs:=#[.int .i64 0,.int .i64 0,.int .i64 0]) (t:=39) ?hr ?_;(case hd=>rfl);(case hg=>rfl);(case hr=>first |(go_simp;done) |(go_simp;rfl));intro gb159 hg w30 hbox hb;have n0_:=Aside0.mk (bwT (by repeat(first |(with_reducible first | exact HB.out | apply bwA | apply bwN | apply bw1) | exact HB.out)) hb);have n1_:=Aside0.mk (hbox);have n2_:=Aside0.mk ((by rw [hg];exact(bwZ (by repeat(first |(with_reducible first | exact HB.out | apply bwA | apply bwN | apply bw1) | exact HB.out))) : w.heap.size≤gb159));have n3_:=Aside0.mk ((by rw [hg];exact(bwZ (by repeat(first |(with_reducible first | exact HB.out | apply bwA | apply bwN | apply bw1) | exact HB.out))) : w.heap.size≤gb159));clear HB;have HB:=n0_;have BK159:=n1_;have GW159:=n2_;have GE159:=n3_;clear n0_ n1_ n2_ n3_;clear hb hbox hg;have hcz31_0 : w30.cell? ⟨gb159,0,none⟩ = some (.int .i64 0):=(bkC BK159.out 0).trans rfl;have hcz31_1 : w30.cell? ⟨gb159,1,none⟩ = some (.int .i64 0):=(bkC BK159.out 1).trans rfl;have hcz31_2 : w30.cell? ⟨gb159,2,none⟩ = some (.int .i64 0):=(bkC BK159.out 2).trans rfl;have hfz31_0:=bkF BK159.out 0;have hfz31_1:=bkF BK159.out 1;have hfz31_2:=bkF BK159.out 2))
   go_ret
   exact⟨by first | rfl |(simp [errW_none,errW_some] <;> rfl) |(simp [*,errW_none,errW_some] <;> rfl),by repeat(first |(with_reducible first | exact HB.out | apply bwA | apply bwN | apply bw1 | refine bwS ?_ GE159.out) | exact HB.out)⟩
  rw [if_pos c12] at H
  have c12b0 :(((rd_T39 l0 x5_1).f1) == 0) = true:=beq_iff_eq.mpr c12
  have c12b1 :(((rd_T39 l0 x5_1).f1) != 0) = false:=bne_eq_false_iff_eq.mpr c12
  clear c12
  by_cases c13 :((rd_T39 l0 x5_1).f2) = 0
  rotate_left
  ·rw [if_neg c13] at H
   have c13b0 :(((rd_T39 l0 x5_1).f2) == 0) = false:=beq_eq_false_iff_ne.mpr c13
   have c13b1 :(((rd_T39 l0 x5_1).f2) != 0) = true:=bne_iff_ne.mpr c13
   obtain rfl:=Option.some.inj H
   have p158 : 0 ≤(x5_1 : Int):=of_decide_eq_true (by first |(with_reducible assumption) | assumption)
   have q158 : x5_1 < (l0.length : Int):=of_decide_eq_true (by first |(with_reducible assumption) | assumption)
   obtain ⟨ad158,e158,hx158_0,hx158_1,hx158_2⟩:=at_T39 HR0.out x5_1 p158 q158
   cases e158
   replace hx158_0:=(HB.out.cell (World.block_lt_of_cell? w _ hx158_0)).trans hx158_0
   replace hx158_1:=(HB.out.cell (World.block_lt_of_cell? w _ hx158_1)).trans hx158_1
   replace hx158_2:=(HB.out.cell (World.block_lt_of_cell? w _ hx158_2)).trans hx158_2
   replace p158:=eq_true p158
   replace q158:=eq_true q158
   go_wp2_with (first |((with_reducible refine gate_dst (N:=6) rfl ?_);(try(refine gate_guard (by rfl) ?_;dsimp only));refine box_event ?hg (N:=6) ?hd (cs:=#[.int .i64 0,.int .i64 0,.int .i64 0]) (t:=39) ?hr ?_;(case hd=>rfl);(case hg=>rfl);(case hr=>first |(go_simp;done) |(go_simp;rfl));intro gb159 hg w28 hbox hb;have n0_:=Aside0.mk (bwT (by repeat(first |(with_reducible first | exact HB.out | apply bwA | apply bwN | apply bw1) | exact HB.out)) hb);have n1_:=Aside0.mk (hbox);have n2_:=Aside0.mk ((by rw [hg];exact(bwZ (by repeat(first |(with_reducible first | exact HB.out | apply bwA | apply bwN | apply bw1) | exact HB.out))) : w.heap.size≤gb159));have n3_:=Aside0.mk ((by rw [hg];exact(bwZ (by repeat(first |(with_reducible first | exact HB.out | apply bwA | apply bwN | apply bw1) | exact HB.out))) : w.heap.size≤gb159));clear HB;have HB:=n0_;have BK159:=n1_;have GW159:=n2_;have GE159:=n3_;clear n0_ n1_ n2_ n3_;clear hb hbox hg;have hcz29_0 : w28.cell? ⟨gb159,0,none⟩ = some (.int .i64 0):=(bkC BK159.out 0).trans rfl;have hcz29_1 : w28.cell? ⟨gb159,1,none⟩ = some (.int .i64 0):=(bkC BK159.out 1).trans rfl;have hcz29_2 : w28.cell? ⟨gb159,2,none⟩ = some (.int .i64 0):=(bkC BK159.out 2).trans rfl;have hfz29_0:=bkF BK159.out 0;have hfz29_1:=bkF BK159.out 1;have hfz29_2:=bkF BK159.out 2))
   go_ret
   exact⟨by first | rfl |(simp [errW_none,errW_some] <;> rfl) |(simp [*,errW_none,errW_some] <;> rfl),by repeat(first |(with_reducible first | exact HB.out | apply bwA | apply bwN | apply bw1 | refine bwS ?_ GE159.out) | exact HB.out)⟩
  rw [if_pos c13] at H
  have c13b0 :(((rd_T39 l0 x5_1).f2) == 0) = true:=beq_iff_eq.mpr c13
  have c13b1 :(((rd_T39 l0 x5_1).f2) != 0) = false:=bne_eq_false_iff_eq.mpr c13
  clear c13
  by_cases c14 :((rd_T39 l0 x5_1).f1) < 0
  ·rw [if_pos c14] at H
   have c14b0 : decide (((rd_T39 l0 x5_1).f1) < 0) = true:=decide_eq_true c14
   clear c14
   obtain rfl:=Option.some.inj H
   have p158 : 0 ≤(x5_1 : Int):=of_decide_eq_true (by first |(with_reducible assumption) | assumption)
   have q158 : x5_1 < (l0.length : Int):=of_decide_eq_true (by first |(with_reducible assumption) | assumption)
   obtain ⟨ad158,e158,hx158_0,hx158_1,hx158_2⟩:=at_T39 HR0.out x5_1 p158 q158
   cases e158
   replace hx158_0:=(HB.out.cell (World.block_lt_of_cell? w _ hx158_0)).trans hx158_0
   replace hx158_1:=(HB.out.cell (World.block_lt_of_cell? w _ hx158_1)).trans hx158_1
   replace hx158_2:=(HB.out.cell (World.block_lt_of_cell? w _ hx158_2)).trans hx158_2
   replace p158:=eq_true p158
   replace q158:=eq_true q158
   go_wp2_with (first |((with_reducible refine gate_dst (N:=6) rfl ?_);(try(refine gate_guard (by rfl) ?_;dsimp only));refine box_event ?hg (N:=6) ?hd (cs:=#[.int .i64 0,.int .i64 0,.int .i64 0]) (t:=39) ?hr ?_;(case hd=>rfl);(case hg=>rfl);(case hr=>first |(go_simp;done) |(go_simp;rfl));intro gb159 hg w15 hbox hb;have n0_:=Aside0.mk (bwT (by repeat(first |(with_reducible first | exact HB.out | apply bwA | apply bwN | apply bw1) | exact HB.out)) hb);have n1_:=Aside0.mk (hbox);have n2_:=Aside0.mk ((by rw [hg];exact(bwZ (by repeat(first |(with_reducible first | exact HB.out | apply bwA | apply bwN | apply bw1) | exact HB.out))) : w.heap.size≤gb159));have n3_:=Aside0.mk ((by rw [hg];exact(bwZ (by repeat(first |(with_reducible first | exact HB.out | apply bwA | apply bwN | apply bw1) | exact HB.out))) : w.heap.size≤gb159));clear HB;have HB:=n0_;have BK159:=n1_;have GW159:=n2_;have GE159:=n3_;clear n0_ n1_ n2_ n3_;clear hb hbox hg;have hcz16_0 : w15.cell? ⟨gb159,0,none⟩ = some (.int .i64 0):=(bkC BK159.out 0).trans rfl;have hcz16_1 : w15.cell? ⟨gb159,1,none⟩ = some (.int .i64 0):=(bkC BK159.out 1).trans rfl;have hcz16_2 : w15.cell? ⟨gb159,2,none⟩ = some (.int .i64 0):=(bkC BK159.out 2).trans rfl;have hfz16_0:=bkF BK159.out 0;have hfz16_1:=bkF BK159.out 1;have hfz16_2:=bkF BK159.out 2))
   go_ret
   exact⟨by first | rfl |(simp [errW_none,errW_some] <;> rfl) |(simp [*,errW_none,errW_some] <;> rfl),by repeat(first |(with_reducible first | exact HB.out | apply bwA | apply bwN | apply bw1 | refine bwS ?_ GE159.out) | exact HB.out)⟩
  rw [if_neg c14] at H
  have c14b0 : decide (((rd_T39 l0 x5_1).f1) < 0) = false:=decide_eq_false c14
  clear c14
  by_cases c17 :((rd_T39 l0 x5_1).f1) ≥ (l0.length : Int)
  ·rw [if_pos c17] at H
   have c17b0 : decide ((l0.length : Int) ≤((rd_T39 l0 x5_1).f1)) = true:=decide_eq_true c17
   clear c17
   obtain rfl:=Option.some.inj H
   have p158 : 0 ≤(x5_1 : Int):=of_decide_eq_true (by first |(with_reducible assumption) | assumption)
   have q158 : x5_1 < (l0.length : Int):=of_decide_eq_true (by first |(with_reducible assumption) | assumption)
   obtain ⟨ad158,e158,hx158_0,hx158_1,hx158_2⟩:=at_T39 HR0.out x5_1 p158 q158
   cases e158
   replace hx158_0:=(HB.out.cell (World.block_lt_of_cell? w _ hx158_0)).trans hx158_0
   replace hx158_1:=(HB.out.cell (World.block_lt_of_cell? w _ hx158_1)).trans hx158_1
   replace hx158_2:=(HB.out.cell (World.block_lt_of_cell? w _ hx158_2)).trans hx158_2
   replace p158:=eq_true p158
   replace q158:=eq_true q158
   go_wp2_with (first |((with_reducible refine gate_dst (N:=6) rfl ?_);(try(refine gate_guard (by rfl) ?_;dsimp only));refine box_event ?hg (N:=6) ?hd (cs:=#[.int .i64 0,.int .i64 0,.int .i64 0]) (t:=39) ?hr ?_;(case hd=>rfl);(case hg=>rfl);(case hr=>first |(go_simp;done) |(go_simp;rfl));intro gb159 hg w18 hbox hb;have n0_:=Aside0.mk (bwT (by repeat(first |(with_reducible first | exact HB.out | apply bwA | apply bwN | apply bw1) | exact HB.out)) hb);have n1_:=Aside0.mk (hbox);have n2_:=Aside0.mk ((by rw [hg];exact(bwZ (by repeat(first |(with_reducible first | exact HB.out | apply bwA | apply bwN | apply bw1) | exact HB.out))) : w.heap.size≤gb159));have n3_:=Aside0.mk ((by rw [hg];exact(bwZ (by repeat(first |(with_reducible first | exact HB.out | apply bwA | apply bwN | apply bw1) | exact HB.out))) : w.heap.size≤gb159));clear HB;have HB:=n0_;have BK159:=n1_;have GW159:=n2_;have GE159:=n3_;clear n0_ n1_ n2_ n3_;clear hb hbox hg;have hcz19_0 : w18.cell? ⟨gb159,0,none⟩ = some (.int .i64 0):=(bkC BK159.out 0).trans rfl;have hcz19_1 : w18.cell? ⟨gb159,1,none⟩ = some (.int .i64 0):=(bkC BK159.out 1).trans rfl;have hcz19_2 : w18.cell? ⟨gb159,2,none⟩ = some (.int .i64 0):=(bkC BK159.out 2).trans rfl;have hfz19_0:=bkF BK159.out 0;have hfz19_1:=bkF BK159.out 1;have hfz19_2:=bkF BK159.out 2))
   go_ret
   exact⟨by first | rfl |(simp [errW_none,errW_some] <;> rfl) |(simp [*,errW_none,errW_some] <;> rfl),by repeat(first |(with_reducible first | exact HB.out | apply bwA | apply bwN | apply bw1 | refine bwS ?_ GE159.out) | exact HB.out)⟩
  rw [if_neg c17] at H
  have c17b0 : decide ((l0.length : Int) ≤((rd_T39 l0 x5_1).f1)) = false:=decide_eq_false c17
  clear c17
  by_cases c20 :((rd_T39 l0 x5_1).f2) < 0
  ·rw [if_pos c20] at H
   have c20b0 : decide (((rd_T39 l0 x5_1).f2) < 0) = true:=decide_eq_true c20
   clear c20
   obtain rfl:=Option.some.inj H
   have p158 : 0 ≤(x5_1 : Int):=of_decide_eq_true (by first |(with_reducible assumption) | assumption)
   have q158 : x5_1 < (l0.length : Int):=of_decide_eq_true (by first |(with_reducible assumption) | assumption)
   obtain ⟨ad158,e158,hx158_0,hx158_1,hx158_2⟩:=at_T39 HR0.out x5_1 p158 q158
   cases e158
   replace hx158_0:=(HB.out.cell (World.block_lt_of_cell? w _ hx158_0)).trans hx158_0
   replace hx158_1:=(HB.out.cell (World.block_lt_of_cell? w _ hx158_1)).trans hx158_1
   replace hx158_2:=(HB.out.cell (World.block_lt_of_cell? w _ hx158_2)).trans hx158_2
   replace p158:=eq_true p158
   replace q158:=eq_true q158
   go_wp2_with (first |((with_reducible refine gate_dst (N:=6) rfl ?_);(try(refine gate_guard (by rfl) ?_;dsimp only));refine box_event ?hg (N:=6) ?hd (cs:=#[.int .i64 0,.int .i64 0,.int .i64 0]) (t:=39) ?hr ?_;(case hd=>rfl);(case hg=>rfl);(case hr=>first |(go_simp;done) |(go_simp;rfl));intro gb159 hg w21 hbox hb;have n0_:=Aside0.mk (bwT (by repeat(first |(with_reducible first | exact HB.out | apply bwA | apply bwN | apply bw1) | exact HB.out)) hb);have n1_:=Aside0.mk (hbox);have n2_:=Aside0.mk ((by rw [hg];exact(bwZ (by repeat(first |(with_reducible first | exact HB.out | apply bwA | apply bwN | apply bw1) | exact HB.out))) : w.heap.size≤gb159));have n3_:=Aside0.mk ((by rw [hg];exact(bwZ (by repeat(first |(with_reducible first | exact HB.out | apply bwA | apply bwN | apply bw1) | exact HB.out))) : w.heap.size≤gb159));clear HB;have HB:=n0_;have BK159:=n1_;have GW159:=n2_;have GE159:=n3_;clear n0_ n1_ n2_ n3_;clear hb hbox hg;have hcz22_0 : w21.cell? ⟨gb159,0,none⟩ = some (.int .i64 0):=(bkC BK159.out 0).trans rfl;have hcz22_1 : w21.cell? ⟨gb159,1,none⟩ = some (.int .i64 0):=(bkC BK159.out 1).trans rfl;have hcz22_2 : w21.cell? ⟨gb159,2,none⟩ = some (.int .i64 0):=(bkC BK159.out 2).trans rfl;have hfz22_0:=bkF BK159.out 0;have hfz22_1:=bkF BK159.out 1;have hfz22_2:=bkF BK159.out 2))
   go_ret
   exact⟨by first | rfl |(simp [errW_none,errW_some] <;> rfl) |(simp [*,errW_none,errW_some] <;> rfl),by repeat(first |(with_reducible first | exact HB.out | apply bwA | apply bwN | apply bw1 | refine bwS ?_ GE159.out) | exact HB.out)⟩
  rw [if_neg c20] at H
  have c20b0 : decide (((rd_T39 l0 x5_1).f2) < 0) = false:=decide_eq_false c20
  clear c20
  by_cases c23 :((rd_T39 l0 x5_1).f2) ≥ (l0.length : Int)
  ·rw [if_pos c23] at H
   have c23b0 : decide ((l0.length : Int) ≤((rd_T39 l0 x5_1).f2)) = true:=decide_eq_true c23
   clear c23
   obtain rfl:=Option.some.inj H
   have p158 : 0 ≤(x5_1 : Int):=of_decide_eq_true (by first |(with_reducible assumption) | assumption)
   have q158 : x5_1 < (l0.length : Int):=of_decide_eq_true (by first |(with_reducible assumption) | assumption)
   obtain ⟨ad158,e158,hx158_0,hx158_1,hx158_2⟩:=at_T39 HR0.out x5_1 p158 q158
   cases e158
   replace hx158_0:=(HB.out.cell (World.block_lt_of_cell? w _ hx158_0)).trans hx158_0
   replace hx158_1:=(HB.out.cell (World.block_lt_of_cell? w _ hx158_1)).trans hx158_1
   replace hx158_2:=(HB.out.cell (World.block_lt_of_cell? w _ hx158_2)).trans hx158_2
   replace p158:=eq_true p158
   replace q158:=eq_true q158
   go_wp2_with (first |((with_reducible refine gate_dst (N:=6) rfl ?_);(try(refine gate_guard (by rfl) ?_;dsimp only));refine box_event ?hg (N:=6) ?hd (cs:=#[.int .i64 0,.int .i64 0,.int .i64 0]) (t:=39) ?hr ?_;(case hd=>rfl);(case hg=>rfl);(case hr=>first |(go_simp;done) |(go_simp;rfl));intro gb159 hg w24 hbox hb;have n0_:=Aside0.mk (bwT (by repeat(first |(with_reducible first | exact HB.out | apply bwA | apply bwN | apply bw1) | exact HB.out)) hb);have n1_:=Aside0.mk (hbox);have n2_:=Aside0.mk ((by rw [hg];exact(bwZ (by repeat(first |(with_reducible first | exact HB.out | apply bwA | apply bwN | apply bw1) | exact HB.out))) : w.heap.size≤gb159));have n3_:=Aside0.mk ((by rw [hg];exact(bwZ (by repeat(first |(with_reducible first | exact HB.out | apply bwA | apply bwN | apply bw1) | exact HB.out))) : w.heap.size≤gb159));clear HB;have HB:=n0_;have BK159:=n1_;have GW159:=n2_;have GE159:=n3_;clear n0_ n1_ n2_ n3_;clear hb hbox hg;have hcz25_0 : w24.cell? ⟨gb159,0,none⟩ = some (.int .i64 0):=(bkC BK159.out 0).trans rfl;have hcz25_1 : w24.cell? ⟨gb159,1,none⟩ = some (.int .i64 0):=(bkC BK159.out 1).trans rfl;have hcz25_2 : w24.cell? ⟨gb159,2,none⟩ = some (.int .i64 0):=(bkC BK159.out 2).trans rfl;have hfz25_0:=bkF BK159.out 0;have hfz25_1:=bkF BK159.out 1;have hfz25_2:=bkF BK159.out 2))
   go_ret
   exact⟨by first | rfl |(simp [errW_none,errW_some] <;> rfl) |(simp [*,errW_none,errW_some] <;> rfl),by repeat(first |(with_reducible first | exact HB.out | apply bwA | apply bwN | apply bw1 | refine bwS ?_ GE159.out) | exact HB.out)⟩
  rw [if_neg c23] at H
  have c23b0 : decide ((l0.length : Int) ≤((rd_T39 l0 x5_1).f2)) = false:=decide_eq_false c23
  clear c23
  have H':=Aside0.mk H
  clear H
  have p158 : 0 ≤(x5_1 : Int):=of_decide_eq_true (by first |(with_reducible assumption) | assumption)
  have q158 : x5_1 < (l0.length : Int):=of_decide_eq_true (by first |(with_reducible assumption) | assumption)
  obtain ⟨ad158,e158,hx158_0,hx158_1,hx158_2⟩:=at_T39 HR0.out x5_1 p158 q158
  cases e158
  replace hx158_0:=(HB.out.cell (World.block_lt_of_cell? w _ hx158_0)).trans hx158_0
  replace hx158_1:=(HB.out.cell (World.block_lt_of_cell? w _ hx158_1)).trans hx158_1
  replace hx158_2:=(HB.out.cell (World.block_lt_of_cell? w _ hx158_2)).trans hx158_2
  replace p158:=eq_true p158
  replace q158:=eq_true q158
  go_wp2_with (first |((with_reducible refine gate_dst (N:=6) rfl ?_);(try(refine gate_guard (by rfl) ?_;dsimp only));refine box_event ?hg (N:=6) ?hd (cs:=#[.int .i64 0,.int .i64 0,.int .i64 0]) (t:=39) ?hr ?_;(case hd=>rfl);(case hg=>rfl);(case hr=>first |(go_simp;done) |(go_simp;rfl));intro gb159 hg w26 hbox hb;have n0_:=Aside0.mk (bwT (by repeat(first |(with_reducible first | exact HB.out | apply bwA | apply bwN | apply bw1) | exact HB.out)) hb);have n1_:=Aside0.mk (hbox);have n2_:=Aside0.mk ((by rw [hg];exact(bwZ (by repeat(first |(with_reducible first | exact HB.out | apply bwA | apply bwN | apply bw1) | exact HB.out))) : w.heap.size≤gb159));have n3_:=Aside0.mk ((by rw [hg];exact(bwZ (by repeat(first |(with_reducible first | exact HB.out | apply bwA | apply bwN | apply bw1) | exact HB.out))) : w.heap.size≤gb159));clear HB;have HB:=n0_;have BK159:=n1_;have GW159:=n2_;have GE159:=n3_;clear n0_ n1_ n2_ n3_;clear hb hbox hg;have hcz27_0 : w26.cell? ⟨gb159,0,none⟩ = some (.int .i64 0):=(bkC BK159.out 0).trans rfl;have hcz27_1 : w26.cell? ⟨gb159,1,none⟩ = some (.int .i64 0):=(bkC BK159.out 1).trans rfl;have hcz27_2 : w26.cell? ⟨gb159,2,none⟩ = some (.int .i64 0):=(bkC BK159.out 2).trans rfl;have hfz27_0:=bkF BK159.out 0;have hfz27_1:=bkF BK159.out 1;have hfz27_2:=bkF BK159.out 2))
  go_roundg k1
  case measure=>have:=HK1.out;omega
  exact⟨(wrap64 (x5_1 + 1)),(by first | rfl |(simp;done) |(simp [*];done)),H',⟨by have:=HK1.out;omega⟩,⟨by repeat(first |(with_reducible first | exact HB.out | apply bwA | apply bwN | apply bw1 | refine bwS ?_ GE159.out) | exact HB.out)⟩⟩

theorem eqA39 (d : Nat) (w : World) (x0 y0 : Int) (x1 y1 : Int) (x2 y2 : Int) :
  (Op.equalIn (d + 2) 39 (.agg #[.int .i64 x0,.int .i64 x1,.int .i64 x2]) (.agg #[.int .i64 y0,.int .i64 y1,.int .i64 y2])).run Try.prog w = .ok (x0 == y0 && (x1 == y1 && (x2 == y2))) w:=by
 refine eqA_of Try.underlying39 (by kernel_rfl) ?_
 refine eqf_cons (by rfl) (by go_simp;rfl) (by go_simp;rfl) (by go_simp) ?_
 refine eqf_cons (by rfl) (by go_simp;rfl) (by go_simp;rfl) (by go_simp) ?_
 exact eqf_last (by rfl) (by go_simp;rfl) (by go_simp;rfl) (by go_simp)

attribute [local go_sem high] eqA39
def w06_types.l0 : Nat → List (S39) → List (S39) → Int → Option (Bool)
 | 0,_,_,_=>none
 | k + 1,x0,x1,x5=>if x5 < (x0.length : Int) then(if 0≤x5 then(if x5 < (x1.length : Int) then(if(!(((rd_T39 x0 x5).f0) ==((rd_T39 x1 x5).f0)) ||(!(((rd_T39 x0 x5).f1) ==((rd_T39 x1 x5).f1)) ||(!(((rd_T39 x0 x5).f2) ==((rd_T39 x1 x5).f2))))) = true then(some false) else(w06_types.l0 k x0 x1 (wrap64 (x5 + 1)))) else(none)) else(none)) else(some true)
def w06_types.f (k : Nat) (l0 : List (S39)) (l1 : List (S39)) : Option (Bool):=if(l0.length : Int) =(l1.length : Int) then(w06_types.l0 k l0 l1 0) else(some false)
theorem w06_types.mono_l : ∀ k, (∀ y0 y1 y2, LeO (w06_types.l0 k y0 y1 y2) (w06_types.l0 (k + 1) y0 y1 y2))
 | 0=>fun _ _ _ r h=>by simp [w06_types.l0] at h
 | k + 1=>by
  have ih0:=w06_types.mono_l k
  ·intro y0 y1 y2
   unfold w06_types.l0
   repeat' first
   |(with_reducible exact ih0 _ _ _)
   |(with_reducible exact LeO.refl _)
   |(with_reducible exact LeO.none _)
   |(with_reducible refine LeO.ite ?_ ?_)
   |(with_reducible refine LeO.bind ?_ (fun _=>?_))
   | exact ih0 _ _ _
   | exact LeO.none _
   | refine LeO.ite ?_ ?_
   | refine LeO.bind ?_ (fun _=>?_)
theorem w06_types.mono : ∀ a0 a1 k,LeO (w06_types.f k a0 a1) (w06_types.f (k + 1) a0 a1):=by
 intro a0 a1 k
 have ih0:=w06_types.mono_l k
 unfold w06_types.f
 repeat' first
   |(with_reducible exact ih0 _ _ _)
   |(with_reducible exact LeO.refl _)
   |(with_reducible exact LeO.none _)
   |(with_reducible refine LeO.ite ?_ ?_)
   |(with_reducible refine LeO.bind ?_ (fun _=>?_))
   | exact ih0 _ _ _
   | exact LeO.none _
   | refine LeO.ite ?_ ?_
   | refine LeO.bind ?_ (fun _=>?_)
set_option maxHeartbeats 8000000 in
set_option maxRecDepth 100000 in
theorem w06_types.calls (k : Nat) (A0 : Option Addr) (c0 : Nat) (l0 : List (S39)) (A1 : Option Addr) (c1 : Nat) (l1 : List (S39)) (r : Bool) (w : World) (hr0 : Kd.C k39 w A0 l0.length l0) (hc0 : l0.length ≤ c0) (hr1 : Kd.C k39 w A1 l1.length l1) (hc1 : l1.length ≤ c1) (h : w06_types.f k l0 l1 = some r) :
  Calls Try.prog 20 #[.slice A0 l0.length c0,.slice A1 l1.length c1] w fun e w'=>e = .returned (.bool r)∧Drawn0 w w':=by
 have hu39:=Try.underlying39
 have HR0:=Aside0.mk hr0
 have HC0:=Aside0.mk hc0
 clear hr0 hc0
 have HR1:=Aside0.mk hr1
 have HC1:=Aside0.mk hc1
 clear hr1 hc1
 have H :(if(l0.length : Int) =(l1.length : Int) then(w06_types.l0 k l0 l1 0) else(some false)) = some r:=h
 clear h
 by_cases c3 :(l0.length : Int) =(l1.length : Int)
 rotate_left
 ·rw [if_neg c3] at H
  have c3b0 :((l0.length : Int) ==(l1.length : Int)) = false:=beq_eq_false_iff_ne.mpr c3
  have c3b1 :((l0.length : Int) !=(l1.length : Int)) = true:=bne_iff_ne.mpr c3
  have c3b2 :(l0.length == l1.length) = false:=by first | simpa using c3 |(simp at c3 ⊢;omega)
  obtain rfl:=Option.some.inj H
  go_enter Try.func20,Try.ntmps20
  go_wp2
  repeat(go_quiet (fail);try go_wp2)
  go_ret
  exact⟨by first | rfl |(simp;done) |(simp [*];done),by repeat(first | exact Drawn0.refl _ | apply Drawn0.step)⟩
 rw [if_pos c3] at H
 have c3b0 :((l0.length : Int) ==(l1.length : Int)) = true:=beq_iff_eq.mpr c3
 have c3b1 :((l0.length : Int) !=(l1.length : Int)) = false:=bne_eq_false_iff_eq.mpr c3
 have c3b2 :(l0.length == l1.length) = true:=by first | simpa using c3 |(simp at c3 ⊢;omega)
 clear c3
 have H':=Aside0.mk H
 clear H
 go_enter Try.func20,Try.ntmps20
 go_wp2
 repeat(go_quiet (fail);try go_wp2)
 go_loopg [5] k (fun kq v5 w'=>∃ (x5_1 : Int),v5 = .int .i64 x5_1∧Aside0 (w06_types.l0 kq l0 l1 x5_1 = some r)∧Aside0 (kq≤k)∧Drawn0 w w')
 case atStart=>exact⟨(0),(by first | rfl |(simp;done) |(simp [*];done)),H',⟨Nat.le_refl _⟩,by repeat(first | exact Drawn0.refl _ | apply Drawn0.step)⟩
 clear H'
 try clear c1
 try clear c2
 try clear p2
 try clear c3
 try clear c3b0
 try clear c3b1
 try clear c3b2
 obtain ⟨x5_1,rfl,HA,HK1,⟨m1,rfl⟩⟩:=hrel
 cases gk with
 | zero=>exact absurd HA.out (by simp [w06_types.l0])
 | succ k1 =>
  have H:=HA.out
  clear HA
  simp only [w06_types.l0] at H
  by_cases c4 : x5_1 < (l0.length : Int)
  rotate_left
  ·rw [if_neg c4] at H
   have c4b0 : decide (x5_1 < (l0.length : Int)) = false:=decide_eq_false c4
   clear c4
   obtain rfl:=Option.some.inj H
   go_wp2
   repeat(go_quiet (fail);try go_wp2)
   go_ret
   exact⟨by first | rfl |(simp;done) |(simp [*];done),by repeat(first | exact Drawn0.refl _ | apply Drawn0.step)⟩
  rw [if_pos c4] at H
  have c4b0 : decide (x5_1 < (l0.length : Int)) = true:=decide_eq_true c4
  clear c4
  by_cases c5 : 0≤x5_1
  rotate_left
  ·rw [if_neg c5] at H
   exact absurd H (by simp)
  rw [if_pos c5] at H
  have c5b0 : decide (0≤x5_1) = true:=decide_eq_true c5
  clear c5
  by_cases c6 : x5_1 < (l1.length : Int)
  rotate_left
  ·rw [if_neg c6] at H
   exact absurd H (by simp)
  rw [if_pos c6] at H
  have c6b0 : decide (x5_1 < (l1.length : Int)) = true:=decide_eq_true c6
  clear c6
  by_cases c7 :(!(((rd_T39 l0 x5_1).f0) ==((rd_T39 l1 x5_1).f0)) ||(!(((rd_T39 l0 x5_1).f1) ==((rd_T39 l1 x5_1).f1)) ||(!(((rd_T39 l0 x5_1).f2) ==((rd_T39 l1 x5_1).f2))))) = true
  ·rw [if_pos c7] at H
   have c7b0 :(!(((rd_T39 l0 x5_1).f0) ==((rd_T39 l1 x5_1).f0)) ||(!(((rd_T39 l0 x5_1).f1) ==((rd_T39 l1 x5_1).f1)) ||(!(((rd_T39 l0 x5_1).f2) ==((rd_T39 l1 x5_1).f2))))) = true:=c7
   clear c7
   obtain rfl:=Option.some.inj H
   have p161 : 0 ≤(x5_1 : Int):=of_decide_eq_true (by first |(with_reducible assumption) | assumption)
   have q161 : x5_1 < (l0.length : Int):=of_decide_eq_true (by first |(with_reducible assumption) | assumption)
   obtain ⟨ad161,e161,hx161_0,hx161_1,hx161_2⟩:=at_T39 HR0.out x5_1 p161 q161
   cases e161
   replace p161:=eq_true p161
   replace q161:=eq_true q161
   have p162 : 0 ≤(x5_1 : Int):=of_decide_eq_true (by first |(with_reducible assumption) | assumption)
   have q162 : x5_1 < (l1.length : Int):=of_decide_eq_true (by first |(with_reducible assumption) | assumption)
   obtain ⟨ad162,e162,hx162_0,hx162_1,hx162_2⟩:=at_T39 HR1.out x5_1 p162 q162
   cases e162
   replace p162:=eq_true p162
   replace q162:=eq_true q162
   go_wp2
   repeat(go_quiet (fail);try go_wp2)
   go_ret
   exact⟨by first | rfl |(simp;done) |(simp [*];done),by repeat(first | exact Drawn0.refl _ | apply Drawn0.step)⟩
  rw [if_neg c7] at H
  have c7b0 :(!(((rd_T39 l0 x5_1).f0) ==((rd_T39 l1 x5_1).f0)) ||(!(((rd_T39 l0 x5_1).f1) ==((rd_T39 l1 x5_1).f1)) ||(!(((rd_T39 l0 x5_1).f2) ==((rd_T39 l1 x5_1).f2))))) = false:=by simpa using c7
  clear c7
  have H':=Aside0.mk H
  clear H
  have p161 : 0 ≤(x5_1 : Int):=of_decide_eq_true (by first |(with_reducible assumption) | assumption)
  have q161 : x5_1 < (l0.length : Int):=of_decide_eq_true (by first |(with_reducible assumption) | assumption)
  obtain ⟨ad161,e161,hx161_0,hx161_1,hx161_2⟩:=at_T39 HR0.out x5_1 p161 q161
  cases e161
  replace p161:=eq_true p161
  replace q161:=eq_true q161
  have p162 : 0 ≤(x5_1 : Int):=of_decide_eq_true (by first |(with_reducible assumption) | assumption)
  have q162 : x5_1 < (l1.length : Int):=of_decide_eq_true (by first |(with_reducible assumption) | assumption)
  obtain ⟨ad162,e162,hx162_0,hx162_1,hx162_2⟩:=at_T39 HR1.out x5_1 p162 q162
  cases e162
  replace p162:=eq_true p162
  replace q162:=eq_true q162
  go_wp2
  repeat(go_quiet (fail);try go_wp2)
  go_roundg k1
  case measure=>have:=HK1.out;omega
  exact⟨(wrap64 (x5_1 + 1)),(by first | rfl |(simp;done) |(simp [*];done)),H',⟨by have:=HK1.out;omega⟩,by repeat(first | exact Drawn0.refl _ | apply Drawn0.step)⟩
end Go.Proofs.Ytnfmeafiaipplaa.S

namespace Go.Proofs.Ytnfmeafiaipplaa.Lib
open Go.RowKit Go.Proofs.YtnfmeafiaipplaaW.PrintWords Go.Proofs.YtnfmeafiaipplaaW.PrintLast Go.Proofs.YtnfmeafiaipplaaW.PrintMore
open Go.Maps (Keyed)
set_option linter.unusedVariables false

def encU (g : Int → Option Value) : Value → Option Value
 | .int .u8 x=>g x
 | _=>none
def two8 (pa pb : List Int) : Int→Option Value:=fun c=>if c = 97 then some (keyL pa) else if c = 98 then some (keyL pb) else none
/-- A map as a table: nil, or what a pair needs under the letters a and b. -/
def NeedsIs (nd : Option (List Int×List Int)) (base : Nat) (W : World) (v : Value) : Prop :=
 match nd with
 | none=>v = .map none
 | some (pa,pb)=>∃ b,v = .map (some b)∧base≤b∧MapAt W Try.prog 5 b 2 (encU (two8 pa pb))
theorem NeedsIs.below {nd : Option (List Int×List Int)} {base : Nat} {W W' : World} {v : Value} (h : NeedsIs nd base W v) (hB : Below W.heap.size W W') : NeedsIs nd base W' v:=by
 cases nd with
 | none=>exact h
 | some p =>
  obtain ⟨b,e,hb,hm⟩:=h
  exact⟨b,e,hb,hm.below hB⟩
theorem NeedsIs.drewN {nd : Option (List Int×List Int)} {base : Nat} {W : World} {v : Value} (h : NeedsIs nd base W v) (n : Nat) : NeedsIs nd base (W.drewN n) v:=h.below (bwN (Below.refl _ _) n)
def needGet (nd : Option (List Int×List Int)) (c : Int) : Option (List Int) :=
 match nd with
 | none=>none
 | some (pa,pb)=>if c = 97 then some pa else if c = 98 then some pb else none
end Go.Proofs.Ytnfmeafiaipplaa.Lib
