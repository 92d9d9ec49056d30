-- Written by wip/bundle2.py: texts of this claim, one behind the other.
import Derived.WalkKit
import Derived.Deep.Draws
import Derived.Maps.OwnSet
import Derived.Maps.Views
import Derived.Test.YtjbjongahnocdaaWWords
import Derived.Test.YtjbjongahnocdaaWLast
import Derived.Test.YtjbjongahnocdaaWMore
import Derived.RowKit
import Derived.Test.YtjbjongahnocdaaProg
import Derived.Below
import Derived.Deep.AppendLies
import Derived.Maps.AppendAt
import Derived.OwnWalk
import Derived.Laws.BytesArg
import Derived.Laws.MakeOwn
import Derived.Laws.OwnMore
import Derived.Deep.OwnRows
import Derived.Tactics
import Derived.Lib.ConvBytes
import Derived.Laws.Slices
import Derived.KernelRfl
import Derived.RowKit3
import Derived.Deep.LoopGhost
import Derived.Deep.QuietTactic
import Derived.BigQuiet
import Derived.WideLaws
import Derived.Deep.DeepCutAuto
import Derived.Deep.CutBlock
import Derived.Deep.RegionHeld3
import Derived.Laws.Rows
import Derived.Lib.AppendStr
import Derived.ArgAppend
import Derived.Laws.IdiomCopy
import Derived.OrdersHeld
import Derived.Laws.BitsLemmas
import Derived.Deep.DeepMust
import Derived.WalkSpells
import Derived.Laws.EntriesVeiled
import Derived.IntWalk
import Derived.Test.YtjbjongahnocdaaWTab
import Derived.Test.YtjbjongahnocdaaWQPut
import Derived.Test.YtjbjongahnocdaaWApart
import Derived.Test.YtjbjongahnocdaaWArr
import Derived.Test.YtjbjongahnocdaaWZeros
import Derived.Test.YtjbjongahnocdaaWFoot
import Derived.Test.YtjbjongahnocdaaWKept
import Derived.Test.YtjbjongahnocdaaWShare
import Derived.Test.YtjbjongahnocdaaWN
import Derived.Test.YtjbjongahnocdaaWRepsOne
import Derived.Test.YtjbjongahnocdaaWGuard
import Derived.Test.YtjbjongahnocdaaWNEv
set_option linter.unusedVariables false
set_option linter.unusedSimpArgs false

namespace Go.Proofs.Ytjbjongahnocdaa.Lib
open Go.Maps (Keyed IsMap Tidy)

/-- An element is held as it stands. -/
def Rv (v : Value) : Option (DataW Value × List MemPlace) := some (.held v, [])
/-- Block b of w is a map of m entries; at the key k it holds 'f k'. -/
def MapAt (w : World) (P : Program) (k : TypeId) (b m : Nat) (f : Value → Option Value) : Prop :=
 ∃ D, w.ownsMap P k Rv b m D ∧ Maps.size D = m ∧ ∀ kv kl, keyOf P k kv = some kl → Maps.has D kl = (f kv).isSome ∧ ∀ z : Value, D.atKey kl (.held z) = .held ((f kv).getD z)
theorem MapAt.lt {w : World} {P : Program} {k : TypeId} {b m : Nat} {f : Value → Option Value} (h : MapAt w P k b m f) : b < w.heap.size := by
 obtain ⟨D, h1, _⟩ := h
 exact h1.lt
theorem MapAt.made (w : World) (P : Program) (k : TypeId) : MapAt (w.alloc (.map #[] 0)) P k w.heap.size 0 (fun _ => none) :=
 ⟨_, World.ownsMap_made w P k Rv, rfl, fun _ _ _ => ⟨rfl, fun _ => rfl⟩⟩
theorem MapAt.congr {w : World} {P : Program} {k : TypeId} {b m : Nat} {f g : Value → Option Value} (h : MapAt w P k b m f) (e : ∀ kv kl, keyOf P k kv = some kl → f kv = g kv) : MapAt w P k b m g := by
 obtain ⟨D, h1, h2, h3⟩ := h
 refine ⟨D, h1, h2, fun kv kl hk => ?_⟩
 rw [← e kv kl hk]
 exact h3 kv kl hk
theorem MapAt.kept {w w' : World} {P : Program} {k : TypeId} {b m : Nat} {f : Value → Option Value} {row : Option Nat} (h : MapAt w P k b m f) (hg : w.grownBy w' row) (hne : some b ≠ row) : MapAt w' P k b m f := by
 obtain ⟨D, h1, h2, h3⟩ := h
 exact ⟨D, h1.kept hg hne, h2, h3⟩
theorem MapAt.block {w w' : World} {P : Program} {k : TypeId} {b m : Nat} {f : Value → Option Value} (h : MapAt w P k b m f) (hb : w'.heap[b]? = w.heap[b]?) : MapAt w' P k b m f := by
 obtain ⟨D, ⟨es, clock, h0, F, hs, hD⟩, h2, h3⟩ := h
 exact ⟨D, ⟨es, clock, hb.trans h0, F, hs, hD⟩, h2, h3⟩
theorem MapAt.drewN {w : World} {P : Program} {k : TypeId} {b m : Nat} {f : Value → Option Value} (h : MapAt w P k b m f) (n : Nat) : MapAt (w.drewN n) P k b m f := h.block rfl
theorem MapAt.drew {w : World} {P : Program} {k : TypeId} {b m : Nat} {f : Value → Option Value} (h : MapAt w P k b m f) : MapAt w.drew P k b m f := h.block rfl
theorem MapAt.alloc {w : World} {P : Program} {k : TypeId} {b m : Nat} {f : Value → Option Value} (h : MapAt w P k b m f) (o : Obj) : MapAt (w.alloc o) P k b m f := by
 obtain ⟨D, h1, h2, h3⟩ := h
 exact ⟨D, h1.alloc o, h2, h3⟩
theorem MapAt.setCell {w : World} {P : Program} {k : TypeId} {b m : Nat} {f : Value → Option Value} (h : MapAt w P k b m f) {a : Addr} (ha : b ≠ a.block) (u : Value) : MapAt (w.setCell a u) P k b m f := by
 obtain ⟨D, h1, h2, h3⟩ := h
 exact ⟨D, h1.setCell ha u, h2, h3⟩
theorem MapAt.below {w w' : World} {P : Program} {k : TypeId} {b m : Nat} {f : Value → Option Value} (h : MapAt w P k b m f) (hb : Go.RowKit.Below w.heap.size w w') : MapAt w' P k b m f := h.block (hb.block b h.lt)
/-- A map's block is no row of cells. -/
theorem MapAt.ne {w : World} {P : Program} {k : TypeId} {b m : Nat} {f : Value → Option Value} (h : MapAt w P k b m f) {g : Nat} {cs : Array Value} {t : TypeId} {fr : Nat × Nat} (hg : w.heap[g]? = some (.cells cs t fr)) : b ≠ g := by
 rintro rfl
 obtain ⟨D, ⟨es, clock, h0, _⟩, _⟩ := h
 rw [hg] at h0
 cases h0
section
variable {w : World} {P : Program} {t k e : TypeId} {b m : Nat} {f : Value → Option Value}

/-- 'm[k]'. -/
theorem MapAt.look (h : MapAt w P k b m f) (K : Keyed P k) (ht : P.underlying t = some (.map k e)) {z : Value} (hz : (zeroValue e).run P w = .ok z w) {key : Value} {kl : Lit} (hkey : keyOf P k key = some kl) :
  (Instr.lookup t (.map (some b)) key false).run P w = .ok ((f key).getD z) w := by
 obtain ⟨D, h1, h2, h3⟩ := h
 obtain ⟨v, ps, hrun, hv⟩ := h1.lookup K ht hz (R := Rv) rfl hkey
 rw [hrun]
 have := (h3 key kl hkey).2 z
 rw [this] at hv
 injection hv with hv
 injection hv with hv
 injection hv with hv
 rw [hv]
/-- 'v, ok := m[k]'. -/
theorem MapAt.lookOk (h : MapAt w P k b m f) (K : Keyed P k) (ht : P.underlying t = some (.map k e)) {z : Value} (hz : (zeroValue e).run P w = .ok z w) {key : Value} {kl : Lit} (hkey : keyOf P k key = some kl) :
  (Instr.lookup t (.map (some b)) key true).run P w = .ok (.tuple #[(f key).getD z, .bool (f key).isSome]) w := by
 obtain ⟨D, h1, h2, h3⟩ := h
 obtain ⟨v, ps, hrun, hv⟩ := h1.look_ok K ht hz (R := Rv) rfl hkey
 rw [hrun, (h3 key kl hkey).1]
 have := (h3 key kl hkey).2 z
 rw [this] at hv
 injection hv with hv
 injection hv with hv
 injection hv with hv
 rw [hv]
theorem MapAt.len (h : MapAt w P k b m f) (ht : P.underlying t = some (.map k e)) (ty : TypeId) : (Builtin.len_ #[t] ty #[.map (some b)]).run P w = .ok (.int .i64 m) w := by
 obtain ⟨D, h1, h2, _⟩ := h
 rw [← h2]
 exact h1.len ht ty
/-- What a store makes of f. -/
theorem put_fact (K : Keyed P k) {D : DataW Value} (hD : Tidy D) (h2 : Maps.size D = m) (h3 : ∀ kv kl, keyOf P k kv = some kl → Maps.has D kl = (f kv).isSome ∧ ∀ z : Value, D.atKey kl (.held z) = .held ((f kv).getD z))
  {key val : Value} {kl : Lit} (hkey : keyOf P k key = some kl) {f' : Value → Option Value} (e1 : f' key = some val) (e2 : ∀ v, v ≠ key → f' v = f v) :
  Maps.size (D.put kl (.held val)) = (if (f key).isSome then m else m + 1) ∧ ∀ kv kl', keyOf P k kv = some kl' → Maps.has (D.put kl (.held val)) kl' = (f' kv).isSome ∧ ∀ z : Value, (D.put kl (.held val)).atKey kl' (.held z) = .held ((f' kv).getD z) := by
 refine ⟨by rw [Maps.size_put hD, (h3 key kl hkey).1, h2], fun kv kl' hk' => ?_⟩
 by_cases hne : kv = key
 ·subst hne
  rw [hkey] at hk'
  injection hk' with hk'
  subst hk'
  rw [e1]
  exact ⟨Maps.has_put_same hD.isMap (K.key hkey) _, fun z => Maps.atKey_put_same hD.isMap (K.key hkey) _ _⟩
 ·have hl : kl' ≠ kl := fun e0 => hne (K.inj (e0 ▸ hk') hkey)
  rw [e2 kv hne]
  exact ⟨(Maps.has_put_other hl _).trans (h3 kv kl' hk').1, fun z => (Maps.atKey_put_other hl _ _).trans ((h3 kv kl' hk').2 z)⟩
theorem MapAt.bound {n : Nat} {D : DataW Value} (h : w.ownsMap P k Rv b n D) : w.ownsMap P k Rv b (Maps.size D) D := by
 obtain ⟨es, clock, hb, F, hs, hD⟩ := h
 refine ⟨es, clock, hb, F, ?_, hD⟩
 rw [hD]
 simp [Maps.size, length_sorted]
/-- 'm[k] = v'. -/
theorem MapAt.store (h : MapAt w P k b m f) (K : Keyed P k) (ht : P.underlying t = some (.map k e)) (hm : m < maxLen) {key val : Value} {kl : Lit} (hkey : keyOf P k key = some kl) {f' : Value → Option Value} (e1 : f' key = some val) (e2 : ∀ v, v ≠ key → f' v = f v) :
  ∃ w', (Instr.mapUpdate t (.map (some b)) key val).run P w = .ok () w' ∧ MapAt w' P k b (if (f key).isSome then m else m + 1) f' ∧ w.grownBy w' (some b) := by
 obtain ⟨D, h1, h2, h3⟩ := h
 obtain ⟨w', hrun, h4, h5⟩ := h1.update K ht hm (val := val) (d := .held val) (ps := []) hkey rfl
 obtain ⟨h6, h7⟩ := put_fact K (h1.tidy K) h2 h3 hkey (val := val) e1 e2
 exact ⟨w', hrun, ⟨_, h6 ▸ MapAt.bound h4, h6, h7⟩, h5⟩
end

section
variable {P : Program} (w : World) {ops : Array Oper} {rest : List Oper} {o : Oper} {a : Act} {Q : Exit → Act → World → Prop}

theorem wpList_mapStore (hg : o.guard = none) (m x v : Operand) (t : TypeId) (hop : o.op = Op.mapUpdate t m x v) {k e : TypeId} (K : Keyed P k) (ht : P.underlying t = some (.map k e)) {b n : Nat} {f : Value → Option Value}
  (hm : a.eval m = .map (some b)) (h : MapAt w P k b n f) (hn : n < maxLen) (key val : Value) (hx : a.eval x = key) (hv : a.eval v = val) {kl : Lit} (hkey : keyOf P k key = some kl) (f' : Value → Option Value) (e1 : f' key = some val) (e2 : ∀ v, v ≠ key → f' v = f v)
  (hK : ∀ w', MapAt w' P k b (if (f key).isSome then n else n + 1) f' → w.grownBy w' (some b) → wpList P ops Q rest (a.put o.dst undef) w') :
  wpList P ops Q (o :: rest) a w := by
 refine wpList_plain hg fun K' hK' => ?_
 obtain ⟨w', hrun, r1, r2⟩ := h.store K ht hn hkey e1 e2
 unfold Oper.wp
 simp [execOp, hop, hm, hx, hv, hrun, Result.andThen]
 exact hK' _ _ (hK w' r1 r2)
end

def encI (g : Int → Option Value) : Value → Option Value
 | .int .i64 x => g x
 | _ => none
theorem wfI {x : Int} (h0 : -9223372036854775808 ≤ x) (h1 : x ≤ 9223372036854775807) : (Lit.int .i64 x).wf = true := WalkArith.wf_i64 (by omega)
section
variable {P : Program} (W : World) {ops : Array Oper} {rest : List Oper} {o : Oper} {a : Act} {Q : Exit → Act → World → Prop}
theorem wpList_appendRun (hg : o.guard = none) (s x : Operand) (t : TypeId) (ho : o.op = .call { callee := .builtin .append, args := #[s, x], argTypes := #[t, t] }) {v y v1 : Value} {w1 : World} {ty : TypeId}
  (hrun : (Builtin.append_ #[t, t] ty #[v, y]).run P W = .ok v1 w1) (hty : o.type = ty) (hs : a.eval s = v) (hx : a.eval x = y) (hK : wpList P ops Q rest (a.put o.dst v1) w1) : wpList P ops Q (o :: rest) a W := by
 refine wpList_plain hg fun K hK' => ?_
 unfold Oper.wp execOp
 simp only [ho, resolve, invoke, builtin, Sem.run_bind, Sem.run_pure, Result.andThen_ok, List.map_toArray, List.map_cons, List.map_nil, hs, hx, hty, hrun]
 exact hK' _ _ hK
end

theorem append_extract {P : Program} {t : TypeId} {v y : Value} {W : World} {Φ : Value → World → Prop}
  (h : ∀ (o : Oper) (a : Act) (Kc : Act → World → Prop) (Q : Exit → Act → World → Prop), o.guard = none → o.op = .call { callee := .builtin .append, args := #[.const v, .const y], argTypes := #[t, t] } → (∀ v1 w1, Φ v1 w1 → Kc (a.put o.dst v1) w1) → Oper.wp P o a W Kc Q) (ty : TypeId) :
  ∃ v1 w1, (Builtin.append_ #[t, t] ty #[v, y]).run P W = .ok v1 w1 ∧ Φ v1 w1 := by
 have h1 := h { dst := some 0, op := .call { callee := .builtin .append, args := #[.const v, .const y], argTypes := #[t, t] }, type := ty, pos := "", after := #[], guard := none } ⟨#[undef], []⟩
  (fun a' w' => ∃ v1, a'.tmps = #[v1] ∧ Φ v1 w') (fun _ _ _ => False) rfl rfl (fun v1 w1 hp => ⟨v1, rfl, hp⟩)
 unfold Oper.wp execOp at h1
 simp only [resolve, invoke, builtin, Sem.run_bind, Sem.run_pure, Result.andThen_ok, List.map_toArray, List.map_cons, List.map_nil] at h1
 have e1 : Act.eval ⟨#[undef], []⟩ (.const v) = v := rfl
 have e2 : Act.eval ⟨#[undef], []⟩ (.const y) = y := rfl
 rw [e1, e2] at h1
 cases hr : (Builtin.append_ #[t, t] ty #[v, y]).run P W with
 | ok v1 w1 =>
  rw [hr] at h1
  obtain ⟨v2, h2, h3⟩ := h1
  have : v1 = v2 := by
   have h4 : (Act.put (⟨#[undef], []⟩ : Act) (some 0) v1).tmps = #[v2] := h2
   simpa [Act.put] using h4
  subst this
  exact ⟨v1, w1, rfl, h3⟩
 | halt e w1 =>
  rw [hr] at h1
  cases e <;> exact absurd h1 (by simp [Result.andThen, Oper.upon])
end Go.Proofs.Ytjbjongahnocdaa.Lib

namespace Go.Proofs.Ytjbjongahnocdaa.Lib
open Go.RowKit Go.Proofs.YtjbjongahnocdaaW.PrintWords Go.Proofs.YtjbjongahnocdaaW.PrintLast Go.Proofs.YtjbjongahnocdaaW.PrintMore
set_option linter.unusedVariables false

/-- append(v, p), p laid in a new block. -/
theorem append_one {α : Type} (d : Kd α) {P : Program} {w0 W : World} (base : Nat) (t ty e : TypeId) (z : Value) (bytes : Nat) (ht : P.underlying t = some (.slice e)) (hinfo : (P.info? e).map (fun i => (i.zero, i.size, i.bytes)) = some (some z, d.sz, bytes)) (hz : z.cells.size = d.sz) (hs0 : 0 < d.sz) (hb0 : 0 < bytes)
  {v : Value} {xs : List α} (p : α) (cs : List Value) {ok : Nat → Prop} (okp : Nat → Prop) (hp : d.M W base okp p cs) (hokp : ∀ k, okp k → ok k ∧ some k ≠ v.ownBlock) (hfresh : ∀ k, W.heap.size ≤ k → ok k)
  (HO : d.R e W base ok v xs) (HB : Below base w0 W) (hbase : base ≤ W.heap.size) (hl : (xs.length + 1) * bytes ≤ 140737488355328) :
  ∃ v1 w1, (Builtin.append_ #[t, t] ty #[v, .slice (some ⟨W.heap.size, 0, none⟩) 1 1]).run P (W.alloc (.cells cs.toArray e)) = .ok v1 w1 ∧ d.R e w1 base ok v1 (xs ++ [p]) ∧ Below base w0 w1 ∧ W.grownBy w1 v.ownBlock ∧ (v1.ownBlock = v.ownBlock ∨ ∃ b, v1.ownBlock = some b ∧ W.heap.size ≤ b) := by
 refine append_extract (P := P) (t := t) (v := v) (y := .slice (some ⟨W.heap.size, 0, none⟩) 1 1) (Φ := fun v1 w1 => d.R e w1 base ok v1 (xs ++ [p]) ∧ Below base w0 w1 ∧ W.grownBy w1 v.ownBlock ∧ (v1.ownBlock = v.ownBlock ∨ ∃ b, v1.ownBlock = some b ∧ W.heap.size ≤ b)) ?_ ty
 intro o a Kc Q hg ho hK
 have hw : Region.wanted o (yielded #[] a.tmps) = true := by simp [Region.wanted, hg]
 have := Kd.R_append_step (P := P) (ops := #[]) (o := o) (a := a) (Q := Q) (Kc := Kc) d (w0 := w0) (W := W) base hw (.const v) (.const (.slice (some ⟨W.heap.size, 0, none⟩) 1 1)) t e z bytes ho ht hinfo hz hs0 hb0 v xs p cs ok okp rfl rfl hp hokp hfresh HO HB hbase hl
  (fun v1 w1 h1 h2 h3 h4 => hK v1 w1 ⟨h1, h2, h3, h4⟩)
 rw [if_pos hw] at this
 exact this
/-- append(v, ys...). -/
theorem append_row {α : Type} (d : Kd α) {P : Program} {w0 W : World} (base : Nat) (t ty e : TypeId) (z : Value) (bytes : Nat) (ht : P.underlying t = some (.slice e)) (hinfo : (P.info? e).map (fun i => (i.zero, i.size, i.bytes)) = some (some z, d.sz, bytes)) (hz : z.cells.size = d.sz) (hs0 : 0 < d.sz) (hb0 : 0 < bytes)
  {v : Value} {xs : List α} (ys : List α) (A : Option Addr) (m c : Nat) {ok : Nat → Prop} (okp : Nat → Prop) {Rr : α → List Value → Prop} (HR : ReadsRow Rr d.sz W A m ys) (hKM : ∀ x cs, Rr x cs → d.M W base okp x cs) (hokp : ∀ k, okp k → ok k ∧ some k ≠ v.ownBlock) (hfresh : ∀ k, W.heap.size ≤ k → ok k)
  (HO : d.R e W base ok v xs) (HB : Below base w0 W) (hbase : base ≤ W.heap.size) (hl : (xs.length + m) * bytes ≤ 140737488355328) :
  ∃ v1 w1, (Builtin.append_ #[t, t] ty #[v, .slice A m c]).run P W = .ok v1 w1 ∧ d.R e w1 base ok v1 (xs ++ ys) ∧ Below base w0 w1 ∧ W.grownBy w1 v.ownBlock ∧ (v1.ownBlock = v.ownBlock ∨ ∃ b, v1.ownBlock = some b ∧ W.heap.size ≤ b) := by
 refine append_extract (P := P) (t := t) (v := v) (y := .slice A m c) (Φ := fun v1 w1 => d.R e w1 base ok v1 (xs ++ ys) ∧ Below base w0 w1 ∧ W.grownBy w1 v.ownBlock ∧ (v1.ownBlock = v.ownBlock ∨ ∃ b, v1.ownBlock = some b ∧ W.heap.size ≤ b)) ?_ ty
 intro o a Kc Q hg ho hK
 have hw : Region.wanted o (yielded #[] a.tmps) = true := by simp [Region.wanted, hg]
 have := Kd.R_append_rows_step (P := P) (ops := #[]) (o := o) (a := a) (Q := Q) (Kc := Kc) d (Rr := Rr) (w0 := w0) (W := W) base hw (.const v) (.const (.slice A m c)) t e z bytes ho ht hinfo hz hs0 hb0 v xs ys A m c ok okp rfl rfl HO HR hKM hokp hfresh HB hbase hl
  (fun v1 w1 h1 h2 h3 h4 => hK v1 w1 ⟨h1, h2, h3, h4⟩)
 rw [if_pos hw] at this
 exact this
theorem R_addr {W : World} {base e n c : Nat} {ok : Nat → Prop} {α : Type} {d : Kd α} {A : Option Addr} {xs : List α} (h : d.R e W base ok (.slice A n c) xs) (hn : 0 < xs.length) : ∃ g, A = some ⟨g, 0, none⟩ := by
 obtain ⟨inner, h1⟩ := Kd.R_own h
 obtain ⟨g, cap, e1, _⟩ := h1.form hn
 injection e1 with e1 _ _
 exact ⟨g, e1⟩
end Go.Proofs.Ytjbjongahnocdaa.Lib

namespace Go.Proofs.Ytjbjongahnocdaa.Defs
open Go.RowKit Go.Proofs.YtjbjongahnocdaaW.PrintWords

def isOrderGo (n : Nat) : List Int → List Int → Bool
 | [], _ => true
 | x :: xs, seen => if 1 ≤ x ∧ x ≤ n ∧ x ∉ seen then isOrderGo n xs (x :: seen) else false
def isOrderB (l : List Int) : Bool := decide (l.length ≤ 60) && isOrderGo l.length l []
def nextIs (s lft : List Int) : Bool := match s with | [] => false | a :: _ => decide (a = (lft.length : Int) + 1)
def drainS : List Int → List Int → List Int → List Int × List Int × List Int
 | [], lft, plan => ([], lft, plan)
 | x :: s, lft, plan => if x = (lft.length : Int) + 1 then drainS s (lft ++ [x]) (plan ++ [111]) else (x :: s, lft, plan)
def stackGo : List Int → List Int × List Int × List Int → List Int × List Int × List Int
 | [], st => st
 | x :: xs, (s, lft, plan) => stackGo xs (drainS (x :: s) lft (plan ++ [105]))
def passIn (x : Int) : List Int → List Int → List Int × List Int
 | [], lft => ([], lft)
 | t :: s, lft => if t < x then passIn x s (lft ++ [t]) else (t :: s, lft)
def passGo : List Int → List Int × List Int → List Int × List Int
 | [], st => st
 | x :: xs, (s, lft) => passGo xs (x :: (passIn x s lft).1, (passIn x s lft).2)
/-- The queue of an item: the first one whose last item is smaller. -/
def placeQ (order last : List Int) (x : Int) : Nat := last.findIdx (fun k => decide (order.getD k.toNat 0 < x))
def lastFor (order last : List Int) (x i : Int) : List Int := if placeQ order last x < last.length then last else last ++ [i]
def beforeOf (last : List Int) (q : Nat) : Int := if q = 0 then -1 else last.getD (q - 1) 0
def placesGo (order : List Int) : List Int → Int → List Int → List (Int × Int) → List (Int × Int)
 | [], _, _, out => out
 | x :: xs, i, last, out => placesGo order xs (i + 1) ((lastFor order last x i).set (placeQ order last x) i) (out ++ [((placeQ order last x : Int), beforeOf (lastFor order last x i) (placeQ order last x))])
def placesB (order : List Int) : List (Int × Int) := placesGo order order 0 [] []
def rankSum (all : List Int) (n first : Int) : Nat → Int → Int → Int
 | 0, _, sum => sum
 | m + 1, k, sum => rankSum all n first m (k + 1) (wrap64 (sum + wrap64 (all.getD (k - 1).toNat 0 * all.getD (n - k).toNat 0)))
def rankF (all : List Int) : Nat → List Int → Int → Option Int
 | 0, _, _ => none
 | _ + 1, [], _ => some 0
 | k + 1, x :: t, less =>
  if 0 ≤ less ∧ less ≤ 100 ∧ 0 ≤ x ∧ x ≤ 100 ∧ 1 ≤ x - less ∧ x - less ≤ (x :: t).length ∧ (x :: t).length < all.length then
   (rankF all k (((x :: t).take (x - less).toNat).drop 1) less).bind fun a =>
    (rankF all k ((x :: t).drop (x - less).toNat) (less + (x - less))).bind fun b =>
     some (wrap64 (wrap64 (rankSum all (x :: t).length (x - less) (x - less - 1).toNat 1 0 + wrap64 (a * all.getD (((x :: t).length : Int) - (x - less)).toNat 0)) + b))
  else none
def pop1 (s : List Int) (w : Int) : List Int × Int × Bool :=
 match s with
 | [] => ([], w, false)
 | a :: t => if a = w then (t, w + 1, true) else (a :: t, w, false)
def drain2 : Nat → List Int → List Int → Int → List Int × List Int × Int
 | 0, s0, s1, w => (s0, s1, w)
 | f + 1, s0, s1, w =>
  if ((pop1 s0 w).2.2 || (pop1 s1 (pop1 s0 w).2.1).2.2) = true then drain2 f (pop1 s0 w).1 (pop1 s1 (pop1 s0 w).2.1).1 (pop1 s1 (pop1 s0 w).2.1).2.1
  else (s0, s1, w)
def sidesGo : List (Int × Int) → List Int → List Int → Int → Option Int
 | [], _, _, w => some w
 | (x, s) :: xs, s0, s1, w =>
  if s < 0 ∨ s > 1 then none
  else
   sidesGo xs (drain2 ((if s = 0 then x :: s0 else s0).length + (if s = 0 then s1 else x :: s1).length + 1) (if s = 0 then x :: s0 else s0) (if s = 0 then s1 else x :: s1) w).1
    (drain2 ((if s = 0 then x :: s0 else s0).length + (if s = 0 then s1 else x :: s1).length + 1) (if s = 0 then x :: s0 else s0) (if s = 0 then s1 else x :: s1) w).2.1
    (drain2 ((if s = 0 then x :: s0 else s0).length + (if s = 0 then s1 else x :: s1).length + 1) (if s = 0 then x :: s0 else s0) (if s = 0 then s1 else x :: s1) w).2.2
end Go.Proofs.Ytjbjongahnocdaa.Defs

namespace Go.Proofs.Ytjbjongahnocdaa.S
open Go.Proofs.Ytjbjongahnocdaa.Lib
open Go.Proofs.Ytjbjongahnocdaa.Defs
open Go.Maps (Keyed)
open Go.RowKit Go.Proofs.YtjbjongahnocdaaW.PrintWords Go.Proofs.YtjbjongahnocdaaW.PrintLast Go.Proofs.YtjbjongahnocdaaW.PrintMore
attribute [local go_sem] max2_int min2_int max_two min_two max_three min_three max_four min_four
set_option linter.unusedVariables false
set_option linter.unusedSimpArgs false

def errW : Option Int → Value
 | none => .nilIface
 | some c => .iface 0 (.int .i64 c)
theorem errW_none : errW none = .nilIface := rfl
theorem errW_some (c : Int) : errW (some c) = .iface 0 (.int .i64 c) := rfl
theorem info3 : (Try.prog.info? 3).map (fun i => (i.zero, i.size, i.bytes)) = some (some (.int .i64 0), 1, 8) := by kernel_rfl
theorem info5 : (Try.prog.info? 5).map (fun i => (i.zero, i.size, i.bytes)) = some (some (.int .u8 0), 1, 1) := by kernel_rfl
theorem info22 : (Try.prog.info? 22).map (fun i => (i.zero, i.size, i.bytes)) = some (some (.slice none 0 0), 1, 24) := by kernel_rfl
theorem info82 : (Try.prog.info? 82).map (fun i => (i.zero, i.size, i.bytes)) = some (some (.agg #[(.int .i64 0), (.int .i64 0)]), 2, 16) := by kernel_rfl
-- the values' own types
def rd_L1 (xs : List (List Int)) (i : Int) : (List Int) := xs.getD i.toNat ([] : List Int)
theorem at_L1 {w : World} {A : Option Addr} {n : Nat} {xs : List (List Int)} (h : Kd.C (Kd.slice 3 (Kd.int .i64)) w A n xs) (i : Int) (h0 : 0 ≤ i) (h1 : i < n) : ∃ ad A0 c0, A = some ad ∧ w.cell? (ad.add i.toNat) = some (.slice A0 (rd_L1 xs i).length c0) ∧ (rd_L1 xs i).length ≤ c0 ∧ (Kd.int .i64).C w A0 (rd_L1 xs i).length (rd_L1 xs i) := by
 obtain ⟨ad, c, e, _, hK, hc0⟩ := Kd.C_get h ([] : List Int) i h0 h1
 have hc : ∀ j u, c[j]? = some u → w.cell? (ad.add (i.toNat * 1 + j)) = some u := hc0
 obtain ⟨A0, c0, rfl, l0, g0⟩ := hK
 exact ⟨ad, A0, c0, e, by have hq := hc 0 _ rfl; rwa [Nat.mul_one, Nat.add_zero] at hq, l0, g0⟩
structure S82 where
 f0 : Int
 f1 : Int
def z82 : S82 := ⟨(0 : Int), (0 : Int)⟩
def k82 : Kd S82 := Kd.iso (Kd.pair (Kd.int .i64) (Kd.int .i64)) (fun x : S82 => (x.f0, x.f1))
theorem k82_open {w : World} {x : S82} {cs : List Value} (h : k82.K w x cs) : cs = [.int .i64 x.f0, .int .i64 x.f1] := by
 obtain ⟨_, _, rfl, rfl, rfl⟩ := h
 exact rfl
theorem k82_mkM (w : World) (base : Nat) (ok : Nat → Prop) (x : S82)  : k82.M w base ok x [.int .i64 x.f0, .int .i64 x.f1] := ⟨[.int .i64 x.f0], [.int .i64 x.f1], rfl, rfl, rfl⟩
def rd_T82 (xs : List S82) (i : Int) : S82 := xs.getD i.toNat z82
theorem at_T82 {w : World} {A : Option Addr} {n : Nat} {xs : List S82} (h : Kd.C k82 w A n xs) (i : Int) (h0 : 0 ≤ i) (h1 : i < n) : ∃ ad , A = some ad ∧ w.cell? (ad.add (i.toNat * 2)) = some (.int .i64 (rd_T82 xs i).f0) ∧ w.cell? ⟨(ad.add (i.toNat * 2)).block, (ad.add (i.toNat * 2)).off + 1, none⟩ = some (.int .i64 (rd_T82 xs i).f1) := by
 obtain ⟨ad, c, e, _, hK, hc0⟩ := Kd.C_get h z82 i h0 h1
 have hc : ∀ j u, c[j]? = some u → w.cell? (ad.add (i.toNat * 2 + j)) = some u := hc0
 obtain rfl := k82_open hK
 exact ⟨ad, e, hc 0 _ rfl, by rw [← add_field _ _ 1 (by omega)]; exact hc 1 _ rfl⟩

theorem info65 : (Try.prog.info? 65).map (fun i => (i.zero, i.size, i.bytes)) = some (some (.agg #[(.int .i64 0), (.int .i64 0)]), 2, 16) := by kernel_rfl
structure S65 where
 f0 : Int
 f1 : Int
def z65 : S65 := ⟨(0 : Int), (0 : Int)⟩
def k65 : Kd S65 := Kd.iso (Kd.pair (Kd.int .i64) (Kd.int .i64)) (fun x : S65 => (x.f0, x.f1))
theorem k65_open {w : World} {x : S65} {cs : List Value} (h : k65.K w x cs) : cs = [.int .i64 x.f0, .int .i64 x.f1] := by
 obtain ⟨_, _, rfl, rfl, rfl⟩ := h
 exact rfl
theorem k65_mkM (w : World) (base : Nat) (ok : Nat → Prop) (x : S65)  : k65.M w base ok x [.int .i64 x.f0, .int .i64 x.f1] := ⟨[.int .i64 x.f0], [.int .i64 x.f1], rfl, rfl, rfl⟩
def rd_T65 (xs : List S65) (i : Int) : S65 := xs.getD i.toNat z65
theorem at_T65 {w : World} {A : Option Addr} {n : Nat} {xs : List S65} (h : Kd.C k65 w A n xs) (i : Int) (h0 : 0 ≤ i) (h1 : i < n) : ∃ ad , A = some ad ∧ w.cell? (ad.add (i.toNat * 2)) = some (.int .i64 (rd_T65 xs i).f0) ∧ w.cell? ⟨(ad.add (i.toNat * 2)).block, (ad.add (i.toNat * 2)).off + 1, none⟩ = some (.int .i64 (rd_T65 xs i).f1) := by
 obtain ⟨ad, c, e, _, hK, hc0⟩ := Kd.C_get h z65 i h0 h1
 have hc : ∀ j u, c[j]? = some u → w.cell? (ad.add (i.toNat * 2 + j)) = some u := hc0
 obtain rfl := k65_open hK
 exact ⟨ad, e, hc 0 _ rfl, by rw [← add_field _ _ 1 (by omega)]; exact hc 1 _ rfl⟩

theorem eqA65 (d : Nat) (w : World) (x0 y0 : Int) (x1 y1 : Int) :
  (Op.equalIn (d + 2) 65 (.agg #[.int .i64 x0, .int .i64 x1]) (.agg #[.int .i64 y0, .int .i64 y1])).run Try.prog w = .ok (x0 == y0 && (x1 == y1)) w := by
 have u3 := Try.underlying3
 have a3 := Try.isAgg3
 have z3 := Try.sizeOf3
 rw [show (d + 2 : Nat) = (d + 1) + 1 from rfl, Op.equalIn]
 simp only [Sem.run_bind, run_underlying Try.underlying65, Result.andThen_ok]
 simp only [Std.Legacy.Range.forIn_eq_forIn_range', Std.Legacy.Range.size, Nat.sub_zero, Nat.add_sub_cancel, Nat.div_one, List.range'_succ, List.range'_zero, List.forIn_cons, List.forIn_nil]
 go_simp
 by_cases h1 : x0 = y0 <;> by_cases h2 : x1 = y1 <;> simp [h1, h2]

def tickinglaw02_list.f (l0 : List Int) : Option (List Int) := some (l0.take 61)
set_option maxHeartbeats 8000000 in
set_option maxRecDepth 100000 in
theorem tickinglaw02_list.calls (A0 : Option Addr) (c0 : Nat) (l0 : List Int) (r : List Int) (w : World) (hr0 : Kd.C (Kd.int .i64) w A0 l0.length l0) (hc0 : l0.length ≤ c0) (h : tickinglaw02_list.f l0 = some r) :
  Calls Try.prog 18 #[.slice A0 l0.length c0] w fun e w' => ∃ v0_ : Value, e = .returned (v0_) ∧ Kd.R (Kd.int .i64) 3 w' w.heap.size (fun _ => True) v0_ r ∧ Below w.heap.size w w' := by
 have hr : l0.take 61 = r := Option.some.inj h
 clear h
 obtain ⟨ji, hji⟩ : ∃ ji : Int, (if 61 < (l0.length : Int) then 61 else (l0.length : Int)) = ji := ⟨_, rfl⟩
 have hj0 : 0 ≤ ji := by rw [← hji]; split <;> omega
 have hj1 : ji ≤ l0.length := by rw [← hji]; split <;> omega
 have hj2 : ji ≤ 61 := by rw [← hji]; split <;> omega
 have hjt : l0.take ji.toNat = r := by
  rw [← hr, ← hji]
  split
  ·rfl
  ·rw [List.take_of_length_le (by omega), List.take_of_length_le (by omega)]
 obtain ⟨i06, hi06, _, hsz6, _⟩ := info_parts info3
 obtain ⟨hcut, hA, hC⟩ := print_take_of (P := Try.prog) (Value.int .i64) 0 22 3 .i64 Try.underlying22 hi06 hsz6 A0 c0 l0 ji hj0 hj1 hc0
 have HR := Kd.C_of_reads (h1 := fun _ => rfl) (hA w (Kd.reads_of_C hr0))
 have hlen : (l0.take ji.toNat).length = ji.toNat := by rw [List.length_take]; omega
 rw [hjt] at HR hcut hlen
 obtain ⟨v1, w1, hrun, ho, hb, _, _⟩ := append_row (Kd.int .i64) (P := Try.prog) (w0 := w) (W := w) w.heap.size 22 22 3 (.int .i64 0) 8 Try.underlying22 info3 rfl (by decide) (by omega) (v := .slice none 0 0) (xs := ([] : List Int)) r A0 r.length c0 (ok := fun _ => True) (fun _ => False) HR (fun _ _ h => h) (fun _ h => h.elim) (fun _ _ => trivial) (Kd.R_nil _ _ _ _ _) (Below.refl _ _) (Nat.le_refl _) (by rw [hlen]; simp; omega)
 rw [List.nil_append] at ho
 have HO := Aside0.mk ho
 have HB := Aside0.mk hb
 have HRUN := Aside0.mk hrun
 have hcut' := hcut w
 clear ho hb hrun hcut hA hC HR hr hi06 hsz6
 rw [hlen] at hcut' HRUN
 clear hlen hjt
 go_enter Try.func18, Try.ntmps18
 go_wp2_with (at_builtin; go_must (refine wpList_appendRun _ rfl _ _ _ rfl HRUN.out rfl rfl rfl ?_))
 go_ret
 exact ⟨_, rfl, HO.out, HB.out⟩

def tickingref02_has.l0 : Nat → List Int → Int → Int → Option (Bool)
 | 0, _, _, _ => none
 | k + 1, x0, x1, x5 => if x5 < (x0.length : Int) then (if 0 ≤ x5 then (if (rd x0 x5) = x1 then (some true) else (tickingref02_has.l0 k x0 x1 (wrap64 (x5 + 1)))) else (none)) else (some false)
def tickingref02_has.f (k : Nat) (l0 : List Int) (a1 : Int) : Option (Bool) := tickingref02_has.l0 k l0 a1 0
set_option maxHeartbeats 8000000 in
set_option maxRecDepth 100000 in
theorem tickingref02_has.calls (k : Nat) (A0 : Option Addr) (c0 : Nat) (l0 : List Int) (a1 : Int) (r : Bool) (w : World) (hr0 : Kd.C (Kd.int .i64) w A0 l0.length l0) (hc0 : l0.length ≤ c0) (h : tickingref02_has.f k l0 a1 = some r) :
  Calls Try.prog 59 #[.slice A0 l0.length c0, .int .i64 a1] w fun e w' => e = .returned (.bool r) ∧ Drawn0 w w' := by
 have HR0 := Aside0.mk hr0
 have HC0 := Aside0.mk hc0
 clear hr0 hc0
 have H : (tickingref02_has.l0 k l0 a1 0) = some r := h
 clear h
 have H' := Aside0.mk H
 clear H
 go_enter Try.func59, Try.ntmps59
 go_wp2
 go_loopg [5] k (fun kq v5 w' => ∃ (x5_1 : Int), v5 = .int .i64 x5_1 ∧ Aside0 (tickingref02_has.l0 kq l0 a1 x5_1 = some r) ∧ Aside0 (kq ≤ k) ∧ Drawn0 w w')
 case atStart => exact ⟨(0), (by first | rfl | (simp; done) | (simp [*]; done)), H', ⟨Nat.le_refl _⟩, by repeat (first | exact Drawn0.refl _ | apply Drawn0.step)⟩
 case round =>
  clear H'
  try clear p2
  obtain ⟨x5_1, rfl, HA, HK1, ⟨m1, rfl⟩⟩ := hrel
  cases gk with
  | zero => exact absurd HA.out (by simp [tickingref02_has.l0])
  | succ k1 =>
   have H := HA.out
   clear HA
   simp only [tickingref02_has.l0] at H
   by_cases c3 : x5_1 < (l0.length : Int)
   ·rw [if_pos c3] at H
    have c3b0 : decide (x5_1 < (l0.length : Int)) = true := decide_eq_true c3
    clear c3
    by_cases c4 : 0 ≤ x5_1
    ·rw [if_pos c4] at H
     have c4b0 : decide (0 ≤ x5_1) = true := decide_eq_true c4
     clear c4
     by_cases c5 : (rd l0 x5_1) = a1
     ·rw [if_pos c5] at H
      have c5b0 : ((rd l0 x5_1) == a1) = true := beq_iff_eq.mpr c5
      have c5b1 : ((rd l0 x5_1) != a1) = false := bne_eq_false_iff_eq.mpr c5
      clear c5
      obtain rfl := Option.some.inj H
      have p117 : 0 ≤ (x5_1 : Int) := of_decide_eq_true (by first | (with_reducible assumption) | assumption)
      have q117 : x5_1 < (l0.length : Int) := of_decide_eq_true (by first | (with_reducible assumption) | assumption)
      obtain ⟨ad117, e117, hx117_0⟩ := Kd.at_int HR0.out x5_1 p117 q117
      cases e117
      replace p117 := eq_true p117
      replace q117 := eq_true q117
      go_wp2
      go_ret
      exact ⟨by first | rfl | (simp; done) | (simp [*]; done), by repeat (first | exact Drawn0.refl _ | apply Drawn0.step)⟩
     ·rw [if_neg c5] at H
      have c5b0 : ((rd l0 x5_1) == a1) = false := beq_eq_false_iff_ne.mpr c5
      have c5b1 : ((rd l0 x5_1) != a1) = true := bne_iff_ne.mpr c5
      have H' := Aside0.mk H
      clear H
      have p117 : 0 ≤ (x5_1 : Int) := of_decide_eq_true (by first | (with_reducible assumption) | assumption)
      have q117 : x5_1 < (l0.length : Int) := of_decide_eq_true (by first | (with_reducible assumption) | assumption)
      obtain ⟨ad117, e117, hx117_0⟩ := Kd.at_int HR0.out x5_1 p117 q117
      cases e117
      replace p117 := eq_true p117
      replace q117 := eq_true q117
      go_wp2
      go_roundg k1
      case measure => have := HK1.out; omega
      case rel => exact ⟨(wrap64 (x5_1 + 1)), (by first | rfl | (simp; done) | (simp [*]; done)), H', ⟨by have := HK1.out; omega⟩, by repeat (first | exact Drawn0.refl _ | apply Drawn0.step)⟩
    ·rw [if_neg c4] at H
     exact absurd H (by simp)
   ·rw [if_neg c3] at H
    have c3b0 : decide (x5_1 < (l0.length : Int)) = false := decide_eq_false c3
    clear c3
    obtain rfl := Option.some.inj H
    go_wp2
    go_ret
    exact ⟨by first | rfl | (simp; done) | (simp [*]; done), by repeat (first | exact Drawn0.refl _ | apply Drawn0.step)⟩

def tickingref02_Order.l0 : Nat → List Int → Int → Int → Option (Bool)
 | 0, _, _, _ => none
 | k + 1, x0, x1, x5 => if x5 < (x0.length : Int) then (if 0 ≤ x5 then (if (rd x0 x5) < 1 then (some false) else (if (rd x0 x5) > (x0.length : Int) then (some false) else (if x5 ≤ (x0.length : Int) then ((tickingref02_has.f k (x0.take (x5 : Int).toNat) (rd x0 x5)).bind fun t122 => (if t122 = true then (some false) else (tickingref02_Order.l0 k x0 x1 (wrap64 (x5 + 1))))) else (none)))) else (none)) else (some (decide ((x0.length : Int) ≤ x1)))
def tickingref02_Order.f (k : Nat) (l0 : List Int) (a1 : Int) : Option (Bool) := tickingref02_Order.l0 k l0 a1 0
set_option maxHeartbeats 8000000 in
set_option maxRecDepth 100000 in
theorem tickingref02_Order.calls (k : Nat) (A0 : Option Addr) (c0 : Nat) (l0 : List Int) (a1 : Int) (r : Bool) (w : World) (hr0 : Kd.C (Kd.int .i64) w A0 l0.length l0) (hc0 : l0.length ≤ c0) (h : tickingref02_Order.f k l0 a1 = some r) :
  Calls Try.prog 21 #[.slice A0 l0.length c0, .int .i64 a1] w fun e w' => e = .returned (.bool r) ∧ Drawn0 w w' := by
 have HR0 := Aside0.mk hr0
 have HC0 := Aside0.mk hc0
 clear hr0 hc0
 have H : (tickingref02_Order.l0 k l0 a1 0) = some r := h
 clear h
 have H' := Aside0.mk H
 clear H
 go_enter Try.func21, Try.ntmps21
 go_wp2
 repeat (go_quiet (fail); try go_wp2)
 go_loopg [5] k (fun kq v5 w' => ∃ (x5_1 : Int), v5 = .int .i64 x5_1 ∧ Aside0 (tickingref02_Order.l0 kq l0 a1 x5_1 = some r) ∧ Aside0 (kq ≤ k) ∧ Drawn0 w w')
 case atStart => exact ⟨(0), (by first | rfl | (simp; done) | (simp [*]; done)), H', ⟨Nat.le_refl _⟩, by repeat (first | exact Drawn0.refl _ | apply Drawn0.step)⟩
 case round =>
  clear H'
  try clear c2
  try clear p2
  obtain ⟨x5_1, rfl, HA, HK1, ⟨m1, rfl⟩⟩ := hrel
  cases gk with
  | zero => exact absurd HA.out (by simp [tickingref02_Order.l0])
  | succ k1 =>
   have H := HA.out
   clear HA
   simp only [tickingref02_Order.l0] at H
   by_cases c3 : x5_1 < (l0.length : Int)
   ·rw [if_pos c3] at H
    have c3b0 : decide (x5_1 < (l0.length : Int)) = true := decide_eq_true c3
    clear c3
    by_cases c4 : 0 ≤ x5_1
    ·rw [if_pos c4] at H
     have c4b0 : decide (0 ≤ x5_1) = true := decide_eq_true c4
     clear c4
     by_cases c5 : (rd l0 x5_1) < 1
     ·rw [if_pos c5] at H
      have c5b0 : decide ((rd l0 x5_1) < 1) = true := decide_eq_true c5
      clear c5
      obtain rfl := Option.some.inj H
      have p118 : 0 ≤ (x5_1 : Int) := of_decide_eq_true (by first | (with_reducible assumption) | assumption)
      have q118 : x5_1 < (l0.length : Int) := of_decide_eq_true (by first | (with_reducible assumption) | assumption)
      obtain ⟨ad118, e118, hx118_0⟩ := Kd.at_int HR0.out x5_1 p118 q118
      cases e118
      replace p118 := eq_true p118
      replace q118 := eq_true q118
      go_wp2
      repeat (go_quiet (fail); try go_wp2)
      go_ret
      exact ⟨by first | rfl | (simp; done) | (simp [*]; done), by repeat (first | exact Drawn0.refl _ | apply Drawn0.step)⟩
     ·rw [if_neg c5] at H
      have c5b0 : decide ((rd l0 x5_1) < 1) = false := decide_eq_false c5
      clear c5
      by_cases c6 : (rd l0 x5_1) > (l0.length : Int)
      ·rw [if_pos c6] at H
       have c6b0 : decide ((l0.length : Int) < (rd l0 x5_1)) = true := decide_eq_true c6
       clear c6
       obtain rfl := Option.some.inj H
       have p118 : 0 ≤ (x5_1 : Int) := of_decide_eq_true (by first | (with_reducible assumption) | assumption)
       have q118 : x5_1 < (l0.length : Int) := of_decide_eq_true (by first | (with_reducible assumption) | assumption)
       obtain ⟨ad118, e118, hx118_0⟩ := Kd.at_int HR0.out x5_1 p118 q118
       cases e118
       replace p118 := eq_true p118
       replace q118 := eq_true q118
       have p119 : 0 ≤ (x5_1 : Int) := of_decide_eq_true (by first | (with_reducible assumption) | assumption)
       have q119 : x5_1 < (l0.length : Int) := of_decide_eq_true (by first | (with_reducible assumption) | assumption)
       obtain ⟨ad119, e119, hx119_0⟩ := Kd.at_int HR0.out x5_1 p119 q119
       obtain rfl : ad118 = ad119 := (by injection e119)
       replace p119 := eq_true p119
       replace q119 := eq_true q119
       go_wp2
       repeat (go_quiet (fail); try go_wp2)
       go_ret
       exact ⟨by first | rfl | (simp; done) | (simp [*]; done), by repeat (first | exact Drawn0.refl _ | apply Drawn0.step)⟩
      ·rw [if_neg c6] at H
       have c6b0 : decide ((l0.length : Int) < (rd l0 x5_1)) = false := decide_eq_false c6
       clear c6
       have c7b0 := eq_true (of_decide_eq_true (by first | (with_reducible assumption) | assumption) : 0 ≤ x5_1)
       by_cases c8 : x5_1 ≤ (l0.length : Int)
       ·rw [if_pos c8] at H
        have c8b0 := eq_true c8
        have c8b1 : decide (x5_1 ≤ (l0.length : Int)) = true := decide_eq_true c8
        clear c8
        replace H := Option.bind_eq_some_iff.mp H
        obtain ⟨t122, A90, H⟩ := H
        replace H : (if t122 = true then (some false) else (tickingref02_Order.l0 k1 l0 a1 (wrap64 (x5_1 + 1)))) = some r := H
        have A9 := Aside0.mk A90
        clear A90
        by_cases c10 : t122 = true
        ·subst c10
         have H1 : (some false) = some r := by rw [if_pos rfl] at H; exact H
         clear H
         have H := H1
         clear H1
         obtain rfl := Option.some.inj H
         have p118 : 0 ≤ (x5_1 : Int) := of_decide_eq_true (by first | (with_reducible assumption) | assumption)
         have q118 : x5_1 < (l0.length : Int) := of_decide_eq_true (by first | (with_reducible assumption) | assumption)
         obtain ⟨ad118, e118, hx118_0⟩ := Kd.at_int HR0.out x5_1 p118 q118
         cases e118
         replace p118 := eq_true p118
         replace q118 := eq_true q118
         have p119 : 0 ≤ (x5_1 : Int) := of_decide_eq_true (by first | (with_reducible assumption) | assumption)
         have q119 : x5_1 < (l0.length : Int) := of_decide_eq_true (by first | (with_reducible assumption) | assumption)
         obtain ⟨ad119, e119, hx119_0⟩ := Kd.at_int HR0.out x5_1 p119 q119
         obtain rfl : ad118 = ad119 := (by injection e119)
         replace p119 := eq_true p119
         replace q119 := eq_true q119
         obtain ⟨i011, hi011, _, hsz11, _⟩ := info_parts info3
         obtain ⟨hcut11, hA11, hC11⟩ := print_take_of (P := Try.prog) (Value.int .i64) 0 22 3 .i64 Try.underlying22 hi011 hsz11 (some ad118) c0 l0 x5_1 (of_decide_eq_true (by first | (with_reducible assumption) | assumption)) (of_decide_eq_true (by first | (with_reducible assumption) | assumption)) HC0.out
         have HR120 := Aside0.mk (Kd.C_of_reads (h1 := fun _ => rfl) (hA11 _ (Kd.reads_of_C HR0.out)))
         have HC120 := Aside0.mk hC11
         clear hA11 hC11 hi011 hsz11
         obtain ⟨tk11, htk11⟩ : ∃ tk_ : List Int, (l0.take (x5_1 : Int).toNat) = tk_ := ⟨_, rfl⟩
         simp only [htk11] at *
         have Htk11 := Aside0.mk htk11
         clear htk11
         have p121 : 0 ≤ (x5_1 : Int) := of_decide_eq_true (by first | (with_reducible assumption) | assumption)
         have q121 : x5_1 < (l0.length : Int) := of_decide_eq_true (by first | (with_reducible assumption) | assumption)
         obtain ⟨ad121, e121, hx121_0⟩ := Kd.at_int HR0.out x5_1 p121 q121
         obtain rfl : ad118 = ad121 := (by injection e121)
         replace p121 := eq_true p121
         replace q121 := eq_true q121
         go_wp2_with (first | (go_at_call 59; (with_reducible refine (tickingref02_has.calls k1 _ _ tk11 (rd l0 x5_1) true _ ?side1 ?side2 A9.out).mono ?_); (case side1 => repeat (first | exact HR120.out | (with_reducible refine Kd.C_alloc ?_ _) | (with_reducible refine Kd.C_drewN ?_ _) | (with_reducible refine Kd.C_drew ?_))); (case side2 => exact HC120.out); rintro e w' ⟨rfl, ⟨nd, rfl⟩⟩; (try first | exact ⟨rfl, _, World.drewN_drewN _ _ _⟩ | exact ⟨rfl, _, Eq.trans (World.drewN_drewN _ _ _) (congrArg (World.drewN _) (Nat.add_assoc _ _ _))⟩)))
         repeat (go_quiet (first | (go_at_call 59; (with_reducible refine (tickingref02_has.calls k1 _ _ tk11 (rd l0 x5_1) true _ ?side1 ?side2 A9.out).mono ?_); (case side1 => repeat (first | exact HR120.out | (with_reducible refine Kd.C_alloc ?_ _) | (with_reducible refine Kd.C_drewN ?_ _) | (with_reducible refine Kd.C_drew ?_))); (case side2 => exact HC120.out); rintro e w' ⟨rfl, ⟨nd, rfl⟩⟩; (try first | exact ⟨rfl, _, World.drewN_drewN _ _ _⟩ | exact ⟨rfl, _, Eq.trans (World.drewN_drewN _ _ _) (congrArg (World.drewN _) (Nat.add_assoc _ _ _))⟩))); try go_wp2_with (first | (go_at_call 59; (with_reducible refine (tickingref02_has.calls k1 _ _ tk11 (rd l0 x5_1) true _ ?side1 ?side2 A9.out).mono ?_); (case side1 => repeat (first | exact HR120.out | (with_reducible refine Kd.C_alloc ?_ _) | (with_reducible refine Kd.C_drewN ?_ _) | (with_reducible refine Kd.C_drew ?_))); (case side2 => exact HC120.out); rintro e w' ⟨rfl, ⟨nd, rfl⟩⟩; (try first | exact ⟨rfl, _, World.drewN_drewN _ _ _⟩ | exact ⟨rfl, _, Eq.trans (World.drewN_drewN _ _ _) (congrArg (World.drewN _) (Nat.add_assoc _ _ _))⟩))))
         go_ret
         exact ⟨by first | rfl | (simp; done) | (simp [*]; done), by repeat (first | exact Drawn0.refl _ | apply Drawn0.step)⟩
        ·replace c10 := Bool.eq_false_iff.mpr c10
         subst c10
         have H1 : (tickingref02_Order.l0 k1 l0 a1 (wrap64 (x5_1 + 1))) = some r := by rw [if_neg (show ¬ (false = true) by decide)] at H; exact H
         clear H
         have H := H1
         clear H1
         have H' := Aside0.mk H
         clear H
         have p118 : 0 ≤ (x5_1 : Int) := of_decide_eq_true (by first | (with_reducible assumption) | assumption)
         have q118 : x5_1 < (l0.length : Int) := of_decide_eq_true (by first | (with_reducible assumption) | assumption)
         obtain ⟨ad118, e118, hx118_0⟩ := Kd.at_int HR0.out x5_1 p118 q118
         cases e118
         replace p118 := eq_true p118
         replace q118 := eq_true q118
         have p119 : 0 ≤ (x5_1 : Int) := of_decide_eq_true (by first | (with_reducible assumption) | assumption)
         have q119 : x5_1 < (l0.length : Int) := of_decide_eq_true (by first | (with_reducible assumption) | assumption)
         obtain ⟨ad119, e119, hx119_0⟩ := Kd.at_int HR0.out x5_1 p119 q119
         obtain rfl : ad118 = ad119 := (by injection e119)
         replace p119 := eq_true p119
         replace q119 := eq_true q119
         obtain ⟨i012, hi012, _, hsz12, _⟩ := info_parts info3
         obtain ⟨hcut12, hA12, hC12⟩ := print_take_of (P := Try.prog) (Value.int .i64) 0 22 3 .i64 Try.underlying22 hi012 hsz12 (some ad118) c0 l0 x5_1 (of_decide_eq_true (by first | (with_reducible assumption) | assumption)) (of_decide_eq_true (by first | (with_reducible assumption) | assumption)) HC0.out
         have HR120 := Aside0.mk (Kd.C_of_reads (h1 := fun _ => rfl) (hA12 _ (Kd.reads_of_C HR0.out)))
         have HC120 := Aside0.mk hC12
         clear hA12 hC12 hi012 hsz12
         obtain ⟨tk12, htk12⟩ : ∃ tk_ : List Int, (l0.take (x5_1 : Int).toNat) = tk_ := ⟨_, rfl⟩
         simp only [htk12] at *
         have Htk12 := Aside0.mk htk12
         clear htk12
         have p121 : 0 ≤ (x5_1 : Int) := of_decide_eq_true (by first | (with_reducible assumption) | assumption)
         have q121 : x5_1 < (l0.length : Int) := of_decide_eq_true (by first | (with_reducible assumption) | assumption)
         obtain ⟨ad121, e121, hx121_0⟩ := Kd.at_int HR0.out x5_1 p121 q121
         obtain rfl : ad118 = ad121 := (by injection e121)
         replace p121 := eq_true p121
         replace q121 := eq_true q121
         go_wp2_with (first | (go_at_call 59; (with_reducible refine (tickingref02_has.calls k1 _ _ tk12 (rd l0 x5_1) false _ ?side1 ?side2 A9.out).mono ?_); (case side1 => repeat (first | exact HR120.out | (with_reducible refine Kd.C_alloc ?_ _) | (with_reducible refine Kd.C_drewN ?_ _) | (with_reducible refine Kd.C_drew ?_))); (case side2 => exact HC120.out); rintro e w' ⟨rfl, ⟨nd, rfl⟩⟩; (try first | exact ⟨rfl, _, World.drewN_drewN _ _ _⟩ | exact ⟨rfl, _, Eq.trans (World.drewN_drewN _ _ _) (congrArg (World.drewN _) (Nat.add_assoc _ _ _))⟩)))
         repeat (go_quiet (first | (go_at_call 59; (with_reducible refine (tickingref02_has.calls k1 _ _ tk12 (rd l0 x5_1) false _ ?side1 ?side2 A9.out).mono ?_); (case side1 => repeat (first | exact HR120.out | (with_reducible refine Kd.C_alloc ?_ _) | (with_reducible refine Kd.C_drewN ?_ _) | (with_reducible refine Kd.C_drew ?_))); (case side2 => exact HC120.out); rintro e w' ⟨rfl, ⟨nd, rfl⟩⟩; (try first | exact ⟨rfl, _, World.drewN_drewN _ _ _⟩ | exact ⟨rfl, _, Eq.trans (World.drewN_drewN _ _ _) (congrArg (World.drewN _) (Nat.add_assoc _ _ _))⟩))); try go_wp2_with (first | (go_at_call 59; (with_reducible refine (tickingref02_has.calls k1 _ _ tk12 (rd l0 x5_1) false _ ?side1 ?side2 A9.out).mono ?_); (case side1 => repeat (first | exact HR120.out | (with_reducible refine Kd.C_alloc ?_ _) | (with_reducible refine Kd.C_drewN ?_ _) | (with_reducible refine Kd.C_drew ?_))); (case side2 => exact HC120.out); rintro e w' ⟨rfl, ⟨nd, rfl⟩⟩; (try first | exact ⟨rfl, _, World.drewN_drewN _ _ _⟩ | exact ⟨rfl, _, Eq.trans (World.drewN_drewN _ _ _) (congrArg (World.drewN _) (Nat.add_assoc _ _ _))⟩))))
         go_roundg k1
         case measure => have := HK1.out; omega
         case rel => exact ⟨(wrap64 (x5_1 + 1)), (by first | rfl | (simp; done) | (simp [*]; done)), H', ⟨by have := HK1.out; omega⟩, by repeat (first | exact Drawn0.refl _ | apply Drawn0.step)⟩
       ·rw [if_neg c8] at H
        exact absurd H (by simp)
    ·rw [if_neg c4] at H
     exact absurd H (by simp)
   ·rw [if_neg c3] at H
    have c3b0 : decide (x5_1 < (l0.length : Int)) = false := decide_eq_false c3
    clear c3
    obtain rfl := Option.some.inj H
    go_wp2
    repeat (go_quiet (fail); try go_wp2)
    go_ret
    exact ⟨by first | rfl | (simp; done) | (simp [*]; done), by repeat (first | exact Drawn0.refl _ | apply Drawn0.step)⟩

def shunt_within.f (a0 : Int) (a1 : Int) (a2 : Int) : Option (Bool) := if a0 ≥ a1 then (some (decide (a0 ≤ a2))) else (some false)
set_option maxHeartbeats 8000000 in
set_option maxRecDepth 100000 in
theorem shunt_within.calls (a0 : Int) (a1 : Int) (a2 : Int) (r : Bool) (w : World) (h : shunt_within.f a0 a1 a2 = some r) :
  Calls Try.prog 64 #[.int .i64 a0, .int .i64 a1, .int .i64 a2] w fun e w' => e = .returned (.bool r) ∧ Drawn0 w w' := by
 have H : (if a0 ≥ a1 then (some (decide (a0 ≤ a2))) else (some false)) = some r := h
 clear h
 by_cases c4 : a0 ≥ a1
 ·rw [if_pos c4] at H
  have c4b0 : decide (a1 ≤ a0) = true := decide_eq_true c4
  clear c4
  obtain rfl := Option.some.inj H
  go_enter Try.func64, Try.ntmps64
  go_wp2
  go_ret
  exact ⟨by first | rfl | (simp; done) | (simp [*]; done), by repeat (first | exact Drawn0.refl _ | apply Drawn0.step)⟩
 ·rw [if_neg c4] at H
  have c4b0 : decide (a1 ≤ a0) = false := decide_eq_false c4
  clear c4
  obtain rfl := Option.some.inj H
  go_enter Try.func64, Try.ntmps64
  go_wp2
  go_ret
  exact ⟨by first | rfl | (simp; done) | (simp [*]; done), by repeat (first | exact Drawn0.refl _ | apply Drawn0.step)⟩

def shunt_isOrder.f (l0 : List Int) : Option Bool := some (isOrderB l0)
def setM (seen : List Int) : Int → Option Value := fun x => if x ∈ seen then some (.bool true) else none
theorem isOrder_zero (w : World) : (zeroValue 4).run Try.prog w = .ok (.bool false) w := by kernel_rfl
set_option maxHeartbeats 800000 in
set_option maxRecDepth 100000 in
theorem shunt_isOrder.calls (A0 : Option Addr) (c0 : Nat) (l0 : List Int) (r : Bool) (w : World) (hr0 : Kd.C (Kd.int .i64) w A0 l0.length l0) (hc0 : l0.length ≤ c0) (h : shunt_isOrder.f l0 = some r) :
  Calls Try.prog 52 #[.slice A0 l0.length c0] w fun e w' => e = .returned (.bool r) ∧ Below w.heap.size w w' := by
 have HR0 := Aside0.mk hr0
 have HC0 := Aside0.mk hc0
 clear hr0 hc0
 have H := Option.some.inj h
 clear h
 unfold isOrderB at H
 by_cases c1 : (l0.length : Int) > 60
 ·have c1b0 : decide (60 < (l0.length : Int)) = true := decide_eq_true c1
  have c1b1 : decide (60 < l0.length) = true := decide_eq_true (by omega)
  have hr : r = false := by rw [← H, decide_eq_false (by omega)]; rfl
  subst hr
  clear c1 H
  go_enter Try.func52, Try.ntmps52
  go_wp2
  go_ret
  exact ⟨rfl, by exact Below.refl _ _⟩
 ·have c1b0 : decide (60 < (l0.length : Int)) = false := decide_eq_false (by omega)
  have c1b1 : decide (60 < l0.length) = false := decide_eq_false (by omega)
  have HL := Aside0.mk (show l0.length ≤ 60 by omega)
  rw [decide_eq_true (by omega), Bool.true_and] at H
  have H' := Aside0.mk H
  clear H c1
  have hmm := @run_makeMap Try.prog
  go_enter Try.func52, Try.ntmps52
  go_wp2
  go_loopw [12] (fun v wr => ∃ (x : Int) (seen : List Int), v = .int .i64 x ∧ Aside0 (0 ≤ x ∧ x ≤ l0.length ∧ x = seen.length) ∧ Aside0 (isOrderGo l0.length (l0.drop x.toNat) seen = r) ∧ Aside0 (MapAt wr Try.prog 3 w.heap.size seen.length (encI (setM seen))) ∧ Aside0 (Below w.heap.size w wr)) (fun v _ => l0.length - (intOf v).toNat)
  case atStart => exact ⟨0, [], rfl, ⟨by simp⟩, H', ⟨(MapAt.made _ _ _).congr (fun kv kl _ => by unfold encI setM; split <;> simp)⟩, ⟨by repeat (first | (with_reducible first | exact HB.out | apply below_alloc | apply pw_below_drewN | apply below_drew1) | exact Below.refl _ _)⟩⟩
  case round =>
   clear H'
   obtain ⟨x, seen, rfl, HX, HA, HM, HB⟩ := hrel
   obtain ⟨p0, q0, e0⟩ := HX.out
   have hl60 := HL.out
   have hx60 : x ≤ 60 := by omega
   by_cases c2 : x < (l0.length : Int)
   ·have c2b0 : decide (x < (l0.length : Int)) = true := decide_eq_true c2
    have c2b1 : decide (0 ≤ x) = true := decide_eq_true p0
    have HA1 : isOrderGo l0.length (rd l0 x :: l0.drop (x + 1).toNat) seen = r := by
     rw [← HA.out, show (x + 1).toNat = x.toNat + 1 by omega]
     unfold rd
     rw [List.getD_eq_getElem?_getD, List.getElem?_eq_getElem (show x.toNat < l0.length by omega), Option.getD_some, ← List.drop_eq_getElem_cons]
    obtain ⟨ad, ea, hx⟩ := Kd.at_int (Kd.C_below HR0.out HB.out) x p0 c2
    cases ea
    have p1 := eq_true p0
    have q1 := eq_true c2
    unfold isOrderGo at HA1
    by_cases c3 : 1 ≤ rd l0 x ∧ rd l0 x ≤ l0.length
    ·have hin : shunt_within.f (rd l0 x) 1 (l0.length : Int) = some true := by
      unfold shunt_within.f; rw [if_pos c3.1, decide_eq_true c3.2]
     have hkey : keyOf Try.prog 3 (.int .i64 (rd l0 x)) = some (.int .i64 (rd l0 x)) := Maps.keyOf_int_mk Try.underlying3 (wfI (by omega) (by omega))
     by_cases c4 : rd l0 x ∈ seen
     ·have hr : r = false := by rw [← HA1, if_neg (fun h => h.2.2 c4)]
      subst hr
      have hlk : ∀ n, (Instr.lookup 92 (.map (some w.heap.size)) (.int .i64 (rd l0 x)) false).run Try.prog (wr.drewN n) = .ok (.bool true) (wr.drewN n) := fun n => by
       rw [(HM.out.drewN n).look (Maps.int_keyed Try.underlying3) Try.underlying92 (isOrder_zero _) hkey]
       simp [encI, setM, c4]
      clear HA1 c3 hkey e0 p0 c2
      go_wp2_with (go_at_call 64; go_must ((with_reducible refine (shunt_within.calls (rd l0 x) 1 (l0.length : Int) true _ hin).mono ?_); rintro e w' ⟨rfl, ⟨nd, rfl⟩⟩))
      go_ret
      exact ⟨rfl, by repeat (first | (with_reducible first | exact HB.out | apply below_alloc | apply pw_below_drewN | apply below_drew1) | exact HB.out)⟩
     ·rw [if_pos ⟨c3.1, c3.2, c4⟩] at HA1
      have H1 := Aside0.mk HA1
      have hlk : ∀ n, (Instr.lookup 92 (.map (some w.heap.size)) (.int .i64 (rd l0 x)) false).run Try.prog (wr.drewN n) = .ok (.bool false) (wr.drewN n) := fun n => by
       rw [(HM.out.drewN n).look (Maps.int_keyed Try.underlying3) Try.underlying92 (isOrder_zero _) hkey]
       simp [encI, setM, c4]
      have HF1 := Aside0.mk (show encI (setM (rd l0 x :: seen)) (.int .i64 (rd l0 x)) = some (.bool true) by simp [encI, setM])
      have HF2 := Aside0.mk (show ∀ v, v ≠ .int .i64 (rd l0 x) → encI (setM (rd l0 x :: seen)) v = encI (setM seen) v by
       intro v hv
       unfold encI
       split
       ·rename_i y
        have : y ≠ rd l0 x := fun e => hv (by rw [e])
        simp [setM, this]
       ·rfl)
      have hnone : (encI (setM seen) (.int .i64 (rd l0 x))).isSome = false := by simp [encI, setM, c4]
      have HN := Aside0.mk hnone
      have HKY := Aside0.mk hkey
      have HS60 := Aside0.mk (show seen.length < maxLen by unfold maxLen; omega)
      have HE0 := Aside0.mk e0
      clear HA1 hkey hnone e0 c3 c2
      go_wp2_with (first | (go_at_call 64; go_must ((with_reducible refine (shunt_within.calls (rd l0 x) 1 (l0.length : Int) true _ hin).mono ?_); rintro e w' ⟨rfl, ⟨nd, rfl⟩⟩)) | (at_mapUpdate; go_must (refine wpList_mapStore _ rfl _ _ _ 92 rfl (Maps.int_keyed Try.underlying3) Try.underlying92 rfl (HM.out.drewN _) HS60.out (.int .i64 (rd l0 x)) (.bool true) rfl rfl HKY.out (encI (setM (rd l0 x :: seen))) HF1.out HF2.out ?_; intro w1 hma hgr; rw [HN.out] at hma; have HM1 := Aside0.mk hma; have HB1 := Aside0.mk (Below.grown (pw_below_drewN HB.out _) hgr HB.out.size (fun k hk => by injection hk with hk; omega)); clear hma hgr)))
      go_roundw
      case rel => exact ⟨x + 1, rd l0 x :: seen, by go_num, ⟨by have := HE0.out; have := of_eq_true p1; have := of_eq_true q1; simp; omega⟩, H1, HM1, HB1⟩
      case measure => have := of_eq_true p1; have := of_eq_true q1; simp [intOf]; omega
    ·have hr : r = false := by rw [← HA1, if_neg (fun h => c3 ⟨h.1, h.2.1⟩)]
     subst hr
     have hin : shunt_within.f (rd l0 x) 1 (l0.length : Int) = some false := by
      unfold shunt_within.f
      split
      ·rw [decide_eq_false (by omega)]
      ·rfl
     clear HA1 c3 e0 p0 c2
     go_wp2_with (go_at_call 64; go_must ((with_reducible refine (shunt_within.calls (rd l0 x) 1 (l0.length : Int) false _ hin).mono ?_); rintro e w' ⟨rfl, ⟨nd, rfl⟩⟩))
     go_ret
     exact ⟨rfl, by repeat (first | (with_reducible first | exact HB.out | apply below_alloc | apply pw_below_drewN | apply below_drew1) | exact HB.out)⟩
   ·have c2b0 : decide (x < (l0.length : Int)) = false := decide_eq_false c2
    have hr : r = true := by rw [← HA.out, List.drop_eq_nil_of_le (by omega)]; rfl
    subst hr
    go_wp2
    go_ret
    exact ⟨rfl, HB.out⟩

def shunt_blocking.l0 : Nat → List Int → Int → Int → Option (Int)
 | 0, _, _, _ => none
 | k + 1, x0, x1, x7 => if x7 < (x0.length : Int) then (if 0 ≤ x7 then (if 0 ≤ x1 then (if x1 < (x0.length : Int) then (if (rd x0 x7) < (rd x0 x1) then (some x7) else (shunt_blocking.l0 k x0 x1 (wrap64 (x7 + 1)))) else (none)) else (none)) else (none)) else (some 0)
def shunt_blocking.f (k : Nat) (l0 : List Int) (a1 : Int) (a2 : Int) : Option (Int) := if 0 ≤ a1 then (if a1 < (l0.length : Int) then (if 0 ≤ a2 then (if a2 < (l0.length : Int) then (if (rd l0 a1) > (rd l0 a2) then (some 0) else (shunt_blocking.l0 k l0 a1 (wrap64 (a2 + 1)))) else (none)) else (none)) else (none)) else (none)
theorem shunt_blocking.mono_l : ∀ k, (∀ y0 y1 y2, LeO (shunt_blocking.l0 k y0 y1 y2) (shunt_blocking.l0 (k + 1) y0 y1 y2))
 | 0 => fun _ _ _ r h => by simp [shunt_blocking.l0] at h
 | k + 1 => by
  have ih0 := shunt_blocking.mono_l k
  ·intro y0 y1 y2
   unfold shunt_blocking.l0
   repeat' first
   | (with_reducible exact ih0 _ _ _)
   | (with_reducible exact LeO.refl _)
   | (with_reducible exact LeO.none _)
   | (with_reducible refine LeO.ite ?_ ?_)
   | (with_reducible refine LeO.bind ?_ (fun _ => ?_))
   | exact ih0 _ _ _
   | exact LeO.none _
   | refine LeO.ite ?_ ?_
   | refine LeO.bind ?_ (fun _ => ?_)
theorem shunt_blocking.mono : ∀ a0 a1 a2 k, LeO (shunt_blocking.f k a0 a1 a2) (shunt_blocking.f (k + 1) a0 a1 a2) := by
 intro a0 a1 a2 k
 have ih0 := shunt_blocking.mono_l k
 unfold shunt_blocking.f
 repeat' first
   | (with_reducible exact ih0 _ _ _)
   | (with_reducible exact LeO.refl _)
   | (with_reducible exact LeO.none _)
   | (with_reducible refine LeO.ite ?_ ?_)
   | (with_reducible refine LeO.bind ?_ (fun _ => ?_))
   | exact ih0 _ _ _
   | exact LeO.none _
   | refine LeO.ite ?_ ?_
   | refine LeO.bind ?_ (fun _ => ?_)
set_option maxHeartbeats 8000000 in
set_option maxRecDepth 100000 in
theorem shunt_blocking.calls (k : Nat) (A0 : Option Addr) (c0 : Nat) (l0 : List Int) (a1 : Int) (a2 : Int) (r : Int) (w : World) (hr0 : Kd.C (Kd.int .i64) w A0 l0.length l0) (hc0 : l0.length ≤ c0) (h : shunt_blocking.f k l0 a1 a2 = some r) :
  Calls Try.prog 72 #[.slice A0 l0.length c0, .int .i64 a1, .int .i64 a2] w fun e w' => e = .returned (.int .i64 r) ∧ Drawn0 w w' := by
 have HR0 := Aside0.mk hr0
 have HC0 := Aside0.mk hc0
 clear hr0 hc0
 have H : (if 0 ≤ a1 then (if a1 < (l0.length : Int) then (if 0 ≤ a2 then (if a2 < (l0.length : Int) then (if (rd l0 a1) > (rd l0 a2) then (some 0) else (shunt_blocking.l0 k l0 a1 (wrap64 (a2 + 1)))) else (none)) else (none)) else (none)) else (none)) = some r := h
 clear h
 by_cases c4 : 0 ≤ a1
 ·rw [if_pos c4] at H
  have c4b0 : decide (0 ≤ a1) = true := decide_eq_true c4
  clear c4
  by_cases c5 : a1 < (l0.length : Int)
  ·rw [if_pos c5] at H
   have c5b0 : decide (a1 < (l0.length : Int)) = true := decide_eq_true c5
   clear c5
   by_cases c6 : 0 ≤ a2
   ·rw [if_pos c6] at H
    have c6b0 : decide (0 ≤ a2) = true := decide_eq_true c6
    clear c6
    by_cases c7 : a2 < (l0.length : Int)
    ·rw [if_pos c7] at H
     have c7b0 : decide (a2 < (l0.length : Int)) = true := decide_eq_true c7
     clear c7
     by_cases c8 : (rd l0 a1) > (rd l0 a2)
     ·rw [if_pos c8] at H
      have c8b0 : decide ((rd l0 a2) < (rd l0 a1)) = true := decide_eq_true c8
      clear c8
      obtain rfl := Option.some.inj H
      have p101 : 0 ≤ (a1 : Int) := of_decide_eq_true (by first | (with_reducible assumption) | assumption)
      have q101 : a1 < (l0.length : Int) := of_decide_eq_true (by first | (with_reducible assumption) | assumption)
      obtain ⟨ad101, e101, hx101_0⟩ := Kd.at_int HR0.out a1 p101 q101
      cases e101
      replace p101 := eq_true p101
      replace q101 := eq_true q101
      have p102 : 0 ≤ (a2 : Int) := of_decide_eq_true (by first | (with_reducible assumption) | assumption)
      have q102 : a2 < (l0.length : Int) := of_decide_eq_true (by first | (with_reducible assumption) | assumption)
      obtain ⟨ad102, e102, hx102_0⟩ := Kd.at_int HR0.out a2 p102 q102
      obtain rfl : ad101 = ad102 := (by injection e102)
      replace p102 := eq_true p102
      replace q102 := eq_true q102
      go_enter Try.func72, Try.ntmps72
      go_wp2
      repeat (go_quiet (fail); try go_wp2)
      go_ret
      exact ⟨by first | rfl | (simp; done) | (simp [*]; done), by repeat (first | exact Drawn0.refl _ | apply Drawn0.step)⟩
     ·rw [if_neg c8] at H
      have c8b0 : decide ((rd l0 a2) < (rd l0 a1)) = false := decide_eq_false c8
      clear c8
      have H' := Aside0.mk H
      clear H
      have p101 : 0 ≤ (a1 : Int) := of_decide_eq_true (by first | (with_reducible assumption) | assumption)
      have q101 : a1 < (l0.length : Int) := of_decide_eq_true (by first | (with_reducible assumption) | assumption)
      obtain ⟨ad101, e101, hx101_0⟩ := Kd.at_int HR0.out a1 p101 q101
      cases e101
      replace p101 := eq_true p101
      replace q101 := eq_true q101
      have p102 : 0 ≤ (a2 : Int) := of_decide_eq_true (by first | (with_reducible assumption) | assumption)
      have q102 : a2 < (l0.length : Int) := of_decide_eq_true (by first | (with_reducible assumption) | assumption)
      obtain ⟨ad102, e102, hx102_0⟩ := Kd.at_int HR0.out a2 p102 q102
      obtain rfl : ad101 = ad102 := (by injection e102)
      replace p102 := eq_true p102
      replace q102 := eq_true q102
      go_enter Try.func72, Try.ntmps72
      go_wp2
      repeat (go_quiet (fail); try go_wp2)
      go_loopg [7] k (fun kq v7 w' => ∃ (x7_1 : Int), v7 = .int .i64 x7_1 ∧ Aside0 (shunt_blocking.l0 kq l0 a1 x7_1 = some r) ∧ Aside0 (kq ≤ k) ∧ Drawn0 w w')
      case atStart => exact ⟨(wrap64 (a2 + 1)), (by first | rfl | (simp; done) | (simp [*]; done)), H', ⟨Nat.le_refl _⟩, by repeat (first | exact Drawn0.refl _ | apply Drawn0.step)⟩
      case round =>
       clear H'
       try clear p1
       try clear q1
       try clear hx1
       try clear p2
       try clear c4
       try clear c4b0
       try clear c5
       try clear c5b0
       try clear c6
       try clear c6b0
       try clear p6
       try clear c7
       try clear c7b0
       try clear c8
       try clear c8b0
       try clear hx101_0
       try clear hx102_0
       try clear p101
       try clear p102
       try clear q101
       try clear q102
       obtain ⟨x7_1, rfl, HA, HK1, ⟨m1, rfl⟩⟩ := hrel
       cases gk with
       | zero => exact absurd HA.out (by simp [shunt_blocking.l0])
       | succ k1 =>
        have H := HA.out
        clear HA
        simp only [shunt_blocking.l0] at H
        by_cases c9 : x7_1 < (l0.length : Int)
        ·rw [if_pos c9] at H
         have c9b0 : decide (x7_1 < (l0.length : Int)) = true := decide_eq_true c9
         clear c9
         by_cases c10 : 0 ≤ x7_1
         ·rw [if_pos c10] at H
          have c10b0 : decide (0 ≤ x7_1) = true := decide_eq_true c10
          clear c10
          by_cases c11 : 0 ≤ a1
          ·rw [if_pos c11] at H
           have c11b0 : decide (0 ≤ a1) = true := decide_eq_true c11
           clear c11
           by_cases c12 : a1 < (l0.length : Int)
           ·rw [if_pos c12] at H
            have c12b0 : decide (a1 < (l0.length : Int)) = true := decide_eq_true c12
            clear c12
            by_cases c13 : (rd l0 x7_1) < (rd l0 a1)
            ·rw [if_pos c13] at H
             have c13b0 : decide ((rd l0 x7_1) < (rd l0 a1)) = true := decide_eq_true c13
             clear c13
             obtain rfl := Option.some.inj H
             have p103 : 0 ≤ (x7_1 : Int) := of_decide_eq_true (by first | (with_reducible assumption) | assumption)
             have q103 : x7_1 < (l0.length : Int) := of_decide_eq_true (by first | (with_reducible assumption) | assumption)
             obtain ⟨ad103, e103, hx103_0⟩ := Kd.at_int HR0.out x7_1 p103 q103
             obtain rfl : ad101 = ad103 := (by injection e103)
             replace p103 := eq_true p103
             replace q103 := eq_true q103
             have p104 : 0 ≤ (a1 : Int) := of_decide_eq_true (by first | (with_reducible assumption) | assumption)
             have q104 : a1 < (l0.length : Int) := of_decide_eq_true (by first | (with_reducible assumption) | assumption)
             obtain ⟨ad104, e104, hx104_0⟩ := Kd.at_int HR0.out a1 p104 q104
             obtain rfl : ad101 = ad104 := (by injection e104)
             replace p104 := eq_true p104
             replace q104 := eq_true q104
             go_wp2
             repeat (go_quiet (fail); try go_wp2)
             go_ret
             exact ⟨by first | rfl | (simp; done) | (simp [*]; done), by repeat (first | exact Drawn0.refl _ | apply Drawn0.step)⟩
            ·rw [if_neg c13] at H
             have c13b0 : decide ((rd l0 x7_1) < (rd l0 a1)) = false := decide_eq_false c13
             clear c13
             have H' := Aside0.mk H
             clear H
             have p103 : 0 ≤ (x7_1 : Int) := of_decide_eq_true (by first | (with_reducible assumption) | assumption)
             have q103 : x7_1 < (l0.length : Int) := of_decide_eq_true (by first | (with_reducible assumption) | assumption)
             obtain ⟨ad103, e103, hx103_0⟩ := Kd.at_int HR0.out x7_1 p103 q103
             obtain rfl : ad101 = ad103 := (by injection e103)
             replace p103 := eq_true p103
             replace q103 := eq_true q103
             have p104 : 0 ≤ (a1 : Int) := of_decide_eq_true (by first | (with_reducible assumption) | assumption)
             have q104 : a1 < (l0.length : Int) := of_decide_eq_true (by first | (with_reducible assumption) | assumption)
             obtain ⟨ad104, e104, hx104_0⟩ := Kd.at_int HR0.out a1 p104 q104
             obtain rfl : ad101 = ad104 := (by injection e104)
             replace p104 := eq_true p104
             replace q104 := eq_true q104
             go_wp2
             repeat (go_quiet (fail); try go_wp2)
             go_roundg k1
             case measure => have := HK1.out; omega
             case rel => exact ⟨(wrap64 (x7_1 + 1)), (by first | rfl | (simp; done) | (simp [*]; done)), H', ⟨by have := HK1.out; omega⟩, by repeat (first | exact Drawn0.refl _ | apply Drawn0.step)⟩
           ·rw [if_neg c12] at H
            exact absurd H (by simp)
          ·rw [if_neg c11] at H
           exact absurd H (by simp)
         ·rw [if_neg c10] at H
          exact absurd H (by simp)
        ·rw [if_neg c9] at H
         have c9b0 : decide (x7_1 < (l0.length : Int)) = false := decide_eq_false c9
         clear c9
         obtain rfl := Option.some.inj H
         go_wp2
         repeat (go_quiet (fail); try go_wp2)
         go_ret
         exact ⟨by first | rfl | (simp; done) | (simp [*]; done), by repeat (first | exact Drawn0.refl _ | apply Drawn0.step)⟩
    ·rw [if_neg c7] at H
     exact absurd H (by simp)
   ·rw [if_neg c6] at H
    exact absurd H (by simp)
  ·rw [if_neg c5] at H
   exact absurd H (by simp)
 ·rw [if_neg c4] at H
  exact absurd H (by simp)

mutual
def shunt_block.l0 : Nat → List Int → Int → Int → Option (List Int)
 | 0, _, _, _ => none
 | k + 1, x0, x7, x8 => if x8 < x7 then (shunt_block.l1 k x0 x8 x7 x8 x8 0) else (some ([] : List Int))
def shunt_block.l1 : Nat → List Int → Int → Int → Int → Int → Int → Option (List Int)
 | 0, _, _, _, _, _, _ => none
 | k + 1, x0, x3, x7, x8, x11, x12 => if x12 < x11 then ((shunt_blocking.f k x0 x12 x3).bind fun t105 => (if t105 > 0 then (some (([x12, x3, t105] : List Int))) else (shunt_block.l1 k x0 x3 x7 x8 x11 (wrap64 (x12 + 1))))) else (shunt_block.l0 k x0 x7 (wrap64 (x8 + 1)))
end
def shunt_block.f (k : Nat) (l0 : List Int) : Option (List Int) := shunt_block.l0 k l0 (l0.length : Int) 0
theorem shunt_block.mono_l : ∀ k, (∀ y0 y1 y2, LeO (shunt_block.l0 k y0 y1 y2) (shunt_block.l0 (k + 1) y0 y1 y2)) ∧ (∀ y0 y1 y2 y3 y4 y5, LeO (shunt_block.l1 k y0 y1 y2 y3 y4 y5) (shunt_block.l1 (k + 1) y0 y1 y2 y3 y4 y5))
 | 0 => ⟨fun _ _ _ r h => by simp [shunt_block.l0] at h, fun _ _ _ _ _ _ r h => by simp [shunt_block.l1] at h⟩
 | k + 1 => by
  obtain ⟨ih0, ih1⟩ := shunt_block.mono_l k
  refine ⟨?_, ?_⟩
  ·intro y0 y1 y2
   unfold shunt_block.l0
   repeat' first
   | (with_reducible exact ih0 _ _ _)
   | (with_reducible exact ih1 _ _ _ _ _ _)
   | (with_reducible exact shunt_blocking.mono _ _ _ _)
   | (with_reducible exact LeO.refl _)
   | (with_reducible exact LeO.none _)
   | (with_reducible refine LeO.ite ?_ ?_)
   | (with_reducible refine LeO.bind ?_ (fun _ => ?_))
   | exact ih0 _ _ _
   | exact ih1 _ _ _ _ _ _
   | exact shunt_blocking.mono _ _ _ _
   | exact LeO.none _
   | refine LeO.ite ?_ ?_
   | refine LeO.bind ?_ (fun _ => ?_)
  ·intro y0 y1 y2 y3 y4 y5
   unfold shunt_block.l1
   repeat' first
   | (with_reducible exact ih0 _ _ _)
   | (with_reducible exact ih1 _ _ _ _ _ _)
   | (with_reducible exact shunt_blocking.mono _ _ _ _)
   | (with_reducible exact LeO.refl _)
   | (with_reducible exact LeO.none _)
   | (with_reducible refine LeO.ite ?_ ?_)
   | (with_reducible refine LeO.bind ?_ (fun _ => ?_))
   | exact ih0 _ _ _
   | exact ih1 _ _ _ _ _ _
   | exact shunt_blocking.mono _ _ _ _
   | exact LeO.none _
   | refine LeO.ite ?_ ?_
   | refine LeO.bind ?_ (fun _ => ?_)
theorem shunt_block.mono : ∀ a0 k, LeO (shunt_block.f k a0) (shunt_block.f (k + 1) a0) := by
 intro a0 k
 obtain ⟨ih0, ih1⟩ := shunt_block.mono_l k
 unfold shunt_block.f
 repeat' first
   | (with_reducible exact ih0 _ _ _)
   | (with_reducible exact ih1 _ _ _ _ _ _)
   | (with_reducible exact shunt_blocking.mono _ _ _ _)
   | (with_reducible exact LeO.refl _)
   | (with_reducible exact LeO.none _)
   | (with_reducible refine LeO.ite ?_ ?_)
   | (with_reducible refine LeO.bind ?_ (fun _ => ?_))
   | exact ih0 _ _ _
   | exact ih1 _ _ _ _ _ _
   | exact shunt_blocking.mono _ _ _ _
   | exact LeO.none _
   | refine LeO.ite ?_ ?_
   | refine LeO.bind ?_ (fun _ => ?_)
set_option maxHeartbeats 8000000 in
set_option maxRecDepth 100000 in
theorem shunt_block.calls (k : Nat) (A0 : Option Addr) (c0 : Nat) (l0 : List Int) (r : List Int) (w : World) (hr0 : Kd.C (Kd.int .i64) w A0 l0.length l0) (hc0 : l0.length ≤ c0) (h : shunt_block.f k l0 = some r) :
  Calls Try.prog 53 #[.slice A0 l0.length c0] w fun e w' => ∃ v0_ : Value, e = .returned (v0_) ∧ Kd.R (Kd.int .i64) 3 w' w.heap.size (fun _ => True) v0_ r ∧ Below w.heap.size w w' := by
 have HR0 := Aside0.mk hr0
 have HC0 := Aside0.mk hc0
 clear hr0 hc0
 have HB := Aside0.mk (Below.refl w.heap.size w)
 have H : (shunt_block.l0 k l0 (l0.length : Int) 0) = some r := h
 clear h
 have H' := Aside0.mk H
 clear H
 go_enter Try.func53, Try.ntmps53
 go_wp2
 go_loopg [8] k (fun kq v8 w' => ∃ (x8_1 : Int), v8 = .int .i64 x8_1 ∧ Aside0 (shunt_block.l0 kq l0 (l0.length : Int) x8_1 = some r) ∧ Aside0 (kq ≤ k) ∧ Aside0 (Below w.heap.size w w'))
 case atStart => exact ⟨(0), (by first | rfl | (simp; done) | (simp [*]; done)), H', ⟨Nat.le_refl _⟩, ⟨by repeat (first | (with_reducible first | exact HB.out | apply below_alloc | apply pw_below_drewN | apply below_drew1) | exact HB.out)⟩⟩
 case round =>
  clear H'
  obtain ⟨x8_1, rfl, HA, HK1, HB⟩ := hrel
  cases gk with
  | zero => exact absurd HA.out (by simp [shunt_block.l0])
  | succ k1 =>
   have H := HA.out
   clear HA
   simp only [shunt_block.l0] at H
   by_cases c2 : x8_1 < (l0.length : Int)
   ·rw [if_pos c2] at H
    have c2b0 : decide (x8_1 < (l0.length : Int)) = true := decide_eq_true c2
    clear c2
    have H' := Aside0.mk H
    clear H
    go_wp2
    go_loopg [12] k1 (fun kq v12 w' => ∃ (x12_2 : Int), v12 = .int .i64 x12_2 ∧ Aside0 (shunt_block.l1 kq l0 x8_1 (l0.length : Int) x8_1 x8_1 x12_2 = some r) ∧ Aside0 (kq ≤ k1) ∧ Aside0 (Below w.heap.size w w'))
    case atStart => exact ⟨(0), (by first | rfl | (simp; done) | (simp [*]; done)), H', ⟨Nat.le_refl _⟩, ⟨by repeat (first | (with_reducible first | exact HB.out | apply below_alloc | apply pw_below_drewN | apply below_drew1) | exact HB.out)⟩⟩
    case round =>
     clear H'
     try clear c2
     try clear c2b0
     try clear p2
     obtain ⟨x12_2, rfl, HA, HK2, HB⟩ := hrel
     cases gk with
     | zero => exact absurd HA.out (by simp [shunt_block.l1])
     | succ k2 =>
      have H := HA.out
      clear HA
      simp only [shunt_block.l1] at H
      by_cases c3 : x12_2 < x8_1
      ·rw [if_pos c3] at H
       have c3b0 : decide (x12_2 < x8_1) = true := decide_eq_true c3
       clear c3
       replace H := Option.bind_eq_some_iff.mp H
       obtain ⟨t105, A40, H⟩ := H
       replace H : (if t105 > 0 then (some (([x12_2, x8_1, t105] : List Int))) else (shunt_block.l1 k2 l0 x8_1 (l0.length : Int) x8_1 x8_1 (wrap64 (x12_2 + 1)))) = some r := H
       have A4 := Aside0.mk A40
       clear A40
       by_cases c5 : t105 > 0
       ·rw [if_pos c5] at H
        have c5b0 : decide (0 < t105) = true := decide_eq_true c5
        clear c5
        obtain ⟨y106, hy106⟩ : ∃ y_ : List Int, y_ = (([x12_2, x8_1, t105] : List Int)) := ⟨_, rfl⟩
        replace H : (some y106) = some r := by first | (rw [hy106]; with_reducible exact H) | (have H2_ := (Option.bind_some _ _).symm.trans H; rw [hy106]; with_reducible exact H2_) | (have H2_ := (Option.bind_some _ _).symm.trans H; with_reducible exact H2_) | with_reducible exact H | (rw [hy106]; exact H) | exact H
        have Ny106 := Aside0.mk hy106
        clear hy106
        obtain rfl := Option.some.inj H
        go_wp2_with (first | ((with_reducible refine gate_callee (f := 72) rfl ?_); refine goesL_ (some 18) rfl rfl Try.func72 (by kernel_rfl) rfl #[.slice A0 l0.length c0, .int .i64 x12_2, .int .i64 x8_1] rfl (by (try simp only [List.map_toArray, List.map_cons, List.map_nil]); first | done | rfl | (simp only [List.length_drop, List.length_take]; rfl)) ?_; (with_reducible refine (shunt_blocking.calls k2 _ _ l0 x12_2 x8_1 t105 _ ?side1 ?side2 A4.out).mono ?_); (case side1 => repeat (first | exact (Kd.C_below HR0.out HB.out) | (with_reducible refine Kd.C_alloc ?_ _) | (with_reducible refine Kd.C_drewN ?_ _) | (with_reducible refine Kd.C_drew ?_))); (case side2 => exact HC0.out); rintro e w' ⟨rfl, ⟨nd, rfl⟩⟩; refine ⟨_, rfl, ?_⟩) | ((with_reducible refine gate_dst (N := 24) rfl ?_); refine Kd.R_lit (Kd.int .i64) _ 3 ?hg (N := 24) ?hd (xs := ([x12_2, x8_1, t105] : List Int)) (inner := [.int .i64 x12_2, .int .i64 x8_1, .int .i64 t105]) (ok := fun _ => True) (okp := fun _ => True) ?hr ?hp (fun _ hk => hk) trivial (Below.refl _ _) (Nat.le_refl _) (by simp) ?_; (case hd => rfl); (case hg => rfl); (case hr => first | (go_simp; done) | (go_simp; rfl)); (case hp => exact (Reps.one (show Kd.M (Kd.int .i64) _ _ _ x12_2 [.int .i64 x12_2] from rfl) (Reps.one (show Kd.M (Kd.int .i64) _ _ _ x8_1 [.int .i64 x8_1] from rfl) (Reps.one (show Kd.M (Kd.int .i64) _ _ _ t105 [.int .i64 t105] from rfl) (Reps.none _ _))))); intro v107 w6 ho7 hb hg_ hnew_; clear hg_ hnew_; (first | rw [← Ny106.out] at ho7 | (simp only [Int.reduceToNat] at ho7; rw [← Ny106.out] at ho7)); have n0_ := Aside0.mk (Kd.R_lower ho7 (below_size (by repeat (first | (with_reducible first | exact HB.out | apply below_alloc | apply pw_below_drewN | apply below_drew1) | exact HB.out)))); have n1_ := Aside0.mk (below_step (by repeat (first | (with_reducible first | exact HB.out | apply below_alloc | apply pw_below_drewN | apply below_drew1) | exact HB.out)) hb); clear HB; have HO108 := n0_; have HB := n1_; clear n0_ n1_; clear hb ho7))
        go_ret
        exact ⟨_, by first | rfl | (simp [errW_none, errW_some] <;> rfl) | (simp [*, errW_none, errW_some] <;> rfl), by (with_reducible repeat (first | apply Kd.R_alloc | apply Kd.R_drewN | apply Kd.R_drew)); exact HO108.out, by repeat (first | (with_reducible first | exact HB.out | apply below_alloc | apply pw_below_drewN | apply below_drew1) | exact HB.out)⟩
       ·rw [if_neg c5] at H
        have c5b0 : decide (0 < t105) = false := decide_eq_false c5
        clear c5
        have H' := Aside0.mk H
        clear H
        go_wp2_with (first | ((with_reducible refine gate_callee (f := 72) rfl ?_); refine goesL_ (some 18) rfl rfl Try.func72 (by kernel_rfl) rfl #[.slice A0 l0.length c0, .int .i64 x12_2, .int .i64 x8_1] rfl (by (try simp only [List.map_toArray, List.map_cons, List.map_nil]); first | done | rfl | (simp only [List.length_drop, List.length_take]; rfl)) ?_; (with_reducible refine (shunt_blocking.calls k2 _ _ l0 x12_2 x8_1 t105 _ ?side1 ?side2 A4.out).mono ?_); (case side1 => repeat (first | exact (Kd.C_below HR0.out HB.out) | (with_reducible refine Kd.C_alloc ?_ _) | (with_reducible refine Kd.C_drewN ?_ _) | (with_reducible refine Kd.C_drew ?_))); (case side2 => exact HC0.out); rintro e w' ⟨rfl, ⟨nd, rfl⟩⟩; refine ⟨_, rfl, ?_⟩))
        go_roundg k2
        case measure => have := HK1.out; have := HK2.out; omega
        case rel => exact ⟨(wrap64 (x12_2 + 1)), (by first | rfl | (simp; done) | (simp [*]; done)), H', ⟨by have := HK1.out; have := HK2.out; omega⟩, ⟨by repeat (first | (with_reducible first | exact HB.out | apply below_alloc | apply pw_below_drewN | apply below_drew1) | exact HB.out)⟩⟩
      ·rw [if_neg c3] at H
       have c3b0 : decide (x12_2 < x8_1) = false := decide_eq_false c3
       clear c3
       have H' := Aside0.mk H
       clear H
       go_wp2
       go_roundg k2
       case measure => have := HK1.out; have := HK2.out; omega
       case rel => exact ⟨(wrap64 (x8_1 + 1)), (by first | rfl | (simp; done) | (simp [*]; done)), H', ⟨by have := HK1.out; have := HK2.out; omega⟩, ⟨by repeat (first | (with_reducible first | exact HB.out | apply below_alloc | apply pw_below_drewN | apply below_drew1) | exact HB.out)⟩⟩
   ·rw [if_neg c2] at H
    have c2b0 : decide (x8_1 < (l0.length : Int)) = false := decide_eq_false c2
    clear c2
    obtain rfl := Option.some.inj H
    go_wp2
    go_ret
    exact ⟨_, by first | rfl | (simp [errW_none, errW_some] <;> rfl) | (simp [*, errW_none, errW_some] <;> rfl), by first | exact Kd.R_nil _ _ _ _ _ | exact Kd.N_nil _ _ _ _ _ | exact Kd.V_nil _ _ _ _ _ | exact Kd.Q_nil _ _ _ _ _ | exact Kd.S_nil _ _ _ _ _, by repeat (first | (with_reducible first | exact HB.out | apply below_alloc | apply pw_below_drewN | apply below_drew1) | exact HB.out)⟩
set_option maxHeartbeats 8000000 in
set_option maxRecDepth 100000 in
theorem shunt_block.callsN (k : Nat) (A0 : Option Addr) (c0 : Nat) (l0 : List Int) (r : List Int) (w : World) (hr0 : Kd.C (Kd.int .i64) w A0 l0.length l0) (hc0 : l0.length ≤ c0) (h : shunt_block.f k l0 = some r) :
  Calls Try.prog 53 #[.slice A0 l0.length c0] w fun e w' => ∃ v0_ : Value, e = .returned (v0_) ∧ Kd.R (Kd.int .i64) 3 w' w.heap.size (fun _ => True) v0_ r ∧ Below w.heap.size w w' ∧ (r = [] → v0_ = .slice none 0 0) := by
 have HR0 := Aside0.mk hr0
 have HC0 := Aside0.mk hc0
 clear hr0 hc0
 have HB := Aside0.mk (Below.refl w.heap.size w)
 have H : (shunt_block.l0 k l0 (l0.length : Int) 0) = some r := h
 clear h
 have H' := Aside0.mk H
 clear H
 go_enter Try.func53, Try.ntmps53
 go_wp2
 go_loopg [8] k (fun kq v8 w' => ∃ (x8_1 : Int), v8 = .int .i64 x8_1 ∧ Aside0 (shunt_block.l0 kq l0 (l0.length : Int) x8_1 = some r) ∧ Aside0 (kq ≤ k) ∧ Aside0 (Below w.heap.size w w'))
 case atStart => exact ⟨(0), (by first | rfl | (simp; done) | (simp [*]; done)), H', ⟨Nat.le_refl _⟩, ⟨by repeat (first | (with_reducible first | exact HB.out | apply below_alloc | apply pw_below_drewN | apply below_drew1) | exact HB.out)⟩⟩
 case round =>
  clear H'
  obtain ⟨x8_1, rfl, HA, HK1, HB⟩ := hrel
  cases gk with
  | zero => exact absurd HA.out (by simp [shunt_block.l0])
  | succ k1 =>
   have H := HA.out
   clear HA
   simp only [shunt_block.l0] at H
   by_cases c2 : x8_1 < (l0.length : Int)
   ·rw [if_pos c2] at H
    have c2b0 : decide (x8_1 < (l0.length : Int)) = true := decide_eq_true c2
    clear c2
    have H' := Aside0.mk H
    clear H
    go_wp2
    go_loopg [12] k1 (fun kq v12 w' => ∃ (x12_2 : Int), v12 = .int .i64 x12_2 ∧ Aside0 (shunt_block.l1 kq l0 x8_1 (l0.length : Int) x8_1 x8_1 x12_2 = some r) ∧ Aside0 (kq ≤ k1) ∧ Aside0 (Below w.heap.size w w'))
    case atStart => exact ⟨(0), (by first | rfl | (simp; done) | (simp [*]; done)), H', ⟨Nat.le_refl _⟩, ⟨by repeat (first | (with_reducible first | exact HB.out | apply below_alloc | apply pw_below_drewN | apply below_drew1) | exact HB.out)⟩⟩
    case round =>
     clear H'
     try clear c2
     try clear c2b0
     try clear p2
     obtain ⟨x12_2, rfl, HA, HK2, HB⟩ := hrel
     cases gk with
     | zero => exact absurd HA.out (by simp [shunt_block.l1])
     | succ k2 =>
      have H := HA.out
      clear HA
      simp only [shunt_block.l1] at H
      by_cases c3 : x12_2 < x8_1
      ·rw [if_pos c3] at H
       have c3b0 : decide (x12_2 < x8_1) = true := decide_eq_true c3
       clear c3
       replace H := Option.bind_eq_some_iff.mp H
       obtain ⟨t105, A40, H⟩ := H
       replace H : (if t105 > 0 then (some (([x12_2, x8_1, t105] : List Int))) else (shunt_block.l1 k2 l0 x8_1 (l0.length : Int) x8_1 x8_1 (wrap64 (x12_2 + 1)))) = some r := H
       have A4 := Aside0.mk A40
       clear A40
       by_cases c5 : t105 > 0
       ·rw [if_pos c5] at H
        have c5b0 : decide (0 < t105) = true := decide_eq_true c5
        clear c5
        obtain ⟨y106, hy106⟩ : ∃ y_ : List Int, y_ = (([x12_2, x8_1, t105] : List Int)) := ⟨_, rfl⟩
        replace H : (some y106) = some r := by first | (rw [hy106]; with_reducible exact H) | (have H2_ := (Option.bind_some _ _).symm.trans H; rw [hy106]; with_reducible exact H2_) | (have H2_ := (Option.bind_some _ _).symm.trans H; with_reducible exact H2_) | with_reducible exact H | (rw [hy106]; exact H) | exact H
        have Ny106 := Aside0.mk hy106
        clear hy106
        obtain rfl := Option.some.inj H
        go_wp2_with (first | ((with_reducible refine gate_callee (f := 72) rfl ?_); refine goesL_ (some 18) rfl rfl Try.func72 (by kernel_rfl) rfl #[.slice A0 l0.length c0, .int .i64 x12_2, .int .i64 x8_1] rfl (by (try simp only [List.map_toArray, List.map_cons, List.map_nil]); first | done | rfl | (simp only [List.length_drop, List.length_take]; rfl)) ?_; (with_reducible refine (shunt_blocking.calls k2 _ _ l0 x12_2 x8_1 t105 _ ?side1 ?side2 A4.out).mono ?_); (case side1 => repeat (first | exact (Kd.C_below HR0.out HB.out) | (with_reducible refine Kd.C_alloc ?_ _) | (with_reducible refine Kd.C_drewN ?_ _) | (with_reducible refine Kd.C_drew ?_))); (case side2 => exact HC0.out); rintro e w' ⟨rfl, ⟨nd, rfl⟩⟩; refine ⟨_, rfl, ?_⟩) | ((with_reducible refine gate_dst (N := 24) rfl ?_); refine Kd.R_lit (Kd.int .i64) _ 3 ?hg (N := 24) ?hd (xs := ([x12_2, x8_1, t105] : List Int)) (inner := [.int .i64 x12_2, .int .i64 x8_1, .int .i64 t105]) (ok := fun _ => True) (okp := fun _ => True) ?hr ?hp (fun _ hk => hk) trivial (Below.refl _ _) (Nat.le_refl _) (by simp) ?_; (case hd => rfl); (case hg => rfl); (case hr => first | (go_simp; done) | (go_simp; rfl)); (case hp => exact (Reps.one (show Kd.M (Kd.int .i64) _ _ _ x12_2 [.int .i64 x12_2] from rfl) (Reps.one (show Kd.M (Kd.int .i64) _ _ _ x8_1 [.int .i64 x8_1] from rfl) (Reps.one (show Kd.M (Kd.int .i64) _ _ _ t105 [.int .i64 t105] from rfl) (Reps.none _ _))))); intro v107 w6 ho7 hb hg_ hnew_; clear hg_ hnew_; (first | rw [← Ny106.out] at ho7 | (simp only [Int.reduceToNat] at ho7; rw [← Ny106.out] at ho7)); have n0_ := Aside0.mk (Kd.R_lower ho7 (below_size (by repeat (first | (with_reducible first | exact HB.out | apply below_alloc | apply pw_below_drewN | apply below_drew1) | exact HB.out)))); have n1_ := Aside0.mk (below_step (by repeat (first | (with_reducible first | exact HB.out | apply below_alloc | apply pw_below_drewN | apply below_drew1) | exact HB.out)) hb); clear HB; have HO108 := n0_; have HB := n1_; clear n0_ n1_; clear hb ho7))
        go_ret
        exact ⟨_, by first | rfl | (simp [errW_none, errW_some] <;> rfl) | (simp [*, errW_none, errW_some] <;> rfl), by (with_reducible repeat (first | apply Kd.R_alloc | apply Kd.R_drewN | apply Kd.R_drew)); exact HO108.out, by repeat (first | (with_reducible first | exact HB.out | apply below_alloc | apply pw_below_drewN | apply below_drew1) | exact HB.out), by first | rfl | (intro _; rfl) | (intro h_; exact absurd (Ny106.out.symm.trans h_) (by simp))⟩
       ·rw [if_neg c5] at H
        have c5b0 : decide (0 < t105) = false := decide_eq_false c5
        clear c5
        have H' := Aside0.mk H
        clear H
        go_wp2_with (first | ((with_reducible refine gate_callee (f := 72) rfl ?_); refine goesL_ (some 18) rfl rfl Try.func72 (by kernel_rfl) rfl #[.slice A0 l0.length c0, .int .i64 x12_2, .int .i64 x8_1] rfl (by (try simp only [List.map_toArray, List.map_cons, List.map_nil]); first | done | rfl | (simp only [List.length_drop, List.length_take]; rfl)) ?_; (with_reducible refine (shunt_blocking.calls k2 _ _ l0 x12_2 x8_1 t105 _ ?side1 ?side2 A4.out).mono ?_); (case side1 => repeat (first | exact (Kd.C_below HR0.out HB.out) | (with_reducible refine Kd.C_alloc ?_ _) | (with_reducible refine Kd.C_drewN ?_ _) | (with_reducible refine Kd.C_drew ?_))); (case side2 => exact HC0.out); rintro e w' ⟨rfl, ⟨nd, rfl⟩⟩; refine ⟨_, rfl, ?_⟩))
        go_roundg k2
        case measure => have := HK1.out; have := HK2.out; omega
        case rel => exact ⟨(wrap64 (x12_2 + 1)), (by first | rfl | (simp; done) | (simp [*]; done)), H', ⟨by have := HK1.out; have := HK2.out; omega⟩, ⟨by repeat (first | (with_reducible first | exact HB.out | apply below_alloc | apply pw_below_drewN | apply below_drew1) | exact HB.out)⟩⟩
      ·rw [if_neg c3] at H
       have c3b0 : decide (x12_2 < x8_1) = false := decide_eq_false c3
       clear c3
       have H' := Aside0.mk H
       clear H
       go_wp2
       go_roundg k2
       case measure => have := HK1.out; have := HK2.out; omega
       case rel => exact ⟨(wrap64 (x8_1 + 1)), (by first | rfl | (simp; done) | (simp [*]; done)), H', ⟨by have := HK1.out; have := HK2.out; omega⟩, ⟨by repeat (first | (with_reducible first | exact HB.out | apply below_alloc | apply pw_below_drewN | apply below_drew1) | exact HB.out)⟩⟩
   ·rw [if_neg c2] at H
    have c2b0 : decide (x8_1 < (l0.length : Int)) = false := decide_eq_false c2
    clear c2
    obtain rfl := Option.some.inj H
    go_wp2
    go_ret
    exact ⟨_, by first | rfl | (simp [errW_none, errW_some] <;> rfl) | (simp [*, errW_none, errW_some] <;> rfl), by first | exact Kd.R_nil _ _ _ _ _ | exact Kd.N_nil _ _ _ _ _ | exact Kd.V_nil _ _ _ _ _ | exact Kd.Q_nil _ _ _ _ _ | exact Kd.S_nil _ _ _ _ _, by repeat (first | (with_reducible first | exact HB.out | apply below_alloc | apply pw_below_drewN | apply below_drew1) | exact HB.out), by first | rfl | (intro _; rfl) | (intro h_; exact absurd (Ny106.out.symm.trans h_) (by simp))⟩

mutual
def shunt_counts.l0 : Nat → Int → List Int → Int → Option (List Int)
 | 0, _, _, _ => none
 | k + 1, x0, x3, x4 => if x4 ≤ x0 then (shunt_counts.l1 k x0 x3 x4 0 x4 0) else (some x3)
def shunt_counts.l1 : Nat → Int → List Int → Int → Int → Int → Int → Option (List Int)
 | 0, _, _, _, _, _, _ => none
 | k + 1, x0, x3, x4, x5, x13, x14 => if x14 < x13 then (if 0 ≤ x14 then (if x14 < (x3.length : Int) then (if 0 ≤ (wrap64 ((wrap64 (x4 - 1)) - x14)) then (if (wrap64 ((wrap64 (x4 - 1)) - x14)) < (x3.length : Int) then (shunt_counts.l1 k x0 x3 x4 (wrap64 (x5 + (wrap64 ((rd x3 x14) * (rd x3 (wrap64 ((wrap64 (x4 - 1)) - x14))))))) x13 (wrap64 (x14 + 1))) else (none)) else (none)) else (none)) else (none)) else (if x3.length < 17592186044416 then (shunt_counts.l0 k x0 (x3 ++ [x5]) (wrap64 (x4 + 1))) else (none))
end
def shunt_counts.f (k : Nat) (a0 : Int) : Option (List Int) := shunt_counts.l0 k a0 (([1] : List Int)) 1
theorem shunt_counts.mono_l : ∀ k, (∀ y0 y1 y2, LeO (shunt_counts.l0 k y0 y1 y2) (shunt_counts.l0 (k + 1) y0 y1 y2)) ∧ (∀ y0 y1 y2 y3 y4 y5, LeO (shunt_counts.l1 k y0 y1 y2 y3 y4 y5) (shunt_counts.l1 (k + 1) y0 y1 y2 y3 y4 y5))
 | 0 => ⟨fun _ _ _ r h => by simp [shunt_counts.l0] at h, fun _ _ _ _ _ _ r h => by simp [shunt_counts.l1] at h⟩
 | k + 1 => by
  obtain ⟨ih0, ih1⟩ := shunt_counts.mono_l k
  refine ⟨?_, ?_⟩
  ·intro y0 y1 y2
   unfold shunt_counts.l0
   repeat' first
   | (with_reducible exact ih0 _ _ _)
   | (with_reducible exact ih1 _ _ _ _ _ _)
   | (with_reducible exact LeO.refl _)
   | (with_reducible exact LeO.none _)
   | (with_reducible refine LeO.ite ?_ ?_)
   | (with_reducible refine LeO.bind ?_ (fun _ => ?_))
   | exact ih0 _ _ _
   | exact ih1 _ _ _ _ _ _
   | exact LeO.none _
   | refine LeO.ite ?_ ?_
   | refine LeO.bind ?_ (fun _ => ?_)
  ·intro y0 y1 y2 y3 y4 y5
   unfold shunt_counts.l1
   repeat' first
   | (with_reducible exact ih0 _ _ _)
   | (with_reducible exact ih1 _ _ _ _ _ _)
   | (with_reducible exact LeO.refl _)
   | (with_reducible exact LeO.none _)
   | (with_reducible refine LeO.ite ?_ ?_)
   | (with_reducible refine LeO.bind ?_ (fun _ => ?_))
   | exact ih0 _ _ _
   | exact ih1 _ _ _ _ _ _
   | exact LeO.none _
   | refine LeO.ite ?_ ?_
   | refine LeO.bind ?_ (fun _ => ?_)
theorem shunt_counts.mono : ∀ a0 k, LeO (shunt_counts.f k a0) (shunt_counts.f (k + 1) a0) := by
 intro a0 k
 obtain ⟨ih0, ih1⟩ := shunt_counts.mono_l k
 unfold shunt_counts.f
 repeat' first
   | (with_reducible exact ih0 _ _ _)
   | (with_reducible exact ih1 _ _ _ _ _ _)
   | (with_reducible exact LeO.refl _)
   | (with_reducible exact LeO.none _)
   | (with_reducible refine LeO.ite ?_ ?_)
   | (with_reducible refine LeO.bind ?_ (fun _ => ?_))
   | exact ih0 _ _ _
   | exact ih1 _ _ _ _ _ _
   | exact LeO.none _
   | refine LeO.ite ?_ ?_
   | refine LeO.bind ?_ (fun _ => ?_)
set_option maxHeartbeats 8000000 in
set_option maxRecDepth 100000 in
theorem shunt_counts.calls (k : Nat) (a0 : Int) (r : List Int) (w : World) (h : shunt_counts.f k a0 = some r) :
  Calls Try.prog 54 #[.int .i64 a0] w fun e w' => ∃ v0_ : Value, e = .returned (v0_) ∧ Kd.R (Kd.int .i64) 3 w' w.heap.size (fun _ => True) v0_ r ∧ Below w.heap.size w w' := by
 have HB := Aside0.mk (Below.refl w.heap.size w)
 have H : (shunt_counts.l0 k a0 (([1] : List Int)) 1) = some r := h
 clear h
 obtain ⟨y109, hy109⟩ : ∃ y_ : List Int, y_ = (([1] : List Int)) := ⟨_, rfl⟩
 replace H : (shunt_counts.l0 k a0 y109 1) = some r := by first | (rw [hy109]; with_reducible exact H) | (have H2_ := (Option.bind_some _ _).symm.trans H; rw [hy109]; with_reducible exact H2_) | (have H2_ := (Option.bind_some _ _).symm.trans H; with_reducible exact H2_) | with_reducible exact H | (rw [hy109]; exact H) | exact H
 have Ny109 := Aside0.mk hy109
 clear hy109
 have H' := Aside0.mk H
 clear H
 go_enter Try.func54, Try.ntmps54
 go_wp2_with (first | ((with_reducible refine gate_dst (N := 7) rfl ?_); refine Kd.R_lit (Kd.int .i64) _ 3 ?hg (N := 7) ?hd (xs := ([1] : List Int)) (inner := [.int .i64 1]) (ok := fun _ => True) (okp := fun _ => True) ?hr ?hp (fun _ hk => hk) trivial (Below.refl _ _) (Nat.le_refl _) (by simp) ?_; (case hd => rfl); (case hg => rfl); (case hr => first | (go_simp; done) | (go_simp; rfl)); (case hp => exact (Reps.one (show Kd.M (Kd.int .i64) _ _ _ 1 [.int .i64 1] from rfl) (Reps.none _ _))); intro v110 w2 ho3 hb hg_ hnew_; clear hg_ hnew_; (first | rw [← Ny109.out] at ho3 | (simp only [Int.reduceToNat] at ho3; rw [← Ny109.out] at ho3)); have n0_ := Aside0.mk (Kd.R_lower ho3 (below_size (by repeat (first | (with_reducible first | exact HB.out | apply below_alloc | apply pw_below_drewN | apply below_drew1) | exact HB.out)))); have n1_ := Aside0.mk (below_step (by repeat (first | (with_reducible first | exact HB.out | apply below_alloc | apply pw_below_drewN | apply below_drew1) | exact HB.out)) hb); clear HB; have HO111 := n0_; have HB := n1_; clear n0_ n1_; clear hb ho3))
 repeat (go_quiet (first | ((with_reducible refine gate_dst (N := 7) rfl ?_); refine Kd.R_lit (Kd.int .i64) _ 3 ?hg (N := 7) ?hd (xs := ([1] : List Int)) (inner := [.int .i64 1]) (ok := fun _ => True) (okp := fun _ => True) ?hr ?hp (fun _ hk => hk) trivial (Below.refl _ _) (Nat.le_refl _) (by simp) ?_; (case hd => rfl); (case hg => rfl); (case hr => first | (go_simp; done) | (go_simp; rfl)); (case hp => exact (Reps.one (show Kd.M (Kd.int .i64) _ _ _ 1 [.int .i64 1] from rfl) (Reps.none _ _))); intro v110 w2 ho3 hb hg_ hnew_; clear hg_ hnew_; (first | rw [← Ny109.out] at ho3 | (simp only [Int.reduceToNat] at ho3; rw [← Ny109.out] at ho3)); have n0_ := Aside0.mk (Kd.R_lower ho3 (below_size (by repeat (first | (with_reducible first | exact HB.out | apply below_alloc | apply pw_below_drewN | apply below_drew1) | exact HB.out)))); have n1_ := Aside0.mk (below_step (by repeat (first | (with_reducible first | exact HB.out | apply below_alloc | apply pw_below_drewN | apply below_drew1) | exact HB.out)) hb); clear HB; have HO111 := n0_; have HB := n1_; clear n0_ n1_; clear hb ho3)); try go_wp2_with (first | ((with_reducible refine gate_dst (N := 7) rfl ?_); refine Kd.R_lit (Kd.int .i64) _ 3 ?hg (N := 7) ?hd (xs := ([1] : List Int)) (inner := [.int .i64 1]) (ok := fun _ => True) (okp := fun _ => True) ?hr ?hp (fun _ hk => hk) trivial (Below.refl _ _) (Nat.le_refl _) (by simp) ?_; (case hd => rfl); (case hg => rfl); (case hr => first | (go_simp; done) | (go_simp; rfl)); (case hp => exact (Reps.one (show Kd.M (Kd.int .i64) _ _ _ 1 [.int .i64 1] from rfl) (Reps.none _ _))); intro v110 w2 ho3 hb hg_ hnew_; clear hg_ hnew_; (first | rw [← Ny109.out] at ho3 | (simp only [Int.reduceToNat] at ho3; rw [← Ny109.out] at ho3)); have n0_ := Aside0.mk (Kd.R_lower ho3 (below_size (by repeat (first | (with_reducible first | exact HB.out | apply below_alloc | apply pw_below_drewN | apply below_drew1) | exact HB.out)))); have n1_ := Aside0.mk (below_step (by repeat (first | (with_reducible first | exact HB.out | apply below_alloc | apply pw_below_drewN | apply below_drew1) | exact HB.out)) hb); clear HB; have HO111 := n0_; have HB := n1_; clear n0_ n1_; clear hb ho3)))
 go_loopg [3, 4] k (fun kq v3 v4 w' => ∃ (x3_1 : List Int) (x4_1 : Int), v4 = .int .i64 x4_1 ∧ Aside0 (shunt_counts.l0 kq a0 x3_1 x4_1 = some r) ∧ Aside0 (kq ≤ k) ∧ Aside0 (Kd.R (Kd.int .i64) 3 w' w.heap.size (fun _ => True) v3 x3_1) ∧ Aside0 (Below w.heap.size w w'))
 case atStart => exact ⟨(y109), (1), (by first | rfl | (simp; done) | (simp [*]; done)), H', ⟨Nat.le_refl _⟩, ⟨by (with_reducible repeat (first | apply Kd.R_alloc | apply Kd.R_drewN | apply Kd.R_drew)); exact HO111.out⟩, ⟨by repeat (first | (with_reducible first | exact HB.out | apply below_alloc | apply pw_below_drewN | apply below_drew1) | exact HB.out)⟩⟩
 case round =>
  clear H'
  try clear p2
  obtain ⟨x3_1, x4_1, rfl, HA, HK1, HO_3, HB⟩ := hrel
  cases gk with
  | zero => exact absurd HA.out (by simp [shunt_counts.l0])
  | succ k1 =>
   have H := HA.out
   clear HA
   simp only [shunt_counts.l0] at H
   by_cases c4 : x4_1 ≤ a0
   ·rw [if_pos c4] at H
    have c4b0 : decide (x4_1 ≤ a0) = true := decide_eq_true c4
    clear c4
    have H' := Aside0.mk H
    clear H
    go_wp2
    repeat (go_quiet (fail); try go_wp2)
    go_loopg [5, 14] k1 (fun kq v5 v14 w' => ∃ (x5_2 : Int) (x14_2 : Int), v5 = .int .i64 x5_2 ∧ v14 = .int .i64 x14_2 ∧ Aside0 (shunt_counts.l1 kq a0 x3_1 x4_1 x5_2 x4_1 x14_2 = some r) ∧ Aside0 (kq ≤ k1) ∧ Aside0 (Kd.R (Kd.int .i64) 3 w' w.heap.size (fun _ => True) u3 x3_1) ∧ Aside0 (Below w.heap.size w w'))
    case atStart => exact ⟨(0), (0), (by first | rfl | (simp; done) | (simp [*]; done)), (by first | rfl | (simp; done) | (simp [*]; done)), H', ⟨Nat.le_refl _⟩, ⟨by (with_reducible repeat (first | apply Kd.R_alloc | apply Kd.R_drewN | apply Kd.R_drew)); exact HO_3.out⟩, ⟨by repeat (first | (with_reducible first | exact HB.out | apply below_alloc | apply pw_below_drewN | apply below_drew1) | exact HB.out)⟩⟩
    case round =>
     clear H'
     try clear p2
     try clear c4
     try clear c4b0
     try clear p2
     obtain ⟨x5_2, x14_2, rfl, rfl, HA, HK2, HO_3, HB⟩ := hrel
     cases gk with
     | zero => exact absurd HA.out (by simp [shunt_counts.l1])
     | succ k2 =>
      have H := HA.out
      clear HA
      simp only [shunt_counts.l1] at H
      by_cases c5 : x14_2 < x4_1
      ·rw [if_pos c5] at H
       have c5b0 : decide (x14_2 < x4_1) = true := decide_eq_true c5
       clear c5
       by_cases c6 : 0 ≤ x14_2
       ·rw [if_pos c6] at H
        have c6b0 : decide (0 ≤ x14_2) = true := decide_eq_true c6
        clear c6
        by_cases c7 : x14_2 < (x3_1.length : Int)
        ·rw [if_pos c7] at H
         have c7b0 : decide (x14_2 < (x3_1.length : Int)) = true := decide_eq_true c7
         clear c7
         obtain ⟨ji8, hji8⟩ : ∃ j_ : Int, (wrap64 ((wrap64 (x4_1 - 1)) - x14_2)) = j_ := ⟨_, rfl⟩
         replace H : (if 0 ≤ (ji8) then (if (ji8) < (x3_1.length : Int) then (shunt_counts.l1 k2 a0 x3_1 x4_1 (wrap64 (x5_2 + (wrap64 ((rd x3_1 x14_2) * (rd x3_1 (ji8)))))) x4_1 (wrap64 (x14_2 + 1))) else (none)) else (none)) = some r := by first | (rw [hji8] at H; exact H) | (simp only [hji8] at H ⊢; exact H)
         have hji8w : (IntKind.i64.wrap ((wrap64 (x4_1 - 1)) - x14_2)) = ji8 := (i64_w _).trans hji8
         by_cases c9 : 0 ≤ (ji8)
         ·rw [if_pos c9] at H
          have c9b0 : decide (0 ≤ (ji8)) = true := decide_eq_true c9
          clear c9
          by_cases c10 : (ji8) < (x3_1.length : Int)
          ·rw [if_pos c10] at H
           have c10b0 : decide ((ji8) < (x3_1.length : Int)) = true := decide_eq_true c10
           clear c10
           have H' := Aside0.mk H
           clear H
           obtain ⟨Ao11, co11, eo11⟩ := Kd.R_slice HO_3.out
           subst eo11
           have p112 : 0 ≤ (x14_2 : Int) := of_decide_eq_true (by first | (with_reducible assumption) | assumption)
           have q112 : x14_2 < (x3_1.length : Int) := of_decide_eq_true (by first | (with_reducible assumption) | assumption)
           obtain ⟨ad112, e112, hx112_0⟩ := Kd.at_int (Kd.R_reads' HO_3.out).2.2 x14_2 p112 q112
           cases e112
           replace p112 := eq_true p112
           replace q112 := eq_true q112
           have p113 : 0 ≤ ((ji8) : Int) := of_decide_eq_true (by first | (with_reducible assumption) | assumption)
           have q113 : (ji8) < (x3_1.length : Int) := of_decide_eq_true (by first | (with_reducible assumption) | assumption)
           obtain ⟨ad113, e113, hx113_0⟩ := Kd.at_int (Kd.R_reads' HO_3.out).2.2 (ji8) p113 q113
           obtain rfl : ad112 = ad113 := (by injection e113)
           replace p113 := eq_true p113
           replace q113 := eq_true q113
           go_wp2
           repeat (go_quiet (fail); try go_wp2)
           go_roundg k2
           case measure => have := HK1.out; have := HK2.out; omega
           case rel => exact ⟨(wrap64 (x5_2 + (wrap64 ((rd x3_1 x14_2) * (rd x3_1 (ji8)))))), (wrap64 (x14_2 + 1)), (by first | rfl | (simp; done) | (simp only [← hji8] <;> (first | rfl | simp)) | (simp [*]; done)), (by first | rfl | (simp; done) | (simp [*]; done)), H', ⟨by have := HK1.out; have := HK2.out; omega⟩, ⟨by (with_reducible repeat (first | apply Kd.R_alloc | apply Kd.R_drewN | apply Kd.R_drew)); exact HO_3.out⟩, ⟨by repeat (first | (with_reducible first | exact HB.out | apply below_alloc | apply pw_below_drewN | apply below_drew1) | exact HB.out)⟩⟩
          ·rw [if_neg c10] at H
           exact absurd H (by simp)
         ·rw [if_neg c9] at H
          exact absurd H (by simp)
        ·rw [if_neg c7] at H
         exact absurd H (by simp)
       ·rw [if_neg c6] at H
        exact absurd H (by simp)
      ·rw [if_neg c5] at H
       have c5b0 : decide (x14_2 < x4_1) = false := decide_eq_false c5
       clear c5
       by_cases c12 : x3_1.length < 17592186044416
       ·rw [if_pos c12] at H
        have LMc12 := Aside0.mk c12
        clear c12
        obtain ⟨y114, hy114⟩ : ∃ y_ : List Int, y_ = (x3_1 ++ [x5_2]) := ⟨_, rfl⟩
        replace H : (shunt_counts.l0 k2 a0 y114 (wrap64 (x4_1 + 1))) = some r := by first | (rw [hy114]; with_reducible exact H) | (have H2_ := (Option.bind_some _ _).symm.trans H; rw [hy114]; with_reducible exact H2_) | (have H2_ := (Option.bind_some _ _).symm.trans H; with_reducible exact H2_) | with_reducible exact H | (rw [hy114]; exact H) | exact H
        have Ny114 := Aside0.mk hy114
        clear hy114
        have H' := Aside0.mk H
        clear H
        go_wp2_with (first | ((with_reducible refine gate_builtin (b := .append) (xs := #[.tmp 32, .tmp 34]) rfl ?_); at_builtin; refine Kd.R_append (Kd.int .i64) (w0 := w) w.heap.size rfl (.tmp 32) (.tmp 34) 22 3 (.int .i64 0) 8 rfl Try.underlying22 info3 rfl (by decide) (by omega) u3 x3_1 x5_2 [.int .i64 x5_2] (fun _ => True) (fun _ => False) rfl rfl ?aP (fun _ hk => hk.elim) ?aF ?aO ?aB ?aS ?aL ?_; (case aP => exact rfl); (case aB => exact (by repeat (first | (with_reducible first | exact HB.out | apply below_alloc | apply pw_below_drewN | apply below_drew1) | exact HB.out))); (case aF => exact (fun _ _ => trivial)); (case aO => exact (by (with_reducible repeat (first | apply Kd.R_alloc | apply Kd.R_drewN | apply Kd.R_drew)); exact HO_3.out)); (case aS => exact (below_size (by repeat (first | (with_reducible first | exact HB.out | apply below_alloc | apply pw_below_drewN | apply below_drew1) | exact HB.out)))); (case aL => have := LMc12.out; omega); intro v115 w13 ho hb hg hat; rw [← Ny114.out] at ho; have n0_ := Aside0.mk (hb); have n1_ := Aside0.mk (ho); clear HB; clear HO_3; have HB := n0_; have HO116 := n1_; clear n0_ n1_; clear ho hb hg hat))
        repeat (go_quiet (first | ((with_reducible refine gate_builtin (b := .append) (xs := #[.tmp 32, .tmp 34]) rfl ?_); at_builtin; refine Kd.R_append (Kd.int .i64) (w0 := w) w.heap.size rfl (.tmp 32) (.tmp 34) 22 3 (.int .i64 0) 8 rfl Try.underlying22 info3 rfl (by decide) (by omega) u3 x3_1 x5_2 [.int .i64 x5_2] (fun _ => True) (fun _ => False) rfl rfl ?aP (fun _ hk => hk.elim) ?aF ?aO ?aB ?aS ?aL ?_; (case aP => exact rfl); (case aB => exact (by repeat (first | (with_reducible first | exact HB.out | apply below_alloc | apply pw_below_drewN | apply below_drew1) | exact HB.out))); (case aF => exact (fun _ _ => trivial)); (case aO => exact (by (with_reducible repeat (first | apply Kd.R_alloc | apply Kd.R_drewN | apply Kd.R_drew)); exact HO_3.out)); (case aS => exact (below_size (by repeat (first | (with_reducible first | exact HB.out | apply below_alloc | apply pw_below_drewN | apply below_drew1) | exact HB.out)))); (case aL => have := LMc12.out; omega); intro v115 w13 ho hb hg hat; rw [← Ny114.out] at ho; have n0_ := Aside0.mk (hb); have n1_ := Aside0.mk (ho); clear HB; clear HO_3; have HB := n0_; have HO116 := n1_; clear n0_ n1_; clear ho hb hg hat)); try go_wp2_with (first | ((with_reducible refine gate_builtin (b := .append) (xs := #[.tmp 32, .tmp 34]) rfl ?_); at_builtin; refine Kd.R_append (Kd.int .i64) (w0 := w) w.heap.size rfl (.tmp 32) (.tmp 34) 22 3 (.int .i64 0) 8 rfl Try.underlying22 info3 rfl (by decide) (by omega) u3 x3_1 x5_2 [.int .i64 x5_2] (fun _ => True) (fun _ => False) rfl rfl ?aP (fun _ hk => hk.elim) ?aF ?aO ?aB ?aS ?aL ?_; (case aP => exact rfl); (case aB => exact (by repeat (first | (with_reducible first | exact HB.out | apply below_alloc | apply pw_below_drewN | apply below_drew1) | exact HB.out))); (case aF => exact (fun _ _ => trivial)); (case aO => exact (by (with_reducible repeat (first | apply Kd.R_alloc | apply Kd.R_drewN | apply Kd.R_drew)); exact HO_3.out)); (case aS => exact (below_size (by repeat (first | (with_reducible first | exact HB.out | apply below_alloc | apply pw_below_drewN | apply below_drew1) | exact HB.out)))); (case aL => have := LMc12.out; omega); intro v115 w13 ho hb hg hat; rw [← Ny114.out] at ho; have n0_ := Aside0.mk (hb); have n1_ := Aside0.mk (ho); clear HB; clear HO_3; have HB := n0_; have HO116 := n1_; clear n0_ n1_; clear ho hb hg hat)))
        go_roundg k2
        case measure => have := HK1.out; have := HK2.out; omega
        case rel => exact ⟨(y114), (wrap64 (x4_1 + 1)), (by first | rfl | (simp; done) | (simp [*]; done)), H', ⟨by have := HK1.out; have := HK2.out; omega⟩, ⟨by (with_reducible repeat (first | apply Kd.R_alloc | apply Kd.R_drewN | apply Kd.R_drew)); exact HO116.out⟩, ⟨by repeat (first | (with_reducible first | exact HB.out | apply below_alloc | apply pw_below_drewN | apply below_drew1) | exact HB.out)⟩⟩
       ·rw [if_neg c12] at H
        exact absurd H (by simp)
   ·rw [if_neg c4] at H
    have c4b0 : decide (x4_1 ≤ a0) = false := decide_eq_false c4
    clear c4
    obtain rfl := Option.some.inj H
    go_wp2
    repeat (go_quiet (fail); try go_wp2)
    go_ret
    exact ⟨_, by first | rfl | (simp [errW_none, errW_some] <;> rfl) | (simp [*, errW_none, errW_some] <;> rfl), by (with_reducible repeat (first | apply Kd.R_alloc | apply Kd.R_drewN | apply Kd.R_drew)); exact HO_3.out, by repeat (first | (with_reducible first | exact HB.out | apply below_alloc | apply pw_below_drewN | apply below_drew1) | exact HB.out)⟩

set_option maxHeartbeats 4000000 in
set_option maxRecDepth 100000 in
theorem rank_fn.calls (all : List Int) (Aa : Option Addr) (ca pa pf : Nat) (k : Nat) : ∀ (A : Option Addr) (c : Nat) (l : List Int) (less r : Int) (w : World)
  (ha : w.cell? ⟨pa, 0, none⟩ = some (.slice Aa all.length ca)) (hf : w.cell? ⟨pf, 0, none⟩ = some (.func (.func 55) #[] #[.pointer (some ⟨pa, 0, none⟩), .pointer (some ⟨pf, 0, none⟩)])) (hra : Kd.C (Kd.int .i64) w Aa all.length all) (hm : all.length ≤ 100)
  (hr : Kd.C (Kd.int .i64) w A l.length l) (hc : l.length ≤ c) (h : rankF all k l less = some r),
  Calls Try.prog 55 #[.slice A l.length c, .int .i64 less, .pointer (some ⟨pa, 0, none⟩), .pointer (some ⟨pf, 0, none⟩)] w fun e w' => e = .returned (.int .i64 r) ∧ Drawn0 w w' := by
 induction k with
 | zero => intro A c l less r w ha hf hra hm hr hc h; cases h
 | succ k ih =>
  intro A c l less r w ha hf hra hm hr hc h
  cases l with
  | nil =>
   obtain rfl : 0 = r := Option.some.inj h
   clear ih hr hra hf ha
   go_enter Try.func55, Try.ntmps55
   go_wp2
   go_ret
   exact ⟨rfl, Drawn0.refl _⟩
  | cons x t =>
   obtain ⟨l, hl⟩ : ∃ l, l = x :: t := ⟨_, rfl⟩
   unfold rankF at h
   rw [← hl] at hr hc h ⊢
   have hn1 : 0 < l.length := by rw [hl]; simp
   by_cases hcond : 0 ≤ less ∧ less ≤ 100 ∧ 0 ≤ x ∧ x ≤ 100 ∧ 1 ≤ x - less ∧ x - less ≤ l.length ∧ l.length < all.length
   case neg => rw [if_neg hcond] at h; cases h
   rw [if_pos hcond] at h
   obtain ⟨b1, b2, b3, b4, b5, b6, b7⟩ := hcond
   replace h := Option.bind_eq_some_iff.mp h
   obtain ⟨a, ha1, h⟩ := h
   replace h := Option.bind_eq_some_iff.mp h
   obtain ⟨b, hb1, h⟩ := h
   replace h := Option.some.inj h
   obtain ⟨first, hfirst⟩ : ∃ first, x - less = first := ⟨_, rfl⟩
   rw [hfirst] at ha1 hb1 h b5 b6
   obtain ⟨S, hS⟩ : ∃ S, rankSum all l.length first (first - 1).toNat 1 0 = S := ⟨_, rfl⟩
   rw [hS] at h
   obtain ⟨ad, ea, hx⟩ := Kd.at_int hr 0 (by omega) (by omega)
   cases ea
   have hx0 : rd l 0 = x := by rw [hl]; rfl
   rw [hx0] at hx
   replace hx : w.cell? ad = some (.int .i64 x) := by
    have e0 : ad.add (Int.toNat 0) = ad := by unfold Addr.add; split <;> simp_all
    rw [e0] at hx; exact hx
   obtain ⟨i0, hi0, _, hsz0, _⟩ := info_parts info3
   have hc1 := cut_mid (P := Try.prog) 22 3 .i64 .i64 Try.underlying22 hi0 1 hsz0 (some ad) l.length c 1 first (by omega) (by omega) (by omega) hc
   have hc2 := cut_from (P := Try.prog) 22 3 .i64 Try.underlying22 hi0 1 hsz0 (some ad) l.length c first (by omega) (by omega)
   have hr1 := Kd.C_mid (lo := 1) (hi := first.toNat) hr (by omega) (by omega) hc
   have hr2 := Kd.C_drop (m := first.toNat) hr (by omega) hc
   have e1 : ((l.take first.toNat).drop 1).length = first.toNat - (1 : Int).toNat := by simp; omega
   have e2 : (l.drop first.toNat).length = l.length - first.toNat := by simp
   obtain ⟨l1, hl1⟩ : ∃ l1, (l.take first.toNat).drop 1 = l1 := ⟨_, rfl⟩
   obtain ⟨l2, hl2⟩ : ∃ l2, l.drop first.toNat = l2 := ⟨_, rfl⟩
   rw [hl1] at hr1 ha1 e1
   rw [hl2] at hr2 hb1 e2
   rw [← e1] at hc1
   rw [← e2] at hc2
   have hs1 : (Kd.int .i64).sz = 1 := rfl
   rw [hs1] at hr1 hr2
   obtain ⟨A1, hA1⟩ : ∃ A1, (if c = 1 then (some ad : Option Addr) else (some ad : Option Addr).map (·.add (1 * 1))) = A1 := ⟨_, rfl⟩
   obtain ⟨A2, hA2⟩ : ∃ A2, (if c = first.toNat then (some ad : Option Addr) else (some ad : Option Addr).map (·.add (first.toNat * 1))) = A2 := ⟨_, rfl⟩
   rw [show (1 : Int).toNat = 1 from rfl] at hc1
   rw [hA1] at hc1 hr1
   rw [hA2] at hc2 hr2
   have HI1 := Aside0.mk (fun n => ih A1 (c - 1) l1 less a (w.drewN n) ha hf (Kd.C_drewN hra n) hm (Kd.C_drewN hr1 n) (by omega) ha1)
   have HI2 := Aside0.mk (fun n => ih A2 (c - first.toNat) l2 (less + first) b (w.drewN n) ha hf (Kd.C_drewN hra n) hm (Kd.C_drewN hr2 n) (by omega) hb1)
   have HCA := Aside0.mk hra
   have HS := Aside0.mk hS
   have HH := Aside0.mk h
   have hne : ((l.length : Int) == 0) = false := by rw [beq_eq_false_iff_ne]; omega
   have hne' : (l.length == 0) = false := by rw [beq_eq_false_iff_ne]; omega
   clear hr hr1 hr2 ih hra hS h ha1 hb1 hl hl1 hl2 hA1 hA2 e1 e2 hs1 hi0 hsz0 hx0
   go_enter Try.func55, Try.ntmps55
   go_wp2
   go_loopg [9, 10] (first - 1).toNat (fun kq v9 v10 wr => ∃ (sum i : Int), v9 = .int .i64 sum ∧ v10 = .int .i64 i ∧ Aside0 (kq = (first - i).toNat ∧ 1 ≤ i ∧ i ≤ first) ∧ Aside0 (rankSum all l.length first kq i sum = S) ∧ Drawn0 w wr)
   case atStart => exact ⟨0, 1, rfl, rfl, ⟨rfl, by omega, by omega⟩, HS, by repeat (first | exact Drawn0.refl _ | apply Drawn0.step)⟩
   case round =>
    clear HS
    obtain ⟨sum, i, rfl, rfl, HK, HS, ⟨nd, rfl⟩⟩ := hrel
    obtain ⟨k0, k1, k2⟩ := HK.out
    by_cases c2 : i < first
    ·have c2b0 : decide (i < first) = true := decide_eq_true c2
     obtain ⟨m, hm1⟩ : ∃ m, gk = m + 1 := ⟨gk - 1, by omega⟩
     have HS2 := Aside0.mk (show rankSum all l.length first m (i + 1) (wrap64 (sum + wrap64 (all.getD (i - 1).toNat 0 * all.getD ((l.length : Int) - i).toNat 0))) = S by rw [← HS.out, hm1]; rfl)
     obtain ⟨j1, hj1⟩ : ∃ j1, j1 = i - 1 := ⟨_, rfl⟩
     obtain ⟨j2, hj2⟩ : ∃ j2, j2 = (l.length : Int) - i := ⟨_, rfl⟩
     have p1 : 0 ≤ j1 := by omega
     have q1 : j1 < all.length := by omega
     have p2 : 0 ≤ j2 := by omega
     have q2 : j2 < all.length := by omega
     obtain ⟨ad1, e1, hx1⟩ := Kd.at_int HCA.out j1 p1 q1
     obtain ⟨ad2, e2, hx2⟩ := Kd.at_int HCA.out j2 p2 q2
     cases e1
     obtain rfl : ad1 = ad2 := by injection e2
     have hw1 : IntKind.i64.wrap (i - 1) = j1 := by rw [IntWalk.i64_in _ (by omega), hj1]
     have hw2 : IntKind.i64.wrap ((l.length : Int) - i) = j2 := by rw [IntWalk.i64_in _ (by omega), hj2]
     rw [← hj1, ← hj2] at HS2
     have HK2 := Aside0.mk (show m = (first - (i + 1)).toNat ∧ 1 ≤ i + 1 ∧ i + 1 ≤ first by omega)
     have HM := Aside0.mk (show m < gk by omega)
     have p1e := eq_true p1
     have q1e := eq_true q1
     have p2e := eq_true p2
     have q2e := eq_true q2
     have hi100 : i ≤ 200 := by omega
     clear hj1 hj2 e2 k0 c2 p1 q1 p2 q2 hm1
     go_wp2
     repeat (go_quiet (fail); try go_wp2)
     go_roundg m
     case measure => exact HM.out
     case rel => exact ⟨_, i + 1, rfl, rfl, HK2, HS2, by repeat (first | exact Drawn0.refl _ | apply Drawn0.step)⟩
    ·have c2b0 : decide (i < first) = false := decide_eq_false c2
     have hsum : sum = S := by
      have hz : gk = 0 := by omega
      rw [← HS.out, hz]
      rfl
     subst hsum
     obtain ⟨j1, hj1⟩ : ∃ j1, j1 = (l.length : Int) - first := ⟨_, rfl⟩
     have p1 : 0 ≤ j1 := by omega
     have q1 : j1 < all.length := by omega
     obtain ⟨ad1, e1, hx1⟩ := Kd.at_int HCA.out j1 p1 q1
     cases e1
     have hw1 : IntKind.i64.wrap ((l.length : Int) - first) = j1 := by rw [IntWalk.i64_in _ (by omega), hj1]
     have hw2 : IntKind.i64.wrap (less + first) = less + first := by rw [IntWalk.i64_in _ (by omega)]
     have hfin : wrap64 (wrap64 (sum + wrap64 (a * rd all j1)) + b) = r := by
      have := HH.out
      rw [← hj1] at this
      exact this
     have HF := Aside0.mk hfin
     have p1e := eq_true p1
     have q1e := eq_true q1
     clear hj1 k0 c2 p1 q1 hfin
     go_wp2
     repeat (go_quiet (first | (go_at_call 55; (with_reducible refine (HI1.out _).mono ?_); rintro e w' ⟨rfl, ⟨nd2, rfl⟩⟩; (try first | exact ⟨rfl, _, World.drewN_drewN _ _ _⟩ | exact ⟨rfl, _, Eq.trans (World.drewN_drewN _ _ _) (congrArg (World.drewN _) (Nat.add_assoc _ _ _))⟩)) | (go_at_call 55; (with_reducible refine (HI2.out _).mono ?_); rintro e w' ⟨rfl, ⟨nd2, rfl⟩⟩; (try first | exact ⟨rfl, _, World.drewN_drewN _ _ _⟩ | exact ⟨rfl, _, Eq.trans (World.drewN_drewN _ _ _) (congrArg (World.drewN _) (Nat.add_assoc _ _ _))⟩))); try go_wp2)
     go_ret
     exact ⟨by rw [← HF.out]; rfl, by repeat (first | exact Drawn0.refl _ | apply Drawn0.step)⟩
def shunt_Rank.f (k : Nat) (l0 : List Int) : Option (Int × Int) :=
 if isOrderB l0 = true then
  (if l0.length ≤ 30 then
   (shunt_block.f k l0).bind fun b => (if b = [] then (shunt_counts.f k (l0.length : Int)).bind fun all => (if all.length ≤ 100 then (rankF all (l0.length + 1) l0 0).bind fun r => some (r, 0) else none) else some (0, 6))
  else some (0, 2))
 else some (0, 2)
theorem shunt_Rank.mono : ∀ a0 k, LeO (shunt_Rank.f k a0) (shunt_Rank.f (k + 1) a0) := by
 intro a0 k
 unfold shunt_Rank.f
 repeat' first
  | exact LeO.refl _
  | refine LeO.ite ?_ ?_
  | refine LeO.bind (shunt_block.mono _ _) (fun _ => ?_)
  | refine LeO.bind (shunt_counts.mono _ _) (fun _ => ?_)
set_option maxHeartbeats 4000000 in
set_option maxRecDepth 100000 in
theorem shunt_Rank.calls (k : Nat) (A0 : Option Addr) (c0 : Nat) (l0 : List Int) (r1 r2 : Int) (w : World) (hr0 : Kd.C (Kd.int .i64) w A0 l0.length l0) (hc0 : l0.length ≤ c0) (h : shunt_Rank.f k l0 = some (r1, r2)) :
  Calls Try.prog 19 #[.slice A0 l0.length c0] w fun e w' => e = .returned (.tuple #[.int .i64 r1, .int .i64 r2]) ∧ Below w.heap.size w w' := by
 have HR0 := Aside0.mk hr0
 have HC0 := Aside0.mk hc0
 have hmax : (l0.length : Int) ≤ 9223372036854775807 := by have := hr0.2.1; omega
 clear hr0 hc0
 unfold shunt_Rank.f at h
 cases hord : isOrderB l0 with
 | false =>
  rw [hord, if_neg (by decide)] at h
  injection h with h
  injection h with e1 e2
  subst e1; subst e2
  have HO := Aside0.mk (shunt_isOrder.calls A0 c0 l0 false w HR0.out HC0.out (by unfold shunt_isOrder.f; rw [hord]))
  clear hord
  go_enter Try.func19, Try.ntmps19
  go_wp2_with (go_at_call 52; go_must ((with_reducible refine HO.out.mono ?_); rintro e w1 ⟨rfl, hb1⟩; have HB1 := Aside0.mk hb1; clear hb1))
  go_ret2
  exact ⟨rfl, HB1.out⟩
 | true =>
  rw [hord, if_pos rfl] at h
  have HO := Aside0.mk (shunt_isOrder.calls A0 c0 l0 true w HR0.out HC0.out (by unfold shunt_isOrder.f; rw [hord]))
  clear hord
  by_cases h30 : l0.length ≤ 30
  case neg =>
   rw [if_neg h30] at h
   injection h with h
   injection h with e1 e2
   subst e1; subst e2
   have c1 : decide (30 < l0.length) = true := decide_eq_true (by omega)
   have c2 : decide (30 < (l0.length : Int)) = true := decide_eq_true (by omega)
   clear h30
   go_enter Try.func19, Try.ntmps19
   go_wp2_with (go_at_call 52; go_must ((with_reducible refine HO.out.mono ?_); rintro e w1 ⟨rfl, hb1⟩; have HB1 := Aside0.mk hb1; clear hb1))
   go_ret2
   exact ⟨rfl, HB1.out⟩
  case pos =>
   rw [if_pos h30] at h
   have c1 : decide (30 < l0.length) = false := decide_eq_false (by omega)
   have c2 : decide (30 < (l0.length : Int)) = false := decide_eq_false (by omega)
   replace h := Option.bind_eq_some_iff.mp h
   obtain ⟨b, hb, h⟩ := h
   have HBL := Aside0.mk (fun (w1 : World) (h1 : Below w.heap.size w w1) => shunt_block.callsN k A0 c0 l0 b w1 (Kd.C_below HR0.out h1) HC0.out hb)
   have q22 : ∀ (w : World) (a : Option Addr) (n c n' c' : Nat), (binOp .neq 22 (.slice a n c) (.slice none n' c')).run Try.prog w = .ok (.bool (!a.isNone)) w := fun w a n c n' c' => run_neq_slice_nil_any w _ _ a n c n' c' Try.underlying22
   by_cases hbn : b = []
   case neg =>
    rw [if_neg hbn] at h
    injection h with h
    injection h with e1 e2
    subst e1; subst e2
    have hbl : 0 < b.length := List.length_pos_iff.2 hbn
    clear h30 hb hbn
    go_enter Try.func19, Try.ntmps19
    go_wp2_with (first | (go_at_call 52; go_must ((with_reducible refine HO.out.mono ?_); rintro e w1 ⟨rfl, hb1⟩; have HB1 := Aside0.mk hb1; clear hb1)) | (go_at_call 53; go_must ((with_reducible refine (HBL.out _ HB1.out).mono ?_); rintro e w2 ⟨vb, rfl, hR2, hB2, _⟩; obtain ⟨A2, c2', e2⟩ := Kd.R_slice hR2; subst e2; obtain ⟨g2, e3⟩ := R_addr hR2 hbl; subst e3; have HB2 := Aside0.mk hB2; clear hR2 hB2)))
    go_ret2
    exact ⟨rfl, below_step HB1.out HB2.out⟩
   case pos =>
    rw [if_pos hbn] at h
    subst hbn
    replace h := Option.bind_eq_some_iff.mp h
    obtain ⟨all, hall, h⟩ := h
    by_cases h100 : all.length ≤ 100
    case neg => rw [if_neg h100] at h; cases h
    rw [if_pos h100] at h
    replace h := Option.bind_eq_some_iff.mp h
    obtain ⟨r, hr, h⟩ := h
    injection h with h
    injection h with e1 e2
    subst e1; subst e2
    have HCN := Aside0.mk (fun (w1 : World) => shunt_counts.calls k (l0.length : Int) all w1 hall)
    have HRK := Aside0.mk hr
    have H100 := Aside0.mk h100
    have hmf : ∀ (fn : Fn) (first cap : Array Value) (w : World), (Instr.makeFunc fn first cap).run Try.prog w = .ok (.func fn first cap) w := fun _ _ _ _ => rfl
    clear h30 hb hall hr h100
    go_enter Try.func19, Try.ntmps19
    go_wp2_with (first | (go_at_call 52; go_must ((with_reducible refine HO.out.mono ?_); rintro e w1 ⟨rfl, hb1⟩; have HB1 := Aside0.mk hb1; clear hb1)) | (go_at_call 53; go_must ((with_reducible refine (HBL.out _ HB1.out).mono ?_); rintro e w2 ⟨vb, rfl, hR2, hB2, hnil⟩; have e2 := hnil (by simp); subst e2; have HB2 := Aside0.mk (below_step HB1.out hB2); clear hR2 hB2 hnil)) | (go_at_call 54; go_must ((with_reducible refine (HCN.out _).mono ?_); rintro e w3 ⟨va, rfl, hR3, hB3⟩; obtain ⟨A3, c3, e3⟩ := Kd.R_slice hR3; subst e3; have HB3 := Aside0.mk (below_step HB2.out hB3); have HR3 := Aside0.mk (Kd.R_reads' hR3).2.2; clear hR3 hB3)) | (go_at_call 55; go_must ((with_reducible refine (rank_fn.calls all A3 c3 w3.heap.size (w3.heap.size + 1) (l0.length + 1) A0 c0 l0 0 r ((w3.alloc (.cells #[.slice A3 all.length c3] 22)).alloc (.cells #[(.func (.func 55) #[] #[.pointer (some ⟨w3.heap.size, 0, none⟩), .pointer (some ⟨w3.heap.size + 1, 0, none⟩)])] 33)) ((blk_cell (blk_alloc (heap_alloc_new w3 _) _) 0).trans rfl) ((blk_cell (show ((w3.alloc (.cells #[.slice A3 all.length c3] 22)).alloc (.cells #[(.func (.func 55) #[] #[.pointer (some ⟨w3.heap.size, 0, none⟩), .pointer (some ⟨w3.heap.size + 1, 0, none⟩)])] 33)).heap[w3.heap.size + 1]? = some _ by simpa using heap_alloc_new (w3.alloc (.cells #[.slice A3 all.length c3] 22)) (.cells #[(.func (.func 55) #[] #[.pointer (some ⟨w3.heap.size, 0, none⟩), .pointer (some ⟨w3.heap.size + 1, 0, none⟩)])] 33)) 0).trans rfl) (Kd.C_alloc (Kd.C_alloc HR3.out _) _) H100.out (Kd.C_alloc (Kd.C_alloc (Kd.C_below HR0.out HB3.out) _) _) HC0.out HRK.out).mono ?_); rintro e w4 ⟨rfl, ⟨nd, rfl⟩⟩)))
    go_ret2
    exact ⟨rfl, pw_below_drewN (below_alloc (below_alloc HB3.out _) _) _⟩

/-- Only rows of ints and states of the line's type, from block base on, may turn. -/
structure Turn (base : Nat) (w w' : World) : Prop where
 os : w'.os = w.os
 tape : w'.tape = w.tape
 output : w'.output = w.output
 size : w.heap.size ≤ w'.heap.size
 block : ∀ k, k < w.heap.size → w'.heap[k]? = w.heap[k]? ∨ (base ≤ k ∧ ∃ cs t, w.heap[k]? = some (.cells cs t (0, 0)) ∧ (t = 71 ∨ t = 3))
theorem Turn.refl (base : Nat) (w : World) : Turn base w w := ⟨rfl, rfl, rfl, Nat.le_refl _, fun _ _ => .inl rfl⟩
theorem Turn.trans {base : Nat} {w w1 w2 : World} (h : Turn base w w1) (h' : Turn base w1 w2) : Turn base w w2 :=
 ⟨h'.os.trans h.os, h'.tape.trans h.tape, h'.output.trans h.output, Nat.le_trans h.size h'.size, fun k hk => by
  rcases h.block k hk with e | e
  ·rcases h'.block k (Nat.lt_of_lt_of_le hk h.size) with e' | ⟨hb, cs, t, hc, ht⟩
   ·exact .inl (e'.trans e)
   ·exact .inr ⟨hb, cs, t, by rw [← e]; exact hc, ht⟩
  ·exact .inr e⟩
theorem Turn.below {base : Nat} {w0 w w' : World} (hb : Below base w0 w) (hbase : base ≤ w.heap.size) (h : Turn base w w') : Below base w0 w' :=
 ⟨h.os.trans hb.os, h.tape.trans hb.tape, h.output.trans hb.output, Nat.le_trans hb.size h.size, fun i hi => by
  rcases h.block i (Nat.lt_of_lt_of_le hi hbase) with e | ⟨hb', _⟩
  ·exact e.trans (hb.block i hi)
  ·omega⟩
theorem Turn.drewN (base : Nat) (w : World) (n : Nat) : Turn base w (w.drewN n) := ⟨rfl, rfl, rfl, Nat.le_refl _, fun _ _ => .inl rfl⟩
def LineIs (base : Nat) (W : World) (g : Nat) (its lft : List Int) : Prop :=
 ∃ vi vl, W.heap[g]? = some (.cells #[vi, vl] 71 (0, 0)) ∧ base ≤ g ∧ Kd.R (Kd.int .i64) 3 W base (fun k => some k ≠ vl.ownBlock) vi its ∧ Kd.R (Kd.int .i64) 3 W base (fun k => some k ≠ vi.ownBlock) vl lft
theorem LineIs.drewN {base : Nat} {W : World} {g : Nat} {its lft : List Int} (h : LineIs base W g its lft) (n : Nat) : LineIs base (W.drewN n) g its lft := by
 obtain ⟨vi, vl, hb, hg, h1, h2⟩ := h
 exact ⟨vi, vl, hb, hg, Kd.R_drewN h1 n, Kd.R_drewN h2 n⟩
theorem LineIs.drew {base : Nat} {W : World} {g : Nat} {its lft : List Int} (h : LineIs base W g its lft) : LineIs base W.drew g its lft := by
 obtain ⟨vi, vl, hb, hg, h1, h2⟩ := h
 exact ⟨vi, vl, hb, hg, Kd.R_drew h1, Kd.R_drew h2⟩
theorem Turn.drew (base : Nat) (w : World) : Turn base w w.drew := ⟨rfl, rfl, rfl, Nat.le_refl _, fun _ _ => .inl rfl⟩
set_option maxHeartbeats 800000 in
theorem stack_top.calls (base : Nat) (g : Nat) (its lft : List Int) (w : World) (h : LineIs base w g its lft) :
  Calls Try.prog 56 #[.pointer (some ⟨g, 0, none⟩)] w fun e w' => e = .returned (.tuple #[.int .i64 (its.getLast?.getD 0), .bool (!its.isEmpty)]) ∧ Drawn0 w w' := by
 obtain ⟨vi, vl, hb, hg, h1, h2⟩ := h
 obtain ⟨A, c, rfl⟩ := Kd.R_slice h1
 have hr := (Kd.R_reads' h1).2.2
 have hc0 : w.cell? ⟨g, 0, none⟩ = some (.slice A its.length c) := (blk_cell hb 0).trans rfl
 clear h1 h2 hb hg
 by_cases he : its = []
 ·subst he
  clear hr
  go_enter Try.func56, Try.ntmps56
  go_wp2
  go_ret2
  exact ⟨rfl, Drawn0.refl _⟩
 ·have hn : 0 < its.length := by cases its <;> simp at he ⊢
  have hm : (its.length : Int) ≤ 9223372036854775807 := by have := hr.2.1; omega
  obtain ⟨jt, hjt⟩ : ∃ jt : Int, jt = (its.length : Int) - 1 := ⟨_, rfl⟩
  have p0 : 0 ≤ jt := by omega
  have q0 : jt < (its.length : Int) := by omega
  obtain ⟨ad, ea, hx⟩ := Kd.at_int hr jt p0 q0
  cases ea
  have hv : its.getLast?.getD 0 = rd its jt := by
   unfold rd
   rw [List.getLast?_eq_getElem?, List.getD_eq_getElem?_getD, hjt, show ((its.length : Int) - 1).toNat = its.length - 1 by omega]
  have hjw : IntKind.i64.wrap ((its.length : Int) - 1) = jt := by rw [IntWalk.i64_in _ (by omega), hjt]
  have hne : ((its.length : Int) == 0) = false := by rw [beq_eq_false_iff_ne]; omega
  have hne' : (its.length == 0) = false := by rw [beq_eq_false_iff_ne]; omega
  have he' : its.isEmpty = false := by cases its <;> simp at he ⊢
  rw [hv, he']
  replace p0 := eq_true p0
  replace q0 := eq_true q0
  clear hv he he' hr hjt hn hm
  go_enter Try.func56, Try.ntmps56
  go_wp2
  go_quiet (fail)
  go_wp2
  go_ret2
  exact ⟨rfl, by repeat (first | exact Drawn0.refl _ | apply Drawn0.step)⟩
set_option maxHeartbeats 800000 in
theorem stack_push.calls (base : Nat) (g : Nat) (its lft : List Int) (x : Int) (w : World) (h : LineIs base w g its lft) (hl : its.length < 17592186044415) (hbase : base ≤ w.heap.size) :
  Calls Try.prog 58 #[.pointer (some ⟨g, 0, none⟩), .int .i64 x] w fun e w' => e = .returned (.tuple #[]) ∧ LineIs base w' g (its ++ [x]) lft ∧ Turn base w w' := by
 obtain ⟨vi, vl, hb, hg, h1, h2⟩ := h
 have hc0 : w.cell? ⟨g, 0, none⟩ = some vi := (blk_cell hb 0).trans rfl
 have hne1 : some g ≠ vi.ownBlock := Kd.R_ne h1 hb (by decide)
 obtain ⟨v1, w1, hrun, ho, hB1, hgr, hat⟩ := append_one (Kd.int .i64) (P := Try.prog) (w0 := w) (W := w) base 22 22 3 (.int .i64 0) 8 Try.underlying22 info3 rfl (by decide) (by omega) (v := vi) (xs := its) x [.int .i64 x] (ok := fun k => some k ≠ vl.ownBlock) (fun _ => False) rfl (fun _ h => h.elim) (fun k hk => by
   have hob := Kd.R_own h2
   obtain ⟨inner, hob⟩ := hob
   intro he
   have := own_lt hob k he.symm
   omega) h1 (Below.refl _ _) hbase (by omega)
 obtain ⟨A1, c1, hv1⟩ := Kd.R_slice ho
 have hb1 : w1.heap[g]? = some (.cells #[vi, vl] 71 (0, 0)) := blk_grown hb hgr hne1
 have h2' := Kd.R_after (Kd.R_mono h2 (fun k hk => ⟨trivial, hk⟩) : Kd.R (Kd.int .i64) 3 w base (fun k => True ∧ some k ≠ vi.ownBlock) vl lft) hgr hat
 have HL : LineIs base (w1.setCell ⟨g, 0, none⟩ v1) g (its ++ [x]) lft :=
  ⟨v1, vl, blk_put hb1 0 v1 rfl, hg, Kd.R_set ho hb1 (by simp [Kd.int, Kd.scalar]) 0 v1, Kd.R_set (Kd.R_mono h2' (fun k hk => hk.2)) hb1 (by simp [Kd.int, Kd.scalar]) 0 v1⟩
 have HT : Turn base w (w1.setCell ⟨g, 0, none⟩ v1) := ⟨hB1.os, hB1.tape, hB1.output, by simpa [World.setCell] using hgr.size, fun k hk => by
  by_cases hkg : k = g
  ·subst hkg
   exact .inr ⟨hg, _, _, hb, .inl rfl⟩
  ·by_cases hko : some k = vi.ownBlock
   ·obtain ⟨inner, hob⟩ := Kd.R_own h1
    obtain ⟨cells, hcl⟩ := own_typed hob k hko.symm
    exact .inr ⟨own_base hob k hko.symm, _, _, hcl, .inr rfl⟩
   ·exact .inl ((Below.heap_setCell w1 _ _ k hkg).trans (hgr.block k hk hko))⟩
 have hc1 : w1.cell? ⟨g, 0, none⟩ = some vi := (blk_cell hb1 0).trans rfl
 have hf1 : w1.frozen? ⟨g, 0, none⟩ = false := blk_frozen hb1 0
 subst hv1
 simp only [List.length_append, List.length_cons, List.length_nil, Nat.zero_add] at HL HT hrun
 have HRUN := Aside0.mk hrun
 have HL' := Aside0.mk HL
 have HT' := Aside0.mk HT
 clear hrun HL HT h1 h2 h2' hb hb1 ho hgr hat hB1 hne1
 go_enter Try.func58, Try.ntmps58
 go_wp2_with (at_builtin; go_must (refine wpList_appendRun _ rfl _ _ _ rfl HRUN.out rfl rfl rfl ?_))
 go_end0
 exact ⟨rfl, HL'.out, HT'.out⟩
theorem Turn.cell {base g : Nat} {w : World} {cs : Array Value} (hg : base ≤ g) (hb : w.heap[g]? = some (.cells cs 71 (0, 0))) (i : Nat) (u : Value) : Turn base w (w.setCell ⟨g, i, none⟩ u) :=
 have hB := (Below.refl g w).setCell (p := ⟨g, i, none⟩) (Nat.le_refl _) u
 ⟨hB.os, hB.tape, hB.output, by simp [World.setCell], fun k hk => by
  by_cases hkg : k = g
  ·subst hkg
   exact .inr ⟨hg, _, _, hb, .inl rfl⟩
  ·exact .inl (Below.heap_setCell w _ _ k hkg)⟩
set_option maxHeartbeats 800000 in
theorem stack_pop.calls (base : Nat) (g : Nat) (its lft : List Int) (w : World) (h : LineIs base w g its lft) (hn : 0 < its.length) :
  Calls Try.prog 76 #[.pointer (some ⟨g, 0, none⟩)] w fun e w' => e = .returned (.tuple #[]) ∧ LineIs base w' g its.dropLast lft ∧ Turn base w w' := by
 obtain ⟨vi, vl, hb, hg, h1, h2⟩ := h
 obtain ⟨A, c, rfl⟩ := Kd.R_slice h1
 have hr := (Kd.R_reads' h1).2.2
 have hc0 : w.cell? ⟨g, 0, none⟩ = some (.slice A its.length c) := (blk_cell hb 0).trans rfl
 have hf0 : w.frozen? ⟨g, 0, none⟩ = false := blk_frozen hb 0
 have hcap : its.length ≤ c := (Kd.R_reads' h1).2.1
 have hm : (its.length : Int) ≤ 9223372036854775807 := by have := hr.2.1; omega
 obtain ⟨jt, hjt⟩ : ∃ jt : Int, jt = (its.length : Int) - 1 := ⟨_, rfl⟩
 have hjw : IntKind.i64.wrap ((its.length : Int) - 1) = jt := by rw [IntWalk.i64_in _ (by omega), hjt]
 obtain ⟨i0, hi0, _, _, _⟩ := info_parts info3
 have hcut := cut_to (P := Try.prog) 22 3 .i64 Try.underlying22 hi0 A its.length c jt (by omega) (by omega) hcap
 have HL : LineIs base (w.setCell ⟨g, 0, none⟩ (.slice A jt.toNat c)) g its.dropLast lft := by
  have h3 := Kd.R_take (m := jt.toNat) h1 (by omega)
  rw [show its.take jt.toNat = its.dropLast by rw [List.dropLast_eq_take]; congr 1; omega] at h3
  have e1 : (Value.slice A jt.toNat c).ownBlock = (Value.slice A its.length c).ownBlock := by cases A <;> rfl
  exact ⟨_, vl, blk_put hb 0 _ rfl, hg, Kd.R_set h3 hb (by simp [Kd.int, Kd.scalar]) 0 _, by rw [e1]; exact Kd.R_set h2 hb (by simp [Kd.int, Kd.scalar]) 0 _⟩
 have HT := Turn.cell hg hb 0 (.slice A jt.toNat c)
 have p0 := eq_true (show 0 ≤ jt by omega)
 have HL' := Aside0.mk HL
 have HT' := Aside0.mk HT
 clear HL HT h1 h2 hr hn hm hjt hcap hi0
 go_enter Try.func76, Try.ntmps76
 go_wp2
 go_region
 all_goals (go_end0; exact ⟨rfl, HL'.out.drew, HT'.out.trans (Turn.drew _ _)⟩)
set_option maxHeartbeats 800000 in
theorem line_isNext.calls (base : Nat) (g : Nat) (its lft : List Int) (b : Bool) (w : World) (h : LineIs base w g its lft) (hb : b = (!its.isEmpty && decide (its.getLast?.getD 0 = (lft.length : Int) + 1))) (hl : lft.length < 17592186044415) :
  Calls Try.prog 61 #[.pointer (some ⟨g, 0, none⟩)] w fun e w' => e = .returned (.bool b) ∧ Drawn0 w w' := by
 have HT := stack_top.calls base g its lft w h
 obtain ⟨vi, vl, hbk, hg, h1, h2⟩ := h
 obtain ⟨A, c, rfl⟩ := Kd.R_slice h2
 have hc0 : w.cell? ⟨g, 1, none⟩ = some (.slice A lft.length c) := (blk_cell hbk 1).trans rfl
 obtain ⟨t, ht⟩ : ∃ t, t = its.getLast?.getD 0 := ⟨_, rfl⟩
 rw [← ht] at HT hb
 have HT' := Aside0.mk HT
 clear HT h1 h2 hbk ht
 cases he : its.isEmpty with
 | true =>
  rw [he] at hb HT'
  simp at hb
  subst hb
  clear he
  go_enter Try.func61, Try.ntmps61
  go_wp2_with (go_at_call 56; go_must ((with_reducible refine HT'.out.mono ?_); rintro e w' ⟨rfl, ⟨nd, rfl⟩⟩))
  go_ret
  exact ⟨rfl, by repeat (first | exact Drawn0.refl _ | apply Drawn0.step)⟩
 | false =>
  rw [he] at hb HT'
  clear he
  have e1 : (t == (lft.length : Int) + 1) = b := by rw [hb, Bool.eq_iff_iff]; simp
  clear hb
  go_enter Try.func61, Try.ntmps61
  go_wp2_with (go_at_call 56; go_must ((with_reducible refine HT'.out.mono ?_); rintro e w' ⟨rfl, ⟨nd, rfl⟩⟩))
  go_ret
  exact ⟨by simp [e1], by repeat (first | exact Drawn0.refl _ | apply Drawn0.step)⟩
theorem LineIs.leftPush {base : Nat} {w : World} {g : Nat} {its lft : List Int} (h : LineIs base w g its lft) (x : Int) (hl : lft.length < 17592186044415) (hbase : base ≤ w.heap.size) :
  ∃ A c w1 A1 c1, w.cell? ⟨g, 1, none⟩ = some (.slice A lft.length c) ∧ (Builtin.append_ #[22, 22] 22 #[.slice A lft.length c, .slice (some ⟨w.heap.size, 0, none⟩) 1 1]).run Try.prog (w.alloc (.cells #[.int .i64 x] 3)) = .ok (.slice A1 (lft.length + 1) c1) w1 ∧
   w1.cell? ⟨g, 1, none⟩ = some (.slice A lft.length c) ∧ w1.frozen? ⟨g, 1, none⟩ = false ∧ LineIs base (w1.setCell ⟨g, 1, none⟩ (.slice A1 (lft.length + 1) c1)) g its (lft ++ [x]) ∧ Turn base w (w1.setCell ⟨g, 1, none⟩ (.slice A1 (lft.length + 1) c1)) := by
 obtain ⟨vi, vl, hb, hg, h1, h2⟩ := h
 have hc0 : w.cell? ⟨g, 1, none⟩ = some vl := (blk_cell hb 1).trans rfl
 have hne1 : some g ≠ vl.ownBlock := Kd.R_ne h2 hb (by decide)
 obtain ⟨v1, w1, hrun, ho, hB1, hgr, hat⟩ := append_one (Kd.int .i64) (P := Try.prog) (w0 := w) (W := w) base 22 22 3 (.int .i64 0) 8 Try.underlying22 info3 rfl (by decide) (by omega) (v := vl) (xs := lft) x [.int .i64 x] (ok := fun k => some k ≠ vi.ownBlock) (fun _ => False) rfl (fun _ h => h.elim) (fun k hk => by
   obtain ⟨inner, hob⟩ := Kd.R_own h1
   intro he
   have := own_lt hob k he.symm
   omega) h2 (Below.refl _ _) hbase (by omega)
 obtain ⟨A1, c1, hv1⟩ := Kd.R_slice ho
 obtain ⟨A, c, hvl⟩ := Kd.R_slice h2
 have hb1 : w1.heap[g]? = some (.cells #[vi, vl] 71 (0, 0)) := blk_grown hb hgr hne1
 have h1' := Kd.R_after (Kd.R_mono h1 (fun k hk => ⟨trivial, hk⟩) : Kd.R (Kd.int .i64) 3 w base (fun k => True ∧ some k ≠ vl.ownBlock) vi its) hgr hat
 have HL : LineIs base (w1.setCell ⟨g, 1, none⟩ v1) g its (lft ++ [x]) :=
  ⟨vi, v1, blk_put hb1 1 v1 rfl, hg, Kd.R_set (Kd.R_mono h1' (fun k hk => hk.2)) hb1 (by simp [Kd.int, Kd.scalar]) 1 v1, Kd.R_set ho hb1 (by simp [Kd.int, Kd.scalar]) 1 v1⟩
 have HT : Turn base w (w1.setCell ⟨g, 1, none⟩ v1) := ⟨hB1.os, hB1.tape, hB1.output, by simpa [World.setCell] using hgr.size, fun k hk => by
  by_cases hkg : k = g
  ·subst hkg
   exact .inr ⟨hg, _, _, hb, .inl rfl⟩
  ·by_cases hko : some k = vl.ownBlock
   ·obtain ⟨inner, hob⟩ := Kd.R_own h2
    obtain ⟨cells, hcl⟩ := own_typed hob k hko.symm
    exact .inr ⟨own_base hob k hko.symm, _, _, hcl, .inr rfl⟩
   ·exact .inl ((Below.heap_setCell w1 _ _ k hkg).trans (hgr.block k hk hko))⟩
 have hc1 : w1.cell? ⟨g, 1, none⟩ = some vl := (blk_cell hb1 1).trans rfl
 have hf1 : w1.frozen? ⟨g, 1, none⟩ = false := blk_frozen hb1 1
 subst hv1
 subst hvl
 simp only [List.length_append, List.length_cons, List.length_nil, Nat.zero_add] at HL HT hrun
 exact ⟨A, c, w1, A1, c1, hc0, hrun, hc1, hf1, HL, HT⟩
set_option maxHeartbeats 800000 in
theorem line_leave.calls (base : Nat) (g : Nat) (its lft : List Int) (w : World) (h : LineIs base w g its lft) (hl : lft.length < 17592186044415) (hbase : base ≤ w.heap.size) :
  Calls Try.prog 57 #[.pointer (some ⟨g, 0, none⟩)] w fun e w' => e = .returned (.bool (!its.isEmpty)) ∧ LineIs base w' g its.dropLast (if its.isEmpty then lft else lft ++ [its.getLast?.getD 0]) ∧ Turn base w w' := by
 have HT' := Aside0.mk (stack_top.calls base g its lft w h)
 have HH := Aside0.mk h
 clear h
 cases he : its.isEmpty with
 | true =>
  obtain rfl : its = [] := by simpa using he
  clear he
  have e2 : LineIs base w g ([] : List Int).dropLast (if true = true then lft else lft ++ [([] : List Int).getLast?.getD 0]) := HH.out
  have E2 := Aside0.mk e2
  clear e2
  go_enter Try.func57, Try.ntmps57
  go_wp2_with (go_at_call 56; go_must ((with_reducible refine HT'.out.mono ?_); rintro e w' ⟨rfl, ⟨nd, rfl⟩⟩))
  go_ret
  exact ⟨rfl, E2.out.drewN _, Turn.drewN _ _ _⟩
 | false =>
  have hn : 0 < its.length := by cases its <;> simp at he ⊢
  rw [he] at HT'
  clear he
  obtain ⟨t, ht⟩ : ∃ t, t = its.getLast?.getD 0 := ⟨_, rfl⟩
  obtain ⟨its2, h2⟩ : ∃ l, l = its.dropLast := ⟨_, rfl⟩
  have HP := Aside0.mk (fun n => stack_pop.calls base g its lft (w.drewN n) (HH.out.drewN n) hn)
  rw [← ht] at HT' ⊢
  rw [← h2] at HP ⊢
  clear ht h2 hn
  have e2 : (if (false : Bool) = true then lft else lft ++ [t]) = lft ++ [t] := rfl
  rw [e2]
  clear e2
  go_enter Try.func57, Try.ntmps57
  go_wp2_with (first | (go_at_call 56; go_must ((with_reducible refine HT'.out.mono ?_); rintro e w' ⟨rfl, ⟨nd, rfl⟩⟩)) | (go_at_call 76; go_must ((with_reducible refine (HP.out _).mono ?_); rintro e w2 ⟨rfl, hL2, hT2⟩; have hsz := Nat.le_trans hbase hT2.size; obtain ⟨A, c, w3, A1, c1, q0, q1, q2, q3, q4, q5⟩ := hL2.leftPush t hl hsz; have Q1 := Aside0.mk q1; have Q4 := Aside0.mk q4; have Q5 := Aside0.mk ((Turn.drewN _ _ _).trans (hT2.trans q5)); clear hL2 hT2 hsz q1 q4 q5)) | (at_builtin; go_must (refine wpList_appendRun _ rfl _ _ _ rfl Q1.out rfl rfl rfl ?_)))
  go_ret
  exact ⟨rfl, Q4.out, Q5.out⟩

def shunt_Pass.f (l0 : List Int) : Option (List Int × Int) :=
 if isOrderB l0 = true then some ((passGo l0 ([], [])).2 ++ (passGo l0 ([], [])).1, 0) else some ([], 2)
theorem LineIs.left {base : Nat} {w : World} {g : Nat} {its lft : List Int} (h : LineIs base w g its lft) : ∃ A c, w.cell? ⟨g, 1, none⟩ = some (.slice A lft.length c) ∧ Kd.R (Kd.int .i64) 3 w base (fun _ => True) (.slice A lft.length c) lft := by
 obtain ⟨vi, vl, hb, hg, h1, h2⟩ := h
 obtain ⟨A, c, rfl⟩ := Kd.R_slice h2
 exact ⟨A, c, (blk_cell hb 1).trans rfl, Kd.R_mono h2 (fun _ _ => trivial)⟩
set_option maxHeartbeats 2000000 in
set_option maxRecDepth 100000 in
theorem shunt_Pass.calls (A0 : Option Addr) (c0 : Nat) (l0 : List Int) (r1 : List Int) (r2 : Int) (w : World) (hr0 : Kd.C (Kd.int .i64) w A0 l0.length l0) (hc0 : l0.length ≤ c0) (h : shunt_Pass.f l0 = some (r1, r2)) :
  Calls Try.prog 20 #[.slice A0 l0.length c0] w fun e w' => ∃ v0_ : Value, e = .returned (.tuple #[v0_, .int .i64 r2]) ∧ Kd.R (Kd.int .i64) 3 w' w.heap.size (fun _ => True) v0_ r1 ∧ Below w.heap.size w w' := by
 have HR0 := Aside0.mk hr0
 have HC0 := Aside0.mk hc0
 clear hr0 hc0
 unfold shunt_Pass.f at h
 cases hord : isOrderB l0 with
 | false =>
  rw [hord, if_neg (by decide)] at h
  injection h with h
  injection h with e1 e2
  subst e1; subst e2
  have HO := Aside0.mk (shunt_isOrder.calls A0 c0 l0 false w HR0.out HC0.out (by unfold shunt_isOrder.f; rw [hord]))
  clear hord
  go_enter Try.func20, Try.ntmps20
  go_wp2_with (go_at_call 52; go_must ((with_reducible refine HO.out.mono ?_); rintro e w1 ⟨rfl, hb1⟩; have HB1 := Aside0.mk hb1; clear hb1))
  go_ret2
  exact ⟨_, rfl, Kd.R_nil _ _ _ _ _, HB1.out⟩
 | true =>
  rw [hord, if_pos rfl] at h
  have HO := Aside0.mk (shunt_isOrder.calls A0 c0 l0 true w HR0.out HC0.out (by unfold shunt_isOrder.f; rw [hord]))
  have hl60 : l0.length ≤ 60 := by
   unfold isOrderB at hord
   simp at hord
   exact hord.1
  injection h with h
  injection h with e1 e2
  subst e2
  obtain ⟨Rs, hRs⟩ : ∃ Rs, passGo l0 ([], []) = Rs := ⟨_, rfl⟩
  rw [hRs] at e1
  have H := Aside0.mk e1
  have HG := Aside0.mk hRs
  clear e1 hRs hord
  go_enter Try.func20, Try.ntmps20
  go_wp2_with (go_at_call 52; go_must ((with_reducible refine HO.out.mono ?_); rintro e w1 ⟨rfl, hb1⟩; have HB1 := Aside0.mk hb1; clear hb1))
  go_loopw [16] (fun v16 wr => ∃ (x : Int) (s lft : List Int), v16 = .int .i64 x ∧ Aside0 (0 ≤ x ∧ x ≤ l0.length ∧ (s.length : Int) + lft.length = x) ∧ Aside0 (passGo (l0.drop x.toNat) (s, lft) = Rs) ∧ Aside0 (LineIs w.heap.size wr w1.heap.size s.reverse lft) ∧ Aside0 (Below w.heap.size w wr)) (fun v16 _ => l0.length - (intOf v16).toNat)
  case atStart => exact ⟨0, [], [], rfl, ⟨by simp⟩, HG, ⟨⟨_, _, heap_alloc_new w1 _, HB1.out.size, Kd.R_nil _ _ _ _ _, Kd.R_nil _ _ _ _ _⟩⟩, ⟨below_alloc HB1.out _⟩⟩
  case round =>
   clear HG
   obtain ⟨x, s, lft, rfl, HX, HG, HL, HB⟩ := hrel
   obtain ⟨p0, p1, p2⟩ := HX.out
   have hx60 : x ≤ 60 := by omega
   by_cases c2 : x < (l0.length : Int)
   ·have c2b0 : decide (x < (l0.length : Int)) = true := decide_eq_true c2
    have HG1 : passGo (rd l0 x :: l0.drop (x + 1).toNat) (s, lft) = Rs := by
     rw [← HG.out, show (x + 1).toNat = x.toNat + 1 by omega]
     unfold rd
     rw [List.getD_eq_getElem?_getD, List.getElem?_eq_getElem (show x.toNat < l0.length by omega), Option.getD_some, ← List.drop_eq_getElem_cons]
    obtain ⟨rest, hrest⟩ : ∃ rest, rest = l0.drop (x + 1).toNat := ⟨_, rfl⟩
    rw [← hrest] at HG1
    obtain ⟨ad, ea, hx⟩ := Kd.at_int (Kd.C_below HR0.out HB.out) x p0 c2
    cases ea
    obtain ⟨y, hy⟩ : ∃ y, rd l0 x = y := ⟨_, rfl⟩
    rw [hy] at HG1 hx
    have HG2 := Aside0.mk (show passGo rest (y :: (passIn y s lft).1, (passIn y s lft).2) = Rs from HG1)
    have HREST := Aside0.mk hrest
    have q0 := eq_true p0
    have q1 := eq_true c2
    have HTP := Aside0.mk (stack_top.calls w.heap.size w1.heap.size s.reverse lft wr HL.out)
    clear HG HG1 hrest c2 p2 hy
    go_wp2_with (go_at_call 56; go_must ((with_reducible refine HTP.out.mono ?_); rintro e w2 ⟨rfl, ⟨nd, rfl⟩⟩))
    obtain ⟨wo, rfl⟩ : ∃ wo : World, wo = wr := ⟨_, rfl⟩
    go_loopg [7, 8] (s.length) (fun kq v7 v8 wr => ∃ (s' lft' : List Int), v7 = .int .i64 (s'.reverse.getLast?.getD 0) ∧ v8 = .bool (!s'.reverse.isEmpty) ∧ Aside0 (kq = s'.length) ∧ Aside0 ((s'.length : Int) + lft'.length = x) ∧ Aside0 (passGo rest (y :: (passIn y s' lft').1, (passIn y s' lft').2) = Rs) ∧ Aside0 (LineIs w.heap.size wr w1.heap.size s'.reverse lft') ∧ Aside0 (Below w.heap.size w wr))
    case atStart => exact ⟨s, lft, (by simp), (by simp), ⟨rfl⟩, ⟨HX.out.2.2⟩, HG2, ⟨HL.out.drewN _⟩, ⟨pw_below_drewN HB.out _⟩⟩
    case round =>
     clear HG2 HL HB HTP hx
     obtain ⟨s', lft', rfl, rfl, HK, HY, HG2, HL, HB⟩ := hrel
     have y0 := HY.out
     have HPU := Aside0.mk (fun n => stack_push.calls w.heap.size w1.heap.size s'.reverse lft' y (wr.drewN n) (HL.out.drewN n) (by simp; omega) HB.out.size)
     have HPU0 := Aside0.mk (stack_push.calls w.heap.size w1.heap.size s'.reverse lft' y wr HL.out (by simp; omega) HB.out.size)
     simp only [← List.reverse_cons] at HPU HPU0
     have CONT : ∀ wz, passGo rest (y :: s', lft') = Rs → LineIs w.heap.size wz w1.heap.size (y :: s').reverse lft' → Turn w.heap.size wr wz → ∃ (x' : Int) (s lft : List Int), (Value.int .i64 (x + 1)) = .int .i64 x' ∧ Aside0 (0 ≤ x' ∧ x' ≤ l0.length ∧ (s.length : Int) + lft.length = x') ∧ Aside0 (passGo (l0.drop x'.toNat) (s, lft) = Rs) ∧ Aside0 (LineIs w.heap.size wz w1.heap.size s.reverse lft) ∧ Aside0 (Below w.heap.size w wz) := fun wz e1 e2 e4 =>
      ⟨x + 1, y :: s', lft', rfl, ⟨by have := of_eq_true q1; simp; omega⟩, ⟨by rw [← HREST.out]; exact e1⟩, ⟨e2⟩, ⟨Turn.below HB.out HB.out.size e4⟩⟩
     have CT := Aside0.mk CONT
     clear CONT
     cases s' with
     | nil =>
      have HG3 := Aside0.mk (show passGo rest ([y], lft') = Rs from HG2.out)
      clear HG2 y0
      go_wp2_with (go_at_call 58; go_must ((with_reducible refine HPU0.out.mono ?_); rintro e w2 ⟨rfl, hL2, hT2⟩; have HL2 := Aside0.mk hL2; have HT2 := Aside0.mk hT2; clear hL2 hT2))
      go_roundw
      case rel => exact CT.out _ HG3.out HL2.out HT2.out
      case measure => have := of_eq_true q1; simp [intOf]; omega
     | cons a t =>
      have e8 : (a :: t).reverse.getLast?.getD 0 = a := by simp
      have e9 : (a :: t).reverse.isEmpty = false := by simp
      rw [e8, e9]
      by_cases c4 : a < y
      ·have c4b : decide (a < y) = true := decide_eq_true c4
       have HG3 := Aside0.mk (show passGo rest (y :: (passIn y t (lft' ++ [a])).1, (passIn y t (lft' ++ [a])).2) = Rs by
        have := HG2.out
        unfold passIn at this
        rw [if_pos c4] at this
        exact this)
       have HLV := Aside0.mk (line_leave.calls w.heap.size w1.heap.size (a :: t).reverse lft' wr HL.out (by omega) HB.out.size)
       have e5 : (a :: t).reverse.dropLast = t.reverse := by simp
       have e6 : (if (a :: t).reverse.isEmpty then lft' else lft' ++ [(a :: t).reverse.getLast?.getD 0]) = lft' ++ [a] := by simp
       rw [e5, e6, e9] at HLV
       have HY2 := Aside0.mk (show (t.length : Int) + (lft' ++ [a]).length = x by simp at y0 ⊢; omega)
       clear HG2 y0 c4 e5 e6 e8 e9
       go_wp2_with (first | (go_at_call 57; go_must ((with_reducible refine HLV.out.mono ?_); rintro e w2 ⟨rfl, hL2, hT2⟩; have HL2 := Aside0.mk hL2; have HB2 := Aside0.mk (Turn.below HB.out HB.out.size hT2); have HT3 := Aside0.mk (stack_top.calls w.heap.size w1.heap.size t.reverse (lft' ++ [a]) w2 hL2); clear hL2 hT2)) | (go_at_call 56; go_must ((with_reducible refine HT3.out.mono ?_); rintro e w2 ⟨rfl, ⟨nd, rfl⟩⟩)))
       go_roundg (t.length)
       case measure => have := HK.out; simp at this; omega
       case rel => exact ⟨t, lft' ++ [a], (by simp), (by simp), ⟨rfl⟩, HY2, HG3, ⟨HL2.out.drewN _⟩, ⟨pw_below_drewN HB2.out _⟩⟩
      ·have c4b : decide (a < y) = false := decide_eq_false c4
       have HG3 := Aside0.mk (show passGo rest (y :: a :: t, lft') = Rs by
        have := HG2.out
        unfold passIn at this
        rw [if_neg c4] at this
        exact this)
       clear HG2 y0 c4 e8 e9
       go_wp2_with (go_at_call 58; go_must ((with_reducible refine HPU0.out.mono ?_); rintro e w2 ⟨rfl, hL2, hT2⟩; have HL2 := Aside0.mk hL2; have HT2 := Aside0.mk hT2; clear hL2 hT2))
       go_roundw
       case rel => exact CT.out _ HG3.out HL2.out HT2.out
       case measure => have := of_eq_true q1; simp [intOf]; omega
   ·have c2b0 : decide (x < (l0.length : Int)) = false := decide_eq_false c2
    have hst : Rs = (s, lft) := by
     rw [← HG.out, List.drop_eq_nil_of_le (by omega)]
     rfl
    subst hst
    have hres : lft ++ s = r1 := H.out
    have HRS := Aside0.mk hres
    have HSZ := Aside0.mk p2
    clear hres H c2 HG p2
    go_wp2
    obtain ⟨wo, rfl⟩ : ∃ wo : World, wo = wr := ⟨_, rfl⟩
    go_loopg [49] (s.length) (fun kq v49 wr => ∃ (s' lft' : List Int), Aside0 (kq = s'.length) ∧ Aside0 ((s'.length : Int) + lft'.length = x) ∧ Aside0 (lft' ++ s' = r1) ∧ Aside0 (LineIs w.heap.size wr w1.heap.size s'.reverse lft') ∧ Aside0 (Below w.heap.size w wr))
    case atStart => exact ⟨s, lft, ⟨rfl⟩, HSZ, HRS, HL, HB⟩
    case round =>
     clear HRS HL HB HSZ
     obtain ⟨s', lft', HK, HY, HG2, HL, HB⟩ := hrel
     have y0 := HY.out
     have HLV := Aside0.mk (line_leave.calls w.heap.size w1.heap.size s'.reverse lft' wr HL.out (by omega) HB.out.size)
     cases s' with
     | nil =>
      have hr : lft' = r1 := by simpa using HG2.out
      subst hr
      have e5 : ([] : List Int).reverse.dropLast = [] := rfl
      have e6 : (if ([] : List Int).reverse.isEmpty then lft' else lft' ++ [([] : List Int).reverse.getLast?.getD 0]) = lft' := by simp
      have e7 : ([] : List Int).reverse.isEmpty = true := rfl
      rw [e5, e6, e7] at HLV
      clear HG2 y0 e5 e6 e7
      go_wp2_with (go_at_call 57; go_must ((with_reducible refine HLV.out.mono ?_); rintro e w2 ⟨rfl, hL2, hT2⟩; obtain ⟨A, c, hlc, hR⟩ := hL2.left; have HR3 := Aside0.mk hR; have HB2 := Aside0.mk (Turn.below HB.out HB.out.size hT2); clear hL2 hT2 hR))
      go_ret2
      exact ⟨_, rfl, HR3.out, HB2.out⟩
     | cons a t =>
      have e5 : (a :: t).reverse.dropLast = t.reverse := by simp
      have e6 : (if (a :: t).reverse.isEmpty then lft' else lft' ++ [(a :: t).reverse.getLast?.getD 0]) = lft' ++ [a] := by simp
      have e9 : (a :: t).reverse.isEmpty = false := by simp
      rw [e5, e6, e9] at HLV
      have HY2 := Aside0.mk (show (t.length : Int) + (lft' ++ [a]).length = x by simp at y0 ⊢; omega)
      have HG3 := Aside0.mk (show (lft' ++ [a]) ++ t = r1 by rw [← HG2.out]; simp)
      clear HG2 y0 e5 e6 e9
      go_wp2_with (go_at_call 57; go_must ((with_reducible refine HLV.out.mono ?_); rintro e w2 ⟨rfl, hL2, hT2⟩; have HL2 := Aside0.mk hL2; have HB2 := Aside0.mk (Turn.below HB.out HB.out.size hT2); clear hL2 hT2))
      go_roundg (t.length)
      case measure => have := HK.out; simp at this; omega
      case rel => exact ⟨t, lft' ++ [a], ⟨rfl⟩, HY2, HG3, HL2, HB2⟩

def tickinglaw02_ints.l0 : Nat → List Int → List Int → Int → Option (Bool)
 | 0, _, _, _ => none
 | k + 1, x0, x1, x5 => if x5 < (x0.length : Int) then (if 0 ≤ x5 then (if x5 < (x1.length : Int) then (if (rd x0 x5) = (rd x1 x5) then (tickinglaw02_ints.l0 k x0 x1 (wrap64 (x5 + 1))) else (some false)) else (none)) else (none)) else (some true)
def tickinglaw02_ints.f (k : Nat) (l0 : List Int) (l1 : List Int) : Option (Bool) := if (l0.length : Int) = (l1.length : Int) then (tickinglaw02_ints.l0 k l0 l1 0) else (some false)
theorem tickinglaw02_ints.mono_l : ∀ k, (∀ y0 y1 y2, LeO (tickinglaw02_ints.l0 k y0 y1 y2) (tickinglaw02_ints.l0 (k + 1) y0 y1 y2))
 | 0 => fun _ _ _ r h => by simp [tickinglaw02_ints.l0] at h
 | k + 1 => by
  have ih0 := tickinglaw02_ints.mono_l k
  ·intro y0 y1 y2
   unfold tickinglaw02_ints.l0
   repeat' first
   | (with_reducible exact ih0 _ _ _)
   | (with_reducible exact LeO.refl _)
   | (with_reducible exact LeO.none _)
   | (with_reducible refine LeO.ite ?_ ?_)
   | (with_reducible refine LeO.bind ?_ (fun _ => ?_))
   | exact ih0 _ _ _
   | exact LeO.none _
   | refine LeO.ite ?_ ?_
   | refine LeO.bind ?_ (fun _ => ?_)
theorem tickinglaw02_ints.mono : ∀ a0 a1 k, LeO (tickinglaw02_ints.f k a0 a1) (tickinglaw02_ints.f (k + 1) a0 a1) := by
 intro a0 a1 k
 have ih0 := tickinglaw02_ints.mono_l k
 unfold tickinglaw02_ints.f
 repeat' first
   | (with_reducible exact ih0 _ _ _)
   | (with_reducible exact LeO.refl _)
   | (with_reducible exact LeO.none _)
   | (with_reducible refine LeO.ite ?_ ?_)
   | (with_reducible refine LeO.bind ?_ (fun _ => ?_))
   | exact ih0 _ _ _
   | exact LeO.none _
   | refine LeO.ite ?_ ?_
   | refine LeO.bind ?_ (fun _ => ?_)
set_option maxHeartbeats 8000000 in
set_option maxRecDepth 100000 in
theorem tickinglaw02_ints.calls (k : Nat) (A0 : Option Addr) (c0 : Nat) (l0 : List Int) (A1 : Option Addr) (c1 : Nat) (l1 : List Int) (r : Bool) (w : World) (hr0 : Kd.C (Kd.int .i64) w A0 l0.length l0) (hc0 : l0.length ≤ c0) (hr1 : Kd.C (Kd.int .i64) w A1 l1.length l1) (hc1 : l1.length ≤ c1) (h : tickinglaw02_ints.f k l0 l1 = some r) :
  Calls Try.prog 23 #[.slice A0 l0.length c0, .slice A1 l1.length c1] w fun e w' => e = .returned (.bool r) ∧ Drawn0 w w' := by
 have HR0 := Aside0.mk hr0
 have HC0 := Aside0.mk hc0
 clear hr0 hc0
 have HR1 := Aside0.mk hr1
 have HC1 := Aside0.mk hc1
 clear hr1 hc1
 have H : (if (l0.length : Int) = (l1.length : Int) then (tickinglaw02_ints.l0 k l0 l1 0) else (some false)) = some r := h
 clear h
 by_cases c3 : (l0.length : Int) = (l1.length : Int)
 ·rw [if_pos c3] at H
  have c3b0 : ((l0.length : Int) == (l1.length : Int)) = true := beq_iff_eq.mpr c3
  have c3b1 : ((l0.length : Int) != (l1.length : Int)) = false := bne_eq_false_iff_eq.mpr c3
  have c3b2 : (l0.length == l1.length) = true := by first | simpa using c3 | (simp at c3 ⊢; omega)
  clear c3
  have H' := Aside0.mk H
  clear H
  go_enter Try.func23, Try.ntmps23
  go_wp2
  repeat (go_quiet (fail); try go_wp2)
  go_loopg [5] k (fun kq v5 w' => ∃ (x5_1 : Int), v5 = .int .i64 x5_1 ∧ Aside0 (tickinglaw02_ints.l0 kq l0 l1 x5_1 = some r) ∧ Aside0 (kq ≤ k) ∧ Drawn0 w w')
  case atStart => exact ⟨(0), (by first | rfl | (simp; done) | (simp [*]; done)), H', ⟨Nat.le_refl _⟩, by repeat (first | exact Drawn0.refl _ | apply Drawn0.step)⟩
  case round =>
   clear H'
   try clear c1
   try clear c2
   try clear p2
   try clear c3
   try clear c3b0
   try clear c3b1
   try clear c3b2
   obtain ⟨x5_1, rfl, HA, HK1, ⟨m1, rfl⟩⟩ := hrel
   cases gk with
   | zero => exact absurd HA.out (by simp [tickinglaw02_ints.l0])
   | succ k1 =>
    have H := HA.out
    clear HA
    simp only [tickinglaw02_ints.l0] at H
    by_cases c4 : x5_1 < (l0.length : Int)
    ·rw [if_pos c4] at H
     have c4b0 : decide (x5_1 < (l0.length : Int)) = true := decide_eq_true c4
     clear c4
     by_cases c5 : 0 ≤ x5_1
     ·rw [if_pos c5] at H
      have c5b0 : decide (0 ≤ x5_1) = true := decide_eq_true c5
      clear c5
      by_cases c6 : x5_1 < (l1.length : Int)
      ·rw [if_pos c6] at H
       have c6b0 : decide (x5_1 < (l1.length : Int)) = true := decide_eq_true c6
       clear c6
       by_cases c7 : (rd l0 x5_1) = (rd l1 x5_1)
       ·rw [if_pos c7] at H
        have c7b0 : ((rd l0 x5_1) == (rd l1 x5_1)) = true := beq_iff_eq.mpr c7
        have c7b1 : ((rd l0 x5_1) != (rd l1 x5_1)) = false := bne_eq_false_iff_eq.mpr c7
        clear c7
        have H' := Aside0.mk H
        clear H
        have p123 : 0 ≤ (x5_1 : Int) := of_decide_eq_true (by first | (with_reducible assumption) | assumption)
        have q123 : x5_1 < (l0.length : Int) := of_decide_eq_true (by first | (with_reducible assumption) | assumption)
        obtain ⟨ad123, e123, hx123_0⟩ := Kd.at_int HR0.out x5_1 p123 q123
        cases e123
        replace p123 := eq_true p123
        replace q123 := eq_true q123
        have p124 : 0 ≤ (x5_1 : Int) := of_decide_eq_true (by first | (with_reducible assumption) | assumption)
        have q124 : x5_1 < (l1.length : Int) := of_decide_eq_true (by first | (with_reducible assumption) | assumption)
        obtain ⟨ad124, e124, hx124_0⟩ := Kd.at_int HR1.out x5_1 p124 q124
        cases e124
        replace p124 := eq_true p124
        replace q124 := eq_true q124
        go_wp2
        repeat (go_quiet (fail); try go_wp2)
        go_roundg k1
        case measure => have := HK1.out; omega
        case rel => exact ⟨(wrap64 (x5_1 + 1)), (by first | rfl | (simp; done) | (simp [*]; done)), H', ⟨by have := HK1.out; omega⟩, by repeat (first | exact Drawn0.refl _ | apply Drawn0.step)⟩
       ·rw [if_neg c7] at H
        have c7b0 : ((rd l0 x5_1) == (rd l1 x5_1)) = false := beq_eq_false_iff_ne.mpr c7
        have c7b1 : ((rd l0 x5_1) != (rd l1 x5_1)) = true := bne_iff_ne.mpr c7
        obtain rfl := Option.some.inj H
        have p123 : 0 ≤ (x5_1 : Int) := of_decide_eq_true (by first | (with_reducible assumption) | assumption)
        have q123 : x5_1 < (l0.length : Int) := of_decide_eq_true (by first | (with_reducible assumption) | assumption)
        obtain ⟨ad123, e123, hx123_0⟩ := Kd.at_int HR0.out x5_1 p123 q123
        cases e123
        replace p123 := eq_true p123
        replace q123 := eq_true q123
        have p124 : 0 ≤ (x5_1 : Int) := of_decide_eq_true (by first | (with_reducible assumption) | assumption)
        have q124 : x5_1 < (l1.length : Int) := of_decide_eq_true (by first | (with_reducible assumption) | assumption)
        obtain ⟨ad124, e124, hx124_0⟩ := Kd.at_int HR1.out x5_1 p124 q124
        cases e124
        replace p124 := eq_true p124
        replace q124 := eq_true q124
        go_wp2
        repeat (go_quiet (fail); try go_wp2)
        go_ret
        exact ⟨by first | rfl | (simp; done) | (simp [*]; done), by repeat (first | exact Drawn0.refl _ | apply Drawn0.step)⟩
      ·rw [if_neg c6] at H
       exact absurd H (by simp)
     ·rw [if_neg c5] at H
      exact absurd H (by simp)
    ·rw [if_neg c4] at H
     have c4b0 : decide (x5_1 < (l0.length : Int)) = false := decide_eq_false c4
     clear c4
     obtain rfl := Option.some.inj H
     go_wp2
     repeat (go_quiet (fail); try go_wp2)
     go_ret
     exact ⟨by first | rfl | (simp; done) | (simp [*]; done), by repeat (first | exact Drawn0.refl _ | apply Drawn0.step)⟩
 ·rw [if_neg c3] at H
  have c3b0 : ((l0.length : Int) == (l1.length : Int)) = false := beq_eq_false_iff_ne.mpr c3
  have c3b1 : ((l0.length : Int) != (l1.length : Int)) = true := bne_iff_ne.mpr c3
  have c3b2 : (l0.length == l1.length) = false := by first | simpa using c3 | (simp at c3 ⊢; omega)
  obtain rfl := Option.some.inj H
  go_enter Try.func23, Try.ntmps23
  go_wp2
  repeat (go_quiet (fail); try go_wp2)
  go_ret
  exact ⟨by first | rfl | (simp; done) | (simp [*]; done), by repeat (first | exact Drawn0.refl _ | apply Drawn0.step)⟩

def shunt_Stack.f (k : Nat) (l0 : List Int) : Option (ByteArray × List Int × Int) :=
 if isOrderB l0 = true then
  (if (stackGo l0 ([], [], [])).2.1.length < l0.length then (shunt_block.f k l0).bind fun b => some (⟨#[]⟩, b, 0)
  else some (strOfNums (stackGo l0 ([], [], [])).2.2, [], 0))
 else some (⟨#[]⟩, [], 2)
theorem shunt_Stack.mono : ∀ a0 k, LeO (shunt_Stack.f k a0) (shunt_Stack.f (k + 1) a0) := by
 intro a0 k
 unfold shunt_Stack.f
 repeat' first
  | exact LeO.refl _
  | refine LeO.ite ?_ ?_
  | refine LeO.bind (shunt_block.mono _ _) (fun _ => ?_)
theorem LineIs.keep {base : Nat} {W W1 : World} {g : Nat} {its lft : List Int} (h : LineIs base W g its lft) (hk : ∀ k, k < W.heap.size → (k = g ∨ ∃ cs, W.heap[k]? = some (.cells cs 3 (0, 0))) → W1.heap[k]? = W.heap[k]?) : LineIs base W1 g its lft := by
 obtain ⟨vi, vl, hb, hg, h1, h2⟩ := h
 have hm : ∀ {v u : Value} {xs : List Int}, Kd.R (Kd.int .i64) 3 W base (fun k => some k ≠ u.ownBlock) v xs → Kd.R (Kd.int .i64) 3 W1 base (fun k => some k ≠ u.ownBlock) v xs := fun {v u xs} h => by
  refine Kd.R_mono (Kd.R_step (Kd.R_bound h) (fun k ho hlt => hk k hlt (.inr ?_))) (fun k hk => hk.1)
  obtain ⟨_, _, _, q, hq, cs, hc⟩ := ho
  have : q = 3 := by simpa [Kd.int, Kd.scalar] using hq
  exact ⟨cs, this ▸ hc⟩
 exact ⟨vi, vl, (hk g (blk_lt hb) (.inl rfl)).trans hb, hg, hm h1, hm h2⟩
/-- What a line's call turns, no row of bytes is. -/
theorem Turn.bytes {base base' : Nat} {w w' : World} {ok : Nat → Prop} {v : Value} {xs : List Int} (h : Turn base w w') (ho : Kd.R (Kd.int .u8) 5 w base' ok v xs) : Kd.R (Kd.int .u8) 5 w' base' ok v xs := by
 refine Kd.R_mono (Kd.R_step (Kd.R_bound ho) (fun k hok hlt => ?_)) (fun k hk => hk.1)
 obtain ⟨_, _, _, q, hq, cs, hc⟩ := hok
 have : q = 5 := by simpa [Kd.int, Kd.scalar] using hq
 subst this
 rcases h.block k hlt with e | ⟨_, cs', t, hc', ht⟩
 ·exact e
 ·rw [hc] at hc'
  injection hc' with hc'
  injection hc' with _ ht'
  subst ht'
  rcases ht with ht | ht <;> cases ht
theorem LineIs.len {base : Nat} {w : World} {g : Nat} {its lft : List Int} (h : LineIs base w g its lft) : ∃ A c, w.cell? ⟨g, 1, none⟩ = some (.slice A lft.length c) := by
 obtain ⟨vi, vl, hb, hg, h1, h2⟩ := h
 obtain ⟨A, c, rfl⟩ := Kd.R_slice h2
 exact ⟨A, c, (blk_cell hb 1).trans rfl⟩
theorem LineIs.lt {base : Nat} {w : World} {g : Nat} {its lft : List Int} (h : LineIs base w g its lft) : g < w.heap.size := by
 obtain ⟨vi, vl, hb, _⟩ := h
 exact blk_lt hb
theorem LineIs.grown5 {base base' : Nat} {W W1 : World} {g : Nat} {its lft : List Int} {ok : Nat → Prop} {v : Value} {xs : List Int} (h : LineIs base W g its lft) (ho : Kd.R (Kd.int .u8) 5 W base' ok v xs) (hg : W.grownBy W1 v.ownBlock) : LineIs base W1 g its lft := by
 obtain ⟨inner, hob⟩ := Kd.R_own ho
 refine h.keep (fun k hk hk' => hg.block k hk (fun he => ?_))
 obtain ⟨cells, hcl⟩ := own_typed hob k he.symm
 rcases hk' with rfl | ⟨cs, hc⟩
 ·obtain ⟨vi, vl, hb, _⟩ := h
  rw [hcl] at hb
  injection hb with hb
  injection hb with _ hb
  cases hb
 ·rw [hcl] at hc
  injection hc with hc
  injection hc with _ hc
  cases hc
set_option maxHeartbeats 2000000 in
set_option maxRecDepth 100000 in
theorem shunt_Stack.calls (k : Nat) (A0 : Option Addr) (c0 : Nat) (l0 : List Int) (r1 : ByteArray) (r2 : List Int) (r3 : Int) (w : World) (hr0 : Kd.C (Kd.int .i64) w A0 l0.length l0) (hc0 : l0.length ≤ c0) (h : shunt_Stack.f k l0 = some (r1, r2, r3)) :
  Calls Try.prog 28 #[.slice A0 l0.length c0] w fun e w' => ∃ v1_ : Value, e = .returned (.tuple #[.string r1, v1_, .int .i64 r3]) ∧ Kd.R (Kd.int .i64) 3 w' w.heap.size (fun _ => True) v1_ r2 ∧ Below w.heap.size w w' := by
 have HR0 := Aside0.mk hr0
 have HC0 := Aside0.mk hc0
 clear hr0 hc0
 unfold shunt_Stack.f at h
 cases hord : isOrderB l0 with
 | false =>
  rw [hord, if_neg (by decide)] at h
  injection h with h
  injection h with e1 h
  injection h with e2 e3
  subst e1; subst e2; subst e3
  have HO := Aside0.mk (shunt_isOrder.calls A0 c0 l0 false w HR0.out HC0.out (by unfold shunt_isOrder.f; rw [hord]))
  clear hord
  go_enter Try.func28, Try.ntmps28
  go_wp2_with (go_at_call 52; go_must ((with_reducible refine HO.out.mono ?_); rintro e w1 ⟨rfl, hb1⟩; have HB1 := Aside0.mk hb1; clear hb1))
  go_ret3
  exact ⟨_, rfl, Kd.R_nil _ _ _ _ _, HB1.out⟩
 | true =>
  rw [hord, if_pos rfl] at h
  have HO := Aside0.mk (shunt_isOrder.calls A0 c0 l0 true w HR0.out HC0.out (by unfold shunt_isOrder.f; rw [hord]))
  have hl60 : l0.length ≤ 60 := by
   unfold isOrderB at hord
   simp at hord
   exact hord.1
  obtain ⟨Rs, hRs⟩ : ∃ Rs, stackGo l0 ([], [], []) = Rs := ⟨_, rfl⟩
  rw [hRs] at h
  have H := Aside0.mk h
  have HG := Aside0.mk hRs
  clear h hRs hord
  go_enter Try.func28, Try.ntmps28
  go_wp2_with (go_at_call 52; go_must ((with_reducible refine HO.out.mono ?_); rintro e w1 ⟨rfl, hb1⟩; have HB1 := Aside0.mk hb1; clear hb1))
  go_loopw [6, 16] (fun v6 v16 wr => ∃ (x : Int) (s lft plan : List Int), v16 = .int .i64 x ∧ Aside0 (0 ≤ x ∧ x ≤ l0.length ∧ (s.length : Int) + lft.length = x ∧ (plan.length : Int) = x + lft.length) ∧ Aside0 (stackGo (l0.drop x.toNat) (s, lft, plan) = Rs) ∧ Aside0 (LineIs w.heap.size wr w1.heap.size s.reverse lft) ∧ Aside0 (Kd.R (Kd.int .u8) 5 wr w.heap.size (fun _ => True) v6 plan) ∧ Aside0 (Below w.heap.size w wr)) (fun _ v16 _ => l0.length - (intOf v16).toNat)
  case atStart => exact ⟨0, [], [], [], rfl, ⟨by simp⟩, HG, ⟨⟨_, _, heap_alloc_new w1 _, HB1.out.size, Kd.R_nil _ _ _ _ _, Kd.R_nil _ _ _ _ _⟩⟩, ⟨Kd.R_nil _ _ _ _ _⟩, ⟨below_alloc HB1.out _⟩⟩
  case round =>
   clear HG
   obtain ⟨x, s, lft, plan, rfl, HX, HG, HL, HP, HB⟩ := hrel
   obtain ⟨p0, p1, p2, p3⟩ := HX.out
   have hx60 : x ≤ 60 := by omega
   by_cases c2 : x < (l0.length : Int)
   ·have c2b0 : decide (x < (l0.length : Int)) = true := decide_eq_true c2
    have HG1 : stackGo (l0.drop (x + 1).toNat) (drainS (rd l0 x :: s) lft (plan ++ [105])) = Rs := by
     rw [← HG.out, show (x + 1).toNat = x.toNat + 1 by omega]
     unfold rd
     rw [List.getD_eq_getElem?_getD, List.getElem?_eq_getElem (show x.toNat < l0.length by omega), Option.getD_some, List.drop_eq_getElem_cons (show x.toNat < l0.length by omega)]
     rfl
    obtain ⟨rest, hrest⟩ : ∃ rest, rest = l0.drop (x + 1).toNat := ⟨_, rfl⟩
    rw [← hrest] at HG1
    have HG2 := Aside0.mk HG1
    have HREST := Aside0.mk hrest
    obtain ⟨ad, ea, hx⟩ := Kd.at_int (Kd.C_below HR0.out HB.out) x p0 c2
    cases ea
    have q0 := eq_true p0
    have q1 := eq_true c2
    have HPU := Aside0.mk (stack_push.calls w.heap.size w1.heap.size s.reverse lft (rd l0 x) wr HL.out (by simp; omega) HB.out.size)
    rw [← List.reverse_cons] at HPU
    clear HG HG1 hrest c2 p2 p3
    go_wp2_with (first | (go_at_call 58; go_must ((with_reducible refine HPU.out.mono ?_); rintro e w2 ⟨rfl, hL2, hT2⟩; have HL2 := Aside0.mk hL2; have HB2 := Aside0.mk (Turn.below HB.out HB.out.size hT2); obtain ⟨v3, w3, z0, z1, z2, z3, _⟩ := append_one (Kd.int .u8) (P := Try.prog) (w0 := w) (W := w2) w.heap.size 74 74 5 (.int .u8 0) 1 Try.underlying74 info5 rfl (by decide) (by omega) (v := u6) (xs := plan) 105 [.int .u8 105] (ok := fun _ => True) (fun _ => False) rfl (fun _ h => h.elim) (fun k hk => trivial) (hT2.bytes HP.out) HB2.out HB2.out.size (by have := HX.out; omega); have Z0 := Aside0.mk z0; have Z1 := Aside0.mk z1; have Z2 := Aside0.mk z2; have Z3 := Aside0.mk (HL2.out.grown5 (hT2.bytes HP.out) z3); clear hL2 hT2 z0 z1 z2 z3)) | (at_builtin; go_must (refine wpList_appendRun _ rfl _ _ _ rfl Z0.out rfl rfl rfl ?_)))
    clear HL HP HB HPU hx
    go_loopg [6] (s.length + 1) (fun kq v6 wi => ∃ (s' lft' plan' : List Int), Aside0 (kq = s'.length) ∧ Aside0 ((s'.length : Int) + lft'.length = x + 1 ∧ (plan'.length : Int) = x + 1 + lft'.length) ∧ Aside0 (stackGo rest (drainS s' lft' plan') = Rs) ∧ Aside0 (LineIs w.heap.size wi w1.heap.size s'.reverse lft') ∧ Aside0 (Kd.R (Kd.int .u8) 5 wi w.heap.size (fun _ => True) v6 plan') ∧ Aside0 (Below w.heap.size w wi))
    case atStart => exact ⟨rd l0 x :: s, lft, plan ++ [105], ⟨rfl⟩, ⟨by have := HX.out; simp; omega⟩, HG2, Z3, Z1, Z2⟩
    case round =>
     clear Z0 Z1 Z2 Z3 HG2 HL2 HB2
     obtain ⟨s', lft', plan', HK, HY, HG2, HL, HP, HB⟩ := hrel
     obtain ⟨y0, y1⟩ := HY.out
     have HN := Aside0.mk (line_isNext.calls w.heap.size w1.heap.size s'.reverse lft' (nextIs s' lft') wr HL.out (by cases s' <;> simp [nextIs]) (by omega))
     have CONT : ∀ v6' wz, stackGo rest (s', lft', plan') = Rs → Aside0 (LineIs w.heap.size wz w1.heap.size s'.reverse lft') → Aside0 (Kd.R (Kd.int .u8) 5 wz w.heap.size (fun _ => True) v6' plan') → Aside0 (Below w.heap.size w wz) → ∃ (x' : Int) (s lft plan : List Int), (Value.int .i64 (x + 1)) = .int .i64 x' ∧ Aside0 (0 ≤ x' ∧ x' ≤ l0.length ∧ (s.length : Int) + lft.length = x' ∧ (plan.length : Int) = x' + lft.length) ∧ Aside0 (stackGo (l0.drop x'.toNat) (s, lft, plan) = Rs) ∧ Aside0 (LineIs w.heap.size wz w1.heap.size s.reverse lft) ∧ Aside0 (Kd.R (Kd.int .u8) 5 wz w.heap.size (fun _ => True) v6' plan) ∧ Aside0 (Below w.heap.size w wz) := fun v6' wz e1 e2 e3 e4 =>
      ⟨x + 1, s', lft', plan', rfl, ⟨by have := of_eq_true q1; omega⟩, ⟨by rw [← HREST.out]; exact e1⟩, e2, e3, e4⟩
     have CT := Aside0.mk CONT
     clear CONT
     cases s' with
     | nil =>
      have HG3 := Aside0.mk (show stackGo rest ([], lft', plan') = Rs from HG2.out)
      have HN' := Aside0.mk (show Calls Try.prog 61 #[.pointer (some ⟨w1.heap.size, 0, none⟩)] wr fun e w' => e = .returned (.bool false) ∧ Drawn0 wr w' from HN.out)
      clear HG2 y0 y1 HN
      go_wp2_with (go_at_call 61; go_must ((with_reducible refine HN'.out.mono ?_); rintro e w2 ⟨rfl, ⟨nd, rfl⟩⟩))
      go_roundw
      case rel => exact CT.out _ _ HG3.out ⟨HL.out.drewN _⟩ ⟨Kd.R_drewN HP.out _⟩ ⟨pw_below_drewN HB.out _⟩
      case measure => have := of_eq_true q1; simp [intOf]; omega
     | cons a t =>
      by_cases c4 : a = (lft'.length : Int) + 1
      ·have c4b : decide (a = (lft'.length : Int) + 1) = true := decide_eq_true c4
       have HG3 := Aside0.mk (show stackGo rest (drainS t (lft' ++ [a]) (plan' ++ [111])) = Rs by
        have := HG2.out
        unfold drainS at this
        rw [if_pos c4] at this
        exact this)
       have HN' := Aside0.mk (show Calls Try.prog 61 #[.pointer (some ⟨w1.heap.size, 0, none⟩)] wr fun e w' => e = .returned (.bool true) ∧ Drawn0 wr w' by have := HN.out; simpa only [nextIs, c4b] using this)
       have HLV := Aside0.mk (fun n => line_leave.calls w.heap.size w1.heap.size (a :: t).reverse lft' (wr.drewN n) (HL.out.drewN n) (by omega) HB.out.size)
       have e5 : (a :: t).reverse.dropLast = t.reverse := by simp
       have e6 : (if (a :: t).reverse.isEmpty then lft' else lft' ++ [(a :: t).reverse.getLast?.getD 0]) = lft' ++ [a] := by simp
       have e7 : (a :: t).reverse.isEmpty = false := by simp
       rw [e5, e6, e7] at HLV
       have HY2 := Aside0.mk (show (t.length : Int) + (lft' ++ [a]).length = x + 1 ∧ ((plan' ++ [111]).length : Int) = x + 1 + (lft' ++ [a]).length by simp at y0 ⊢; omega)
       have HPB := Aside0.mk (show (plan'.length + 1) * 1 ≤ 140737488355328 by simp at y0; omega)
       clear HG2 HN y0 y1 c4 c4b e5 e6 e7
       go_wp2_with (first | (go_at_call 61; go_must ((with_reducible refine HN'.out.mono ?_); rintro e w2 ⟨rfl, ⟨nd, rfl⟩⟩)) | (go_at_call 57; go_must ((with_reducible refine (HLV.out _).mono ?_); rintro e w2 ⟨rfl, hL2, hT2⟩; have HL2 := Aside0.mk hL2; have HB2 := Aside0.mk (Turn.below (pw_below_drewN HB.out _) HB.out.size hT2); have HP2 := Aside0.mk (hT2.bytes (Kd.R_drewN HP.out _)); obtain ⟨v3, w3, z0, z1, z2, z3, _⟩ := append_one (Kd.int .u8) (P := Try.prog) (w0 := w) (W := w2) w.heap.size 74 74 5 (.int .u8 0) 1 Try.underlying74 info5 rfl (by decide) (by omega) (v := u6) (xs := plan') 111 [.int .u8 111] (ok := fun _ => True) (fun _ => False) rfl (fun _ h => h.elim) (fun k hk => trivial) HP2.out HB2.out HB2.out.size HPB.out; have Z0 := Aside0.mk z0; have Z1 := Aside0.mk z1; have Z2 := Aside0.mk z2; have Z3 := Aside0.mk (HL2.out.grown5 HP2.out z3); clear hL2 hT2 z0 z1 z2 z3)) | (at_builtin; go_must (refine wpList_appendRun _ rfl _ _ _ rfl Z0.out rfl rfl rfl ?_)))
       go_roundg (t.length)
       case measure => have := HK.out; simp at this; omega
       case rel => exact ⟨t, lft' ++ [a], plan' ++ [111], ⟨rfl⟩, HY2, HG3, Z3, Z1, Z2⟩
      ·have c4b : decide (a = (lft'.length : Int) + 1) = false := decide_eq_false c4
       have HG3 := Aside0.mk (show stackGo rest (a :: t, lft', plan') = Rs by
        have := HG2.out
        unfold drainS at this
        rw [if_neg c4] at this
        exact this)
       have HN' := Aside0.mk (show Calls Try.prog 61 #[.pointer (some ⟨w1.heap.size, 0, none⟩)] wr fun e w' => e = .returned (.bool false) ∧ Drawn0 wr w' by have := HN.out; simpa only [nextIs, c4b] using this)
       clear HG2 HN y0 y1 c4 c4b
       go_wp2_with (go_at_call 61; go_must ((with_reducible refine HN'.out.mono ?_); rintro e w2 ⟨rfl, ⟨nd, rfl⟩⟩))
       go_roundw
       case rel => exact CT.out _ _ HG3.out ⟨HL.out.drewN _⟩ ⟨Kd.R_drewN HP.out _⟩ ⟨pw_below_drewN HB.out _⟩
       case measure => have := of_eq_true q1; simp [intOf]; omega
   ·have c2b0 : decide (x < (l0.length : Int)) = false := decide_eq_false c2
    have hst : Rs = (s, lft, plan) := by
     rw [← HG.out, List.drop_eq_nil_of_le (by omega)]
     rfl
    subst hst
    obtain ⟨A, c, hlc⟩ := HL.out.len
    by_cases c3 : lft.length < l0.length
    ·have hh := H.out
     rw [if_pos c3] at hh
     replace hh := Option.bind_eq_some_iff.mp hh
     obtain ⟨b, hb1, hh⟩ := hh
     injection hh with hh
     injection hh with e1 hh
     injection hh with e2 e3
     subst e1; subst e2; subst e3
     have HBL := Aside0.mk (shunt_block.calls k A0 c0 l0 b wr (Kd.C_below HR0.out HB.out) HC0.out hb1)
     have c3b : decide (lft.length < l0.length) = true := decide_eq_true c3
     clear H hb1 c3 c2 HG p2 p3
     go_wp2_with (go_at_call 53; go_must ((with_reducible refine HBL.out.mono ?_); rintro e w2 ⟨vb, rfl, hR2, hB2⟩; have HR2 := Aside0.mk hR2; have HB2 := Aside0.mk hB2; clear hR2 hB2))
     go_ret3
     exact ⟨_, rfl, Kd.R_lower HR2.out HB.out.size, below_step HB.out HB2.out⟩
    ·have hh := H.out
     rw [if_neg c3] at hh
     injection hh with hh
     injection hh with e1 hh
     injection hh with e2 e3
     subst e1; subst e2; subst e3
     have c3b : decide (lft.length < l0.length) = false := decide_eq_false c3
     have hcv := own_string (P := Try.prog) (src := 74) (dst := 9) (e := 5) Try.underlying74 Try.underlying5 Try.underlying9 (show wr.ownsRow w.heap.size 5 1 u6 plan.length (nums .u8 plan) from Kd.own_of_R HP.out)
     clear H c3 c2 HG p2 p3
     go_wp2
     go_ret3
     exact ⟨_, rfl, Kd.R_nil _ _ _ _ _, HB.out⟩

def shunt_least.l0 : Nat → Int → List (S82) → Int → Int → Option (Int)
 | 0, _, _, _, _ => none
 | k + 1, x3, x6, x7, x8 => if x8 < x7 then (if 0 ≤ x8 then (if x8 < (x6.length : Int) then (shunt_least.l0 k (mx x3 (wrap64 (((rd_T82 x6 x8).f0) + 1))) x6 x7 (wrap64 (x8 + 1))) else (none)) else (none)) else (some x3)
def shunt_least.f (k : Nat) (l0 : List (S82)) : Option (Int) := shunt_least.l0 k 1 l0 (l0.length : Int) 0
theorem shunt_least.mono_l : ∀ k, (∀ y0 y1 y2 y3, LeO (shunt_least.l0 k y0 y1 y2 y3) (shunt_least.l0 (k + 1) y0 y1 y2 y3))
 | 0 => fun _ _ _ _ r h => by simp [shunt_least.l0] at h
 | k + 1 => by
  have ih0 := shunt_least.mono_l k
  ·intro y0 y1 y2 y3
   unfold shunt_least.l0
   repeat' first
   | (with_reducible exact ih0 _ _ _ _)
   | (with_reducible exact LeO.refl _)
   | (with_reducible exact LeO.none _)
   | (with_reducible refine LeO.ite ?_ ?_)
   | (with_reducible refine LeO.bind ?_ (fun _ => ?_))
   | exact ih0 _ _ _ _
   | exact LeO.none _
   | refine LeO.ite ?_ ?_
   | refine LeO.bind ?_ (fun _ => ?_)
theorem shunt_least.mono : ∀ a0 k, LeO (shunt_least.f k a0) (shunt_least.f (k + 1) a0) := by
 intro a0 k
 have ih0 := shunt_least.mono_l k
 unfold shunt_least.f
 repeat' first
   | (with_reducible exact ih0 _ _ _ _)
   | (with_reducible exact LeO.refl _)
   | (with_reducible exact LeO.none _)
   | (with_reducible refine LeO.ite ?_ ?_)
   | (with_reducible refine LeO.bind ?_ (fun _ => ?_))
   | exact ih0 _ _ _ _
   | exact LeO.none _
   | refine LeO.ite ?_ ?_
   | refine LeO.bind ?_ (fun _ => ?_)
set_option maxHeartbeats 8000000 in
set_option maxRecDepth 100000 in
theorem shunt_least.calls (k : Nat) (A0 : Option Addr) (c0 : Nat) (l0 : List (S82)) (r : Int) (w : World) (hr0 : Kd.C k82 w A0 l0.length l0) (hc0 : l0.length ≤ c0) (h : shunt_least.f k l0 = some r) :
  Calls Try.prog 62 #[.slice A0 l0.length c0] w fun e w' => e = .returned (.int .i64 r) ∧ Below w.heap.size w w' := by
 have hu82 := Try.underlying82
 have HR0 := Aside0.mk hr0
 have HC0 := Aside0.mk hc0
 clear hr0 hc0
 have HB := Aside0.mk (Below.refl w.heap.size w)
 have H : (shunt_least.l0 k 1 l0 (l0.length : Int) 0) = some r := h
 clear h
 have H' := Aside0.mk H
 clear H
 go_enter Try.func62, Try.ntmps62
 go_wp2
 go_loopg [3, 8] k (fun kq v3 v8 w' => ∃ (x3_1 : Int) (x8_1 : Int), v3 = .int .i64 x3_1 ∧ v8 = .int .i64 x8_1 ∧ Aside0 (shunt_least.l0 kq x3_1 l0 (l0.length : Int) x8_1 = some r) ∧ Aside0 (kq ≤ k) ∧ Aside0 (Below w.heap.size w w'))
 case atStart => exact ⟨(1), (0), (by first | rfl | (simp; done) | (simp [*]; done)), (by first | rfl | (simp; done) | (simp [*]; done)), H', ⟨Nat.le_refl _⟩, ⟨by repeat (first | (with_reducible first | exact HB.out | apply below_alloc | apply pw_below_drewN | apply below_drew1) | exact HB.out)⟩⟩
 case round =>
  clear H'
  obtain ⟨x3_1, x8_1, rfl, rfl, HA, HK1, HB⟩ := hrel
  cases gk with
  | zero => exact absurd HA.out (by simp [shunt_least.l0])
  | succ k1 =>
   have H := HA.out
   clear HA
   simp only [shunt_least.l0] at H
   by_cases c2 : x8_1 < (l0.length : Int)
   ·rw [if_pos c2] at H
    have c2b0 : decide (x8_1 < (l0.length : Int)) = true := decide_eq_true c2
    clear c2
    by_cases c3 : 0 ≤ x8_1
    ·rw [if_pos c3] at H
     have c3b0 : decide (0 ≤ x8_1) = true := decide_eq_true c3
     clear c3
     by_cases c4 : x8_1 < (l0.length : Int)
     ·rw [if_pos c4] at H
      have c4b0 : decide (x8_1 < (l0.length : Int)) = true := decide_eq_true c4
      clear c4
      obtain ⟨ji5, hji5⟩ : ∃ j_ : Int, (mx x3_1 (wrap64 (((rd_T82 l0 x8_1).f0) + 1))) = j_ := ⟨_, rfl⟩
      replace H : (shunt_least.l0 k1 ji5 l0 (l0.length : Int) (wrap64 (x8_1 + 1))) = some r := by first | (rw [hji5] at H; exact H) | (simp only [hji5] at H ⊢; exact H)
      have hji5_ : (if x3_1 < (wrap64 (((rd_T82 l0 x8_1).f0) + 1)) then (wrap64 (((rd_T82 l0 x8_1).f0) + 1)) else x3_1) = ji5 := hji5
      have H' := Aside0.mk H
      clear H
      have p125 : 0 ≤ (x8_1 : Int) := of_decide_eq_true (by first | (with_reducible assumption) | assumption)
      have q125 : x8_1 < (l0.length : Int) := of_decide_eq_true (by first | (with_reducible assumption) | assumption)
      obtain ⟨ad125, e125, hx125_0, hx125_1⟩ := at_T82 HR0.out x8_1 p125 q125
      cases e125
      replace hx125_0 := (HB.out.cell (World.block_lt_of_cell? w _ hx125_0)).trans hx125_0
      replace hx125_1 := (HB.out.cell (World.block_lt_of_cell? w _ hx125_1)).trans hx125_1
      replace p125 := eq_true p125
      replace q125 := eq_true q125
      go_wp2_with (first | ((with_reducible refine gate_dst (N := 5) rfl ?_); refine box_event ?hg (N := 5) ?hd (cs := #[.int .i64 0, .int .i64 0]) (t := 82) ?hr ?_; (case hd => rfl); (case hg => rfl); (case hr => first | (go_simp; done) | (go_simp; rfl)); intro gb126 hg w6 hbox hb; have n0_ := Aside0.mk (below_step (by repeat (first | (with_reducible first | exact HB.out | apply below_alloc | apply pw_below_drewN | apply below_drew1) | exact HB.out)) hb); have n1_ := Aside0.mk (hbox); have n2_ := Aside0.mk ((by rw [hg]; exact (below_size (by repeat (first | (with_reducible first | exact HB.out | apply below_alloc | apply pw_below_drewN | apply below_drew1) | exact HB.out))) : w.heap.size ≤ gb126)); have n3_ := Aside0.mk ((by rw [hg]; exact (below_size (by repeat (first | (with_reducible first | exact HB.out | apply below_alloc | apply pw_below_drewN | apply below_drew1) | exact HB.out))) : w.heap.size ≤ gb126)); clear HB; have HB := n0_; have BK126 := n1_; have GW126 := n2_; have GE126 := n3_; clear n0_ n1_ n2_ n3_; clear hb hbox hg; have hcz7_0 : w6.cell? ⟨gb126, 0, none⟩ = some (.int .i64 0) := (blk_cell BK126.out 0).trans rfl; have hcz7_1 : w6.cell? ⟨gb126, 1, none⟩ = some (.int .i64 0) := (blk_cell BK126.out 1).trans rfl; have hfz7_0 := blk_frozen BK126.out 0; have hfz7_1 := blk_frozen BK126.out 1))
      go_roundg k1
      case measure => have := HK1.out; omega
      case rel => exact ⟨(ji5), (wrap64 (x8_1 + 1)), (by first | rfl | (simp; done) | (simp only [← hji5] <;> (first | rfl | simp)) | (simp [*]; done)), (by first | rfl | (simp; done) | (simp [*]; done)), H', ⟨by have := HK1.out; omega⟩, ⟨by repeat (first | (with_reducible first | exact HB.out | apply below_alloc | apply pw_below_drewN | apply below_drew1 | refine below_set ?_ GE126.out) | exact HB.out)⟩⟩
     ·rw [if_neg c4] at H
      exact absurd H (by simp)
    ·rw [if_neg c3] at H
     exact absurd H (by simp)
   ·rw [if_neg c2] at H
    have c2b0 : decide (x8_1 < (l0.length : Int)) = false := decide_eq_false c2
    clear c2
    obtain rfl := Option.some.inj H
    go_wp2
    go_ret
    exact ⟨by first | rfl | (simp [errW_none, errW_some] <;> rfl) | (simp [*, errW_none, errW_some] <;> rfl), by repeat (first | (with_reducible first | exact HB.out | apply below_alloc | apply pw_below_drewN | apply below_drew1) | exact HB.out)⟩

def plPlace (p : Int × Int) : S82 := ⟨p.1, p.2⟩
def shunt_places.f (l0 : List Int) : Option (List S82) := if l0.length ≤ 60 then some ((placesB l0).map plPlace) else none
set_option maxHeartbeats 800000 in
theorem places_fn.calls (l : List Int) (A : Option Addr) (c : Nat) (pa pb : Nat) (x k : Int) (w : World) (ha : w.cell? ⟨pa, 0, none⟩ = some (.slice A l.length c)) (hb : w.cell? ⟨pb, 0, none⟩ = some (.int .i64 x)) (hr : Kd.C (Kd.int .i64) w A l.length l) (h0 : 0 ≤ k) (h1 : k < l.length) :
  Calls Try.prog 78 #[.int .i64 k, .pointer (some ⟨pa, 0, none⟩), .pointer (some ⟨pb, 0, none⟩)] w fun e w' => e = .returned (.bool (decide (rd l k < x))) ∧ Drawn0 w w' := by
 obtain ⟨ad, ea, hx⟩ := Kd.at_int hr k h0 h1
 cases ea
 replace h0 := eq_true h0
 replace h1 := eq_true h1
 clear hr
 go_enter Try.func78, Try.ntmps78
 go_wp2
 go_quiet (fail)
 go_wp2
 go_ret
 exact ⟨rfl, by repeat (first | exact Drawn0.refl _ | apply Drawn0.step)⟩
set_option maxHeartbeats 800000 in
theorem places_index.calls (l last : List Int) (A A1 : Option Addr) (c c1 : Nat) (pa pb : Nat) (x : Int) (w : World) (ha : w.cell? ⟨pa, 0, none⟩ = some (.slice A l.length c)) (hb : w.cell? ⟨pb, 0, none⟩ = some (.int .i64 x)) (hr : Kd.C (Kd.int .i64) w A l.length l) (hr1 : Kd.C (Kd.int .i64) w A1 last.length last) (hk : ∀ k ∈ last, 0 ≤ k ∧ k < l.length) (hm : last.length ≤ 100) (r : Int) (hres : (if placeQ l last x < last.length then (placeQ l last x : Int) else -1) = r) :
  Calls Try.prog 77 #[.slice A1 last.length c1, .func (.func 78) #[] #[.pointer (some ⟨pa, 0, none⟩), .pointer (some ⟨pb, 0, none⟩)]] w fun e w' => e = .returned (.int .i64 r) ∧ Drawn0 w w' := by
 have HRES := Aside0.mk hres
 have HA := Aside0.mk ha
 have HB := Aside0.mk hb
 have HR := Aside0.mk hr
 have HR1 := Aside0.mk hr1
 have HK := Aside0.mk hk
 clear ha hb hr hr1 hk hres
 go_enter Try.func77, Try.ntmps77
 go_wp2
 go_loopw [8] (fun v8 wr => ∃ i : Int, v8 = .int .i64 i ∧ Aside0 (0 ≤ i ∧ i ≤ last.length) ∧ Aside0 (∀ j : Nat, (j : Int) < i → (hj : j < last.length) → x ≤ l.getD (last[j]).toNat 0) ∧ Drawn0 w wr) (fun v8 _ => last.length - (intOf v8).toNat)
 case atStart => exact ⟨0, rfl, ⟨by simp⟩, ⟨fun j h => by omega⟩, by repeat (first | exact Drawn0.refl _ | apply Drawn0.step)⟩
 case round =>
  obtain ⟨i, rfl, HI, HN, ⟨nd, rfl⟩⟩ := hrel
  obtain ⟨p0, p1⟩ := HI.out
  have hi100 : i ≤ 100 := by omega
  by_cases c2 : i < (last.length : Int)
  ·have c2b0 : decide (i < (last.length : Int)) = true := decide_eq_true c2
   obtain ⟨ad, ea, hx⟩ := Kd.at_int HR1.out i p0 c2
   cases ea
   have hlt : i.toNat < last.length := by omega
   have hmem : rd last i ∈ last := by
    unfold rd
    rw [List.getD_eq_getElem?_getD, List.getElem?_eq_getElem hlt, Option.getD_some]
    exact List.getElem_mem hlt
   have hrd : rd last i = last[i.toNat] := by
    unfold rd
    rw [List.getD_eq_getElem?_getD, List.getElem?_eq_getElem hlt, Option.getD_some]
   obtain ⟨hk0, hk1⟩ := HK.out _ hmem
   have HC := Aside0.mk (fun n => places_fn.calls l A c pa pb x (rd last i) (w.drewN n) HA.out HB.out (Kd.C_drewN HR.out n) hk0 hk1)
   have q0 := eq_true p0
   have q1 := eq_true c2
   by_cases c3 : rd l (rd last i) < x
   ·have c3b : decide (rd l (rd last i) < x) = true := decide_eq_true c3
    rw [c3b] at HC
    have hq : placeQ l last x = i.toNat := by
     unfold placeQ
     rw [List.findIdx_eq hlt]
     refine ⟨by rw [← hrd]; exact decide_eq_true c3, fun j hj => ?_⟩
     have := HN.out j (by omega) (by omega)
     exact decide_eq_false (by omega)
    have hq2 : (if placeQ l last x < last.length then (placeQ l last x : Int) else -1) = i := by rw [hq, if_pos hlt]; omega
    obtain rfl : i = r := hq2.symm.trans HRES.out
    clear hq hq2 hrd hmem hk0 hk1 c2 c3 c3b hlt p1
    go_wp2_with (go_at_call 78; go_must ((with_reducible refine (HC.out _).mono ?_); rintro e w2 ⟨rfl, ⟨nd2, rfl⟩⟩))
    go_ret
    exact ⟨rfl, by repeat (first | exact Drawn0.refl _ | apply Drawn0.step)⟩
   ·have c3b : decide (rd l (rd last i) < x) = false := decide_eq_false c3
    rw [c3b] at HC
    have HN2 := Aside0.mk (show ∀ j : Nat, (j : Int) < i + 1 → (hj : j < last.length) → x ≤ l.getD (last[j]).toNat 0 from fun j hj1 hj => by
     by_cases hje : (j : Int) < i
     ·exact HN.out j hje hj
     ·have : j = i.toNat := by omega
      subst this
      rw [hrd] at c3
      exact Int.not_lt.mp c3)
    clear hrd hmem hk0 hk1 c2 c3 c3b hlt
    go_wp2_with (go_at_call 78; go_must ((with_reducible refine (HC.out _).mono ?_); rintro e w2 ⟨rfl, ⟨nd2, rfl⟩⟩))
    go_roundw
    case rel => exact ⟨i + 1, rfl, ⟨by have := of_eq_true q1; omega⟩, HN2, by repeat (first | exact Drawn0.refl _ | apply Drawn0.step)⟩
    case measure => have := of_eq_true q1; simp [intOf]; omega
  ·have c2b0 : decide (i < (last.length : Int)) = false := decide_eq_false c2
   have hq : ¬ placeQ l last x < last.length := by
    intro hlt
    have h1 := List.findIdx_getElem (w := hlt)
    have h2 := HN.out _ (show ((placeQ l last x : Nat) : Int) < i by omega) hlt
    have h3 := of_decide_eq_true h1
    unfold placeQ at h2
    omega
   obtain rfl : -1 = r := by have := HRES.out; rw [if_neg hq] at this; exact this
   clear hq
   go_wp2
   go_ret
   exact ⟨rfl, by repeat (first | exact Drawn0.refl _ | apply Drawn0.step)⟩
theorem placeQ_le (order last : List Int) (x : Int) : placeQ order last x ≤ last.length := List.findIdx_le_length
theorem row_new {W W1 : World} {base : Nat} {ok : Nat → Prop} {v : Value} {xs : List Int} {u : Value} {ys : List S82} {ok' : Nat → Prop} {base' : Nat} (h : Kd.R (Kd.int .i64) 3 W base ok v xs) (ho : Kd.R k82 82 W base' ok' u ys) (hg : W.grownBy W1 u.ownBlock) : Kd.R (Kd.int .i64) 3 W1 base ok v xs :=
 Kd.R_grown2 h rfl hg (fun k hk he => by
  obtain ⟨inner, h1⟩ := Kd.R_own h
  obtain ⟨inner', h2⟩ := Kd.R_own ho
  obtain ⟨c1, e1⟩ := own_typed h1 k he.symm
  obtain ⟨c2, e2⟩ := own_typed h2 k hk
  rw [e1] at e2
  injection e2 with e2
  injection e2 with _ e2
  cases e2)
theorem row_new' {W W1 : World} {base : Nat} {ok : Nat → Prop} {v : Value} {xs : List Int} {u : Value} {ys : List S82} {ok' : Nat → Prop} {base' : Nat} (h : Kd.R (Kd.int .i64) 3 W base ok v xs) (ho : Kd.R k82 82 W base' ok' u ys) (hg : W.grownBy W1 v.ownBlock) : Kd.R k82 82 W1 base' ok' u ys :=
 Kd.R_grown2 ho rfl hg (fun k hk he => by
  obtain ⟨inner, h1⟩ := Kd.R_own h
  obtain ⟨inner', h2⟩ := Kd.R_own ho
  obtain ⟨c1, e1⟩ := own_typed h1 k hk
  obtain ⟨c2, e2⟩ := own_typed h2 k he.symm
  rw [e1] at e2
  injection e2 with e2
  injection e2 with _ e2
  cases e2)
theorem blk_row {W W1 : World} {base : Nat} {ok : Nat → Prop} {α : Type} {d : Kd α} {e : Nat} {v : Value} {xs : List α} (h : d.R e W base ok v xs) (hg : W.grownBy W1 v.ownBlock) {g t : Nat} {cs : Array Value} (hb : W.heap[g]? = some (.cells cs t (0, 0))) (ht : e ≠ t) : W1.heap[g]? = some (.cells cs t (0, 0)) :=
 blk_grown hb hg (Kd.R_ne h hb ht)
/-- The end of a round: the item's position is stored, the place is appended. -/
theorem places_tail {w W : World} {g1 n c gp q : Nat} {x bf : Int} {u3 : Value} {l0 last : List Int} {out : List (Int × Int)} {A0 : Option Addr} {c0 : Nat}
  (F1 : Kd.R (Kd.int .i64) 3 W w.heap.size (fun _ => True) (.slice (some ⟨g1, 0, none⟩) n c) last) (hq : q < last.length) (F2 : Kd.R k82 82 W w.heap.size (fun _ => True) u3 (out.map plPlace))
  (F3 : W.heap[w.heap.size]? = some (.cells #[.slice A0 l0.length c0] 22 (0, 0))) (F4 : W.heap[gp]? = some (.cells #[.int .i64 q, .int .i64 bf] 82 (0, 0))) (F5 : Below w.heap.size w W) (hout : out.length ≤ 1000) :
  ∃ v9 w9, (∃ old, W.cell? ⟨g1, q, none⟩ = some (.int .i64 old)) ∧ W.frozen? ⟨g1, q, none⟩ = false ∧ (W.setCell ⟨g1, q, none⟩ (.int .i64 x)).heap[gp]? = some (.cells #[.int .i64 q, .int .i64 bf] 82 (0, 0)) ∧
   (Builtin.append_ #[76, 76] 76 #[u3, .slice (some ⟨(W.setCell ⟨g1, q, none⟩ (.int .i64 x)).heap.size, 0, none⟩) 1 1]).run Try.prog ((W.setCell ⟨g1, q, none⟩ (.int .i64 x)).alloc (.cells #[.int .i64 q, .int .i64 bf] 82)) = .ok v9 w9 ∧
   Kd.R k82 82 w9 w.heap.size (fun _ => True) v9 ((out ++ [((q : Int), bf)]).map plPlace) ∧ Kd.R (Kd.int .i64) 3 w9 w.heap.size (fun _ => True) (.slice (some ⟨g1, 0, none⟩) n c) (last.set q x) ∧ w9.heap[w.heap.size]? = some (.cells #[.slice A0 l0.length c0] 22 (0, 0)) ∧ Below w.heap.size w w9 := by
 obtain ⟨hc, hf⟩ := Kd.R_celln (0 : Int) F1 (q : Int) (by omega) (by have := (Kd.R_reads' F1).1; omega)
 have hs := Kd.R_putg F1 (q : Int) x
 rw [show ((q : Int)).toNat = q by omega] at hc hf hs
 obtain ⟨S1, hgr⟩ := hs
 have F2' := row_new' F1 F2 hgr
 have F3' := blk_row F1 hgr F3 (by decide)
 have F4' := blk_row F1 hgr F4 (by decide)
 have hge : w.heap.size ≤ g1 := by
  obtain ⟨inner, h1⟩ := Kd.R_own F1
  exact own_base h1 g1 (by simp [Value.ownBlock])
 have F5' : Below w.heap.size w (W.setCell ⟨g1, q, none⟩ (.int .i64 x)) := F5.setCell hge _
 obtain ⟨v9, w9, hrun, ho, hB, hg9, _⟩ := append_one k82 (P := Try.prog) (w0 := w) (W := W.setCell ⟨g1, q, none⟩ (.int .i64 x)) w.heap.size 76 76 82 (.agg #[.int .i64 0, .int .i64 0]) 16 Try.underlying76 info82 rfl (by decide) (by omega) (v := u3) (xs := out.map plPlace) (plPlace ((q : Int), bf)) [.int .i64 q, .int .i64 bf] (ok := fun _ => True) (fun _ => False) (k82_mkM _ _ _ _) (fun _ h => h.elim) (fun k hk => trivial) F2' F5' F5'.size (by simp; omega)
 refine ⟨v9, w9, ⟨_, hc⟩, hf, F4', hrun, by rw [List.map_append]; exact ho, row_new S1 F2' hg9, ?_, hB⟩
 exact blk_grown F3' hg9 (Kd.R_ne F2' F3' (by decide))
set_option maxHeartbeats 4000000 in
set_option maxRecDepth 100000 in
theorem shunt_places.calls (A0 : Option Addr) (c0 : Nat) (l0 : List Int) (r : List S82) (w : World) (hr0 : Kd.C (Kd.int .i64) w A0 l0.length l0) (hc0 : l0.length ≤ c0) (h : shunt_places.f l0 = some r) :
  Calls Try.prog 63 #[.slice A0 l0.length c0] w fun e w' => ∃ v0_ : Value, e = .returned (v0_) ∧ Kd.R k82 82 w' w.heap.size (fun _ => True) v0_ r ∧ Below w.heap.size w w' := by
 have HR0 := Aside0.mk hr0
 have HC0 := Aside0.mk hc0
 clear hr0 hc0
 unfold shunt_places.f at h
 by_cases h60 : l0.length ≤ 60
 case neg => rw [if_neg h60] at h; cases h
 rw [if_pos h60] at h
 have H := Aside0.mk (show (placesGo l0 l0 0 [] []).map plPlace = r from Option.some.inj h)
 clear h
 have hmf : ∀ (fn : Fn) (first cap : Array Value) (w : World), (Instr.makeFunc fn first cap).run Try.prog w = .ok (.func fn first cap) w := fun _ _ _ _ => rfl
 go_enter Try.func63, Try.ntmps63
 go_wp2
 go_loopw [3, 4, 11] (fun v3 v4 v11 wr => ∃ (x : Int) (last : List Int) (out : List (Int × Int)), v11 = .int .i64 x ∧ Aside0 (0 ≤ x ∧ x ≤ l0.length ∧ (last.length : Int) ≤ x ∧ (out.length : Int) = x) ∧ Aside0 (∀ k ∈ last, 0 ≤ k ∧ k < l0.length) ∧ Aside0 ((placesGo l0 (l0.drop x.toNat) x last out).map plPlace = r) ∧ Aside0 (Kd.R k82 82 wr w.heap.size (fun _ => True) v3 (out.map plPlace)) ∧ Aside0 (Kd.R (Kd.int .i64) 3 wr w.heap.size (fun _ => True) v4 last) ∧ Aside0 (wr.heap[w.heap.size]? = some (.cells #[.slice A0 l0.length c0] 22 (0, 0))) ∧ Aside0 (Below w.heap.size w wr)) (fun _ _ v11 _ => l0.length - (intOf v11).toNat)
 case atStart => exact ⟨0, [], [], rfl, ⟨by simp⟩, ⟨by simp⟩, H, ⟨Kd.R_nil _ _ _ _ _⟩, ⟨Kd.R_nil _ _ _ _ _⟩, ⟨heap_alloc_new w _⟩, ⟨below_alloc (Below.refl _ _) _⟩⟩
 case round =>
  clear H
  obtain ⟨x, last, out, rfl, HX, HM, H, HO, HL, HK, HB⟩ := hrel
  obtain ⟨p0, p1, p2, p3⟩ := HX.out
  have hx60 : x ≤ 60 := by omega
  by_cases c2 : x < (l0.length : Int)
  ·have c2b0 : decide (x < (l0.length : Int)) = true := decide_eq_true c2
   have H1 : (placesGo l0 (rd l0 x :: l0.drop (x + 1).toNat) x last out).map plPlace = r := by
    rw [← H.out, show (x + 1).toNat = x.toNat + 1 by omega]
    unfold rd
    rw [List.getD_eq_getElem?_getD, List.getElem?_eq_getElem (show x.toNat < l0.length by omega), Option.getD_some, ← List.drop_eq_getElem_cons]
   obtain ⟨ad, ea, hx⟩ := Kd.at_int (Kd.C_below HR0.out HB.out) x p0 c2
   cases ea
   obtain ⟨y, hy⟩ : ∃ y, rd l0 x = y := ⟨_, rfl⟩
   rw [hy] at H1 hx
   have hle := placeQ_le l0 last y
   have hqd : ∃ q, q = placeQ l0 last y := ⟨_, rfl⟩
   obtain ⟨q, hq⟩ := hqd
   have H2 := Aside0.mk (show (placesGo l0 (l0.drop (x + 1).toNat) (x + 1) ((lastFor l0 last y x).set q x) (out ++ [((q : Int), beforeOf (lastFor l0 last y x) q)])).map plPlace = r by rw [hq]; exact H1)
   obtain ⟨A1, c1, e4⟩ := Kd.R_slice HL.out
   have HI := fun rr hrr => Aside0.mk (places_index.calls l0 last (some ad) A1 c0 c1 w.heap.size wr.heap.size y (wr.alloc (.cells #[.int .i64 y] 3)) ((blk_cell (blk_alloc HK.out _) 0).trans rfl) ((blk_cell (heap_alloc_new wr _) 0).trans rfl) (Kd.C_alloc (Kd.C_below HR0.out HB.out) _) (Kd.C_alloc (e4 ▸ HL.out |> fun h => (Kd.R_reads' h).2.2) _) HM.out (by omega) rr hrr)
   have q0 := eq_true p0
   have q1 := eq_true c2
   have HQ := Aside0.mk hq
   subst e4
   have hbox : ∀ o, (wr.alloc o).cell? ⟨wr.heap.size, 0, none⟩ = (wr.alloc o).cell? ⟨wr.heap.size, 0, none⟩ := fun _ => rfl
   clear hbox H H1 hy
   have hout : out.length ≤ 1000 := by omega
   have HOUT := Aside0.mk hout
   have CONT : ∀ v9 w9 last' bf, lastFor l0 last y x = last' → beforeOf last' q = bf → Kd.R k82 82 w9 w.heap.size (fun _ => True) v9 ((out ++ [((q : Int), bf)]).map plPlace) → ∀ v4, Kd.R (Kd.int .i64) 3 w9 w.heap.size (fun _ => True) v4 (last'.set q x) → w9.heap[w.heap.size]? = some (.cells #[.slice (some ad) l0.length c0] 22 (0, 0)) → Below w.heap.size w w9 →
     ∃ (x' : Int) (last : List Int) (out : List (Int × Int)), (Value.int .i64 (x + 1)) = .int .i64 x' ∧ Aside0 (0 ≤ x' ∧ x' ≤ l0.length ∧ (last.length : Int) ≤ x' ∧ (out.length : Int) = x') ∧ Aside0 (∀ k ∈ last, 0 ≤ k ∧ k < l0.length) ∧ Aside0 ((placesGo l0 (l0.drop x'.toNat) x' last out).map plPlace = r) ∧ Aside0 (Kd.R k82 82 w9 w.heap.size (fun _ => True) v9 (out.map plPlace)) ∧ Aside0 (Kd.R (Kd.int .i64) 3 w9 w.heap.size (fun _ => True) v4 last) ∧ Aside0 (w9.heap[w.heap.size]? = some (.cells #[.slice (some ad) l0.length c0] 22 (0, 0))) ∧ Aside0 (Below w.heap.size w w9) := fun v9 w9 last' bf e1 e2 e3 v4 e4 e5 e6 => by
    have hL : (last'.length : Int) ≤ x + 1 := by
     rw [← e1]; unfold lastFor
     split
     ·omega
     ·simp; omega
    refine ⟨x + 1, last'.set q x, out ++ [((q : Int), bf)], rfl, ⟨by omega, by omega, by rw [List.length_set]; exact hL, by simp; omega⟩, ⟨fun k hk => ?_⟩, ⟨by have := H2.out; rw [e1, e2] at this; exact this⟩, ⟨e3⟩, ⟨e4⟩, ⟨e5⟩, ⟨e6⟩⟩
    rcases List.mem_or_eq_of_mem_set hk with hk | rfl
    ·rw [← e1] at hk
     unfold lastFor at hk
     split at hk
     ·exact HM.out k hk
     ·rcases List.mem_append.1 hk with hk | hk
      ·exact HM.out k hk
      ·have : k = x := by simpa using hk
       omega
    ·exact ⟨p0, c2⟩
   have CT := Aside0.mk CONT
   clear CONT H2 HX
   by_cases c3 : placeQ l0 last y < last.length
   ·have HI2 := HI (q : Int) (by rw [if_pos c3, hq])
    have HLF := Aside0.mk (show lastFor l0 last y x = last by unfold lastFor; rw [if_pos c3])
    have hqlt : q < last.length := by omega
    obtain ⟨g1, rfl⟩ := R_addr HL.out (by omega)
    have HQL := Aside0.mk hqlt
    have hq60 : q ≤ 60 := by omega
    by_cases c5 : q = 0
    ·subst c5
     have HI3 := Aside0.mk HI2.out
     clear HI HI2 c2 c3 hq p1 p2 p3 hle hout
     go_wp2_with (first | (go_at_call 77; go_must ((with_reducible refine HI3.out.mono ?_); rintro e w2 ⟨rfl, ⟨nd, rfl⟩⟩; obtain ⟨v9, w9, ⟨old, t1⟩, t2, t3, t4, t5, t6, t7, t8⟩ := places_tail (w := w) (W := ((wr.alloc (.cells #[.int .i64 y] 3)).drewN nd).alloc (.cells #[.int .i64 0, .int .i64 (-1)] 82)) (q := 0) (gp := wr.heap.size + 1) (x := x) (bf := -1) (c0 := c0) (A0 := some ad) (l0 := l0) (Kd.R_alloc (Kd.R_drewN (Kd.R_alloc HL.out _) _) _) HQL.out (Kd.R_alloc (Kd.R_drewN (Kd.R_alloc HO.out _) _) _) (blk_alloc (blk_drewN (blk_alloc HK.out _) _) _) (by have := heap_alloc_new ((wr.alloc (.cells #[.int .i64 y] 3)).drewN nd) (.cells #[.int .i64 0, .int .i64 (-1)] 82); simpa using this) (below_alloc (pw_below_drewN (below_alloc HB.out _) _) _) HOUT.out; have c90 := (blk_cell t3 0).trans rfl; have c91 := (blk_cell t3 1).trans rfl; have hsz : ((((wr.alloc (.cells #[.int .i64 y] 3)).drewN nd).alloc (.cells #[.int .i64 0, .int .i64 (-1)] 82)).setCell ⟨g1, 0, none⟩ (.int .i64 x)).heap.size = wr.heap.size + 1 + 1 := (by simp [World.setCell]); rw [hsz] at t4; clear hsz; have T4 := Aside0.mk t4; have T5 := Aside0.mk t5; have T6 := Aside0.mk t6; have T7 := Aside0.mk t7; have T8 := Aside0.mk t8; clear t4 t5 t6 t7 t8 t3)) | (at_builtin; go_must (refine wpList_appendRun _ rfl _ _ _ rfl T4.out rfl rfl rfl ?_)))
     go_roundw
     case rel => exact CT.out _ _ last (-1) HLF.out rfl T5.out _ T6.out T7.out T8.out
     case measure => have := of_eq_true q1; simp [intOf]; omega
    ·obtain ⟨jt, hjt⟩ : ∃ jt : Int, (q : Int) - 1 = jt := ⟨_, rfl⟩
     have hj0 : 0 ≤ jt := by omega
     have hj1 : jt < last.length := by omega
     have hbf : beforeOf last q = rd last jt := by
      unfold beforeOf rd
      rw [if_neg c5, ← hjt, show ((q : Int) - 1).toNat = q - 1 by omega]
     have HBF := Aside0.mk hbf
     have hq1 : decide (0 < q) = true := decide_eq_true (by omega)
     have hq2 : decide ((0 : Int) < (q : Int)) = true := decide_eq_true (by omega)
     have hcell := (Kd.R_celln (0 : Int) (Kd.R_alloc HL.out (.cells #[.int .i64 y] 3)) jt hj0 (by have := (Kd.R_reads' HL.out).1; omega)).1
     have hcell2 : ∀ nd, (((wr.alloc (.cells #[.int .i64 y] 3)).drewN nd).alloc (.cells #[.int .i64 (q : Int), .int .i64 (-1)] 82)).cell? ⟨g1, jt.toNat, none⟩ = some (.int .i64 (rd last jt)) := fun nd => (Kd.R_celln (0 : Int) (Kd.R_alloc (Kd.R_drewN (Kd.R_alloc HL.out (.cells #[.int .i64 y] 3)) nd) (.cells #[.int .i64 (q : Int), .int .i64 (-1)] 82)) jt hj0 (by have := (Kd.R_reads' HL.out).1; omega)).1
     have hqI : (q : Int) < last.length := by omega
     have HI3 := Aside0.mk HI2.out
     have e0 := eq_true hj0
     have e1 := eq_true hj1
     clear HI HI2 c2 c3 hq p1 p2 p3 hle hout hbf c5 hcell
     go_wp2_with (first | (go_at_call 77; go_must ((with_reducible refine HI3.out.mono ?_); rintro e w2 ⟨rfl, ⟨nd, rfl⟩⟩; obtain ⟨v9, w9, ⟨old, t1⟩, t2, t3, t4, t5, t6, t7, t8⟩ := places_tail (w := w) (W := ((wr.alloc (.cells #[.int .i64 y] 3)).drewN nd).alloc (.cells #[.int .i64 (q : Int), .int .i64 (rd last jt)] 82)) (q := q) (gp := wr.heap.size + 1) (x := x) (bf := rd last jt) (c0 := c0) (A0 := some ad) (l0 := l0) (Kd.R_alloc (Kd.R_drewN (Kd.R_alloc HL.out _) _) _) HQL.out (Kd.R_alloc (Kd.R_drewN (Kd.R_alloc HO.out _) _) _) (blk_alloc (blk_drewN (blk_alloc HK.out _) _) _) (by have := heap_alloc_new ((wr.alloc (.cells #[.int .i64 y] 3)).drewN nd) (.cells #[.int .i64 (q : Int), .int .i64 (rd last jt)] 82); simpa using this) (below_alloc (pw_below_drewN (below_alloc HB.out _) _) _) HOUT.out; have c90 := (blk_cell t3 0).trans rfl; have c91 := (blk_cell t3 1).trans rfl; have hsz : ((((wr.alloc (.cells #[.int .i64 y] 3)).drewN nd).alloc (.cells #[.int .i64 (q : Int), .int .i64 (rd last jt)] 82)).setCell ⟨g1, q, none⟩ (.int .i64 x)).heap.size = wr.heap.size + 1 + 1 := (by simp [World.setCell]); rw [hsz] at t4; clear hsz; have T4 := Aside0.mk t4; have T5 := Aside0.mk t5; have T6 := Aside0.mk t6; have T7 := Aside0.mk t7; have T8 := Aside0.mk t8; clear t4 t5 t6 t7 t8 t3)) | (at_builtin; go_must (refine wpList_appendRun _ rfl _ _ _ rfl T4.out rfl rfl rfl ?_)))
     go_roundw
     case rel => exact CT.out _ _ last (rd last jt) HLF.out HBF.out T5.out _ T6.out T7.out T8.out
     case measure => have := of_eq_true q1; simp [intOf]; omega
   ·have HI2 := HI (-1) (by rw [if_neg c3])
    have hqe : q = last.length := by omega
    subst hqe
    have HLF := Aside0.mk (show lastFor l0 last y x = last ++ [x] by unfold lastFor; rw [if_neg c3])
    have HQL := Aside0.mk (show last.length < (last ++ [x]).length by simp)
    have hll : (last ++ [x]).length = last.length + 1 := by simp
    have hq60 : last.length ≤ 60 := by omega
    have hqI : (last.length : Int) < (last.length : Int) + 1 := by omega
    have hqN : last.length < last.length + 1 := by omega
    have HI3 := Aside0.mk HI2.out
    by_cases c5 : last.length = 0
    ·have HBF := Aside0.mk (show beforeOf (last ++ [x]) last.length = -1 by unfold beforeOf; rw [if_pos c5])
     have hq1 : decide (0 < last.length) = false := decide_eq_false (by omega)
     have hq2 : decide ((0 : Int) < (last.length : Int)) = false := decide_eq_false (by omega)
     clear HI HI2 c2 c3 hq p1 p2 p3 hle hout c5
     go_wp2_with (first | (go_at_call 77; go_must ((with_reducible refine HI3.out.mono ?_); rintro e w2 ⟨rfl, ⟨nd, rfl⟩⟩; obtain ⟨v4, w3, z0, z1, z2, z3, _⟩ := append_one (Kd.int .i64) (P := Try.prog) (w0 := w) (W := (wr.alloc (.cells #[.int .i64 y] 3)).drewN nd) w.heap.size 22 22 3 (.int .i64 0) 8 Try.underlying22 info3 rfl (by decide) (by omega) (v := .slice A1 last.length c1) (xs := last) x [.int .i64 x] (ok := fun _ => True) (fun _ => False) rfl (fun _ h => h.elim) (fun k hk => trivial) (Kd.R_drewN (Kd.R_alloc HL.out _) _) (pw_below_drewN (below_alloc HB.out _) _) (by have := HB.out.size; simp; omega) (by omega); obtain ⟨A4, c4, e4⟩ := Kd.R_slice z1; subst e4; obtain ⟨g1, e5⟩ := R_addr z1 (by simp); subst e5; have y1 := row_new' (Kd.R_drewN (Kd.R_alloc HL.out _) _) (Kd.R_drewN (Kd.R_alloc HO.out _) _) z3; have y2 := blk_row (Kd.R_drewN (Kd.R_alloc HL.out _) _) z3 (blk_drewN (blk_alloc HK.out _) _) (by decide); rw [hll] at z0 z1; have hsz0 : ((wr.alloc (.cells #[.int .i64 y] 3)).drewN nd).heap.size = wr.heap.size + 1 := (by simp); rw [hsz0] at z0; clear hsz0; have Z0 := Aside0.mk z0; obtain ⟨v9, w9, ⟨old, t1⟩, t2, t3, t4, t5, t6, t7, t8⟩ := places_tail (w := w) (W := w3.alloc (.cells #[.int .i64 (last.length : Int), .int .i64 (-1)] 82)) (q := last.length) (gp := w3.heap.size) (x := x) (bf := (-1)) (c0 := c0) (A0 := some ad) (l0 := l0) (Kd.R_alloc z1 _) HQL.out (Kd.R_alloc y1 _) (blk_alloc y2 _) (heap_alloc_new w3 _) (below_alloc z2 _) HOUT.out; have c90 := (blk_cell t3 0).trans rfl; have c91 := (blk_cell t3 1).trans rfl; have hsz : ((w3.alloc (.cells #[.int .i64 (last.length : Int), .int .i64 (-1)] 82)).setCell ⟨g1, last.length, none⟩ (.int .i64 x)).heap.size = w3.heap.size + 1 := (by simp [World.setCell]); rw [hsz] at t4; clear hsz; have T4 := Aside0.mk t4; have T5 := Aside0.mk t5; have T6 := Aside0.mk t6; have T7 := Aside0.mk t7; have T8 := Aside0.mk t8; clear t4 t5 t6 t7 t8 t3; clear z0 z1 z2 z3 y1 y2)) | (at_builtin; refine wpList_appendRun _ rfl _ _ _ rfl Z0.out rfl rfl rfl ?_) | (at_builtin; refine wpList_appendRun _ rfl _ _ _ rfl T4.out rfl rfl rfl ?_))
     go_roundw
     case rel => exact CT.out _ _ _ (-1) HLF.out HBF.out T5.out _ T6.out T7.out T8.out
     case measure => have := of_eq_true q1; simp [intOf]; omega
    ·obtain ⟨jt, hjt⟩ : ∃ jt : Int, (last.length : Int) - 1 = jt := ⟨_, rfl⟩
     have hj0 : 0 ≤ jt := by omega
     have hj1 : jt < (last.length : Int) + 1 := by omega
     have HJ1 := Aside0.mk (show jt < ((last.length + 1 : Nat) : Int) by omega)
     have hbf : beforeOf (last ++ [x]) last.length = rd (last ++ [x]) jt := by
      unfold beforeOf rd
      rw [if_neg c5, ← hjt, show ((last.length : Int) - 1).toNat = last.length - 1 by omega]
     have HBF := Aside0.mk hbf
     have hq1 : decide (0 < last.length) = true := decide_eq_true (by omega)
     have hq2 : decide ((0 : Int) < (last.length : Int)) = true := decide_eq_true (by omega)
     have e0 := eq_true hj0
     have e1 := eq_true hj1
     clear HI HI2 c2 c3 hq p1 p2 p3 hle hout hbf c5
     go_wp2_with (first | (go_at_call 77; go_must ((with_reducible refine HI3.out.mono ?_); rintro e w2 ⟨rfl, ⟨nd, rfl⟩⟩; obtain ⟨v4, w3, z0, z1, z2, z3, _⟩ := append_one (Kd.int .i64) (P := Try.prog) (w0 := w) (W := (wr.alloc (.cells #[.int .i64 y] 3)).drewN nd) w.heap.size 22 22 3 (.int .i64 0) 8 Try.underlying22 info3 rfl (by decide) (by omega) (v := .slice A1 last.length c1) (xs := last) x [.int .i64 x] (ok := fun _ => True) (fun _ => False) rfl (fun _ h => h.elim) (fun k hk => trivial) (Kd.R_drewN (Kd.R_alloc HL.out _) _) (pw_below_drewN (below_alloc HB.out _) _) (by have := HB.out.size; simp; omega) (by omega); obtain ⟨A4, c4, e4⟩ := Kd.R_slice z1; subst e4; obtain ⟨g1, e5⟩ := R_addr z1 (by simp); subst e5; have y1 := row_new' (Kd.R_drewN (Kd.R_alloc HL.out _) _) (Kd.R_drewN (Kd.R_alloc HO.out _) _) z3; have y2 := blk_row (Kd.R_drewN (Kd.R_alloc HL.out _) _) z3 (blk_drewN (blk_alloc HK.out _) _) (by decide); rw [hll] at z0 z1; have hsz0 : ((wr.alloc (.cells #[.int .i64 y] 3)).drewN nd).heap.size = wr.heap.size + 1 := (by simp); rw [hsz0] at z0; clear hsz0; have Z0 := Aside0.mk z0; obtain ⟨v9, w9, ⟨old, t1⟩, t2, t3, t4, t5, t6, t7, t8⟩ := places_tail (w := w) (W := w3.alloc (.cells #[.int .i64 (last.length : Int), .int .i64 (rd (last ++ [x]) jt)] 82)) (q := last.length) (gp := w3.heap.size) (x := x) (bf := (rd (last ++ [x]) jt)) (c0 := c0) (A0 := some ad) (l0 := l0) (Kd.R_alloc z1 _) HQL.out (Kd.R_alloc y1 _) (blk_alloc y2 _) (heap_alloc_new w3 _) (below_alloc z2 _) HOUT.out; have c90 := (blk_cell t3 0).trans rfl; have c91 := (blk_cell t3 1).trans rfl; have hsz : ((w3.alloc (.cells #[.int .i64 (last.length : Int), .int .i64 (rd (last ++ [x]) jt)] 82)).setCell ⟨g1, last.length, none⟩ (.int .i64 x)).heap.size = w3.heap.size + 1 := (by simp [World.setCell]); rw [hsz] at t4; clear hsz; have T4 := Aside0.mk t4; have T5 := Aside0.mk t5; have T6 := Aside0.mk t6; have T7 := Aside0.mk t7; have T8 := Aside0.mk t8; clear t4 t5 t6 t7 t8 t3; have hcell2 : (w3.alloc (.cells #[.int .i64 (last.length : Int), .int .i64 (-1)] 82)).cell? ⟨g1, jt.toNat, none⟩ = some (.int .i64 (rd (last ++ [x]) jt)) := (Kd.R_celln (0 : Int) (Kd.R_alloc z1 (.cells #[.int .i64 (last.length : Int), .int .i64 (-1)] 82)) jt (of_eq_true e0) HJ1.out).1; clear z0 z1 z2 z3 y1 y2)) | (at_builtin; refine wpList_appendRun _ rfl _ _ _ rfl Z0.out rfl rfl rfl ?_) | (at_builtin; refine wpList_appendRun _ rfl _ _ _ rfl T4.out rfl rfl rfl ?_))
     go_roundw
     case rel => exact CT.out _ _ _ (rd (last ++ [x]) jt) HLF.out HBF.out T5.out _ T6.out T7.out T8.out
     case measure => have := of_eq_true q1; simp [intOf]; omega
  ·have c2b0 : decide (x < (l0.length : Int)) = false := decide_eq_false c2
   have hr : out.map plPlace = r := by
    rw [← H.out, List.drop_eq_nil_of_le (by omega)]
    rfl
   subst hr
   clear c2 H p1 p2 p3
   go_wp2
   go_ret
   exact ⟨_, rfl, HO.out, HB.out⟩

def shunt_Least.f (k : Nat) (l0 : List Int) : Option (Int × Int) := (shunt_isOrder.f l0).bind fun t127 => (if t127 = true then ((shunt_places.f l0).bind fun t128 => ((shunt_least.f k t128).bind fun t131 => (some (t131, 0)))) else (some (0, 2)))
theorem shunt_Least.mono : ∀ a0 k, LeO (shunt_Least.f k a0) (shunt_Least.f (k + 1) a0) := by
 intro a0 k
 unfold shunt_Least.f
 repeat' first
   | (with_reducible exact shunt_least.mono _ _)
   | (with_reducible exact LeO.refl _)
   | (with_reducible exact LeO.none _)
   | (with_reducible refine LeO.ite ?_ ?_)
   | (with_reducible refine LeO.bind ?_ (fun _ => ?_))
   | exact shunt_least.mono _ _
   | exact LeO.none _
   | refine LeO.ite ?_ ?_
   | refine LeO.bind ?_ (fun _ => ?_)
set_option maxHeartbeats 8000000 in
set_option maxRecDepth 100000 in
theorem shunt_Least.calls (k : Nat) (A0 : Option Addr) (c0 : Nat) (l0 : List Int) (r1 : Int) (r2 : Int) (w : World) (hr0 : Kd.C (Kd.int .i64) w A0 l0.length l0) (hc0 : l0.length ≤ c0) (h : shunt_Least.f k l0 = some (r1, r2)) :
  Calls Try.prog 29 #[.slice A0 l0.length c0] w fun e w' => e = .returned (.tuple #[.int .i64 r1, .int .i64 r2]) ∧ Below w.heap.size w w' := by
 have HR0 := Aside0.mk hr0
 have HC0 := Aside0.mk hc0
 clear hr0 hc0
 have HB := Aside0.mk (Below.refl w.heap.size w)
 have H : ((shunt_isOrder.f l0).bind fun t127 => (if t127 = true then ((shunt_places.f l0).bind fun t128 => ((shunt_least.f k t128).bind fun t131 => (some (t131, 0)))) else (some (0, 2)))) = some (r1, r2) := h
 clear h
 replace H := Option.bind_eq_some_iff.mp H
 obtain ⟨t127, A20, H⟩ := H
 replace H : (if t127 = true then ((shunt_places.f l0).bind fun t128 => ((shunt_least.f k t128).bind fun t131 => (some (t131, 0)))) else (some (0, 2))) = some (r1, r2) := H
 have A2 := Aside0.mk A20
 clear A20
 by_cases c3 : t127 = true
 ·subst c3
  have H1 : ((shunt_places.f l0).bind fun t128 => ((shunt_least.f k t128).bind fun t131 => (some (t131, 0)))) = some (r1, r2) := by rw [if_pos rfl] at H; exact H
  clear H
  have H := H1
  clear H1
  replace H := Option.bind_eq_some_iff.mp H
  obtain ⟨t128, A40, H⟩ := H
  replace H : ((shunt_least.f k t128).bind fun t131 => (some (t131, 0))) = some (r1, r2) := H
  have A4 := Aside0.mk A40
  clear A40
  replace H := Option.bind_eq_some_iff.mp H
  obtain ⟨t131, A50, H⟩ := H
  replace H : (some (t131, 0)) = some (r1, r2) := H
  have A5 := Aside0.mk A50
  clear A50
  simp only [Option.some.injEq, Prod.mk.injEq] at H
  obtain ⟨rfl, rfl⟩ := H
  go_enter Try.func29, Try.ntmps29
  go_wp2_with (first | ((with_reducible refine gate_callee (f := 52) rfl ?_); refine goesL_ (some 5) rfl rfl Try.func52 (by kernel_rfl) rfl #[.slice A0 l0.length c0] rfl (by (try simp only [List.map_toArray, List.map_cons, List.map_nil]); first | done | rfl | (simp only [List.length_drop, List.length_take]; rfl)) ?_; (with_reducible refine (shunt_isOrder.calls _ _ l0 true _ ?side1 ?side2 A2.out).mono ?_); (case side1 => repeat (first | exact HR0.out | (with_reducible refine Kd.C_alloc ?_ _) | (with_reducible refine Kd.C_drewN ?_ _) | (with_reducible refine Kd.C_drew ?_))); (case side2 => exact HC0.out); rintro e w6 ⟨rfl, hb⟩; refine ⟨_, rfl, ?_⟩; have n0_ := Aside0.mk (below_step (by repeat (first | (with_reducible first | exact HB.out | apply below_alloc | apply pw_below_drewN | apply below_drew1) | exact HB.out)) hb); clear HB; have HB := n0_; clear n0_; (try clear hb); (try clear hb2); (try clear hk); (try clear hi)) | ((with_reducible refine gate_callee (f := 63) rfl ?_); refine goesL_ (some 8) rfl rfl Try.func63 (by kernel_rfl) rfl #[.slice A0 l0.length c0] rfl (by (try simp only [List.map_toArray, List.map_cons, List.map_nil]); first | done | rfl | (simp only [List.length_drop, List.length_take]; rfl)) ?_; (with_reducible refine (shunt_places.calls _ _ l0 t128 _ ?side1 ?side2 A4.out).mono ?_); (case side1 => repeat (first | exact (Kd.C_below HR0.out HB.out) | (with_reducible refine Kd.C_alloc ?_ _) | (with_reducible refine Kd.C_drewN ?_ _) | (with_reducible refine Kd.C_drew ?_))); (case side2 => exact HC0.out); rintro e w7 ⟨v129, rfl, ho0, hb⟩; refine ⟨_, rfl, ?_⟩; have n0_ := Aside0.mk (Kd.R_lower ho0 (below_size (by repeat (first | (with_reducible first | exact HB.out | apply below_alloc | apply pw_below_drewN | apply below_drew1) | exact HB.out)))); have n1_ := Aside0.mk (below_step (by repeat (first | (with_reducible first | exact HB.out | apply below_alloc | apply pw_below_drewN | apply below_drew1) | exact HB.out)) hb); clear HB; have HO130 := n0_; have HB := n1_; clear n0_ n1_; (try clear hb); (try clear hb2); (try clear hk); (try clear hi); (try clear ho0); obtain ⟨Ao8, co8, eo8⟩ := Kd.R_slice HO130.out; subst eo8) | ((with_reducible refine gate_callee (f := 62) rfl ?_); refine goesL_ (some 9) rfl rfl Try.func62 (by kernel_rfl) rfl #[.slice Ao8 t128.length co8] rfl (by (try simp only [List.map_toArray, List.map_cons, List.map_nil]); first | done | rfl | (simp only [List.length_drop, List.length_take]; rfl)) ?_; (with_reducible refine (shunt_least.calls k _ _ t128 t131 _ ?side1 ?side2 A5.out).mono ?_); (case side1 => repeat (first | exact (Kd.R_reads' HO130.out).2.2 | (with_reducible refine Kd.C_alloc ?_ _) | (with_reducible refine Kd.C_drewN ?_ _) | (with_reducible refine Kd.C_drew ?_))); (case side2 => exact (Kd.R_reads' HO130.out).2.1); rintro e w9 ⟨rfl, hb⟩; refine ⟨_, rfl, ?_⟩; have n0_ := Aside0.mk (Kd.R_below (by (with_reducible repeat (first | apply Kd.R_alloc | apply Kd.R_drewN | apply Kd.R_drew)); exact HO130.out) hb); have n1_ := Aside0.mk (below_step (by repeat (first | (with_reducible first | exact HB.out | apply below_alloc | apply pw_below_drewN | apply below_drew1) | exact HB.out)) hb); clear HO130; clear HB; have HO130 := n0_; have HB := n1_; clear n0_ n1_; (try clear hb); (try clear hb2); (try clear hk); (try clear hi)))
  go_ret2
  exact ⟨by first | rfl | (simp [errW_none, errW_some] <;> rfl) | (simp [*, errW_none, errW_some] <;> rfl), by repeat (first | (with_reducible first | exact HB.out | apply below_alloc | apply pw_below_drewN | apply below_drew1) | exact HB.out)⟩
 ·replace c3 := Bool.eq_false_iff.mpr c3
  subst c3
  have H1 : (some (0, 2)) = some (r1, r2) := by rw [if_neg (show ¬ (false = true) by decide)] at H; exact H
  clear H
  have H := H1
  clear H1
  simp only [Option.some.injEq, Prod.mk.injEq] at H
  obtain ⟨rfl, rfl⟩ := H
  go_enter Try.func29, Try.ntmps29
  go_wp2_with (first | ((with_reducible refine gate_callee (f := 52) rfl ?_); refine goesL_ (some 5) rfl rfl Try.func52 (by kernel_rfl) rfl #[.slice A0 l0.length c0] rfl (by (try simp only [List.map_toArray, List.map_cons, List.map_nil]); first | done | rfl | (simp only [List.length_drop, List.length_take]; rfl)) ?_; (with_reducible refine (shunt_isOrder.calls _ _ l0 false _ ?side1 ?side2 A2.out).mono ?_); (case side1 => repeat (first | exact HR0.out | (with_reducible refine Kd.C_alloc ?_ _) | (with_reducible refine Kd.C_drewN ?_ _) | (with_reducible refine Kd.C_drew ?_))); (case side2 => exact HC0.out); rintro e w10 ⟨rfl, hb⟩; refine ⟨_, rfl, ?_⟩; have n0_ := Aside0.mk (below_step (by repeat (first | (with_reducible first | exact HB.out | apply below_alloc | apply pw_below_drewN | apply below_drew1) | exact HB.out)) hb); clear HB; have HB := n0_; clear n0_; (try clear hb); (try clear hb2); (try clear hk); (try clear hi)))
  go_ret2
  exact ⟨by first | rfl | (simp [errW_none, errW_some] <;> rfl) | (simp [*, errW_none, errW_some] <;> rfl), by repeat (first | (with_reducible first | exact HB.out | apply below_alloc | apply pw_below_drewN | apply below_drew1) | exact HB.out)⟩
end Go.Proofs.Ytjbjongahnocdaa.S
