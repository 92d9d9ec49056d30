-- Written by wip/bundle2.py: texts of this claim, one behind the other.
import Derived.WalkKit
import Derived.Deep.Draws
import Derived.Maps.OwnSet
import Derived.Maps.Views
import Derived.Test.YtnfmeafiaipplaaVLoopsOnceWords
import Derived.Test.YtnfmeafiaipplaaVLoopsOnceLast
import Derived.Test.YtnfmeafiaipplaaVLoopsOnceMore
import Derived.Test.YtnfmeafiaipplaaProg
import Derived.Below
import Derived.Deep.AppendLies
import Derived.Maps.AppendAt
import Derived.OwnWalk
import Derived.Laws.BytesArg
import Derived.Laws.MakeOwn
import Derived.Laws.OwnMore
import Derived.Deep.OwnRows
import Derived.Tactics
import Derived.Lib.ConvBytes
import Derived.Laws.Slices
import Derived.KernelRfl
import Derived.RowKit3
import Derived.Deep.LoopGhost
import Derived.Deep.QuietTactic
import Derived.BigQuiet
import Derived.WideLaws
import Derived.Deep.DeepCutAuto
import Derived.Deep.CutBlock
import Derived.Deep.RegionHeld3
import Derived.Laws.Rows
import Derived.Lib.AppendStr
import Derived.ArgAppend
import Derived.Laws.IdiomCopy
import Derived.OrdersHeld
import Derived.Laws.BitsLemmas
import Derived.RowKit
import Derived.Deep.DeepMust
import Derived.WalkSpells
import Derived.Laws.EntriesVeiled
import Derived.IntWalk
import Derived.Test.YtnfmeafiaipplaaVLoopsOnceTab
import Derived.Test.YtnfmeafiaipplaaVLoopsOnceApart
import Derived.Test.YtnfmeafiaipplaaVLoopsOnceFoot
import Derived.Test.YtnfmeafiaipplaaVLoopsOnceKept
import Derived.Test.YtnfmeafiaipplaaVLoopsOnceShare
import Derived.Test.YtnfmeafiaipplaaVLoopsOnceN
import Derived.Test.YtnfmeafiaipplaaVLoopsOnceEqStruct
import Derived.Test.YtnfmeafiaipplaaVLoopsOnceRepsOne
import Derived.Test.YtnfmeafiaipplaaVLoopsOnceInv
import Derived.Test.YtnfmeafiaipplaaVLoopsOnceGuard
import Derived.DeepKeys4
import Derived.BigRegion
import Derived.StillTailTactics
import Derived.Deep.RegionHeldLaw
set_option linter.unusedVariables false
set_option linter.unusedSimpArgs false

namespace Go.Proofs.Ytnfmeafiaipplaa.Lib
open Go.Maps (Keyed IsMap Tidy)

/-- An element is held as it stands. -/
def Rv (v : Value) : Option (DataW Value × List MemPlace) := some (.held v, [])
/-- Block b of w is a map of m entries; at the key k it holds 'f k'. -/
def MapAt (w : World) (P : Program) (k : TypeId) (b m : Nat) (f : Value → Option Value) : Prop :=
 ∃ D, w.ownsMap P k Rv b m D ∧ Maps.size D = m ∧ ∀ kv kl, keyOf P k kv = some kl → Maps.has D kl = (f kv).isSome ∧ ∀ z : Value, D.atKey kl (.held z) = .held ((f kv).getD z)
theorem MapAt.lt {w : World} {P : Program} {k : TypeId} {b m : Nat} {f : Value → Option Value} (h : MapAt w P k b m f) : b < w.heap.size := by
 obtain ⟨D, h1, _⟩ := h
 exact h1.lt
theorem MapAt.made (w : World) (P : Program) (k : TypeId) : MapAt (w.alloc (.map #[] 0)) P k w.heap.size 0 (fun _ => none) :=
 ⟨_, World.ownsMap_made w P k Rv, rfl, fun _ _ _ => ⟨rfl, fun _ => rfl⟩⟩
theorem MapAt.congr {w : World} {P : Program} {k : TypeId} {b m : Nat} {f g : Value → Option Value} (h : MapAt w P k b m f) (e : ∀ kv kl, keyOf P k kv = some kl → f kv = g kv) : MapAt w P k b m g := by
 obtain ⟨D, h1, h2, h3⟩ := h
 refine ⟨D, h1, h2, fun kv kl hk => ?_⟩
 rw [← e kv kl hk]
 exact h3 kv kl hk
theorem MapAt.kept {w w' : World} {P : Program} {k : TypeId} {b m : Nat} {f : Value → Option Value} {row : Option Nat} (h : MapAt w P k b m f) (hg : w.grownBy w' row) (hne : some b ≠ row) : MapAt w' P k b m f := by
 obtain ⟨D, h1, h2, h3⟩ := h
 exact ⟨D, h1.kept hg hne, h2, h3⟩
theorem MapAt.block {w w' : World} {P : Program} {k : TypeId} {b m : Nat} {f : Value → Option Value} (h : MapAt w P k b m f) (hb : w'.heap[b]? = w.heap[b]?) : MapAt w' P k b m f := by
 obtain ⟨D, ⟨es, clock, h0, F, hs, hD⟩, h2, h3⟩ := h
 exact ⟨D, ⟨es, clock, hb.trans h0, F, hs, hD⟩, h2, h3⟩
theorem MapAt.drewN {w : World} {P : Program} {k : TypeId} {b m : Nat} {f : Value → Option Value} (h : MapAt w P k b m f) (n : Nat) : MapAt (w.drewN n) P k b m f := h.block rfl
theorem MapAt.drew {w : World} {P : Program} {k : TypeId} {b m : Nat} {f : Value → Option Value} (h : MapAt w P k b m f) : MapAt w.drew P k b m f := h.block rfl
theorem MapAt.alloc {w : World} {P : Program} {k : TypeId} {b m : Nat} {f : Value → Option Value} (h : MapAt w P k b m f) (o : Obj) : MapAt (w.alloc o) P k b m f := by
 obtain ⟨D, h1, h2, h3⟩ := h
 exact ⟨D, h1.alloc o, h2, h3⟩
theorem MapAt.setCell {w : World} {P : Program} {k : TypeId} {b m : Nat} {f : Value → Option Value} (h : MapAt w P k b m f) {a : Addr} (ha : b ≠ a.block) (u : Value) : MapAt (w.setCell a u) P k b m f := by
 obtain ⟨D, h1, h2, h3⟩ := h
 exact ⟨D, h1.setCell ha u, h2, h3⟩
theorem MapAt.below {w w' : World} {P : Program} {k : TypeId} {b m : Nat} {f : Value → Option Value} (h : MapAt w P k b m f) (hb : Go.RowKit.Below w.heap.size w w') : MapAt w' P k b m f := h.block (hb.block b h.lt)
/-- A map's block is no row of cells. -/
theorem MapAt.ne {w : World} {P : Program} {k : TypeId} {b m : Nat} {f : Value → Option Value} (h : MapAt w P k b m f) {g : Nat} {cs : Array Value} {t : TypeId} {fr : Nat × Nat} (hg : w.heap[g]? = some (.cells cs t fr)) : b ≠ g := by
 rintro rfl
 obtain ⟨D, ⟨es, clock, h0, _⟩, _⟩ := h
 rw [hg] at h0
 cases h0
section
variable {w : World} {P : Program} {t k e : TypeId} {b m : Nat} {f : Value → Option Value}

/-- 'm[k]'. -/
theorem MapAt.look (h : MapAt w P k b m f) (K : Keyed P k) (ht : P.underlying t = some (.map k e)) {z : Value} (hz : (zeroValue e).run P w = .ok z w) {key : Value} {kl : Lit} (hkey : keyOf P k key = some kl) :
  (Instr.lookup t (.map (some b)) key false).run P w = .ok ((f key).getD z) w := by
 obtain ⟨D, h1, h2, h3⟩ := h
 obtain ⟨v, ps, hrun, hv⟩ := h1.lookup K ht hz (R := Rv) rfl hkey
 rw [hrun]
 have := (h3 key kl hkey).2 z
 rw [this] at hv
 injection hv with hv
 injection hv with hv
 injection hv with hv
 rw [hv]
/-- 'v, ok := m[k]'. -/
theorem MapAt.lookOk (h : MapAt w P k b m f) (K : Keyed P k) (ht : P.underlying t = some (.map k e)) {z : Value} (hz : (zeroValue e).run P w = .ok z w) {key : Value} {kl : Lit} (hkey : keyOf P k key = some kl) :
  (Instr.lookup t (.map (some b)) key true).run P w = .ok (.tuple #[(f key).getD z, .bool (f key).isSome]) w := by
 obtain ⟨D, h1, h2, h3⟩ := h
 obtain ⟨v, ps, hrun, hv⟩ := h1.look_ok K ht hz (R := Rv) rfl hkey
 rw [hrun, (h3 key kl hkey).1]
 have := (h3 key kl hkey).2 z
 rw [this] at hv
 injection hv with hv
 injection hv with hv
 injection hv with hv
 rw [hv]
theorem MapAt.len (h : MapAt w P k b m f) (ht : P.underlying t = some (.map k e)) (ty : TypeId) : (Builtin.len_ #[t] ty #[.map (some b)]).run P w = .ok (.int .i64 m) w := by
 obtain ⟨D, h1, h2, _⟩ := h
 rw [← h2]
 exact h1.len ht ty
/-- What a store makes of f. -/
theorem put_fact (K : Keyed P k) {D : DataW Value} (hD : Tidy D) (h2 : Maps.size D = m) (h3 : ∀ kv kl, keyOf P k kv = some kl → Maps.has D kl = (f kv).isSome ∧ ∀ z : Value, D.atKey kl (.held z) = .held ((f kv).getD z))
  {key val : Value} {kl : Lit} (hkey : keyOf P k key = some kl) {f' : Value → Option Value} (e1 : f' key = some val) (e2 : ∀ v, v ≠ key → f' v = f v) :
  Maps.size (D.put kl (.held val)) = (if (f key).isSome then m else m + 1) ∧ ∀ kv kl', keyOf P k kv = some kl' → Maps.has (D.put kl (.held val)) kl' = (f' kv).isSome ∧ ∀ z : Value, (D.put kl (.held val)).atKey kl' (.held z) = .held ((f' kv).getD z) := by
 refine ⟨by rw [Maps.size_put hD, (h3 key kl hkey).1, h2], fun kv kl' hk' => ?_⟩
 by_cases hne : kv = key
 ·subst hne
  rw [hkey] at hk'
  injection hk' with hk'
  subst hk'
  rw [e1]
  exact ⟨Maps.has_put_same hD.isMap (K.key hkey) _, fun z => Maps.atKey_put_same hD.isMap (K.key hkey) _ _⟩
 have hl : kl' ≠ kl := fun e0 => hne (K.inj (e0 ▸ hk') hkey)
 rw [e2 kv hne]
 exact ⟨(Maps.has_put_other hl _).trans (h3 kv kl' hk').1, fun z => (Maps.atKey_put_other hl _ _).trans ((h3 kv kl' hk').2 z)⟩
theorem MapAt.bound {n : Nat} {D : DataW Value} (h : w.ownsMap P k Rv b n D) : w.ownsMap P k Rv b (Maps.size D) D := by
 obtain ⟨es, clock, hb, F, hs, hD⟩ := h
 refine ⟨es, clock, hb, F, ?_, hD⟩
 rw [hD]
 simp [Maps.size, length_sorted]
/-- 'm[k] = v'. -/
theorem MapAt.store (h : MapAt w P k b m f) (K : Keyed P k) (ht : P.underlying t = some (.map k e)) (hm : m < maxLen) {key val : Value} {kl : Lit} (hkey : keyOf P k key = some kl) {f' : Value → Option Value} (e1 : f' key = some val) (e2 : ∀ v, v ≠ key → f' v = f v) :
  ∃ w', (Instr.mapUpdate t (.map (some b)) key val).run P w = .ok () w' ∧ MapAt w' P k b (if (f key).isSome then m else m + 1) f' ∧ w.grownBy w' (some b) := by
 obtain ⟨D, h1, h2, h3⟩ := h
 obtain ⟨w', hrun, h4, h5⟩ := h1.update K ht hm (val := val) (d := .held val) (ps := []) hkey rfl
 obtain ⟨h6, h7⟩ := put_fact K (h1.tidy K) h2 h3 hkey (val := val) e1 e2
 exact ⟨w', hrun, ⟨_, h6 ▸ MapAt.bound h4, h6, h7⟩, h5⟩
end

section
variable {P : Program} (w : World) {ops : Array Oper} {rest : List Oper} {o : Oper} {a : Act} {Q : Exit → Act → World → Prop}

end

def encI (g : Int → Option Value) : Value → Option Value
 | .int .i64 x => g x
 | _ => none
theorem wfI {x : Int} (h0 : -9223372036854775808 ≤ x) (h1 : x ≤ 9223372036854775807) : (Lit.int .i64 x).wf = true := WalkArith.wf_i64 (by omega)
section
variable {P : Program} (W : World) {ops : Array Oper} {rest : List Oper} {o : Oper} {a : Act} {Q : Exit → Act → World → Prop}
theorem wpList_appendRun (hg : o.guard = none) (s x : Operand) (t : TypeId) (ho : o.op = .call { callee := .builtin .append, args := #[s, x], argTypes := #[t, t] }) {v y v1 : Value} {w1 : World} {ty : TypeId}
  (hrun : (Builtin.append_ #[t, t] ty #[v, y]).run P W = .ok v1 w1) (hty : o.type = ty) (hs : a.eval s = v) (hx : a.eval x = y) (hK : wpList P ops Q rest (a.put o.dst v1) w1) : wpList P ops Q (o :: rest) a W := by
 refine wpList_plain hg fun K hK' => ?_
 unfold Oper.wp execOp
 simp only [ho, resolve, invoke, builtin, Sem.run_bind, Sem.run_pure, Result.andThen_ok, List.map_toArray, List.map_cons, List.map_nil, hs, hx, hty, hrun]
 exact hK' _ _ hK
end

theorem append_extract {P : Program} {t : TypeId} {v y : Value} {W : World} {Φ : Value → World → Prop}
  (h : ∀ (o : Oper) (a : Act) (Kc : Act → World → Prop) (Q : Exit → Act → World → Prop), o.guard = none → o.op = .call { callee := .builtin .append, args := #[.const v, .const y], argTypes := #[t, t] } → (∀ v1 w1, Φ v1 w1 → Kc (a.put o.dst v1) w1) → Oper.wp P o a W Kc Q) (ty : TypeId) :
  ∃ v1 w1, (Builtin.append_ #[t, t] ty #[v, y]).run P W = .ok v1 w1 ∧ Φ v1 w1 := by
 have h1 := h { dst := some 0, op := .call { callee := .builtin .append, args := #[.const v, .const y], argTypes := #[t, t] }, type := ty, pos := "", after := #[], guard := none } ⟨#[undef], []⟩
  (fun a' w' => ∃ v1, a'.tmps = #[v1] ∧ Φ v1 w') (fun _ _ _ => False) rfl rfl (fun v1 w1 hp => ⟨v1, rfl, hp⟩)
 unfold Oper.wp execOp at h1
 simp only [resolve, invoke, builtin, Sem.run_bind, Sem.run_pure, Result.andThen_ok, List.map_toArray, List.map_cons, List.map_nil] at h1
 have e1 : Act.eval ⟨#[undef], []⟩ (.const v) = v := rfl
 have e2 : Act.eval ⟨#[undef], []⟩ (.const y) = y := rfl
 rw [e1, e2] at h1
 cases hr : (Builtin.append_ #[t, t] ty #[v, y]).run P W with
 | ok v1 w1 =>
  rw [hr] at h1
  obtain ⟨v2, h2, h3⟩ := h1
  have : v1 = v2 := by
   have h4 : (Act.put (⟨#[undef], []⟩ : Act) (some 0) v1).tmps = #[v2] := h2
   simpa [Act.put] using h4
  subst this
  exact ⟨v1, w1, rfl, h3⟩
 | halt e w1 =>
  rw [hr] at h1
  cases e <;> exact absurd h1 (by simp [Result.andThen, Oper.upon])
end Go.Proofs.Ytnfmeafiaipplaa.Lib

namespace Go.Proofs.Ytnfmeafiaipplaa.Lib
open Go.RowKit Go.Proofs.YtnfmeafiaipplaaW.PrintWords Go.Proofs.YtnfmeafiaipplaaW.PrintLast Go.Proofs.YtnfmeafiaipplaaW.PrintMore
set_option linter.unusedVariables false

/-- append(v, p), p laid in a new block. -/
theorem append_one {α : Type} (d : Kd α) {P : Program} {w0 W : World} (base : Nat) (t ty e : TypeId) (z : Value) (bytes : Nat) (ht : P.underlying t = some (.slice e)) (hinfo : (P.info? e).map (fun i => (i.zero, i.size, i.bytes)) = some (some z, d.sz, bytes)) (hz : z.cells.size = d.sz) (hs0 : 0 < d.sz) (hb0 : 0 < bytes)
  {v : Value} {xs : List α} (p : α) (cs : List Value) {ok : Nat → Prop} (okp : Nat → Prop) (hp : d.M W base okp p cs) (hokp : ∀ k, okp k → ok k ∧ some k ≠ v.ownBlock) (hfresh : ∀ k, W.heap.size ≤ k → ok k)
  (HO : d.R e W base ok v xs) (HB : Below base w0 W) (hbase : base ≤ W.heap.size) (hl : (xs.length + 1) * bytes ≤ 140737488355328) :
  ∃ v1 w1, (Builtin.append_ #[t, t] ty #[v, .slice (some ⟨W.heap.size, 0, none⟩) 1 1]).run P (W.alloc (.cells cs.toArray e)) = .ok v1 w1 ∧ d.R e w1 base ok v1 (xs ++ [p]) ∧ Below base w0 w1 ∧ W.grownBy w1 v.ownBlock ∧ (v1.ownBlock = v.ownBlock ∨ ∃ b, v1.ownBlock = some b ∧ W.heap.size ≤ b) := by
 refine append_extract (P := P) (t := t) (v := v) (y := .slice (some ⟨W.heap.size, 0, none⟩) 1 1) (Φ := fun v1 w1 => d.R e w1 base ok v1 (xs ++ [p]) ∧ Below base w0 w1 ∧ W.grownBy w1 v.ownBlock ∧ (v1.ownBlock = v.ownBlock ∨ ∃ b, v1.ownBlock = some b ∧ W.heap.size ≤ b)) ?_ ty
 intro o a Kc Q hg ho hK
 have hw : Region.wanted o (yielded #[] a.tmps) = true := by simp [Region.wanted, hg]
 have := Kd.R_append_step (P := P) (ops := #[]) (o := o) (a := a) (Q := Q) (Kc := Kc) d (w0 := w0) (W := W) base hw (.const v) (.const (.slice (some ⟨W.heap.size, 0, none⟩) 1 1)) t e z bytes ho ht hinfo hz hs0 hb0 v xs p cs ok okp rfl rfl hp hokp hfresh HO HB hbase hl
  (fun v1 w1 h1 h2 h3 h4 => hK v1 w1 ⟨h1, h2, h3, h4⟩)
 rw [if_pos hw] at this
 exact this
end Go.Proofs.Ytnfmeafiaipplaa.Lib

namespace Go.Proofs.Ytnfmeafiaipplaa.S
open Go.Proofs.Ytnfmeafiaipplaa.Lib
open Go.Maps (Keyed)
open Go.RowKit Go.Proofs.YtnfmeafiaipplaaW.PrintWords Go.Proofs.YtnfmeafiaipplaaW.PrintLast Go.Proofs.YtnfmeafiaipplaaW.PrintMore
attribute [local go_sem] max2_int min2_int max_two min_two max_three min_three max_four min_four
set_option linter.unusedVariables false
set_option linter.unusedSimpArgs false

def errW : Option Int → Value
 | none => .nilIface
 | some c => .iface 0 (.int .i64 c)
theorem errW_none : errW none = .nilIface := rfl
theorem errW_some (c : Int) : errW (some c) = .iface 0 (.int .i64 c) := rfl
theorem info3 : (Try.prog.info? 3).map (fun i => (i.zero, i.size, i.bytes)) = some (some (.int .i64 0), 1, 8) := by kernel_rfl
theorem info23 : (Try.prog.info? 23).map (fun i => (i.zero, i.size, i.bytes)) = some (some (.agg #[(.int .i64 0), (.int .i64 0)]), 2, 16) := by kernel_rfl
theorem info39 : (Try.prog.info? 39).map (fun i => (i.zero, i.size, i.bytes)) = some (some (.agg #[(.int .i64 0), (.int .i64 0), (.int .i64 0)]), 3, 24) := by kernel_rfl
theorem info98 : (Try.prog.info? 98).map (fun i => (i.zero, i.size, i.bytes)) = some (some (.agg #[(.int .i64 0), (.int .i64 0), (.int .i64 0), (.int .i64 0)]), 4, 32) := by kernel_rfl
-- the values' own types
structure S39 where
 f0 : Int
 f1 : Int
 f2 : Int
def z39 : S39 := ⟨(0 : Int), (0 : Int), (0 : Int)⟩
def k39 : Kd S39 := Kd.iso (Kd.pair (Kd.int .i64) (Kd.pair (Kd.int .i64) (Kd.int .i64))) (fun x : S39 => (x.f0, x.f1, x.f2))
theorem k39_open {w : World} {x : S39} {cs : List Value} (h : k39.K w x cs) : cs = [.int .i64 x.f0, .int .i64 x.f1, .int .i64 x.f2] := by
 obtain ⟨_, _, rfl, rfl, ⟨_, _, rfl, rfl, rfl⟩⟩ := h
 exact rfl
theorem k39_mk (w : World) (x : S39)  : k39.K w x [.int .i64 x.f0, .int .i64 x.f1, .int .i64 x.f2] := ⟨[.int .i64 x.f0], [.int .i64 x.f1, .int .i64 x.f2], rfl, rfl, ⟨[.int .i64 x.f1], [.int .i64 x.f2], rfl, rfl, rfl⟩⟩
theorem k39_mkM (w : World) (base : Nat) (ok : Nat → Prop) (x : S39)  : k39.M w base ok x [.int .i64 x.f0, .int .i64 x.f1, .int .i64 x.f2] := ⟨[.int .i64 x.f0], [.int .i64 x.f1, .int .i64 x.f2], rfl, rfl, ⟨[.int .i64 x.f1], [.int .i64 x.f2], rfl, rfl, rfl⟩⟩
def rd_T39 (xs : List S39) (i : Int) : S39 := xs.getD i.toNat z39
theorem at_T39 {w : World} {A : Option Addr} {n : Nat} {xs : List S39} (h : Kd.C k39 w A n xs) (i : Int) (h0 : 0 ≤ i) (h1 : i < n) : ∃ ad , A = some ad ∧ w.cell? (ad.add (i.toNat * 3)) = some (.int .i64 (rd_T39 xs i).f0) ∧ w.cell? ⟨(ad.add (i.toNat * 3)).block, (ad.add (i.toNat * 3)).off + 1, none⟩ = some (.int .i64 (rd_T39 xs i).f1) ∧ w.cell? ⟨(ad.add (i.toNat * 3)).block, (ad.add (i.toNat * 3)).off + 2, none⟩ = some (.int .i64 (rd_T39 xs i).f2) := by
 obtain ⟨ad, c, e, _, hK, hc0⟩ := Kd.C_get h z39 i h0 h1
 have hc : ∀ j u, c[j]? = some u → w.cell? (ad.add (i.toNat * 3 + j)) = some u := hc0
 obtain rfl := k39_open hK
 exact ⟨ad, e, hc 0 _ rfl, by rw [← add_field _ _ 1 (by omega)]; exact hc 1 _ rfl, by rw [← add_field _ _ 2 (by omega)]; exact hc 2 _ rfl⟩
structure S98 where
 f0 : Int
 f1 : Int
 f2 : Int
 f3 : Int
def z98 : S98 := ⟨(0 : Int), (0 : Int), (0 : Int), (0 : Int)⟩
def k98 : Kd S98 := Kd.iso (Kd.pair (Kd.int .i64) (Kd.pair (Kd.int .i64) (Kd.pair (Kd.int .i64) (Kd.int .i64)))) (fun x : S98 => (x.f0, x.f1, x.f2, x.f3))
theorem k98_open {w : World} {x : S98} {cs : List Value} (h : k98.K w x cs) : cs = [.int .i64 x.f0, .int .i64 x.f1, .int .i64 x.f2, .int .i64 x.f3] := by
 obtain ⟨_, _, rfl, rfl, ⟨_, _, rfl, rfl, ⟨_, _, rfl, rfl, rfl⟩⟩⟩ := h
 exact rfl
theorem k98_mkM (w : World) (base : Nat) (ok : Nat → Prop) (x : S98)  : k98.M w base ok x [.int .i64 x.f0, .int .i64 x.f1, .int .i64 x.f2, .int .i64 x.f3] := ⟨[.int .i64 x.f0], [.int .i64 x.f1, .int .i64 x.f2, .int .i64 x.f3], rfl, rfl, ⟨[.int .i64 x.f1], [.int .i64 x.f2, .int .i64 x.f3], rfl, rfl, ⟨[.int .i64 x.f2], [.int .i64 x.f3], rfl, rfl, rfl⟩⟩⟩
def rd_T98 (xs : List S98) (i : Int) : S98 := xs.getD i.toNat z98
theorem at_T98 {w : World} {A : Option Addr} {n : Nat} {xs : List S98} (h : Kd.C k98 w A n xs) (i : Int) (h0 : 0 ≤ i) (h1 : i < n) : ∃ ad , A = some ad ∧ w.cell? (ad.add (i.toNat * 4)) = some (.int .i64 (rd_T98 xs i).f0) ∧ w.cell? ⟨(ad.add (i.toNat * 4)).block, (ad.add (i.toNat * 4)).off + 1, none⟩ = some (.int .i64 (rd_T98 xs i).f1) ∧ w.cell? ⟨(ad.add (i.toNat * 4)).block, (ad.add (i.toNat * 4)).off + 2, none⟩ = some (.int .i64 (rd_T98 xs i).f2) ∧ w.cell? ⟨(ad.add (i.toNat * 4)).block, (ad.add (i.toNat * 4)).off + 3, none⟩ = some (.int .i64 (rd_T98 xs i).f3) := by
 obtain ⟨ad, c, e, _, hK, hc0⟩ := Kd.C_get h z98 i h0 h1
 have hc : ∀ j u, c[j]? = some u → w.cell? (ad.add (i.toNat * 4 + j)) = some u := hc0
 obtain rfl := k98_open hK
 exact ⟨ad, e, hc 0 _ rfl, by rw [← add_field _ _ 1 (by omega)]; exact hc 1 _ rfl, by rw [← add_field _ _ 2 (by omega)]; exact hc 2 _ rfl, by rw [← add_field _ _ 3 (by omega)]; exact hc 3 _ rfl⟩
structure S23 where
 f0 : Int
 f1 : Int
def z23 : S23 := ⟨(0 : Int), (0 : Int)⟩
def k23 : Kd S23 := Kd.iso (Kd.pair (Kd.int .i64) (Kd.int .i64)) (fun x : S23 => (x.f0, x.f1))
theorem k23_open {w : World} {x : S23} {cs : List Value} (h : k23.K w x cs) : cs = [.int .i64 x.f0, .int .i64 x.f1] := by
 obtain ⟨_, _, rfl, rfl, rfl⟩ := h
 exact rfl
theorem k23_mk (w : World) (x : S23)  : k23.K w x [.int .i64 x.f0, .int .i64 x.f1] := ⟨[.int .i64 x.f0], [.int .i64 x.f1], rfl, rfl, rfl⟩
theorem k23_mkM (w : World) (base : Nat) (ok : Nat → Prop) (x : S23)  : k23.M w base ok x [.int .i64 x.f0, .int .i64 x.f1] := ⟨[.int .i64 x.f0], [.int .i64 x.f1], rfl, rfl, rfl⟩
def rd_T23 (xs : List S23) (i : Int) : S23 := xs.getD i.toNat z23
theorem at_T23 {w : World} {A : Option Addr} {n : Nat} {xs : List S23} (h : Kd.C k23 w A n xs) (i : Int) (h0 : 0 ≤ i) (h1 : i < n) : ∃ ad , A = some ad ∧ w.cell? (ad.add (i.toNat * 2)) = some (.int .i64 (rd_T23 xs i).f0) ∧ w.cell? ⟨(ad.add (i.toNat * 2)).block, (ad.add (i.toNat * 2)).off + 1, none⟩ = some (.int .i64 (rd_T23 xs i).f1) := by
 obtain ⟨ad, c, e, _, hK, hc0⟩ := Kd.C_get h z23 i h0 h1
 have hc : ∀ j u, c[j]? = some u → w.cell? (ad.add (i.toNat * 2 + j)) = some u := hc0
 obtain rfl := k23_open hK
 exact ⟨ad, e, hc 0 _ rfl, by rw [← add_field _ _ 1 (by omega)]; exact hc 1 _ rfl⟩

def loops_hasParts.f (a0_0 : Int) (a0_1 : Int) (a0_2 : Int) : Option (Bool) := if a0_0 = 4 then (some true) else (some (a0_0 == 5))
set_option maxHeartbeats 8000000 in
set_option maxRecDepth 100000 in
theorem loops_hasParts.calls (a0_0 : Int) (a0_1 : Int) (a0_2 : Int) (r : Bool) (w : World) (h : loops_hasParts.f a0_0 a0_1 a0_2 = some r) :
  Calls Try.prog 45 #[.agg #[.int .i64 a0_0, .int .i64 a0_1, .int .i64 a0_2]] w fun e w' => e = .returned (.bool r) ∧ Below w.heap.size w w' := by
 have hu39 := Try.underlying39
 have HB := Aside0.mk (Below.refl w.heap.size w)
 have H : (if a0_0 = 4 then (some true) else (some (a0_0 == 5))) = some r := h
 clear h
 by_cases c2 : a0_0 = 4
 rotate_left
 ·rw [if_neg c2] at H
  have c2b0 : (a0_0 == 4) = false := beq_eq_false_iff_ne.mpr c2
  have c2b1 : (a0_0 != 4) = true := bne_iff_ne.mpr c2
  obtain rfl := Option.some.inj H
  go_enter Try.func45, Try.ntmps45
  go_wp2_with (first | ((with_reducible refine gate_dst (N := 1) rfl ?_); refine box_event ?hg (N := 1) ?hd (cs := #[.int .i64 a0_0, .int .i64 a0_1, .int .i64 a0_2]) (t := 39) ?hr ?_; (case hd => rfl); (case hg => rfl); (case hr => first | (go_simp; done) | (go_simp; rfl)); intro gb108 hg w5 hbox hb; have n0_ := Aside0.mk (below_step (by repeat (first | (with_reducible first | exact HB.out | apply below_alloc | apply pw_below_drewN | apply below_drew1) | exact HB.out)) hb); have n1_ := Aside0.mk (hbox); have n2_ := Aside0.mk ((by rw [hg]; exact (below_size (by repeat (first | (with_reducible first | exact HB.out | apply below_alloc | apply pw_below_drewN | apply below_drew1) | exact HB.out))) : w.heap.size ≤ gb108)); have n3_ := Aside0.mk ((by rw [hg]; exact (below_size (by repeat (first | (with_reducible first | exact HB.out | apply below_alloc | apply pw_below_drewN | apply below_drew1) | exact HB.out))) : w.heap.size ≤ gb108)); clear HB; have HB := n0_; have BK108 := n1_; have GW108 := n2_; have GE108 := n3_; clear n0_ n1_ n2_ n3_; clear hb hbox hg; have hcz6_0 : w5.cell? ⟨gb108, 0, none⟩ = some (.int .i64 a0_0) := (blk_cell BK108.out 0).trans rfl; have hcz6_1 : w5.cell? ⟨gb108, 1, none⟩ = some (.int .i64 a0_1) := (blk_cell BK108.out 1).trans rfl; have hcz6_2 : w5.cell? ⟨gb108, 2, none⟩ = some (.int .i64 a0_2) := (blk_cell BK108.out 2).trans rfl; have hfz6_0 := blk_frozen BK108.out 0; have hfz6_1 := blk_frozen BK108.out 1; have hfz6_2 := blk_frozen BK108.out 2))
  go_ret
  exact ⟨by first | rfl | (simp [errW_none, errW_some] <;> rfl) | (simp [*, errW_none, errW_some] <;> rfl), by repeat (first | (with_reducible first | exact HB.out | apply below_alloc | apply pw_below_drewN | apply below_drew1 | refine below_set ?_ GE108.out) | exact HB.out)⟩
 rw [if_pos c2] at H
 have c2b0 : (a0_0 == 4) = true := beq_iff_eq.mpr c2
 have c2b1 : (a0_0 != 4) = false := bne_eq_false_iff_eq.mpr c2
 clear c2
 obtain rfl := Option.some.inj H
 go_enter Try.func45, Try.ntmps45
 go_wp2_with (first | ((with_reducible refine gate_dst (N := 1) rfl ?_); refine box_event ?hg (N := 1) ?hd (cs := #[.int .i64 a0_0, .int .i64 a0_1, .int .i64 a0_2]) (t := 39) ?hr ?_; (case hd => rfl); (case hg => rfl); (case hr => first | (go_simp; done) | (go_simp; rfl)); intro gb108 hg w3 hbox hb; have n0_ := Aside0.mk (below_step (by repeat (first | (with_reducible first | exact HB.out | apply below_alloc | apply pw_below_drewN | apply below_drew1) | exact HB.out)) hb); have n1_ := Aside0.mk (hbox); have n2_ := Aside0.mk ((by rw [hg]; exact (below_size (by repeat (first | (with_reducible first | exact HB.out | apply below_alloc | apply pw_below_drewN | apply below_drew1) | exact HB.out))) : w.heap.size ≤ gb108)); have n3_ := Aside0.mk ((by rw [hg]; exact (below_size (by repeat (first | (with_reducible first | exact HB.out | apply below_alloc | apply pw_below_drewN | apply below_drew1) | exact HB.out))) : w.heap.size ≤ gb108)); clear HB; have HB := n0_; have BK108 := n1_; have GW108 := n2_; have GE108 := n3_; clear n0_ n1_ n2_ n3_; clear hb hbox hg; have hcz4_0 : w3.cell? ⟨gb108, 0, none⟩ = some (.int .i64 a0_0) := (blk_cell BK108.out 0).trans rfl; have hcz4_1 : w3.cell? ⟨gb108, 1, none⟩ = some (.int .i64 a0_1) := (blk_cell BK108.out 1).trans rfl; have hcz4_2 : w3.cell? ⟨gb108, 2, none⟩ = some (.int .i64 a0_2) := (blk_cell BK108.out 2).trans rfl; have hfz4_0 := blk_frozen BK108.out 0; have hfz4_1 := blk_frozen BK108.out 1; have hfz4_2 := blk_frozen BK108.out 2))
 go_ret
 exact ⟨by first | rfl | (simp [errW_none, errW_some] <;> rfl) | (simp [*, errW_none, errW_some] <;> rfl), by repeat (first | (with_reducible first | exact HB.out | apply below_alloc | apply pw_below_drewN | apply below_drew1 | refine below_set ?_ GE108.out) | exact HB.out)⟩
end Go.Proofs.Ytnfmeafiaipplaa.S

namespace Go.Proofs.Ytnfmeafiaipplaa.Lib
open Go.Maps (Keyed)
set_option linter.unusedVariables false
theorem K6.own : laidOutB Try.prog = true := by kernel_rfl
theorem K6.size : Try.prog.types.size = 130 := by kernel_rfl
theorem K6.cells3 : Try.prog.cellsOf 3 = 1 := by kernel_rfl
theorem K6.cells23 : Try.prog.cellsOf 23 = 2 := by kernel_rfl
theorem K6.cells98 : Try.prog.cellsOf 98 = 4 := by kernel_rfl
theorem K6.wide23 : (match Try.prog.underlying 23 with | some (.array _ _) | some (.struct _) => true | _ => false) = true := by rw [Try.underlying23]
theorem K6.wide98 : (match Try.prog.underlying 98 with | some (.array _ _) | some (.struct _) => true | _ => false) = true := by rw [Try.underlying98]
theorem K6.row23 : (23 : TypeId) < Try.prog.types.size := of_decide_eq_true (by kernel_rfl)
theorem K6.kt23 : Try.prog.keyTypeAt 2 23 = true := by kernel_rfl
set_option maxRecDepth 100000 in
theorem law23 : Keyed Try.prog 23 := Keyed.of_law (deep_law_laid K6.own (m := 2) (by omega) K6.row23 K6.kt23 K6.wide23)
theorem K6.row98 : (98 : TypeId) < Try.prog.types.size := of_decide_eq_true (by kernel_rfl)
theorem K6.kt98 : Try.prog.keyTypeAt 2 98 = true := by kernel_rfl
set_option maxRecDepth 100000 in
theorem law98 : Keyed Try.prog 98 := Keyed.of_law (deep_law_laid K6.own (m := 2) (by omega) K6.row98 K6.kt98 K6.wide98)
theorem law3 : Keyed Try.prog 3 := Maps.int_keyed Try.underlying3
theorem law5 : Keyed Try.prog 5 := Maps.int_keyed Try.underlying5
/-- An int of 64 bits. -/
def I64 (a : Int) : Prop := -9223372036854775808 ≤ a ∧ a ≤ 9223372036854775807
theorem I64.wf {a : Int} (h : I64 a) : (Lit.int .i64 a).wf = true := wfI h.1 h.2
theorem key3 {a : Int} (h : I64 a) : keyOf Try.prog 3 (.int .i64 a) = some (.int .i64 a) := Maps.keyOf_int_mk Try.underlying3 h.wf
theorem key5 (c : Int) (h0 : 0 ≤ c) (h1 : c ≤ 255) : keyOf Try.prog 5 (.int .u8 c) = some (.int .u8 c) := Maps.keyOf_int_mk Try.underlying5 (WalkArith.wf_u8 ⟨h0, h1⟩)
theorem K6.lit3 {n : Nat} {a : Int} (h : I64 a) : Try.prog.keyLits (n + 1) 3 [.int .i64 a] = some [.int .i64 a] := by
 unfold Program.keyLits
 rw [Try.underlying3]
 simp [h.wf]
def lit23 (a b : Int) : Lit := .string (keyBytes [.int .i64 a, .int .i64 b])
def lit98 (a b c d : Int) : Lit := .string (keyBytes [.int .i64 a, .int .i64 b, .int .i64 c, .int .i64 d])
theorem key23 {a b : Int} (ha : I64 a) (hb : I64 b) : keyOf Try.prog 23 (.agg #[.int .i64 a, .int .i64 b]) = some (lit23 a b) := by
 have hk : Try.prog.keyType 23 = true := by kernel_rfl
 have hf : (Value.agg #[.int .i64 a, .int .i64 b]).formed Try.prog 23 = true := by simp [Value.formed, Try.underlying23, K6.cells23]
 have hl : Try.prog.keyLits (Try.prog.types.size + 1) 23 [.int .i64 a, .int .i64 b] = some [.int .i64 a, .int .i64 b] := by
  rw [K6.size]
  unfold Program.keyLits
  rw [Try.underlying23]
  simp [K6.cells23, K6.cells3, List.range, List.range.loop, K6.lit3 ha, K6.lit3 hb]
 unfold keyOf
 rw [Try.underlying23]
 simp only [hk, hf, Bool.and_self, if_true]
 rw [show (Value.agg #[.int .i64 a, .int .i64 b]).cells.toList = [.int .i64 a, .int .i64 b] by simp [Value.cells], hl]
 rfl
theorem key98 {a b c d : Int} (ha : I64 a) (hb : I64 b) (hc : I64 c) (hd : I64 d) : keyOf Try.prog 98 (.agg #[.int .i64 a, .int .i64 b, .int .i64 c, .int .i64 d]) = some (lit98 a b c d) := by
 have hk : Try.prog.keyType 98 = true := by kernel_rfl
 have hf : (Value.agg #[.int .i64 a, .int .i64 b, .int .i64 c, .int .i64 d]).formed Try.prog 98 = true := by simp [Value.formed, Try.underlying98, K6.cells98]
 have hl : Try.prog.keyLits (Try.prog.types.size + 1) 98 [.int .i64 a, .int .i64 b, .int .i64 c, .int .i64 d] = some [.int .i64 a, .int .i64 b, .int .i64 c, .int .i64 d] := by
  rw [K6.size]
  unfold Program.keyLits
  rw [Try.underlying98]
  simp [K6.cells98, K6.cells3, List.range, List.range.loop, K6.lit3 ha, K6.lit3 hb, K6.lit3 hc, K6.lit3 hd]
 unfold keyOf
 rw [Try.underlying98]
 simp only [hk, hf, Bool.and_self, if_true]
 rw [show (Value.agg #[.int .i64 a, .int .i64 b, .int .i64 c, .int .i64 d]).cells.toList = [.int .i64 a, .int .i64 b, .int .i64 c, .int .i64 d] by simp [Value.cells], hl]
 rfl
end Go.Proofs.Ytnfmeafiaipplaa.Lib

namespace Go.Proofs.Ytnfmeafiaipplaa.Lib
open Go.RowKit Go.Proofs.YtnfmeafiaipplaaW.PrintWords Go.Proofs.YtnfmeafiaipplaaW.PrintLast Go.Proofs.YtnfmeafiaipplaaW.PrintMore
open Go.Maps (Keyed)
set_option linter.unusedVariables false

def decI : Value → Option Int
 | .int .i64 x => some x
 | _ => none
def decL : Value → Option (List Int)
 | .agg xs => xs.toList.mapM decI
 | _ => none
def keyL (l : List Int) : Value := .agg (l.map (Value.int .i64)).toArray
theorem decI_eq {v : Value} {x : Int} (h : decI v = some x) : v = .int .i64 x := by
 unfold decI at h
 split at h
 ·rw [Option.some.inj h]
 cases h
theorem mapM_decI : ∀ {xs : List Value} {l : List Int}, xs.mapM decI = some l → xs = l.map (Value.int .i64)
 | [], l, h => by
  obtain rfl : [] = l := Option.some.inj h
  rfl
 | v :: xs, l, h => by
  rw [List.mapM_cons] at h
  obtain ⟨x, h1, h⟩ := Option.bind_eq_some_iff.mp h
  obtain ⟨l', h2, h⟩ := Option.bind_eq_some_iff.mp h
  obtain rfl := Option.some.inj h
  rw [decI_eq h1, mapM_decI h2]
  rfl
theorem mapM_encI : ∀ (l : List Int), (l.map (Value.int .i64)).mapM decI = some l
 | [] => rfl
 | x :: l => by
  rw [List.map_cons, List.mapM_cons, mapM_encI l]
  rfl
theorem decL_key (l : List Int) : decL (keyL l) = some l := by
 unfold decL keyL
 simpa using mapM_encI l
theorem decL_eq {v : Value} {l : List Int} (h : decL v = some l) : v = keyL l := by
 unfold decL at h
 split at h
 ·rename_i xs
  have := mapM_decI h
  unfold keyL
  rw [← this]
 cases h
/-- A map keyed by arrays or structs of ints, told by a function of the key's ints. -/
def encL (g : List Int → Option Value) (v : Value) : Option Value := (decL v).bind g
theorem encL_key (g : List Int → Option Value) (l : List Int) : encL g (keyL l) = g l := by
 unfold encL
 rw [decL_key]
 rfl
/-- A row of one's own, when a map has grown. -/
theorem R_mapped {W w1 : World} {P : Program} {k : TypeId} {b m : Nat} {f : Value → Option Value} {α : Type} {d : Kd α} {e base : Nat} {ok : Nat → Prop} {v : Value} {xs : List α} (h : d.R e W base ok v xs) (hE : d.E = []) (hm : MapAt W P k b m f) (hg : W.grownBy w1 (some b)) : d.R e w1 base ok v xs :=
 Kd.R_grown2 h hE hg (fun k hk he => by
  obtain ⟨inner, h1⟩ := Kd.R_own h
  obtain ⟨c1, e1⟩ := own_typed h1 k he.symm
  obtain rfl := Option.some.inj hk
  exact hm.ne e1 rfl)
/-- A map, when a row of one's own has grown. -/
theorem MapAt.rowed {W w1 : World} {P : Program} {k : TypeId} {b m : Nat} {f : Value → Option Value} {α : Type} {d : Kd α} {e base : Nat} {ok : Nat → Prop} {v : Value} {xs : List α} (hm : MapAt W P k b m f) (h : d.R e W base ok v xs) (hg : W.grownBy w1 v.ownBlock) : MapAt w1 P k b m f :=
 hm.kept hg (fun hb => by
  obtain ⟨inner, h1⟩ := Kd.R_own h
  obtain ⟨c1, e1⟩ := own_typed h1 b hb.symm
  exact hm.ne e1 rfl)
/-- A row of one's own, when blocks that it is not have changed. -/
theorem R_apart {W W' : World} {α : Type} {d : Kd α} {e base : Nat} {ok S : Nat → Prop} {v : Value} {xs : List α} (h : d.R e W base ok v xs) (hE : d.E = []) (hk : Kept W W' S) (hS : ∀ k cells, some k = v.ownBlock → W.heap[k]? = some (.cells cells e (0, 0)) → ¬ S k) : d.R e W' base ok v xs :=
 Kd.R_mono (Kd.R_kept (Kd.R_tight2 hE h) hk (fun k hk => by
  obtain ⟨inner, h1⟩ := Kd.R_own h
  obtain ⟨c1, e1⟩ := own_typed h1 k hk.1.symm
  exact hS k c1 hk.1 e1)) (fun k hk => hk.2)
theorem blk_type {W : World} {k t t' : Nat} {c c' : Array Value} (h : W.heap[k]? = some (.cells c t (0, 0))) (h' : W.heap[k]? = some (.cells c' t' (0, 0))) : t = t' := by
 rw [h] at h'
 injection h' with h'
 injection h' with _ h' _
theorem own_blk {W : World} {α : Type} {d : Kd α} {e base : Nat} {ok : Nat → Prop} {v : Value} {xs : List α} (h : d.R e W base ok v xs) {k : Nat} (hk : some k = v.ownBlock) : ∃ c, W.heap[k]? = some (.cells c e (0, 0)) := by
 obtain ⟨inner, h1⟩ := Kd.R_own h
 exact own_typed h1 k hk.symm
/-- A store into a box of another type than the row's elements. -/
theorem MapAt.box {W : World} {P : Program} {k : TypeId} {b m : Nat} {f : Value → Option Value} (hm : MapAt W P k b m f) {g t i : Nat} {c : Array Value} (hg : W.heap[g]? = some (.cells c t (0, 0))) (u : Value) : MapAt (W.setCell ⟨g, i, none⟩ u) P k b m f := hm.setCell (hm.ne hg) u
section
variable {α : Type} [DecidableEq α]
def numIx (ds : List α) (x : α) : Nat := ds.idxOf x
def numStep (ds : List α) (x : α) : List α := if x ∈ ds then ds else ds ++ [x]
def numGo : List α → List α → List Int → List Int × Int
 | [], ds, out => (out, (ds.length : Int))
 | x :: xs, ds, out => numGo xs (numStep ds x) (out ++ [(numIx (numStep ds x) x : Int)])
def numM (ds : List α) : α → Option Value := fun x => if x ∈ ds then some (.int .i64 (numIx ds x : Int)) else none
theorem numIx_new {ds : List α} {x : α} (h : x ∉ ds) : numIx (ds ++ [x]) x = ds.length := by simp [numIx, List.idxOf_append, h]
theorem numIx_old {ds : List α} {y : α} (x : α) (h : y ∈ ds) : numIx (ds ++ [x]) y = numIx ds y := by simp [numIx, List.idxOf_append, h]
theorem numM_none {ds : List α} {x : α} (h : x ∉ ds) : numM ds x = none := if_neg h
theorem numM_some {ds : List α} {x : α} (h : x ∈ ds) : numM ds x = some (.int .i64 (numIx ds x : Int)) := if_pos h
theorem numM_new {ds : List α} {x : α} (h : x ∉ ds) : numM (ds ++ [x]) x = some (.int .i64 (ds.length : Int)) := by
 unfold numM
 rw [if_pos (by simp), numIx_new h]
theorem numM_far {ds : List α} {x y : α} (h : y ≠ x) : numM (ds ++ [x]) y = numM ds y := by
 unfold numM
 by_cases hy : y ∈ ds
 rotate_left
 ·rw [if_neg (by simp [hy, h]), if_neg hy]
 rw [if_pos (by simp [hy]), if_pos hy, numIx_old x hy]
theorem numStep_old {ds : List α} {x : α} (h : x ∈ ds) : numStep ds x = ds := if_pos h
theorem numStep_new {ds : List α} {x : α} (h : x ∉ ds) : numStep ds x = ds ++ [x] := if_neg h
end
theorem nb_none {ds : List Int} {x : Int} (h : x ∉ ds) : encI (numM ds) (.int .i64 x) = none := numM_none h
theorem nb_some {ds : List Int} {x : Int} (h : x ∈ ds) : encI (numM ds) (.int .i64 x) = some (.int .i64 (numIx ds x : Int)) := numM_some h
theorem nb_put1 {ds : List Int} {x : Int} (h : x ∉ ds) : encI (numM (ds ++ [x])) (.int .i64 x) = some (.int .i64 (ds.length : Int)) := numM_new h
theorem nb_put2 {ds : List Int} {x : Int} (h : x ∉ ds) : ∀ v, v ≠ .int .i64 x → encI (numM (ds ++ [x])) v = encI (numM ds) v := by
 intro v hv
 unfold encI
 split
 ·rename_i y
  exact numM_far (fun e => hv (by rw [e]))
 rfl
theorem nl_none {ds : List (List Int)} {x : List Int} (h : x ∉ ds) : encL (numM ds) (keyL x) = none := by rw [encL_key, numM_none h]
theorem nl_some {ds : List (List Int)} {x : List Int} (h : x ∈ ds) : encL (numM ds) (keyL x) = some (.int .i64 (numIx ds x : Int)) := by rw [encL_key, numM_some h]
theorem nl_put1 {ds : List (List Int)} {x : List Int} (h : x ∉ ds) : encL (numM (ds ++ [x])) (keyL x) = some (.int .i64 (ds.length : Int)) := by rw [encL_key, numM_new h]
theorem nl_put2 {ds : List (List Int)} {x : List Int} (h : x ∉ ds) : ∀ v, v ≠ keyL x → encL (numM (ds ++ [x])) v = encL (numM ds) v := by
 intro v hv
 unfold encL
 cases hd : decL v with
 | none => rfl
 | some y => exact numM_far (fun e => hv (by rw [decL_eq hd, e]))
def i64B (x : Int) : Bool := decide (-9223372036854775808 ≤ x ∧ x ≤ 9223372036854775807)
theorem i64B_I64 {x : Int} (h : i64B x = true) : I64 x := by
 unfold i64B at h
 have := of_decide_eq_true h
 exact this

def encU (g : Int → Option Value) : Value → Option Value
 | .int .u8 x => g x
 | _ => none
def two8 (pa pb : List Int) : Int → Option Value := fun c => if c = 97 then some (keyL pa) else if c = 98 then some (keyL pb) else none
/-- A map as a table: nil, or what a pair needs under the letters a and b. -/
def NeedsIs (nd : Option (List Int × List Int)) (base : Nat) (W : World) (v : Value) : Prop :=
 match nd with
 | none => v = .map none
 | some (pa, pb) => ∃ b, v = .map (some b) ∧ base ≤ b ∧ MapAt W Try.prog 5 b 2 (encU (two8 pa pb))
theorem NeedsIs.below {nd : Option (List Int × List Int)} {base : Nat} {W W' : World} {v : Value} (h : NeedsIs nd base W v) (hB : Below W.heap.size W W') : NeedsIs nd base W' v := by
 cases nd with
 | none => exact h
 | some p =>
  obtain ⟨b, e, hb, hm⟩ := h
  exact ⟨b, e, hb, hm.below hB⟩
theorem NeedsIs.drewN {nd : Option (List Int × List Int)} {base : Nat} {W : World} {v : Value} (h : NeedsIs nd base W v) (n : Nat) : NeedsIs nd base (W.drewN n) v := h.below (pw_below_drewN (Below.refl _ _) n)
def needGet (nd : Option (List Int × List Int)) (c : Int) : Option (List Int) :=
 match nd with
 | none => none
 | some (pa, pb) => if c = 97 then some pa else if c = 98 then some pb else none
end Go.Proofs.Ytnfmeafiaipplaa.Lib

namespace Go.Proofs.Ytnfmeafiaipplaa.S
open Go.Proofs.Ytnfmeafiaipplaa.Lib
open Go.Maps (Keyed)
open Go.RowKit Go.Proofs.YtnfmeafiaipplaaW.PrintWords Go.Proofs.YtnfmeafiaipplaaW.PrintLast Go.Proofs.YtnfmeafiaipplaaW.PrintMore
attribute [local go_sem] max2_int min2_int max_two min_two max_three min_three max_four min_four
set_option linter.unusedVariables false
set_option linter.unusedSimpArgs false
def needsF (x y : S39) : Option (Option (List Int × List Int)) :=
 if x.f0 = 0 ∨ y.f0 = 1 then some none
 else if x.f0 ≠ y.f0 then none
 else if x.f0 = 4 then some (some ([x.f1, y.f1], [x.f2, y.f2]))
 else if x.f0 = 5 then some (some ([y.f1, x.f1], [x.f2, y.f2]))
 else some none
def NeedsPost (nd : Option (Option (List Int × List Int))) (w : World) (e : Ending) (w' : World) : Prop :=
 Below w.heap.size w w' ∧ ∃ v, e = .returned (.tuple #[v, .bool nd.isSome]) ∧ NeedsIs (nd.getD none) w.heap.size w' v
theorem heap_new2 (w : World) (o : Obj) (n : Nat) (hn : n = w.heap.size) : (w.alloc o).heap[n]? = some o := by subst hn; exact heap_alloc_new w o
theorem two_f (pa pb : List Int) : ∀ v, v ≠ .int .u8 97 → encU (fun c => if c = 97 then some (keyL pa) else none) v = encU (fun _ => none) v := by
 intro v hv
 unfold encU
 split
 ·rename_i x
  exact if_neg (fun e => hv (by rw [e]))
 rfl
theorem two_g (pa pb : List Int) : ∀ v, v ≠ .int .u8 98 → encU (two8 pa pb) v = encU (fun c => if c = 97 then some (keyL pa) else none) v := by
 intro v hv
 unfold encU two8
 split
 ·rename_i x
  have hx : x ≠ 98 := fun e => hv (by rw [e])
  by_cases h : x = 97 <;> simp [h, hx]
 rfl
/-- A new map with what a pair needs. -/
theorem two_stores (wc : World) (pa pb : List Int) : ∃ w1 w2, (Instr.mapUpdate 77 (.map (some wc.heap.size)) (.int .u8 97) (keyL pa)).run Try.prog (wc.alloc (.map #[] 0)) = .ok () w1 ∧ (Instr.mapUpdate 77 (.map (some wc.heap.size)) (.int .u8 98) (keyL pb)).run Try.prog w1 = .ok () w2 ∧ MapAt w2 Try.prog 5 wc.heap.size 2 (encU (two8 pa pb)) ∧ (wc.alloc (.map #[] 0)).grownBy w1 (some wc.heap.size) ∧ Below wc.heap.size wc w2 := by
 have h0 : MapAt (wc.alloc (.map #[] 0)) Try.prog 5 wc.heap.size 0 (encU (fun _ => none)) := (MapAt.made wc Try.prog 5).congr (fun kv kl _ => by unfold encU; split <;> rfl)
 obtain ⟨w1, r1, h1, g1⟩ := h0.store law5 Try.underlying77 (by unfold maxLen; omega) (key5 97 (by omega) (by omega)) (val := keyL pa) (f' := encU (fun c => if c = 97 then some (keyL pa) else none)) rfl (two_f pa pb)
 have h1' : MapAt w1 Try.prog 5 wc.heap.size 1 (encU (fun c => if c = 97 then some (keyL pa) else none)) := h1
 obtain ⟨w2, r2, h2, g2⟩ := h1'.store law5 Try.underlying77 (by unfold maxLen; omega) (key5 98 (by omega) (by omega)) (val := keyL pb) (f' := encU (two8 pa pb)) rfl (two_g pa pb)
 have hb1 : Below wc.heap.size wc w1 := Below.grown (below_alloc (Below.refl _ _) _) g1 (by simp) (fun k hk => by injection hk with hk; omega)
 exact ⟨w1, w2, r1, r2, h2, g1, Below.grown hb1 g2 hb1.size (fun k hk => by injection hk with hk; omega)⟩
set_option maxHeartbeats 2000000 in
set_option maxRecDepth 100000 in
theorem needs_fn.calls (A0 : Option Addr) (c0 : Nat) (l0 : List S39) (i j : Int) (w : World) (hr0 : Kd.C k39 w A0 l0.length l0) (hi : 0 ≤ i ∧ i < l0.length) (hj : 0 ≤ j ∧ j < l0.length) :
  Calls Try.prog 51 #[.slice A0 l0.length c0, .agg #[.int .i64 i, .int .i64 j]] w (NeedsPost (needsF (rd_T39 l0 i) (rd_T39 l0 j)) w) := by
 obtain ⟨X, hX⟩ : ∃ X, X = rd_T39 l0 i := ⟨_, rfl⟩
 obtain ⟨Y, hY⟩ : ∃ Y, Y = rd_T39 l0 j := ⟨_, rfl⟩
 obtain ⟨adt, eat, hx0, hx1, hx2⟩ := at_T39 hr0 i hi.1 hi.2
 obtain ⟨adt2, eat2, hy0, hy1, hy2⟩ := at_T39 hr0 j hj.1 hj.2
 subst eat
 obtain rfl : adt = adt2 := by injection eat2
 rw [← hX] at hx0 hx1 hx2 ⊢
 rw [← hY] at hy0 hy1 hy2 ⊢
 have r0 := eq_true hi.1
 have r1 := eq_true hi.2
 have r2 := eq_true hj.1
 have r3 := eq_true hj.2
 obtain ⟨W, hW⟩ : ∃ W, W = w.alloc (.cells #[.int .i64 i, .int .i64 j] 23) := ⟨_, rfl⟩
 have hBW : Below w.heap.size w W := by rw [hW]; exact below_alloc (Below.refl _ _) _
 have hgb : W.heap[w.heap.size]? = some (.cells #[.int .i64 i, .int .i64 j] 23 (0, 0)) := by rw [hW]; exact heap_alloc_new w _
 have hsz : W.heap.size = w.heap.size + 1 := by rw [hW]; simp
 have lt0 : ∀ {a : Addr} {v : Value}, w.cell? a = some v → a.block < W.heap.size := fun h => Nat.lt_of_lt_of_le (World.block_lt_of_cell? w _ h) hBW.size
 have HKEEP := Aside0.mk (fun (W' : World) (hB : Below W.heap.size W W') => (show W'.cell? (adt.add (i.toNat * 3)) = some (.int .i64 X.f0) ∧ W'.cell? ⟨(adt.add (i.toNat * 3)).block, (adt.add (i.toNat * 3)).off + 1, none⟩ = some (.int .i64 X.f1) ∧ W'.cell? ⟨(adt.add (i.toNat * 3)).block, (adt.add (i.toNat * 3)).off + 2, none⟩ = some (.int .i64 X.f2) ∧ W'.cell? (adt.add (j.toNat * 3)) = some (.int .i64 Y.f0) ∧ W'.cell? ⟨(adt.add (j.toNat * 3)).block, (adt.add (j.toNat * 3)).off + 1, none⟩ = some (.int .i64 Y.f1) ∧ W'.cell? ⟨(adt.add (j.toNat * 3)).block, (adt.add (j.toNat * 3)).off + 2, none⟩ = some (.int .i64 Y.f2) ∧ W'.cell? ⟨w.heap.size, 0, none⟩ = some (.int .i64 i) ∧ W'.cell? ⟨w.heap.size, 1, none⟩ = some (.int .i64 j) from
  ⟨(hB.cell (lt0 hx0)).trans ((hBW.cell (World.block_lt_of_cell? w _ hx0)).trans hx0), (hB.cell (lt0 hx1)).trans ((hBW.cell (World.block_lt_of_cell? w _ hx1)).trans hx1), (hB.cell (lt0 hx2)).trans ((hBW.cell (World.block_lt_of_cell? w _ hx2)).trans hx2), (hB.cell (lt0 hy0)).trans ((hBW.cell (World.block_lt_of_cell? w _ hy0)).trans hy0), (hB.cell (lt0 hy1)).trans ((hBW.cell (World.block_lt_of_cell? w _ hy1)).trans hy1), (hB.cell (lt0 hy2)).trans ((hBW.cell (World.block_lt_of_cell? w _ hy2)).trans hy2), (blk_cell (blk_below hgb hB) 0).trans rfl, (blk_cell (blk_below hgb hB) 1).trans rfl⟩))
 have HB := Aside0.mk hBW
 have HSZ := Aside0.mk hsz
 have hmm := @run_makeMap Try.prog
 clear hX hY hr0 hi hj hx0 hx1 hx2 hy0 hy1 hy2 hBW eat2 hgb hsz lt0
 subst hW
 obtain ⟨nd, hnd⟩ : ∃ nd, nd = needsF X Y := ⟨_, rfl⟩
 rw [← hnd]
 have HND := Aside0.mk hnd
 clear hnd
 go_enter Try.func51, Try.ntmps51
 go_upto_region 1 with (fail)
 go_cut [6, 7] (fun v6 v7 wc => ∃ g6 g7 : Nat, v6 = .pointer (some ⟨g6, 0, none⟩) ∧ v7 = .pointer (some ⟨g7, 0, none⟩) ∧ Aside0 (wc.heap[g6]? = some (.cells #[.int .i64 X.f0, .int .i64 X.f1, .int .i64 X.f2] 39 (0, 0))) ∧ Aside0 (wc.heap[g7]? = some (.cells #[.int .i64 Y.f0, .int .i64 Y.f1, .int .i64 Y.f2] 39 (0, 0))) ∧ Aside0 (Below w.heap.size w wc))
 case first =>
  go_wp2
  go_region_held (fun W' => W'.cell? (adt.add (i.toNat * 3)) = some (.int .i64 X.f0) ∧ W'.cell? ⟨(adt.add (i.toNat * 3)).block, (adt.add (i.toNat * 3)).off + 1, none⟩ = some (.int .i64 X.f1) ∧ W'.cell? ⟨(adt.add (i.toNat * 3)).block, (adt.add (i.toNat * 3)).off + 2, none⟩ = some (.int .i64 X.f2) ∧ W'.cell? (adt.add (j.toNat * 3)) = some (.int .i64 Y.f0) ∧ W'.cell? ⟨(adt.add (j.toNat * 3)).block, (adt.add (j.toNat * 3)).off + 1, none⟩ = some (.int .i64 Y.f1) ∧ W'.cell? ⟨(adt.add (j.toNat * 3)).block, (adt.add (j.toNat * 3)).off + 2, none⟩ = some (.int .i64 Y.f2) ∧ W'.cell? ⟨w.heap.size, 0, none⟩ = some (.int .i64 i) ∧ W'.cell? ⟨w.heap.size, 1, none⟩ = some (.int .i64 j)) ((refine HKEEP.out _ ?_; repeat (first | exact Below.refl _ _ | apply below_alloc | apply below_drew1 | apply pw_below_drewN | (refine Below.setCell ?_ (by simp <;> omega) _)))) (fail)
  all_goals (
   go_wp2
   go_meet
   case rel => exact ⟨_, _, rfl, rfl, ⟨by first | exact blk_drew (heap_new2 _ _ _ (by simp)) | exact blk_drew (blk_below (heap_new2 _ _ _ (by simp)) (below_alloc (Below.refl _ _) _))⟩, ⟨by first | exact blk_drew (heap_new2 _ _ _ (by simp)) | exact blk_drew (blk_below (heap_new2 _ _ _ (by simp)) (below_alloc (Below.refl _ _) _))⟩, ⟨below_drew1 (below_alloc (below_alloc HB.out _) _)⟩⟩)
 case rest =>
  clear HKEEP
  obtain ⟨g6, g7, rfl, rfl, H6, H7, HBC⟩ := hcut
  have c60 : wc.cell? ⟨g6, 0, none⟩ = some (.int .i64 X.f0) := (blk_cell H6.out 0).trans rfl
  have c61 : wc.cell? ⟨g6, 1, none⟩ = some (.int .i64 X.f1) := (blk_cell H6.out 1).trans rfl
  have c62 : wc.cell? ⟨g6, 2, none⟩ = some (.int .i64 X.f2) := (blk_cell H6.out 2).trans rfl
  have c70 : wc.cell? ⟨g7, 0, none⟩ = some (.int .i64 Y.f0) := (blk_cell H7.out 0).trans rfl
  have c71 : wc.cell? ⟨g7, 1, none⟩ = some (.int .i64 Y.f1) := (blk_cell H7.out 1).trans rfl
  have c72 : wc.cell? ⟨g7, 2, none⟩ = some (.int .i64 Y.f2) := (blk_cell H7.out 2).trans rfl
  by_cases k1 : X.f0 = 0 ∨ Y.f0 = 1
  ·have hn : needsF X Y = some none := if_pos k1
   obtain rfl := HND.out.trans hn
   clear HND
   have HF := Aside0.mk (fun (w' : World) (hw : Drawn0 wc w') => show NeedsPost (some none) w (.returned (.tuple #[.map none, .bool true])) w' from (by obtain ⟨n, rfl⟩ := hw; exact ⟨pw_below_drewN HBC.out n, _, rfl, rfl⟩))
   by_cases k2 : X.f0 = 0
   ·have k2b : (X.f0 == 0) = true := beq_iff_eq.mpr k2
    clear k1 k2 hn
    go_wp2
    go_ret2
    exact HF.out _ (by repeat (first | exact Drawn0.refl _ | apply Drawn0.step))
   have k2b : (X.f0 == 0) = false := beq_eq_false_iff_ne.mpr k2
   have k3b : (Y.f0 == 1) = true := beq_iff_eq.mpr (k1.resolve_left k2)
   clear k1 k2 hn
   go_wp2
   go_ret2
   exact HF.out _ (by repeat (first | exact Drawn0.refl _ | apply Drawn0.step))
  have k2 : ¬ X.f0 = 0 := fun h => k1 (.inl h)
  have k3 : ¬ Y.f0 = 1 := fun h => k1 (.inr h)
  have k2b : (X.f0 == 0) = false := beq_eq_false_iff_ne.mpr k2
  have k3b : (Y.f0 == 1) = false := beq_eq_false_iff_ne.mpr k3
  by_cases k4 : X.f0 = Y.f0
  case neg =>
   have hn : needsF X Y = none := by unfold needsF; rw [if_neg k1, if_pos k4]
   obtain rfl := HND.out.trans hn
   clear HND
   have HF := Aside0.mk (fun (w' : World) (hw : Drawn0 wc w') => show NeedsPost none w (.returned (.tuple #[.map none, .bool false])) w' from (by obtain ⟨n, rfl⟩ := hw; exact ⟨pw_below_drewN HBC.out n, _, rfl, rfl⟩))
   have k4b : (X.f0 == Y.f0) = false := beq_eq_false_iff_ne.mpr k4
   have k4c : (X.f0 != Y.f0) = true := bne_iff_ne.mpr k4
   clear k1 k2 k3 k4 hn
   go_wp2
   go_ret2
   exact HF.out _ (by repeat (first | exact Drawn0.refl _ | apply Drawn0.step))
  have k4b : (X.f0 == Y.f0) = true := beq_iff_eq.mpr k4
  have k4c : (X.f0 != Y.f0) = false := bne_eq_false_iff_eq.mpr k4
  by_cases k5 : X.f0 = 4
  ·have hn : needsF X Y = some (some ([X.f1, Y.f1], [X.f2, Y.f2])) := by unfold needsF; rw [if_neg k1, if_neg (not_not_intro k4), if_pos k5]
   obtain rfl := HND.out.trans hn
   clear HND
   have k5b : (X.f0 == 4) = true := beq_iff_eq.mpr k5
   obtain ⟨w1, w2, hs1, hs2, hm2, hg1, hB2⟩ := two_stores wc [X.f1, Y.f1] [X.f2, Y.f2]
   have hs1' : (Instr.mapUpdate 77 (.map (some wc.heap.size)) (.int .u8 97) (.agg #[.int .i64 X.f1, .int .i64 Y.f1])).run Try.prog (wc.alloc (.map #[] 0)) = .ok () w1 := hs1
   have hs2' : (Instr.mapUpdate 77 (.map (some wc.heap.size)) (.int .u8 98) (.agg #[.int .i64 X.f2, .int .i64 Y.f2])).run Try.prog w1 = .ok () w2 := hs2
   have b6 := blk_grown (blk_below H6.out (below_alloc (Below.refl _ _) (.map #[] 0))) hg1 (by have := blk_lt H6.out; simp; omega)
   have b7 := blk_grown (blk_below H7.out (below_alloc (Below.refl _ _) (.map #[] 0))) hg1 (by have := blk_lt H7.out; simp; omega)
   have d61 := (blk_cell (blk_below H6.out (below_alloc (Below.refl _ _) (.map #[] 0))) 1).trans rfl
   have d71 := (blk_cell (blk_below H7.out (below_alloc (Below.refl _ _) (.map #[] 0))) 1).trans rfl
   have e62 : w1.cell? ⟨g6, 2, none⟩ = some (.int .i64 X.f2) := (blk_cell b6 2).trans rfl
   have e72 : w1.cell? ⟨g7, 2, none⟩ = some (.int .i64 Y.f2) := (blk_cell b7 2).trans rfl
   have HF := Aside0.mk (fun (w' : World) (hw : Drawn0 w2 w') => show NeedsPost (some (some ([X.f1, Y.f1], [X.f2, Y.f2]))) w (.returned (.tuple #[.map (some wc.heap.size), .bool true])) w' from (by
    obtain ⟨n, rfl⟩ := hw
    exact ⟨pw_below_drewN (below_then HBC.out HBC.out.size hB2) n, _, rfl, _, rfl, HBC.out.size, hm2.drewN n⟩))
   clear k1 k2 k3 k4 k5 hn hs1 hs2 hm2 hg1 hB2 b6 b7
   go_wp2
   go_ret2
   exact HF.out _ (by repeat (first | exact Drawn0.refl _ | apply Drawn0.step))
  have k5b : (X.f0 == 4) = false := beq_eq_false_iff_ne.mpr k5
  by_cases k6 : X.f0 = 5
  rotate_left
  ·have hn : needsF X Y = some none := by unfold needsF; rw [if_neg k1, if_neg (not_not_intro k4), if_neg k5, if_neg k6]
   obtain rfl := HND.out.trans hn
   clear HND
   have k6b : (X.f0 == 5) = false := beq_eq_false_iff_ne.mpr k6
   have HF := Aside0.mk (fun (w' : World) (hw : Drawn0 wc w') => show NeedsPost (some none) w (.returned (.tuple #[.map none, .bool true])) w' from (by obtain ⟨n, rfl⟩ := hw; exact ⟨pw_below_drewN HBC.out n, _, rfl, rfl⟩))
   clear k1 k2 k3 k4 k5 k6 hn
   go_wp2
   go_ret2
   exact HF.out _ (by repeat (first | exact Drawn0.refl _ | apply Drawn0.step))
  have hn : needsF X Y = some (some ([Y.f1, X.f1], [X.f2, Y.f2])) := by unfold needsF; rw [if_neg k1, if_neg (not_not_intro k4), if_neg k5, if_pos k6]
  obtain rfl := HND.out.trans hn
  clear HND
  have k6b : (X.f0 == 5) = true := beq_iff_eq.mpr k6
  obtain ⟨w1, w2, hs1, hs2, hm2, hg1, hB2⟩ := two_stores wc [Y.f1, X.f1] [X.f2, Y.f2]
  have hs1' : (Instr.mapUpdate 77 (.map (some wc.heap.size)) (.int .u8 97) (.agg #[.int .i64 Y.f1, .int .i64 X.f1])).run Try.prog (wc.alloc (.map #[] 0)) = .ok () w1 := hs1
  have hs2' : (Instr.mapUpdate 77 (.map (some wc.heap.size)) (.int .u8 98) (.agg #[.int .i64 X.f2, .int .i64 Y.f2])).run Try.prog w1 = .ok () w2 := hs2
  have b6 := blk_grown (blk_below H6.out (below_alloc (Below.refl _ _) (.map #[] 0))) hg1 (by have := blk_lt H6.out; simp; omega)
  have b7 := blk_grown (blk_below H7.out (below_alloc (Below.refl _ _) (.map #[] 0))) hg1 (by have := blk_lt H7.out; simp; omega)
  have d61 := (blk_cell (blk_below H6.out (below_alloc (Below.refl _ _) (.map #[] 0))) 1).trans rfl
  have d71 := (blk_cell (blk_below H7.out (below_alloc (Below.refl _ _) (.map #[] 0))) 1).trans rfl
  have e62 : w1.cell? ⟨g6, 2, none⟩ = some (.int .i64 X.f2) := (blk_cell b6 2).trans rfl
  have e72 : w1.cell? ⟨g7, 2, none⟩ = some (.int .i64 Y.f2) := (blk_cell b7 2).trans rfl
  have HF := Aside0.mk (fun (w' : World) (hw : Drawn0 w2 w') => show NeedsPost (some (some ([Y.f1, X.f1], [X.f2, Y.f2]))) w (.returned (.tuple #[.map (some wc.heap.size), .bool true])) w' from (by
   obtain ⟨n, rfl⟩ := hw
   exact ⟨pw_below_drewN (below_then HBC.out HBC.out.size hB2) n, _, rfl, _, rfl, HBC.out.size, hm2.drewN n⟩))
  clear k1 k2 k3 k4 k5 k6 hn hs1 hs2 hm2 hg1 hB2 b6 b7
  go_wp2
  go_ret2
  exact HF.out _ (by repeat (first | exact Drawn0.refl _ | apply Drawn0.step))
end Go.Proofs.Ytnfmeafiaipplaa.S

namespace Go.Proofs.Ytnfmeafiaipplaa.S
open Go.Proofs.Ytnfmeafiaipplaa.Lib
open Go.Maps (Keyed)
open Go.RowKit Go.Proofs.YtnfmeafiaipplaaW.PrintWords Go.Proofs.YtnfmeafiaipplaaW.PrintLast Go.Proofs.YtnfmeafiaipplaaW.PrintMore
set_option linter.unusedVariables false

def l23 (x : S23) : List Int := [x.f0, x.f1]
def s23 (q : List Int) : S23 := ⟨q.getD 0 0, q.getD 1 0⟩
theorem z23_run (w : World) : (zeroValue 23).run Try.prog w = .ok (.agg #[.int .i64 0, .int .i64 0]) w := by kernel_rfl
theorem zb_run (w : World) : (zeroValue 4).run Try.prog w = .ok (.bool false) w := by kernel_rfl
theorem zu_run (w : World) : (zeroValue 5).run Try.prog w = .ok (.int .u8 0) w := by kernel_rfl
/-- '[]byte("ab")': a conversion of bytes marks them, and no more. -/
theorem conv_ab (W : World) (g : Nat) (h : W.heap[g]? = some (.cells #[.int .u8 97, .int .u8 98] 5 (0, 0))) :
  ∃ W', (convert 102 102 (.slice (some ⟨g, 0, none⟩) 2 2)).run Try.prog W = .ok (.slice (some ⟨g, 0, none⟩) 2 2) W' ∧ Kept W W' (fun k => k = g) ∧ W'.heap.size = W.heap.size ∧ W'.cell? ⟨g, 0, none⟩ = some (.int .u8 97) ∧ W'.cell? ⟨g, 1, none⟩ = some (.int .u8 98) ∧ W'.heap[g]? = some (.cells #[.int .u8 97, .int .u8 98] 5 (2, 3)) ∧ (∀ (B : Nat) (w : World), Below B w W → B ≤ g → Below B w W') := by
 refine ⟨W.freeze ⟨g, 2, none⟩ 1, ?_, ⟨?_, ?_⟩, ?_, ?_, ?_, ?_, ?_⟩
 ·have hsh : W.shape? g = some (5, 2) := by simp [World.shape?, h]
  simp [convert, run_underlying Try.underlying102, run_underlying Try.underlying5, markStringish, hsh, Result.andThen]
 ·simp [World.freeze]
 ·intro i hi hne
  simp [World.freeze, Array.getElem?_modify, Ne.symm hne]
 ·simp [World.freeze]
 ·simp [World.freeze, World.cell?, Array.getElem?_modify, h]
 ·simp [World.freeze, World.cell?, Array.getElem?_modify, h]
 ·simp [World.freeze, Array.getElem?_modify, h]
 intro B w hB hg
 refine hB.trans ⟨rfl, rfl, rfl, by simp [World.freeze], fun k hk => ?_⟩
 have : g ≠ k := by omega
 simp [World.freeze, Array.getElem?_modify, this]
/-- What stands under a letter. -/
theorem needs_lookOk {m : Option (List Int × List Int)} {base : Nat} {W : World} {v : Value} (h : NeedsIs m base W v) {c : Int} (hc : c = 97 ∨ c = 98) :
  (Instr.lookup 77 v (.int .u8 c) true).run Try.prog W = .ok (.tuple #[(needGet m c).elim (.agg #[.int .i64 0, .int .i64 0]) keyL, .bool (needGet m c).isSome]) W := by
 have hk := key5 c (by omega) (by omega)
 cases m with
 | none =>
  have h' : v = .map none := h
  subst h'
  have := Maps.look_nil (w := W) true law5 Try.underlying77 (z23_run W) hk
  simpa [needGet] using this
 | some p =>
  obtain ⟨pa, pb⟩ := p
  obtain ⟨b, rfl, hb, hm⟩ := h
  have := hm.lookOk law5 Try.underlying77 (z23_run W) hk
  rw [this]
  rcases hc with rfl | rfl <;> simp [encU, two8, needGet]
theorem needs_look {m : Option (List Int × List Int)} {base : Nat} {W : World} {v : Value} (h : NeedsIs m base W v) {c : Int} (hc : 0 ≤ c ∧ c ≤ 255) :
  (Instr.lookup 77 v (.int .u8 c) false).run Try.prog W = .ok ((needGet m c).elim (.agg #[.int .i64 0, .int .i64 0]) keyL) W := by
 have hk := key5 c hc.1 hc.2
 cases m with
 | none =>
  have h' : v = .map none := h
  subst h'
  have := Maps.look_nil (w := W) false law5 Try.underlying77 (z23_run W) hk
  simpa [needGet] using this
 | some p =>
  obtain ⟨pa, pb⟩ := p
  obtain ⟨b, rfl, hb, hm⟩ := h
  have := hm.look law5 Try.underlying77 (z23_run W) hk
  rw [this]
  by_cases h1 : c = 97
  ·simp [encU, two8, needGet, h1]
  by_cases h2 : c = 98 <;> simp [encU, two8, needGet, h1, h2]
theorem NeedsIs.kept {m : Option (List Int × List Int)} {base : Nat} {W W' : World} {v : Value} (h : NeedsIs m base W v) {S : Nat → Prop} (hk : Kept W W' S) (hS : ∀ k, S k → ∀ b, v = .map (some b) → k ≠ b) : NeedsIs m base W' v := by
 cases m with
 | none => exact h
 | some p =>
  obtain ⟨b, rfl, hb, hm⟩ := h
  exact ⟨b, rfl, hb, hm.block (hk.2 b hm.lt (fun hs => hS b hs b rfl rfl))⟩
def inSet (ds : List (List Int)) : List Int → Option Value := fun q => if q ∈ ds then some (.bool true) else none
theorem inSet_new {ds : List (List Int)} {q : List Int} : encL (inSet (ds ++ [q])) (keyL q) = some (.bool true) := by
 rw [encL_key]
 simp [inSet]
theorem inSet_far {ds : List (List Int)} {q : List Int} : ∀ v, v ≠ keyL q → encL (inSet (ds ++ [q])) v = encL (inSet ds) v := by
 intro v hv
 unfold encL
 cases hd : decL v with
 | none => rfl
 | some y =>
  have : y ≠ q := fun e => hv (by rw [decL_eq hd, e])
  simp [inSet, this]
theorem inSet_look {ds : List (List Int)} {b m : Nat} {W : World} (h : MapAt W Try.prog 23 b m (encL (inSet ds))) {a c : Int} (ha : I64 a) (hc : I64 c) :
  (Instr.lookup 104 (.map (some b)) (.agg #[.int .i64 a, .int .i64 c]) false).run Try.prog W = .ok (.bool (decide ([a, c] ∈ ds))) W := by
 have := h.look law23 Try.underlying104 (zb_run W) (key23 ha hc)
 rw [this]
 have e : encL (inSet ds) (.agg #[.int .i64 a, .int .i64 c]) = inSet ds [a, c] := encL_key (inSet ds) [a, c]
 rw [e]
 by_cases h : [a, c] ∈ ds <;> simp [inSet, h]
theorem inSet_store {ds : List (List Int)} {b : Nat} {W : World} (h : MapAt W Try.prog 23 b ds.length (encL (inSet ds))) {a c : Int} (ha : I64 a) (hc : I64 c) (hn : [a, c] ∉ ds) (hl : ds.length ≤ 10000) :
  ∃ w', (Instr.mapUpdate 104 (.map (some b)) (.agg #[.int .i64 a, .int .i64 c]) (.bool true)).run Try.prog W = .ok () w' ∧ MapAt w' Try.prog 23 b (ds ++ [[a, c]]).length (encL (inSet (ds ++ [[a, c]]))) ∧ W.grownBy w' (some b) := by
 obtain ⟨w', h1, h2, h3⟩ := h.store law23 Try.underlying104 (by unfold maxLen; omega) (key23 ha hc) (val := .bool true) (f' := encL (inSet (ds ++ [[a, c]]))) (inSet_new (ds := ds) (q := [a, c])) (inSet_far (ds := ds) (q := [a, c]))
 refine ⟨w', h1, ?_, h3⟩
 have e : encL (inSet ds) (.agg #[.int .i64 a, .int .i64 c]) = none := by
  have := encL_key (inSet ds) [a, c]
  rw [show keyL [a, c] = .agg #[.int .i64 a, .int .i64 c] from rfl] at this
  rw [this]
  simp [inSet, hn]
 rw [e] at h2
 simpa using h2
theorem lit_row23 (W : World) (x : S23) : Kd.R k23 23 (W.alloc (.cells #[.int .i64 x.f0, .int .i64 x.f1] 23)) W.heap.size (fun _ => True) (.slice (some ⟨W.heap.size, 0, none⟩) 1 1) [x] := by
 refine ⟨fun k hk => trivial, [.int .i64 x.f0, .int .i64 x.f1], ?_, ?_⟩
 ·have h2 := World.ownsRow_lit (base := W.heap.size) (e := 23) (size := 2) W #[.int .i64 x.f0, .int .i64 x.f1] 1 (Nat.le_refl _) (by decide) (by simp)
  exact (by simpa using h2 : (W.alloc (.cells #[.int .i64 x.f0, .int .i64 x.f1] 23)).ownsRow W.heap.size 23 2 (.slice (some ⟨W.heap.size, 0, none⟩) 1 1) 1 [.int .i64 x.f0, .int .i64 x.f1])
 exact Reps.c2 (k23_mkM _ _ _ x) (Reps.none _ _)
end Go.Proofs.Ytnfmeafiaipplaa.S

namespace Go.Proofs.Ytnfmeafiaipplaa.S
open Go.Proofs.Ytnfmeafiaipplaa.Lib
open Go.Maps (Keyed)
open Go.RowKit Go.Proofs.YtnfmeafiaipplaaW.PrintWords Go.Proofs.YtnfmeafiaipplaaW.PrintLast Go.Proofs.YtnfmeafiaipplaaW.PrintMore
attribute [local go_sem] max2_int min2_int max_two min_two max_three min_three max_four min_four
set_option linter.unusedVariables false
set_option linter.unusedSimpArgs false

def relAdd (out : List S23) (q : Option (List Int)) : List S23 :=
  match q with
  | none => out
  | some q => if q ∈ out.map l23 then out else out ++ [s23 q]
def relIn (m : Option (List Int × List Int)) (j : Int) (out : List S23) : List S23 :=
  if j = 0 then relAdd (relAdd out (needGet m 97)) (needGet m 98) else if j = 1 then relAdd out (needGet m 98) else out
def relGo (t : List S39) : Nat → Int → List S23 → Option (List S23)
  | 0, _, _ => none
  | f + 1, i, out =>
    if i < out.length then
      (if 0 ≤ i ∧ out.length ≤ 5000 ∧ (0 ≤ (rd_T23 out i).f0 ∧ (rd_T23 out i).f0 < t.length) ∧ (0 ≤ (rd_T23 out i).f1 ∧ (rd_T23 out i).f1 < t.length) then
        relGo t f (i + 1) (relIn ((needsF (rd_T39 t (rd_T23 out i).f0) (rd_T39 t (rd_T23 out i).f1)).getD none) 0 out)
       else none)
    else some out
/-- Every pair that a node needs is a list of two ints. -/
theorem needs_two (x y : S39) (c : Int) (q : List Int) (h : needGet ((needsF x y).getD none) c = some q) : q = l23 (s23 q) := by
  unfold needsF at h
  repeat' split at h
  all_goals first
    | (cases h; done)
    | (simp [needGet] at h; done)
    | skip
  all_goals (
    simp only [Option.getD_some, needGet] at h
    split at h
    · cases h; rfl
    · split at h
      · cases h; rfl
      · cases h)
/-- All of a list's ints are ints of 64 bits. -/
def allI (t : List S39) : Prop := ∀ x ∈ t, I64 x.f0 ∧ I64 x.f1 ∧ I64 x.f2
theorem needs_I64 (x y : S39) (hx : I64 x.f1 ∧ I64 x.f2) (hy : I64 y.f1 ∧ I64 y.f2) (c : Int) (q : List Int) (h : needGet ((needsF x y).getD none) c = some q) : I64 (s23 q).f0 ∧ I64 (s23 q).f1 := by
  unfold needsF at h
  repeat' split at h
  all_goals first
    | (cases h; done)
    | (simp [needGet] at h; done)
    | skip
  all_goals (
    simp only [Option.getD_some, needGet] at h
    split at h
    · cases h; simp [s23]; first | exact ⟨hx.1, hy.1⟩ | exact ⟨hy.1, hx.1⟩ | exact ⟨hx.2, hy.2⟩
    · split at h
      · cases h; simp [s23]; first | exact ⟨hx.1, hy.1⟩ | exact ⟨hy.1, hx.1⟩ | exact ⟨hx.2, hy.2⟩
      · cases h)
def RelSt (w wr : World) (b : Nat) (v : Value) (out : List S23) : Prop :=
  Below w.heap.size w wr ∧ w.heap.size ≤ b ∧ MapAt wr Try.prog 23 b (out.map l23).length (encL (inSet (out.map l23))) ∧ Kd.R k23 23 wr w.heap.size (fun _ => True) v out
theorem RelSt.below {w wr wr' : World} {b : Nat} {v : Value} {out : List S23} (h : RelSt w wr b v out) (hB : Below wr.heap.size wr wr') : RelSt w wr' b v out :=
  ⟨below_then h.1 h.1.size hB, h.2.1, h.2.2.1.below hB, Kd.R_below h.2.2.2 hB⟩
theorem blk_belowf {w w1 : World} {g : Nat} {o : Obj} (h : w.heap[g]? = some o) (hb : Below w.heap.size w w1) : w1.heap[g]? = some o := blk_below h hb
theorem blk_keptf {W W2 : World} {S : Nat → Prop} {g : Nat} {o : Obj} (hb : W.heap[g]? = some o) (hk : Kept W W2 S) (hne : ¬ S g) : W2.heap[g]? = some o := blk_kept hb hk hne
/-- A new pair: it goes into the set and onto the list. -/
theorem rel_new {w wq : World} {b : Nat} {v : Value} {o : List S23} (h : RelSt w wq b v o) (q0 q1 : Int) (h0 : I64 q0) (h1 : I64 q1) (hn : [q0, q1] ∉ o.map l23) (hl : o.length ≤ 6000) :
    ∃ A c w4 A' c' w5, v = .slice A o.length c ∧ (Instr.mapUpdate 104 (.map (some b)) (.agg #[.int .i64 q0, .int .i64 q1]) (.bool true)).run Try.prog (wq.alloc (.cells #[.int .i64 q0, .int .i64 q1] 23)) = .ok () w4 ∧
      w4.cell? ⟨wq.heap.size, 0, none⟩ = some (.int .i64 q0) ∧ w4.cell? ⟨wq.heap.size, 1, none⟩ = some (.int .i64 q1) ∧
      (Builtin.append_ #[48, 48] 48 #[v, .slice (some ⟨w4.heap.size, 0, none⟩) 1 1]).run Try.prog (w4.alloc (.cells #[.int .i64 q0, .int .i64 q1] 23)) = .ok (.slice A' (o.length + 1) c') w5 ∧ RelSt w w5 b (.slice A' (o.length + 1) c') (o ++ [⟨q0, q1⟩]) ∧ Kept wq w5 (fun k => k = b ∨ some k = v.ownBlock) := by
  obtain ⟨hB, hb, hm, hr⟩ := h
  obtain ⟨A, c, ev⟩ := Kd.R_slice hr
  obtain ⟨w4, hst, hm4, hg4⟩ := inSet_store (hm.alloc (.cells #[.int .i64 q0, .int .i64 q1] 23)) h0 h1 hn (by simp; omega)
  have hbx : (wq.alloc (.cells #[.int .i64 q0, .int .i64 q1] 23)).heap[wq.heap.size]? = some (.cells #[.int .i64 q0, .int .i64 q1] 23 (0, 0)) := heap_alloc_new wq _
  have hbx4 := blk_grown hbx hg4 (by intro e; exact (hm.alloc (.cells #[.int .i64 q0, .int .i64 q1] 23)).ne hbx (Option.some.inj e).symm)
  have hB4 : Below w.heap.size w w4 := Below.grown (below_alloc hB _) hg4 (by have := hB.size; simp; omega) (fun k hk => by injection hk with hk; omega)
  have hr4 := R_mapped (Kd.R_alloc hr _) rfl (hm.alloc (.cells #[.int .i64 q0, .int .i64 q1] 23)) hg4
  obtain ⟨v1, w5, hrun, ho, hB5, hgr, hat⟩ := append_one k23 (P := Try.prog) (w0 := w) (W := w4) w.heap.size 48 48 23 (.agg #[.int .i64 0, .int .i64 0]) 16 Try.underlying48 info23 rfl (by decide) (by omega) (xs := o) (⟨q0, q1⟩ : S23) [.int .i64 q0, .int .i64 q1] (ok := fun _ => True) (fun _ => False) (k23_mkM _ _ _ _) (fun _ h => h.elim) (fun _ _ => trivial) hr4 hB4 hB4.size (by omega)
  obtain ⟨A', c', ev'⟩ := Kd.R_slice ho
  have ev2 : v1 = .slice A' (o.length + 1) c' := by rw [ev']; simp
  subst ev2
  refine ⟨A, c, w4, A', c', w5, ev, hst, (blk_cell hbx4 0).trans rfl, (blk_cell hbx4 1).trans rfl, hrun, ⟨hB5, hb, ?_, ho⟩, ?_⟩
  · have := hm4.rowed hr4 hgr
    simpa [l23] using this
  exact (((Kept.refl wq _).alloc _).of_grown hg4 (fun k hk => .inl (.inl (Option.some.inj hk).symm))).of_grown hgr (fun k hk => .inl (.inr hk.symm))
theorem rel_apart {w wq : World} {b base : Nat} {v vm : Value} {o : List S23} {m : Option (List Int × List Int)} (h : RelSt w wq b v o) (hN : NeedsIs m base wq vm) (hb : b < base) : ∀ k, (k = b ∨ some k = v.ownBlock) → ∀ b', vm = .map (some b') → k ≠ b' := by
  intro k hk b' hv
  cases m with
  | none => rw [show vm = .map none from hN] at hv; cases hv
  | some p =>
    obtain ⟨b2, e2, h2, hm2⟩ := hN
    rw [e2] at hv
    obtain rfl : b2 = b' := by simpa using hv
    rcases hk with rfl | hk
    · omega
    obtain ⟨c, hc⟩ := own_blk h.2.2.2 hk
    exact fun e => hm2.ne hc e.symm
/-- Behind '[]byte("ab")'. -/
theorem rel_conv {w W W2 : World} {b g : Nat} {v : Value} {out : List S23} (h : RelSt w W b v out) (hg : g = W.heap.size) (hk : Kept (W.alloc (.cells #[.int .u8 97, .int .u8 98] 5)) W2 (fun k => k = g)) (hB : ∀ (B : Nat) (w : World), Below B w (W.alloc (.cells #[.int .u8 97, .int .u8 98] 5)) → B ≤ g → Below B w W2) : RelSt w W2 b v out := by
  have h' := h.below (below_alloc (Below.refl _ _) (.cells #[.int .u8 97, .int .u8 98] 5))
  have hgb : (W.alloc (.cells #[.int .u8 97, .int .u8 98] 5)).heap[g]? = some (.cells #[.int .u8 97, .int .u8 98] 5 (0, 0)) := by rw [hg]; exact heap_alloc_new W _
  refine ⟨hB _ _ h'.1 (by rw [hg]; exact h.1.size), h'.2.1, h'.2.2.1.block (hk.2 b h'.2.2.1.lt (fun e => h'.2.2.1.ne hgb e)), R_apart h'.2.2.2 rfl hk ?_⟩
  rintro k c _ hc rfl
  exact absurd (blk_type hgb hc) (by decide)
theorem needs_conv {m : Option (List Int × List Int)} {base : Nat} {W W2 : World} {g : Nat} {v : Value} (h : NeedsIs m base W v) (hg : g = W.heap.size) (hk : Kept (W.alloc (.cells #[.int .u8 97, .int .u8 98] 5)) W2 (fun k => k = g)) : NeedsIs m base W2 v := by
  refine NeedsIs.kept (m := m) (base := base) (NeedsIs.below h (below_alloc (Below.refl _ _) (.cells #[.int .u8 97, .int .u8 98] 5))) hk ?_
  rintro k rfl b hv
  cases m with
  | none => rw [show v = .map none from h] at hv; cases hv
  | some p =>
    obtain ⟨b2, e2, h2, hm2⟩ := h
    rw [e2] at hv
    obtain rfl : b2 = b := by simpa using hv
    have := hm2.lt
    omega
theorem rel_apart5 {w wq : World} {b g : Nat} {v : Value} {o : List S23} {c : Array Value} {f : Nat × Nat} (h : RelSt w wq b v o) (hg : wq.heap[g]? = some (.cells c 5 f)) : ¬ (g = b ∨ some g = v.ownBlock) := by
  rintro (rfl | he)
  · exact h.2.2.1.ne hg rfl
  obtain ⟨c1, e1⟩ := own_blk h.2.2.2 he
  rw [hg] at e1
  injection e1 with e1
  injection e1 with _ e1 _
  cases e1
set_option maxHeartbeats 4000000 in
set_option maxRecDepth 100000 in
theorem relation_fn.calls (A0 : Option Addr) (c0 : Nat) (l0 : List S39) (hall : allI l0) (p : S23) (r : List S23) (w : World) (hr0 : Kd.C k39 w A0 l0.length l0) (hp : (0 ≤ p.f0 ∧ p.f0 < l0.length) ∧ (0 ≤ p.f1 ∧ p.f1 < l0.length)) (h : relGo l0 10000 0 [p] = some r) :
    Calls Try.prog 50 #[.slice A0 l0.length c0, .agg #[.int .i64 p.f0, .int .i64 p.f1]] w fun e w' => ∃ v, e = .returned v ∧ Kd.R k23 23 w' w.heap.size (fun _ => True) v r ∧ Below w.heap.size w w' := by
  have hn : (l0.length : Int) ≤ 9223372036854775807 := by have := hr0.2.1; omega
  have hpi : I64 p.f0 ∧ I64 p.f1 := ⟨by constructor <;> omega, by constructor <;> omega⟩
  have H := Aside0.mk h
  have HR0 := Aside0.mk hr0
  have HAL := Aside0.mk hall
  have hmm := @run_makeMap Try.prog
  obtain ⟨w3, hst, hm3, hg3⟩ := inSet_store (ds := []) ((MapAt.made ((w.alloc (.cells #[.int .i64 p.f0, .int .i64 p.f1] 23)).alloc (.cells #[.int .i64 p.f0, .int .i64 p.f1] 23)) Try.prog 23).congr (fun kv kl _ => by unfold encL inSet; cases decL kv <;> simp)) hpi.1 hpi.2 (by simp) (by simp)
  simp only [World.size_alloc] at hst hm3 hg3
  have HS0 := Aside0.mk (show RelSt w w3 (w.heap.size + 1 + 1) (.slice (some ⟨w.heap.size + 1, 0, none⟩) 1 1) [p] from by
    refine ⟨Below.grown (below_alloc (below_alloc (below_alloc (Below.refl _ _) _) _) _) hg3 (by simp; omega) (fun k hk => by injection hk with hk; omega), by omega, hm3, ?_⟩
    have h1 := lit_row23 (w.alloc (.cells #[.int .i64 p.f0, .int .i64 p.f1] 23)) p
    simp only [World.size_alloc] at h1
    have h2 := MapAt.made ((w.alloc (.cells #[.int .i64 p.f0, .int .i64 p.f1] 23)).alloc (.cells #[.int .i64 p.f0, .int .i64 p.f1] 23)) Try.prog 23
    simp only [World.size_alloc] at h2
    exact Kd.R_lower (R_mapped (Kd.R_alloc h1 _) rfl h2 hg3) (by omega))
  clear h hr0 hall hp hn hpi hm3 hg3
  go_enter Try.func50, Try.ntmps50
  go_wp2
  go_loopg [5, 7] 10000 (fun kq v5 v7 wr => ∃ (i : Int) (out : List S23), v7 = .int .i64 i ∧ Aside0 (relGo l0 kq i out = some r) ∧ Aside0 (RelSt w wr (w.heap.size + 1 + 1) v5 out))
  case atStart => exact ⟨0, [p], rfl, H, HS0⟩
  clear H HS0
  obtain ⟨wo, rfl⟩ : ∃ wo, wo = wr := ⟨_, rfl⟩
  obtain ⟨i, out, rfl, HG, HS⟩ := hrel
  obtain ⟨mm, hm1⟩ : ∃ mm, gk = mm + 1 := by
    cases gk with
    | zero => exact absurd HG.out (by simp [relGo])
    | succ mm => exact ⟨mm, rfl⟩
  have HG1 := HG.out
  rw [hm1] at HG1
  unfold relGo at HG1
  obtain ⟨An, cn, en⟩ := Kd.R_slice HS.out.2.2.2
  subst en
  have HMM := Aside0.mk (show mm < gk by omega)
  by_cases c2 : i < (out.length : Int)
  rotate_left
  · rw [if_neg c2] at HG1
    obtain rfl := Option.some.inj HG1
    have c2b0 : decide (i < (out.length : Int)) = false := decide_eq_false c2
    clear c2 HG1 hm1
    go_wp2
    go_ret
    exact ⟨_, rfl, HS.out.2.2.2, HS.out.1⟩
  rw [if_pos c2] at HG1
  split at HG1
  case isFalse => cases HG1
  rename_i c3
  obtain ⟨b0, b1, b2, b3⟩ := c3
  obtain ⟨adn, ean, hx0, hx1⟩ := at_T23 (Kd.R_reads' HS.out.2.2.2).2.2 i b0 c2
  subst ean
  obtain ⟨P, hP⟩ : ∃ P, P = rd_T23 out i := ⟨_, rfl⟩
  rw [← hP] at hx0 hx1 b2 b3 HG1
  have c2b0 : decide (i < (out.length : Int)) = true := decide_eq_true c2
  have hw : wrap64 (i + 1) = i + 1 := by unfold wrap64; omega
  have HW := Aside0.mk hw
  have r0 := eq_true b0
  have r1 := eq_true c2
  have hX : ∀ a : Int, (0 ≤ a ∧ a < l0.length) → I64 (rd_T39 l0 a).f1 ∧ I64 (rd_T39 l0 a).f2 := fun a ha => by
    have hlt : a.toNat < l0.length := by omega
    have : rd_T39 l0 a ∈ l0 := by
      unfold rd_T39
      rw [List.getD_eq_getElem?_getD, List.getElem?_eq_getElem hlt, Option.getD_some]
      exact List.getElem_mem hlt
    exact (HAL.out _ this).2
  have HIX := Aside0.mk (⟨hX _ b2, hX _ b3⟩ : (I64 (rd_T39 l0 P.f0).f1 ∧ I64 (rd_T39 l0 P.f0).f2) ∧ (I64 (rd_T39 l0 P.f1).f1 ∧ I64 (rd_T39 l0 P.f1).f2))
  have HNC := Aside0.mk (needs_fn.calls A0 c0 l0 P.f0 P.f1 wo (Kd.C_below HR0.out HS.out.1) b2 b3)
  obtain ⟨nd, hnd⟩ : ∃ nd, nd = needsF (rd_T39 l0 P.f0) (rd_T39 l0 P.f1) := ⟨_, rfl⟩
  obtain ⟨m, hm⟩ : ∃ m, m = nd.getD none := ⟨_, rfl⟩
  rw [← hnd] at HG1 HNC
  rw [← hm] at HG1
  have HND := Aside0.mk (show m = (needsF (rd_T39 l0 P.f0) (rd_T39 l0 P.f1)).getD none by rw [hm, hnd])
  have HM0 := Aside0.mk hm
  have HG2 := Aside0.mk HG1
  have HOL := Aside0.mk b1
  have HBL := Aside0.mk (show w.heap.size + 1 + 1 < wo.heap.size from HS.out.2.2.1.lt)
  clear HG HG1 c2 b0 b1 b2 b3 hP hX hnd hm hw hm1
  go_upto_region 8 with (first
    | (go_at_call 51; go_must (
        (with_reducible refine HNC.out.mono ?_); rintro e w1 ⟨hB1, vm, rfl, hN⟩;
        obtain ⟨W2, hcv, hK2, hs2, ha2, hb2, hty2, hBB2⟩ := conv_ab (w1.alloc (.cells #[.int .u8 97, .int .u8 98] 5)) w1.heap.size (heap_alloc_new w1 _);
        have HG := Aside0.mk hty2;
        have HS2 := Aside0.mk (rel_conv (HS.out.below hB1) rfl hK2 hBB2);
        have HN2 := Aside0.mk (needs_conv (HM0.out ▸ hN) rfl hK2);
        clear hB1 hN hK2 hs2 ha2 hb2 hty2 hBB2)))
  go_wp2
  go_loopw [5, 37] (fun v5 v37 wq => ∃ (j : Int) (o : List S23), v37 = .int .i64 j ∧ Aside0 ((0 ≤ j ∧ j ≤ 2) ∧ relIn m j o = relIn m 0 out ∧ (o.length : Int) ≤ out.length + j) ∧ Aside0 (RelSt w wq (w.heap.size + 1 + 1) v5 o) ∧ Aside0 (NeedsIs m wo.heap.size wq vm) ∧ Aside0 (wq.heap[w1.heap.size]? = some (.cells #[.int .u8 97, .int .u8 98] 5 (2, 3)))) (fun _ v37 _ => 2 - (intOf v37).toNat)
  case atStart => exact ⟨0, out, rfl, ⟨⟨by omega, rfl, by omega⟩⟩, HS2, HN2, HG⟩
  obtain ⟨j, o, rfl, HJ, HS1, HN1, HG1⟩ := hrel
  clear HS2 HN2 HG HS
  have HS := HS1
  have HN := HN1
  have HG := HG1
  clear HS1 HN1 HG1
  obtain ⟨⟨j0, j2⟩, hin0, hol⟩ := HJ.out
  have hm := HND.out
  clear HJ
  have hj3 : j = 0 ∨ j = 1 ∨ j = 2 := by omega
  have HOL1 := Aside0.mk (show o.length ≤ 6000 by have := HOL.out; omega)
  rcases hj3 with rfl | rfl | rfl
  · -- the letter 97
    have hc : wr.cell? ⟨w1.heap.size, 0, none⟩ = some (.int .u8 97) := (cell_of_row wr w1.heap.size 0 _ _ _ HG.out).trans rfl
    have hin : relIn m 1 (relAdd o (needGet m 97)) = relIn m 0 out := by rw [← hin0]; rfl
    have hmo := needs_lookOk HN.out (c := 97) (by omega)
    cases hq : needGet m 97 with
    | none =>
      have hmo' : (Instr.lookup 77 vm (.int .u8 97) true).run Try.prog wr = .ok (.tuple #[.agg #[.int .i64 0, .int .i64 0], .bool false]) wr := by rw [hmo, hq]; rfl
      rw [hq] at hin
      have HIN := Aside0.mk (show (0 ≤ (0 : Int) + 1 ∧ (0 : Int) + 1 ≤ 2) ∧ relIn m (0 + 1) o = relIn m 0 out ∧ (o.length : Int) ≤ out.length + (0 + 1) from ⟨by omega, hin, by omega⟩)
      have HS1 := Aside0.mk (HS.out.below (below_alloc (Below.refl _ _) (.cells #[.int .i64 0, .int .i64 0] 23)))
      have HN1 := Aside0.mk (HN.out.below (below_alloc (Below.refl _ _) (.cells #[.int .i64 0, .int .i64 0] 23)))
      have HG1 := Aside0.mk (blk_below HG.out (below_alloc (Below.refl _ _) (.cells #[.int .i64 0, .int .i64 0] 23)))
      clear hmo hin hin0 hq hol
      go_wp2
      go_roundw
      case rel => exact ⟨_, o, rfl, HIN, HS1, HN1, HG1⟩
      case measure => simp [intOf]
    | some q =>
      obtain ⟨q0, q1, rfl⟩ : ∃ q0 q1, q = [q0, q1] := ⟨_, _, needs_two _ _ _ _ (hm ▸ hq)⟩
      have hI : I64 q0 ∧ I64 q1 := (show I64 (s23 [q0, q1]).f0 ∧ I64 (s23 [q0, q1]).f1 from needs_I64 _ _ HIX.out.1 HIX.out.2 _ _ (hm ▸ hq))
      have hmo' : (Instr.lookup 77 vm (.int .u8 97) true).run Try.prog wr = .ok (.tuple #[.agg #[.int .i64 q0, .int .i64 q1], .bool true]) wr := by rw [hmo, hq]; rfl
      rw [hq] at hin
      by_cases hk : [q0, q1] ∈ o.map l23
      · rw [show relAdd o (some [q0, q1]) = o from if_pos hk] at hin
        have hlk : (Instr.lookup 104 (.map (some (w.heap.size + 1 + 1))) (.agg #[.int .i64 q0, .int .i64 q1]) false).run Try.prog (wr.alloc (.cells #[.int .i64 q0, .int .i64 q1] 23)) = .ok (.bool true) (wr.alloc (.cells #[.int .i64 q0, .int .i64 q1] 23)) := by rw [inSet_look (HS.out.2.2.1.alloc _) hI.1 hI.2, decide_eq_true hk]
        have HIN := Aside0.mk (show (0 ≤ (0 : Int) + 1 ∧ (0 : Int) + 1 ≤ 2) ∧ relIn m (0 + 1) o = relIn m 0 out ∧ (o.length : Int) ≤ out.length + (0 + 1) from ⟨by omega, hin, by omega⟩)
        have HS1 := Aside0.mk (HS.out.below (below_alloc (Below.refl _ _) (.cells #[.int .i64 q0, .int .i64 q1] 23)))
        have HN1 := Aside0.mk (HN.out.below (below_alloc (Below.refl _ _) (.cells #[.int .i64 q0, .int .i64 q1] 23)))
        have HG1 := Aside0.mk (blk_belowf HG.out (below_alloc (Below.refl _ _) (.cells #[.int .i64 q0, .int .i64 q1] 23)))
        clear hmo hin hin0 hq hk hI hol
        go_wp2
        go_roundw
        case rel => exact ⟨_, o, rfl, HIN, HS1, HN1, HG1⟩
        case measure => simp [intOf]
      · rw [show relAdd o (some [q0, q1]) = o ++ [s23 [q0, q1]] from if_neg hk] at hin
        have hlk : (Instr.lookup 104 (.map (some (w.heap.size + 1 + 1))) (.agg #[.int .i64 q0, .int .i64 q1]) false).run Try.prog (wr.alloc (.cells #[.int .i64 q0, .int .i64 q1] 23)) = .ok (.bool false) (wr.alloc (.cells #[.int .i64 q0, .int .i64 q1] 23)) := by rw [inSet_look (HS.out.2.2.1.alloc _) hI.1 hI.2, decide_eq_false hk]
        obtain ⟨A, c, w4, A', c', w5, ev, hst, hc0, hc1, hrun, hS5, hK5⟩ := rel_new HS.out q0 q1 hI.1 hI.2 hk HOL1.out
        subst ev
        have HRUN := Aside0.mk hrun
        have HIN := Aside0.mk (show (0 ≤ (0 : Int) + 1 ∧ (0 : Int) + 1 ≤ 2) ∧ relIn m (0 + 1) (o ++ [s23 [q0, q1]]) = relIn m 0 out ∧ ((o ++ [s23 [q0, q1]]).length : Int) ≤ out.length + (0 + 1) from ⟨by omega, hin, by simp; omega⟩)
        have HS1 := Aside0.mk (show RelSt w w5 (w.heap.size + 1 + 1) (.slice A' (o.length + 1) c') (o ++ [s23 [q0, q1]]) from hS5)
        have HN1 := Aside0.mk (NeedsIs.kept HN.out hK5 (rel_apart HS.out HN.out HBL.out))
        have HG1 := Aside0.mk (blk_keptf HG.out hK5 (rel_apart5 HS.out HG.out))
        clear hmo hin hin0 hq hk hI hrun hS5 hK5 hol
        go_wp2_with (at_builtin; go_must (refine wpList_appendRun _ rfl _ _ _ rfl HRUN.out rfl rfl rfl ?_))
        go_roundw
        case rel => exact ⟨_, o ++ [s23 [q0, q1]], rfl, HIN, HS1, HN1, HG1⟩
        case measure => simp [intOf]
  · -- the letter 98
    have hc : wr.cell? ⟨w1.heap.size, 1, none⟩ = some (.int .u8 98) := (cell_of_row wr w1.heap.size 1 _ _ _ HG.out).trans rfl
    have hin : relIn m 2 (relAdd o (needGet m 98)) = relIn m 0 out := by rw [← hin0]; rfl
    have hmo := needs_lookOk HN.out (c := 98) (by omega)
    cases hq : needGet m 98 with
    | none =>
      have hmo' : (Instr.lookup 77 vm (.int .u8 98) true).run Try.prog wr = .ok (.tuple #[.agg #[.int .i64 0, .int .i64 0], .bool false]) wr := by rw [hmo, hq]; rfl
      rw [hq] at hin
      have HIN := Aside0.mk (show (0 ≤ (1 : Int) + 1 ∧ (1 : Int) + 1 ≤ 2) ∧ relIn m (1 + 1) o = relIn m 0 out ∧ (o.length : Int) ≤ out.length + (1 + 1) from ⟨by omega, hin, by omega⟩)
      have HS1 := Aside0.mk (HS.out.below (below_alloc (Below.refl _ _) (.cells #[.int .i64 0, .int .i64 0] 23)))
      have HN1 := Aside0.mk (HN.out.below (below_alloc (Below.refl _ _) (.cells #[.int .i64 0, .int .i64 0] 23)))
      have HG1 := Aside0.mk (blk_below HG.out (below_alloc (Below.refl _ _) (.cells #[.int .i64 0, .int .i64 0] 23)))
      clear hmo hin hin0 hq hol
      go_wp2
      go_roundw
      case rel => exact ⟨_, o, rfl, HIN, HS1, HN1, HG1⟩
      case measure => simp [intOf]
    | some q =>
      obtain ⟨q0, q1, rfl⟩ : ∃ q0 q1, q = [q0, q1] := ⟨_, _, needs_two _ _ _ _ (hm ▸ hq)⟩
      have hI : I64 q0 ∧ I64 q1 := (show I64 (s23 [q0, q1]).f0 ∧ I64 (s23 [q0, q1]).f1 from needs_I64 _ _ HIX.out.1 HIX.out.2 _ _ (hm ▸ hq))
      have hmo' : (Instr.lookup 77 vm (.int .u8 98) true).run Try.prog wr = .ok (.tuple #[.agg #[.int .i64 q0, .int .i64 q1], .bool true]) wr := by rw [hmo, hq]; rfl
      rw [hq] at hin
      by_cases hk : [q0, q1] ∈ o.map l23
      · rw [show relAdd o (some [q0, q1]) = o from if_pos hk] at hin
        have hlk : (Instr.lookup 104 (.map (some (w.heap.size + 1 + 1))) (.agg #[.int .i64 q0, .int .i64 q1]) false).run Try.prog (wr.alloc (.cells #[.int .i64 q0, .int .i64 q1] 23)) = .ok (.bool true) (wr.alloc (.cells #[.int .i64 q0, .int .i64 q1] 23)) := by rw [inSet_look (HS.out.2.2.1.alloc _) hI.1 hI.2, decide_eq_true hk]
        have HIN := Aside0.mk (show (0 ≤ (1 : Int) + 1 ∧ (1 : Int) + 1 ≤ 2) ∧ relIn m (1 + 1) o = relIn m 0 out ∧ (o.length : Int) ≤ out.length + (1 + 1) from ⟨by omega, hin, by omega⟩)
        have HS1 := Aside0.mk (HS.out.below (below_alloc (Below.refl _ _) (.cells #[.int .i64 q0, .int .i64 q1] 23)))
        have HN1 := Aside0.mk (HN.out.below (below_alloc (Below.refl _ _) (.cells #[.int .i64 q0, .int .i64 q1] 23)))
        have HG1 := Aside0.mk (blk_belowf HG.out (below_alloc (Below.refl _ _) (.cells #[.int .i64 q0, .int .i64 q1] 23)))
        clear hmo hin hin0 hq hk hI hol
        go_wp2
        go_roundw
        case rel => exact ⟨_, o, rfl, HIN, HS1, HN1, HG1⟩
        case measure => simp [intOf]
      · rw [show relAdd o (some [q0, q1]) = o ++ [s23 [q0, q1]] from if_neg hk] at hin
        have hlk : (Instr.lookup 104 (.map (some (w.heap.size + 1 + 1))) (.agg #[.int .i64 q0, .int .i64 q1]) false).run Try.prog (wr.alloc (.cells #[.int .i64 q0, .int .i64 q1] 23)) = .ok (.bool false) (wr.alloc (.cells #[.int .i64 q0, .int .i64 q1] 23)) := by rw [inSet_look (HS.out.2.2.1.alloc _) hI.1 hI.2, decide_eq_false hk]
        obtain ⟨A, c, w4, A', c', w5, ev, hst, hc0, hc1, hrun, hS5, hK5⟩ := rel_new HS.out q0 q1 hI.1 hI.2 hk HOL1.out
        subst ev
        have HRUN := Aside0.mk hrun
        have HIN := Aside0.mk (show (0 ≤ (1 : Int) + 1 ∧ (1 : Int) + 1 ≤ 2) ∧ relIn m (1 + 1) (o ++ [s23 [q0, q1]]) = relIn m 0 out ∧ ((o ++ [s23 [q0, q1]]).length : Int) ≤ out.length + (1 + 1) from ⟨by omega, hin, by simp; omega⟩)
        have HS1 := Aside0.mk (show RelSt w w5 (w.heap.size + 1 + 1) (.slice A' (o.length + 1) c') (o ++ [s23 [q0, q1]]) from hS5)
        have HN1 := Aside0.mk (NeedsIs.kept HN.out hK5 (rel_apart HS.out HN.out HBL.out))
        have HG1 := Aside0.mk (blk_keptf HG.out hK5 (rel_apart5 HS.out HG.out))
        clear hmo hin hin0 hq hk hI hrun hS5 hK5 hol
        go_wp2_with (at_builtin; go_must (refine wpList_appendRun _ rfl _ _ _ rfl HRUN.out rfl rfl rfl ?_))
        go_roundw
        case rel => exact ⟨_, o ++ [s23 [q0, q1]], rfl, HIN, HS1, HN1, HG1⟩
        case measure => simp [intOf]
  have HGF := Aside0.mk (show relGo l0 mm (i + 1) o = some r by
    have := HG2.out
    rwa [show relIn m 0 out = o from hin0.symm] at this)
  clear hin0 hm hol
  go_wp2
  go_roundg mm
  case measure => exact HMM.out
  exact ⟨i + 1, o, by rw [HW.out], HGF, HS⟩

abbrev Bad := List (List Int × Int)
def badM (bs : Bad) : List Int → Option Value := fun q => (bs.lookup q).map (.int .u8)
def letOf (bs : Bad) (q : List Int) : Int := (bs.lookup q).getD 0
def hasK (bs : Bad) (q : List Int) : Bool := (bs.lookup q).isSome
def abStep (bs : Bad) (p : S23) (q : Option (List Int)) (c : Int) (st : List S23 × Bad) : List S23 × Bad :=
 match q with
 | none => st
 | some q => if letOf st.2 (l23 p) = 0 ∧ hasK bs q = true then (st.1 ++ [p], (l23 p, c) :: st.2) else st
def abIn (bs : Bad) (p : S23) (m : Option (List Int × List Int)) (j : Int) (st : List S23 × Bad) : List S23 × Bad :=
 if j = 0 then abStep bs p (needGet m 98) 98 (abStep bs p (needGet m 97) 97 st) else if j = 1 then abStep bs p (needGet m 98) 98 st else st
def cellStep (t : List S39) (bs : Bad) (i j : Int) (st : List S23 × Bad) : List S23 × Bad :=
 if hasK bs [i, j] = true then st else
 match needsF (rd_T39 t i) (rd_T39 t j) with
 | none => (st.1 ++ [⟨i, j⟩], st.2)
 | some m => abIn bs ⟨i, j⟩ m 0 st
def jGo (t : List S39) (bs : Bad) (i : Int) : Nat → Int → List S23 × Bad → Option (List S23 × Bad)
 | 0, _, _ => none
 | f + 1, j, st =>
  if j < t.length then (if 0 ≤ j ∧ st.1.length ≤ 20000 ∧ st.2.length ≤ 20000 then jGo t bs i f (j + 1) (cellStep t bs i j st) else none) else some st
def iGo (t : List S39) (bs : Bad) : Nat → Int → List S23 × Bad → Option (List S23 × Bad)
 | 0, _, _ => none
 | f + 1, i, st =>
  if i < t.length then (if 0 ≤ i then (jGo t bs i 200 0 st).bind fun st => iGo t bs f (i + 1) st else none) else some st
def addGo (fs : List S23) (ls : Bad) : Nat → Int → Bad → Option Bad
 | 0, _, _ => none
 | f + 1, k, bs =>
  if k < fs.length then (if 0 ≤ k ∧ bs.length ≤ 1000000 ∧ i64B (rd_T23 fs k).f0 = true ∧ i64B (rd_T23 fs k).f1 = true then addGo fs ls f (k + 1) ((l23 (rd_T23 fs k), letOf ls (l23 (rd_T23 fs k))) :: bs) else none) else some bs
def refGo (t : List S39) : Nat → Bool → Bad → Option Bad
 | 0, _, _ => none
 | f + 1, grown, bs =>
  if grown = true then
   (if t.length ≤ 100 ∧ bs.length ≤ 1000000 then (iGo t bs 200 0 ([], [])).bind fun st => if st.1.length ≤ 20000 then (addGo st.1 st.2 30000 0 bs).bind fun bs' => refGo t f (decide (0 < st.1.length)) bs' else none else none)
  else some bs
theorem badM_put {bs : Bad} {q : List Int} {c : Int} : encL (badM ((q, c) :: bs)) (keyL q) = some (.int .u8 c) := by
 rw [encL_key]
 simp [badM]
theorem badM_far {bs : Bad} {q : List Int} {c : Int} : ∀ v, v ≠ keyL q → encL (badM ((q, c) :: bs)) v = encL (badM bs) v := by
 intro v hv
 unfold encL
 cases hd : decL v with
 | none => rfl
 | some y =>
  have : y ≠ q := fun e => hv (by rw [decL_eq hd, e])
  have hb : (y == q) = false := by simpa using this
  simp [badM, List.lookup_cons, hb]
def MapIn (W : World) (b : Nat) (bs : Bad) : Prop := ∃ m, m ≤ bs.length ∧ MapAt W Try.prog 23 b m (encL (badM bs))
theorem MapIn.below {W W' : World} {b : Nat} {bs : Bad} (h : MapIn W b bs) (hB : Below W.heap.size W W') : MapIn W' b bs := by
 obtain ⟨m, h1, h2⟩ := h
 exact ⟨m, h1, h2.below hB⟩
theorem MapIn.lt {W : World} {b : Nat} {bs : Bad} (h : MapIn W b bs) : b < W.heap.size := by
 obtain ⟨m, h1, h2⟩ := h
 exact h2.lt
theorem MapIn.ne {W : World} {b : Nat} {bs : Bad} (h : MapIn W b bs) {g : Nat} {cs : Array Value} {t : TypeId} {fr : Nat × Nat} (hg : W.heap[g]? = some (.cells cs t fr)) : b ≠ g := by
 obtain ⟨m, h1, h2⟩ := h
 exact h2.ne hg
theorem MapIn.kept {W W' : World} {b : Nat} {bs : Bad} (h : MapIn W b bs) {S : Nat → Prop} (hk : Kept W W' S) (hS : ¬ S b) : MapIn W' b bs := by
 obtain ⟨m, h1, h2⟩ := h
 exact ⟨m, h1, h2.block (hk.2 b h2.lt hS)⟩
theorem MapIn.rowed {W W' : World} {b : Nat} {bs : Bad} (h : MapIn W b bs) {α : Type} {d : Kd α} {e base : Nat} {ok : Nat → Prop} {v : Value} {xs : List α} (hr : d.R e W base ok v xs) (hg : W.grownBy W' v.ownBlock) : MapIn W' b bs := by
 obtain ⟨m, h1, h2⟩ := h
 exact ⟨m, h1, h2.rowed hr hg⟩
theorem MapIn.made (W : World) : MapIn (W.alloc (.map #[] 0)) W.heap.size [] :=
 ⟨0, by simp, (MapAt.made W Try.prog 23).congr (fun kv kl _ => by unfold encL badM; cases decL kv <;> simp)⟩
theorem MapIn.lookOk {W : World} {b : Nat} {bs : Bad} (h : MapIn W b bs) {a c : Int} (ha : I64 a) (hc : I64 c) :
  (Instr.lookup 72 (.map (some b)) (.agg #[.int .i64 a, .int .i64 c]) true).run Try.prog W = .ok (.tuple #[.int .u8 (letOf bs [a, c]), .bool (hasK bs [a, c])]) W := by
 obtain ⟨m, h1, h2⟩ := h
 have := h2.lookOk law23 Try.underlying72 (zu_run W) (key23 ha hc)
 rw [this]
 have e : encL (badM bs) (.agg #[.int .i64 a, .int .i64 c]) = badM bs [a, c] := encL_key (badM bs) [a, c]
 rw [e]
 unfold badM letOf hasK
 cases bs.lookup [a, c] <;> rfl
theorem MapIn.look {W : World} {b : Nat} {bs : Bad} (h : MapIn W b bs) {a c : Int} (ha : I64 a) (hc : I64 c) :
  (Instr.lookup 72 (.map (some b)) (.agg #[.int .i64 a, .int .i64 c]) false).run Try.prog W = .ok (.int .u8 (letOf bs [a, c])) W := by
 obtain ⟨m, h1, h2⟩ := h
 have := h2.look law23 Try.underlying72 (zu_run W) (key23 ha hc)
 rw [this]
 have e : encL (badM bs) (.agg #[.int .i64 a, .int .i64 c]) = badM bs [a, c] := encL_key (badM bs) [a, c]
 rw [e]
 unfold badM letOf
 cases bs.lookup [a, c] <;> rfl
theorem MapIn.store {W : World} {b : Nat} {bs : Bad} (h : MapIn W b bs) {a c : Int} (x : Int) (ha : I64 a) (hc : I64 c) (hl : bs.length ≤ 1000000) :
  ∃ w', (Instr.mapUpdate 72 (.map (some b)) (.agg #[.int .i64 a, .int .i64 c]) (.int .u8 x)).run Try.prog W = .ok () w' ∧ MapIn w' b (([a, c], x) :: bs) ∧ W.grownBy w' (some b) := by
 obtain ⟨m, h1, h2⟩ := h
 obtain ⟨w', r1, r2, r3⟩ := h2.store law23 Try.underlying72 (by unfold maxLen; omega) (key23 ha hc) (val := .int .u8 x) (f' := encL (badM (([a, c], x) :: bs))) (badM_put (bs := bs) (q := [a, c])) (badM_far (bs := bs) (q := [a, c]))
 refine ⟨w', r1, ⟨_, ?_, r2⟩, r3⟩
 simp
 split <;> omega
/-- The two maps and the list of fresh pairs. -/
def RefSt (w wr : World) (b : Nat) (bs : Bad) (b6 : Nat) (v : Value) (st : List S23 × Bad) : Prop :=
 Below w.heap.size w wr ∧ (w.heap.size ≤ b ∧ b < b6) ∧ MapIn wr b bs ∧ MapIn wr b6 st.2 ∧ Kd.R k23 23 wr w.heap.size (fun _ => True) v st.1
theorem RefSt.below {w wr wr' : World} {b b6 : Nat} {bs : Bad} {v : Value} {st : List S23 × Bad} (h : RefSt w wr b bs b6 v st) (hB : Below wr.heap.size wr wr') : RefSt w wr' b bs b6 v st :=
 ⟨below_then h.1 h.1.size hB, h.2.1, h.2.2.1.below hB, h.2.2.2.1.below hB, Kd.R_below h.2.2.2.2 hB⟩
/-- A pair is appended to the fresh ones. -/
theorem ref_app {w W : World} {b b6 : Nat} {bs : Bad} {v : Value} {st : List S23 × Bad} (h : RefSt w W b bs b6 v st) (p0 p1 : Int) (hl : st.1.length ≤ 30000) :
  ∃ A c A' c' w5, v = .slice A st.1.length c ∧ (Builtin.append_ #[48, 48] 48 #[v, .slice (some ⟨W.heap.size, 0, none⟩) 1 1]).run Try.prog (W.alloc (.cells #[.int .i64 p0, .int .i64 p1] 23)) = .ok (.slice A' (st.1.length + 1) c') w5 ∧
   RefSt w w5 b bs b6 (.slice A' (st.1.length + 1) c') (st.1 ++ [⟨p0, p1⟩], st.2) ∧ W.grownBy w5 v.ownBlock ∧ (∀ g, g < W.heap.size → some g ≠ v.ownBlock → some g ≠ (Value.slice A' (st.1.length + 1) c').ownBlock) := by
 obtain ⟨hB, hb, hm, hm6, hr⟩ := h
 obtain ⟨A, c, ev⟩ := Kd.R_slice hr
 obtain ⟨v1, w5, hrun, ho, hB5, hgr, hat⟩ := append_one k23 (P := Try.prog) (w0 := w) (W := W) w.heap.size 48 48 23 (.agg #[.int .i64 0, .int .i64 0]) 16 Try.underlying48 info23 rfl (by decide) (by omega) (xs := st.1) (⟨p0, p1⟩ : S23) [.int .i64 p0, .int .i64 p1] (ok := fun _ => True) (fun _ => False) (k23_mkM _ _ _ _) (fun _ h => h.elim) (fun _ _ => trivial) hr hB hB.size (by omega)
 obtain ⟨A', c', ev'⟩ := Kd.R_slice ho
 have ev2 : v1 = .slice A' (st.1.length + 1) c' := by rw [ev']; simp
 subst ev2
 refine ⟨A, c, A', c', w5, ev, hrun, ⟨hB5, hb, hm.rowed hr hgr, hm6.rowed hr hgr, ho⟩, hgr, ?_⟩
 intro g hg hne
 rcases hat with e | ⟨x, e, hx⟩
 ·rw [e]; exact hne
 rw [e]
 intro e2
 injection e2 with e2
 omega
/-- A letter is laid down. -/
theorem ref_let {w W : World} {b b6 : Nat} {bs : Bad} {v : Value} {fs : List S23} {ls : Bad} (h : RefSt w W b bs b6 v (fs, ls)) (p0 p1 x : Int) (h0 : I64 p0) (h1 : I64 p1) (hl : ls.length ≤ 1000000) :
  ∃ w6, (Instr.mapUpdate 72 (.map (some b6)) (.agg #[.int .i64 p0, .int .i64 p1]) (.int .u8 x)).run Try.prog W = .ok () w6 ∧ RefSt w w6 b bs b6 v (fs, ([p0, p1], x) :: ls) ∧ W.grownBy w6 (some b6) := by
 obtain ⟨hB, hb, hm, hm6, hr⟩ := h
 obtain ⟨w6, hst, hm6', hg⟩ := hm6.store x h0 h1 hl
 refine ⟨w6, hst, ⟨Below.grown hB hg hB.size (fun k hk => by injection hk with hk; omega), hb, ?_, hm6', ?_⟩, hg⟩
 ·exact hm.kept (S := fun k => k = b6) ⟨hg.size, fun i hi hn => hg.block i hi (fun e => hn (Option.some.inj e))⟩ (by omega)
 obtain ⟨m, _, hm0⟩ := hm6
 exact R_mapped hr rfl hm0 hg
/-- Behind '[]byte("ab")'. -/
theorem ref_conv {w W W2 : World} {b b6 g : Nat} {bs : Bad} {v : Value} {st : List S23 × Bad} (h : RefSt w W b bs b6 v st) (hg : g = W.heap.size) (hk : Kept (W.alloc (.cells #[.int .u8 97, .int .u8 98] 5)) W2 (fun k => k = g)) (hB : ∀ (B : Nat) (w : World), Below B w (W.alloc (.cells #[.int .u8 97, .int .u8 98] 5)) → B ≤ g → Below B w W2) : RefSt w W2 b bs b6 v st := by
 have h' := h.below (below_alloc (Below.refl _ _) (.cells #[.int .u8 97, .int .u8 98] 5))
 have hgb : (W.alloc (.cells #[.int .u8 97, .int .u8 98] 5)).heap[g]? = some (.cells #[.int .u8 97, .int .u8 98] 5 (0, 0)) := by rw [hg]; exact heap_alloc_new W _
 refine ⟨hB _ _ h'.1 (by rw [hg]; exact h.1.size), h'.2.1, h'.2.2.1.kept hk (h'.2.2.1.ne hgb), h'.2.2.2.1.kept hk (h'.2.2.2.1.ne hgb), R_apart h'.2.2.2.2 rfl hk ?_⟩
 rintro k c _ hc rfl
 exact absurd (blk_type hgb hc) (by decide)
theorem needs_apart {m : Option (List Int × List Int)} {base : Nat} {W : World} {vm : Value} (hN : NeedsIs m base W vm) {S : Nat → Prop} (hS : ∀ k, S k → k < base ∨ ∃ c t f, W.heap[k]? = some (.cells c t f)) : ∀ k, S k → ∀ b', vm = .map (some b') → k ≠ b' := by
 intro k hk b' hv
 cases m with
 | none => rw [show vm = .map none from hN] at hv; cases hv
 | some p =>
  obtain ⟨b2, e2, h2, hm2⟩ := hN
  rw [e2] at hv
  obtain rfl : b2 = b' := by simpa using hv
  rcases hS k hk with h | ⟨c, t, f, hc⟩
  ·omega
  exact fun e => hm2.ne hc e.symm
theorem grown_kept {W W' : World} {row : Option Nat} (hg : W.grownBy W' row) : Kept W W' (fun k => some k = row) := ⟨hg.size, fun i hi hn => hg.block i hi hn⟩
theorem grown_kept1 {W W' : World} {b : Nat} (hg : W.grownBy W' (some b)) : Kept W W' (fun k => k = b) := ⟨hg.size, fun i hi hn => hg.block i hi (fun e => hn (Option.some.inj e))⟩
/-- A pair is known as bad. -/
theorem ref_bad {w W : World} {b b6 : Nat} {bs : Bad} {v : Value} {st : List S23 × Bad} (h : RefSt w W b bs b6 v st) (p0 p1 x : Int) (h0 : I64 p0) (h1 : I64 p1) (hl : bs.length ≤ 1000000) :
  ∃ w6, (Instr.mapUpdate 72 (.map (some b)) (.agg #[.int .i64 p0, .int .i64 p1]) (.int .u8 x)).run Try.prog W = .ok () w6 ∧ RefSt w w6 b (([p0, p1], x) :: bs) b6 v st := by
 obtain ⟨hB, hb, hm, hm6, hr⟩ := h
 obtain ⟨w6, hst, hm', hg⟩ := hm.store x h0 h1 hl
 refine ⟨w6, hst, ⟨Below.grown hB hg hB.size (fun k hk => by injection hk with hk; omega), hb, hm', ?_, ?_⟩⟩
 ·exact hm6.kept (S := fun k => k = b) (grown_kept1 hg) (by omega)
 obtain ⟨m, _, hm0⟩ := hm
 exact R_mapped hr rfl hm0 hg
theorem ref_fresh {w W : World} {b b6 : Nat} {bs : Bad} {v : Value} {st : List S23 × Bad} (h : RefSt w W b bs b6 v st) : some W.heap.size ≠ v.ownBlock := by
 intro he
 obtain ⟨c1, e1⟩ := own_blk h.2.2.2.2 he
 have := blk_lt e1
 omega
theorem ref_no5 {w wq : World} {b b6 g : Nat} {bs : Bad} {v : Value} {st : List S23 × Bad} {c : Array Value} {f : Nat × Nat} (h : RefSt w wq b bs b6 v st) (hg : wq.heap[g]? = some (.cells c 5 f)) : ¬ (some g = v.ownBlock) := by
 intro he
 obtain ⟨c1, e1⟩ := own_blk h.2.2.2.2 he
 rw [hg] at e1
 injection e1 with e1
 injection e1 with _ e1 _
 cases e1
set_option maxHeartbeats 4000000 in
set_option maxRecDepth 100000 in
theorem refuse_fn.calls (A0 : Option Addr) (c0 : Nat) (l0 : List S39) (hall : allI l0) (r : Bad) (w : World) (hr0 : Kd.C k39 w A0 l0.length l0) (h : refGo l0 1000 true [] = some r) :
  Calls Try.prog 48 #[.slice A0 l0.length c0] w fun e w' => ∃ b, e = .returned (.map (some b)) ∧ MapIn w' b r ∧ Below w.heap.size w w' := by
 have H := Aside0.mk h
 have HR0 := Aside0.mk hr0
 have HAL := Aside0.mk hall
 have hmm := @run_makeMap Try.prog
 clear h hr0 hall
 go_enter Try.func48, Try.ntmps48
 go_wp2
 go_loopg [4] 1000 (fun kq v4 wr => ∃ (g : Bool) (bs : Bad), v4 = .bool g ∧ Aside0 (refGo l0 kq g bs = some r) ∧ Aside0 (MapIn wr w.heap.size bs) ∧ Aside0 (Below w.heap.size w wr))
 case atStart => exact ⟨true, [], rfl, H, ⟨MapIn.made w⟩, ⟨below_alloc (Below.refl _ _) _⟩⟩
 clear H
 obtain ⟨wo, rfl⟩ : ∃ wo, wo = wr := ⟨_, rfl⟩
 obtain ⟨g, bs, rfl, HG, HM, HB⟩ := hrel
 obtain ⟨mo, hmo⟩ : ∃ mo, gk = mo + 1 := by
  cases gk with
  | zero => exact absurd HG.out (by simp [refGo])
  | succ mo => exact ⟨mo, rfl⟩
 have HG1 := HG.out
 rw [hmo] at HG1
 unfold refGo at HG1
 have HMO := Aside0.mk (show mo < gk by omega)
 cases g with
 | false =>
  rw [if_neg (by decide)] at HG1
  obtain rfl := Option.some.inj HG1
  clear HG HG1 hmo
  go_wp2
  go_ret
  exact ⟨_, rfl, HM.out, HB.out⟩
 | true =>
  rw [if_pos rfl] at HG1
  by_cases c1 : l0.length ≤ 100 ∧ bs.length ≤ 1000000
  case neg => rw [if_neg c1] at HG1; cases HG1
  rw [if_pos c1] at HG1
  replace HG1 := Option.bind_eq_some_iff.mp HG1
  obtain ⟨stE, hI, HG1⟩ := HG1
  by_cases c2 : stE.1.length ≤ 20000
  case neg => rw [if_neg c2] at HG1; cases HG1
  rw [if_pos c2] at HG1
  replace HG1 := Option.bind_eq_some_iff.mp HG1
  obtain ⟨bsE, hA, HG1⟩ := HG1
  have HGN := Aside0.mk HG1
  have HIG := Aside0.mk hI
  have HAG := Aside0.mk hA
  have HLE := Aside0.mk c1
  have HFE := Aside0.mk c2
  have HS0 := Aside0.mk (show RefSt w (wo.alloc (.map #[] 0)) w.heap.size bs wo.heap.size (.slice none 0 0) ([], []) from ⟨below_alloc HB.out _, ⟨Nat.le_refl _, HM.out.lt⟩, HM.out.below (below_alloc (Below.refl _ _) _), MapIn.made wo, Kd.R_nil _ _ _ _ _⟩)
  clear HG HG1 hmo hI hA c1 c2 HM HB
  go_wp2
  go_loopg [5, 27] 200 (fun kq v5 v27 wi => ∃ (i : Int) (st : List S23 × Bad), v27 = .int .i64 i ∧ Aside0 (iGo l0 bs kq i st = some stE) ∧ Aside0 (RefSt w wi w.heap.size bs wo.heap.size v5 st))
  case atStart => exact ⟨0, ([], []), rfl, HIG, HS0⟩
  clear HIG HS0
  obtain ⟨wi, rfl⟩ : ∃ wi, wi = wr := ⟨_, rfl⟩
  obtain ⟨i, si, rfl, HG, HSI⟩ := hrel
  obtain ⟨mi, hmi⟩ : ∃ mi, gk = mi + 1 := by
   cases gk with
   | zero => exact absurd HG.out (by simp [iGo])
   | succ mi => exact ⟨mi, rfl⟩
  have HG1 := HG.out
  rw [hmi] at HG1
  unfold iGo at HG1
  have HMI := Aside0.mk (show mi < gk by omega)
  have hn := HLE.out.1
  by_cases ci : i < (l0.length : Int)
  rotate_left
  ·rw [if_neg ci] at HG1
   obtain rfl := Option.some.inj HG1
   have ci1 : decide (i < (l0.length : Int)) = false := decide_eq_false ci
   obtain ⟨An, cn, en⟩ := Kd.R_slice HSI.out.2.2.2.2
   subst en
   clear HG HG1 hmi ci hn
   go_wp2
   clear ci1
   go_loopg [96] 30000 (fun kq v96 wk => ∃ (k : Int) (bk : Bad), v96 = .int .i64 k ∧ Aside0 (addGo si.1 si.2 kq k bk = some bsE) ∧ Aside0 (RefSt w wk w.heap.size bk wo.heap.size (.slice An si.1.length cn) si))
   case atStart => exact ⟨0, bs, rfl, HAG, HSI⟩
   clear HAG HSI
   obtain ⟨wk, rfl⟩ : ∃ wk, wk = wr := ⟨_, rfl⟩
   obtain ⟨k, bk, rfl, HG, HS⟩ := hrel
   obtain ⟨mk, hmk⟩ : ∃ mk, gk = mk + 1 := by
    cases gk with
    | zero => exact absurd HG.out (by simp [addGo])
    | succ mk => exact ⟨mk, rfl⟩
   have HG1 := HG.out
   rw [hmk] at HG1
   unfold addGo at HG1
   have HMK := Aside0.mk (show mk < gk by omega)
   have hn := HFE.out
   by_cases ck : k < (si.1.length : Int)
   rotate_left
   ·rw [if_neg ck] at HG1
    obtain rfl := Option.some.inj HG1
    have ck1 : decide (k < (si.1.length : Int)) = false := decide_eq_false ck
    clear HG HG1 hmk ck hn
    by_cases cl : 0 < si.1.length
    ·have HGT := Aside0.mk (show refGo l0 mo true bk = some r by have := HGN.out; rwa [decide_eq_true cl] at this)
     have cl1 : decide (0 < si.1.length) = true := decide_eq_true cl
     have cl2 : decide (0 < (si.1.length : Int)) = true := decide_eq_true (by omega)
     clear cl
     go_wp2
     go_roundg mo
     case measure => exact HMO.out
     exact ⟨true, bk, rfl, HGT, ⟨HS.out.2.2.1⟩, ⟨HS.out.1⟩⟩
    have HGT := Aside0.mk (show refGo l0 mo false bk = some r by have := HGN.out; rwa [decide_eq_false cl] at this)
    have cl1 : decide (0 < si.1.length) = false := decide_eq_false cl
    have cl2 : decide (0 < (si.1.length : Int)) = false := decide_eq_false (by omega)
    clear cl
    go_wp2
    go_roundg mo
    case measure => exact HMO.out
    exact ⟨false, bk, rfl, HGT, ⟨HS.out.2.2.1⟩, ⟨HS.out.1⟩⟩
   rw [if_pos ck] at HG1
   obtain ⟨P, hP⟩ : ∃ P, P = rd_T23 si.1 k := ⟨_, rfl⟩
   rw [← hP] at HG1
   by_cases ck0 : 0 ≤ k ∧ bk.length ≤ 1000000 ∧ i64B P.f0 = true ∧ i64B P.f1 = true
   case neg => rw [if_neg ck0] at HG1; cases HG1
   rw [if_pos ck0] at HG1
   have hI0 := i64B_I64 ck0.2.2.1
   have hI1 := i64B_I64 ck0.2.2.2
   obtain ⟨ad, ea, hx0, hx1⟩ := at_T23 (Kd.R_reads' HS.out.2.2.2.2).2.2 k ck0.1 ck
   rw [← hP] at hx0 hx1
   subst ea
   have HWK := Aside0.mk (show wrap64 (k + 1) = k + 1 by unfold wrap64; omega)
   have HGF := Aside0.mk HG1
   have ck1 : decide (k < (si.1.length : Int)) = true := decide_eq_true ck
   have r0 := eq_true ck0.1
   have r1 := eq_true ck
   have hb1 : ((wk.alloc (.cells #[.int .i64 P.f0, .int .i64 P.f1] 23)).drewN 1).heap[wk.heap.size]? = some (.cells #[.int .i64 P.f0, .int .i64 P.f1] 23 (0, 0)) := heap_alloc_new wk _
   have hc0 : ((wk.alloc (.cells #[.int .i64 P.f0, .int .i64 P.f1] 23)).drewN 1).cell? ⟨wk.heap.size, 0, none⟩ = some (.int .i64 P.f0) := (blk_cell hb1 0).trans rfl
   have hc1 : ((wk.alloc (.cells #[.int .i64 P.f0, .int .i64 P.f1] 23)).drewN 1).cell? ⟨wk.heap.size, 1, none⟩ = some (.int .i64 P.f1) := (blk_cell hb1 1).trans rfl
   have hS1 := (HS.out.below (below_alloc (Below.refl _ _) (.cells #[.int .i64 P.f0, .int .i64 P.f1] 23))).below (pw_below_drewN (Below.refl _ _) 1)
   have hlk := hS1.2.2.2.1.look hI0 hI1
   obtain ⟨x, hx⟩ : ∃ x, x = letOf si.2 [P.f0, P.f1] := ⟨_, rfl⟩
   rw [← hx] at hlk
   obtain ⟨w6, hst, hS6⟩ := ref_bad hS1 P.f0 P.f1 x hI0 hI1 ck0.2.1
   have HS6 := Aside0.mk (show RefSt w w6 w.heap.size ((l23 P, letOf si.2 (l23 P)) :: bk) wo.heap.size (.slice (some ad) si.1.length cn) si by rw [show letOf si.2 (l23 P) = x from hx.symm]; exact hS6)
   clear HG HG1 hmk ck ck0 hn hP hI0 hI1 hb1 hS1 hx hS6 HS
   go_wp2
   refine wp_region_still_tail 5 (by kernel_rfl) (by kernel_rfl) ?_
   simp only [List.take_succ_cons, List.take_zero, List.drop_succ_cons, List.drop_zero]
   change wpStill _ _ ((wk.alloc (.cells #[.int .i64 P.f0, .int .i64 P.f1] 23)).drewN 1) _ _ _
   repeat still_step
   refine wpStill_nil ?_
   change wpList _ _ _ _ _ ((wk.alloc (.cells #[.int .i64 P.f0, .int .i64 P.f1] 23)).drewN 1)
   go_wp2
   go_roundg mk
   case measure => exact HMK.out
   exact ⟨k + 1, _, by rw [HWK.out], HGF, HS6⟩
  rw [if_pos ci] at HG1
  by_cases ci0 : 0 ≤ i
  case neg => rw [if_neg ci0] at HG1; cases HG1
  rw [if_pos ci0] at HG1
  replace HG1 := Option.bind_eq_some_iff.mp HG1
  obtain ⟨s1, hJ, HG1⟩ := HG1
  have HJG := Aside0.mk hJ
  have HGI := Aside0.mk HG1
  have HCI := Aside0.mk (show 0 ≤ i ∧ i < l0.length from ⟨ci0, ci⟩)
  have HWI := Aside0.mk (show wrap64 (i + 1) = i + 1 by unfold wrap64; omega)
  have ci1 : decide (i < (l0.length : Int)) = true := decide_eq_true ci
  clear HG HG1 hmi hJ ci ci0 hn
  go_wp2
  clear ci1
  go_loopg [5, 32] 200 (fun kq v5 v32 wj => ∃ (j : Int) (st : List S23 × Bad), v32 = .int .i64 j ∧ Aside0 (jGo l0 bs i kq j st = some s1) ∧ Aside0 (RefSt w wj w.heap.size bs wo.heap.size v5 st))
  case atStart => exact ⟨0, si, rfl, HJG, HSI⟩
  clear HJG HSI
  obtain ⟨wj, rfl⟩ : ∃ wj, wj = wr := ⟨_, rfl⟩
  obtain ⟨j, st, rfl, HG, HS⟩ := hrel
  obtain ⟨mj, hmj⟩ : ∃ mj, gk = mj + 1 := by
   cases gk with
   | zero => exact absurd HG.out (by simp [jGo])
   | succ mj => exact ⟨mj, rfl⟩
  have HG1 := HG.out
  rw [hmj] at HG1
  unfold jGo at HG1
  have HMJ := Aside0.mk (show mj < gk by omega)
  have hn := HLE.out.1
  by_cases cj : j < (l0.length : Int)
  rotate_left
  ·rw [if_neg cj] at HG1
   obtain rfl := Option.some.inj HG1
   have cj1 : decide (j < (l0.length : Int)) = false := decide_eq_false cj
   clear HG HG1 hmj cj hn
   go_wp2
   go_roundg mi
   case measure => exact HMI.out
   exact ⟨i + 1, st, by rw [HWI.out], HGI, HS⟩
  rw [if_pos cj] at HG1
  by_cases cj0 : 0 ≤ j ∧ st.1.length ≤ 20000 ∧ st.2.length ≤ 20000
  case neg => rw [if_neg cj0] at HG1; cases HG1
  rw [if_pos cj0] at HG1
  have HCJ := Aside0.mk (show 0 ≤ j ∧ j < l0.length from ⟨cj0.1, cj⟩)
  have HWJ := Aside0.mk (show wrap64 (j + 1) = j + 1 by unfold wrap64; omega)
  have HLS := Aside0.mk cj0.2
  have HIJ := Aside0.mk (show I64 i ∧ I64 j from by have := HCI.out; exact ⟨⟨by omega, by omega⟩, ⟨by omega, by omega⟩⟩)
  have cj1 : decide (j < (l0.length : Int)) = true := decide_eq_true cj
  have hbx : (wj.alloc (.cells #[.int .i64 i, .int .i64 j] 23)).heap[wj.heap.size]? = some (.cells #[.int .i64 i, .int .i64 j] 23 (0, 0)) := heap_alloc_new wj _
  have HSX := Aside0.mk (HS.out.below (below_alloc (Below.refl _ _) (.cells #[.int .i64 i, .int .i64 j] 23)))
  have hlk := HSX.out.2.2.1.lookOk HIJ.out.1 HIJ.out.2
  obtain ⟨y, hy⟩ : ∃ y, y = letOf bs [i, j] := ⟨_, rfl⟩
  rw [← hy] at hlk
  cases hk : hasK bs [i, j] with
  | true =>
   rw [hk] at hlk
   have HGF := Aside0.mk (show jGo l0 bs i mj (j + 1) st = some s1 by
    rwa [show cellStep l0 bs i j st = st from if_pos hk] at HG1)
   clear HG HG1 hmj cj cj0 hn hk hy hbx HS
   go_wp2
   go_roundg mj
   case measure => exact HMJ.out
   exact ⟨j + 1, st, by rw [HWJ.out], HGF, HSX⟩
  | false =>
   rw [hk] at hlk
   have HNC := Aside0.mk (needs_fn.calls A0 c0 l0 i j (wj.alloc (.cells #[.int .i64 i, .int .i64 j] 23)) (Kd.C_below HR0.out HSX.out.1) HCI.out HCJ.out)
   have HBX := Aside0.mk hbx
   have HNE0 := Aside0.mk (ref_fresh HS.out)
   have hcell : cellStep l0 bs i j st = (match needsF (rd_T39 l0 i) (rd_T39 l0 j) with | none => (st.1 ++ [⟨i, j⟩], st.2) | some m => abIn bs ⟨i, j⟩ m 0 st) := by
    unfold cellStep
    rw [if_neg (by rw [hk]; decide)]
   rw [hcell] at HG1
   obtain ⟨nd, hnd⟩ : ∃ nd, nd = needsF (rd_T39 l0 i) (rd_T39 l0 j) := ⟨_, rfl⟩
   rw [← hnd] at HG1 HNC
   cases nd with
   | none =>
    have HGF := Aside0.mk HG1
    clear HG HG1 hmj cj cj0 hn hk hy hbx HS hnd hcell
    go_wp2_with (first
     | (go_at_call 51; go_must (
       (with_reducible refine HNC.out.mono ?_); rintro e w2 ⟨hB2, vm, rfl, hN⟩;
       have HS2 := Aside0.mk (HSX.out.below hB2);
       have hb2 := blk_below HBX.out hB2;
       have he0 : w2.cell? ⟨wj.heap.size, 0, none⟩ = some (.int .i64 i) := (blk_cell hb2 0).trans rfl;
       have he1 : w2.cell? ⟨wj.heap.size, 1, none⟩ = some (.int .i64 j) := (blk_cell hb2 1).trans rfl;
       obtain ⟨A, c, A', c', w5, ev, hrun, hS5, hg5, hne5⟩ := ref_app HS2.out i j (by have := HLS.out; omega);
       subst ev;
       have HRUN := Aside0.mk hrun;
       have HS5 := Aside0.mk hS5;
       clear hB2 hN hb2 hrun hS5 hg5 hne5))
     | (at_builtin; go_must (refine wpList_appendRun _ rfl _ _ _ rfl HRUN.out rfl rfl rfl ?_)))
    go_roundg mj
    case measure => exact HMJ.out
    exact ⟨j + 1, _, by rw [HWJ.out], HGF, HS5⟩
   | some m =>
    have HGF := Aside0.mk HG1
    have hX : ∀ a : Int, (0 ≤ a ∧ a < l0.length) → I64 (rd_T39 l0 a).f1 ∧ I64 (rd_T39 l0 a).f2 := fun a ha => by
     have hlt : a.toNat < l0.length := by omega
     have : rd_T39 l0 a ∈ l0 := by
      unfold rd_T39
      rw [List.getD_eq_getElem?_getD, List.getElem?_eq_getElem hlt, Option.getD_some]
      exact List.getElem_mem hlt
     exact (HAL.out _ this).2
    have HIX := Aside0.mk (⟨hX _ HCI.out, hX _ HCJ.out⟩ : (I64 (rd_T39 l0 i).f1 ∧ I64 (rd_T39 l0 i).f2) ∧ (I64 (rd_T39 l0 j).f1 ∧ I64 (rd_T39 l0 j).f2))
    have HND := Aside0.mk (show m = (needsF (rd_T39 l0 i) (rd_T39 l0 j)).getD none by rw [← hnd]; rfl)
    have HBL := Aside0.mk (show wo.heap.size < (wj.alloc (.cells #[.int .i64 i, .int .i64 j] 23)).heap.size from by have := HS.out.2.2.2.1.lt; simp; omega)
    clear HG HG1 hmj cj cj0 hn hk hy hbx HS hnd hcell hX
    go_wp2_with (first
     | (go_at_call 51; go_must (
       (with_reducible refine HNC.out.mono ?_); rintro e w2 ⟨hB2, vm, rfl, hN⟩;
       have hS2 := HSX.out.below hB2;
       have hb2 := blk_below HBX.out hB2;
       obtain ⟨W2, hcv, hK2, hs2, ha2, hbb2, hty2, hBB2⟩ := conv_ab (w2.alloc (.cells #[.int .u8 97, .int .u8 98] 5)) w2.heap.size (heap_alloc_new w2 _);
       have HGB := Aside0.mk hty2;
       have HS2 := Aside0.mk (ref_conv hS2 rfl hK2 hBB2);
       have HN2 := Aside0.mk (needs_conv (show NeedsIs m (wj.alloc (.cells #[.int .i64 i, .int .i64 j] 23)).heap.size w2 vm from hN) rfl hK2);
       have HB9 := Aside0.mk (blk_kept (blk_below hb2 (below_alloc (Below.refl _ _) (.cells #[.int .u8 97, .int .u8 98] 5))) hK2 (by have := blk_lt hb2; omega));
       clear hB2 hN hS2 hb2 hK2 hs2 ha2 hbb2 hty2 hBB2)))
    go_loopw [5, 60] (fun v5 v60 wq => ∃ (jc : Int) (sc : List S23 × Bad), v60 = .int .i64 jc ∧ Aside0 ((0 ≤ jc ∧ jc ≤ 2) ∧ abIn bs ⟨i, j⟩ m jc sc = abIn bs ⟨i, j⟩ m 0 st ∧ sc.1.length ≤ st.1.length + jc ∧ sc.2.length ≤ st.2.length + jc) ∧ Aside0 (RefSt w wq w.heap.size bs wo.heap.size v5 sc) ∧ Aside0 (NeedsIs m (wj.alloc (.cells #[.int .i64 i, .int .i64 j] 23)).heap.size wq vm) ∧ Aside0 (wq.heap[w2.heap.size]? = some (.cells #[.int .u8 97, .int .u8 98] 5 (2, 3))) ∧ Aside0 (wq.heap[wj.heap.size]? = some (.cells #[.int .i64 i, .int .i64 j] 23 (0, 0))) ∧ Aside0 (some wj.heap.size ≠ v5.ownBlock)) (fun _ v60 _ => 2 - (intOf v60).toNat)
    case atStart => exact ⟨0, st, rfl, ⟨⟨by omega, rfl, by omega, by omega⟩⟩, HS2, HN2, HGB, HB9, HNE0⟩
    obtain ⟨jc, sc, rfl, HJ, HS1, HN1, HG1, HB91, HNE1⟩ := hrel
    clear HS2 HN2 HGB HB9 HNE0 HSX
    have HS := HS1
    have HN := HN1
    have HGB := HG1
    have HB9 := HB91
    have HNE := HNE1
    clear HS1 HN1 HG1 HB91 HNE1
    obtain ⟨⟨j0, j2⟩, hin0, hs1, hs2⟩ := HJ.out
    have hm := HND.out
    clear HJ
    have hj3 : jc = 0 ∨ jc = 1 ∨ jc = 2 := by omega
    have HOL := Aside0.mk (show sc.1.length ≤ 20002 ∧ sc.2.length ≤ 20002 by have := HLS.out; omega)
    rcases hj3 with rfl | rfl | rfl
    ·-- the letter 97
     have hc : wr.cell? ⟨w2.heap.size, 0, none⟩ = some (.int .u8 97) := (cell_of_row wr w2.heap.size 0 _ _ _ HGB.out).trans rfl
     have hc9 : wr.cell? ⟨wj.heap.size, 0, none⟩ = some (.int .i64 i) := (blk_cell HB9.out 0).trans rfl
     have hc91 : wr.cell? ⟨wj.heap.size, 1, none⟩ = some (.int .i64 j) := (blk_cell HB9.out 1).trans rfl
     have hin : abIn bs ⟨i, j⟩ m 1 (abStep bs ⟨i, j⟩ (needGet m 97) 97 sc) = abIn bs ⟨i, j⟩ m 0 st := by rw [← hin0]; rfl
     have hmo := needs_lookOk HN.out (c := 97) (by omega)
     have HNE1 := HNE
     cases hq : needGet m 97 with
     | none =>
      have hmo' : (Instr.lookup 77 vm (.int .u8 97) true).run Try.prog wr = .ok (.tuple #[.agg #[.int .i64 0, .int .i64 0], .bool false]) wr := by rw [hmo, hq]; rfl
      rw [show abStep bs ⟨i, j⟩ (needGet m 97) 97 sc = sc by rw [hq]; rfl] at hin
      have HIN := Aside0.mk (show (0 ≤ (0 : Int) + 1 ∧ (0 : Int) + 1 ≤ 2) ∧ abIn bs ⟨i, j⟩ m (0 + 1) sc = abIn bs ⟨i, j⟩ m 0 st ∧ (sc.1.length : Int) ≤ st.1.length + (0 + 1) ∧ (sc.2.length : Int) ≤ st.2.length + (0 + 1) from ⟨by omega, hin, by omega, by omega⟩)
      have HS1 := Aside0.mk (HS.out.below (below_alloc (Below.refl _ _) (.cells #[.int .i64 0, .int .i64 0] 23)))
      have HN1 := Aside0.mk (HN.out.below (below_alloc (Below.refl _ _) (.cells #[.int .i64 0, .int .i64 0] 23)))
      have HG1 := Aside0.mk (blk_belowf HGB.out (below_alloc (Below.refl _ _) (.cells #[.int .i64 0, .int .i64 0] 23)))
      have HB91 := Aside0.mk (blk_belowf HB9.out (below_alloc (Below.refl _ _) (.cells #[.int .i64 0, .int .i64 0] 23)))
      clear hmo hin hin0 hq hs1 hs2
      go_wp2
      go_roundw
      case rel => exact ⟨_, sc, rfl, HIN, HS1, HN1, HG1, HB91, HNE1⟩
      simp [intOf]
     | some q =>
      obtain ⟨q0, q1, rfl⟩ : ∃ q0 q1, q = [q0, q1] := ⟨_, _, needs_two _ _ _ _ (hm ▸ hq)⟩
      have hI : I64 q0 ∧ I64 q1 := (show I64 (s23 [q0, q1]).f0 ∧ I64 (s23 [q0, q1]).f1 from needs_I64 _ _ HIX.out.1 HIX.out.2 _ _ (hm ▸ hq))
      have hmo' : (Instr.lookup 77 vm (.int .u8 97) true).run Try.prog wr = .ok (.tuple #[.agg #[.int .i64 q0, .int .i64 q1], .bool true]) wr := by rw [hmo, hq]; rfl
      have hab : abStep bs ⟨i, j⟩ (needGet m 97) 97 sc = if letOf sc.2 [i, j] = 0 ∧ hasK bs [q0, q1] = true then (sc.1 ++ [⟨i, j⟩], ([i, j], 97) :: sc.2) else sc := by rw [hq]; rfl
      have hd9 : (wr.alloc (.cells #[.int .i64 q0, .int .i64 q1] 23)).cell? ⟨wj.heap.size, 0, none⟩ = some (.int .i64 i) := (blk_cell (blk_below HB9.out (below_alloc (Below.refl _ _) (.cells #[.int .i64 q0, .int .i64 q1] 23))) 0).trans rfl
      have hd91 : (wr.alloc (.cells #[.int .i64 q0, .int .i64 q1] 23)).cell? ⟨wj.heap.size, 1, none⟩ = some (.int .i64 j) := (blk_cell (blk_below HB9.out (below_alloc (Below.refl _ _) (.cells #[.int .i64 q0, .int .i64 q1] 23))) 1).trans rfl
      have hlk := (HS.out.2.2.2.1.below (below_alloc (Below.refl _ _) (.cells #[.int .i64 q0, .int .i64 q1] 23))).look HIJ.out.1 HIJ.out.2
      have hbk := (HS.out.2.2.1.below (below_alloc (Below.refl _ _) (.cells #[.int .i64 q0, .int .i64 q1] 23))).lookOk hI.1 hI.2
      by_cases k1 : letOf sc.2 [i, j] = 0
      case neg =>
       rw [hab, if_neg (fun h => k1 h.1)] at hin
       obtain ⟨x, hx⟩ : ∃ x, x = letOf sc.2 [i, j] := ⟨_, rfl⟩
       rw [← hx] at hlk k1
       have k1b : (x == 0) = false := beq_eq_false_iff_ne.mpr k1
       have HIN := Aside0.mk (show (0 ≤ (0 : Int) + 1 ∧ (0 : Int) + 1 ≤ 2) ∧ abIn bs ⟨i, j⟩ m (0 + 1) sc = abIn bs ⟨i, j⟩ m 0 st ∧ (sc.1.length : Int) ≤ st.1.length + (0 + 1) ∧ (sc.2.length : Int) ≤ st.2.length + (0 + 1) from ⟨by omega, hin, by omega, by omega⟩)
       have HS1 := Aside0.mk (HS.out.below (below_alloc (Below.refl _ _) (.cells #[.int .i64 q0, .int .i64 q1] 23)))
       have HN1 := Aside0.mk (HN.out.below (below_alloc (Below.refl _ _) (.cells #[.int .i64 q0, .int .i64 q1] 23)))
       have HG1 := Aside0.mk (blk_belowf HGB.out (below_alloc (Below.refl _ _) (.cells #[.int .i64 q0, .int .i64 q1] 23)))
       have HB91 := Aside0.mk (blk_belowf HB9.out (below_alloc (Below.refl _ _) (.cells #[.int .i64 q0, .int .i64 q1] 23)))
       clear hmo hin hin0 hq hs1 hs2 hab hbk k1 hx hI
       go_wp2
       go_roundw
       case rel => exact ⟨_, sc, rfl, HIN, HS1, HN1, HG1, HB91, HNE1⟩
       simp [intOf]
      rw [k1] at hlk
      have k1b : ((0 : Int) == 0) = true := rfl
      cases k2 : hasK bs [q0, q1] with
      | false =>
       rw [hab, if_neg (fun h => by rw [k2] at h; exact absurd h.2 (by decide))] at hin
       rw [k2] at hbk
       obtain ⟨y, hy⟩ : ∃ y, y = letOf bs [q0, q1] := ⟨_, rfl⟩
       rw [← hy] at hbk
       have HIN := Aside0.mk (show (0 ≤ (0 : Int) + 1 ∧ (0 : Int) + 1 ≤ 2) ∧ abIn bs ⟨i, j⟩ m (0 + 1) sc = abIn bs ⟨i, j⟩ m 0 st ∧ (sc.1.length : Int) ≤ st.1.length + (0 + 1) ∧ (sc.2.length : Int) ≤ st.2.length + (0 + 1) from ⟨by omega, hin, by omega, by omega⟩)
       have HS1 := Aside0.mk (HS.out.below (below_alloc (Below.refl _ _) (.cells #[.int .i64 q0, .int .i64 q1] 23)))
       have HN1 := Aside0.mk (HN.out.below (below_alloc (Below.refl _ _) (.cells #[.int .i64 q0, .int .i64 q1] 23)))
       have HG1 := Aside0.mk (blk_belowf HGB.out (below_alloc (Below.refl _ _) (.cells #[.int .i64 q0, .int .i64 q1] 23)))
       have HB91 := Aside0.mk (blk_belowf HB9.out (below_alloc (Below.refl _ _) (.cells #[.int .i64 q0, .int .i64 q1] 23)))
       clear hmo hin hin0 hq hs1 hs2 hab k1 k2 hy hI
       go_wp2
       go_roundw
       case rel => exact ⟨_, sc, rfl, HIN, HS1, HN1, HG1, HB91, HNE1⟩
       simp [intOf]
      | true =>
       rw [hab, if_pos ⟨k1, k2⟩] at hin
       rw [k2] at hbk
       obtain ⟨y, hy⟩ : ∃ y, y = letOf bs [q0, q1] := ⟨_, rfl⟩
       rw [← hy] at hbk
       have HIN := Aside0.mk (show (0 ≤ (0 : Int) + 1 ∧ (0 : Int) + 1 ≤ 2) ∧ abIn bs ⟨i, j⟩ m (0 + 1) (sc.1 ++ [⟨i, j⟩], ([i, j], 97) :: sc.2) = abIn bs ⟨i, j⟩ m 0 st ∧ ((sc.1 ++ [(⟨i, j⟩ : S23)], ([i, j], (97 : Int)) :: sc.2).1.length : Int) ≤ st.1.length + (0 + 1) ∧ ((sc.1 ++ [(⟨i, j⟩ : S23)], ([i, j], (97 : Int)) :: sc.2).2.length : Int) ≤ st.2.length + (0 + 1) from ⟨by omega, hin, by simp; omega, by simp; omega⟩)
       have hHS := HS.out.below (below_alloc (Below.refl _ _) (.cells #[.int .i64 q0, .int .i64 q1] 23))
       have hN1 := HN.out.below (below_alloc (Below.refl _ _) (.cells #[.int .i64 q0, .int .i64 q1] 23))
       have hG1 := blk_belowf HGB.out (below_alloc (Below.refl _ _) (.cells #[.int .i64 q0, .int .i64 q1] 23))
       have hB91 := blk_belowf HB9.out (below_alloc (Below.refl _ _) (.cells #[.int .i64 q0, .int .i64 q1] 23))
       obtain ⟨A, c, A', c', w5, ev, hrun, hS5, hg5, hne5⟩ := ref_app hHS i j (by have := HOL.out; omega)
       subst ev
       obtain ⟨w6, hst, hS6, hg6⟩ := ref_let hS5 i j 97 HIJ.out.1 HIJ.out.2 (by have := HOL.out; omega)
       have hB95 := blk_grown hB91 hg5 HNE.out
       have he9 : w5.cell? ⟨wj.heap.size, 0, none⟩ = some (.int .i64 i) := (blk_cell hB95 0).trans rfl
       have he91 : w5.cell? ⟨wj.heap.size, 1, none⟩ = some (.int .i64 j) := (blk_cell hB95 1).trans rfl
       have HB91 := Aside0.mk (blk_grown hB95 hg6 (by intro e; exact hS5.2.2.2.1.ne hB95 (Option.some.inj e).symm))
       have hG5 := blk_keptf hG1 (grown_kept hg5) (ref_no5 hHS hG1)
       have HG1 := Aside0.mk (blk_keptf hG5 (grown_kept1 hg6) (fun e => hS5.2.2.2.1.ne hG5 e.symm))
       have hN5 := NeedsIs.kept hN1 (grown_kept hg5) (needs_apart hN1 (fun k hk => .inr (by obtain ⟨x, hx⟩ := own_blk hHS.2.2.2.2 hk; exact ⟨x, _, _, hx⟩)))
       have HN1 := Aside0.mk (NeedsIs.kept hN5 (grown_kept1 hg6) (needs_apart hN5 (fun k hk => .inl (by rw [hk]; exact HBL.out))))
       have HNE1 := Aside0.mk (hne5 wj.heap.size (blk_lt hB91) HNE.out)
       have HS1 := Aside0.mk hS6
       simp only [World.size_alloc] at hrun
       have HRUN := Aside0.mk hrun
       clear hmo hin hin0 hq hs1 hs2 hab k1 k2 hy hI hHS hN1 hG1 hB91 hrun hS5 hg5 hne5 hS6 hg6 hB95 hG5 hN5
       go_wp2_with (at_builtin; go_must (refine wpList_appendRun _ rfl _ _ _ rfl HRUN.out rfl rfl rfl ?_))
       go_roundw
       case rel => exact ⟨_, (sc.1 ++ [(⟨i, j⟩ : S23)], ([i, j], (97 : Int)) :: sc.2), rfl, HIN, HS1, HN1, HG1, HB91, HNE1⟩
       simp [intOf]
    ·-- the letter 98
     have hc : wr.cell? ⟨w2.heap.size, 1, none⟩ = some (.int .u8 98) := (cell_of_row wr w2.heap.size 1 _ _ _ HGB.out).trans rfl
     have hc9 : wr.cell? ⟨wj.heap.size, 0, none⟩ = some (.int .i64 i) := (blk_cell HB9.out 0).trans rfl
     have hc91 : wr.cell? ⟨wj.heap.size, 1, none⟩ = some (.int .i64 j) := (blk_cell HB9.out 1).trans rfl
     have hin : abIn bs ⟨i, j⟩ m 2 (abStep bs ⟨i, j⟩ (needGet m 98) 98 sc) = abIn bs ⟨i, j⟩ m 0 st := by rw [← hin0]; rfl
     have hmo := needs_lookOk HN.out (c := 98) (by omega)
     have HNE1 := HNE
     cases hq : needGet m 98 with
     | none =>
      have hmo' : (Instr.lookup 77 vm (.int .u8 98) true).run Try.prog wr = .ok (.tuple #[.agg #[.int .i64 0, .int .i64 0], .bool false]) wr := by rw [hmo, hq]; rfl
      rw [show abStep bs ⟨i, j⟩ (needGet m 98) 98 sc = sc by rw [hq]; rfl] at hin
      have HIN := Aside0.mk (show (0 ≤ (1 : Int) + 1 ∧ (1 : Int) + 1 ≤ 2) ∧ abIn bs ⟨i, j⟩ m (1 + 1) sc = abIn bs ⟨i, j⟩ m 0 st ∧ (sc.1.length : Int) ≤ st.1.length + (1 + 1) ∧ (sc.2.length : Int) ≤ st.2.length + (1 + 1) from ⟨by omega, hin, by omega, by omega⟩)
      have HS1 := Aside0.mk (HS.out.below (below_alloc (Below.refl _ _) (.cells #[.int .i64 0, .int .i64 0] 23)))
      have HN1 := Aside0.mk (HN.out.below (below_alloc (Below.refl _ _) (.cells #[.int .i64 0, .int .i64 0] 23)))
      have HG1 := Aside0.mk (blk_belowf HGB.out (below_alloc (Below.refl _ _) (.cells #[.int .i64 0, .int .i64 0] 23)))
      have HB91 := Aside0.mk (blk_belowf HB9.out (below_alloc (Below.refl _ _) (.cells #[.int .i64 0, .int .i64 0] 23)))
      clear hmo hin hin0 hq hs1 hs2
      go_wp2
      go_roundw
      case rel => exact ⟨_, sc, rfl, HIN, HS1, HN1, HG1, HB91, HNE1⟩
      simp [intOf]
     | some q =>
      obtain ⟨q0, q1, rfl⟩ : ∃ q0 q1, q = [q0, q1] := ⟨_, _, needs_two _ _ _ _ (hm ▸ hq)⟩
      have hI : I64 q0 ∧ I64 q1 := (show I64 (s23 [q0, q1]).f0 ∧ I64 (s23 [q0, q1]).f1 from needs_I64 _ _ HIX.out.1 HIX.out.2 _ _ (hm ▸ hq))
      have hmo' : (Instr.lookup 77 vm (.int .u8 98) true).run Try.prog wr = .ok (.tuple #[.agg #[.int .i64 q0, .int .i64 q1], .bool true]) wr := by rw [hmo, hq]; rfl
      have hab : abStep bs ⟨i, j⟩ (needGet m 98) 98 sc = if letOf sc.2 [i, j] = 0 ∧ hasK bs [q0, q1] = true then (sc.1 ++ [⟨i, j⟩], ([i, j], 98) :: sc.2) else sc := by rw [hq]; rfl
      have hd9 : (wr.alloc (.cells #[.int .i64 q0, .int .i64 q1] 23)).cell? ⟨wj.heap.size, 0, none⟩ = some (.int .i64 i) := (blk_cell (blk_below HB9.out (below_alloc (Below.refl _ _) (.cells #[.int .i64 q0, .int .i64 q1] 23))) 0).trans rfl
      have hd91 : (wr.alloc (.cells #[.int .i64 q0, .int .i64 q1] 23)).cell? ⟨wj.heap.size, 1, none⟩ = some (.int .i64 j) := (blk_cell (blk_below HB9.out (below_alloc (Below.refl _ _) (.cells #[.int .i64 q0, .int .i64 q1] 23))) 1).trans rfl
      have hlk := (HS.out.2.2.2.1.below (below_alloc (Below.refl _ _) (.cells #[.int .i64 q0, .int .i64 q1] 23))).look HIJ.out.1 HIJ.out.2
      have hbk := (HS.out.2.2.1.below (below_alloc (Below.refl _ _) (.cells #[.int .i64 q0, .int .i64 q1] 23))).lookOk hI.1 hI.2
      by_cases k1 : letOf sc.2 [i, j] = 0
      case neg =>
       rw [hab, if_neg (fun h => k1 h.1)] at hin
       obtain ⟨x, hx⟩ : ∃ x, x = letOf sc.2 [i, j] := ⟨_, rfl⟩
       rw [← hx] at hlk k1
       have k1b : (x == 0) = false := beq_eq_false_iff_ne.mpr k1
       have HIN := Aside0.mk (show (0 ≤ (1 : Int) + 1 ∧ (1 : Int) + 1 ≤ 2) ∧ abIn bs ⟨i, j⟩ m (1 + 1) sc = abIn bs ⟨i, j⟩ m 0 st ∧ (sc.1.length : Int) ≤ st.1.length + (1 + 1) ∧ (sc.2.length : Int) ≤ st.2.length + (1 + 1) from ⟨by omega, hin, by omega, by omega⟩)
       have HS1 := Aside0.mk (HS.out.below (below_alloc (Below.refl _ _) (.cells #[.int .i64 q0, .int .i64 q1] 23)))
       have HN1 := Aside0.mk (HN.out.below (below_alloc (Below.refl _ _) (.cells #[.int .i64 q0, .int .i64 q1] 23)))
       have HG1 := Aside0.mk (blk_belowf HGB.out (below_alloc (Below.refl _ _) (.cells #[.int .i64 q0, .int .i64 q1] 23)))
       have HB91 := Aside0.mk (blk_belowf HB9.out (below_alloc (Below.refl _ _) (.cells #[.int .i64 q0, .int .i64 q1] 23)))
       clear hmo hin hin0 hq hs1 hs2 hab hbk k1 hx hI
       go_wp2
       go_roundw
       case rel => exact ⟨_, sc, rfl, HIN, HS1, HN1, HG1, HB91, HNE1⟩
       simp [intOf]
      rw [k1] at hlk
      have k1b : ((0 : Int) == 0) = true := rfl
      cases k2 : hasK bs [q0, q1] with
      | false =>
       rw [hab, if_neg (fun h => by rw [k2] at h; exact absurd h.2 (by decide))] at hin
       rw [k2] at hbk
       obtain ⟨y, hy⟩ : ∃ y, y = letOf bs [q0, q1] := ⟨_, rfl⟩
       rw [← hy] at hbk
       have HIN := Aside0.mk (show (0 ≤ (1 : Int) + 1 ∧ (1 : Int) + 1 ≤ 2) ∧ abIn bs ⟨i, j⟩ m (1 + 1) sc = abIn bs ⟨i, j⟩ m 0 st ∧ (sc.1.length : Int) ≤ st.1.length + (1 + 1) ∧ (sc.2.length : Int) ≤ st.2.length + (1 + 1) from ⟨by omega, hin, by omega, by omega⟩)
       have HS1 := Aside0.mk (HS.out.below (below_alloc (Below.refl _ _) (.cells #[.int .i64 q0, .int .i64 q1] 23)))
       have HN1 := Aside0.mk (HN.out.below (below_alloc (Below.refl _ _) (.cells #[.int .i64 q0, .int .i64 q1] 23)))
       have HG1 := Aside0.mk (blk_belowf HGB.out (below_alloc (Below.refl _ _) (.cells #[.int .i64 q0, .int .i64 q1] 23)))
       have HB91 := Aside0.mk (blk_belowf HB9.out (below_alloc (Below.refl _ _) (.cells #[.int .i64 q0, .int .i64 q1] 23)))
       clear hmo hin hin0 hq hs1 hs2 hab k1 k2 hy hI
       go_wp2
       go_roundw
       case rel => exact ⟨_, sc, rfl, HIN, HS1, HN1, HG1, HB91, HNE1⟩
       simp [intOf]
      | true =>
       rw [hab, if_pos ⟨k1, k2⟩] at hin
       rw [k2] at hbk
       obtain ⟨y, hy⟩ : ∃ y, y = letOf bs [q0, q1] := ⟨_, rfl⟩
       rw [← hy] at hbk
       have HIN := Aside0.mk (show (0 ≤ (1 : Int) + 1 ∧ (1 : Int) + 1 ≤ 2) ∧ abIn bs ⟨i, j⟩ m (1 + 1) (sc.1 ++ [⟨i, j⟩], ([i, j], 98) :: sc.2) = abIn bs ⟨i, j⟩ m 0 st ∧ ((sc.1 ++ [(⟨i, j⟩ : S23)], ([i, j], (98 : Int)) :: sc.2).1.length : Int) ≤ st.1.length + (1 + 1) ∧ ((sc.1 ++ [(⟨i, j⟩ : S23)], ([i, j], (98 : Int)) :: sc.2).2.length : Int) ≤ st.2.length + (1 + 1) from ⟨by omega, hin, by simp; omega, by simp; omega⟩)
       have hHS := HS.out.below (below_alloc (Below.refl _ _) (.cells #[.int .i64 q0, .int .i64 q1] 23))
       have hN1 := HN.out.below (below_alloc (Below.refl _ _) (.cells #[.int .i64 q0, .int .i64 q1] 23))
       have hG1 := blk_belowf HGB.out (below_alloc (Below.refl _ _) (.cells #[.int .i64 q0, .int .i64 q1] 23))
       have hB91 := blk_belowf HB9.out (below_alloc (Below.refl _ _) (.cells #[.int .i64 q0, .int .i64 q1] 23))
       obtain ⟨A, c, A', c', w5, ev, hrun, hS5, hg5, hne5⟩ := ref_app hHS i j (by have := HOL.out; omega)
       subst ev
       obtain ⟨w6, hst, hS6, hg6⟩ := ref_let hS5 i j 98 HIJ.out.1 HIJ.out.2 (by have := HOL.out; omega)
       have hB95 := blk_grown hB91 hg5 HNE.out
       have he9 : w5.cell? ⟨wj.heap.size, 0, none⟩ = some (.int .i64 i) := (blk_cell hB95 0).trans rfl
       have he91 : w5.cell? ⟨wj.heap.size, 1, none⟩ = some (.int .i64 j) := (blk_cell hB95 1).trans rfl
       have HB91 := Aside0.mk (blk_grown hB95 hg6 (by intro e; exact hS5.2.2.2.1.ne hB95 (Option.some.inj e).symm))
       have hG5 := blk_keptf hG1 (grown_kept hg5) (ref_no5 hHS hG1)
       have HG1 := Aside0.mk (blk_keptf hG5 (grown_kept1 hg6) (fun e => hS5.2.2.2.1.ne hG5 e.symm))
       have hN5 := NeedsIs.kept hN1 (grown_kept hg5) (needs_apart hN1 (fun k hk => .inr (by obtain ⟨x, hx⟩ := own_blk hHS.2.2.2.2 hk; exact ⟨x, _, _, hx⟩)))
       have HN1 := Aside0.mk (NeedsIs.kept hN5 (grown_kept1 hg6) (needs_apart hN5 (fun k hk => .inl (by rw [hk]; exact HBL.out))))
       have HNE1 := Aside0.mk (hne5 wj.heap.size (blk_lt hB91) HNE.out)
       have HS1 := Aside0.mk hS6
       simp only [World.size_alloc] at hrun
       have HRUN := Aside0.mk hrun
       clear hmo hin hin0 hq hs1 hs2 hab k1 k2 hy hI hHS hN1 hG1 hB91 hrun hS5 hg5 hne5 hS6 hg6 hB95 hG5 hN5
       go_wp2_with (at_builtin; go_must (refine wpList_appendRun _ rfl _ _ _ rfl HRUN.out rfl rfl rfl ?_))
       go_roundw
       case rel => exact ⟨_, (sc.1 ++ [(⟨i, j⟩ : S23)], ([i, j], (98 : Int)) :: sc.2), rfl, HIN, HS1, HN1, HG1, HB91, HNE1⟩
       simp [intOf]
    have HGF2 := Aside0.mk (show jGo l0 bs i mj (j + 1) sc = some s1 by
     have : jGo l0 bs i mj (j + 1) (abIn bs ⟨i, j⟩ m 0 st) = some s1 := HGF.out
     rwa [show abIn bs ⟨i, j⟩ m 0 st = sc from hin0.symm] at this)
    clear hin0 hm hs1 hs2
    go_wp2
    go_roundg mj
    case measure => exact HMJ.out
    exact ⟨j + 1, sc, by rw [HWJ.out], HGF2, HS⟩

def loops_within.f (a0 : Int) (a1 : Int) (a2 : Int) : Option (Bool) := if a0 ≥ a1 then (some (decide (a0 ≤ a2))) else (some false)
set_option maxHeartbeats 8000000 in
set_option maxRecDepth 100000 in
theorem loops_within.calls (a0 : Int) (a1 : Int) (a2 : Int) (r : Bool) (w : World) (h : loops_within.f a0 a1 a2 = some r) :
  Calls Try.prog 61 #[.int .i64 a0, .int .i64 a1, .int .i64 a2] w fun e w' => e = .returned (.bool r) ∧ Drawn0 w w' := by
 have H : (if a0 ≥ a1 then (some (decide (a0 ≤ a2))) else (some false)) = some r := h
 clear h
 by_cases c4 : a0 ≥ a1
 ·rw [if_pos c4] at H
  have c4b0 : decide (a1 ≤ a0) = true := decide_eq_true c4
  clear c4
  obtain rfl := Option.some.inj H
  go_enter Try.func61, Try.ntmps61
  go_wp2
  go_ret
  exact ⟨by first | rfl | (simp; done) | (simp [*]; done), by repeat (first | exact Drawn0.refl _ | apply Drawn0.step)⟩
 rw [if_neg c4] at H
 have c4b0 : decide (a1 ≤ a0) = false := decide_eq_false c4
 clear c4
 obtain rfl := Option.some.inj H
 go_enter Try.func61, Try.ntmps61
 go_wp2
 go_ret
 exact ⟨by first | rfl | (simp; done) | (simp [*]; done), by repeat (first | exact Drawn0.refl _ | apply Drawn0.step)⟩

mutual
def loops_areTypes.l0 : Nat → List (S39) → List (S39) → Int → Int → Option (Bool)
 | 0, _, _, _, _ => none
 | k + 1, x0, x10, x11, x12 => if x12 < x11 then (if 0 ≤ x12 then (if x12 < (x10.length : Int) then ((loops_hasParts.f ((rd_T39 x10 x12).f0) ((rd_T39 x10 x12).f1) ((rd_T39 x10 x12).f2)).bind fun t112 => (if t112 = true then (loops_areTypes.j1 k x0 (wrap64 ((x0.length : Int) - 1)) x10 x11 x12 ((rd_T39 x10 x12).f0) ((rd_T39 x10 x12).f1) ((rd_T39 x10 x12).f2)) else (loops_areTypes.j1 k x0 0 x10 x11 x12 ((rd_T39 x10 x12).f0) ((rd_T39 x10 x12).f1) ((rd_T39 x10 x12).f2)))) else (none)) else (none)) else (some true)
def loops_areTypes.j1 : Nat → List (S39) → Int → List (S39) → Int → Int → Int → Int → Int → Option (Bool)
 | 0, _, _, _, _, _, _, _, _ => none
 | k + 1, x0, x5, x10, x11, x12, x112000, x112001, x112002 => (loops_within.f x112000 0 5).bind fun t113 => (if t113 = true then ((loops_within.f x112001 0 x5).bind fun t114 => (if t114 = true then ((loops_within.f x112002 0 x5).bind fun t115 => (if t115 = true then (loops_areTypes.l0 k x0 x10 x11 (wrap64 (x12 + 1))) else (some false))) else (some false))) else (some false))
end
def loops_areTypes.f (k : Nat) (l0 : List (S39)) : Option (Bool) := (loops_within.f (l0.length : Int) 1 24).bind fun t109 => (if t109 = true then (loops_areTypes.l0 k l0 l0 (l0.length : Int) 0) else (some false))
theorem loops_areTypes.mono_l : ∀ k, (∀ y0 y1 y2 y3, LeO (loops_areTypes.l0 k y0 y1 y2 y3) (loops_areTypes.l0 (k + 1) y0 y1 y2 y3)) ∧ (∀ y0 y1 y2 y3 y4 y5 y6 y7, LeO (loops_areTypes.j1 k y0 y1 y2 y3 y4 y5 y6 y7) (loops_areTypes.j1 (k + 1) y0 y1 y2 y3 y4 y5 y6 y7))
 | 0 => ⟨fun _ _ _ _ r h => by simp [loops_areTypes.l0] at h, fun _ _ _ _ _ _ _ _ r h => by simp [loops_areTypes.j1] at h⟩
 | k + 1 => by
  obtain ⟨ih0, ih1⟩ := loops_areTypes.mono_l k
  refine ⟨?_, ?_⟩
  ·intro y0 y1 y2 y3
   unfold loops_areTypes.l0
   repeat' first
   | (with_reducible exact ih0 _ _ _ _)
   | (with_reducible exact ih1 _ _ _ _ _ _ _ _)
   | (with_reducible exact LeO.refl _)
   | (with_reducible exact LeO.none _)
   | (with_reducible refine LeO.ite ?_ ?_)
   | (with_reducible refine LeO.bind ?_ (fun _ => ?_))
   | exact ih0 _ _ _ _
   | exact ih1 _ _ _ _ _ _ _ _
   | exact LeO.none _
   | refine LeO.ite ?_ ?_
   | refine LeO.bind ?_ (fun _ => ?_)
  ·intro y0 y1 y2 y3 y4 y5 y6 y7
   unfold loops_areTypes.j1
   repeat' first
   | (with_reducible exact ih0 _ _ _ _)
   | (with_reducible exact ih1 _ _ _ _ _ _ _ _)
   | (with_reducible exact LeO.refl _)
   | (with_reducible exact LeO.none _)
   | (with_reducible refine LeO.ite ?_ ?_)
   | (with_reducible refine LeO.bind ?_ (fun _ => ?_))
   | exact ih0 _ _ _ _
   | exact ih1 _ _ _ _ _ _ _ _
   | exact LeO.none _
   | refine LeO.ite ?_ ?_
   | refine LeO.bind ?_ (fun _ => ?_)
theorem loops_areTypes.mono : ∀ a0 k, LeO (loops_areTypes.f k a0) (loops_areTypes.f (k + 1) a0) := by
 intro a0 k
 obtain ⟨ih0, ih1⟩ := loops_areTypes.mono_l k
 unfold loops_areTypes.f
 repeat' first
   | (with_reducible exact ih0 _ _ _ _)
   | (with_reducible exact ih1 _ _ _ _ _ _ _ _)
   | (with_reducible exact LeO.refl _)
   | (with_reducible exact LeO.none _)
   | (with_reducible refine LeO.ite ?_ ?_)
   | (with_reducible refine LeO.bind ?_ (fun _ => ?_))
   | exact ih0 _ _ _ _
   | exact ih1 _ _ _ _ _ _ _ _
   | exact LeO.none _
   | refine LeO.ite ?_ ?_
   | refine LeO.bind ?_ (fun _ => ?_)
set_option maxHeartbeats 8000000 in
set_option maxRecDepth 100000 in
theorem loops_areTypes.calls (k : Nat) (A0 : Option Addr) (c0 : Nat) (l0 : List (S39)) (r : Bool) (w : World) (hr0 : Kd.C k39 w A0 l0.length l0) (hc0 : l0.length ≤ c0) (h : loops_areTypes.f k l0 = some r) :
  Calls Try.prog 47 #[.slice A0 l0.length c0] w fun e w' => e = .returned (.bool r) ∧ Below w.heap.size w w' := by
 have hu39 := Try.underlying39
 have HR0 := Aside0.mk hr0
 have HC0 := Aside0.mk hc0
 clear hr0 hc0
 have HB := Aside0.mk (Below.refl w.heap.size w)
 have H : ((loops_within.f (l0.length : Int) 1 24).bind fun t109 => (if t109 = true then (loops_areTypes.l0 k l0 l0 (l0.length : Int) 0) else (some false))) = some r := h
 clear h
 replace H := Option.bind_eq_some_iff.mp H
 obtain ⟨t109, A20, H⟩ := H
 replace H : (if t109 = true then (loops_areTypes.l0 k l0 l0 (l0.length : Int) 0) else (some false)) = some r := H
 have A2 := Aside0.mk A20
 clear A20
 by_cases c3 : t109 = true
 rotate_left
 ·replace c3 := Bool.eq_false_iff.mpr c3
  subst c3
  have H1 : (some false) = some r := by rw [if_neg (show ¬ (false = true) by decide)] at H; exact H
  clear H
  have H := H1
  clear H1
  obtain rfl := Option.some.inj H
  go_enter Try.func47, Try.ntmps47
  go_wp2_with (first | ((with_reducible refine gate_callee (f := 61) rfl ?_); refine goesL_ (some 8) rfl rfl Try.func61 (by kernel_rfl) rfl #[.int .i64 (l0.length : Int), .int .i64 1, .int .i64 24] rfl (by (try simp only [List.map_toArray, List.map_cons, List.map_nil]); first | done | rfl | (simp only [List.length_drop, List.length_take]; rfl)) ?_; (with_reducible refine (loops_within.calls (l0.length : Int) 1 24 false _ A2.out).mono ?_); rintro e w' ⟨rfl, ⟨nd, rfl⟩⟩; refine ⟨_, rfl, ?_⟩))
  go_ret
  exact ⟨by first | rfl | (simp [errW_none, errW_some] <;> rfl) | (simp [*, errW_none, errW_some] <;> rfl), by repeat (first | (with_reducible first | exact HB.out | apply below_alloc | apply pw_below_drewN | apply below_drew1) | exact HB.out)⟩
 subst c3
 have H1 : (loops_areTypes.l0 k l0 l0 (l0.length : Int) 0) = some r := by rw [if_pos rfl] at H; exact H
 clear H
 have H := H1
 clear H1
 have H' := Aside0.mk H
 clear H
 go_enter Try.func47, Try.ntmps47
 go_wp2_with (first | ((with_reducible refine gate_callee (f := 61) rfl ?_); refine goesL_ (some 8) rfl rfl Try.func61 (by kernel_rfl) rfl #[.int .i64 (l0.length : Int), .int .i64 1, .int .i64 24] rfl (by (try simp only [List.map_toArray, List.map_cons, List.map_nil]); first | done | rfl | (simp only [List.length_drop, List.length_take]; rfl)) ?_; (with_reducible refine (loops_within.calls (l0.length : Int) 1 24 true _ A2.out).mono ?_); rintro e w' ⟨rfl, ⟨nd, rfl⟩⟩; refine ⟨_, rfl, ?_⟩))
 go_loopg [12] k (fun kq v12 w' => ∃ (x12_1 : Int), v12 = .int .i64 x12_1 ∧ Aside0 (loops_areTypes.l0 kq l0 l0 (l0.length : Int) x12_1 = some r) ∧ Aside0 (kq ≤ k) ∧ Aside0 (Below w.heap.size w w'))
 case atStart => exact ⟨(0), (by first | rfl | (simp; done) | (simp [*]; done)), H', ⟨Nat.le_refl _⟩, ⟨by repeat (first | (with_reducible first | exact HB.out | apply below_alloc | apply pw_below_drewN | apply below_drew1) | exact HB.out)⟩⟩
 clear H'
 try clear p2
 try clear c3
 obtain ⟨x12_1, rfl, HA, HK1, HB⟩ := hrel
 cases gk with
 | zero => exact absurd HA.out (by simp [loops_areTypes.l0])
 | succ k1 =>
  have H := HA.out
  clear HA
  simp only [loops_areTypes.l0] at H
  by_cases c4 : x12_1 < (l0.length : Int)
  rotate_left
  ·rw [if_neg c4] at H
   have c4b0 : decide (x12_1 < (l0.length : Int)) = false := decide_eq_false c4
   clear c4
   obtain rfl := Option.some.inj H
   go_wp2
   go_ret
   exact ⟨by first | rfl | (simp [errW_none, errW_some] <;> rfl) | (simp [*, errW_none, errW_some] <;> rfl), by repeat (first | (with_reducible first | exact HB.out | apply below_alloc | apply pw_below_drewN | apply below_drew1) | exact HB.out)⟩
  rw [if_pos c4] at H
  have c4b0 : decide (x12_1 < (l0.length : Int)) = true := decide_eq_true c4
  clear c4
  by_cases c5 : 0 ≤ x12_1
  rotate_left
  ·rw [if_neg c5] at H
   exact absurd H (by simp)
  rw [if_pos c5] at H
  have c5b0 : decide (0 ≤ x12_1) = true := decide_eq_true c5
  clear c5
  by_cases c6 : x12_1 < (l0.length : Int)
  rotate_left
  ·rw [if_neg c6] at H
   exact absurd H (by simp)
  rw [if_pos c6] at H
  have c6b0 : decide (x12_1 < (l0.length : Int)) = true := decide_eq_true c6
  clear c6
  replace H := Option.bind_eq_some_iff.mp H
  obtain ⟨t112, A70, H⟩ := H
  replace H : (if t112 = true then (loops_areTypes.j1 k1 l0 (wrap64 ((l0.length : Int) - 1)) l0 (l0.length : Int) x12_1 ((rd_T39 l0 x12_1).f0) ((rd_T39 l0 x12_1).f1) ((rd_T39 l0 x12_1).f2)) else (loops_areTypes.j1 k1 l0 0 l0 (l0.length : Int) x12_1 ((rd_T39 l0 x12_1).f0) ((rd_T39 l0 x12_1).f1) ((rd_T39 l0 x12_1).f2))) = some r := H
  have A7 := Aside0.mk A70
  clear A70
  have HC8 := Aside0.mk H
  clear H
  have p110 : 0 ≤ (x12_1 : Int) := of_decide_eq_true (by first | (with_reducible assumption) | assumption)
  have q110 : x12_1 < (l0.length : Int) := of_decide_eq_true (by first | (with_reducible assumption) | assumption)
  obtain ⟨ad110, e110, hx110_0, hx110_1, hx110_2⟩ := at_T39 HR0.out x12_1 p110 q110
  cases e110
  replace hx110_0 := (HB.out.cell (World.block_lt_of_cell? w _ hx110_0)).trans hx110_0
  replace hx110_1 := (HB.out.cell (World.block_lt_of_cell? w _ hx110_1)).trans hx110_1
  replace hx110_2 := (HB.out.cell (World.block_lt_of_cell? w _ hx110_2)).trans hx110_2
  replace p110 := eq_true p110
  replace q110 := eq_true q110
  go_upto_if 17 with (first | ((with_reducible refine gate_dst (N := 4) rfl ?_); refine box_event ?hg (N := 4) ?hd (cs := #[.int .i64 0, .int .i64 0, .int .i64 0]) (t := 39) ?hr ?_; (case hd => rfl); (case hg => rfl); (case hr => first | (go_simp; done) | (go_simp; rfl)); intro gb111 hg w9 hbox hb; have n0_ := Aside0.mk (below_step (by repeat (first | (with_reducible first | exact HB.out | apply below_alloc | apply pw_below_drewN | apply below_drew1) | exact HB.out)) hb); have n1_ := Aside0.mk (hbox); have n2_ := Aside0.mk ((by rw [hg]; exact (below_size (by repeat (first | (with_reducible first | exact HB.out | apply below_alloc | apply pw_below_drewN | apply below_drew1) | exact HB.out))) : w.heap.size ≤ gb111)); have n3_ := Aside0.mk ((by rw [hg]; exact (below_size (by repeat (first | (with_reducible first | exact HB.out | apply below_alloc | apply pw_below_drewN | apply below_drew1) | exact HB.out))) : w.heap.size ≤ gb111)); clear HB; have HB := n0_; have BK111 := n1_; have GW111 := n2_; have GE111 := n3_; clear n0_ n1_ n2_ n3_; clear hb hbox hg; have hcz10_0 : w9.cell? ⟨gb111, 0, none⟩ = some (.int .i64 0) := (blk_cell BK111.out 0).trans rfl; have hcz10_1 : w9.cell? ⟨gb111, 1, none⟩ = some (.int .i64 0) := (blk_cell BK111.out 1).trans rfl; have hcz10_2 : w9.cell? ⟨gb111, 2, none⟩ = some (.int .i64 0) := (blk_cell BK111.out 2).trans rfl; have hfz10_0 := blk_frozen BK111.out 0; have hfz10_1 := blk_frozen BK111.out 1; have hfz10_2 := blk_frozen BK111.out 2) | ((with_reducible refine gate_callee (f := 45) rfl ?_); refine goesL_ (some 17) rfl rfl Try.func45 (by kernel_rfl) rfl #[.agg #[.int .i64 ((rd_T39 l0 x12_1).f0), .int .i64 ((rd_T39 l0 x12_1).f1), .int .i64 ((rd_T39 l0 x12_1).f2)]] rfl (by (try simp only [List.map_toArray, List.map_cons, List.map_nil]); first | done | rfl | (simp only [List.length_drop, List.length_take]; rfl)) ?_; (with_reducible refine (loops_hasParts.calls ((rd_T39 l0 x12_1).f0) ((rd_T39 l0 x12_1).f1) ((rd_T39 l0 x12_1).f2) t112 _ A7.out).mono ?_); rintro e w11 ⟨rfl, hb⟩; refine ⟨_, rfl, ?_⟩; have n0_ := Aside0.mk (blk_below (g := gb111) (o := .cells #[.int .i64 ((rd_T39 l0 x12_1).f0), .int .i64 ((rd_T39 l0 x12_1).f1), .int .i64 ((rd_T39 l0 x12_1).f2)] 39 (0, 0)) (by (with_reducible repeat (first | refine blk_drewN ?_ _ | refine blk_drew ?_ | refine blk_alloc ?_ _)); refine blk_put (cs := #[.int .i64 ((rd_T39 l0 x12_1).f0), .int .i64 ((rd_T39 l0 x12_1).f1), .int .i64 0]) ?_ 2 _ rfl; (with_reducible repeat (first | refine blk_drewN ?_ _ | refine blk_drew ?_ | refine blk_alloc ?_ _)); refine blk_put (cs := #[.int .i64 ((rd_T39 l0 x12_1).f0), .int .i64 0, .int .i64 0]) ?_ 1 _ rfl; (with_reducible repeat (first | refine blk_drewN ?_ _ | refine blk_drew ?_ | refine blk_alloc ?_ _)); refine blk_put (cs := #[.int .i64 0, .int .i64 0, .int .i64 0]) ?_ 0 _ rfl; (with_reducible repeat (first | refine blk_drewN ?_ _ | refine blk_drew ?_ | refine blk_alloc ?_ _)); exact BK111.out) hb); have n1_ := Aside0.mk (below_step (by repeat (first | (with_reducible first | exact HB.out | apply below_alloc | apply pw_below_drewN | apply below_drew1 | refine below_set ?_ GE111.out) | exact HB.out)) hb); clear BK111; clear HB; have BK111 := n0_; have HB := n1_; clear n0_ n1_; (try clear hb); (try clear hb2); (try clear hk); (try clear hi)))
  (try simp only [Act.put, List.setIfInBounds_toArray, List.set_cons_zero, List.set_cons_succ])
  go_cut [5] (fun v5 wc => ∃ (kq : Nat) (x5_7 : Int), v5 = .int .i64 x5_7 ∧ Aside0 (loops_areTypes.j1 kq l0 x5_7 l0 (l0.length : Int) x12_1 ((rd_T39 l0 x12_1).f0) ((rd_T39 l0 x12_1).f1) ((rd_T39 l0 x12_1).f2) = some r) ∧ Aside0 (kq ≤ k1) ∧ Aside0 (wc.heap[gb111]? = some (.cells #[.int .i64 ((rd_T39 l0 x12_1).f0), .int .i64 ((rd_T39 l0 x12_1).f1), .int .i64 ((rd_T39 l0 x12_1).f2)] 39 (0, 0))) ∧ Aside0 (Below w.heap.size w wc))
  case first =>
   have H := HC8.out
   clear HC8
   by_cases c12 : t112 = true
   ·subst c12
    have H1 : (loops_areTypes.j1 k1 l0 (wrap64 ((l0.length : Int) - 1)) l0 (l0.length : Int) x12_1 ((rd_T39 l0 x12_1).f0) ((rd_T39 l0 x12_1).f1) ((rd_T39 l0 x12_1).f2)) = some r := by rw [if_pos rfl] at H; exact H
    clear H
    have H := H1
    clear H1
    have H' := Aside0.mk H
    clear H
    go_wp2
    go_meet
    exact ⟨_, (wrap64 ((l0.length : Int) - 1)), (by first | rfl | (simp; done) | (simp [*]; done)), H', ⟨by have := HK1.out; first | omega | exact Nat.le_refl _⟩, ⟨by (with_reducible repeat (first | refine blk_drewN ?_ _ | refine blk_drew ?_ | refine blk_alloc ?_ _)); exact BK111.out⟩, ⟨by repeat (first | (with_reducible first | exact HB.out | apply below_alloc | apply pw_below_drewN | apply below_drew1 | refine below_set ?_ GE111.out) | exact HB.out)⟩⟩
   replace c12 := Bool.eq_false_iff.mpr c12
   subst c12
   have H1 : (loops_areTypes.j1 k1 l0 0 l0 (l0.length : Int) x12_1 ((rd_T39 l0 x12_1).f0) ((rd_T39 l0 x12_1).f1) ((rd_T39 l0 x12_1).f2)) = some r := by rw [if_neg (show ¬ (false = true) by decide)] at H; exact H
   clear H
   have H := H1
   clear H1
   have H' := Aside0.mk H
   clear H
   go_wp2
   go_meet
   exact ⟨_, (0), (by first | rfl | (simp; done) | (simp [*]; done)), H', ⟨by have := HK1.out; first | omega | exact Nat.le_refl _⟩, ⟨by (with_reducible repeat (first | refine blk_drewN ?_ _ | refine blk_drew ?_ | refine blk_alloc ?_ _)); exact BK111.out⟩, ⟨by repeat (first | (with_reducible first | exact HB.out | apply below_alloc | apply pw_below_drewN | apply below_drew1 | refine below_set ?_ GE111.out) | exact HB.out)⟩⟩
  case rest =>
   clear HC8
   try clear c1
   try clear p1
   try clear q1
   try clear hx1
   try clear p2
   try clear c3
   try clear c4
   try clear c4b0
   try clear c5
   try clear c5b0
   try clear c6
   try clear c6b0
   try clear p6
   try clear p11
   try clear q11
   try clear hx11
   try clear c12
   try clear hcz10_0
   try clear hcz10_1
   try clear hcz10_2
   try clear hfz10_0
   try clear hfz10_1
   try clear hfz10_2
   try clear hx110_0
   try clear hx110_1
   try clear hx110_2
   try clear p110
   try clear p2
   try clear q110
   obtain ⟨kq, x5_7, rfl, HA, HJ7, BK111, HB⟩ := hcut
   cases kq with
   | zero => exact absurd HA.out (by simp [loops_areTypes.j1])
   | succ kj7 =>
    have H := HA.out
    clear HA
    simp only [loops_areTypes.j1] at H
    replace H := Option.bind_eq_some_iff.mp H
    obtain ⟨t113, A130, H⟩ := H
    replace H : (if t113 = true then ((loops_within.f ((rd_T39 l0 x12_1).f1) 0 x5_7).bind fun t114 => (if t114 = true then ((loops_within.f ((rd_T39 l0 x12_1).f2) 0 x5_7).bind fun t115 => (if t115 = true then (loops_areTypes.l0 kj7 l0 l0 (l0.length : Int) (wrap64 (x12_1 + 1))) else (some false))) else (some false))) else (some false)) = some r := H
    have A13 := Aside0.mk A130
    clear A130
    by_cases c14 : t113 = true
    rotate_left
    ·replace c14 := Bool.eq_false_iff.mpr c14
     subst c14
     have H1 : (some false) = some r := by rw [if_neg (show ¬ (false = true) by decide)] at H; exact H
     clear H
     have H := H1
     clear H1
     obtain rfl := Option.some.inj H
     have hcz22_0 : wc.cell? ⟨gb111, 0, none⟩ = some (.int .i64 ((rd_T39 l0 x12_1).f0)) := (blk_cell BK111.out 0).trans rfl
     have hcz22_1 : wc.cell? ⟨gb111, 1, none⟩ = some (.int .i64 ((rd_T39 l0 x12_1).f1)) := (blk_cell BK111.out 1).trans rfl
     have hcz22_2 : wc.cell? ⟨gb111, 2, none⟩ = some (.int .i64 ((rd_T39 l0 x12_1).f2)) := (blk_cell BK111.out 2).trans rfl
     have hfz22_0 := blk_frozen BK111.out 0
     have hfz22_1 := blk_frozen BK111.out 1
     have hfz22_2 := blk_frozen BK111.out 2
     go_wp2_with (first | ((with_reducible refine gate_callee (f := 61) rfl ?_); refine goesL_ (some 23) rfl rfl Try.func61 (by kernel_rfl) rfl #[.int .i64 ((rd_T39 l0 x12_1).f0), .int .i64 0, .int .i64 5] rfl (by (try simp only [List.map_toArray, List.map_cons, List.map_nil]); first | done | rfl | (simp only [List.length_drop, List.length_take]; rfl)) ?_; (with_reducible refine (loops_within.calls ((rd_T39 l0 x12_1).f0) 0 5 false _ A13.out).mono ?_); rintro e w' ⟨rfl, ⟨nd, rfl⟩⟩; refine ⟨_, rfl, ?_⟩))
     go_ret
     exact ⟨by first | rfl | (simp [errW_none, errW_some] <;> rfl) | (simp [*, errW_none, errW_some] <;> rfl), by repeat (first | (with_reducible first | exact HB.out | apply below_alloc | apply pw_below_drewN | apply below_drew1 | refine below_set ?_ GE111.out) | exact HB.out)⟩
    subst c14
    have H1 : ((loops_within.f ((rd_T39 l0 x12_1).f1) 0 x5_7).bind fun t114 => (if t114 = true then ((loops_within.f ((rd_T39 l0 x12_1).f2) 0 x5_7).bind fun t115 => (if t115 = true then (loops_areTypes.l0 kj7 l0 l0 (l0.length : Int) (wrap64 (x12_1 + 1))) else (some false))) else (some false))) = some r := by rw [if_pos rfl] at H; exact H
    clear H
    have H := H1
    clear H1
    replace H := Option.bind_eq_some_iff.mp H
    obtain ⟨t114, A150, H⟩ := H
    replace H : (if t114 = true then ((loops_within.f ((rd_T39 l0 x12_1).f2) 0 x5_7).bind fun t115 => (if t115 = true then (loops_areTypes.l0 kj7 l0 l0 (l0.length : Int) (wrap64 (x12_1 + 1))) else (some false))) else (some false)) = some r := H
    have A15 := Aside0.mk A150
    clear A150
    by_cases c16 : t114 = true
    rotate_left
    ·replace c16 := Bool.eq_false_iff.mpr c16
     subst c16
     have H1 : (some false) = some r := by rw [if_neg (show ¬ (false = true) by decide)] at H; exact H
     clear H
     have H := H1
     clear H1
     obtain rfl := Option.some.inj H
     have hcz21_0 : wc.cell? ⟨gb111, 0, none⟩ = some (.int .i64 ((rd_T39 l0 x12_1).f0)) := (blk_cell BK111.out 0).trans rfl
     have hcz21_1 : wc.cell? ⟨gb111, 1, none⟩ = some (.int .i64 ((rd_T39 l0 x12_1).f1)) := (blk_cell BK111.out 1).trans rfl
     have hcz21_2 : wc.cell? ⟨gb111, 2, none⟩ = some (.int .i64 ((rd_T39 l0 x12_1).f2)) := (blk_cell BK111.out 2).trans rfl
     have hfz21_0 := blk_frozen BK111.out 0
     have hfz21_1 := blk_frozen BK111.out 1
     have hfz21_2 := blk_frozen BK111.out 2
     go_wp2_with (first | ((with_reducible refine gate_callee (f := 61) rfl ?_); refine goesL_ (some 23) rfl rfl Try.func61 (by kernel_rfl) rfl #[.int .i64 ((rd_T39 l0 x12_1).f0), .int .i64 0, .int .i64 5] rfl (by (try simp only [List.map_toArray, List.map_cons, List.map_nil]); first | done | rfl | (simp only [List.length_drop, List.length_take]; rfl)) ?_; (with_reducible refine (loops_within.calls ((rd_T39 l0 x12_1).f0) 0 5 true _ A13.out).mono ?_); rintro e w' ⟨rfl, ⟨nd, rfl⟩⟩; refine ⟨_, rfl, ?_⟩) | (go_at_call 61; (with_reducible refine (loops_within.calls ((rd_T39 l0 x12_1).f1) 0 x5_7 false _ A15.out).mono ?_); rintro e w' ⟨rfl, ⟨nd, rfl⟩⟩))
     go_ret
     exact ⟨by first | rfl | (simp [errW_none, errW_some] <;> rfl) | (simp [*, errW_none, errW_some] <;> rfl), by repeat (first | (with_reducible first | exact HB.out | apply below_alloc | apply pw_below_drewN | apply below_drew1 | refine below_set ?_ GE111.out) | exact HB.out)⟩
    subst c16
    have H1 : ((loops_within.f ((rd_T39 l0 x12_1).f2) 0 x5_7).bind fun t115 => (if t115 = true then (loops_areTypes.l0 kj7 l0 l0 (l0.length : Int) (wrap64 (x12_1 + 1))) else (some false))) = some r := by rw [if_pos rfl] at H; exact H
    clear H
    have H := H1
    clear H1
    replace H := Option.bind_eq_some_iff.mp H
    obtain ⟨t115, A170, H⟩ := H
    replace H : (if t115 = true then (loops_areTypes.l0 kj7 l0 l0 (l0.length : Int) (wrap64 (x12_1 + 1))) else (some false)) = some r := H
    have A17 := Aside0.mk A170
    clear A170
    by_cases c18 : t115 = true
    rotate_left
    ·replace c18 := Bool.eq_false_iff.mpr c18
     subst c18
     have H1 : (some false) = some r := by rw [if_neg (show ¬ (false = true) by decide)] at H; exact H
     clear H
     have H := H1
     clear H1
     obtain rfl := Option.some.inj H
     have hcz20_0 : wc.cell? ⟨gb111, 0, none⟩ = some (.int .i64 ((rd_T39 l0 x12_1).f0)) := (blk_cell BK111.out 0).trans rfl
     have hcz20_1 : wc.cell? ⟨gb111, 1, none⟩ = some (.int .i64 ((rd_T39 l0 x12_1).f1)) := (blk_cell BK111.out 1).trans rfl
     have hcz20_2 : wc.cell? ⟨gb111, 2, none⟩ = some (.int .i64 ((rd_T39 l0 x12_1).f2)) := (blk_cell BK111.out 2).trans rfl
     have hfz20_0 := blk_frozen BK111.out 0
     have hfz20_1 := blk_frozen BK111.out 1
     have hfz20_2 := blk_frozen BK111.out 2
     go_wp2_with (first | ((with_reducible refine gate_callee (f := 61) rfl ?_); refine goesL_ (some 23) rfl rfl Try.func61 (by kernel_rfl) rfl #[.int .i64 ((rd_T39 l0 x12_1).f0), .int .i64 0, .int .i64 5] rfl (by (try simp only [List.map_toArray, List.map_cons, List.map_nil]); first | done | rfl | (simp only [List.length_drop, List.length_take]; rfl)) ?_; (with_reducible refine (loops_within.calls ((rd_T39 l0 x12_1).f0) 0 5 true _ A13.out).mono ?_); rintro e w' ⟨rfl, ⟨nd, rfl⟩⟩; refine ⟨_, rfl, ?_⟩) | (go_at_call 61; (with_reducible refine (loops_within.calls ((rd_T39 l0 x12_1).f1) 0 x5_7 true _ A15.out).mono ?_); rintro e w' ⟨rfl, ⟨nd, rfl⟩⟩) | (go_at_call 61; (with_reducible refine (loops_within.calls ((rd_T39 l0 x12_1).f2) 0 x5_7 false _ A17.out).mono ?_); rintro e w' ⟨rfl, ⟨nd, rfl⟩⟩))
     go_ret
     exact ⟨by first | rfl | (simp [errW_none, errW_some] <;> rfl) | (simp [*, errW_none, errW_some] <;> rfl), by repeat (first | (with_reducible first | exact HB.out | apply below_alloc | apply pw_below_drewN | apply below_drew1 | refine below_set ?_ GE111.out) | exact HB.out)⟩
    subst c18
    have H1 : (loops_areTypes.l0 kj7 l0 l0 (l0.length : Int) (wrap64 (x12_1 + 1))) = some r := by rw [if_pos rfl] at H; exact H
    clear H
    have H := H1
    clear H1
    have H' := Aside0.mk H
    clear H
    have hcz19_0 : wc.cell? ⟨gb111, 0, none⟩ = some (.int .i64 ((rd_T39 l0 x12_1).f0)) := (blk_cell BK111.out 0).trans rfl
    have hcz19_1 : wc.cell? ⟨gb111, 1, none⟩ = some (.int .i64 ((rd_T39 l0 x12_1).f1)) := (blk_cell BK111.out 1).trans rfl
    have hcz19_2 : wc.cell? ⟨gb111, 2, none⟩ = some (.int .i64 ((rd_T39 l0 x12_1).f2)) := (blk_cell BK111.out 2).trans rfl
    have hfz19_0 := blk_frozen BK111.out 0
    have hfz19_1 := blk_frozen BK111.out 1
    have hfz19_2 := blk_frozen BK111.out 2
    go_wp2_with (first | ((with_reducible refine gate_callee (f := 61) rfl ?_); refine goesL_ (some 23) rfl rfl Try.func61 (by kernel_rfl) rfl #[.int .i64 ((rd_T39 l0 x12_1).f0), .int .i64 0, .int .i64 5] rfl (by (try simp only [List.map_toArray, List.map_cons, List.map_nil]); first | done | rfl | (simp only [List.length_drop, List.length_take]; rfl)) ?_; (with_reducible refine (loops_within.calls ((rd_T39 l0 x12_1).f0) 0 5 true _ A13.out).mono ?_); rintro e w' ⟨rfl, ⟨nd, rfl⟩⟩; refine ⟨_, rfl, ?_⟩) | (go_at_call 61; (with_reducible refine (loops_within.calls ((rd_T39 l0 x12_1).f1) 0 x5_7 true _ A15.out).mono ?_); rintro e w' ⟨rfl, ⟨nd, rfl⟩⟩) | (go_at_call 61; (with_reducible refine (loops_within.calls ((rd_T39 l0 x12_1).f2) 0 x5_7 true _ A17.out).mono ?_); rintro e w' ⟨rfl, ⟨nd, rfl⟩⟩))
    go_roundg kj7
    case measure => have := HK1.out; have := HJ7.out; omega
    exact ⟨(wrap64 (x12_1 + 1)), (by first | rfl | (simp; done) | (simp [*]; done)), H', ⟨by have := HK1.out; have := HJ7.out; omega⟩, ⟨by repeat (first | (with_reducible first | exact HB.out | apply below_alloc | apply pw_below_drewN | apply below_drew1 | refine below_set ?_ GE111.out) | exact HB.out)⟩⟩

def badNode (n : Nat) (i : Int) : Bool := !decide (0 ≤ i ∧ i ≤ (n : Int) - 1)
theorem within_yes {a lo hi : Int} (h : lo ≤ a ∧ a ≤ hi) : loops_within.f a lo hi = some true := by
 unfold loops_within.f
 rw [if_pos h.1, decide_eq_true h.2]
theorem within_no {a lo hi : Int} (h : ¬ (lo ≤ a ∧ a ≤ hi)) : loops_within.f a lo hi = some false := by
 unfold loops_within.f
 by_cases c : a ≥ lo
 rotate_left
 ·rw [if_neg c]
 rw [if_pos c, decide_eq_false (fun h' => h ⟨c, h'⟩)]
theorem within_b (i : Int) (n : Nat) : loops_within.f i 0 ((n : Int) - 1) = some (!badNode n i) := by
 unfold badNode
 by_cases h : 0 ≤ i ∧ i ≤ (n : Int) - 1
 ·rw [within_yes h, decide_eq_true h]; rfl
 rw [within_no h, decide_eq_false h]; rfl
def loops_areNodes.f (k : Nat) (l0 : List S39) (l1 : List Int) : Option Bool := (loops_areTypes.f k l0).bind fun t => if t = true then some (!(l1.any (badNode l0.length))) else some false
theorem loops_areNodes.mono : ∀ a0 a1 k, LeO (loops_areNodes.f k a0 a1) (loops_areNodes.f (k + 1) a0 a1) := by
 intro a0 a1 k
 unfold loops_areNodes.f
 exact LeO.bind (loops_areTypes.mono _ _) (fun _ => LeO.refl _)
set_option maxHeartbeats 800000 in
theorem nodes_fn.calls (n : Nat) (A : Option Addr) (c pa : Nat) (i : Int) (w : World) (ha : w.cell? ⟨pa, 0, none⟩ = some (.slice A n c)) (hn : (n : Int) ≤ 9223372036854775807) :
  Calls Try.prog 60 #[.int .i64 i, .pointer (some ⟨pa, 0, none⟩)] w fun e w' => e = .returned (.bool (badNode n i)) ∧ Drawn0 w w' := by
 have hw : IntKind.i64.wrap ((n : Int) - 1) = (n : Int) - 1 := IntWalk.i64_in _ (by omega)
 have HV := Aside0.mk (fun (W : World) => loops_within.calls i 0 ((n : Int) - 1) (!badNode n i) W (within_b i n))
 have HN := Aside0.mk hn
 cases hb : badNode n i with
 | true =>
  rw [hb] at HV
  clear hb
  go_enter Try.func60, Try.ntmps60
  go_wp2_with (go_at_call 61; go_must ((with_reducible refine (HV.out _).mono ?_); rintro e w1 ⟨rfl, ⟨nd, rfl⟩⟩))
  go_ret
  exact ⟨rfl, by repeat (first | exact Drawn0.refl _ | apply Drawn0.step)⟩
 | false =>
  rw [hb] at HV
  clear hb
  go_enter Try.func60, Try.ntmps60
  go_wp2_with (go_at_call 61; go_must ((with_reducible refine (HV.out _).mono ?_); rintro e w1 ⟨rfl, ⟨nd, rfl⟩⟩))
  go_ret
  exact ⟨rfl, by repeat (first | exact Drawn0.refl _ | apply Drawn0.step)⟩
set_option maxHeartbeats 800000 in
theorem nodes_index.calls (n : Nat) (A0 : Option Addr) (c0 pa : Nat) (hn : (n : Int) ≤ 9223372036854775807) (l : List Int) (A : Option Addr) (c1 : Nat) (w : World) (ha : w.cell? ⟨pa, 0, none⟩ = some (.slice A0 n c0)) (hr1 : Kd.C (Kd.int .i64) w A l.length l) :
  Calls Try.prog 68 #[.slice A l.length c1, .func (.func 60) #[] #[.pointer (some ⟨pa, 0, none⟩)]] w fun e w' => ∃ r : Int, e = .returned (.int .i64 r) ∧ Drawn0 w w' ∧ Aside0 ((0 ≤ r) = (l.any (badNode n) = true)) := by
 have hm : (l.length : Int) ≤ 9223372036854775807 := by have := hr1.2.1; omega
 have HR1 := Aside0.mk hr1
 have HA := Aside0.mk (fun i m => nodes_fn.calls n A0 c0 pa i (w.drewN m) ha hn)
 clear hr1 ha hn
 go_enter Try.func68, Try.ntmps68
 go_wp2
 go_loopw [8] (fun v8 wr => ∃ i : Int, v8 = .int .i64 i ∧ Aside0 (0 ≤ i ∧ i ≤ l.length) ∧ Aside0 ((l.take i.toNat).any (badNode n) = false) ∧ Drawn0 w wr) (fun v8 _ => l.length - (intOf v8).toNat)
 case atStart => exact ⟨0, rfl, ⟨by simp⟩, ⟨rfl⟩, by repeat (first | exact Drawn0.refl _ | apply Drawn0.step)⟩
 obtain ⟨i, rfl, HI, HN, ⟨nd, rfl⟩⟩ := hrel
 obtain ⟨p0, p1⟩ := HI.out
 by_cases c2 : i < (l.length : Int)
 rotate_left
 ·have c2b0 : decide (i < (l.length : Int)) = false := decide_eq_false c2
  have HF := Aside0.mk (show (0 ≤ (-1 : Int)) = (l.any (badNode n) = true) by
   have := HN.out
   rw [List.take_of_length_le (by omega)] at this
   rw [this]
   simp)
  clear c2
  go_wp2
  go_ret
  exact ⟨_, rfl, by repeat (first | exact Drawn0.refl _ | apply Drawn0.step), HF⟩
 have c2b0 : decide (i < (l.length : Int)) = true := decide_eq_true c2
 obtain ⟨ad, ea, hx⟩ := Kd.at_int HR1.out i p0 c2
 cases ea
 have hlt : i.toNat < l.length := by omega
 have hrd : rd l i = l[i.toNat] := by
  unfold rd
  rw [List.getD_eq_getElem?_getD, List.getElem?_eq_getElem hlt, Option.getD_some]
 have htk : l.take (i + 1).toNat = l.take i.toNat ++ [rd l i] := by
  rw [show (i + 1).toNat = i.toNat + 1 by omega, List.take_succ_eq_append_getElem hlt, hrd]
 have HC := Aside0.mk (fun m => HA.out (rd l i) m)
 have q0 := eq_true p0
 have q1 := eq_true c2
 cases c3 : badNode n (rd l i) with
 | true =>
  rw [c3] at HC
  have HF := Aside0.mk (show (0 ≤ i) = (l.any (badNode n) = true) from propext ⟨fun _ => List.any_eq_true.2 ⟨_, by rw [hrd]; exact List.getElem_mem hlt, c3⟩, fun _ => p0⟩)
  clear hrd htk c2 c3 hlt p1 p0
  go_wp2_with (go_at_call 60; go_must ((with_reducible refine (HC.out _).mono ?_); rintro e w2 ⟨rfl, ⟨nd2, rfl⟩⟩))
  go_ret
  exact ⟨_, rfl, by repeat (first | exact Drawn0.refl _ | apply Drawn0.step), HF⟩
 | false =>
  rw [c3] at HC
  have HN2 := Aside0.mk (show (l.take (i + 1).toNat).any (badNode n) = false by
   rw [htk, List.any_append, HN.out]
   simp [c3])
  clear hrd htk c2 c3 hlt p0
  have hi : wrap64 (i + 1) = i + 1 := by have := of_eq_true q1; have := HI.out; unfold wrap64; omega
  go_wp2_with (go_at_call 60; go_must ((with_reducible refine (HC.out _).mono ?_); rintro e w2 ⟨rfl, ⟨nd2, rfl⟩⟩))
  go_roundw
  case rel => exact ⟨i + 1, by go_num, ⟨by have := of_eq_true q1; have := HI.out; omega⟩, HN2, by repeat (first | exact Drawn0.refl _ | apply Drawn0.step)⟩
  have := of_eq_true q1; have := HI.out; simp [intOf, hi]; omega
set_option maxHeartbeats 800000 in
theorem nodes_contains.calls (n : Nat) (A : Option Addr) (c pa : Nat) (hn : (n : Int) ≤ 9223372036854775807) (A0 : Option Addr) (c0 : Nat) (l0 : List Int) (r : Bool) (w : World) (ha : w.cell? ⟨pa, 0, none⟩ = some (.slice A n c)) (hr0 : Kd.C (Kd.int .i64) w A0 l0.length l0) (h : l0.any (badNode n) = r) :
  Calls Try.prog 59 #[.slice A0 l0.length c0, .func (.func 60) #[] #[.pointer (some ⟨pa, 0, none⟩)]] w fun e w' => e = .returned (.bool r) ∧ Drawn0 w w' := by
 have HI := Aside0.mk (nodes_index.calls n A c pa hn l0 A0 c0 w ha hr0)
 have HB := Aside0.mk h
 clear h hr0 ha hn
 go_enter Try.func59, Try.ntmps59
 go_wp2_with (go_at_call 68; go_must ((with_reducible refine HI.out.mono ?_); rintro e w1 ⟨q, rfl, ⟨nd, rfl⟩, hq⟩; have hqr : decide (0 ≤ q) = r := (by rw [← HB.out]; cases hc : l0.any (badNode n) with | true => exact decide_eq_true (by rw [hq.out]; exact hc) | false => exact decide_eq_false (by rw [hq.out, hc]; decide)); clear hq))
 go_ret
 exact ⟨rfl, by repeat (first | exact Drawn0.refl _ | apply Drawn0.step)⟩
set_option maxHeartbeats 800000 in
theorem loops_areNodes.calls (k : Nat) (A0 : Option Addr) (c0 : Nat) (l0 : List S39) (A1 : Option Addr) (c1 : Nat) (l1 : List Int) (r : Bool) (w : World) (hr0 : Kd.C k39 w A0 l0.length l0) (hc0 : l0.length ≤ c0) (hr1 : Kd.C (Kd.int .i64) w A1 l1.length l1) (hc1 : l1.length ≤ c1) (h : loops_areNodes.f k l0 l1 = some r) :
  Calls Try.prog 40 #[.slice A0 l0.length c0, .slice A1 l1.length c1] w fun e w' => e = .returned (.bool r) ∧ Below w.heap.size w w' := by
 have hn : (l0.length : Int) ≤ 9223372036854775807 := by have := hr0.2.1; omega
 unfold loops_areNodes.f at h
 replace h := Option.bind_eq_some_iff.mp h
 obtain ⟨t, ht, h⟩ := h
 have HT := Aside0.mk (loops_areTypes.calls k A0 c0 l0 t (w.alloc (.cells #[.slice A0 l0.length c0] 22)) (Kd.C_alloc hr0 _) hc0 ht)
 have hmf : ∀ (fn : Fn) (first cap : Array Value) (w : World), (Instr.makeFunc fn first cap).run Try.prog w = .ok (.func fn first cap) w := fun _ _ _ _ => rfl
 have HBL := Aside0.mk (fun (w1 : World) (hB : Below (w.alloc (.cells #[.slice A0 l0.length c0] 22)).heap.size (w.alloc (.cells #[.slice A0 l0.length c0] 22)) w1) => (show Below w.heap.size w w1 from below_step (below_alloc (Below.refl _ _) _) hB))
 cases t with
 | false =>
  rw [if_neg (by decide)] at h
  obtain rfl := Option.some.inj h
  clear h ht hr0 hr1 hc0 hc1
  go_enter Try.func40, Try.ntmps40
  go_wp2_with (go_at_call 47; go_must ((with_reducible refine HT.out.mono ?_); rintro e w1 ⟨rfl, hB⟩; have HB1 := Aside0.mk (HBL.out _ hB); clear hB))
  go_ret
  exact ⟨rfl, HB1.out⟩
 | true =>
  rw [if_pos rfl] at h
  have HH := Aside0.mk (Option.some.inj h)
  have HC := Aside0.mk (fun (w1 : World) (hB : Below (w.alloc (.cells #[.slice A0 l0.length c0] 22)).heap.size (w.alloc (.cells #[.slice A0 l0.length c0] 22)) w1) => nodes_contains.calls l0.length A0 c0 w.heap.size hn A1 c1 l1 (!r) w1 ((hB.cell (by simp)).trans ((blk_cell (heap_alloc_new w _) 0).trans rfl)) (Kd.C_below (Kd.C_alloc hr1 _) hB) (by rw [← HH.out, Bool.not_not]))
  clear h ht hr0 hr1 hc0 hc1
  go_enter Try.func40, Try.ntmps40
  go_wp2_with (first | (go_at_call 47; go_must ((with_reducible refine HT.out.mono ?_); rintro e w1 ⟨rfl, hB⟩; have HB1 := Aside0.mk (HBL.out _ hB); have HB2 := Aside0.mk hB; clear hB)) | (go_at_call 59; go_must ((with_reducible refine (HC.out _ HB2.out).mono ?_); rintro e w2 ⟨rfl, ⟨nd, rfl⟩⟩)))
  go_ret
  exact ⟨by simp, pw_below_drewN HB1.out _⟩

def t39B (x : S39) : Bool := i64B x.f0 && (i64B x.f1 && i64B x.f2)
theorem t39B_all {t : List S39} (h : t.all t39B = true) : allI t := fun x hx => by
  have := List.all_eq_true.mp h x hx
  simp only [t39B, Bool.and_eq_true] at this
  exact ⟨i64B_I64 this.1, i64B_I64 this.2.1, i64B_I64 this.2.2⟩
def pathGo (t : List S39) (bad : Bad) : Nat → S23 → ByteArray → Option ByteArray
  | 0, _, _ => none
  | f + 1, p, path =>
    if letOf bad (l23 p) = 0 then some path else
    if (letOf bad (l23 p) = 97 ∨ letOf bad (l23 p) = 98) ∧ (0 ≤ p.f0 ∧ p.f0 < t.length) ∧ (0 ≤ p.f1 ∧ p.f1 < t.length) then
      match needGet ((needsF (rd_T39 t p.f0) (rd_T39 t p.f1)).getD none) (letOf bad (l23 p)) with
      | none => none
      | some q => pathGo t bad f (s23 q) (path ++ ⟨#[if letOf bad (l23 p) = 97 then 97 else 98]⟩)
    else none
def loops_Sub.f (k : Nat) (l0 : List S39) (a1 a2 : Int) : Option (Bool × List S23 × ByteArray × Int) :=
  (loops_areNodes.f k l0 [a1, a2]).bind fun ok =>
    if ok = true then
      (if l0.all t39B = true ∧ (0 ≤ a1 ∧ a1 < l0.length) ∧ (0 ≤ a2 ∧ a2 < l0.length) ∧ l0.length ≤ 100 then
        (refGo l0 1000 true []).bind fun bad =>
          if hasK bad [a1, a2] = true then (pathGo l0 bad 1000 ⟨a1, a2⟩ (⟨#[]⟩ : ByteArray)).bind fun p => some (false, [], p, 0)
          else (relGo l0 10000 0 [⟨a1, a2⟩]).bind fun r => some (true, r, (⟨#[]⟩ : ByteArray), 0)
       else none)
    else some (false, [], (⟨#[]⟩ : ByteArray), 2)
theorem loops_Sub.mono : ∀ a0 a1 a2 k, LeO (loops_Sub.f k a0 a1 a2) (loops_Sub.f (k + 1) a0 a1 a2) := by
  intro a0 a1 a2 k
  unfold loops_Sub.f
  exact LeO.bind (loops_areNodes.mono _ _ _) (fun _ => LeO.refl _)
theorem conv97 (W : World) : (convert 21 9 (.int .i32 97)).run Try.prog W = .ok (.string ⟨#[97]⟩) W := by kernel_rfl
theorem conv98 (W : World) : (convert 21 9 (.int .i32 98)).run Try.prog W = .ok (.string ⟨#[98]⟩) W := by kernel_rfl
theorem lit_row2 (W : World) (x y : Int) : Kd.R (Kd.int .i64) 3 (W.alloc (.cells #[.int .i64 x, .int .i64 y] 3)) W.heap.size (fun _ => True) (.slice (some ⟨W.heap.size, 0, none⟩) 2 2) [x, y] := by
  refine ⟨fun k hk => trivial, [.int .i64 x, .int .i64 y], ?_, ?_⟩
  · have h2 := World.ownsRow_lit (base := W.heap.size) (e := 3) (size := 1) W #[.int .i64 x, .int .i64 y] 2 (Nat.le_refl _) (by decide) (by simp)
    exact (by simpa using h2 : (W.alloc (.cells #[.int .i64 x, .int .i64 y] 3)).ownsRow W.heap.size 3 1 (.slice (some ⟨W.heap.size, 0, none⟩) 2 2) 2 [.int .i64 x, .int .i64 y])
  exact Reps.one (show Kd.M (Kd.int .i64) _ _ _ x [.int .i64 x] from rfl) (Reps.one (show Kd.M (Kd.int .i64) _ _ _ y [.int .i64 y] from rfl) (Reps.none _ _))
theorem set3 {W : World} {g t : Nat} {x y z : Value} (h : W.heap[g]? = some (.cells #[x, y, z] t (0, 0))) (a b c : Value) : (((W.setCell ⟨g, 0, none⟩ a).setCell ⟨g, 1, none⟩ b).setCell ⟨g, 2, none⟩ c).heap[g]? = some (.cells #[a, b, c] t (0, 0)) := by
  simpa using blk_set (blk_set (blk_set h 0 a) 1 b) 2 c
theorem set2 {W : World} {g t : Nat} {x y : Value} (h : W.heap[g]? = some (.cells #[x, y] t (0, 0))) (a b : Value) : ((W.setCell ⟨g, 0, none⟩ a).setCell ⟨g, 1, none⟩ b).heap[g]? = some (.cells #[a, b] t (0, 0)) := by
  simpa using blk_set (blk_set h 0 a) 1 b
theorem mapin_set {W : World} {b : Nat} {bs : Bad} (h : MapIn W b bs) {g t i : Nat} {c : Array Value} (hg : W.heap[g]? = some (.cells c t (0, 0))) (u : Value) : MapIn (W.setCell ⟨g, i, none⟩ u) b bs := by
  obtain ⟨m, h1, h2⟩ := h
  exact ⟨m, h1, h2.box hg u⟩
theorem info55s : (Try.prog.info? 55).map (·.size) = some 3 := by kernel_rfl
theorem pathGo_len (t : List S39) (bad : Bad) : ∀ (f : Nat) (p : S23) (path r : ByteArray), pathGo t bad f p path = some r → r.size ≤ path.size + f
  | 0, _, _, _, h => by cases h
  | f + 1, p, path, r, h => by
    unfold pathGo at h
    split at h
    · obtain rfl := Option.some.inj h
      omega
    · split at h
      · split at h
        · cases h
        · have := pathGo_len t bad f _ _ _ h
          simp [ByteArray.size_append] at this
          have e : (ByteArray.mk #[if letOf bad (l23 p) = 97 then 97 else 98]).size = 1 := rfl
          omega
      · cases h
theorem pathGo_ge (t : List S39) (bad : Bad) : ∀ (f : Nat) (p : S23) (path r : ByteArray), pathGo t bad f p path = some r → path.size ≤ r.size
  | 0, _, _, _, h => by cases h
  | f + 1, p, path, r, h => by
    unfold pathGo at h
    split at h
    · obtain rfl := Option.some.inj h
      omega
    · split at h
      · split at h
        · cases h
        · have := pathGo_ge t bad f _ _ _ h
          simp [ByteArray.size_append] at this
          omega
      · cases h
set_option maxHeartbeats 4000000 in
set_option maxRecDepth 100000 in
theorem loops_Sub.calls (k : Nat) (A0 : Option Addr) (c0 : Nat) (l0 : List S39) (a1 a2 : Int) (r1 : Bool) (r2 : List S23) (r3 : ByteArray) (r4 : Int) (w : World) (hr0 : Kd.C k39 w A0 l0.length l0) (hc0 : l0.length ≤ c0) (h : loops_Sub.f k l0 a1 a2 = some (r1, r2, r3, r4)) :
    Calls Try.prog 33 #[.slice A0 l0.length c0, .int .i64 a1, .int .i64 a2] w fun e w' => ∃ v1_ : Value, e = .returned (.tuple #[.agg #[.bool r1, v1_, .string r3], .int .i64 r4]) ∧ Kd.R k23 23 w' w.heap.size (fun _ => True) v1_ r2 ∧ Below w.heap.size w w' := by
  unfold loops_Sub.f at h
  replace h := Option.bind_eq_some_iff.mp h
  obtain ⟨ok, hok, h⟩ := h
  obtain ⟨W0, hW0⟩ : ∃ W0, W0 = (w.alloc (.cells #[.bool false, .slice none 0 0, .string ⟨#[]⟩] 55)).alloc (.cells #[.int .i64 a1, .int .i64 a2] 3) := ⟨_, rfl⟩
  have hBW : Below w.heap.size w W0 := by rw [hW0]; exact below_alloc (below_alloc (Below.refl _ _) _) _
  have hg6 : W0.heap[w.heap.size]? = some (.cells #[.bool false, .slice none 0 0, .string ⟨#[]⟩] 55 (0, 0)) := by rw [hW0]; exact blk_below (heap_alloc_new w _) (below_alloc (Below.refl _ _) _)
  have hcl : Kd.C (Kd.int .i64) W0 (some ⟨w.heap.size + 1, 0, none⟩) [a1, a2].length [a1, a2] := by
    have := (Kd.R_reads' (lit_row2 (w.alloc (.cells #[.bool false, .slice none 0 0, .string ⟨#[]⟩] 55)) a1 a2)).2.2
    rw [hW0]
    simpa using this
  have HN := Aside0.mk (show Calls Try.prog 40 #[.slice A0 l0.length c0, .slice (some ⟨w.heap.size + 1, 0, none⟩) 2 2] W0 (fun e w' => e = .returned (.bool ok) ∧ Below W0.heap.size W0 w') from loops_areNodes.calls k A0 c0 l0 (some ⟨w.heap.size + 1, 0, none⟩) 2 [a1, a2] ok W0 (Kd.C_below hr0 hBW) hc0 hcl (by simp) hok)
  have HBW := Aside0.mk hBW
  have HG6 := Aside0.mk hg6
  have HR0 := Aside0.mk hr0
  have HC0 := Aside0.mk hc0
  subst hW0
  clear hBW hg6 hcl hok hr0 hc0
  cases ok with
  | false =>
    rw [if_neg (by decide)] at h
    injection h with h
    injection h with e1 h
    injection h with e2 h
    injection h with e3 e4
    subst e1; subst e2; subst e3; subst e4
    go_enter Try.func33, Try.ntmps33
    go_wp2_with (go_at_call 40; go_must (
      (with_reducible refine HN.out.mono ?_); rintro e w1 ⟨rfl, hB1⟩;
      have HB1 := Aside0.mk hB1;
      have hg1 := blk_below HG6.out hB1;
      have hf0 := blk_frozen hg1 0;
      have hf1 := blk_frozen hg1 1;
      have hf2 := blk_frozen hg1 2;
      have hc0 : w1.cell? ⟨w.heap.size, 0, none⟩ = some (.bool false) := (blk_cell hg1 0).trans rfl;
      have hc1 : w1.cell? ⟨w.heap.size, 1, none⟩ = some (.slice none 0 0) := (blk_cell hg1 1).trans rfl;
      have hc2 : w1.cell? ⟨w.heap.size, 2, none⟩ = some (.string ⟨#[]⟩) := (blk_cell hg1 2).trans rfl;
      have HG1 := Aside0.mk hg1;
      clear hB1 hg1))
    refine bodyPost_ret (results_ct rfl _ _ w.heap.size 55 #[.bool false, .slice none 0 0, .string ⟨#[]⟩] (0, 0) _ rfl (set3 HG1.out _ _ _) Try.underlying55 rfl info55s) rfl ⟨_, rfl, Kd.R_nil _ _ _ _ _, ?_⟩
    exact ((((below_then HBW.out HBW.out.size HB1.out).setCell (Nat.le_refl _) _).setCell (Nat.le_refl _) _).setCell (Nat.le_refl _) _)
  | true =>
    rw [if_pos rfl] at h
    by_cases c1 : l0.all t39B = true ∧ (0 ≤ a1 ∧ a1 < l0.length) ∧ (0 ≤ a2 ∧ a2 < l0.length) ∧ l0.length ≤ 100
    case neg => rw [if_neg c1] at h; cases h
    rw [if_pos c1] at h
    obtain ⟨d1, d2, d3, d4⟩ := c1
    replace h := Option.bind_eq_some_iff.mp h
    obtain ⟨bad, hbad, h⟩ := h
    have HIA := Aside0.mk (show I64 a1 ∧ I64 a2 from ⟨⟨by omega, by omega⟩, ⟨by omega, by omega⟩⟩)
    have HRF := Aside0.mk (fun (W : World) (hB : Below w.heap.size w W) => refuse_fn.calls A0 c0 l0 (t39B_all d1) bad W (Kd.C_below HR0.out hB) hbad)
    obtain ⟨y, hy⟩ : ∃ y, y = letOf bad [a1, a2] := ⟨_, rfl⟩
    cases hk : hasK bad [a1, a2] with
    | false =>
      rw [if_neg (by rw [hk]; decide)] at h
      replace h := Option.bind_eq_some_iff.mp h
      obtain ⟨rr, hrr, h⟩ := h
      injection h with h
      injection h with e1 h
      injection h with e2 h
      injection h with e3 e4
      subst e1; subst e2; subst e3; subst e4
      have HRL := Aside0.mk (fun (W : World) (hB : Below w.heap.size w W) => (show Calls Try.prog 50 #[.slice A0 l0.length c0, .agg #[.int .i64 a1, .int .i64 a2]] W (fun e w' => ∃ v, e = .returned v ∧ Kd.R k23 23 w' W.heap.size (fun _ => True) v rr ∧ Below W.heap.size W w') from relation_fn.calls A0 c0 l0 (t39B_all d1) ⟨a1, a2⟩ rr W (Kd.C_below HR0.out hB) ⟨d2, d3⟩ hrr))
      have HY := Aside0.mk hy
      have HK := Aside0.mk hk
      clear d1 d2 d3 d4 hbad hk hrr hy
      go_enter Try.func33, Try.ntmps33
      go_wp2_with (first
        | (go_at_call 40; go_must (
            (with_reducible refine HN.out.mono ?_); rintro e w1 ⟨rfl, hB1⟩;
            have HB1 := Aside0.mk (below_then HBW.out HBW.out.size hB1);
            have HG1 := Aside0.mk (blk_below HG6.out hB1);
            clear hB1))
        | (go_at_call 48; go_must (
            (with_reducible refine (HRF.out _ HB1.out).mono ?_); rintro e w2 ⟨b, rfl, hM2, hB2⟩;
            have HB2 := Aside0.mk (below_alloc (below_then HB1.out HB1.out.size hB2) (.cells #[.int .i64 a1, .int .i64 a2] 23));
            have HG2 := Aside0.mk (blk_below (blk_below HG1.out hB2) (below_alloc (Below.refl _ _) (.cells #[.int .i64 a1, .int .i64 a2] 23)));
            have hlk := (hM2.below (below_alloc (Below.refl _ _) (.cells #[.int .i64 a1, .int .i64 a2] 23))).lookOk HIA.out.1 HIA.out.2;
            rw [HK.out, ← HY.out] at hlk;
            clear hM2 hB2))
        | (go_at_call 50; go_must (
            (with_reducible refine (HRL.out _ HB2.out).mono ?_); rintro e w4 ⟨v, rfl, hR4, hB4⟩;
            obtain ⟨A4, c4, e4⟩ := Kd.R_slice hR4; subst e4;
            have hg4 := blk_below HG2.out hB4;
            have hf0 := blk_frozen hg4 0;
            have hf1 := blk_frozen hg4 1;
            have hf2 := blk_frozen hg4 2;
            have hc0 : w4.cell? ⟨w.heap.size, 0, none⟩ = some (.bool false) := (blk_cell hg4 0).trans rfl;
            have hc1 : w4.cell? ⟨w.heap.size, 1, none⟩ = some (.slice none 0 0) := (blk_cell hg4 1).trans rfl;
            have hc2 : w4.cell? ⟨w.heap.size, 2, none⟩ = some (.string ⟨#[]⟩) := (blk_cell hg4 2).trans rfl;
            have HR4 := Aside0.mk (Kd.R_lower hR4 HB2.out.size);
            have HB4 := Aside0.mk (below_then HB2.out HB2.out.size hB4);
            have HG4 := Aside0.mk hg4;
            clear hR4 hB4 hg4)))
      refine bodyPost_ret (results_ct rfl _ _ w.heap.size 55 #[.bool true, .slice A4 rr.length c4, .string ⟨#[]⟩] (0, 0) _ rfl (set3 HG4.out _ _ _) Try.underlying55 rfl info55s) rfl ⟨_, rfl, ?_, ?_⟩
      · exact Kd.R_set (Kd.R_set (Kd.R_set HR4.out HG4.out (by decide) 0 _) (blk_set HG4.out 0 _) (by decide) 1 _) (blk_set (blk_set HG4.out 0 _) 1 _) (by decide) 2 _
      exact (((HB4.out.setCell (Nat.le_refl _) _).setCell (Nat.le_refl _) _).setCell (Nat.le_refl _) _)
    | true =>
      rw [if_pos hk] at h
      replace h := Option.bind_eq_some_iff.mp h
      obtain ⟨pp, hpp, h⟩ := h
      injection h with h
      injection h with e1 h
      injection h with e2 h
      injection h with e3 e4
      subst e1; subst e2; subst e3; subst e4
      have HPP := Aside0.mk hpp
      have HPL := Aside0.mk (show pp.size ≤ 1000 by have := pathGo_len _ _ _ _ _ _ hpp; have e : (⟨#[]⟩ : ByteArray).size = 0 := rfl; omega)
      have HR12 := Aside0.mk (show (0 ≤ a1 ∧ a1 < 1000) ∧ (0 ≤ a2 ∧ a2 < 1000) by omega)
      have HLN := Aside0.mk d4
      have HAL := Aside0.mk (t39B_all d1)
      have HY := Aside0.mk hy
      have HK := Aside0.mk hk
      clear d1 d2 d3 d4 hbad hk hpp hy
      go_enter Try.func33, Try.ntmps33
      go_wp2_with (first
        | (go_at_call 40; go_must (
            (with_reducible refine HN.out.mono ?_); rintro e w1 ⟨rfl, hB1⟩;
            have HB1 := Aside0.mk (below_then HBW.out HBW.out.size hB1);
            have HG1 := Aside0.mk (blk_below HG6.out hB1);
            clear hB1))
        | (go_at_call 48; go_must (
            (with_reducible refine (HRF.out _ HB1.out).mono ?_); rintro e w2 ⟨b, rfl, hM2, hB2⟩;
            have HB2 := Aside0.mk (below_alloc (below_then HB1.out HB1.out.size hB2) (.cells #[.int .i64 a1, .int .i64 a2] 23));
            have HG2 := Aside0.mk (blk_below (blk_below HG1.out hB2) (below_alloc (Below.refl _ _) (.cells #[.int .i64 a1, .int .i64 a2] 23)));
            have HM2 := Aside0.mk (hM2.below (below_alloc (Below.refl _ _) (.cells #[.int .i64 a1, .int .i64 a2] 23)));
            have HZ2 := Aside0.mk (show w.heap.size < w2.heap.size from blk_lt (blk_below HG1.out hB2));
            have hlk := HM2.out.lookOk HIA.out.1 HIA.out.2;
            rw [HK.out, ← HY.out] at hlk;
            clear hM2 hB2)))
      clear hlk
      go_loopg [12] 1000 (fun kq v12 wr => ∃ (p : S23) (path : ByteArray), v12 = .string path ∧ Aside0 (pathGo l0 bad kq p path = some pp) ∧ Aside0 (I64 p.f0 ∧ I64 p.f1) ∧ Aside0 (MapIn wr b bad) ∧ Aside0 (wr.heap[w2.heap.size]? = some (.cells #[.int .i64 p.f0, .int .i64 p.f1] 23 (0, 0))) ∧ Aside0 (wr.heap[w.heap.size]? = some (.cells #[.bool false, .slice none 0 0, .string ⟨#[]⟩] 55 (0, 0))) ∧ Aside0 (Below w.heap.size w wr))
      case atStart => exact ⟨⟨a1, a2⟩, ⟨#[]⟩, rfl, HPP, HIA, HM2, ⟨heap_alloc_new w2 _⟩, HG2, HB2⟩
      clear HPP HM2 HG2 HB2 HK HY
      obtain ⟨p, path, rfl, HP, HRP, HM, H9, H6, HB⟩ := hrel
      obtain ⟨m, hm1⟩ : ∃ m, gk = m + 1 := by
        cases gk with
        | zero => exact absurd HP.out (by simp [pathGo])
        | succ m => exact ⟨m, rfl⟩
      have HG1 := HP.out
      rw [hm1] at HG1
      unfold pathGo at HG1
      have HMM := Aside0.mk (show m < gk by omega)
      have hIp := HRP.out
      have c90 : wr.cell? ⟨w2.heap.size, 0, none⟩ = some (.int .i64 p.f0) := (blk_cell H9.out 0).trans rfl
      have c91 : wr.cell? ⟨w2.heap.size, 1, none⟩ = some (.int .i64 p.f1) := (blk_cell H9.out 1).trans rfl
      clear HP hm1 HRP
      by_cases cz : letOf bad (l23 p) = 0
      · rw [if_pos cz] at HG1
        obtain rfl := Option.some.inj HG1
        have hlk : (Instr.lookup 72 (.map (some b)) (.agg #[.int .i64 p.f0, .int .i64 p.f1]) false).run Try.prog wr = .ok (.int .u8 0) wr := by have := HM.out.look hIp.1 hIp.2; rwa [show letOf bad [p.f0, p.f1] = 0 from cz] at this
        have hf0 := blk_frozen H6.out 0
        have hf1 := blk_frozen H6.out 1
        have hf2 := blk_frozen H6.out 2
        have hc0 : wr.cell? ⟨w.heap.size, 0, none⟩ = some (.bool false) := (blk_cell H6.out 0).trans rfl
        have hc1 : wr.cell? ⟨w.heap.size, 1, none⟩ = some (.slice none 0 0) := (blk_cell H6.out 1).trans rfl
        have hc2 : wr.cell? ⟨w.heap.size, 2, none⟩ = some (.string ⟨#[]⟩) := (blk_cell H6.out 2).trans rfl
        clear HG1 cz hIp
        go_wp2
        refine bodyPost_ret (results_ct rfl _ _ w.heap.size 55 #[.bool false, .slice none 0 0, .string path] (0, 0) _ rfl (set3 H6.out _ _ _) Try.underlying55 rfl info55s) rfl ⟨_, rfl, Kd.R_nil _ _ _ _ _, ?_⟩
        exact (((HB.out.setCell (Nat.le_refl _) _).setCell (Nat.le_refl _) _).setCell (Nat.le_refl _) _)
      rw [if_neg cz] at HG1
      split at HG1
      case isFalse => cases HG1
      rename_i hcc
      obtain ⟨hce, hb0, hb1⟩ := hcc
      split at HG1
      case h_1 => cases HG1
      rename_i q hq
      obtain ⟨q0, q1, rfl⟩ : ∃ q0 q1, q = [q0, q1] := ⟨_, _, needs_two _ _ _ _ hq⟩
      have hX : ∀ a : Int, (0 ≤ a ∧ a < l0.length) → I64 (rd_T39 l0 a).f1 ∧ I64 (rd_T39 l0 a).f2 := fun a ha => by
        have hlt : a.toNat < l0.length := by omega
        have : rd_T39 l0 a ∈ l0 := by
          unfold rd_T39
          rw [List.getD_eq_getElem?_getD, List.getElem?_eq_getElem hlt, Option.getD_some]
          exact List.getElem_mem hlt
        exact (HAL.out _ this).2
      have hiq : I64 (s23 [q0, q1]).f0 ∧ I64 (s23 [q0, q1]).f1 := needs_I64 _ _ (hX _ hb0) (hX _ hb1) _ _ hq
      clear hX
      have hcc := hce
      rcases hce with hce | hce
      · skip
        have hlk2 : ∀ W, MapIn W b bad → (Instr.lookup 72 (.map (some b)) (.agg #[.int .i64 p.f0, .int .i64 p.f1]) false).run Try.prog W = .ok (.int .u8 97) W := fun W hW => by have := hW.look hIp.1 hIp.2; rwa [show letOf bad [p.f0, p.f1] = 97 from hce] at this
        have hcv := conv97
        have hpth : pathGo l0 bad m (s23 [q0, q1]) (path ++ ⟨#[97]⟩) = some pp := by
          rw [hce] at HG1
          simpa using HG1
        have HPS := Aside0.mk (show ((path.size + 1 : Nat) : Int) ≤ 9223372036854775807 by have h1 := pathGo_ge _ _ _ _ _ _ hpth; have h2 := HPL.out; simp only [ByteArray.size_append] at h1; omega)
        have hadd : (Op.stringOp .add path ⟨#[97]⟩).run Try.prog wr = .ok (.string (path ++ ⟨#[97]⟩)) wr := by
          have h1 : ¬ (((path.size + (ByteArray.mk #[97]).size : Nat) : Int) > IntKind.i64.max) := by
            have e1 : (ByteArray.mk #[97]).size = 1 := rfl
            have e2 : IntKind.i64.max = 9223372036854775807 := rfl
            have := HPS.out
            rw [e1, e2]
            omega
          unfold Op.stringOp
          simp only [h1, if_false]
          rfl
        have hlk := hlk2 wr HM.out
        have HPT := Aside0.mk hpth
        have HL3 := Aside0.mk (fun (W : World) (hW : MapIn W b bad) => hlk2 W hW)
        have HNC := Aside0.mk (needs_fn.calls A0 c0 l0 p.f0 p.f1 wr (Kd.C_below HR0.out HB.out) hb0 hb1)
        have HQ := Aside0.mk hq
        have HGB := Aside0.mk (show ∀ (W : World) (v : Value), NeedsIs ((needsF (rd_T39 l0 p.f0) (rd_T39 l0 p.f1)).getD none) wr.heap.size W v → (Instr.lookup 77 v (.int .u8 97) false).run Try.prog W = .ok (.agg #[.int .i64 q0, .int .i64 q1]) W from fun W v hv => by
          have := needs_look hv (c := 97) (by omega)
          rw [hce] at hq
          rw [hq] at this
          exact this)
        have HIQ := Aside0.mk hiq
        clear HG1 hce hlk2 hq hb0 hb1 hpth hIp hiq cz hcc
        go_wp2_with (go_at_call 51; go_must (
          (with_reducible refine HNC.out.mono ?_); rintro e w3 ⟨hB3, vm, rfl, hN⟩;
          have hM3 := HM.out.below hB3;
          have hb3 := blk_below H9.out hB3;
          have hg3 := blk_below H6.out hB3;
          have hlk3 := HL3.out w3 hM3;
          have hgb3 := HGB.out w3 vm hN;
          have d0 : w3.cell? ⟨w2.heap.size, 0, none⟩ = some (.int .i64 p.f0) := (blk_cell hb3 0).trans rfl;
          have d1 : w3.cell? ⟨w2.heap.size, 1, none⟩ = some (.int .i64 p.f1) := (blk_cell hb3 1).trans rfl;
          have g0 := blk_frozen hb3 0;
          have g1 := blk_frozen hb3 1;
          have HM4 := Aside0.mk (mapin_set (mapin_set hM3 hb3 (i := 0) (.int .i64 q0)) (blk_set hb3 0 (.int .i64 q0)) (i := 1) (.int .i64 q1));
          have H94 := Aside0.mk (set2 hb3 (.int .i64 q0) (.int .i64 q1));
          have H64 := Aside0.mk (blk_far (blk_far hg3 (p := ⟨w2.heap.size, 0, none⟩) (Nat.ne_of_lt HZ2.out) (.int .i64 q0)) (p := ⟨w2.heap.size, 1, none⟩) (Nat.ne_of_lt HZ2.out) (.int .i64 q1));
          have HB4 := Aside0.mk (((below_then HB.out HB.out.size hB3).setCell (p := ⟨w2.heap.size, 0, none⟩) (Nat.le_of_lt HZ2.out) (.int .i64 q0)).setCell (p := ⟨w2.heap.size, 1, none⟩) (Nat.le_of_lt HZ2.out) (.int .i64 q1));
          clear hB3 hN hM3 hb3 hg3))
        go_roundg m
        case measure => exact HMM.out
        case rel => exact ⟨s23 [q0, q1], path ++ ⟨#[97]⟩, rfl, HPT, HIQ, HM4, H94, H64, HB4⟩
      skip
      have hlk2 : ∀ W, MapIn W b bad → (Instr.lookup 72 (.map (some b)) (.agg #[.int .i64 p.f0, .int .i64 p.f1]) false).run Try.prog W = .ok (.int .u8 98) W := fun W hW => by have := hW.look hIp.1 hIp.2; rwa [show letOf bad [p.f0, p.f1] = 98 from hce] at this
      have hcv := conv98
      have hpth : pathGo l0 bad m (s23 [q0, q1]) (path ++ ⟨#[98]⟩) = some pp := by
        rw [hce] at HG1
        simpa using HG1
      have HPS := Aside0.mk (show ((path.size + 1 : Nat) : Int) ≤ 9223372036854775807 by have h1 := pathGo_ge _ _ _ _ _ _ hpth; have h2 := HPL.out; simp only [ByteArray.size_append] at h1; omega)
      have hadd : (Op.stringOp .add path ⟨#[98]⟩).run Try.prog wr = .ok (.string (path ++ ⟨#[98]⟩)) wr := by
        have h1 : ¬ (((path.size + (ByteArray.mk #[98]).size : Nat) : Int) > IntKind.i64.max) := by
          have e1 : (ByteArray.mk #[98]).size = 1 := rfl
          have e2 : IntKind.i64.max = 9223372036854775807 := rfl
          have := HPS.out
          rw [e1, e2]
          omega
        unfold Op.stringOp
        simp only [h1, if_false]
        rfl
      have hlk := hlk2 wr HM.out
      have HPT := Aside0.mk hpth
      have HL3 := Aside0.mk (fun (W : World) (hW : MapIn W b bad) => hlk2 W hW)
      have HNC := Aside0.mk (needs_fn.calls A0 c0 l0 p.f0 p.f1 wr (Kd.C_below HR0.out HB.out) hb0 hb1)
      have HQ := Aside0.mk hq
      have HGB := Aside0.mk (show ∀ (W : World) (v : Value), NeedsIs ((needsF (rd_T39 l0 p.f0) (rd_T39 l0 p.f1)).getD none) wr.heap.size W v → (Instr.lookup 77 v (.int .u8 98) false).run Try.prog W = .ok (.agg #[.int .i64 q0, .int .i64 q1]) W from fun W v hv => by
        have := needs_look hv (c := 98) (by omega)
        rw [hce] at hq
        rw [hq] at this
        exact this)
      have HIQ := Aside0.mk hiq
      clear HG1 hce hlk2 hq hb0 hb1 hpth hIp hiq cz hcc
      go_wp2_with (go_at_call 51; go_must (
        (with_reducible refine HNC.out.mono ?_); rintro e w3 ⟨hB3, vm, rfl, hN⟩;
        have hM3 := HM.out.below hB3;
        have hb3 := blk_below H9.out hB3;
        have hg3 := blk_below H6.out hB3;
        have hlk3 := HL3.out w3 hM3;
        have hgb3 := HGB.out w3 vm hN;
        have d0 : w3.cell? ⟨w2.heap.size, 0, none⟩ = some (.int .i64 p.f0) := (blk_cell hb3 0).trans rfl;
        have d1 : w3.cell? ⟨w2.heap.size, 1, none⟩ = some (.int .i64 p.f1) := (blk_cell hb3 1).trans rfl;
        have g0 := blk_frozen hb3 0;
        have g1 := blk_frozen hb3 1;
        have HM4 := Aside0.mk (mapin_set (mapin_set hM3 hb3 (i := 0) (.int .i64 q0)) (blk_set hb3 0 (.int .i64 q0)) (i := 1) (.int .i64 q1));
        have H94 := Aside0.mk (set2 hb3 (.int .i64 q0) (.int .i64 q1));
        have H64 := Aside0.mk (blk_far (blk_far hg3 (p := ⟨w2.heap.size, 0, none⟩) (Nat.ne_of_lt HZ2.out) (.int .i64 q0)) (p := ⟨w2.heap.size, 1, none⟩) (Nat.ne_of_lt HZ2.out) (.int .i64 q1));
        have HB4 := Aside0.mk (((below_then HB.out HB.out.size hB3).setCell (p := ⟨w2.heap.size, 0, none⟩) (Nat.le_of_lt HZ2.out) (.int .i64 q0)).setCell (p := ⟨w2.heap.size, 1, none⟩) (Nat.le_of_lt HZ2.out) (.int .i64 q1));
        clear hB3 hN hM3 hb3 hg3))
      go_roundg m
      case measure => exact HMM.out
      exact ⟨s23 [q0, q1], path ++ ⟨#[98]⟩, rfl, HPT, HIQ, HM4, H94, H64, HB4⟩

def loops_numbered_int.f (l0 : List Int) : Option (List Int × Int) := if l0.length ≤ 1000 ∧ l0.all i64B = true then some (numGo l0 [] []) else none
theorem nb_zero (w : World) : (zeroValue 3).run Try.prog w = .ok (.int .i64 0) w := by kernel_rfl
set_option maxHeartbeats 2000000 in
set_option maxRecDepth 100000 in
theorem loops_numbered_int.calls (A0 : Option Addr) (c0 : Nat) (l0 : List Int) (r1 : List Int) (r2 : Int) (w : World) (hr0 : Kd.C (Kd.int .i64) w A0 l0.length l0) (hc0 : l0.length ≤ c0) (h : loops_numbered_int.f l0 = some (r1, r2)) :
  Calls Try.prog 62 #[.slice A0 l0.length c0] w fun e w' => ∃ v0_ : Value, e = .returned (.tuple #[v0_, .int .i64 r2]) ∧ Kd.R (Kd.int .i64) 3 w' w.heap.size (fun _ => True) v0_ r1 ∧ Below w.heap.size w w' := by
 have HR0 := Aside0.mk hr0
 clear hr0 hc0
 unfold loops_numbered_int.f at h
 by_cases c0 : l0.length ≤ 1000 ∧ l0.all i64B = true
 case neg => rw [if_neg c0] at h; cases h
 rw [if_pos c0] at h
 have H := Aside0.mk (Option.some.inj h)
 have HI := Aside0.mk (fun x hx => i64B_I64 (List.all_eq_true.mp c0.2 x hx))
 have HL := Aside0.mk c0.1
 clear h c0
 have hmm := @run_makeMap Try.prog
 go_enter Try.func62, Try.ntmps62
 go_wp2
 go_loopw [5, 13] (fun v5 v13 wr => ∃ (x : Int) (ds out : List Int), v13 = .int .i64 x ∧ Aside0 (0 ≤ x ∧ x ≤ l0.length ∧ ds.length ≤ x ∧ out.length = x) ∧ Aside0 (numGo (l0.drop x.toNat) ds out = (r1, r2)) ∧ Aside0 (MapAt wr Try.prog 3 w.heap.size ds.length (encI (numM ds))) ∧ Aside0 (Kd.R (Kd.int .i64) 3 wr w.heap.size (fun _ => True) v5 out) ∧ Aside0 (Below w.heap.size w wr)) (fun _ v13 _ => l0.length - (intOf v13).toNat)
 case atStart => exact ⟨0, [], [], rfl, ⟨by simp⟩, H, ⟨(MapAt.made _ _ _).congr (fun kv kl _ => by unfold encI numM; split <;> simp)⟩, ⟨Kd.R_nil _ _ _ _ _⟩, ⟨by repeat (first | apply below_alloc | exact Below.refl _ _)⟩⟩
 clear H
 obtain ⟨x, ds, out, rfl, HX, HA, HM, HR, HB⟩ := hrel
 obtain ⟨p0, q0, e0, e1⟩ := HX.out
 have hl := HL.out
 by_cases c2 : x < (l0.length : Int)
 rotate_left
 ·have c2b0 : decide (x < (l0.length : Int)) = false := decide_eq_false c2
  have hr : (out, (ds.length : Int)) = (r1, r2) := by rw [← HA.out, List.drop_eq_nil_of_le (by omega)]; rfl
  injection hr with h1 h2
  subst h1
  subst h2
  have hlen : ∀ ty, (Builtin.len_ #[100] ty #[.map (some w.heap.size)]).run Try.prog wr = .ok (.int .i64 (ds.length : Int)) wr := fun ty => HM.out.len Try.underlying100 ty
  clear c2 p0 q0 e0 e1
  go_wp2
  go_ret2
  exact ⟨_, rfl, HR.out, HB.out⟩
 have c2b0 : decide (x < (l0.length : Int)) = true := decide_eq_true c2
 have hlt : x.toNat < l0.length := by omega
 have hrd : rd l0 x = l0[x.toNat] := by
  unfold rd
  rw [List.getD_eq_getElem?_getD, List.getElem?_eq_getElem hlt, Option.getD_some]
 have HA1 : numGo (l0.drop (x + 1).toNat) (numStep ds (rd l0 x)) (out ++ [(numIx (numStep ds (rd l0 x)) (rd l0 x) : Int)]) = (r1, r2) := by
  rw [← HA.out, List.drop_eq_getElem_cons hlt, hrd, show (x + 1).toNat = x.toNat + 1 by omega]
  rfl
 have hkey := key3 (HI.out (rd l0 x) (by rw [hrd]; exact List.getElem_mem hlt))
 obtain ⟨ad, ea, hx⟩ := Kd.at_int (Kd.C_below HR0.out HB.out) x p0 c2
 cases ea
 have HW := Aside0.mk (show wrap64 (x + 1) = x + 1 by unfold wrap64; omega)
 have p1 := eq_true p0
 have q1 := eq_true c2
 have hsz : w.heap.size ≤ wr.heap.size := HB.out.size
 by_cases c4 : rd l0 x ∈ ds
 ·rw [numStep_old c4] at HA1
  have hlo : (Instr.lookup 100 (.map (some w.heap.size)) (.int .i64 (rd l0 x)) true).run Try.prog wr = .ok (.tuple #[.int .i64 (numIx ds (rd l0 x) : Int), .bool true]) wr := by
   rw [HM.out.lookOk law3 Try.underlying100 (nb_zero _) hkey, nb_some c4]; rfl
  have hlk : (Instr.lookup 100 (.map (some w.heap.size)) (.int .i64 (rd l0 x)) false).run Try.prog wr = .ok (.int .i64 (numIx ds (rd l0 x) : Int)) wr := by
   rw [HM.out.look law3 Try.underlying100 (nb_zero _) hkey, nb_some c4]; rfl
  obtain ⟨j, hj⟩ : ∃ j : Int, j = (numIx ds (rd l0 x) : Int) := ⟨_, rfl⟩
  rw [← hj] at hlo hlk HA1
  obtain ⟨v1, w1, hrun, ho, hB1, hgr, hat⟩ := append_one (Kd.int .i64) (P := Try.prog) (w0 := w) (W := wr) w.heap.size 65 65 3 (.int .i64 0) 8 Try.underlying65 info3 rfl (by decide) (by omega) (xs := out) j [.int .i64 j] (ok := fun _ => True) (fun _ => False) rfl (fun _ h => h.elim) (fun _ _ => trivial) HR.out HB.out hsz (by omega)
  have HRUN := Aside0.mk hrun
  have HO := Aside0.mk ho
  have HB1 := Aside0.mk hB1
  have HM1 := Aside0.mk (HM.out.rowed HR.out hgr)
  have HX1 := Aside0.mk (show 0 ≤ x + 1 ∧ x + 1 ≤ l0.length ∧ ds.length ≤ x + 1 ∧ (out ++ [j]).length = x + 1 by simp; omega)
  have H1 := Aside0.mk HA1
  clear hrun ho hB1 hgr hat HA1 hkey c4 hj hrd HX HA c2 p0 e0 e1 hlt
  go_wp2_with (at_builtin; go_must (refine wpList_appendRun _ rfl _ _ _ rfl HRUN.out rfl rfl rfl ?_))
  go_roundw
  case rel => exact ⟨x + 1, ds, out ++ [j], by rw [HW.out], HX1, H1, HM1, HO, HB1⟩
  have := of_eq_true p1; have := of_eq_true q1; simp [intOf, HW.out]; omega
 rw [numStep_new c4, numIx_new c4] at HA1
 have hlo : (Instr.lookup 100 (.map (some w.heap.size)) (.int .i64 (rd l0 x)) true).run Try.prog wr = .ok (.tuple #[.int .i64 0, .bool false]) wr := by
  rw [HM.out.lookOk law3 Try.underlying100 (nb_zero _) hkey, nb_none c4]; rfl
 obtain ⟨w2, hst, hm2, hg2⟩ := HM.out.store law3 Try.underlying100 (show ds.length < maxLen by unfold maxLen; omega) hkey (nb_put1 c4) (nb_put2 c4)
 rw [nb_none c4] at hm2
 have hB2 : Below w.heap.size w w2 := Below.grown HB.out hg2 HB.out.size (fun k hk => by injection hk with hk; omega)
 have hR2 := R_mapped HR.out rfl HM.out hg2
 have hlk : (Instr.lookup 100 (.map (some w.heap.size)) (.int .i64 (rd l0 x)) false).run Try.prog w2 = .ok (.int .i64 (ds.length : Int)) w2 := by
  rw [hm2.look law3 Try.underlying100 (nb_zero _) hkey, nb_put1 c4]; rfl
 obtain ⟨v1, w1, hrun, ho, hB1, hgr, hat⟩ := append_one (Kd.int .i64) (P := Try.prog) (w0 := w) (W := w2) w.heap.size 65 65 3 (.int .i64 0) 8 Try.underlying65 info3 rfl (by decide) (by omega) (xs := out) (ds.length : Int) [.int .i64 (ds.length : Int)] (ok := fun _ => True) (fun _ => False) rfl (fun _ h => h.elim) (fun _ _ => trivial) hR2 hB2 hB2.size (by omega)
 have hlen : ∀ ty, (Builtin.len_ #[100] ty #[.map (some w.heap.size)]).run Try.prog wr = .ok (.int .i64 (ds.length : Int)) wr := fun ty => HM.out.len Try.underlying100 ty
 have HRUN := Aside0.mk hrun
 have HO := Aside0.mk ho
 have HB1 := Aside0.mk hB1
 have HM1 := Aside0.mk (show MapAt w1 Try.prog 3 w.heap.size (ds ++ [rd l0 x]).length (encI (numM (ds ++ [rd l0 x]))) by
  have := hm2.rowed hR2 hgr
  simpa using this)
 have HX1 := Aside0.mk (show 0 ≤ x + 1 ∧ x + 1 ≤ l0.length ∧ (ds ++ [rd l0 x]).length ≤ x + 1 ∧ (out ++ [(ds.length : Int)]).length = x + 1 by simp; omega)
 have H1 := Aside0.mk HA1
 clear hrun ho hB1 hgr hat HA1 hkey c4 hrd HX HA c2 p0 e0 e1 hlt hm2 hg2 hB2 hR2
 go_wp2_with (at_builtin; go_must (refine wpList_appendRun _ rfl _ _ _ rfl HRUN.out rfl rfl rfl ?_))
 go_roundw
 case rel => exact ⟨x + 1, ds ++ [rd l0 x], out ++ [(ds.length : Int)], by rw [HW.out], HX1, H1, HM1, HO, HB1⟩
 have := of_eq_true p1; have := of_eq_true q1; simp [intOf, HW.out]; omega

def l98 (x : S98) : List Int := [x.f0, x.f1, x.f2, x.f3]
def i98B (x : S98) : Bool := (l98 x).all i64B
def loops_numbered_4_int.f (l0 : List S98) : Option (List Int × Int) := if l0.length ≤ 1000 ∧ l0.all i98B = true then some (numGo (l0.map l98) [] []) else none
theorem key_l98 {x : S98} (h : i98B x = true) : keyOf Try.prog 98 (keyL (l98 x)) = some (lit98 x.f0 x.f1 x.f2 x.f3) := by
 have h' := List.all_eq_true.mp h
 exact key98 (i64B_I64 (h' _ (by simp [l98]))) (i64B_I64 (h' _ (by simp [l98]))) (i64B_I64 (h' _ (by simp [l98]))) (i64B_I64 (h' _ (by simp [l98])))
set_option maxHeartbeats 2000000 in
set_option maxRecDepth 100000 in
theorem loops_numbered_4_int.calls (A0 : Option Addr) (c0 : Nat) (l0 : List S98) (r1 : List Int) (r2 : Int) (w : World) (hr0 : Kd.C k98 w A0 l0.length l0) (hc0 : l0.length ≤ c0) (h : loops_numbered_4_int.f l0 = some (r1, r2)) :
  Calls Try.prog 63 #[.slice A0 l0.length c0] w fun e w' => ∃ v0_ : Value, e = .returned (.tuple #[v0_, .int .i64 r2]) ∧ Kd.R (Kd.int .i64) 3 w' w.heap.size (fun _ => True) v0_ r1 ∧ Below w.heap.size w w' := by
 have HR0 := Aside0.mk hr0
 clear hr0 hc0
 unfold loops_numbered_4_int.f at h
 by_cases c0 : l0.length ≤ 1000 ∧ l0.all i98B = true
 case neg => rw [if_neg c0] at h; cases h
 rw [if_pos c0] at h
 have H := Aside0.mk (Option.some.inj h)
 have HI := Aside0.mk (fun x hx => List.all_eq_true.mp c0.2 x hx)
 have HL := Aside0.mk c0.1
 clear h c0
 have hmm := @run_makeMap Try.prog
 go_enter Try.func63, Try.ntmps63
 go_wp2
 go_loopw [5, 13] (fun v5 v13 wr => ∃ (x : Int) (ds : List (List Int)) (out : List Int), v13 = .int .i64 x ∧ Aside0 (0 ≤ x ∧ x ≤ l0.length ∧ ds.length ≤ x ∧ out.length = x) ∧ Aside0 (numGo ((l0.drop x.toNat).map l98) ds out = (r1, r2)) ∧ Aside0 (MapAt wr Try.prog 98 w.heap.size ds.length (encL (numM ds))) ∧ Aside0 (Kd.R (Kd.int .i64) 3 wr w.heap.size (fun _ => True) v5 out) ∧ Aside0 (Below w.heap.size w wr)) (fun _ v13 _ => l0.length - (intOf v13).toNat)
 case atStart => exact ⟨0, [], [], rfl, ⟨by simp⟩, H, ⟨(MapAt.made _ _ _).congr (fun kv kl _ => by unfold encL numM; cases decL kv <;> simp)⟩, ⟨Kd.R_nil _ _ _ _ _⟩, ⟨by repeat (first | apply below_alloc | exact Below.refl _ _)⟩⟩
 clear H
 obtain ⟨x, ds, out, rfl, HX, HA, HM, HR, HB⟩ := hrel
 obtain ⟨p0, q0, e0, e1⟩ := HX.out
 have hl := HL.out
 by_cases c2 : x < (l0.length : Int)
 rotate_left
 ·have c2b0 : decide (x < (l0.length : Int)) = false := decide_eq_false c2
  have hr : (out, (ds.length : Int)) = (r1, r2) := by rw [← HA.out, List.drop_eq_nil_of_le (by omega)]; rfl
  injection hr with h1 h2
  subst h1
  subst h2
  have hlen : ∀ ty, (Builtin.len_ #[112] ty #[.map (some w.heap.size)]).run Try.prog wr = .ok (.int .i64 (ds.length : Int)) wr := fun ty => HM.out.len Try.underlying112 ty
  clear c2 p0 q0 e0 e1
  go_wp2
  go_ret2
  exact ⟨_, rfl, HR.out, HB.out⟩
 have c2b0 : decide (x < (l0.length : Int)) = true := decide_eq_true c2
 have hlt : x.toNat < l0.length := by omega
 have hrd : rd_T98 l0 x = l0[x.toNat] := by
  unfold rd_T98
  rw [List.getD_eq_getElem?_getD, List.getElem?_eq_getElem hlt, Option.getD_some]
 have HA1 : numGo ((l0.drop (x + 1).toNat).map l98) (numStep ds (l98 (rd_T98 l0 x))) (out ++ [(numIx (numStep ds (l98 (rd_T98 l0 x))) (l98 (rd_T98 l0 x)) : Int)]) = (r1, r2) := by
  rw [← HA.out, List.drop_eq_getElem_cons hlt, hrd, show (x + 1).toNat = x.toNat + 1 by omega, List.map_cons]
  rfl
 have hkey := key_l98 (HI.out (rd_T98 l0 x) (by rw [hrd]; exact List.getElem_mem hlt))
 obtain ⟨ad, ea, hx0, hx1, hx2, hx3⟩ := at_T98 (Kd.C_below HR0.out HB.out) x p0 c2
 cases ea
 have HW := Aside0.mk (show wrap64 (x + 1) = x + 1 by unfold wrap64; omega)
 have p1 := eq_true p0
 have q1 := eq_true c2
 have hsz : w.heap.size ≤ wr.heap.size := HB.out.size
 obtain ⟨X, hX⟩ : ∃ X, X = rd_T98 l0 x := ⟨_, rfl⟩
 rw [← hX] at hx0 hx1 hx2 hx3 hkey HA1
 have HH : l98 X = [X.f0, X.f1, X.f2, X.f3] := rfl
 obtain ⟨wq, hwq⟩ : ∃ wq, wq = wr.alloc (.cells #[.int .i64 X.f0, .int .i64 X.f1, .int .i64 X.f2, .int .i64 X.f3] 98) := ⟨_, rfl⟩
 have hbx : wq.heap[wr.heap.size]? = some (.cells #[.int .i64 X.f0, .int .i64 X.f1, .int .i64 X.f2, .int .i64 X.f3] 98 (0, 0)) := by rw [hwq]; exact heap_alloc_new wr _
 have hmq : MapAt wq Try.prog 98 w.heap.size ds.length (encL (numM ds)) := by rw [hwq]; exact HM.out.alloc _
 have hrq : Kd.R (Kd.int .i64) 3 wq w.heap.size (fun _ => True) u5 out := by rw [hwq]; exact Kd.R_alloc HR.out _
 have hbq : Below w.heap.size w wq := by rw [hwq]; exact below_alloc HB.out _
 by_cases c4 : l98 X ∈ ds
 ·rw [numStep_old c4] at HA1
  have hlo : (Instr.lookup 112 (.map (some w.heap.size)) (.agg #[.int .i64 X.f0, .int .i64 X.f1, .int .i64 X.f2, .int .i64 X.f3]) true).run Try.prog wq = .ok (.tuple #[.int .i64 (numIx ds (l98 X) : Int), .bool true]) wq := by
   have := hmq.lookOk law98 Try.underlying112 (nb_zero _) hkey
   rw [nl_some c4] at this
   exact this
  have hlk : (Instr.lookup 112 (.map (some w.heap.size)) (.agg #[.int .i64 X.f0, .int .i64 X.f1, .int .i64 X.f2, .int .i64 X.f3]) false).run Try.prog wq = .ok (.int .i64 (numIx ds (l98 X) : Int)) wq := by
   have := hmq.look law98 Try.underlying112 (nb_zero _) hkey
   rw [nl_some c4] at this
   exact this
  obtain ⟨j, hj⟩ : ∃ j : Int, j = (numIx ds (l98 X) : Int) := ⟨_, rfl⟩
  rw [← hj] at hlo hlk HA1
  obtain ⟨v1, w1, hrun, ho, hB1, hgr, hat⟩ := append_one (Kd.int .i64) (P := Try.prog) (w0 := w) (W := wq) w.heap.size 65 65 3 (.int .i64 0) 8 Try.underlying65 info3 rfl (by decide) (by omega) (xs := out) j [.int .i64 j] (ok := fun _ => True) (fun _ => False) rfl (fun _ h => h.elim) (fun _ _ => trivial) hrq hbq hbq.size (by omega)
  have HO := Aside0.mk ho
  have HB1 := Aside0.mk hB1
  have HM1 := Aside0.mk (hmq.rowed hrq hgr)
  subst hwq
  simp only [World.size_alloc] at hrun
  have HRUN := Aside0.mk hrun
  have HX1 := Aside0.mk (show 0 ≤ x + 1 ∧ x + 1 ≤ l0.length ∧ ds.length ≤ x + 1 ∧ (out ++ [j]).length = x + 1 by simp; omega)
  have H1 := Aside0.mk HA1
  clear hrun ho hB1 hgr hat HA1 hkey c4 hj hX hrd HX HA c2 p0 e0 e1 hlt HH hbx hmq hrq hbq
  go_wp2_with (at_builtin; go_must (refine wpList_appendRun _ rfl _ _ _ rfl HRUN.out rfl rfl rfl ?_))
  go_roundw
  case rel => exact ⟨x + 1, ds, out ++ [j], by rw [HW.out], HX1, H1, HM1, HO, HB1⟩
  have := of_eq_true p1; have := of_eq_true q1; simp [intOf, HW.out]; omega
 rw [numStep_new c4, numIx_new c4] at HA1
 have hlo : (Instr.lookup 112 (.map (some w.heap.size)) (.agg #[.int .i64 X.f0, .int .i64 X.f1, .int .i64 X.f2, .int .i64 X.f3]) true).run Try.prog wq = .ok (.tuple #[.int .i64 0, .bool false]) wq := by
  have := hmq.lookOk law98 Try.underlying112 (nb_zero _) hkey
  rw [nl_none c4] at this
  exact this
 obtain ⟨w2, hst, hm2, hg2⟩ := hmq.store law98 Try.underlying112 (show ds.length < maxLen by unfold maxLen; omega) hkey (nl_put1 c4) (nl_put2 c4)
 rw [nl_none c4] at hm2
 have hst' : (Instr.mapUpdate 112 (.map (some w.heap.size)) (.agg #[.int .i64 X.f0, .int .i64 X.f1, .int .i64 X.f2, .int .i64 X.f3]) (.int .i64 (ds.length : Int))).run Try.prog wq = .ok () w2 := hst
 have hB2 : Below w.heap.size w w2 := Below.grown hbq hg2 hbq.size (fun k hk => by injection hk with hk; omega)
 have hR2 := R_mapped hrq rfl hmq hg2
 have hbx2 := blk_grown hbx hg2 (by intro e; exact hmq.ne hbx (Option.some.inj e).symm)
 have hc0 := (blk_cell hbx2 0).trans rfl
 have hc1 := (blk_cell hbx2 1).trans rfl
 have hc2 := (blk_cell hbx2 2).trans rfl
 have hc3 := (blk_cell hbx2 3).trans rfl
 have hlk : (Instr.lookup 112 (.map (some w.heap.size)) (.agg #[.int .i64 X.f0, .int .i64 X.f1, .int .i64 X.f2, .int .i64 X.f3]) false).run Try.prog w2 = .ok (.int .i64 (ds.length : Int)) w2 := by
  have := hm2.look law98 Try.underlying112 (nb_zero _) hkey
  rw [nl_put1 c4] at this
  exact this
 obtain ⟨v1, w1, hrun, ho, hB1, hgr, hat⟩ := append_one (Kd.int .i64) (P := Try.prog) (w0 := w) (W := w2) w.heap.size 65 65 3 (.int .i64 0) 8 Try.underlying65 info3 rfl (by decide) (by omega) (xs := out) (ds.length : Int) [.int .i64 (ds.length : Int)] (ok := fun _ => True) (fun _ => False) rfl (fun _ h => h.elim) (fun _ _ => trivial) hR2 hB2 hB2.size (by omega)
 have hlen : ∀ ty, (Builtin.len_ #[112] ty #[.map (some w.heap.size)]).run Try.prog wq = .ok (.int .i64 (ds.length : Int)) wq := fun ty => hmq.len Try.underlying112 ty
 have HRUN := Aside0.mk hrun
 have HO := Aside0.mk ho
 have HB1 := Aside0.mk hB1
 have HM1 := Aside0.mk (show MapAt w1 Try.prog 98 w.heap.size (ds ++ [l98 X]).length (encL (numM (ds ++ [l98 X]))) by
  have := hm2.rowed hR2 hgr
  simpa using this)
 have HX1 := Aside0.mk (show 0 ≤ x + 1 ∧ x + 1 ≤ l0.length ∧ (ds ++ [l98 X]).length ≤ x + 1 ∧ (out ++ [(ds.length : Int)]).length = x + 1 by simp; omega)
 have H1 := Aside0.mk HA1
 subst hwq
 clear hrun ho hB1 hgr hat HA1 hkey c4 hX hrd HX HA c2 p0 e0 e1 hlt HH hbx hmq hrq hbq hst hm2 hg2 hB2 hR2 hbx2
 go_wp2_with (at_builtin; go_must (refine wpList_appendRun _ rfl _ _ _ rfl HRUN.out rfl rfl rfl ?_))
 go_roundw
 case rel => exact ⟨x + 1, ds ++ [l98 X], out ++ [(ds.length : Int)], by rw [HW.out], HX1, H1, HM1, HO, HB1⟩
 have := of_eq_true p1; have := of_eq_true q1; simp [intOf, HW.out]; omega
end Go.Proofs.Ytnfmeafiaipplaa.S
