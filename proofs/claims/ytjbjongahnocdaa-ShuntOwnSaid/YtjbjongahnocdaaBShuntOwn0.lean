-- Written by wip/bundle.py: texts of this claim, one behind the other.
import Derived.WalkKit
import Derived.Deep.Draws
import Derived.Maps.OwnSet
import Derived.Maps.Views
import Derived.Test.YtjbjongahnocdaaWWords
import Derived.Test.YtjbjongahnocdaaWLast
import Derived.Test.YtjbjongahnocdaaWMore
import Derived.RowKit
import Derived.Test.YtjbjongahnocdaaProg
import Derived.Below
import Derived.Deep.AppendLies
import Derived.Maps.AppendAt
import Derived.OwnWalk
import Derived.Laws.BytesArg
import Derived.Laws.MakeOwn
import Derived.Laws.OwnMore
import Derived.Deep.OwnRows
import Derived.Tactics
import Derived.Lib.ConvBytes
import Derived.Laws.Slices
import Derived.KernelRfl
import Derived.RowKit3
import Derived.Deep.LoopGhost
import Derived.Deep.QuietTactic
import Derived.BigQuiet
import Derived.WideLaws
import Derived.Deep.DeepCutAuto
import Derived.Deep.CutBlock
import Derived.Deep.RegionHeld3
import Derived.Laws.Rows
import Derived.Lib.AppendStr
import Derived.ArgAppend
import Derived.Laws.IdiomCopy
import Derived.OrdersHeld
import Derived.Laws.BitsLemmas
import Derived.Deep.DeepMust
import Derived.WalkSpells
import Derived.Laws.EntriesVeiled
import Derived.IntWalk
import Derived.Test.YtjbjongahnocdaaWTab
import Derived.Test.YtjbjongahnocdaaWFour
import Derived.Test.YtjbjongahnocdaaWQPut
import Derived.Test.YtjbjongahnocdaaWApart
import Derived.Test.YtjbjongahnocdaaWArr
import Derived.Test.YtjbjongahnocdaaWZeros
import Derived.Test.YtjbjongahnocdaaWFoot
import Derived.Test.YtjbjongahnocdaaWKept
import Derived.Test.YtjbjongahnocdaaWShare
import Derived.Test.YtjbjongahnocdaaWN
import Derived.Test.YtjbjongahnocdaaWFootNe
import Derived.Test.YtjbjongahnocdaaWAt
import Derived.Test.YtjbjongahnocdaaWEqStruct
import Derived.Test.YtjbjongahnocdaaWRepsOne
import Derived.Test.YtjbjongahnocdaaWInv
import Derived.Test.YtjbjongahnocdaaWInvWords
import Derived.Test.YtjbjongahnocdaaWGuard
import Derived.Test.YtjbjongahnocdaaWNEv
import Derived.WideKeyEntry
set_option linter.unusedVariables false
set_option linter.unusedSimpArgs false

/- General words for maps that the call makes itself, whatever the elements: a map is told by a plain function from a key's value to an element's value. -/
namespace Go.Proofs.Ytjbjongahnocdaa.Lib
open Go.Maps (Keyed IsMap Tidy)

/-- An element is held as it stands. -/
def Rv (v : Value) : Option (DataW Value × List MemPlace) := some (.held v, [])

/-- Block b of w is a map of m entries; at the key k it holds 'f k'. -/
def MapAt (w : World) (P : Program) (k : TypeId) (b m : Nat) (f : Value → Option Value) : Prop :=
  ∃ D, w.ownsMap P k Rv b m D ∧ Maps.size D = m ∧ ∀ kv kl, keyOf P k kv = some kl → Maps.has D kl = (f kv).isSome ∧ ∀ z : Value, D.atKey kl (.held z) = .held ((f kv).getD z)

theorem MapAt.lt {w : World} {P : Program} {k : TypeId} {b m : Nat} {f : Value → Option Value} (h : MapAt w P k b m f) : b < w.heap.size := by
  obtain ⟨D, h1, _⟩ := h
  exact h1.lt

theorem MapAt.made (w : World) (P : Program) (k : TypeId) : MapAt (w.alloc (.map #[] 0)) P k w.heap.size 0 (fun _ => none) :=
  ⟨_, World.ownsMap_made w P k Rv, rfl, fun _ _ _ => ⟨rfl, fun _ => rfl⟩⟩

theorem MapAt.congr {w : World} {P : Program} {k : TypeId} {b m : Nat} {f g : Value → Option Value} (h : MapAt w P k b m f) (e : ∀ kv kl, keyOf P k kv = some kl → f kv = g kv) : MapAt w P k b m g := by
  obtain ⟨D, h1, h2, h3⟩ := h
  refine ⟨D, h1, h2, fun kv kl hk => ?_⟩
  rw [← e kv kl hk]
  exact h3 kv kl hk

theorem MapAt.kept {w w' : World} {P : Program} {k : TypeId} {b m : Nat} {f : Value → Option Value} {row : Option Nat} (h : MapAt w P k b m f) (hg : w.grownBy w' row) (hne : some b ≠ row) : MapAt w' P k b m f := by
  obtain ⟨D, h1, h2, h3⟩ := h
  exact ⟨D, h1.kept hg hne, h2, h3⟩

theorem MapAt.block {w w' : World} {P : Program} {k : TypeId} {b m : Nat} {f : Value → Option Value} (h : MapAt w P k b m f) (hb : w'.heap[b]? = w.heap[b]?) : MapAt w' P k b m f := by
  obtain ⟨D, ⟨es, clock, h0, F, hs, hD⟩, h2, h3⟩ := h
  exact ⟨D, ⟨es, clock, hb.trans h0, F, hs, hD⟩, h2, h3⟩

theorem MapAt.drewN {w : World} {P : Program} {k : TypeId} {b m : Nat} {f : Value → Option Value} (h : MapAt w P k b m f) (n : Nat) : MapAt (w.drewN n) P k b m f := h.block rfl
theorem MapAt.drew {w : World} {P : Program} {k : TypeId} {b m : Nat} {f : Value → Option Value} (h : MapAt w P k b m f) : MapAt w.drew P k b m f := h.block rfl

theorem MapAt.alloc {w : World} {P : Program} {k : TypeId} {b m : Nat} {f : Value → Option Value} (h : MapAt w P k b m f) (o : Obj) : MapAt (w.alloc o) P k b m f := by
  obtain ⟨D, h1, h2, h3⟩ := h
  exact ⟨D, h1.alloc o, h2, h3⟩

theorem MapAt.setCell {w : World} {P : Program} {k : TypeId} {b m : Nat} {f : Value → Option Value} (h : MapAt w P k b m f) {a : Addr} (ha : b ≠ a.block) (u : Value) : MapAt (w.setCell a u) P k b m f := by
  obtain ⟨D, h1, h2, h3⟩ := h
  exact ⟨D, h1.setCell ha u, h2, h3⟩

theorem MapAt.below {w w' : World} {P : Program} {k : TypeId} {b m : Nat} {f : Value → Option Value} (h : MapAt w P k b m f) (hb : Go.RowKit.Below w.heap.size w w') : MapAt w' P k b m f := h.block (hb.block b h.lt)

/-- A map's block is no row of cells. -/
theorem MapAt.ne {w : World} {P : Program} {k : TypeId} {b m : Nat} {f : Value → Option Value} (h : MapAt w P k b m f) {g : Nat} {cs : Array Value} {t : TypeId} {fr : Nat × Nat} (hg : w.heap[g]? = some (.cells cs t fr)) : b ≠ g := by
  rintro rfl
  obtain ⟨D, ⟨es, clock, h0, _⟩, _⟩ := h
  rw [hg] at h0
  cases h0

section
variable {w : World} {P : Program} {t k e : TypeId} {b m : Nat} {f : Value → Option Value}

/-- 'm[k]'. -/
theorem MapAt.look (h : MapAt w P k b m f) (K : Keyed P k) (ht : P.underlying t = some (.map k e)) {z : Value} (hz : (zeroValue e).run P w = .ok z w) {key : Value} {kl : Lit} (hkey : keyOf P k key = some kl) :
    (Instr.lookup t (.map (some b)) key false).run P w = .ok ((f key).getD z) w := by
  obtain ⟨D, h1, h2, h3⟩ := h
  obtain ⟨v, ps, hrun, hv⟩ := h1.lookup K ht hz (R := Rv) rfl hkey
  rw [hrun]
  have := (h3 key kl hkey).2 z
  rw [this] at hv
  injection hv with hv
  injection hv with hv
  injection hv with hv
  rw [hv]

/-- 'v, ok := m[k]'. -/
theorem MapAt.lookOk (h : MapAt w P k b m f) (K : Keyed P k) (ht : P.underlying t = some (.map k e)) {z : Value} (hz : (zeroValue e).run P w = .ok z w) {key : Value} {kl : Lit} (hkey : keyOf P k key = some kl) :
    (Instr.lookup t (.map (some b)) key true).run P w = .ok (.tuple #[(f key).getD z, .bool (f key).isSome]) w := by
  obtain ⟨D, h1, h2, h3⟩ := h
  obtain ⟨v, ps, hrun, hv⟩ := h1.look_ok K ht hz (R := Rv) rfl hkey
  rw [hrun, (h3 key kl hkey).1]
  have := (h3 key kl hkey).2 z
  rw [this] at hv
  injection hv with hv
  injection hv with hv
  injection hv with hv
  rw [hv]

theorem MapAt.len (h : MapAt w P k b m f) (ht : P.underlying t = some (.map k e)) (ty : TypeId) : (Builtin.len_ #[t] ty #[.map (some b)]).run P w = .ok (.int .i64 m) w := by
  obtain ⟨D, h1, h2, _⟩ := h
  rw [← h2]
  exact h1.len ht ty

/-- What a store makes of f. -/
theorem put_fact (K : Keyed P k) {D : DataW Value} (hD : Tidy D) (h2 : Maps.size D = m) (h3 : ∀ kv kl, keyOf P k kv = some kl → Maps.has D kl = (f kv).isSome ∧ ∀ z : Value, D.atKey kl (.held z) = .held ((f kv).getD z))
    {key val : Value} {kl : Lit} (hkey : keyOf P k key = some kl) {f' : Value → Option Value} (e1 : f' key = some val) (e2 : ∀ v, v ≠ key → f' v = f v) :
    Maps.size (D.put kl (.held val)) = (if (f key).isSome then m else m + 1) ∧ ∀ kv kl', keyOf P k kv = some kl' → Maps.has (D.put kl (.held val)) kl' = (f' kv).isSome ∧ ∀ z : Value, (D.put kl (.held val)).atKey kl' (.held z) = .held ((f' kv).getD z) := by
  refine ⟨by rw [Maps.size_put hD, (h3 key kl hkey).1, h2], fun kv kl' hk' => ?_⟩
  by_cases hne : kv = key
  · subst hne
    rw [hkey] at hk'
    injection hk' with hk'
    subst hk'
    rw [e1]
    exact ⟨Maps.has_put_same hD.isMap (K.key hkey) _, fun z => Maps.atKey_put_same hD.isMap (K.key hkey) _ _⟩
  · have hl : kl' ≠ kl := fun e0 => hne (K.inj (e0 ▸ hk') hkey)
    rw [e2 kv hne]
    exact ⟨(Maps.has_put_other hl _).trans (h3 kv kl' hk').1, fun z => (Maps.atKey_put_other hl _ _).trans ((h3 kv kl' hk').2 z)⟩

theorem MapAt.bound {n : Nat} {D : DataW Value} (h : w.ownsMap P k Rv b n D) : w.ownsMap P k Rv b (Maps.size D) D := by
  obtain ⟨es, clock, hb, F, hs, hD⟩ := h
  refine ⟨es, clock, hb, F, ?_, hD⟩
  rw [hD]
  simp [Maps.size, length_sorted]

/-- 'm[k] = v'. -/
theorem MapAt.store (h : MapAt w P k b m f) (K : Keyed P k) (ht : P.underlying t = some (.map k e)) (hm : m < maxLen) {key val : Value} {kl : Lit} (hkey : keyOf P k key = some kl) {f' : Value → Option Value} (e1 : f' key = some val) (e2 : ∀ v, v ≠ key → f' v = f v) :
    ∃ w', (Instr.mapUpdate t (.map (some b)) key val).run P w = .ok () w' ∧ MapAt w' P k b (if (f key).isSome then m else m + 1) f' ∧ w.grownBy w' (some b) := by
  obtain ⟨D, h1, h2, h3⟩ := h
  obtain ⟨w', hrun, h4, h5⟩ := h1.update K ht hm (val := val) (d := .held val) (ps := []) hkey rfl
  obtain ⟨h6, h7⟩ := put_fact K (h1.tidy K) h2 h3 hkey (val := val) e1 e2
  exact ⟨w', hrun, ⟨_, h6 ▸ MapAt.bound h4, h6, h7⟩, h5⟩

end

section
variable {P : Program} (w : World) {ops : Array Oper} {rest : List Oper} {o : Oper} {a : Act} {Q : Exit → Act → World → Prop}

theorem wpList_look (hg : o.guard = none) (m x : Operand) (t : TypeId) (hop : o.op = Op.lookup t m x false) {k e : TypeId} (K : Keyed P k) (ht : P.underlying t = some (.map k e)) {z : Value} (hz : (zeroValue e).run P w = .ok z w) {b n : Nat} {f : Value → Option Value}
    (hm : a.eval m = .map (some b)) (h : MapAt w P k b n f) (key : Value) (hx : a.eval x = key) {kl : Lit} (hkey : keyOf P k key = some kl) (v : Value) (hv : (f key).getD z = v) (hK : wpList P ops Q rest (a.put o.dst v) w) :
    wpList P ops Q (o :: rest) a w := by
  refine wpList_plain hg fun K' hK' => ?_
  have hrun := h.look K ht hz hkey
  unfold Oper.wp
  simp [execOp, hop, hm, hx, hrun, Result.andThen]
  exact hK' _ _ (hv ▸ hK)

theorem wpList_lookOk (hg : o.guard = none) (m x : Operand) (t : TypeId) (hop : o.op = Op.lookup t m x true) {k e : TypeId} (K : Keyed P k) (ht : P.underlying t = some (.map k e)) {z : Value} (hz : (zeroValue e).run P w = .ok z w) {b n : Nat} {f : Value → Option Value}
    (hm : a.eval m = .map (some b)) (h : MapAt w P k b n f) (key : Value) (hx : a.eval x = key) {kl : Lit} (hkey : keyOf P k key = some kl) (v : Value) (hv : (f key).getD z = v) (ok : Bool) (hok : (f key).isSome = ok) (hK : wpList P ops Q rest (a.put o.dst (.tuple #[v, .bool ok])) w) :
    wpList P ops Q (o :: rest) a w := by
  refine wpList_plain hg fun K' hK' => ?_
  have hrun := h.lookOk K ht hz hkey
  rw [hv, hok] at hrun
  unfold Oper.wp
  simp [execOp, hop, hm, hx, hrun, Result.andThen]
  exact hK' _ _ hK

theorem wpList_mapLen (hg : o.guard = none) (m : Operand) (t : TypeId) (hop : o.op = Op.call { callee := Callee.builtin Builtin.len, args := #[m], argTypes := #[t] })
    {k e : TypeId} (ht : P.underlying t = some (.map k e)) {b n : Nat} {f : Value → Option Value} (hm : a.eval m = .map (some b)) (h : MapAt w P k b n f) (hK : wpList P ops Q rest (a.put o.dst (.int .i64 n)) w) :
    wpList P ops Q (o :: rest) a w := by
  refine wpList_plain hg fun K' hK' => ?_
  unfold Oper.wp
  simp [execOp, hop, resolve, invoke, builtin, hm, h.len ht o.type, Result.andThen]
  exact hK' _ _ hK

theorem wpList_mapStore (hg : o.guard = none) (m x v : Operand) (t : TypeId) (hop : o.op = Op.mapUpdate t m x v) {k e : TypeId} (K : Keyed P k) (ht : P.underlying t = some (.map k e)) {b n : Nat} {f : Value → Option Value}
    (hm : a.eval m = .map (some b)) (h : MapAt w P k b n f) (hn : n < maxLen) (key val : Value) (hx : a.eval x = key) (hv : a.eval v = val) {kl : Lit} (hkey : keyOf P k key = some kl) (f' : Value → Option Value) (e1 : f' key = some val) (e2 : ∀ v, v ≠ key → f' v = f v)
    (hK : ∀ w', MapAt w' P k b (if (f key).isSome then n else n + 1) f' → w.grownBy w' (some b) → wpList P ops Q rest (a.put o.dst undef) w') :
    wpList P ops Q (o :: rest) a w := by
  refine wpList_plain hg fun K' hK' => ?_
  obtain ⟨w', hrun, r1, r2⟩ := h.store K ht hn hkey e1 e2
  unfold Oper.wp
  simp [execOp, hop, hm, hx, hv, hrun, Result.andThen]
  exact hK' _ _ (hK w' r1 r2)
end

/-! ### keys that are ints -/
def encI (g : Int → Option Value) : Value → Option Value
  | .int .i64 x => g x
  | _ => none
def upd (g : Int → Option Value) (x : Int) (v : Value) : Int → Option Value := fun y => if y = x then some v else g y
theorem encI_same (g : Int → Option Value) (x : Int) (v : Value) : encI (upd g x v) (.int .i64 x) = some v := by simp [encI, upd]
theorem encI_other (g : Int → Option Value) (x : Int) (v : Value) : ∀ u, u ≠ .int .i64 x → encI (upd g x v) u = encI g u := by
  intro u hu
  unfold encI
  split
  · rename_i y
    have : y ≠ x := fun e => hu (by rw [e])
    simp [upd, this]
  · rfl
theorem wfI {x : Int} (h0 : -9223372036854775808 ≤ x) (h1 : x ≤ 9223372036854775807) : (Lit.int .i64 x).wf = true := WalkArith.wf_i64 (by omega)


/-! ### appends, by an equation on the run -/
section
variable {P : Program} (W : World) {ops : Array Oper} {rest : List Oper} {o : Oper} {a : Act} {Q : Exit → Act → World → Prop}
theorem wpList_appendRun (hg : o.guard = none) (s x : Operand) (t : TypeId) (ho : o.op = .call { callee := .builtin .append, args := #[s, x], argTypes := #[t, t] }) {v y v1 : Value} {w1 : World} {ty : TypeId}
    (hrun : (Builtin.append_ #[t, t] ty #[v, y]).run P W = .ok v1 w1) (hty : o.type = ty) (hs : a.eval s = v) (hx : a.eval x = y) (hK : wpList P ops Q rest (a.put o.dst v1) w1) : wpList P ops Q (o :: rest) a W := by
  refine wpList_plain hg fun K hK' => ?_
  unfold Oper.wp execOp
  simp only [ho, resolve, invoke, builtin, Sem.run_bind, Sem.run_pure, Result.andThen_ok, List.map_toArray, List.map_cons, List.map_nil, hs, hx, hty, hrun]
  exact hK' _ _ hK
end

theorem append_extract {P : Program} {t : TypeId} {v y : Value} {W : World} {Φ : Value → World → Prop}
    (h : ∀ (o : Oper) (a : Act) (Kc : Act → World → Prop) (Q : Exit → Act → World → Prop), o.guard = none → o.op = .call { callee := .builtin .append, args := #[.const v, .const y], argTypes := #[t, t] } → (∀ v1 w1, Φ v1 w1 → Kc (a.put o.dst v1) w1) → Oper.wp P o a W Kc Q) (ty : TypeId) :
    ∃ v1 w1, (Builtin.append_ #[t, t] ty #[v, y]).run P W = .ok v1 w1 ∧ Φ v1 w1 := by
  have h1 := h { dst := some 0, op := .call { callee := .builtin .append, args := #[.const v, .const y], argTypes := #[t, t] }, type := ty, pos := "", after := #[], guard := none } ⟨#[undef], []⟩
    (fun a' w' => ∃ v1, a'.tmps = #[v1] ∧ Φ v1 w') (fun _ _ _ => False) rfl rfl (fun v1 w1 hp => ⟨v1, rfl, hp⟩)
  unfold Oper.wp execOp at h1
  simp only [resolve, invoke, builtin, Sem.run_bind, Sem.run_pure, Result.andThen_ok, List.map_toArray, List.map_cons, List.map_nil] at h1
  have e1 : Act.eval ⟨#[undef], []⟩ (.const v) = v := rfl
  have e2 : Act.eval ⟨#[undef], []⟩ (.const y) = y := rfl
  rw [e1, e2] at h1
  cases hr : (Builtin.append_ #[t, t] ty #[v, y]).run P W with
  | ok v1 w1 =>
    rw [hr] at h1
    obtain ⟨v2, h2, h3⟩ := h1
    have : v1 = v2 := by
      have h4 : (Act.put (⟨#[undef], []⟩ : Act) (some 0) v1).tmps = #[v2] := h2
      simpa [Act.put] using h4
    subst this
    exact ⟨v1, w1, rfl, h3⟩
  | halt e w1 =>
    rw [hr] at h1
    cases e <;> exact absurd h1 (by simp [Result.andThen, Oper.upon])

end Go.Proofs.Ytjbjongahnocdaa.Lib

/- Appends and stores of a row of one's own, as equations on the run. -/
namespace Go.Proofs.Ytjbjongahnocdaa.Lib
open Go.RowKit Go.Proofs.YtjbjongahnocdaaW.PrintWords Go.Proofs.YtjbjongahnocdaaW.PrintLast Go.Proofs.YtjbjongahnocdaaW.PrintMore
set_option linter.unusedVariables false

/-- append(v, p), p laid in a new block. -/
theorem append_one {α : Type} (d : Kd α) {P : Program} {w0 W : World} (base : Nat) (t ty e : TypeId) (z : Value) (bytes : Nat) (ht : P.underlying t = some (.slice e)) (hinfo : (P.info? e).map (fun i => (i.zero, i.size, i.bytes)) = some (some z, d.sz, bytes)) (hz : z.cells.size = d.sz) (hs0 : 0 < d.sz) (hb0 : 0 < bytes)
    {v : Value} {xs : List α} (p : α) (cs : List Value) {ok : Nat → Prop} (okp : Nat → Prop) (hp : d.M W base okp p cs) (hokp : ∀ k, okp k → ok k ∧ some k ≠ v.ownBlock) (hfresh : ∀ k, W.heap.size ≤ k → ok k)
    (HO : d.R e W base ok v xs) (HB : Below base w0 W) (hbase : base ≤ W.heap.size) (hl : (xs.length + 1) * bytes ≤ 140737488355328) :
    ∃ v1 w1, (Builtin.append_ #[t, t] ty #[v, .slice (some ⟨W.heap.size, 0, none⟩) 1 1]).run P (W.alloc (.cells cs.toArray e)) = .ok v1 w1 ∧ d.R e w1 base ok v1 (xs ++ [p]) ∧ Below base w0 w1 ∧ W.grownBy w1 v.ownBlock ∧ (v1.ownBlock = v.ownBlock ∨ ∃ b, v1.ownBlock = some b ∧ W.heap.size ≤ b) := by
  refine append_extract (P := P) (t := t) (v := v) (y := .slice (some ⟨W.heap.size, 0, none⟩) 1 1) (Φ := fun v1 w1 => d.R e w1 base ok v1 (xs ++ [p]) ∧ Below base w0 w1 ∧ W.grownBy w1 v.ownBlock ∧ (v1.ownBlock = v.ownBlock ∨ ∃ b, v1.ownBlock = some b ∧ W.heap.size ≤ b)) ?_ ty
  intro o a Kc Q hg ho hK
  have hw : Region.wanted o (yielded #[] a.tmps) = true := by simp [Region.wanted, hg]
  have := Kd.R_append_step (P := P) (ops := #[]) (o := o) (a := a) (Q := Q) (Kc := Kc) d (w0 := w0) (W := W) base hw (.const v) (.const (.slice (some ⟨W.heap.size, 0, none⟩) 1 1)) t e z bytes ho ht hinfo hz hs0 hb0 v xs p cs ok okp rfl rfl hp hokp hfresh HO HB hbase hl
    (fun v1 w1 h1 h2 h3 h4 => hK v1 w1 ⟨h1, h2, h3, h4⟩)
  rw [if_pos hw] at this
  exact this

/-- append(v, ys...). -/
theorem append_row {α : Type} (d : Kd α) {P : Program} {w0 W : World} (base : Nat) (t ty e : TypeId) (z : Value) (bytes : Nat) (ht : P.underlying t = some (.slice e)) (hinfo : (P.info? e).map (fun i => (i.zero, i.size, i.bytes)) = some (some z, d.sz, bytes)) (hz : z.cells.size = d.sz) (hs0 : 0 < d.sz) (hb0 : 0 < bytes)
    {v : Value} {xs : List α} (ys : List α) (A : Option Addr) (m c : Nat) {ok : Nat → Prop} (okp : Nat → Prop) {Rr : α → List Value → Prop} (HR : ReadsRow Rr d.sz W A m ys) (hKM : ∀ x cs, Rr x cs → d.M W base okp x cs) (hokp : ∀ k, okp k → ok k ∧ some k ≠ v.ownBlock) (hfresh : ∀ k, W.heap.size ≤ k → ok k)
    (HO : d.R e W base ok v xs) (HB : Below base w0 W) (hbase : base ≤ W.heap.size) (hl : (xs.length + m) * bytes ≤ 140737488355328) :
    ∃ v1 w1, (Builtin.append_ #[t, t] ty #[v, .slice A m c]).run P W = .ok v1 w1 ∧ d.R e w1 base ok v1 (xs ++ ys) ∧ Below base w0 w1 ∧ W.grownBy w1 v.ownBlock ∧ (v1.ownBlock = v.ownBlock ∨ ∃ b, v1.ownBlock = some b ∧ W.heap.size ≤ b) := by
  refine append_extract (P := P) (t := t) (v := v) (y := .slice A m c) (Φ := fun v1 w1 => d.R e w1 base ok v1 (xs ++ ys) ∧ Below base w0 w1 ∧ W.grownBy w1 v.ownBlock ∧ (v1.ownBlock = v.ownBlock ∨ ∃ b, v1.ownBlock = some b ∧ W.heap.size ≤ b)) ?_ ty
  intro o a Kc Q hg ho hK
  have hw : Region.wanted o (yielded #[] a.tmps) = true := by simp [Region.wanted, hg]
  have := Kd.R_append_rows_step (P := P) (ops := #[]) (o := o) (a := a) (Q := Q) (Kc := Kc) d (Rr := Rr) (w0 := w0) (W := W) base hw (.const v) (.const (.slice A m c)) t e z bytes ho ht hinfo hz hs0 hb0 v xs ys A m c ok okp rfl rfl HO HR hKM hokp hfresh HB hbase hl
    (fun v1 w1 h1 h2 h3 h4 => hK v1 w1 ⟨h1, h2, h3, h4⟩)
  rw [if_pos hw] at this
  exact this
theorem R_addr {W : World} {base e n c : Nat} {ok : Nat → Prop} {α : Type} {d : Kd α} {A : Option Addr} {xs : List α} (h : d.R e W base ok (.slice A n c) xs) (hn : 0 < xs.length) : ∃ g, A = some ⟨g, 0, none⟩ := by
  obtain ⟨inner, h1⟩ := Kd.R_own h
  obtain ⟨g, cap, e1, _⟩ := h1.form hn
  injection e1 with e1 _ _
  exact ⟨g, e1⟩
end Go.Proofs.Ytjbjongahnocdaa.Lib

/- The functions of this session that stand for Go functions which the print does not take: plain Lean, no program. -/
namespace Go.Proofs.Ytjbjongahnocdaa.Defs
open Go.RowKit Go.Proofs.YtjbjongahnocdaaW.PrintWords

/-! ### is a list an order -/
def isOrderGo (n : Nat) : List Int → List Int → Bool
  | [], _ => true
  | x :: xs, seen => if 1 ≤ x ∧ x ≤ n ∧ x ∉ seen then isOrderGo n xs (x :: seen) else false
def isOrderB (l : List Int) : Bool := decide (l.length ≤ 60) && isOrderGo l.length l []

/-! ### one stack -/
def nextIs (s lft : List Int) : Bool := match s with | [] => false | a :: _ => decide (a = (lft.length : Int) + 1)
def drainS : List Int → List Int → List Int → List Int × List Int × List Int
  | [], lft, plan => ([], lft, plan)
  | x :: s, lft, plan => if x = (lft.length : Int) + 1 then drainS s (lft ++ [x]) (plan ++ [111]) else (x :: s, lft, plan)
def stackGo : List Int → List Int × List Int × List Int → List Int × List Int × List Int
  | [], st => st
  | x :: xs, (s, lft, plan) => stackGo xs (drainS (x :: s) lft (plan ++ [105]))


def passIn (x : Int) : List Int → List Int → List Int × List Int
  | [], lft => ([], lft)
  | t :: s, lft => if t < x then passIn x s (lft ++ [t]) else (t :: s, lft)
def passGo : List Int → List Int × List Int → List Int × List Int
  | [], st => st
  | x :: xs, (s, lft) => passGo xs (x :: (passIn x s lft).1, (passIn x s lft).2)

/-! ### queues -/
/-- The queue of an item: the first one whose last item is smaller. -/
def placeQ (order last : List Int) (x : Int) : Nat := last.findIdx (fun k => decide (order.getD k.toNat 0 < x))
def lastFor (order last : List Int) (x i : Int) : List Int := if placeQ order last x < last.length then last else last ++ [i]
def beforeOf (last : List Int) (q : Nat) : Int := if q = 0 then -1 else last.getD (q - 1) 0
def placesGo (order : List Int) : List Int → Int → List Int → List (Int × Int) → List (Int × Int)
  | [], _, _, out => out
  | x :: xs, i, last, out => placesGo order xs (i + 1) ((lastFor order last x i).set (placeQ order last x) i) (out ++ [((placeQ order last x : Int), beforeOf (lastFor order last x i) (placeQ order last x))])
def placesB (order : List Int) : List (Int × Int) := placesGo order order 0 [] []


/-! ### ranks -/
def rankSum (all : List Int) (n first : Int) : Nat → Int → Int → Int
  | 0, _, sum => sum
  | m + 1, k, sum => rankSum all n first m (k + 1) (wrap64 (sum + wrap64 (all.getD (k - 1).toNat 0 * all.getD (n - k).toNat 0)))
def rankF (all : List Int) : Nat → List Int → Int → Option Int
  | 0, _, _ => none
  | _ + 1, [], _ => some 0
  | k + 1, x :: t, less =>
    if 0 ≤ less ∧ less ≤ 100 ∧ 0 ≤ x ∧ x ≤ 100 ∧ 1 ≤ x - less ∧ x - less ≤ (x :: t).length ∧ (x :: t).length < all.length then
      (rankF all k (((x :: t).take (x - less).toNat).drop 1) less).bind fun a =>
        (rankF all k ((x :: t).drop (x - less).toNat) (less + (x - less))).bind fun b =>
          some (wrap64 (wrap64 (rankSum all (x :: t).length (x - less) (x - less - 1).toNat 1 0 + wrap64 (a * all.getD (((x :: t).length : Int) - (x - less)).toNat 0)) + b))
    else none

/-! ### the order of a rank -/
def firstF (all : List Int) (n : Int) : Nat → Int → Int → Option (Int × Int)
  | 0, _, _ => none
  | m + 1, first, k =>
    if 1 ≤ first ∧ first ≤ n then
      (if wrap64 (rd all (first - 1) * rd all (n - first)) ≤ k then firstF all n m (first + 1) (wrap64 (k - wrap64 (rd all (first - 1) * rd all (n - first)))) else some (first, k))
    else none
def buildF (all : List Int) : Nat → Int → Int → Int → Option (List Int)
  | 0, _, _, _ => none
  | f + 1, n, k, less =>
    if n = 0 then some []
    else if 0 < n ∧ n < all.length ∧ 0 ≤ less ∧ less ≤ 100 then
      (firstF all n (n.toNat + 1) 1 k).bind fun p =>
        if rd all (n - p.1) = 0 then none else
          (buildF all f (p.1 - 1) (wrap64 (Int.tdiv p.2 (rd all (n - p.1)))) less).bind fun a =>
            (buildF all f (n - p.1) (Int.tmod p.2 (rd all (n - p.1))) (less + p.1)).bind fun b =>
              if a.length ≤ 1000 ∧ b.length ≤ 1000 then some ((less + p.1) :: a ++ b) else none
    else none
theorem firstF_range (all : List Int) (n : Int) : ∀ (m : Nat) (first k : Int) (p : Int × Int), firstF all n m first k = some p → 1 ≤ p.1 ∧ p.1 ≤ n
  | 0, _, _, _, h => by cases h
  | m + 1, first, k, p, h => by
    unfold firstF at h
    by_cases c : 1 ≤ first ∧ first ≤ n
    · rw [if_pos c] at h
      split at h
      · exact firstF_range all n m _ _ p h
      · injection h with h
        subst h
        exact c
    · rw [if_neg c] at h
      cases h

/-! ### two stacks: items leave as soon as possible (tops first) -/
def pop1 (s : List Int) (w : Int) : List Int × Int × Bool :=
  match s with
  | [] => ([], w, false)
  | a :: t => if a = w then (t, w + 1, true) else (a :: t, w, false)
def drain2 : Nat → List Int → List Int → Int → List Int × List Int × Int
  | 0, s0, s1, w => (s0, s1, w)
  | f + 1, s0, s1, w =>
    if ((pop1 s0 w).2.2 || (pop1 s1 (pop1 s0 w).2.1).2.2) = true then drain2 f (pop1 s0 w).1 (pop1 s1 (pop1 s0 w).2.1).1 (pop1 s1 (pop1 s0 w).2.1).2.1
    else (s0, s1, w)
def sidesGo : List (Int × Int) → List Int → List Int → Int → Option Int
  | [], _, _, w => some w
  | (x, s) :: xs, s0, s1, w =>
    if s < 0 ∨ s > 1 then none
    else
      sidesGo xs (drain2 ((if s = 0 then x :: s0 else s0).length + (if s = 0 then s1 else x :: s1).length + 1) (if s = 0 then x :: s0 else s0) (if s = 0 then s1 else x :: s1) w).1
        (drain2 ((if s = 0 then x :: s0 else s0).length + (if s = 0 then s1 else x :: s1).length + 1) (if s = 0 then x :: s0 else s0) (if s = 0 then s1 else x :: s1) w).2.1
        (drain2 ((if s = 0 then x :: s0 else s0).length + (if s = 0 then s1 else x :: s1).length + 1) (if s = 0 then x :: s0 else s0) (if s = 0 then s1 else x :: s1) w).2.2


end Go.Proofs.Ytjbjongahnocdaa.Defs

namespace Go.Proofs.Ytjbjongahnocdaa.S
open Go.Proofs.Ytjbjongahnocdaa.Lib
open Go.Proofs.Ytjbjongahnocdaa.Defs
open Go.Maps (Keyed)
open Go.RowKit Go.Proofs.YtjbjongahnocdaaW.PrintWords Go.Proofs.YtjbjongahnocdaaW.PrintLast Go.Proofs.YtjbjongahnocdaaW.PrintMore
attribute [local go_sem] max2_int min2_int max_two min_two max_three min_three max_four min_four   -- for this text's walks alone
set_option linter.unusedVariables false
set_option linter.unusedSimpArgs false



def errW : Option Int → Value
  | none => .nilIface
  | some c => .iface 0 (.int .i64 c)
theorem errW_none : errW none = .nilIface := rfl
theorem errW_some (c : Int) : errW (some c) = .iface 0 (.int .i64 c) := rfl

theorem info3 : (Try.prog.info? 3).map (fun i => (i.zero, i.size, i.bytes)) = some (some (.int .i64 0), 1, 8) := by kernel_rfl
theorem info5 : (Try.prog.info? 5).map (fun i => (i.zero, i.size, i.bytes)) = some (some (.int .u8 0), 1, 1) := by kernel_rfl
theorem info22 : (Try.prog.info? 22).map (fun i => (i.zero, i.size, i.bytes)) = some (some (.slice none 0 0), 1, 24) := by kernel_rfl
theorem info82 : (Try.prog.info? 82).map (fun i => (i.zero, i.size, i.bytes)) = some (some (.agg #[(.int .i64 0), (.int .i64 0)]), 2, 16) := by kernel_rfl
-- the values' own types
def rd_L1 (xs : List (List Int)) (i : Int) : (List Int) := xs.getD i.toNat ([] : List Int)
theorem at_L1 {w : World} {A : Option Addr} {n : Nat} {xs : List (List Int)} (h : Kd.C (Kd.slice 3 (Kd.int .i64)) w A n xs) (i : Int) (h0 : 0 ≤ i) (h1 : i < n) : ∃ ad A0 c0, A = some ad ∧ w.cell? (ad.add i.toNat) = some (.slice A0 (rd_L1 xs i).length c0) ∧ (rd_L1 xs i).length ≤ c0 ∧ (Kd.int .i64).C w A0 (rd_L1 xs i).length (rd_L1 xs i) := by
  obtain ⟨ad, c, e, _, hK, hc0⟩ := Kd.C_get h ([] : List Int) i h0 h1
  have hc : ∀ j u, c[j]? = some u → w.cell? (ad.add (i.toNat * 1 + j)) = some u := hc0
  obtain ⟨A0, c0, rfl, l0, g0⟩ := hK
  exact ⟨ad, A0, c0, e, by have hq := hc 0 _ rfl; rwa [Nat.mul_one, Nat.add_zero] at hq, l0, g0⟩

/-! #### struct type 69 -/
structure S69 where
  f0 : (List Int)
def z69 : S69 := ⟨([] : List Int)⟩
def k69 : Kd S69 := Kd.iso (Kd.slice 3 (Kd.int .i64)) (fun x : S69 => x.f0)
theorem k69_open {w : World} {x : S69} {cs : List Value} (h : k69.K w x cs) : ∃ A0 c0, cs = [.slice A0 x.f0.length c0] ∧ x.f0.length ≤ c0 ∧ (Kd.int .i64).C w A0 x.f0.length x.f0 := by
  obtain ⟨A0, c0, rfl, l0, g0⟩ := h
  exact ⟨A0, c0, rfl, l0, g0⟩
theorem k69_openM {w : World} {base : Nat} {ok : Nat → Prop} {x : S69} {cs : List Value} (h : k69.M w base ok x cs) : ∃ v0, cs = [v0] ∧ (Kd.int .i64).R 3 w base ok v0 x.f0 := by
  obtain ⟨v0, rfl, g0⟩ := h
  exact ⟨v0, rfl, g0⟩
theorem k69_mk (w : World) (x : S69) {A0 : Option Addr} {c0 : Nat} (l0 : x.f0.length ≤ c0) (g0 : (Kd.int .i64).C w A0 x.f0.length x.f0) : k69.K w x [.slice A0 x.f0.length c0] := ⟨A0, c0, rfl, l0, g0⟩
theorem k69_mkM (w : World) (base : Nat) (ok : Nat → Prop) (x : S69) {v0 : Value} (g0 : (Kd.int .i64).R 3 w base ok v0 x.f0) : k69.M w base ok x [v0] := ⟨v0, rfl, g0⟩
theorem k69_openF {W : World} {ok : Nat → Prop} {x : S69} {cs : List Value} (h : Kd.FK k69 W ok x cs) : ∃ A0 c0, cs = [.slice A0 x.f0.length c0] ∧ x.f0.length ≤ c0 ∧ Kd.F (Kd.int .i64) W ok A0 x.f0.length x.f0 := by
  obtain ⟨A0, c0, rfl, l0, _⟩ := k69_open (Kd.FK_now h)
  exact ⟨A0, c0, rfl, l0, (fun W' hW => by obtain ⟨A0_, c0_, he, l0_, g0_⟩ := k69_open (h W' hW); injection (Option.some.inj (show some (Value.slice A0 x.f0.length c0) = some (Value.slice A0_ x.f0.length c0_) from congrArg (fun l => l[0]?) he)) with ha_ _ _; rw [ha_]; exact g0_)⟩
theorem k69_mkF (W : World) (ok : Nat → Prop) (x : S69) {A0 : Option Addr} {c0 : Nat} (l0 : x.f0.length ≤ c0) (g0 : Kd.F (Kd.int .i64) W ok A0 x.f0.length x.f0) : Kd.FK k69 W ok x [.slice A0 x.f0.length c0] := fun W2 hW => k69_mk W2 x l0 (g0 W2 hW)
def rd_T69 (xs : List S69) (i : Int) : S69 := xs.getD i.toNat z69
theorem at_T69 {w : World} {A : Option Addr} {n : Nat} {xs : List S69} (h : Kd.C k69 w A n xs) (i : Int) (h0 : 0 ≤ i) (h1 : i < n) : ∃ ad A0 c0, A = some ad ∧ w.cell? (ad.add i.toNat) = some (.slice A0 (rd_T69 xs i).f0.length c0) ∧ (rd_T69 xs i).f0.length ≤ c0 ∧ (Kd.int .i64).C w A0 (rd_T69 xs i).f0.length (rd_T69 xs i).f0 := by
  obtain ⟨ad, c, e, _, hK, hc0⟩ := Kd.C_get h z69 i h0 h1
  have hc : ∀ j u, c[j]? = some u → w.cell? (ad.add (i.toNat * 1 + j)) = some u := hc0
  obtain ⟨A0, c0, rfl, l0, g0⟩ := k69_open hK
  exact ⟨ad, A0, c0, e, by have hq := hc 0 _ rfl; rwa [Nat.mul_one, Nat.add_zero] at hq, l0, g0⟩

/-! #### struct type 71 -/
structure S71 where
  f0 : S69
  f1 : (List Int)
def z71 : S71 := ⟨z69, ([] : List Int)⟩
def k71 : Kd S71 := Kd.iso (Kd.pair k69 (Kd.slice 3 (Kd.int .i64))) (fun x : S71 => (x.f0, x.f1))
theorem k71_open {w : World} {x : S71} {cs : List Value} (h : k71.K w x cs) : ∃ A0 c0 A1 c1, cs = [.slice A0 x.f0.f0.length c0, .slice A1 x.f1.length c1] ∧ x.f0.f0.length ≤ c0 ∧ (Kd.int .i64).C w A0 x.f0.f0.length x.f0.f0 ∧ x.f1.length ≤ c1 ∧ (Kd.int .i64).C w A1 x.f1.length x.f1 := by
  obtain ⟨_, _, rfl, s0, ⟨A1, c1, rfl, l1, g1⟩⟩ := h
  obtain ⟨A0, c0, rfl, l0, g0⟩ := k69_open s0
  exact ⟨A0, c0, A1, c1, rfl, l0, g0, l1, g1⟩
theorem k71_openM {w : World} {base : Nat} {ok : Nat → Prop} {x : S71} {cs : List Value} (h : k71.M w base ok x cs) : ∃ v0 v1, cs = [v0, v1] ∧ (Kd.int .i64).R 3 w base ok v0 x.f0.f0 ∧ (Kd.int .i64).R 3 w base ok v1 x.f1 := by
  obtain ⟨_, _, rfl, s0, ⟨v1, rfl, g1⟩⟩ := h
  obtain ⟨v0, rfl, g0⟩ := k69_openM s0
  exact ⟨v0, v1, rfl, g0, g1⟩
theorem k71_mk (w : World) (x : S71) {A0 : Option Addr} {c0 : Nat} (l0 : x.f0.f0.length ≤ c0) (g0 : (Kd.int .i64).C w A0 x.f0.f0.length x.f0.f0) {A1 : Option Addr} {c1 : Nat} (l1 : x.f1.length ≤ c1) (g1 : (Kd.int .i64).C w A1 x.f1.length x.f1) : k71.K w x [.slice A0 x.f0.f0.length c0, .slice A1 x.f1.length c1] := ⟨[.slice A0 x.f0.f0.length c0], [.slice A1 x.f1.length c1], rfl, (k69_mk w x.f0 l0 g0), ⟨A1, c1, rfl, l1, g1⟩⟩
theorem k71_mkM (w : World) (base : Nat) (ok : Nat → Prop) (x : S71) {v0 : Value} (g0 : (Kd.int .i64).R 3 w base ok v0 x.f0.f0) {v1 : Value} (g1 : (Kd.int .i64).R 3 w base ok v1 x.f1) : k71.M w base ok x [v0, v1] := ⟨[v0], [v1], rfl, (k69_mkM w base ok x.f0 g0), ⟨v1, rfl, g1⟩⟩
theorem k71_openF {W : World} {ok : Nat → Prop} {x : S71} {cs : List Value} (h : Kd.FK k71 W ok x cs) : ∃ A0 c0 A1 c1, cs = [.slice A0 x.f0.f0.length c0, .slice A1 x.f1.length c1] ∧ x.f0.f0.length ≤ c0 ∧ Kd.F (Kd.int .i64) W ok A0 x.f0.f0.length x.f0.f0 ∧ x.f1.length ≤ c1 ∧ Kd.F (Kd.int .i64) W ok A1 x.f1.length x.f1 := by
  obtain ⟨A0, c0, A1, c1, rfl, l0, _, l1, _⟩ := k71_open (Kd.FK_now h)
  exact ⟨A0, c0, A1, c1, rfl, l0, (fun W' hW => by obtain ⟨A0_, c0_, A1_, c1_, he, l0_, g0_, l1_, g1_⟩ := k71_open (h W' hW); injection (Option.some.inj (show some (Value.slice A0 x.f0.f0.length c0) = some (Value.slice A0_ x.f0.f0.length c0_) from congrArg (fun l => l[0]?) he)) with ha_ _ _; rw [ha_]; exact g0_), l1, (fun W' hW => by obtain ⟨A0_, c0_, A1_, c1_, he, l0_, g0_, l1_, g1_⟩ := k71_open (h W' hW); injection (Option.some.inj (show some (Value.slice A1 x.f1.length c1) = some (Value.slice A1_ x.f1.length c1_) from congrArg (fun l => l[1]?) he)) with ha_ _ _; rw [ha_]; exact g1_)⟩
theorem k71_mkF (W : World) (ok : Nat → Prop) (x : S71) {A0 : Option Addr} {c0 : Nat} (l0 : x.f0.f0.length ≤ c0) (g0 : Kd.F (Kd.int .i64) W ok A0 x.f0.f0.length x.f0.f0) {A1 : Option Addr} {c1 : Nat} (l1 : x.f1.length ≤ c1) (g1 : Kd.F (Kd.int .i64) W ok A1 x.f1.length x.f1) : Kd.FK k71 W ok x [.slice A0 x.f0.f0.length c0, .slice A1 x.f1.length c1] := fun W2 hW => k71_mk W2 x l0 (g0 W2 hW) l1 (g1 W2 hW)
def rd_T71 (xs : List S71) (i : Int) : S71 := xs.getD i.toNat z71
theorem at_T71 {w : World} {A : Option Addr} {n : Nat} {xs : List S71} (h : Kd.C k71 w A n xs) (i : Int) (h0 : 0 ≤ i) (h1 : i < n) : ∃ ad A0 c0 A1 c1, A = some ad ∧ w.cell? (ad.add (i.toNat * 2)) = some (.slice A0 (rd_T71 xs i).f0.f0.length c0) ∧ w.cell? ⟨(ad.add (i.toNat * 2)).block, (ad.add (i.toNat * 2)).off + 1, none⟩ = some (.slice A1 (rd_T71 xs i).f1.length c1) ∧ (rd_T71 xs i).f0.f0.length ≤ c0 ∧ (Kd.int .i64).C w A0 (rd_T71 xs i).f0.f0.length (rd_T71 xs i).f0.f0 ∧ (rd_T71 xs i).f1.length ≤ c1 ∧ (Kd.int .i64).C w A1 (rd_T71 xs i).f1.length (rd_T71 xs i).f1 := by
  obtain ⟨ad, c, e, _, hK, hc0⟩ := Kd.C_get h z71 i h0 h1
  have hc : ∀ j u, c[j]? = some u → w.cell? (ad.add (i.toNat * 2 + j)) = some u := hc0
  obtain ⟨A0, c0, A1, c1, rfl, l0, g0, l1, g1⟩ := k71_open hK
  exact ⟨ad, A0, c0, A1, c1, e, hc 0 _ rfl, by rw [← add_field _ _ 1 (by omega)]; exact hc 1 _ rfl, l0, g0, l1, g1⟩

/-! #### struct type 82 -/
structure S82 where
  f0 : Int
  f1 : Int
def z82 : S82 := ⟨(0 : Int), (0 : Int)⟩
def k82 : Kd S82 := Kd.iso (Kd.pair (Kd.int .i64) (Kd.int .i64)) (fun x : S82 => (x.f0, x.f1))
theorem k82_open {w : World} {x : S82} {cs : List Value} (h : k82.K w x cs) : cs = [.int .i64 x.f0, .int .i64 x.f1] := by
  obtain ⟨_, _, rfl, rfl, rfl⟩ := h
  exact rfl
theorem k82_openM {w : World} {base : Nat} {ok : Nat → Prop} {x : S82} {cs : List Value} (h : k82.M w base ok x cs) : cs = [.int .i64 x.f0, .int .i64 x.f1] := by
  obtain ⟨_, _, rfl, rfl, rfl⟩ := h
  exact rfl
theorem k82_mk (w : World) (x : S82)  : k82.K w x [.int .i64 x.f0, .int .i64 x.f1] := ⟨[.int .i64 x.f0], [.int .i64 x.f1], rfl, rfl, rfl⟩
theorem k82_mkM (w : World) (base : Nat) (ok : Nat → Prop) (x : S82)  : k82.M w base ok x [.int .i64 x.f0, .int .i64 x.f1] := ⟨[.int .i64 x.f0], [.int .i64 x.f1], rfl, rfl, rfl⟩
theorem k82_mkF (W : World) (ok : Nat → Prop) (x : S82) : Kd.FK k82 W ok x [.int .i64 x.f0, .int .i64 x.f1] := fun W2 _ => k82_mk W2 x
def rd_T82 (xs : List S82) (i : Int) : S82 := xs.getD i.toNat z82
theorem at_T82 {w : World} {A : Option Addr} {n : Nat} {xs : List S82} (h : Kd.C k82 w A n xs) (i : Int) (h0 : 0 ≤ i) (h1 : i < n) : ∃ ad , A = some ad ∧ w.cell? (ad.add (i.toNat * 2)) = some (.int .i64 (rd_T82 xs i).f0) ∧ w.cell? ⟨(ad.add (i.toNat * 2)).block, (ad.add (i.toNat * 2)).off + 1, none⟩ = some (.int .i64 (rd_T82 xs i).f1) := by
  obtain ⟨ad, c, e, _, hK, hc0⟩ := Kd.C_get h z82 i h0 h1
  have hc : ∀ j u, c[j]? = some u → w.cell? (ad.add (i.toNat * 2 + j)) = some u := hc0
  obtain rfl := k82_open hK
  exact ⟨ad, e, hc 0 _ rfl, by rw [← add_field _ _ 1 (by omega)]; exact hc 1 _ rfl⟩

def rd_L5 (xs : List (List S82)) (i : Int) : (List S82) := xs.getD i.toNat ([] : List S82)
theorem at_L5 {w : World} {A : Option Addr} {n : Nat} {xs : List (List S82)} (h : Kd.C (Kd.slice 82 k82) w A n xs) (i : Int) (h0 : 0 ≤ i) (h1 : i < n) : ∃ ad A0 c0, A = some ad ∧ w.cell? (ad.add i.toNat) = some (.slice A0 (rd_L5 xs i).length c0) ∧ (rd_L5 xs i).length ≤ c0 ∧ k82.C w A0 (rd_L5 xs i).length (rd_L5 xs i) := by
  obtain ⟨ad, c, e, _, hK, hc0⟩ := Kd.C_get h ([] : List S82) i h0 h1
  have hc : ∀ j u, c[j]? = some u → w.cell? (ad.add (i.toNat * 1 + j)) = some u := hc0
  obtain ⟨A0, c0, rfl, l0, g0⟩ := hK
  exact ⟨ad, A0, c0, e, by have hq := hc 0 _ rfl; rwa [Nat.mul_one, Nat.add_zero] at hq, l0, g0⟩

end Go.Proofs.Ytjbjongahnocdaa.S

namespace Go.Proofs.Ytjbjongahnocdaa.S
open Go.Proofs.Ytjbjongahnocdaa.Lib
open Go.Proofs.Ytjbjongahnocdaa.Defs
open Go.Maps (Keyed)
open Go.RowKit Go.Proofs.YtjbjongahnocdaaW.PrintWords Go.Proofs.YtjbjongahnocdaaW.PrintLast Go.Proofs.YtjbjongahnocdaaW.PrintMore
attribute [local go_sem] max2_int min2_int max_two min_two max_three min_three max_four min_four   -- for this text's walks alone
set_option linter.unusedVariables false
set_option linter.unusedSimpArgs false

/-! ### tickinglaw02_tame: function 27 -/
mutual
def tickinglaw02_tame.l0 : Nat → List Int → List Int → Int → Int → Option (List Int)
  | 0, _, _, _, _ => none
  | k + 1, x0, x5, x6, x7 => if x7 < x6 then (tickinglaw02_tame.l1 k x0 x5 x6 x7 1 0) else (some x5)
def tickinglaw02_tame.l1 : Nat → List Int → List Int → Int → Int → Int → Int → Option (List Int)
  | 0, _, _, _, _, _, _ => none
  | k + 1, x0, x5, x6, x7, x8, x9 => if x9 < x6 then (if 0 ≤ x9 then (if x9 < (x0.length : Int) then (if 0 ≤ x7 then (if x7 < (x0.length : Int) then (if (rd x0 x9) < (rd x0 x7) then (tickinglaw02_tame.l1 k x0 x5 x6 x7 (wrap64 (x8 + 1)) (wrap64 (x9 + 1))) else (if (rd x0 x9) = (rd x0 x7) then (if x9 < x7 then (tickinglaw02_tame.l1 k x0 x5 x6 x7 (wrap64 (x8 + 1)) (wrap64 (x9 + 1))) else (tickinglaw02_tame.l1 k x0 x5 x6 x7 x8 (wrap64 (x9 + 1)))) else (tickinglaw02_tame.l1 k x0 x5 x6 x7 x8 (wrap64 (x9 + 1))))) else (none)) else (none)) else (none)) else (none)) else (if x5.length < 17592186044416 then (tickinglaw02_tame.l0 k x0 (x5 ++ [x8]) x6 (wrap64 (x7 + 1))) else (none))
end
def tickinglaw02_tame.f (k : Nat) (l0 : List Int) (a1 : Int) : Option (List Int) := tickinglaw02_tame.l0 k l0 ([] : List Int) (mn (l0.length : Int) a1) 0
theorem tickinglaw02_tame.mono_l : ∀ k, (∀ y0 y1 y2 y3, LeO (tickinglaw02_tame.l0 k y0 y1 y2 y3) (tickinglaw02_tame.l0 (k + 1) y0 y1 y2 y3)) ∧ (∀ y0 y1 y2 y3 y4 y5, LeO (tickinglaw02_tame.l1 k y0 y1 y2 y3 y4 y5) (tickinglaw02_tame.l1 (k + 1) y0 y1 y2 y3 y4 y5))
  | 0 => ⟨fun _ _ _ _ r h => by simp [tickinglaw02_tame.l0] at h, fun _ _ _ _ _ _ r h => by simp [tickinglaw02_tame.l1] at h⟩
  | k + 1 => by
    obtain ⟨ih0, ih1⟩ := tickinglaw02_tame.mono_l k
    refine ⟨?_, ?_⟩
    · intro y0 y1 y2 y3
      unfold tickinglaw02_tame.l0
      repeat' first
      | (with_reducible exact ih0 _ _ _ _)
      | (with_reducible exact ih1 _ _ _ _ _ _)
      | (with_reducible exact LeO.refl _)
      | (with_reducible exact LeO.none _)
      | (with_reducible refine LeO.ite ?_ ?_)
      | (with_reducible refine LeO.bind ?_ (fun _ => ?_))
      | exact ih0 _ _ _ _
      | exact ih1 _ _ _ _ _ _
      | exact LeO.none _
      | refine LeO.ite ?_ ?_
      | refine LeO.bind ?_ (fun _ => ?_)
    · intro y0 y1 y2 y3 y4 y5
      unfold tickinglaw02_tame.l1
      repeat' first
      | (with_reducible exact ih0 _ _ _ _)
      | (with_reducible exact ih1 _ _ _ _ _ _)
      | (with_reducible exact LeO.refl _)
      | (with_reducible exact LeO.none _)
      | (with_reducible refine LeO.ite ?_ ?_)
      | (with_reducible refine LeO.bind ?_ (fun _ => ?_))
      | exact ih0 _ _ _ _
      | exact ih1 _ _ _ _ _ _
      | exact LeO.none _
      | refine LeO.ite ?_ ?_
      | refine LeO.bind ?_ (fun _ => ?_)
theorem tickinglaw02_tame.mono : ∀ a0 a1 k, LeO (tickinglaw02_tame.f k a0 a1) (tickinglaw02_tame.f (k + 1) a0 a1) := by
  intro a0 a1 k
  obtain ⟨ih0, ih1⟩ := tickinglaw02_tame.mono_l k
  unfold tickinglaw02_tame.f
  repeat' first
      | (with_reducible exact ih0 _ _ _ _)
      | (with_reducible exact ih1 _ _ _ _ _ _)
      | (with_reducible exact LeO.refl _)
      | (with_reducible exact LeO.none _)
      | (with_reducible refine LeO.ite ?_ ?_)
      | (with_reducible refine LeO.bind ?_ (fun _ => ?_))
      | exact ih0 _ _ _ _
      | exact ih1 _ _ _ _ _ _
      | exact LeO.none _
      | refine LeO.ite ?_ ?_
      | refine LeO.bind ?_ (fun _ => ?_)
set_option maxHeartbeats 8000000 in
set_option maxRecDepth 100000 in
theorem tickinglaw02_tame.calls (k : Nat) (A0 : Option Addr) (c0 : Nat) (l0 : List Int) (a1 : Int) (r : List Int) (w : World) (hr0 : Kd.C (Kd.int .i64) w A0 l0.length l0) (hc0 : l0.length ≤ c0) (h : tickinglaw02_tame.f k l0 a1 = some r) :
    Calls Try.prog 27 #[.slice A0 l0.length c0, .int .i64 a1] w fun e w' => ∃ v0_ : Value, e = .returned (v0_) ∧ Kd.R (Kd.int .i64) 3 w' w.heap.size (fun _ => True) v0_ r ∧ Below w.heap.size w w' := by
  have HR0 := Aside0.mk hr0
  have HC0 := Aside0.mk hc0
  clear hr0 hc0
  have HB := Aside0.mk (Below.refl w.heap.size w)
  have H : (tickinglaw02_tame.l0 k l0 ([] : List Int) (mn (l0.length : Int) a1) 0) = some r := h
  clear h
  obtain ⟨ji3, hji3⟩ : ∃ j_ : Int, (mn (l0.length : Int) a1) = j_ := ⟨_, rfl⟩
  replace H : (tickinglaw02_tame.l0 k l0 ([] : List Int) ji3 0) = some r := by first | (rw [hji3] at H; exact H) | (simp only [hji3] at H ⊢; exact H)
  have hji3_ : (if a1 < (l0.length : Int) then a1 else (l0.length : Int)) = ji3 := hji3
  have H' := Aside0.mk H
  clear H
  go_enter Try.func27, Try.ntmps27
  go_wp2
  repeat (go_quiet (fail); try go_wp2)
  go_loopg [5, 7] k (fun kq v5 v7 w' => ∃ (x5_1 : List Int) (x7_1 : Int), v7 = .int .i64 x7_1 ∧ Aside0 (tickinglaw02_tame.l0 kq l0 x5_1 ji3 x7_1 = some r) ∧ Aside0 (kq ≤ k) ∧ Aside0 (Kd.R (Kd.int .i64) 3 w' w.heap.size (fun _ => True) v5 x5_1) ∧ Aside0 (Below w.heap.size w w'))
  case atStart => exact ⟨(([] : List Int)), (0), (by first | rfl | (simp; done) | (simp [*]; done)), H', ⟨Nat.le_refl _⟩, ⟨by first | exact Kd.R_nil _ _ _ _ _ | exact Kd.N_nil _ _ _ _ _ | exact Kd.V_nil _ _ _ _ _ | exact Kd.Q_nil _ _ _ _ _ | exact Kd.S_nil _ _ _ _ _⟩, ⟨by repeat (first | (with_reducible first | exact HB.out | apply below_alloc | apply pw_below_drewN | apply below_drew1) | exact HB.out)⟩⟩
  case round =>
    clear H'
    try clear c2
    try clear p2
    obtain ⟨x5_1, x7_1, rfl, HA, HK1, HO_5, HB⟩ := hrel
    cases gk with
    | zero => exact absurd HA.out (by simp [tickinglaw02_tame.l0])
    | succ k1 =>
      have H := HA.out
      clear HA
      simp only [tickinglaw02_tame.l0] at H
      by_cases c4 : x7_1 < ji3
      · rw [if_pos c4] at H
        have c4b0 : decide (x7_1 < ji3) = true := decide_eq_true c4
        clear c4
        have H' := Aside0.mk H
        clear H
        go_wp2
        repeat (go_quiet (fail); try go_wp2)
        go_loopg [8, 9] k1 (fun kq v8 v9 w' => ∃ (x8_2 : Int) (x9_2 : Int), v8 = .int .i64 x8_2 ∧ v9 = .int .i64 x9_2 ∧ Aside0 (tickinglaw02_tame.l1 kq l0 x5_1 ji3 x7_1 x8_2 x9_2 = some r) ∧ Aside0 (kq ≤ k1) ∧ Aside0 (Kd.R (Kd.int .i64) 3 w' w.heap.size (fun _ => True) u5 x5_1) ∧ Aside0 (Below w.heap.size w w'))
        case atStart => exact ⟨(1), (0), (by first | rfl | (simp; done) | (simp [*]; done)), (by first | rfl | (simp; done) | (simp [*]; done)), H', ⟨Nat.le_refl _⟩, ⟨by (with_reducible repeat (first | apply Kd.R_alloc | apply Kd.R_drewN | apply Kd.R_drew)); exact HO_5.out⟩, ⟨by repeat (first | (with_reducible first | exact HB.out | apply below_alloc | apply pw_below_drewN | apply below_drew1) | exact HB.out)⟩⟩
        case round =>
          clear H'
          try clear c2
          try clear p2
          try clear c4
          try clear c4b0
          try clear p2
          obtain ⟨x8_2, x9_2, rfl, rfl, HA, HK2, HO_5, HB⟩ := hrel
          cases gk with
          | zero => exact absurd HA.out (by simp [tickinglaw02_tame.l1])
          | succ k2 =>
            have H := HA.out
            clear HA
            simp only [tickinglaw02_tame.l1] at H
            by_cases c5 : x9_2 < ji3
            · rw [if_pos c5] at H
              have c5b0 : decide (x9_2 < ji3) = true := decide_eq_true c5
              clear c5
              by_cases c6 : 0 ≤ x9_2
              · rw [if_pos c6] at H
                have c6b0 : decide (0 ≤ x9_2) = true := decide_eq_true c6
                clear c6
                by_cases c7 : x9_2 < (l0.length : Int)
                · rw [if_pos c7] at H
                  have c7b0 : decide (x9_2 < (l0.length : Int)) = true := decide_eq_true c7
                  clear c7
                  by_cases c8 : 0 ≤ x7_1
                  · rw [if_pos c8] at H
                    have c8b0 : decide (0 ≤ x7_1) = true := decide_eq_true c8
                    clear c8
                    by_cases c9 : x7_1 < (l0.length : Int)
                    · rw [if_pos c9] at H
                      have c9b0 : decide (x7_1 < (l0.length : Int)) = true := decide_eq_true c9
                      clear c9
                      by_cases c10 : (rd l0 x9_2) < (rd l0 x7_1)
                      · rw [if_pos c10] at H
                        have c10b0 : decide ((rd l0 x9_2) < (rd l0 x7_1)) = true := decide_eq_true c10
                        clear c10
                        have H' := Aside0.mk H
                        clear H
                        have p237 : 0 ≤ (x9_2 : Int) := of_decide_eq_true (by first | (with_reducible assumption) | assumption)
                        have q237 : x9_2 < (l0.length : Int) := of_decide_eq_true (by first | (with_reducible assumption) | assumption)
                        obtain ⟨ad237, e237, hx237_0⟩ := Kd.at_int HR0.out x9_2 p237 q237
                        cases e237
                        replace hx237_0 := (HB.out.cell (World.block_lt_of_cell? w _ hx237_0)).trans hx237_0
                        replace p237 := eq_true p237
                        replace q237 := eq_true q237
                        have p238 : 0 ≤ (x7_1 : Int) := of_decide_eq_true (by first | (with_reducible assumption) | assumption)
                        have q238 : x7_1 < (l0.length : Int) := of_decide_eq_true (by first | (with_reducible assumption) | assumption)
                        obtain ⟨ad238, e238, hx238_0⟩ := Kd.at_int HR0.out x7_1 p238 q238
                        obtain rfl : ad237 = ad238 := (by injection e238)
                        replace hx238_0 := (HB.out.cell (World.block_lt_of_cell? w _ hx238_0)).trans hx238_0
                        replace p238 := eq_true p238
                        replace q238 := eq_true q238
                        go_wp2
                        repeat (go_quiet (fail); try go_wp2)
                        go_roundg k2
                        case measure => have := HK1.out; have := HK2.out; omega
                        case rel => exact ⟨(wrap64 (x8_2 + 1)), (wrap64 (x9_2 + 1)), (by first | rfl | (simp; done) | (simp [*]; done)), (by first | rfl | (simp; done) | (simp [*]; done)), H', ⟨by have := HK1.out; have := HK2.out; omega⟩, ⟨by (with_reducible repeat (first | apply Kd.R_alloc | apply Kd.R_drewN | apply Kd.R_drew)); exact HO_5.out⟩, ⟨by repeat (first | (with_reducible first | exact HB.out | apply below_alloc | apply pw_below_drewN | apply below_drew1) | exact HB.out)⟩⟩
                      · rw [if_neg c10] at H
                        have c10b0 : decide ((rd l0 x9_2) < (rd l0 x7_1)) = false := decide_eq_false c10
                        clear c10
                        by_cases c11 : (rd l0 x9_2) = (rd l0 x7_1)
                        · rw [if_pos c11] at H
                          have c11b0 : ((rd l0 x9_2) == (rd l0 x7_1)) = true := beq_iff_eq.mpr c11
                          have c11b1 : ((rd l0 x9_2) != (rd l0 x7_1)) = false := bne_eq_false_iff_eq.mpr c11
                          clear c11
                          by_cases c12 : x9_2 < x7_1
                          · rw [if_pos c12] at H
                            have c12b0 : decide (x9_2 < x7_1) = true := decide_eq_true c12
                            clear c12
                            have H' := Aside0.mk H
                            clear H
                            have p237 : 0 ≤ (x9_2 : Int) := of_decide_eq_true (by first | (with_reducible assumption) | assumption)
                            have q237 : x9_2 < (l0.length : Int) := of_decide_eq_true (by first | (with_reducible assumption) | assumption)
                            obtain ⟨ad237, e237, hx237_0⟩ := Kd.at_int HR0.out x9_2 p237 q237
                            cases e237
                            replace hx237_0 := (HB.out.cell (World.block_lt_of_cell? w _ hx237_0)).trans hx237_0
                            replace p237 := eq_true p237
                            replace q237 := eq_true q237
                            have p238 : 0 ≤ (x7_1 : Int) := of_decide_eq_true (by first | (with_reducible assumption) | assumption)
                            have q238 : x7_1 < (l0.length : Int) := of_decide_eq_true (by first | (with_reducible assumption) | assumption)
                            obtain ⟨ad238, e238, hx238_0⟩ := Kd.at_int HR0.out x7_1 p238 q238
                            obtain rfl : ad237 = ad238 := (by injection e238)
                            replace hx238_0 := (HB.out.cell (World.block_lt_of_cell? w _ hx238_0)).trans hx238_0
                            replace p238 := eq_true p238
                            replace q238 := eq_true q238
                            have p239 : 0 ≤ (x9_2 : Int) := of_decide_eq_true (by first | (with_reducible assumption) | assumption)
                            have q239 : x9_2 < (l0.length : Int) := of_decide_eq_true (by first | (with_reducible assumption) | assumption)
                            obtain ⟨ad239, e239, hx239_0⟩ := Kd.at_int HR0.out x9_2 p239 q239
                            obtain rfl : ad237 = ad239 := (by injection e239)
                            replace hx239_0 := (HB.out.cell (World.block_lt_of_cell? w _ hx239_0)).trans hx239_0
                            replace p239 := eq_true p239
                            replace q239 := eq_true q239
                            have p240 : 0 ≤ (x7_1 : Int) := of_decide_eq_true (by first | (with_reducible assumption) | assumption)
                            have q240 : x7_1 < (l0.length : Int) := of_decide_eq_true (by first | (with_reducible assumption) | assumption)
                            obtain ⟨ad240, e240, hx240_0⟩ := Kd.at_int HR0.out x7_1 p240 q240
                            obtain rfl : ad237 = ad240 := (by injection e240)
                            replace hx240_0 := (HB.out.cell (World.block_lt_of_cell? w _ hx240_0)).trans hx240_0
                            replace p240 := eq_true p240
                            replace q240 := eq_true q240
                            go_wp2
                            repeat (go_quiet (fail); try go_wp2)
                            go_roundg k2
                            case measure => have := HK1.out; have := HK2.out; omega
                            case rel => exact ⟨(wrap64 (x8_2 + 1)), (wrap64 (x9_2 + 1)), (by first | rfl | (simp; done) | (simp [*]; done)), (by first | rfl | (simp; done) | (simp [*]; done)), H', ⟨by have := HK1.out; have := HK2.out; omega⟩, ⟨by (with_reducible repeat (first | apply Kd.R_alloc | apply Kd.R_drewN | apply Kd.R_drew)); exact HO_5.out⟩, ⟨by repeat (first | (with_reducible first | exact HB.out | apply below_alloc | apply pw_below_drewN | apply below_drew1) | exact HB.out)⟩⟩
                          · rw [if_neg c12] at H
                            have c12b0 : decide (x9_2 < x7_1) = false := decide_eq_false c12
                            clear c12
                            have H' := Aside0.mk H
                            clear H
                            have p237 : 0 ≤ (x9_2 : Int) := of_decide_eq_true (by first | (with_reducible assumption) | assumption)
                            have q237 : x9_2 < (l0.length : Int) := of_decide_eq_true (by first | (with_reducible assumption) | assumption)
                            obtain ⟨ad237, e237, hx237_0⟩ := Kd.at_int HR0.out x9_2 p237 q237
                            cases e237
                            replace hx237_0 := (HB.out.cell (World.block_lt_of_cell? w _ hx237_0)).trans hx237_0
                            replace p237 := eq_true p237
                            replace q237 := eq_true q237
                            have p238 : 0 ≤ (x7_1 : Int) := of_decide_eq_true (by first | (with_reducible assumption) | assumption)
                            have q238 : x7_1 < (l0.length : Int) := of_decide_eq_true (by first | (with_reducible assumption) | assumption)
                            obtain ⟨ad238, e238, hx238_0⟩ := Kd.at_int HR0.out x7_1 p238 q238
                            obtain rfl : ad237 = ad238 := (by injection e238)
                            replace hx238_0 := (HB.out.cell (World.block_lt_of_cell? w _ hx238_0)).trans hx238_0
                            replace p238 := eq_true p238
                            replace q238 := eq_true q238
                            have p239 : 0 ≤ (x9_2 : Int) := of_decide_eq_true (by first | (with_reducible assumption) | assumption)
                            have q239 : x9_2 < (l0.length : Int) := of_decide_eq_true (by first | (with_reducible assumption) | assumption)
                            obtain ⟨ad239, e239, hx239_0⟩ := Kd.at_int HR0.out x9_2 p239 q239
                            obtain rfl : ad237 = ad239 := (by injection e239)
                            replace hx239_0 := (HB.out.cell (World.block_lt_of_cell? w _ hx239_0)).trans hx239_0
                            replace p239 := eq_true p239
                            replace q239 := eq_true q239
                            have p240 : 0 ≤ (x7_1 : Int) := of_decide_eq_true (by first | (with_reducible assumption) | assumption)
                            have q240 : x7_1 < (l0.length : Int) := of_decide_eq_true (by first | (with_reducible assumption) | assumption)
                            obtain ⟨ad240, e240, hx240_0⟩ := Kd.at_int HR0.out x7_1 p240 q240
                            obtain rfl : ad237 = ad240 := (by injection e240)
                            replace hx240_0 := (HB.out.cell (World.block_lt_of_cell? w _ hx240_0)).trans hx240_0
                            replace p240 := eq_true p240
                            replace q240 := eq_true q240
                            go_wp2
                            repeat (go_quiet (fail); try go_wp2)
                            go_roundg k2
                            case measure => have := HK1.out; have := HK2.out; omega
                            case rel => exact ⟨(x8_2), (wrap64 (x9_2 + 1)), (by first | rfl | (simp; done) | (simp [*]; done)), (by first | rfl | (simp; done) | (simp [*]; done)), H', ⟨by have := HK1.out; have := HK2.out; omega⟩, ⟨by (with_reducible repeat (first | apply Kd.R_alloc | apply Kd.R_drewN | apply Kd.R_drew)); exact HO_5.out⟩, ⟨by repeat (first | (with_reducible first | exact HB.out | apply below_alloc | apply pw_below_drewN | apply below_drew1) | exact HB.out)⟩⟩
                        · rw [if_neg c11] at H
                          have c11b0 : ((rd l0 x9_2) == (rd l0 x7_1)) = false := beq_eq_false_iff_ne.mpr c11
                          have c11b1 : ((rd l0 x9_2) != (rd l0 x7_1)) = true := bne_iff_ne.mpr c11
                          have H' := Aside0.mk H
                          clear H
                          have p237 : 0 ≤ (x9_2 : Int) := of_decide_eq_true (by first | (with_reducible assumption) | assumption)
                          have q237 : x9_2 < (l0.length : Int) := of_decide_eq_true (by first | (with_reducible assumption) | assumption)
                          obtain ⟨ad237, e237, hx237_0⟩ := Kd.at_int HR0.out x9_2 p237 q237
                          cases e237
                          replace hx237_0 := (HB.out.cell (World.block_lt_of_cell? w _ hx237_0)).trans hx237_0
                          replace p237 := eq_true p237
                          replace q237 := eq_true q237
                          have p238 : 0 ≤ (x7_1 : Int) := of_decide_eq_true (by first | (with_reducible assumption) | assumption)
                          have q238 : x7_1 < (l0.length : Int) := of_decide_eq_true (by first | (with_reducible assumption) | assumption)
                          obtain ⟨ad238, e238, hx238_0⟩ := Kd.at_int HR0.out x7_1 p238 q238
                          obtain rfl : ad237 = ad238 := (by injection e238)
                          replace hx238_0 := (HB.out.cell (World.block_lt_of_cell? w _ hx238_0)).trans hx238_0
                          replace p238 := eq_true p238
                          replace q238 := eq_true q238
                          have p239 : 0 ≤ (x9_2 : Int) := of_decide_eq_true (by first | (with_reducible assumption) | assumption)
                          have q239 : x9_2 < (l0.length : Int) := of_decide_eq_true (by first | (with_reducible assumption) | assumption)
                          obtain ⟨ad239, e239, hx239_0⟩ := Kd.at_int HR0.out x9_2 p239 q239
                          obtain rfl : ad237 = ad239 := (by injection e239)
                          replace hx239_0 := (HB.out.cell (World.block_lt_of_cell? w _ hx239_0)).trans hx239_0
                          replace p239 := eq_true p239
                          replace q239 := eq_true q239
                          have p240 : 0 ≤ (x7_1 : Int) := of_decide_eq_true (by first | (with_reducible assumption) | assumption)
                          have q240 : x7_1 < (l0.length : Int) := of_decide_eq_true (by first | (with_reducible assumption) | assumption)
                          obtain ⟨ad240, e240, hx240_0⟩ := Kd.at_int HR0.out x7_1 p240 q240
                          obtain rfl : ad237 = ad240 := (by injection e240)
                          replace hx240_0 := (HB.out.cell (World.block_lt_of_cell? w _ hx240_0)).trans hx240_0
                          replace p240 := eq_true p240
                          replace q240 := eq_true q240
                          go_wp2
                          repeat (go_quiet (fail); try go_wp2)
                          go_roundg k2
                          case measure => have := HK1.out; have := HK2.out; omega
                          case rel => exact ⟨(x8_2), (wrap64 (x9_2 + 1)), (by first | rfl | (simp; done) | (simp [*]; done)), (by first | rfl | (simp; done) | (simp [*]; done)), H', ⟨by have := HK1.out; have := HK2.out; omega⟩, ⟨by (with_reducible repeat (first | apply Kd.R_alloc | apply Kd.R_drewN | apply Kd.R_drew)); exact HO_5.out⟩, ⟨by repeat (first | (with_reducible first | exact HB.out | apply below_alloc | apply pw_below_drewN | apply below_drew1) | exact HB.out)⟩⟩
                    · rw [if_neg c9] at H
                      exact absurd H (by simp)
                  · rw [if_neg c8] at H
                    exact absurd H (by simp)
                · rw [if_neg c7] at H
                  exact absurd H (by simp)
              · rw [if_neg c6] at H
                exact absurd H (by simp)
            · rw [if_neg c5] at H
              have c5b0 : decide (x9_2 < ji3) = false := decide_eq_false c5
              clear c5
              by_cases c13 : x5_1.length < 17592186044416
              · rw [if_pos c13] at H
                have LMc13 := Aside0.mk c13
                clear c13
                obtain ⟨y241, hy241⟩ : ∃ y_ : List Int, y_ = (x5_1 ++ [x8_2]) := ⟨_, rfl⟩
                replace H : (tickinglaw02_tame.l0 k2 l0 y241 ji3 (wrap64 (x7_1 + 1))) = some r := by first | (rw [hy241]; with_reducible exact H) | (have H2_ := (Option.bind_some _ _).symm.trans H; rw [hy241]; with_reducible exact H2_) | (have H2_ := (Option.bind_some _ _).symm.trans H; with_reducible exact H2_) | with_reducible exact H | (rw [hy241]; exact H) | exact H
                have Ny241 := Aside0.mk hy241
                clear hy241
                have H' := Aside0.mk H
                clear H
                go_wp2_with (first | ((with_reducible refine gate_builtin (b := .append) (xs := #[.tmp 51, .tmp 53]) rfl ?_); at_builtin; refine Kd.R_append (Kd.int .i64) (w0 := w) w.heap.size rfl (.tmp 51) (.tmp 53) 22 3 (.int .i64 0) 8 rfl Try.underlying22 info3 rfl (by decide) (by omega) u5 x5_1 x8_2 [.int .i64 x8_2] (fun _ => True) (fun _ => False) rfl rfl ?aP (fun _ hk => hk.elim) ?aF ?aO ?aB ?aS ?aL ?_; (case aP => exact rfl); (case aB => exact (by repeat (first | (with_reducible first | exact HB.out | apply below_alloc | apply pw_below_drewN | apply below_drew1) | exact HB.out))); (case aF => exact (fun _ _ => trivial)); (case aO => exact (by (with_reducible repeat (first | apply Kd.R_alloc | apply Kd.R_drewN | apply Kd.R_drew)); exact HO_5.out)); (case aS => exact (below_size (by repeat (first | (with_reducible first | exact HB.out | apply below_alloc | apply pw_below_drewN | apply below_drew1) | exact HB.out)))); (case aL => have := LMc13.out; omega); intro v242 w14 ho hb hg hat; rw [← Ny241.out] at ho; have n0_ := Aside0.mk (hb); have n1_ := Aside0.mk (ho); clear HB; clear HO_5; have HB := n0_; have HO243 := n1_; clear n0_ n1_; clear ho hb hg hat))
                repeat (go_quiet (first | ((with_reducible refine gate_builtin (b := .append) (xs := #[.tmp 51, .tmp 53]) rfl ?_); at_builtin; refine Kd.R_append (Kd.int .i64) (w0 := w) w.heap.size rfl (.tmp 51) (.tmp 53) 22 3 (.int .i64 0) 8 rfl Try.underlying22 info3 rfl (by decide) (by omega) u5 x5_1 x8_2 [.int .i64 x8_2] (fun _ => True) (fun _ => False) rfl rfl ?aP (fun _ hk => hk.elim) ?aF ?aO ?aB ?aS ?aL ?_; (case aP => exact rfl); (case aB => exact (by repeat (first | (with_reducible first | exact HB.out | apply below_alloc | apply pw_below_drewN | apply below_drew1) | exact HB.out))); (case aF => exact (fun _ _ => trivial)); (case aO => exact (by (with_reducible repeat (first | apply Kd.R_alloc | apply Kd.R_drewN | apply Kd.R_drew)); exact HO_5.out)); (case aS => exact (below_size (by repeat (first | (with_reducible first | exact HB.out | apply below_alloc | apply pw_below_drewN | apply below_drew1) | exact HB.out)))); (case aL => have := LMc13.out; omega); intro v242 w14 ho hb hg hat; rw [← Ny241.out] at ho; have n0_ := Aside0.mk (hb); have n1_ := Aside0.mk (ho); clear HB; clear HO_5; have HB := n0_; have HO243 := n1_; clear n0_ n1_; clear ho hb hg hat)); try go_wp2_with (first | ((with_reducible refine gate_builtin (b := .append) (xs := #[.tmp 51, .tmp 53]) rfl ?_); at_builtin; refine Kd.R_append (Kd.int .i64) (w0 := w) w.heap.size rfl (.tmp 51) (.tmp 53) 22 3 (.int .i64 0) 8 rfl Try.underlying22 info3 rfl (by decide) (by omega) u5 x5_1 x8_2 [.int .i64 x8_2] (fun _ => True) (fun _ => False) rfl rfl ?aP (fun _ hk => hk.elim) ?aF ?aO ?aB ?aS ?aL ?_; (case aP => exact rfl); (case aB => exact (by repeat (first | (with_reducible first | exact HB.out | apply below_alloc | apply pw_below_drewN | apply below_drew1) | exact HB.out))); (case aF => exact (fun _ _ => trivial)); (case aO => exact (by (with_reducible repeat (first | apply Kd.R_alloc | apply Kd.R_drewN | apply Kd.R_drew)); exact HO_5.out)); (case aS => exact (below_size (by repeat (first | (with_reducible first | exact HB.out | apply below_alloc | apply pw_below_drewN | apply below_drew1) | exact HB.out)))); (case aL => have := LMc13.out; omega); intro v242 w14 ho hb hg hat; rw [← Ny241.out] at ho; have n0_ := Aside0.mk (hb); have n1_ := Aside0.mk (ho); clear HB; clear HO_5; have HB := n0_; have HO243 := n1_; clear n0_ n1_; clear ho hb hg hat)))
                go_roundg k2
                case measure => have := HK1.out; have := HK2.out; omega
                case rel => exact ⟨(y241), (wrap64 (x7_1 + 1)), (by first | rfl | (simp; done) | (simp [*]; done)), H', ⟨by have := HK1.out; have := HK2.out; omega⟩, ⟨by (with_reducible repeat (first | apply Kd.R_alloc | apply Kd.R_drewN | apply Kd.R_drew)); exact HO243.out⟩, ⟨by repeat (first | (with_reducible first | exact HB.out | apply below_alloc | apply pw_below_drewN | apply below_drew1) | exact HB.out)⟩⟩
              · rw [if_neg c13] at H
                exact absurd H (by simp)
      · rw [if_neg c4] at H
        have c4b0 : decide (x7_1 < ji3) = false := decide_eq_false c4
        clear c4
        obtain rfl := Option.some.inj H
        go_wp2
        repeat (go_quiet (fail); try go_wp2)
        go_ret
        exact ⟨_, by first | rfl | (simp [errW_none, errW_some] <;> rfl) | (simp only [← hji3]; first | rfl | (simp [errW_none, errW_some] <;> rfl)) | (simp [*, errW_none, errW_some] <;> rfl), by (with_reducible repeat (first | apply Kd.R_alloc | apply Kd.R_drewN | apply Kd.R_drew)); exact HO_5.out, by repeat (first | (with_reducible first | exact HB.out | apply below_alloc | apply pw_below_drewN | apply below_drew1) | exact HB.out)⟩

end Go.Proofs.Ytjbjongahnocdaa.S

namespace Go.Proofs.Ytjbjongahnocdaa.S
open Go.Proofs.Ytjbjongahnocdaa.Lib
open Go.Proofs.Ytjbjongahnocdaa.Defs
open Go.Maps (Keyed)
open Go.RowKit Go.Proofs.YtjbjongahnocdaaW.PrintWords Go.Proofs.YtjbjongahnocdaaW.PrintLast Go.Proofs.YtjbjongahnocdaaW.PrintMore
attribute [local go_sem] max2_int min2_int max_two min_two max_three min_three max_four min_four   -- for this text's walks alone
set_option linter.unusedVariables false
set_option linter.unusedSimpArgs false

/-! ### tickinglaw02_list: function 18 -/
def tickinglaw02_list.f (l0 : List Int) : Option (List Int) := some (l0.take 61)
set_option maxHeartbeats 8000000 in
set_option maxRecDepth 100000 in
theorem tickinglaw02_list.calls (A0 : Option Addr) (c0 : Nat) (l0 : List Int) (r : List Int) (w : World) (hr0 : Kd.C (Kd.int .i64) w A0 l0.length l0) (hc0 : l0.length ≤ c0) (h : tickinglaw02_list.f l0 = some r) :
    Calls Try.prog 18 #[.slice A0 l0.length c0] w fun e w' => ∃ v0_ : Value, e = .returned (v0_) ∧ Kd.R (Kd.int .i64) 3 w' w.heap.size (fun _ => True) v0_ r ∧ Below w.heap.size w w' := by
  have hr : l0.take 61 = r := Option.some.inj h
  clear h
  obtain ⟨ji, hji⟩ : ∃ ji : Int, (if 61 < (l0.length : Int) then 61 else (l0.length : Int)) = ji := ⟨_, rfl⟩
  have hj0 : 0 ≤ ji := by rw [← hji]; split <;> omega
  have hj1 : ji ≤ l0.length := by rw [← hji]; split <;> omega
  have hj2 : ji ≤ 61 := by rw [← hji]; split <;> omega
  have hjt : l0.take ji.toNat = r := by
    rw [← hr, ← hji]
    split
    · rfl
    · rw [List.take_of_length_le (by omega), List.take_of_length_le (by omega)]
  obtain ⟨i06, hi06, _, hsz6, _⟩ := info_parts info3
  obtain ⟨hcut, hA, hC⟩ := print_take_of (P := Try.prog) (Value.int .i64) 0 22 3 .i64 Try.underlying22 hi06 hsz6 A0 c0 l0 ji hj0 hj1 hc0
  have HR := Kd.C_of_reads (h1 := fun _ => rfl) (hA w (Kd.reads_of_C hr0))
  have hlen : (l0.take ji.toNat).length = ji.toNat := by rw [List.length_take]; omega
  rw [hjt] at HR hcut hlen
  obtain ⟨v1, w1, hrun, ho, hb, _, _⟩ := append_row (Kd.int .i64) (P := Try.prog) (w0 := w) (W := w) w.heap.size 22 22 3 (.int .i64 0) 8 Try.underlying22 info3 rfl (by decide) (by omega) (v := .slice none 0 0) (xs := ([] : List Int)) r A0 r.length c0 (ok := fun _ => True) (fun _ => False) HR (fun _ _ h => h) (fun _ h => h.elim) (fun _ _ => trivial) (Kd.R_nil _ _ _ _ _) (Below.refl _ _) (Nat.le_refl _) (by rw [hlen]; simp; omega)
  rw [List.nil_append] at ho
  have HO := Aside0.mk ho
  have HB := Aside0.mk hb
  have HRUN := Aside0.mk hrun
  have hcut' := hcut w
  clear ho hb hrun hcut hA hC HR hr hi06 hsz6
  rw [hlen] at hcut' HRUN
  clear hlen hjt
  go_enter Try.func18, Try.ntmps18
  go_wp2_with (at_builtin; go_must (refine wpList_appendRun _ rfl _ _ _ rfl HRUN.out rfl rfl rfl ?_))
  go_ret
  exact ⟨_, rfl, HO.out, HB.out⟩


end Go.Proofs.Ytjbjongahnocdaa.S

namespace Go.Proofs.Ytjbjongahnocdaa.S
open Go.Proofs.Ytjbjongahnocdaa.Lib
open Go.Proofs.Ytjbjongahnocdaa.Defs
open Go.Maps (Keyed)
open Go.RowKit Go.Proofs.YtjbjongahnocdaaW.PrintWords Go.Proofs.YtjbjongahnocdaaW.PrintLast Go.Proofs.YtjbjongahnocdaaW.PrintMore
attribute [local go_sem] max2_int min2_int max_two min_two max_three min_three max_four min_four   -- for this text's walks alone
set_option linter.unusedVariables false
set_option linter.unusedSimpArgs false

/-! ### shunt_within: function 64 -/
def shunt_within.f (a0 : Int) (a1 : Int) (a2 : Int) : Option (Bool) := if a0 ≥ a1 then (some (decide (a0 ≤ a2))) else (some false)
set_option maxHeartbeats 8000000 in
set_option maxRecDepth 100000 in
theorem shunt_within.calls (a0 : Int) (a1 : Int) (a2 : Int) (r : Bool) (w : World) (h : shunt_within.f a0 a1 a2 = some r) :
    Calls Try.prog 64 #[.int .i64 a0, .int .i64 a1, .int .i64 a2] w fun e w' => e = .returned (.bool r) ∧ Drawn0 w w' := by
  have H : (if a0 ≥ a1 then (some (decide (a0 ≤ a2))) else (some false)) = some r := h
  clear h
  by_cases c4 : a0 ≥ a1
  · rw [if_pos c4] at H
    have c4b0 : decide (a1 ≤ a0) = true := decide_eq_true c4
    clear c4
    obtain rfl := Option.some.inj H
    go_enter Try.func64, Try.ntmps64
    go_wp2
    go_ret
    exact ⟨by first | rfl | (simp; done) | (simp [*]; done), by repeat (first | exact Drawn0.refl _ | apply Drawn0.step)⟩
  · rw [if_neg c4] at H
    have c4b0 : decide (a1 ≤ a0) = false := decide_eq_false c4
    clear c4
    obtain rfl := Option.some.inj H
    go_enter Try.func64, Try.ntmps64
    go_wp2
    go_ret
    exact ⟨by first | rfl | (simp; done) | (simp [*]; done), by repeat (first | exact Drawn0.refl _ | apply Drawn0.step)⟩

end Go.Proofs.Ytjbjongahnocdaa.S

namespace Go.Proofs.Ytjbjongahnocdaa.S
open Go.Proofs.Ytjbjongahnocdaa.Lib
open Go.Proofs.Ytjbjongahnocdaa.Defs
open Go.Maps (Keyed)
open Go.RowKit Go.Proofs.YtjbjongahnocdaaW.PrintWords Go.Proofs.YtjbjongahnocdaaW.PrintLast Go.Proofs.YtjbjongahnocdaaW.PrintMore
attribute [local go_sem] max2_int min2_int max_two min_two max_three min_three max_four min_four   -- for this text's walks alone
set_option linter.unusedVariables false
set_option linter.unusedSimpArgs false

/-! ### shunt_isOrder: function 52 -/
def shunt_isOrder.f (l0 : List Int) : Option Bool := some (isOrderB l0)
def setM (seen : List Int) : Int → Option Value := fun x => if x ∈ seen then some (.bool true) else none
theorem isOrder_zero (w : World) : (zeroValue 4).run Try.prog w = .ok (.bool false) w := by kernel_rfl

set_option maxHeartbeats 800000 in
set_option maxRecDepth 100000 in
theorem shunt_isOrder.calls (A0 : Option Addr) (c0 : Nat) (l0 : List Int) (r : Bool) (w : World) (hr0 : Kd.C (Kd.int .i64) w A0 l0.length l0) (hc0 : l0.length ≤ c0) (h : shunt_isOrder.f l0 = some r) :
    Calls Try.prog 52 #[.slice A0 l0.length c0] w fun e w' => e = .returned (.bool r) ∧ Below w.heap.size w w' := by
  have HR0 := Aside0.mk hr0
  have HC0 := Aside0.mk hc0
  clear hr0 hc0
  have H := Option.some.inj h
  clear h
  unfold isOrderB at H
  by_cases c1 : (l0.length : Int) > 60
  · have c1b0 : decide (60 < (l0.length : Int)) = true := decide_eq_true c1
    have c1b1 : decide (60 < l0.length) = true := decide_eq_true (by omega)
    have hr : r = false := by rw [← H, decide_eq_false (by omega)]; rfl
    subst hr
    clear c1 H
    go_enter Try.func52, Try.ntmps52
    go_wp2
    go_ret
    exact ⟨rfl, by exact Below.refl _ _⟩
  · have c1b0 : decide (60 < (l0.length : Int)) = false := decide_eq_false (by omega)
    have c1b1 : decide (60 < l0.length) = false := decide_eq_false (by omega)
    have HL := Aside0.mk (show l0.length ≤ 60 by omega)
    rw [decide_eq_true (by omega), Bool.true_and] at H
    have H' := Aside0.mk H
    clear H c1
    have hmm := @run_makeMap Try.prog
    go_enter Try.func52, Try.ntmps52
    go_wp2
    go_loopw [12] (fun v wr => ∃ (x : Int) (seen : List Int), v = .int .i64 x ∧ Aside0 (0 ≤ x ∧ x ≤ l0.length ∧ x = seen.length) ∧ Aside0 (isOrderGo l0.length (l0.drop x.toNat) seen = r) ∧ Aside0 (MapAt wr Try.prog 3 w.heap.size seen.length (encI (setM seen))) ∧ Aside0 (Below w.heap.size w wr)) (fun v _ => l0.length - (intOf v).toNat)
    case atStart => exact ⟨0, [], rfl, ⟨by simp⟩, H', ⟨(MapAt.made _ _ _).congr (fun kv kl _ => by unfold encI setM; split <;> simp)⟩, ⟨by repeat (first | (with_reducible first | exact HB.out | apply below_alloc | apply pw_below_drewN | apply below_drew1) | exact Below.refl _ _)⟩⟩
    case round =>
      clear H'
      obtain ⟨x, seen, rfl, HX, HA, HM, HB⟩ := hrel
      obtain ⟨p0, q0, e0⟩ := HX.out
      have hl60 := HL.out
      have hx60 : x ≤ 60 := by omega
      by_cases c2 : x < (l0.length : Int)
      · have c2b0 : decide (x < (l0.length : Int)) = true := decide_eq_true c2
        have c2b1 : decide (0 ≤ x) = true := decide_eq_true p0
        have HA1 : isOrderGo l0.length (rd l0 x :: l0.drop (x + 1).toNat) seen = r := by
          rw [← HA.out, show (x + 1).toNat = x.toNat + 1 by omega]
          unfold rd
          rw [List.getD_eq_getElem?_getD, List.getElem?_eq_getElem (show x.toNat < l0.length by omega), Option.getD_some, ← List.drop_eq_getElem_cons]
        obtain ⟨ad, ea, hx⟩ := Kd.at_int (Kd.C_below HR0.out HB.out) x p0 c2
        cases ea
        have p1 := eq_true p0
        have q1 := eq_true c2
        unfold isOrderGo at HA1
        by_cases c3 : 1 ≤ rd l0 x ∧ rd l0 x ≤ l0.length
        · have hin : shunt_within.f (rd l0 x) 1 (l0.length : Int) = some true := by
            unfold shunt_within.f; rw [if_pos c3.1, decide_eq_true c3.2]
          have hkey : keyOf Try.prog 3 (.int .i64 (rd l0 x)) = some (.int .i64 (rd l0 x)) := Maps.keyOf_int_mk Try.underlying3 (wfI (by omega) (by omega))
          by_cases c4 : rd l0 x ∈ seen
          · have hr : r = false := by rw [← HA1, if_neg (fun h => h.2.2 c4)]
            subst hr
            have hlk : ∀ n, (Instr.lookup 92 (.map (some w.heap.size)) (.int .i64 (rd l0 x)) false).run Try.prog (wr.drewN n) = .ok (.bool true) (wr.drewN n) := fun n => by
              rw [(HM.out.drewN n).look (Maps.int_keyed Try.underlying3) Try.underlying92 (isOrder_zero _) hkey]
              simp [encI, setM, c4]
            clear HA1 c3 hkey e0 p0 c2
            go_wp2_with (go_at_call 64; go_must ((with_reducible refine (shunt_within.calls (rd l0 x) 1 (l0.length : Int) true _ hin).mono ?_); rintro e w' ⟨rfl, ⟨nd, rfl⟩⟩))
            go_ret
            exact ⟨rfl, by repeat (first | (with_reducible first | exact HB.out | apply below_alloc | apply pw_below_drewN | apply below_drew1) | exact HB.out)⟩
          · rw [if_pos ⟨c3.1, c3.2, c4⟩] at HA1
            have H1 := Aside0.mk HA1
            have hlk : ∀ n, (Instr.lookup 92 (.map (some w.heap.size)) (.int .i64 (rd l0 x)) false).run Try.prog (wr.drewN n) = .ok (.bool false) (wr.drewN n) := fun n => by
              rw [(HM.out.drewN n).look (Maps.int_keyed Try.underlying3) Try.underlying92 (isOrder_zero _) hkey]
              simp [encI, setM, c4]
            have HF1 := Aside0.mk (show encI (setM (rd l0 x :: seen)) (.int .i64 (rd l0 x)) = some (.bool true) by simp [encI, setM])
            have HF2 := Aside0.mk (show ∀ v, v ≠ .int .i64 (rd l0 x) → encI (setM (rd l0 x :: seen)) v = encI (setM seen) v by
              intro v hv
              unfold encI
              split
              · rename_i y
                have : y ≠ rd l0 x := fun e => hv (by rw [e])
                simp [setM, this]
              · rfl)
            have hnone : (encI (setM seen) (.int .i64 (rd l0 x))).isSome = false := by simp [encI, setM, c4]
            have HN := Aside0.mk hnone
            have HKY := Aside0.mk hkey
            have HS60 := Aside0.mk (show seen.length < maxLen by unfold maxLen; omega)
            have HE0 := Aside0.mk e0
            clear HA1 hkey hnone e0 c3 c2
            go_wp2_with (first | (go_at_call 64; go_must ((with_reducible refine (shunt_within.calls (rd l0 x) 1 (l0.length : Int) true _ hin).mono ?_); rintro e w' ⟨rfl, ⟨nd, rfl⟩⟩)) | (at_mapUpdate; go_must (refine wpList_mapStore _ rfl _ _ _ 92 rfl (Maps.int_keyed Try.underlying3) Try.underlying92 rfl (HM.out.drewN _) HS60.out (.int .i64 (rd l0 x)) (.bool true) rfl rfl HKY.out (encI (setM (rd l0 x :: seen))) HF1.out HF2.out ?_; intro w1 hma hgr; rw [HN.out] at hma; have HM1 := Aside0.mk hma; have HB1 := Aside0.mk (Below.grown (pw_below_drewN HB.out _) hgr HB.out.size (fun k hk => by injection hk with hk; omega)); clear hma hgr)))
            go_roundw
            case rel => exact ⟨x + 1, rd l0 x :: seen, by go_num, ⟨by have := HE0.out; have := of_eq_true p1; have := of_eq_true q1; simp; omega⟩, H1, HM1, HB1⟩
            case measure => have := of_eq_true p1; have := of_eq_true q1; simp [intOf]; omega
        · have hr : r = false := by rw [← HA1, if_neg (fun h => c3 ⟨h.1, h.2.1⟩)]
          subst hr
          have hin : shunt_within.f (rd l0 x) 1 (l0.length : Int) = some false := by
            unfold shunt_within.f
            split
            · rw [decide_eq_false (by omega)]
            · rfl
          clear HA1 c3 e0 p0 c2
          go_wp2_with (go_at_call 64; go_must ((with_reducible refine (shunt_within.calls (rd l0 x) 1 (l0.length : Int) false _ hin).mono ?_); rintro e w' ⟨rfl, ⟨nd, rfl⟩⟩))
          go_ret
          exact ⟨rfl, by repeat (first | (with_reducible first | exact HB.out | apply below_alloc | apply pw_below_drewN | apply below_drew1) | exact HB.out)⟩
      · have c2b0 : decide (x < (l0.length : Int)) = false := decide_eq_false c2
        have hr : r = true := by rw [← HA.out, List.drop_eq_nil_of_le (by omega)]; rfl
        subst hr
        go_wp2
        go_ret
        exact ⟨rfl, HB.out⟩


end Go.Proofs.Ytjbjongahnocdaa.S

namespace Go.Proofs.Ytjbjongahnocdaa.S
open Go.Proofs.Ytjbjongahnocdaa.Lib
open Go.Proofs.Ytjbjongahnocdaa.Defs
open Go.Maps (Keyed)
open Go.RowKit Go.Proofs.YtjbjongahnocdaaW.PrintWords Go.Proofs.YtjbjongahnocdaaW.PrintLast Go.Proofs.YtjbjongahnocdaaW.PrintMore
attribute [local go_sem] max2_int min2_int max_two min_two max_three min_three max_four min_four   -- for this text's walks alone
set_option linter.unusedVariables false
set_option linter.unusedSimpArgs false

/-! ### shunt_blocking: function 72 -/
def shunt_blocking.l0 : Nat → List Int → Int → Int → Option (Int)
  | 0, _, _, _ => none
  | k + 1, x0, x1, x7 => if x7 < (x0.length : Int) then (if 0 ≤ x7 then (if 0 ≤ x1 then (if x1 < (x0.length : Int) then (if (rd x0 x7) < (rd x0 x1) then (some x7) else (shunt_blocking.l0 k x0 x1 (wrap64 (x7 + 1)))) else (none)) else (none)) else (none)) else (some 0)
def shunt_blocking.f (k : Nat) (l0 : List Int) (a1 : Int) (a2 : Int) : Option (Int) := if 0 ≤ a1 then (if a1 < (l0.length : Int) then (if 0 ≤ a2 then (if a2 < (l0.length : Int) then (if (rd l0 a1) > (rd l0 a2) then (some 0) else (shunt_blocking.l0 k l0 a1 (wrap64 (a2 + 1)))) else (none)) else (none)) else (none)) else (none)
theorem shunt_blocking.mono_l : ∀ k, (∀ y0 y1 y2, LeO (shunt_blocking.l0 k y0 y1 y2) (shunt_blocking.l0 (k + 1) y0 y1 y2))
  | 0 => fun _ _ _ r h => by simp [shunt_blocking.l0] at h
  | k + 1 => by
    have ih0 := shunt_blocking.mono_l k
    · intro y0 y1 y2
      unfold shunt_blocking.l0
      repeat' first
      | (with_reducible exact ih0 _ _ _)
      | (with_reducible exact LeO.refl _)
      | (with_reducible exact LeO.none _)
      | (with_reducible refine LeO.ite ?_ ?_)
      | (with_reducible refine LeO.bind ?_ (fun _ => ?_))
      | exact ih0 _ _ _
      | exact LeO.none _
      | refine LeO.ite ?_ ?_
      | refine LeO.bind ?_ (fun _ => ?_)
theorem shunt_blocking.mono : ∀ a0 a1 a2 k, LeO (shunt_blocking.f k a0 a1 a2) (shunt_blocking.f (k + 1) a0 a1 a2) := by
  intro a0 a1 a2 k
  have ih0 := shunt_blocking.mono_l k
  unfold shunt_blocking.f
  repeat' first
      | (with_reducible exact ih0 _ _ _)
      | (with_reducible exact LeO.refl _)
      | (with_reducible exact LeO.none _)
      | (with_reducible refine LeO.ite ?_ ?_)
      | (with_reducible refine LeO.bind ?_ (fun _ => ?_))
      | exact ih0 _ _ _
      | exact LeO.none _
      | refine LeO.ite ?_ ?_
      | refine LeO.bind ?_ (fun _ => ?_)
set_option maxHeartbeats 8000000 in
set_option maxRecDepth 100000 in
theorem shunt_blocking.calls (k : Nat) (A0 : Option Addr) (c0 : Nat) (l0 : List Int) (a1 : Int) (a2 : Int) (r : Int) (w : World) (hr0 : Kd.C (Kd.int .i64) w A0 l0.length l0) (hc0 : l0.length ≤ c0) (h : shunt_blocking.f k l0 a1 a2 = some r) :
    Calls Try.prog 72 #[.slice A0 l0.length c0, .int .i64 a1, .int .i64 a2] w fun e w' => e = .returned (.int .i64 r) ∧ Drawn0 w w' := by
  have HR0 := Aside0.mk hr0
  have HC0 := Aside0.mk hc0
  clear hr0 hc0
  have H : (if 0 ≤ a1 then (if a1 < (l0.length : Int) then (if 0 ≤ a2 then (if a2 < (l0.length : Int) then (if (rd l0 a1) > (rd l0 a2) then (some 0) else (shunt_blocking.l0 k l0 a1 (wrap64 (a2 + 1)))) else (none)) else (none)) else (none)) else (none)) = some r := h
  clear h
  by_cases c4 : 0 ≤ a1
  · rw [if_pos c4] at H
    have c4b0 : decide (0 ≤ a1) = true := decide_eq_true c4
    clear c4
    by_cases c5 : a1 < (l0.length : Int)
    · rw [if_pos c5] at H
      have c5b0 : decide (a1 < (l0.length : Int)) = true := decide_eq_true c5
      clear c5
      by_cases c6 : 0 ≤ a2
      · rw [if_pos c6] at H
        have c6b0 : decide (0 ≤ a2) = true := decide_eq_true c6
        clear c6
        by_cases c7 : a2 < (l0.length : Int)
        · rw [if_pos c7] at H
          have c7b0 : decide (a2 < (l0.length : Int)) = true := decide_eq_true c7
          clear c7
          by_cases c8 : (rd l0 a1) > (rd l0 a2)
          · rw [if_pos c8] at H
            have c8b0 : decide ((rd l0 a2) < (rd l0 a1)) = true := decide_eq_true c8
            clear c8
            obtain rfl := Option.some.inj H
            have p101 : 0 ≤ (a1 : Int) := of_decide_eq_true (by first | (with_reducible assumption) | assumption)
            have q101 : a1 < (l0.length : Int) := of_decide_eq_true (by first | (with_reducible assumption) | assumption)
            obtain ⟨ad101, e101, hx101_0⟩ := Kd.at_int HR0.out a1 p101 q101
            cases e101
            replace p101 := eq_true p101
            replace q101 := eq_true q101
            have p102 : 0 ≤ (a2 : Int) := of_decide_eq_true (by first | (with_reducible assumption) | assumption)
            have q102 : a2 < (l0.length : Int) := of_decide_eq_true (by first | (with_reducible assumption) | assumption)
            obtain ⟨ad102, e102, hx102_0⟩ := Kd.at_int HR0.out a2 p102 q102
            obtain rfl : ad101 = ad102 := (by injection e102)
            replace p102 := eq_true p102
            replace q102 := eq_true q102
            go_enter Try.func72, Try.ntmps72
            go_wp2
            repeat (go_quiet (fail); try go_wp2)
            go_ret
            exact ⟨by first | rfl | (simp; done) | (simp [*]; done), by repeat (first | exact Drawn0.refl _ | apply Drawn0.step)⟩
          · rw [if_neg c8] at H
            have c8b0 : decide ((rd l0 a2) < (rd l0 a1)) = false := decide_eq_false c8
            clear c8
            have H' := Aside0.mk H
            clear H
            have p101 : 0 ≤ (a1 : Int) := of_decide_eq_true (by first | (with_reducible assumption) | assumption)
            have q101 : a1 < (l0.length : Int) := of_decide_eq_true (by first | (with_reducible assumption) | assumption)
            obtain ⟨ad101, e101, hx101_0⟩ := Kd.at_int HR0.out a1 p101 q101
            cases e101
            replace p101 := eq_true p101
            replace q101 := eq_true q101
            have p102 : 0 ≤ (a2 : Int) := of_decide_eq_true (by first | (with_reducible assumption) | assumption)
            have q102 : a2 < (l0.length : Int) := of_decide_eq_true (by first | (with_reducible assumption) | assumption)
            obtain ⟨ad102, e102, hx102_0⟩ := Kd.at_int HR0.out a2 p102 q102
            obtain rfl : ad101 = ad102 := (by injection e102)
            replace p102 := eq_true p102
            replace q102 := eq_true q102
            go_enter Try.func72, Try.ntmps72
            go_wp2
            repeat (go_quiet (fail); try go_wp2)
            go_loopg [7] k (fun kq v7 w' => ∃ (x7_1 : Int), v7 = .int .i64 x7_1 ∧ Aside0 (shunt_blocking.l0 kq l0 a1 x7_1 = some r) ∧ Aside0 (kq ≤ k) ∧ Drawn0 w w')
            case atStart => exact ⟨(wrap64 (a2 + 1)), (by first | rfl | (simp; done) | (simp [*]; done)), H', ⟨Nat.le_refl _⟩, by repeat (first | exact Drawn0.refl _ | apply Drawn0.step)⟩
            case round =>
              clear H'
              try clear p1
              try clear q1
              try clear hx1
              try clear p2
              try clear c4
              try clear c4b0
              try clear c5
              try clear c5b0
              try clear c6
              try clear c6b0
              try clear p6
              try clear c7
              try clear c7b0
              try clear c8
              try clear c8b0
              try clear hx101_0
              try clear hx102_0
              try clear p101
              try clear p102
              try clear q101
              try clear q102
              obtain ⟨x7_1, rfl, HA, HK1, ⟨m1, rfl⟩⟩ := hrel
              cases gk with
              | zero => exact absurd HA.out (by simp [shunt_blocking.l0])
              | succ k1 =>
                have H := HA.out
                clear HA
                simp only [shunt_blocking.l0] at H
                by_cases c9 : x7_1 < (l0.length : Int)
                · rw [if_pos c9] at H
                  have c9b0 : decide (x7_1 < (l0.length : Int)) = true := decide_eq_true c9
                  clear c9
                  by_cases c10 : 0 ≤ x7_1
                  · rw [if_pos c10] at H
                    have c10b0 : decide (0 ≤ x7_1) = true := decide_eq_true c10
                    clear c10
                    by_cases c11 : 0 ≤ a1
                    · rw [if_pos c11] at H
                      have c11b0 : decide (0 ≤ a1) = true := decide_eq_true c11
                      clear c11
                      by_cases c12 : a1 < (l0.length : Int)
                      · rw [if_pos c12] at H
                        have c12b0 : decide (a1 < (l0.length : Int)) = true := decide_eq_true c12
                        clear c12
                        by_cases c13 : (rd l0 x7_1) < (rd l0 a1)
                        · rw [if_pos c13] at H
                          have c13b0 : decide ((rd l0 x7_1) < (rd l0 a1)) = true := decide_eq_true c13
                          clear c13
                          obtain rfl := Option.some.inj H
                          have p103 : 0 ≤ (x7_1 : Int) := of_decide_eq_true (by first | (with_reducible assumption) | assumption)
                          have q103 : x7_1 < (l0.length : Int) := of_decide_eq_true (by first | (with_reducible assumption) | assumption)
                          obtain ⟨ad103, e103, hx103_0⟩ := Kd.at_int HR0.out x7_1 p103 q103
                          obtain rfl : ad101 = ad103 := (by injection e103)
                          replace p103 := eq_true p103
                          replace q103 := eq_true q103
                          have p104 : 0 ≤ (a1 : Int) := of_decide_eq_true (by first | (with_reducible assumption) | assumption)
                          have q104 : a1 < (l0.length : Int) := of_decide_eq_true (by first | (with_reducible assumption) | assumption)
                          obtain ⟨ad104, e104, hx104_0⟩ := Kd.at_int HR0.out a1 p104 q104
                          obtain rfl : ad101 = ad104 := (by injection e104)
                          replace p104 := eq_true p104
                          replace q104 := eq_true q104
                          go_wp2
                          repeat (go_quiet (fail); try go_wp2)
                          go_ret
                          exact ⟨by first | rfl | (simp; done) | (simp [*]; done), by repeat (first | exact Drawn0.refl _ | apply Drawn0.step)⟩
                        · rw [if_neg c13] at H
                          have c13b0 : decide ((rd l0 x7_1) < (rd l0 a1)) = false := decide_eq_false c13
                          clear c13
                          have H' := Aside0.mk H
                          clear H
                          have p103 : 0 ≤ (x7_1 : Int) := of_decide_eq_true (by first | (with_reducible assumption) | assumption)
                          have q103 : x7_1 < (l0.length : Int) := of_decide_eq_true (by first | (with_reducible assumption) | assumption)
                          obtain ⟨ad103, e103, hx103_0⟩ := Kd.at_int HR0.out x7_1 p103 q103
                          obtain rfl : ad101 = ad103 := (by injection e103)
                          replace p103 := eq_true p103
                          replace q103 := eq_true q103
                          have p104 : 0 ≤ (a1 : Int) := of_decide_eq_true (by first | (with_reducible assumption) | assumption)
                          have q104 : a1 < (l0.length : Int) := of_decide_eq_true (by first | (with_reducible assumption) | assumption)
                          obtain ⟨ad104, e104, hx104_0⟩ := Kd.at_int HR0.out a1 p104 q104
                          obtain rfl : ad101 = ad104 := (by injection e104)
                          replace p104 := eq_true p104
                          replace q104 := eq_true q104
                          go_wp2
                          repeat (go_quiet (fail); try go_wp2)
                          go_roundg k1
                          case measure => have := HK1.out; omega
                          case rel => exact ⟨(wrap64 (x7_1 + 1)), (by first | rfl | (simp; done) | (simp [*]; done)), H', ⟨by have := HK1.out; omega⟩, by repeat (first | exact Drawn0.refl _ | apply Drawn0.step)⟩
                      · rw [if_neg c12] at H
                        exact absurd H (by simp)
                    · rw [if_neg c11] at H
                      exact absurd H (by simp)
                  · rw [if_neg c10] at H
                    exact absurd H (by simp)
                · rw [if_neg c9] at H
                  have c9b0 : decide (x7_1 < (l0.length : Int)) = false := decide_eq_false c9
                  clear c9
                  obtain rfl := Option.some.inj H
                  go_wp2
                  repeat (go_quiet (fail); try go_wp2)
                  go_ret
                  exact ⟨by first | rfl | (simp; done) | (simp [*]; done), by repeat (first | exact Drawn0.refl _ | apply Drawn0.step)⟩
        · rw [if_neg c7] at H
          exact absurd H (by simp)
      · rw [if_neg c6] at H
        exact absurd H (by simp)
    · rw [if_neg c5] at H
      exact absurd H (by simp)
  · rw [if_neg c4] at H
    exact absurd H (by simp)

end Go.Proofs.Ytjbjongahnocdaa.S

namespace Go.Proofs.Ytjbjongahnocdaa.S
open Go.Proofs.Ytjbjongahnocdaa.Lib
open Go.Proofs.Ytjbjongahnocdaa.Defs
open Go.Maps (Keyed)
open Go.RowKit Go.Proofs.YtjbjongahnocdaaW.PrintWords Go.Proofs.YtjbjongahnocdaaW.PrintLast Go.Proofs.YtjbjongahnocdaaW.PrintMore
attribute [local go_sem] max2_int min2_int max_two min_two max_three min_three max_four min_four   -- for this text's walks alone
set_option linter.unusedVariables false
set_option linter.unusedSimpArgs false

/-! ### shunt_block: function 53 -/
mutual
def shunt_block.l0 : Nat → List Int → Int → Int → Option (List Int)
  | 0, _, _, _ => none
  | k + 1, x0, x7, x8 => if x8 < x7 then (shunt_block.l1 k x0 x8 x7 x8 x8 0) else (some ([] : List Int))
def shunt_block.l1 : Nat → List Int → Int → Int → Int → Int → Int → Option (List Int)
  | 0, _, _, _, _, _, _ => none
  | k + 1, x0, x3, x7, x8, x11, x12 => if x12 < x11 then ((shunt_blocking.f k x0 x12 x3).bind fun t105 => (if t105 > 0 then (some (([x12, x3, t105] : List Int))) else (shunt_block.l1 k x0 x3 x7 x8 x11 (wrap64 (x12 + 1))))) else (shunt_block.l0 k x0 x7 (wrap64 (x8 + 1)))
end
def shunt_block.f (k : Nat) (l0 : List Int) : Option (List Int) := shunt_block.l0 k l0 (l0.length : Int) 0
theorem shunt_block.mono_l : ∀ k, (∀ y0 y1 y2, LeO (shunt_block.l0 k y0 y1 y2) (shunt_block.l0 (k + 1) y0 y1 y2)) ∧ (∀ y0 y1 y2 y3 y4 y5, LeO (shunt_block.l1 k y0 y1 y2 y3 y4 y5) (shunt_block.l1 (k + 1) y0 y1 y2 y3 y4 y5))
  | 0 => ⟨fun _ _ _ r h => by simp [shunt_block.l0] at h, fun _ _ _ _ _ _ r h => by simp [shunt_block.l1] at h⟩
  | k + 1 => by
    obtain ⟨ih0, ih1⟩ := shunt_block.mono_l k
    refine ⟨?_, ?_⟩
    · intro y0 y1 y2
      unfold shunt_block.l0
      repeat' first
      | (with_reducible exact ih0 _ _ _)
      | (with_reducible exact ih1 _ _ _ _ _ _)
      | (with_reducible exact shunt_blocking.mono _ _ _ _)
      | (with_reducible exact LeO.refl _)
      | (with_reducible exact LeO.none _)
      | (with_reducible refine LeO.ite ?_ ?_)
      | (with_reducible refine LeO.bind ?_ (fun _ => ?_))
      | exact ih0 _ _ _
      | exact ih1 _ _ _ _ _ _
      | exact shunt_blocking.mono _ _ _ _
      | exact LeO.none _
      | refine LeO.ite ?_ ?_
      | refine LeO.bind ?_ (fun _ => ?_)
    · intro y0 y1 y2 y3 y4 y5
      unfold shunt_block.l1
      repeat' first
      | (with_reducible exact ih0 _ _ _)
      | (with_reducible exact ih1 _ _ _ _ _ _)
      | (with_reducible exact shunt_blocking.mono _ _ _ _)
      | (with_reducible exact LeO.refl _)
      | (with_reducible exact LeO.none _)
      | (with_reducible refine LeO.ite ?_ ?_)
      | (with_reducible refine LeO.bind ?_ (fun _ => ?_))
      | exact ih0 _ _ _
      | exact ih1 _ _ _ _ _ _
      | exact shunt_blocking.mono _ _ _ _
      | exact LeO.none _
      | refine LeO.ite ?_ ?_
      | refine LeO.bind ?_ (fun _ => ?_)
theorem shunt_block.mono : ∀ a0 k, LeO (shunt_block.f k a0) (shunt_block.f (k + 1) a0) := by
  intro a0 k
  obtain ⟨ih0, ih1⟩ := shunt_block.mono_l k
  unfold shunt_block.f
  repeat' first
      | (with_reducible exact ih0 _ _ _)
      | (with_reducible exact ih1 _ _ _ _ _ _)
      | (with_reducible exact shunt_blocking.mono _ _ _ _)
      | (with_reducible exact LeO.refl _)
      | (with_reducible exact LeO.none _)
      | (with_reducible refine LeO.ite ?_ ?_)
      | (with_reducible refine LeO.bind ?_ (fun _ => ?_))
      | exact ih0 _ _ _
      | exact ih1 _ _ _ _ _ _
      | exact shunt_blocking.mono _ _ _ _
      | exact LeO.none _
      | refine LeO.ite ?_ ?_
      | refine LeO.bind ?_ (fun _ => ?_)
set_option maxHeartbeats 8000000 in
set_option maxRecDepth 100000 in
theorem shunt_block.calls (k : Nat) (A0 : Option Addr) (c0 : Nat) (l0 : List Int) (r : List Int) (w : World) (hr0 : Kd.C (Kd.int .i64) w A0 l0.length l0) (hc0 : l0.length ≤ c0) (h : shunt_block.f k l0 = some r) :
    Calls Try.prog 53 #[.slice A0 l0.length c0] w fun e w' => ∃ v0_ : Value, e = .returned (v0_) ∧ Kd.R (Kd.int .i64) 3 w' w.heap.size (fun _ => True) v0_ r ∧ Below w.heap.size w w' := by
  have HR0 := Aside0.mk hr0
  have HC0 := Aside0.mk hc0
  clear hr0 hc0
  have HB := Aside0.mk (Below.refl w.heap.size w)
  have H : (shunt_block.l0 k l0 (l0.length : Int) 0) = some r := h
  clear h
  have H' := Aside0.mk H
  clear H
  go_enter Try.func53, Try.ntmps53
  go_wp2
  go_loopg [8] k (fun kq v8 w' => ∃ (x8_1 : Int), v8 = .int .i64 x8_1 ∧ Aside0 (shunt_block.l0 kq l0 (l0.length : Int) x8_1 = some r) ∧ Aside0 (kq ≤ k) ∧ Aside0 (Below w.heap.size w w'))
  case atStart => exact ⟨(0), (by first | rfl | (simp; done) | (simp [*]; done)), H', ⟨Nat.le_refl _⟩, ⟨by repeat (first | (with_reducible first | exact HB.out | apply below_alloc | apply pw_below_drewN | apply below_drew1) | exact HB.out)⟩⟩
  case round =>
    clear H'
    obtain ⟨x8_1, rfl, HA, HK1, HB⟩ := hrel
    cases gk with
    | zero => exact absurd HA.out (by simp [shunt_block.l0])
    | succ k1 =>
      have H := HA.out
      clear HA
      simp only [shunt_block.l0] at H
      by_cases c2 : x8_1 < (l0.length : Int)
      · rw [if_pos c2] at H
        have c2b0 : decide (x8_1 < (l0.length : Int)) = true := decide_eq_true c2
        clear c2
        have H' := Aside0.mk H
        clear H
        go_wp2
        go_loopg [12] k1 (fun kq v12 w' => ∃ (x12_2 : Int), v12 = .int .i64 x12_2 ∧ Aside0 (shunt_block.l1 kq l0 x8_1 (l0.length : Int) x8_1 x8_1 x12_2 = some r) ∧ Aside0 (kq ≤ k1) ∧ Aside0 (Below w.heap.size w w'))
        case atStart => exact ⟨(0), (by first | rfl | (simp; done) | (simp [*]; done)), H', ⟨Nat.le_refl _⟩, ⟨by repeat (first | (with_reducible first | exact HB.out | apply below_alloc | apply pw_below_drewN | apply below_drew1) | exact HB.out)⟩⟩
        case round =>
          clear H'
          try clear c2
          try clear c2b0
          try clear p2
          obtain ⟨x12_2, rfl, HA, HK2, HB⟩ := hrel
          cases gk with
          | zero => exact absurd HA.out (by simp [shunt_block.l1])
          | succ k2 =>
            have H := HA.out
            clear HA
            simp only [shunt_block.l1] at H
            by_cases c3 : x12_2 < x8_1
            · rw [if_pos c3] at H
              have c3b0 : decide (x12_2 < x8_1) = true := decide_eq_true c3
              clear c3
              replace H := Option.bind_eq_some_iff.mp H
              obtain ⟨t105, A40, H⟩ := H
              replace H : (if t105 > 0 then (some (([x12_2, x8_1, t105] : List Int))) else (shunt_block.l1 k2 l0 x8_1 (l0.length : Int) x8_1 x8_1 (wrap64 (x12_2 + 1)))) = some r := H
              have A4 := Aside0.mk A40
              clear A40
              by_cases c5 : t105 > 0
              · rw [if_pos c5] at H
                have c5b0 : decide (0 < t105) = true := decide_eq_true c5
                clear c5
                obtain ⟨y106, hy106⟩ : ∃ y_ : List Int, y_ = (([x12_2, x8_1, t105] : List Int)) := ⟨_, rfl⟩
                replace H : (some y106) = some r := by first | (rw [hy106]; with_reducible exact H) | (have H2_ := (Option.bind_some _ _).symm.trans H; rw [hy106]; with_reducible exact H2_) | (have H2_ := (Option.bind_some _ _).symm.trans H; with_reducible exact H2_) | with_reducible exact H | (rw [hy106]; exact H) | exact H
                have Ny106 := Aside0.mk hy106
                clear hy106
                obtain rfl := Option.some.inj H
                go_wp2_with (first | ((with_reducible refine gate_callee (f := 72) rfl ?_); refine goesL_ (some 18) rfl rfl Try.func72 (by kernel_rfl) rfl #[.slice A0 l0.length c0, .int .i64 x12_2, .int .i64 x8_1] rfl (by (try simp only [List.map_toArray, List.map_cons, List.map_nil]); first | done | rfl | (simp only [List.length_drop, List.length_take]; rfl)) ?_; (with_reducible refine (shunt_blocking.calls k2 _ _ l0 x12_2 x8_1 t105 _ ?side1 ?side2 A4.out).mono ?_); (case side1 => repeat (first | exact (Kd.C_below HR0.out HB.out) | (with_reducible refine Kd.C_alloc ?_ _) | (with_reducible refine Kd.C_drewN ?_ _) | (with_reducible refine Kd.C_drew ?_))); (case side2 => exact HC0.out); rintro e w' ⟨rfl, ⟨nd, rfl⟩⟩; refine ⟨_, rfl, ?_⟩) | ((with_reducible refine gate_dst (N := 24) rfl ?_); refine Kd.R_lit (Kd.int .i64) _ 3 ?hg (N := 24) ?hd (xs := ([x12_2, x8_1, t105] : List Int)) (inner := [.int .i64 x12_2, .int .i64 x8_1, .int .i64 t105]) (ok := fun _ => True) (okp := fun _ => True) ?hr ?hp (fun _ hk => hk) trivial (Below.refl _ _) (Nat.le_refl _) (by simp) ?_; (case hd => rfl); (case hg => rfl); (case hr => first | (go_simp; done) | (go_simp; rfl)); (case hp => exact (Reps.one (show Kd.M (Kd.int .i64) _ _ _ x12_2 [.int .i64 x12_2] from rfl) (Reps.one (show Kd.M (Kd.int .i64) _ _ _ x8_1 [.int .i64 x8_1] from rfl) (Reps.one (show Kd.M (Kd.int .i64) _ _ _ t105 [.int .i64 t105] from rfl) (Reps.none _ _))))); intro v107 w6 ho7 hb hg_ hnew_; clear hg_ hnew_; (first | rw [← Ny106.out] at ho7 | (simp only [Int.reduceToNat] at ho7; rw [← Ny106.out] at ho7)); have n0_ := Aside0.mk (Kd.R_lower ho7 (below_size (by repeat (first | (with_reducible first | exact HB.out | apply below_alloc | apply pw_below_drewN | apply below_drew1) | exact HB.out)))); have n1_ := Aside0.mk (below_step (by repeat (first | (with_reducible first | exact HB.out | apply below_alloc | apply pw_below_drewN | apply below_drew1) | exact HB.out)) hb); clear HB; have HO108 := n0_; have HB := n1_; clear n0_ n1_; clear hb ho7))
                go_ret
                exact ⟨_, by first | rfl | (simp [errW_none, errW_some] <;> rfl) | (simp [*, errW_none, errW_some] <;> rfl), by (with_reducible repeat (first | apply Kd.R_alloc | apply Kd.R_drewN | apply Kd.R_drew)); exact HO108.out, by repeat (first | (with_reducible first | exact HB.out | apply below_alloc | apply pw_below_drewN | apply below_drew1) | exact HB.out)⟩
              · rw [if_neg c5] at H
                have c5b0 : decide (0 < t105) = false := decide_eq_false c5
                clear c5
                have H' := Aside0.mk H
                clear H
                go_wp2_with (first | ((with_reducible refine gate_callee (f := 72) rfl ?_); refine goesL_ (some 18) rfl rfl Try.func72 (by kernel_rfl) rfl #[.slice A0 l0.length c0, .int .i64 x12_2, .int .i64 x8_1] rfl (by (try simp only [List.map_toArray, List.map_cons, List.map_nil]); first | done | rfl | (simp only [List.length_drop, List.length_take]; rfl)) ?_; (with_reducible refine (shunt_blocking.calls k2 _ _ l0 x12_2 x8_1 t105 _ ?side1 ?side2 A4.out).mono ?_); (case side1 => repeat (first | exact (Kd.C_below HR0.out HB.out) | (with_reducible refine Kd.C_alloc ?_ _) | (with_reducible refine Kd.C_drewN ?_ _) | (with_reducible refine Kd.C_drew ?_))); (case side2 => exact HC0.out); rintro e w' ⟨rfl, ⟨nd, rfl⟩⟩; refine ⟨_, rfl, ?_⟩))
                go_roundg k2
                case measure => have := HK1.out; have := HK2.out; omega
                case rel => exact ⟨(wrap64 (x12_2 + 1)), (by first | rfl | (simp; done) | (simp [*]; done)), H', ⟨by have := HK1.out; have := HK2.out; omega⟩, ⟨by repeat (first | (with_reducible first | exact HB.out | apply below_alloc | apply pw_below_drewN | apply below_drew1) | exact HB.out)⟩⟩
            · rw [if_neg c3] at H
              have c3b0 : decide (x12_2 < x8_1) = false := decide_eq_false c3
              clear c3
              have H' := Aside0.mk H
              clear H
              go_wp2
              go_roundg k2
              case measure => have := HK1.out; have := HK2.out; omega
              case rel => exact ⟨(wrap64 (x8_1 + 1)), (by first | rfl | (simp; done) | (simp [*]; done)), H', ⟨by have := HK1.out; have := HK2.out; omega⟩, ⟨by repeat (first | (with_reducible first | exact HB.out | apply below_alloc | apply pw_below_drewN | apply below_drew1) | exact HB.out)⟩⟩
      · rw [if_neg c2] at H
        have c2b0 : decide (x8_1 < (l0.length : Int)) = false := decide_eq_false c2
        clear c2
        obtain rfl := Option.some.inj H
        go_wp2
        go_ret
        exact ⟨_, by first | rfl | (simp [errW_none, errW_some] <;> rfl) | (simp [*, errW_none, errW_some] <;> rfl), by first | exact Kd.R_nil _ _ _ _ _ | exact Kd.N_nil _ _ _ _ _ | exact Kd.V_nil _ _ _ _ _ | exact Kd.Q_nil _ _ _ _ _ | exact Kd.S_nil _ _ _ _ _, by repeat (first | (with_reducible first | exact HB.out | apply below_alloc | apply pw_below_drewN | apply below_drew1) | exact HB.out)⟩

set_option maxHeartbeats 8000000 in
set_option maxRecDepth 100000 in
theorem shunt_block.callsN (k : Nat) (A0 : Option Addr) (c0 : Nat) (l0 : List Int) (r : List Int) (w : World) (hr0 : Kd.C (Kd.int .i64) w A0 l0.length l0) (hc0 : l0.length ≤ c0) (h : shunt_block.f k l0 = some r) :
    Calls Try.prog 53 #[.slice A0 l0.length c0] w fun e w' => ∃ v0_ : Value, e = .returned (v0_) ∧ Kd.R (Kd.int .i64) 3 w' w.heap.size (fun _ => True) v0_ r ∧ Below w.heap.size w w' ∧ (r = [] → v0_ = .slice none 0 0) := by
  have HR0 := Aside0.mk hr0
  have HC0 := Aside0.mk hc0
  clear hr0 hc0
  have HB := Aside0.mk (Below.refl w.heap.size w)
  have H : (shunt_block.l0 k l0 (l0.length : Int) 0) = some r := h
  clear h
  have H' := Aside0.mk H
  clear H
  go_enter Try.func53, Try.ntmps53
  go_wp2
  go_loopg [8] k (fun kq v8 w' => ∃ (x8_1 : Int), v8 = .int .i64 x8_1 ∧ Aside0 (shunt_block.l0 kq l0 (l0.length : Int) x8_1 = some r) ∧ Aside0 (kq ≤ k) ∧ Aside0 (Below w.heap.size w w'))
  case atStart => exact ⟨(0), (by first | rfl | (simp; done) | (simp [*]; done)), H', ⟨Nat.le_refl _⟩, ⟨by repeat (first | (with_reducible first | exact HB.out | apply below_alloc | apply pw_below_drewN | apply below_drew1) | exact HB.out)⟩⟩
  case round =>
    clear H'
    obtain ⟨x8_1, rfl, HA, HK1, HB⟩ := hrel
    cases gk with
    | zero => exact absurd HA.out (by simp [shunt_block.l0])
    | succ k1 =>
      have H := HA.out
      clear HA
      simp only [shunt_block.l0] at H
      by_cases c2 : x8_1 < (l0.length : Int)
      · rw [if_pos c2] at H
        have c2b0 : decide (x8_1 < (l0.length : Int)) = true := decide_eq_true c2
        clear c2
        have H' := Aside0.mk H
        clear H
        go_wp2
        go_loopg [12] k1 (fun kq v12 w' => ∃ (x12_2 : Int), v12 = .int .i64 x12_2 ∧ Aside0 (shunt_block.l1 kq l0 x8_1 (l0.length : Int) x8_1 x8_1 x12_2 = some r) ∧ Aside0 (kq ≤ k1) ∧ Aside0 (Below w.heap.size w w'))
        case atStart => exact ⟨(0), (by first | rfl | (simp; done) | (simp [*]; done)), H', ⟨Nat.le_refl _⟩, ⟨by repeat (first | (with_reducible first | exact HB.out | apply below_alloc | apply pw_below_drewN | apply below_drew1) | exact HB.out)⟩⟩
        case round =>
          clear H'
          try clear c2
          try clear c2b0
          try clear p2
          obtain ⟨x12_2, rfl, HA, HK2, HB⟩ := hrel
          cases gk with
          | zero => exact absurd HA.out (by simp [shunt_block.l1])
          | succ k2 =>
            have H := HA.out
            clear HA
            simp only [shunt_block.l1] at H
            by_cases c3 : x12_2 < x8_1
            · rw [if_pos c3] at H
              have c3b0 : decide (x12_2 < x8_1) = true := decide_eq_true c3
              clear c3
              replace H := Option.bind_eq_some_iff.mp H
              obtain ⟨t105, A40, H⟩ := H
              replace H : (if t105 > 0 then (some (([x12_2, x8_1, t105] : List Int))) else (shunt_block.l1 k2 l0 x8_1 (l0.length : Int) x8_1 x8_1 (wrap64 (x12_2 + 1)))) = some r := H
              have A4 := Aside0.mk A40
              clear A40
              by_cases c5 : t105 > 0
              · rw [if_pos c5] at H
                have c5b0 : decide (0 < t105) = true := decide_eq_true c5
                clear c5
                obtain ⟨y106, hy106⟩ : ∃ y_ : List Int, y_ = (([x12_2, x8_1, t105] : List Int)) := ⟨_, rfl⟩
                replace H : (some y106) = some r := by first | (rw [hy106]; with_reducible exact H) | (have H2_ := (Option.bind_some _ _).symm.trans H; rw [hy106]; with_reducible exact H2_) | (have H2_ := (Option.bind_some _ _).symm.trans H; with_reducible exact H2_) | with_reducible exact H | (rw [hy106]; exact H) | exact H
                have Ny106 := Aside0.mk hy106
                clear hy106
                obtain rfl := Option.some.inj H
                go_wp2_with (first | ((with_reducible refine gate_callee (f := 72) rfl ?_); refine goesL_ (some 18) rfl rfl Try.func72 (by kernel_rfl) rfl #[.slice A0 l0.length c0, .int .i64 x12_2, .int .i64 x8_1] rfl (by (try simp only [List.map_toArray, List.map_cons, List.map_nil]); first | done | rfl | (simp only [List.length_drop, List.length_take]; rfl)) ?_; (with_reducible refine (shunt_blocking.calls k2 _ _ l0 x12_2 x8_1 t105 _ ?side1 ?side2 A4.out).mono ?_); (case side1 => repeat (first | exact (Kd.C_below HR0.out HB.out) | (with_reducible refine Kd.C_alloc ?_ _) | (with_reducible refine Kd.C_drewN ?_ _) | (with_reducible refine Kd.C_drew ?_))); (case side2 => exact HC0.out); rintro e w' ⟨rfl, ⟨nd, rfl⟩⟩; refine ⟨_, rfl, ?_⟩) | ((with_reducible refine gate_dst (N := 24) rfl ?_); refine Kd.R_lit (Kd.int .i64) _ 3 ?hg (N := 24) ?hd (xs := ([x12_2, x8_1, t105] : List Int)) (inner := [.int .i64 x12_2, .int .i64 x8_1, .int .i64 t105]) (ok := fun _ => True) (okp := fun _ => True) ?hr ?hp (fun _ hk => hk) trivial (Below.refl _ _) (Nat.le_refl _) (by simp) ?_; (case hd => rfl); (case hg => rfl); (case hr => first | (go_simp; done) | (go_simp; rfl)); (case hp => exact (Reps.one (show Kd.M (Kd.int .i64) _ _ _ x12_2 [.int .i64 x12_2] from rfl) (Reps.one (show Kd.M (Kd.int .i64) _ _ _ x8_1 [.int .i64 x8_1] from rfl) (Reps.one (show Kd.M (Kd.int .i64) _ _ _ t105 [.int .i64 t105] from rfl) (Reps.none _ _))))); intro v107 w6 ho7 hb hg_ hnew_; clear hg_ hnew_; (first | rw [← Ny106.out] at ho7 | (simp only [Int.reduceToNat] at ho7; rw [← Ny106.out] at ho7)); have n0_ := Aside0.mk (Kd.R_lower ho7 (below_size (by repeat (first | (with_reducible first | exact HB.out | apply below_alloc | apply pw_below_drewN | apply below_drew1) | exact HB.out)))); have n1_ := Aside0.mk (below_step (by repeat (first | (with_reducible first | exact HB.out | apply below_alloc | apply pw_below_drewN | apply below_drew1) | exact HB.out)) hb); clear HB; have HO108 := n0_; have HB := n1_; clear n0_ n1_; clear hb ho7))
                go_ret
                exact ⟨_, by first | rfl | (simp [errW_none, errW_some] <;> rfl) | (simp [*, errW_none, errW_some] <;> rfl), by (with_reducible repeat (first | apply Kd.R_alloc | apply Kd.R_drewN | apply Kd.R_drew)); exact HO108.out, by repeat (first | (with_reducible first | exact HB.out | apply below_alloc | apply pw_below_drewN | apply below_drew1) | exact HB.out), by first | rfl | (intro _; rfl) | (intro h_; exact absurd (Ny106.out.symm.trans h_) (by simp))⟩
              · rw [if_neg c5] at H
                have c5b0 : decide (0 < t105) = false := decide_eq_false c5
                clear c5
                have H' := Aside0.mk H
                clear H
                go_wp2_with (first | ((with_reducible refine gate_callee (f := 72) rfl ?_); refine goesL_ (some 18) rfl rfl Try.func72 (by kernel_rfl) rfl #[.slice A0 l0.length c0, .int .i64 x12_2, .int .i64 x8_1] rfl (by (try simp only [List.map_toArray, List.map_cons, List.map_nil]); first | done | rfl | (simp only [List.length_drop, List.length_take]; rfl)) ?_; (with_reducible refine (shunt_blocking.calls k2 _ _ l0 x12_2 x8_1 t105 _ ?side1 ?side2 A4.out).mono ?_); (case side1 => repeat (first | exact (Kd.C_below HR0.out HB.out) | (with_reducible refine Kd.C_alloc ?_ _) | (with_reducible refine Kd.C_drewN ?_ _) | (with_reducible refine Kd.C_drew ?_))); (case side2 => exact HC0.out); rintro e w' ⟨rfl, ⟨nd, rfl⟩⟩; refine ⟨_, rfl, ?_⟩))
                go_roundg k2
                case measure => have := HK1.out; have := HK2.out; omega
                case rel => exact ⟨(wrap64 (x12_2 + 1)), (by first | rfl | (simp; done) | (simp [*]; done)), H', ⟨by have := HK1.out; have := HK2.out; omega⟩, ⟨by repeat (first | (with_reducible first | exact HB.out | apply below_alloc | apply pw_below_drewN | apply below_drew1) | exact HB.out)⟩⟩
            · rw [if_neg c3] at H
              have c3b0 : decide (x12_2 < x8_1) = false := decide_eq_false c3
              clear c3
              have H' := Aside0.mk H
              clear H
              go_wp2
              go_roundg k2
              case measure => have := HK1.out; have := HK2.out; omega
              case rel => exact ⟨(wrap64 (x8_1 + 1)), (by first | rfl | (simp; done) | (simp [*]; done)), H', ⟨by have := HK1.out; have := HK2.out; omega⟩, ⟨by repeat (first | (with_reducible first | exact HB.out | apply below_alloc | apply pw_below_drewN | apply below_drew1) | exact HB.out)⟩⟩
      · rw [if_neg c2] at H
        have c2b0 : decide (x8_1 < (l0.length : Int)) = false := decide_eq_false c2
        clear c2
        obtain rfl := Option.some.inj H
        go_wp2
        go_ret
        exact ⟨_, by first | rfl | (simp [errW_none, errW_some] <;> rfl) | (simp [*, errW_none, errW_some] <;> rfl), by first | exact Kd.R_nil _ _ _ _ _ | exact Kd.N_nil _ _ _ _ _ | exact Kd.V_nil _ _ _ _ _ | exact Kd.Q_nil _ _ _ _ _ | exact Kd.S_nil _ _ _ _ _, by repeat (first | (with_reducible first | exact HB.out | apply below_alloc | apply pw_below_drewN | apply below_drew1) | exact HB.out), by first | rfl | (intro _; rfl) | (intro h_; exact absurd (Ny106.out.symm.trans h_) (by simp))⟩

end Go.Proofs.Ytjbjongahnocdaa.S

namespace Go.Proofs.Ytjbjongahnocdaa.S
open Go.Proofs.Ytjbjongahnocdaa.Lib
open Go.Proofs.Ytjbjongahnocdaa.Defs
open Go.Maps (Keyed)
open Go.RowKit Go.Proofs.YtjbjongahnocdaaW.PrintWords Go.Proofs.YtjbjongahnocdaaW.PrintLast Go.Proofs.YtjbjongahnocdaaW.PrintMore
attribute [local go_sem] max2_int min2_int max_two min_two max_three min_three max_four min_four   -- for this text's walks alone
set_option linter.unusedVariables false
set_option linter.unusedSimpArgs false

/-! ### shunt_line_leave: function 57 -/
/-- Only rows of ints and states of the line's type, from block base on, may turn. -/
structure Turn (base : Nat) (w w' : World) : Prop where
  os : w'.os = w.os
  tape : w'.tape = w.tape
  output : w'.output = w.output
  size : w.heap.size ≤ w'.heap.size
  block : ∀ k, k < w.heap.size → w'.heap[k]? = w.heap[k]? ∨ (base ≤ k ∧ ∃ cs t, w.heap[k]? = some (.cells cs t (0, 0)) ∧ (t = 71 ∨ t = 3))
theorem Turn.refl (base : Nat) (w : World) : Turn base w w := ⟨rfl, rfl, rfl, Nat.le_refl _, fun _ _ => .inl rfl⟩
theorem Turn.trans {base : Nat} {w w1 w2 : World} (h : Turn base w w1) (h' : Turn base w1 w2) : Turn base w w2 :=
  ⟨h'.os.trans h.os, h'.tape.trans h.tape, h'.output.trans h.output, Nat.le_trans h.size h'.size, fun k hk => by
    rcases h.block k hk with e | e
    · rcases h'.block k (Nat.lt_of_lt_of_le hk h.size) with e' | ⟨hb, cs, t, hc, ht⟩
      · exact .inl (e'.trans e)
      · exact .inr ⟨hb, cs, t, by rw [← e]; exact hc, ht⟩
    · exact .inr e⟩
theorem Turn.below {base : Nat} {w0 w w' : World} (hb : Below base w0 w) (hbase : base ≤ w.heap.size) (h : Turn base w w') : Below base w0 w' :=
  ⟨h.os.trans hb.os, h.tape.trans hb.tape, h.output.trans hb.output, Nat.le_trans hb.size h.size, fun i hi => by
    rcases h.block i (Nat.lt_of_lt_of_le hi hbase) with e | ⟨hb', _⟩
    · exact e.trans (hb.block i hi)
    · omega⟩
theorem Turn.drewN (base : Nat) (w : World) (n : Nat) : Turn base w (w.drewN n) := ⟨rfl, rfl, rfl, Nat.le_refl _, fun _ _ => .inl rfl⟩

def LineIs (base : Nat) (W : World) (g : Nat) (its lft : List Int) : Prop :=
  ∃ vi vl, W.heap[g]? = some (.cells #[vi, vl] 71 (0, 0)) ∧ base ≤ g ∧ Kd.R (Kd.int .i64) 3 W base (fun k => some k ≠ vl.ownBlock) vi its ∧ Kd.R (Kd.int .i64) 3 W base (fun k => some k ≠ vi.ownBlock) vl lft

theorem LineIs.drewN {base : Nat} {W : World} {g : Nat} {its lft : List Int} (h : LineIs base W g its lft) (n : Nat) : LineIs base (W.drewN n) g its lft := by
  obtain ⟨vi, vl, hb, hg, h1, h2⟩ := h
  exact ⟨vi, vl, hb, hg, Kd.R_drewN h1 n, Kd.R_drewN h2 n⟩

theorem LineIs.drew {base : Nat} {W : World} {g : Nat} {its lft : List Int} (h : LineIs base W g its lft) : LineIs base W.drew g its lft := by
  obtain ⟨vi, vl, hb, hg, h1, h2⟩ := h
  exact ⟨vi, vl, hb, hg, Kd.R_drew h1, Kd.R_drew h2⟩
theorem Turn.drew (base : Nat) (w : World) : Turn base w w.drew := ⟨rfl, rfl, rfl, Nat.le_refl _, fun _ _ => .inl rfl⟩

set_option maxHeartbeats 800000 in
theorem stack_top.calls (base : Nat) (g : Nat) (its lft : List Int) (w : World) (h : LineIs base w g its lft) :
    Calls Try.prog 56 #[.pointer (some ⟨g, 0, none⟩)] w fun e w' => e = .returned (.tuple #[.int .i64 (its.getLast?.getD 0), .bool (!its.isEmpty)]) ∧ Drawn0 w w' := by
  obtain ⟨vi, vl, hb, hg, h1, h2⟩ := h
  obtain ⟨A, c, rfl⟩ := Kd.R_slice h1
  have hr := (Kd.R_reads' h1).2.2
  have hc0 : w.cell? ⟨g, 0, none⟩ = some (.slice A its.length c) := (blk_cell hb 0).trans rfl
  clear h1 h2 hb hg
  by_cases he : its = []
  · subst he
    clear hr
    go_enter Try.func56, Try.ntmps56
    go_wp2
    go_ret2
    exact ⟨rfl, Drawn0.refl _⟩
  · have hn : 0 < its.length := by cases its <;> simp at he ⊢
    have hm : (its.length : Int) ≤ 9223372036854775807 := by have := hr.2.1; omega
    obtain ⟨jt, hjt⟩ : ∃ jt : Int, jt = (its.length : Int) - 1 := ⟨_, rfl⟩
    have p0 : 0 ≤ jt := by omega
    have q0 : jt < (its.length : Int) := by omega
    obtain ⟨ad, ea, hx⟩ := Kd.at_int hr jt p0 q0
    cases ea
    have hv : its.getLast?.getD 0 = rd its jt := by
      unfold rd
      rw [List.getLast?_eq_getElem?, List.getD_eq_getElem?_getD, hjt, show ((its.length : Int) - 1).toNat = its.length - 1 by omega]
    have hjw : IntKind.i64.wrap ((its.length : Int) - 1) = jt := by rw [IntWalk.i64_in _ (by omega), hjt]
    have hne : ((its.length : Int) == 0) = false := by rw [beq_eq_false_iff_ne]; omega
    have hne' : (its.length == 0) = false := by rw [beq_eq_false_iff_ne]; omega
    have he' : its.isEmpty = false := by cases its <;> simp at he ⊢
    rw [hv, he']
    replace p0 := eq_true p0
    replace q0 := eq_true q0
    clear hv he he' hr hjt hn hm
    go_enter Try.func56, Try.ntmps56
    go_wp2
    go_quiet (fail)
    go_wp2
    go_ret2
    exact ⟨rfl, by repeat (first | exact Drawn0.refl _ | apply Drawn0.step)⟩

set_option maxHeartbeats 800000 in
theorem stack_push.calls (base : Nat) (g : Nat) (its lft : List Int) (x : Int) (w : World) (h : LineIs base w g its lft) (hl : its.length < 17592186044415) (hbase : base ≤ w.heap.size) :
    Calls Try.prog 58 #[.pointer (some ⟨g, 0, none⟩), .int .i64 x] w fun e w' => e = .returned (.tuple #[]) ∧ LineIs base w' g (its ++ [x]) lft ∧ Turn base w w' := by
  obtain ⟨vi, vl, hb, hg, h1, h2⟩ := h
  have hc0 : w.cell? ⟨g, 0, none⟩ = some vi := (blk_cell hb 0).trans rfl
  have hne1 : some g ≠ vi.ownBlock := Kd.R_ne h1 hb (by decide)
  obtain ⟨v1, w1, hrun, ho, hB1, hgr, hat⟩ := append_one (Kd.int .i64) (P := Try.prog) (w0 := w) (W := w) base 22 22 3 (.int .i64 0) 8 Try.underlying22 info3 rfl (by decide) (by omega) (v := vi) (xs := its) x [.int .i64 x] (ok := fun k => some k ≠ vl.ownBlock) (fun _ => False) rfl (fun _ h => h.elim) (fun k hk => by
      have hob := Kd.R_own h2
      obtain ⟨inner, hob⟩ := hob
      intro he
      have := own_lt hob k he.symm
      omega) h1 (Below.refl _ _) hbase (by omega)
  obtain ⟨A1, c1, hv1⟩ := Kd.R_slice ho
  have hb1 : w1.heap[g]? = some (.cells #[vi, vl] 71 (0, 0)) := blk_grown hb hgr hne1
  have h2' := Kd.R_after (Kd.R_mono h2 (fun k hk => ⟨trivial, hk⟩) : Kd.R (Kd.int .i64) 3 w base (fun k => True ∧ some k ≠ vi.ownBlock) vl lft) hgr hat
  have HL : LineIs base (w1.setCell ⟨g, 0, none⟩ v1) g (its ++ [x]) lft :=
    ⟨v1, vl, blk_put hb1 0 v1 rfl, hg, Kd.R_set ho hb1 (by simp [Kd.int, Kd.scalar]) 0 v1, Kd.R_set (Kd.R_mono h2' (fun k hk => hk.2)) hb1 (by simp [Kd.int, Kd.scalar]) 0 v1⟩
  have HT : Turn base w (w1.setCell ⟨g, 0, none⟩ v1) := ⟨hB1.os, hB1.tape, hB1.output, by simpa [World.setCell] using hgr.size, fun k hk => by
    by_cases hkg : k = g
    · subst hkg
      exact .inr ⟨hg, _, _, hb, .inl rfl⟩
    · by_cases hko : some k = vi.ownBlock
      · obtain ⟨inner, hob⟩ := Kd.R_own h1
        obtain ⟨cells, hcl⟩ := own_typed hob k hko.symm
        exact .inr ⟨own_base hob k hko.symm, _, _, hcl, .inr rfl⟩
      · exact .inl ((Below.heap_setCell w1 _ _ k hkg).trans (hgr.block k hk hko))⟩
  have hc1 : w1.cell? ⟨g, 0, none⟩ = some vi := (blk_cell hb1 0).trans rfl
  have hf1 : w1.frozen? ⟨g, 0, none⟩ = false := blk_frozen hb1 0
  subst hv1
  simp only [List.length_append, List.length_cons, List.length_nil, Nat.zero_add] at HL HT hrun
  have HRUN := Aside0.mk hrun
  have HL' := Aside0.mk HL
  have HT' := Aside0.mk HT
  clear hrun HL HT h1 h2 h2' hb hb1 ho hgr hat hB1 hne1
  go_enter Try.func58, Try.ntmps58
  go_wp2_with (at_builtin; go_must (refine wpList_appendRun _ rfl _ _ _ rfl HRUN.out rfl rfl rfl ?_))
  go_end0
  exact ⟨rfl, HL'.out, HT'.out⟩

theorem Turn.cell {base g : Nat} {w : World} {cs : Array Value} (hg : base ≤ g) (hb : w.heap[g]? = some (.cells cs 71 (0, 0))) (i : Nat) (u : Value) : Turn base w (w.setCell ⟨g, i, none⟩ u) :=
  have hB := (Below.refl g w).setCell (p := ⟨g, i, none⟩) (Nat.le_refl _) u
  ⟨hB.os, hB.tape, hB.output, by simp [World.setCell], fun k hk => by
    by_cases hkg : k = g
    · subst hkg
      exact .inr ⟨hg, _, _, hb, .inl rfl⟩
    · exact .inl (Below.heap_setCell w _ _ k hkg)⟩

set_option maxHeartbeats 800000 in
theorem stack_pop.calls (base : Nat) (g : Nat) (its lft : List Int) (w : World) (h : LineIs base w g its lft) (hn : 0 < its.length) :
    Calls Try.prog 76 #[.pointer (some ⟨g, 0, none⟩)] w fun e w' => e = .returned (.tuple #[]) ∧ LineIs base w' g its.dropLast lft ∧ Turn base w w' := by
  obtain ⟨vi, vl, hb, hg, h1, h2⟩ := h
  obtain ⟨A, c, rfl⟩ := Kd.R_slice h1
  have hr := (Kd.R_reads' h1).2.2
  have hc0 : w.cell? ⟨g, 0, none⟩ = some (.slice A its.length c) := (blk_cell hb 0).trans rfl
  have hf0 : w.frozen? ⟨g, 0, none⟩ = false := blk_frozen hb 0
  have hcap : its.length ≤ c := (Kd.R_reads' h1).2.1
  have hm : (its.length : Int) ≤ 9223372036854775807 := by have := hr.2.1; omega
  obtain ⟨jt, hjt⟩ : ∃ jt : Int, jt = (its.length : Int) - 1 := ⟨_, rfl⟩
  have hjw : IntKind.i64.wrap ((its.length : Int) - 1) = jt := by rw [IntWalk.i64_in _ (by omega), hjt]
  obtain ⟨i0, hi0, _, _, _⟩ := info_parts info3
  have hcut := cut_to (P := Try.prog) 22 3 .i64 Try.underlying22 hi0 A its.length c jt (by omega) (by omega) hcap
  have HL : LineIs base (w.setCell ⟨g, 0, none⟩ (.slice A jt.toNat c)) g its.dropLast lft := by
    have h3 := Kd.R_take (m := jt.toNat) h1 (by omega)
    rw [show its.take jt.toNat = its.dropLast by rw [List.dropLast_eq_take]; congr 1; omega] at h3
    have e1 : (Value.slice A jt.toNat c).ownBlock = (Value.slice A its.length c).ownBlock := by cases A <;> rfl
    exact ⟨_, vl, blk_put hb 0 _ rfl, hg, Kd.R_set h3 hb (by simp [Kd.int, Kd.scalar]) 0 _, by rw [e1]; exact Kd.R_set h2 hb (by simp [Kd.int, Kd.scalar]) 0 _⟩
  have HT := Turn.cell hg hb 0 (.slice A jt.toNat c)
  have p0 := eq_true (show 0 ≤ jt by omega)
  have HL' := Aside0.mk HL
  have HT' := Aside0.mk HT
  clear HL HT h1 h2 hr hn hm hjt hcap hi0
  go_enter Try.func76, Try.ntmps76
  go_wp2
  go_region
  all_goals (go_end0; exact ⟨rfl, HL'.out.drew, HT'.out.trans (Turn.drew _ _)⟩)

set_option maxHeartbeats 800000 in
theorem line_isNext.calls (base : Nat) (g : Nat) (its lft : List Int) (b : Bool) (w : World) (h : LineIs base w g its lft) (hb : b = (!its.isEmpty && decide (its.getLast?.getD 0 = (lft.length : Int) + 1))) (hl : lft.length < 17592186044415) :
    Calls Try.prog 61 #[.pointer (some ⟨g, 0, none⟩)] w fun e w' => e = .returned (.bool b) ∧ Drawn0 w w' := by
  have HT := stack_top.calls base g its lft w h
  obtain ⟨vi, vl, hbk, hg, h1, h2⟩ := h
  obtain ⟨A, c, rfl⟩ := Kd.R_slice h2
  have hc0 : w.cell? ⟨g, 1, none⟩ = some (.slice A lft.length c) := (blk_cell hbk 1).trans rfl
  obtain ⟨t, ht⟩ : ∃ t, t = its.getLast?.getD 0 := ⟨_, rfl⟩
  rw [← ht] at HT hb
  have HT' := Aside0.mk HT
  clear HT h1 h2 hbk ht
  cases he : its.isEmpty with
  | true =>
    rw [he] at hb HT'
    simp at hb
    subst hb
    clear he
    go_enter Try.func61, Try.ntmps61
    go_wp2_with (go_at_call 56; go_must ((with_reducible refine HT'.out.mono ?_); rintro e w' ⟨rfl, ⟨nd, rfl⟩⟩))
    go_ret
    exact ⟨rfl, by repeat (first | exact Drawn0.refl _ | apply Drawn0.step)⟩
  | false =>
    rw [he] at hb HT'
    clear he
    have e1 : (t == (lft.length : Int) + 1) = b := by rw [hb, Bool.eq_iff_iff]; simp
    clear hb
    go_enter Try.func61, Try.ntmps61
    go_wp2_with (go_at_call 56; go_must ((with_reducible refine HT'.out.mono ?_); rintro e w' ⟨rfl, ⟨nd, rfl⟩⟩))
    go_ret
    exact ⟨by simp [e1], by repeat (first | exact Drawn0.refl _ | apply Drawn0.step)⟩

theorem LineIs.leftPush {base : Nat} {w : World} {g : Nat} {its lft : List Int} (h : LineIs base w g its lft) (x : Int) (hl : lft.length < 17592186044415) (hbase : base ≤ w.heap.size) :
    ∃ A c w1 A1 c1, w.cell? ⟨g, 1, none⟩ = some (.slice A lft.length c) ∧ (Builtin.append_ #[22, 22] 22 #[.slice A lft.length c, .slice (some ⟨w.heap.size, 0, none⟩) 1 1]).run Try.prog (w.alloc (.cells #[.int .i64 x] 3)) = .ok (.slice A1 (lft.length + 1) c1) w1 ∧
      w1.cell? ⟨g, 1, none⟩ = some (.slice A lft.length c) ∧ w1.frozen? ⟨g, 1, none⟩ = false ∧ LineIs base (w1.setCell ⟨g, 1, none⟩ (.slice A1 (lft.length + 1) c1)) g its (lft ++ [x]) ∧ Turn base w (w1.setCell ⟨g, 1, none⟩ (.slice A1 (lft.length + 1) c1)) := by
  obtain ⟨vi, vl, hb, hg, h1, h2⟩ := h
  have hc0 : w.cell? ⟨g, 1, none⟩ = some vl := (blk_cell hb 1).trans rfl
  have hne1 : some g ≠ vl.ownBlock := Kd.R_ne h2 hb (by decide)
  obtain ⟨v1, w1, hrun, ho, hB1, hgr, hat⟩ := append_one (Kd.int .i64) (P := Try.prog) (w0 := w) (W := w) base 22 22 3 (.int .i64 0) 8 Try.underlying22 info3 rfl (by decide) (by omega) (v := vl) (xs := lft) x [.int .i64 x] (ok := fun k => some k ≠ vi.ownBlock) (fun _ => False) rfl (fun _ h => h.elim) (fun k hk => by
      obtain ⟨inner, hob⟩ := Kd.R_own h1
      intro he
      have := own_lt hob k he.symm
      omega) h2 (Below.refl _ _) hbase (by omega)
  obtain ⟨A1, c1, hv1⟩ := Kd.R_slice ho
  obtain ⟨A, c, hvl⟩ := Kd.R_slice h2
  have hb1 : w1.heap[g]? = some (.cells #[vi, vl] 71 (0, 0)) := blk_grown hb hgr hne1
  have h1' := Kd.R_after (Kd.R_mono h1 (fun k hk => ⟨trivial, hk⟩) : Kd.R (Kd.int .i64) 3 w base (fun k => True ∧ some k ≠ vl.ownBlock) vi its) hgr hat
  have HL : LineIs base (w1.setCell ⟨g, 1, none⟩ v1) g its (lft ++ [x]) :=
    ⟨vi, v1, blk_put hb1 1 v1 rfl, hg, Kd.R_set (Kd.R_mono h1' (fun k hk => hk.2)) hb1 (by simp [Kd.int, Kd.scalar]) 1 v1, Kd.R_set ho hb1 (by simp [Kd.int, Kd.scalar]) 1 v1⟩
  have HT : Turn base w (w1.setCell ⟨g, 1, none⟩ v1) := ⟨hB1.os, hB1.tape, hB1.output, by simpa [World.setCell] using hgr.size, fun k hk => by
    by_cases hkg : k = g
    · subst hkg
      exact .inr ⟨hg, _, _, hb, .inl rfl⟩
    · by_cases hko : some k = vl.ownBlock
      · obtain ⟨inner, hob⟩ := Kd.R_own h2
        obtain ⟨cells, hcl⟩ := own_typed hob k hko.symm
        exact .inr ⟨own_base hob k hko.symm, _, _, hcl, .inr rfl⟩
      · exact .inl ((Below.heap_setCell w1 _ _ k hkg).trans (hgr.block k hk hko))⟩
  have hc1 : w1.cell? ⟨g, 1, none⟩ = some vl := (blk_cell hb1 1).trans rfl
  have hf1 : w1.frozen? ⟨g, 1, none⟩ = false := blk_frozen hb1 1
  subst hv1
  subst hvl
  simp only [List.length_append, List.length_cons, List.length_nil, Nat.zero_add] at HL HT hrun
  exact ⟨A, c, w1, A1, c1, hc0, hrun, hc1, hf1, HL, HT⟩

set_option maxHeartbeats 800000 in
theorem line_leave.calls (base : Nat) (g : Nat) (its lft : List Int) (w : World) (h : LineIs base w g its lft) (hl : lft.length < 17592186044415) (hbase : base ≤ w.heap.size) :
    Calls Try.prog 57 #[.pointer (some ⟨g, 0, none⟩)] w fun e w' => e = .returned (.bool (!its.isEmpty)) ∧ LineIs base w' g its.dropLast (if its.isEmpty then lft else lft ++ [its.getLast?.getD 0]) ∧ Turn base w w' := by
  have HT' := Aside0.mk (stack_top.calls base g its lft w h)
  have HH := Aside0.mk h
  clear h
  cases he : its.isEmpty with
  | true =>
    obtain rfl : its = [] := by simpa using he
    clear he
    have e2 : LineIs base w g ([] : List Int).dropLast (if true = true then lft else lft ++ [([] : List Int).getLast?.getD 0]) := HH.out
    have E2 := Aside0.mk e2
    clear e2
    go_enter Try.func57, Try.ntmps57
    go_wp2_with (go_at_call 56; go_must ((with_reducible refine HT'.out.mono ?_); rintro e w' ⟨rfl, ⟨nd, rfl⟩⟩))
    go_ret
    exact ⟨rfl, E2.out.drewN _, Turn.drewN _ _ _⟩
  | false =>
    have hn : 0 < its.length := by cases its <;> simp at he ⊢
    rw [he] at HT'
    clear he
    obtain ⟨t, ht⟩ : ∃ t, t = its.getLast?.getD 0 := ⟨_, rfl⟩
    obtain ⟨its2, h2⟩ : ∃ l, l = its.dropLast := ⟨_, rfl⟩
    have HP := Aside0.mk (fun n => stack_pop.calls base g its lft (w.drewN n) (HH.out.drewN n) hn)
    rw [← ht] at HT' ⊢
    rw [← h2] at HP ⊢
    clear ht h2 hn
    have e2 : (if (false : Bool) = true then lft else lft ++ [t]) = lft ++ [t] := rfl
    rw [e2]
    clear e2
    go_enter Try.func57, Try.ntmps57
    go_wp2_with (first | (go_at_call 56; go_must ((with_reducible refine HT'.out.mono ?_); rintro e w' ⟨rfl, ⟨nd, rfl⟩⟩)) | (go_at_call 76; go_must ((with_reducible refine (HP.out _).mono ?_); rintro e w2 ⟨rfl, hL2, hT2⟩; have hsz := Nat.le_trans hbase hT2.size; obtain ⟨A, c, w3, A1, c1, q0, q1, q2, q3, q4, q5⟩ := hL2.leftPush t hl hsz; have Q1 := Aside0.mk q1; have Q4 := Aside0.mk q4; have Q5 := Aside0.mk ((Turn.drewN _ _ _).trans (hT2.trans q5)); clear hL2 hT2 hsz q1 q4 q5)) | (at_builtin; go_must (refine wpList_appendRun _ rfl _ _ _ rfl Q1.out rfl rfl rfl ?_)))
    go_ret
    exact ⟨rfl, Q4.out, Q5.out⟩

def shunt_line_leave.f : Unit := ()


end Go.Proofs.Ytjbjongahnocdaa.S

namespace Go.Proofs.Ytjbjongahnocdaa.S
open Go.Proofs.Ytjbjongahnocdaa.Lib
open Go.Proofs.Ytjbjongahnocdaa.Defs
open Go.Maps (Keyed)
open Go.RowKit Go.Proofs.YtjbjongahnocdaaW.PrintWords Go.Proofs.YtjbjongahnocdaaW.PrintLast Go.Proofs.YtjbjongahnocdaaW.PrintMore
attribute [local go_sem] max2_int min2_int max_two min_two max_three min_three max_four min_four   -- for this text's walks alone
set_option linter.unusedVariables false
set_option linter.unusedSimpArgs false

/-! ### shunt_Stack: function 28 -/
def shunt_Stack.f (k : Nat) (l0 : List Int) : Option (ByteArray × List Int × Int) :=
  if isOrderB l0 = true then
    (if (stackGo l0 ([], [], [])).2.1.length < l0.length then (shunt_block.f k l0).bind fun b => some (⟨#[]⟩, b, 0)
    else some (strOfNums (stackGo l0 ([], [], [])).2.2, [], 0))
  else some (⟨#[]⟩, [], 2)
theorem shunt_Stack.mono : ∀ a0 k, LeO (shunt_Stack.f k a0) (shunt_Stack.f (k + 1) a0) := by
  intro a0 k
  unfold shunt_Stack.f
  repeat' first
    | exact LeO.refl _
    | refine LeO.ite ?_ ?_
    | refine LeO.bind (shunt_block.mono _ _) (fun _ => ?_)

theorem LineIs.keep {base : Nat} {W W1 : World} {g : Nat} {its lft : List Int} (h : LineIs base W g its lft) (hk : ∀ k, k < W.heap.size → (k = g ∨ ∃ cs, W.heap[k]? = some (.cells cs 3 (0, 0))) → W1.heap[k]? = W.heap[k]?) : LineIs base W1 g its lft := by
  obtain ⟨vi, vl, hb, hg, h1, h2⟩ := h
  have hm : ∀ {v u : Value} {xs : List Int}, Kd.R (Kd.int .i64) 3 W base (fun k => some k ≠ u.ownBlock) v xs → Kd.R (Kd.int .i64) 3 W1 base (fun k => some k ≠ u.ownBlock) v xs := fun {v u xs} h => by
    refine Kd.R_mono (Kd.R_step (Kd.R_bound h) (fun k ho hlt => hk k hlt (.inr ?_))) (fun k hk => hk.1)
    obtain ⟨_, _, _, q, hq, cs, hc⟩ := ho
    have : q = 3 := by simpa [Kd.int, Kd.scalar] using hq
    exact ⟨cs, this ▸ hc⟩
  exact ⟨vi, vl, (hk g (blk_lt hb) (.inl rfl)).trans hb, hg, hm h1, hm h2⟩

/-- What a line's call turns, no row of bytes is. -/
theorem Turn.bytes {base base' : Nat} {w w' : World} {ok : Nat → Prop} {v : Value} {xs : List Int} (h : Turn base w w') (ho : Kd.R (Kd.int .u8) 5 w base' ok v xs) : Kd.R (Kd.int .u8) 5 w' base' ok v xs := by
  refine Kd.R_mono (Kd.R_step (Kd.R_bound ho) (fun k hok hlt => ?_)) (fun k hk => hk.1)
  obtain ⟨_, _, _, q, hq, cs, hc⟩ := hok
  have : q = 5 := by simpa [Kd.int, Kd.scalar] using hq
  subst this
  rcases h.block k hlt with e | ⟨_, cs', t, hc', ht⟩
  · exact e
  · rw [hc] at hc'
    injection hc' with hc'
    injection hc' with _ ht'
    subst ht'
    rcases ht with ht | ht <;> cases ht

theorem LineIs.len {base : Nat} {w : World} {g : Nat} {its lft : List Int} (h : LineIs base w g its lft) : ∃ A c, w.cell? ⟨g, 1, none⟩ = some (.slice A lft.length c) := by
  obtain ⟨vi, vl, hb, hg, h1, h2⟩ := h
  obtain ⟨A, c, rfl⟩ := Kd.R_slice h2
  exact ⟨A, c, (blk_cell hb 1).trans rfl⟩
theorem LineIs.lt {base : Nat} {w : World} {g : Nat} {its lft : List Int} (h : LineIs base w g its lft) : g < w.heap.size := by
  obtain ⟨vi, vl, hb, _⟩ := h
  exact blk_lt hb

theorem LineIs.grown5 {base base' : Nat} {W W1 : World} {g : Nat} {its lft : List Int} {ok : Nat → Prop} {v : Value} {xs : List Int} (h : LineIs base W g its lft) (ho : Kd.R (Kd.int .u8) 5 W base' ok v xs) (hg : W.grownBy W1 v.ownBlock) : LineIs base W1 g its lft := by
  obtain ⟨inner, hob⟩ := Kd.R_own ho
  refine h.keep (fun k hk hk' => hg.block k hk (fun he => ?_))
  obtain ⟨cells, hcl⟩ := own_typed hob k he.symm
  rcases hk' with rfl | ⟨cs, hc⟩
  · obtain ⟨vi, vl, hb, _⟩ := h
    rw [hcl] at hb
    injection hb with hb
    injection hb with _ hb
    cases hb
  · rw [hcl] at hc
    injection hc with hc
    injection hc with _ hc
    cases hc

set_option maxHeartbeats 2000000 in
set_option maxRecDepth 100000 in
theorem shunt_Stack.calls (k : Nat) (A0 : Option Addr) (c0 : Nat) (l0 : List Int) (r1 : ByteArray) (r2 : List Int) (r3 : Int) (w : World) (hr0 : Kd.C (Kd.int .i64) w A0 l0.length l0) (hc0 : l0.length ≤ c0) (h : shunt_Stack.f k l0 = some (r1, r2, r3)) :
    Calls Try.prog 28 #[.slice A0 l0.length c0] w fun e w' => ∃ v1_ : Value, e = .returned (.tuple #[.string r1, v1_, .int .i64 r3]) ∧ Kd.R (Kd.int .i64) 3 w' w.heap.size (fun _ => True) v1_ r2 ∧ Below w.heap.size w w' := by
  have HR0 := Aside0.mk hr0
  have HC0 := Aside0.mk hc0
  clear hr0 hc0
  unfold shunt_Stack.f at h
  cases hord : isOrderB l0 with
  | false =>
    rw [hord, if_neg (by decide)] at h
    injection h with h
    injection h with e1 h
    injection h with e2 e3
    subst e1; subst e2; subst e3
    have HO := Aside0.mk (shunt_isOrder.calls A0 c0 l0 false w HR0.out HC0.out (by unfold shunt_isOrder.f; rw [hord]))
    clear hord
    go_enter Try.func28, Try.ntmps28
    go_wp2_with (go_at_call 52; go_must ((with_reducible refine HO.out.mono ?_); rintro e w1 ⟨rfl, hb1⟩; have HB1 := Aside0.mk hb1; clear hb1))
    go_ret3
    exact ⟨_, rfl, Kd.R_nil _ _ _ _ _, HB1.out⟩
  | true =>
    rw [hord, if_pos rfl] at h
    have HO := Aside0.mk (shunt_isOrder.calls A0 c0 l0 true w HR0.out HC0.out (by unfold shunt_isOrder.f; rw [hord]))
    have hl60 : l0.length ≤ 60 := by
      unfold isOrderB at hord
      simp at hord
      exact hord.1
    obtain ⟨Rs, hRs⟩ : ∃ Rs, stackGo l0 ([], [], []) = Rs := ⟨_, rfl⟩
    rw [hRs] at h
    have H := Aside0.mk h
    have HG := Aside0.mk hRs
    clear h hRs hord
    go_enter Try.func28, Try.ntmps28
    go_wp2_with (go_at_call 52; go_must ((with_reducible refine HO.out.mono ?_); rintro e w1 ⟨rfl, hb1⟩; have HB1 := Aside0.mk hb1; clear hb1))
    go_loopw [6, 16] (fun v6 v16 wr => ∃ (x : Int) (s lft plan : List Int), v16 = .int .i64 x ∧ Aside0 (0 ≤ x ∧ x ≤ l0.length ∧ (s.length : Int) + lft.length = x ∧ (plan.length : Int) = x + lft.length) ∧ Aside0 (stackGo (l0.drop x.toNat) (s, lft, plan) = Rs) ∧ Aside0 (LineIs w.heap.size wr w1.heap.size s.reverse lft) ∧ Aside0 (Kd.R (Kd.int .u8) 5 wr w.heap.size (fun _ => True) v6 plan) ∧ Aside0 (Below w.heap.size w wr)) (fun _ v16 _ => l0.length - (intOf v16).toNat)
    case atStart => exact ⟨0, [], [], [], rfl, ⟨by simp⟩, HG, ⟨⟨_, _, heap_alloc_new w1 _, HB1.out.size, Kd.R_nil _ _ _ _ _, Kd.R_nil _ _ _ _ _⟩⟩, ⟨Kd.R_nil _ _ _ _ _⟩, ⟨below_alloc HB1.out _⟩⟩
    case round =>
      clear HG
      obtain ⟨x, s, lft, plan, rfl, HX, HG, HL, HP, HB⟩ := hrel
      obtain ⟨p0, p1, p2, p3⟩ := HX.out
      have hx60 : x ≤ 60 := by omega
      by_cases c2 : x < (l0.length : Int)
      · have c2b0 : decide (x < (l0.length : Int)) = true := decide_eq_true c2
        have HG1 : stackGo (l0.drop (x + 1).toNat) (drainS (rd l0 x :: s) lft (plan ++ [105])) = Rs := by
          rw [← HG.out, show (x + 1).toNat = x.toNat + 1 by omega]
          unfold rd
          rw [List.getD_eq_getElem?_getD, List.getElem?_eq_getElem (show x.toNat < l0.length by omega), Option.getD_some, List.drop_eq_getElem_cons (show x.toNat < l0.length by omega)]
          rfl
        obtain ⟨rest, hrest⟩ : ∃ rest, rest = l0.drop (x + 1).toNat := ⟨_, rfl⟩
        rw [← hrest] at HG1
        have HG2 := Aside0.mk HG1
        have HREST := Aside0.mk hrest
        obtain ⟨ad, ea, hx⟩ := Kd.at_int (Kd.C_below HR0.out HB.out) x p0 c2
        cases ea
        have q0 := eq_true p0
        have q1 := eq_true c2
        have HPU := Aside0.mk (stack_push.calls w.heap.size w1.heap.size s.reverse lft (rd l0 x) wr HL.out (by simp; omega) HB.out.size)
        rw [← List.reverse_cons] at HPU
        clear HG HG1 hrest c2 p2 p3
        go_wp2_with (first | (go_at_call 58; go_must ((with_reducible refine HPU.out.mono ?_); rintro e w2 ⟨rfl, hL2, hT2⟩; have HL2 := Aside0.mk hL2; have HB2 := Aside0.mk (Turn.below HB.out HB.out.size hT2); obtain ⟨v3, w3, z0, z1, z2, z3, _⟩ := append_one (Kd.int .u8) (P := Try.prog) (w0 := w) (W := w2) w.heap.size 74 74 5 (.int .u8 0) 1 Try.underlying74 info5 rfl (by decide) (by omega) (v := u6) (xs := plan) 105 [.int .u8 105] (ok := fun _ => True) (fun _ => False) rfl (fun _ h => h.elim) (fun k hk => trivial) (hT2.bytes HP.out) HB2.out HB2.out.size (by have := HX.out; omega); have Z0 := Aside0.mk z0; have Z1 := Aside0.mk z1; have Z2 := Aside0.mk z2; have Z3 := Aside0.mk (HL2.out.grown5 (hT2.bytes HP.out) z3); clear hL2 hT2 z0 z1 z2 z3)) | (at_builtin; go_must (refine wpList_appendRun _ rfl _ _ _ rfl Z0.out rfl rfl rfl ?_)))
        clear HL HP HB HPU hx
        go_loopg [6] (s.length + 1) (fun kq v6 wi => ∃ (s' lft' plan' : List Int), Aside0 (kq = s'.length) ∧ Aside0 ((s'.length : Int) + lft'.length = x + 1 ∧ (plan'.length : Int) = x + 1 + lft'.length) ∧ Aside0 (stackGo rest (drainS s' lft' plan') = Rs) ∧ Aside0 (LineIs w.heap.size wi w1.heap.size s'.reverse lft') ∧ Aside0 (Kd.R (Kd.int .u8) 5 wi w.heap.size (fun _ => True) v6 plan') ∧ Aside0 (Below w.heap.size w wi))
        case atStart => exact ⟨rd l0 x :: s, lft, plan ++ [105], ⟨rfl⟩, ⟨by have := HX.out; simp; omega⟩, HG2, Z3, Z1, Z2⟩
        case round =>
          clear Z0 Z1 Z2 Z3 HG2 HL2 HB2
          obtain ⟨s', lft', plan', HK, HY, HG2, HL, HP, HB⟩ := hrel
          obtain ⟨y0, y1⟩ := HY.out
          have HN := Aside0.mk (line_isNext.calls w.heap.size w1.heap.size s'.reverse lft' (nextIs s' lft') wr HL.out (by cases s' <;> simp [nextIs]) (by omega))
          have CONT : ∀ v6' wz, stackGo rest (s', lft', plan') = Rs → Aside0 (LineIs w.heap.size wz w1.heap.size s'.reverse lft') → Aside0 (Kd.R (Kd.int .u8) 5 wz w.heap.size (fun _ => True) v6' plan') → Aside0 (Below w.heap.size w wz) → ∃ (x' : Int) (s lft plan : List Int), (Value.int .i64 (x + 1)) = .int .i64 x' ∧ Aside0 (0 ≤ x' ∧ x' ≤ l0.length ∧ (s.length : Int) + lft.length = x' ∧ (plan.length : Int) = x' + lft.length) ∧ Aside0 (stackGo (l0.drop x'.toNat) (s, lft, plan) = Rs) ∧ Aside0 (LineIs w.heap.size wz w1.heap.size s.reverse lft) ∧ Aside0 (Kd.R (Kd.int .u8) 5 wz w.heap.size (fun _ => True) v6' plan) ∧ Aside0 (Below w.heap.size w wz) := fun v6' wz e1 e2 e3 e4 =>
            ⟨x + 1, s', lft', plan', rfl, ⟨by have := of_eq_true q1; omega⟩, ⟨by rw [← HREST.out]; exact e1⟩, e2, e3, e4⟩
          have CT := Aside0.mk CONT
          clear CONT
          cases s' with
          | nil =>
            have HG3 := Aside0.mk (show stackGo rest ([], lft', plan') = Rs from HG2.out)
            have HN' := Aside0.mk (show Calls Try.prog 61 #[.pointer (some ⟨w1.heap.size, 0, none⟩)] wr fun e w' => e = .returned (.bool false) ∧ Drawn0 wr w' from HN.out)
            clear HG2 y0 y1 HN
            go_wp2_with (go_at_call 61; go_must ((with_reducible refine HN'.out.mono ?_); rintro e w2 ⟨rfl, ⟨nd, rfl⟩⟩))
            go_roundw
            case rel => exact CT.out _ _ HG3.out ⟨HL.out.drewN _⟩ ⟨Kd.R_drewN HP.out _⟩ ⟨pw_below_drewN HB.out _⟩
            case measure => have := of_eq_true q1; simp [intOf]; omega
          | cons a t =>
            by_cases c4 : a = (lft'.length : Int) + 1
            · have c4b : decide (a = (lft'.length : Int) + 1) = true := decide_eq_true c4
              have HG3 := Aside0.mk (show stackGo rest (drainS t (lft' ++ [a]) (plan' ++ [111])) = Rs by
                have := HG2.out
                unfold drainS at this
                rw [if_pos c4] at this
                exact this)
              have HN' := Aside0.mk (show Calls Try.prog 61 #[.pointer (some ⟨w1.heap.size, 0, none⟩)] wr fun e w' => e = .returned (.bool true) ∧ Drawn0 wr w' by have := HN.out; simpa only [nextIs, c4b] using this)
              have HLV := Aside0.mk (fun n => line_leave.calls w.heap.size w1.heap.size (a :: t).reverse lft' (wr.drewN n) (HL.out.drewN n) (by omega) HB.out.size)
              have e5 : (a :: t).reverse.dropLast = t.reverse := by simp
              have e6 : (if (a :: t).reverse.isEmpty then lft' else lft' ++ [(a :: t).reverse.getLast?.getD 0]) = lft' ++ [a] := by simp
              have e7 : (a :: t).reverse.isEmpty = false := by simp
              rw [e5, e6, e7] at HLV
              have HY2 := Aside0.mk (show (t.length : Int) + (lft' ++ [a]).length = x + 1 ∧ ((plan' ++ [111]).length : Int) = x + 1 + (lft' ++ [a]).length by simp at y0 ⊢; omega)
              have HPB := Aside0.mk (show (plan'.length + 1) * 1 ≤ 140737488355328 by simp at y0; omega)
              clear HG2 HN y0 y1 c4 c4b e5 e6 e7
              go_wp2_with (first | (go_at_call 61; go_must ((with_reducible refine HN'.out.mono ?_); rintro e w2 ⟨rfl, ⟨nd, rfl⟩⟩)) | (go_at_call 57; go_must ((with_reducible refine (HLV.out _).mono ?_); rintro e w2 ⟨rfl, hL2, hT2⟩; have HL2 := Aside0.mk hL2; have HB2 := Aside0.mk (Turn.below (pw_below_drewN HB.out _) HB.out.size hT2); have HP2 := Aside0.mk (hT2.bytes (Kd.R_drewN HP.out _)); obtain ⟨v3, w3, z0, z1, z2, z3, _⟩ := append_one (Kd.int .u8) (P := Try.prog) (w0 := w) (W := w2) w.heap.size 74 74 5 (.int .u8 0) 1 Try.underlying74 info5 rfl (by decide) (by omega) (v := u6) (xs := plan') 111 [.int .u8 111] (ok := fun _ => True) (fun _ => False) rfl (fun _ h => h.elim) (fun k hk => trivial) HP2.out HB2.out HB2.out.size HPB.out; have Z0 := Aside0.mk z0; have Z1 := Aside0.mk z1; have Z2 := Aside0.mk z2; have Z3 := Aside0.mk (HL2.out.grown5 HP2.out z3); clear hL2 hT2 z0 z1 z2 z3)) | (at_builtin; go_must (refine wpList_appendRun _ rfl _ _ _ rfl Z0.out rfl rfl rfl ?_)))
              go_roundg (t.length)
              case measure => have := HK.out; simp at this; omega
              case rel => exact ⟨t, lft' ++ [a], plan' ++ [111], ⟨rfl⟩, HY2, HG3, Z3, Z1, Z2⟩
            · have c4b : decide (a = (lft'.length : Int) + 1) = false := decide_eq_false c4
              have HG3 := Aside0.mk (show stackGo rest (a :: t, lft', plan') = Rs by
                have := HG2.out
                unfold drainS at this
                rw [if_neg c4] at this
                exact this)
              have HN' := Aside0.mk (show Calls Try.prog 61 #[.pointer (some ⟨w1.heap.size, 0, none⟩)] wr fun e w' => e = .returned (.bool false) ∧ Drawn0 wr w' by have := HN.out; simpa only [nextIs, c4b] using this)
              clear HG2 HN y0 y1 c4 c4b
              go_wp2_with (go_at_call 61; go_must ((with_reducible refine HN'.out.mono ?_); rintro e w2 ⟨rfl, ⟨nd, rfl⟩⟩))
              go_roundw
              case rel => exact CT.out _ _ HG3.out ⟨HL.out.drewN _⟩ ⟨Kd.R_drewN HP.out _⟩ ⟨pw_below_drewN HB.out _⟩
              case measure => have := of_eq_true q1; simp [intOf]; omega
      · have c2b0 : decide (x < (l0.length : Int)) = false := decide_eq_false c2
        have hst : Rs = (s, lft, plan) := by
          rw [← HG.out, List.drop_eq_nil_of_le (by omega)]
          rfl
        subst hst
        obtain ⟨A, c, hlc⟩ := HL.out.len
        by_cases c3 : lft.length < l0.length
        · have hh := H.out
          rw [if_pos c3] at hh
          replace hh := Option.bind_eq_some_iff.mp hh
          obtain ⟨b, hb1, hh⟩ := hh
          injection hh with hh
          injection hh with e1 hh
          injection hh with e2 e3
          subst e1; subst e2; subst e3
          have HBL := Aside0.mk (shunt_block.calls k A0 c0 l0 b wr (Kd.C_below HR0.out HB.out) HC0.out hb1)
          have c3b : decide (lft.length < l0.length) = true := decide_eq_true c3
          clear H hb1 c3 c2 HG p2 p3
          go_wp2_with (go_at_call 53; go_must ((with_reducible refine HBL.out.mono ?_); rintro e w2 ⟨vb, rfl, hR2, hB2⟩; have HR2 := Aside0.mk hR2; have HB2 := Aside0.mk hB2; clear hR2 hB2))
          go_ret3
          exact ⟨_, rfl, Kd.R_lower HR2.out HB.out.size, below_step HB.out HB2.out⟩
        · have hh := H.out
          rw [if_neg c3] at hh
          injection hh with hh
          injection hh with e1 hh
          injection hh with e2 e3
          subst e1; subst e2; subst e3
          have c3b : decide (lft.length < l0.length) = false := decide_eq_false c3
          have hcv := own_string (P := Try.prog) (src := 74) (dst := 9) (e := 5) Try.underlying74 Try.underlying5 Try.underlying9 (show wr.ownsRow w.heap.size 5 1 u6 plan.length (nums .u8 plan) from Kd.own_of_R HP.out)
          clear H c3 c2 HG p2 p3
          go_wp2
          go_ret3
          exact ⟨_, rfl, Kd.R_nil _ _ _ _ _, HB.out⟩


end Go.Proofs.Ytjbjongahnocdaa.S

/- A map's entry, and the store into it: 'm[k], x = v, y'. -/
namespace Go.Proofs.Ytjbjongahnocdaa.Lib
open Go.Maps (Keyed IsMap Tidy)
open Go.WideElems Go.ChangeShapes Go.WideShapes Go.MapKept Go.ChangeMaps
set_option linter.unusedVariables false

section
variable {w : World} {P : Program} {t k e : TypeId} {b m : Nat} {f : Value → Option Value}

/-- A new entry: what comes up is the zero; the entry holds the zero till the store. -/
theorem MapAt.entryNew (h : MapAt w P k b m f) (K : Keyed P k) (ht : P.underlying t = some (.map k e)) {z : Value} (hz : ∀ u : World, (zeroValue e).run P u = .ok z u) (hm : m < maxLen) {key : Value} {kl : Lit} (hkey : keyOf P k key = some kl) (hf : f key = none)
    (val : Value) {f1 f' : Value → Option Value} (e1 : f' key = some val) (e2 : ∀ v, v ≠ key → f' v = f v) (g1 : f1 key = some z) (g2 : ∀ v, v ≠ key → f1 v = f v) :
    ∃ (st : Int) (W1 W2 : World), (Instr.mapEntry t (.map (some b)) key).run P w = .ok (.tuple #[z, .int .i64 st]) W1 ∧ (Instr.entryStore t (.map (some b)) (.int .i64 st) val).run P W1 = .ok () W2 ∧
      MapAt W1 P k b (m + 1) f1 ∧ w.grownBy W1 (some b) ∧ MapAt W2 P k b (m + 1) f' ∧ w.grownBy W2 (some b) := by
  obtain ⟨w1, r1, h1, h2⟩ := h.store K ht hm (val := z) hkey g1 g2
  obtain ⟨w2, r2, h3, h4⟩ := h.store K ht hm (val := val) hkey e1 e2
  rw [hf] at h1 h3
  obtain ⟨D, ⟨es, clock, hb, F, hs, hD⟩, hsz, hat⟩ := h
  obtain ⟨s1, s2, _⟩ := F.stamped
  rcases K.find w hkey es.toList F.keys with ⟨q1, q2⟩ | ⟨j, e0, q1, q2, q3⟩
  · have hidx : (es.push ⟨key, z, clock⟩).findIdx? (fun e => ((e.born : Nat) : Int) == ((clock : Nat) : Int)) = some es.size := by
      rw [findIdx_arr]
      have := findIdx_born (l := (es.push ⟨key, z, clock⟩).toList) (j := es.size) (e0 := ⟨key, z, clock⟩) (by
        simp only [Array.toList_push, List.map_append, List.map_cons, List.map_nil]
        refine List.nodup_append.2 ⟨s2, by simp, fun a ha c hc e1 => ?_⟩
        simp only [List.mem_singleton] at hc
        obtain ⟨x, hx, rfl⟩ := List.mem_map.1 ha
        have := s1 x hx
        omega) (by simp)
      exact this
    have hmod : (es.push ⟨key, z, clock⟩).modify es.size (fun e => { e with val := val }) = es.push ⟨key, val, clock⟩ := by
      apply Array.ext'
      rw [Array.toList_modify, Array.toList_push, Array.toList_push, ← Array.length_toList, modify_last]
    have u1 : (Instr.mapUpdate t (.map (some b)) key z).run P w = .ok () (setBlock w b (.map (es.push ⟨key, z, clock⟩) (clock + 1))) := by
      simp [Instr.mapUpdate, run_underlying ht, MapKept.run_getObj_map hb, K.check w false hkey, q1, MapKept.run_setObj_map _ hb, Result.andThen, setBlock]
    have u2 : (Instr.mapUpdate t (.map (some b)) key val).run P w = .ok () (setBlock w b (.map (es.push ⟨key, val, clock⟩) (clock + 1))) := by
      simp [Instr.mapUpdate, run_underlying ht, MapKept.run_getObj_map hb, K.check w false hkey, q1, MapKept.run_setObj_map _ hb, Result.andThen, setBlock]
    rw [u1] at r1
    rw [u2] at r2
    injection r1 with _ r1
    injection r2 with _ r2
    have hb1 : w1.heap[b]? = some (.map (es.push ⟨key, z, clock⟩) (clock + 1)) := by
      rw [← r1]
      have hlt : b < w.heap.size := by
        apply Nat.lt_of_not_le
        intro hn
        simp [hn] at hb
      simp [setBlock, hlt]
    have hset : setBlock w1 b (.map (es.push ⟨key, val, clock⟩) (clock + 1)) = w2 := by
      rw [← r1, ← r2]
      simp [setBlock]
    refine ⟨clock, w1, w2, ?_, ?_, h1, h2, h3, h4⟩
    · rw [← r1]
      simp [Instr.mapEntry, run_underlying ht, MapKept.run_getObj_map hb, K.check w false hkey, q1, hz, MapKept.run_setObj_map _ hb, Result.andThen, setBlock, goInt]
    · have : (Instr.entryStore t (.map (some b)) (.int .i64 (clock : Int)) val).run P w1 = .ok () (setBlock w1 b (.map (es.push ⟨key, val, clock⟩) (clock + 1))) := by
        simp [Instr.entryStore, MapKept.run_getObj_map hb1, asInt, asIntOf, hidx, hmod, MapKept.run_setObj_map _ hb1, Result.andThen, setBlock]
      rw [this, hset]
  · exfalso
    have hl := (hat key kl hkey).1
    rw [hf] at hl
    obtain ⟨v, ps, hrun, hv⟩ := (show w.ownsMap P k Rv b m D from ⟨es, clock, hb, F, hs, hD⟩).look_ok K ht (hz w) (R := Rv) rfl hkey
    rw [hl] at hrun
    simp [Instr.lookup, run_underlying ht, MapKept.run_getObj_map hb, K.check w _ hkey, q1, Result.andThen] at hrun
end
end Go.Proofs.Ytjbjongahnocdaa.Lib

/- Two colours for conflicts: what visit, close and Stacks compute, in plain Lean. -/
namespace Go.Proofs.Ytjbjongahnocdaa.Defs
open Go.RowKit Go.Proofs.YtjbjongahnocdaaW.PrintWords

/-! ### two colours: sides, from where, the queue -/
def near_ (near : List (List Int)) (a : Int) : List Int := near.getD a.toNat []
abbrev Col := (Int → Option Int) × (Int → Option Int) × List Int
def put_ (f : Int → Option Int) (b v : Int) : Int → Option Int := fun y => if y = b then some v else f y
def colIn (a : Int) : List Int → Col → Option (Col × Option Int)
  | [], st => some (st, none)
  | b :: bs, st =>
    if 0 ≤ b ∧ b ≤ 1000 ∧ st.2.2.length ≤ 1000 then
      match st.1 b with
      | none => if st.2.1 b = none ∧ a ≠ b then colIn a bs (put_ st.1 b (wrap64 (1 - (st.1 a).getD 0)), put_ st.2.1 b a, st.2.2 ++ [b]) else none
      | some s => if s = (st.1 a).getD 0 then some (st, some b) else colIn a bs st
    else none
def colOut (near : List (List Int)) : Nat → Int → Col → Option (Col × Option (Int × Int))
  | 0, _, _ => none
  | f + 1, i, st =>
    if i < st.2.2.length then
      (if 0 ≤ rd st.2.2 i ∧ rd st.2.2 i < near.length ∧ rd st.2.2 i ≤ 1000 then
        (colIn (rd st.2.2 i) (near_ near (rd st.2.2 i)) st).bind fun p =>
          match p.2 with
          | some b => some (p.1, some (rd st.2.2 i, b))
          | none => colOut near f (i + 1) p.1
      else none)
    else some (st, none)
def wayF (fr : Int → Option Int) : Nat → Int → Option (List Int)
  | 0, _ => none
  | f + 1, x => if 0 ≤ x then (if x ≤ 1000 then (wayF fr f ((fr x).getD 0)).map (x :: ·) else none) else some []
def trimR : List Int → List Int → List Int × List Int
  | x :: y :: s, x' :: y' :: t => if y = y' then trimR (y :: s) (y' :: t) else (x :: y :: s, x' :: y' :: t)
  | p, q => (p, q)
def closeF (rv : List Int → Option (List Int)) (fr : Int → Option Int) (a b : Int) : Option (List Int) :=
  (wayF fr 100 a).bind fun p => (wayF fr 100 b).bind fun q =>
    (rv (trimR p.reverse q.reverse).2.reverse).bind fun q' => if q'.length = 0 then none else some ((trimR p.reverse q.reverse).1.reverse ++ q'.drop 1)
def visitF (near : List (List Int)) (sd fr : Int → Option Int) (s : Int) : Option (Col × Option (Int × Int)) :=
  if 0 ≤ s ∧ s ≤ 1000 ∧ sd s = none ∧ fr s = none then colOut near 100 0 (put_ sd s 0, put_ fr s (-1), [s]) else none
def stacksGo (rv : List Int → Option (List Int)) (near : List (List Int)) : Nat → Int → (Int → Option Int) → (Int → Option Int) → List Int → Option (List Int × List Int)
  | 0, _, _, _, acc => some (acc, [])
  | m + 1, i, sd, fr, acc =>
    match sd i with
    | some s => stacksGo rv near m (i + 1) sd fr (acc ++ [s])
    | none => (visitF near sd fr i).bind fun p =>
      match p.2 with
      | some (a, b) => (closeF rv p.1.2.1 a b).bind fun c => some ([], c)
      | none => stacksGo rv near m (i + 1) p.1.1 p.1.2.1 (acc ++ [(p.1.1 i).getD 0])


end Go.Proofs.Ytjbjongahnocdaa.Defs

namespace Go.Proofs.Ytjbjongahnocdaa.S
open Go.Proofs.Ytjbjongahnocdaa.Lib
open Go.Proofs.Ytjbjongahnocdaa.Defs
open Go.Maps (Keyed)
open Go.RowKit Go.Proofs.YtjbjongahnocdaaW.PrintWords Go.Proofs.YtjbjongahnocdaaW.PrintLast Go.Proofs.YtjbjongahnocdaaW.PrintMore
attribute [local go_sem] max2_int min2_int max_two min_two max_three min_three max_four min_four   -- for this text's walks alone
set_option linter.unusedVariables false
set_option linter.unusedSimpArgs false

/-! ### slices_Reverse_int_int: function 68 -/
def slices_Reverse_int_int.l0 : Nat → List Int → Int → Int → Option (List Int)
  | 0, _, _, _ => none
  | k + 1, x0, x2, x3 => if x2 < x3 then (if 0 ≤ x3 then (if x3 < (x0.length : Int) then (if 0 ≤ x2 then (if x2 < (x0.length : Int) then (slices_Reverse_int_int.l0 k ((x0.set (x2 : Int).toNat (rd x0 x3)).set (x3 : Int).toNat (rd x0 x2)) (wrap64 (x2 + 1)) (wrap64 (x3 - 1))) else (none)) else (none)) else (none)) else (none)) else (some x0)
def slices_Reverse_int_int.f (k : Nat) (l0 : List Int) : Option (List Int) := slices_Reverse_int_int.l0 k l0 0 (wrap64 ((l0.length : Int) - 1))
theorem slices_Reverse_int_int.mono_l : ∀ k, (∀ y0 y1 y2, LeO (slices_Reverse_int_int.l0 k y0 y1 y2) (slices_Reverse_int_int.l0 (k + 1) y0 y1 y2))
  | 0 => fun _ _ _ r h => by simp [slices_Reverse_int_int.l0] at h
  | k + 1 => by
    have ih0 := slices_Reverse_int_int.mono_l k
    · intro y0 y1 y2
      unfold slices_Reverse_int_int.l0
      repeat' first
      | (with_reducible exact ih0 _ _ _)
      | (with_reducible exact LeO.refl _)
      | (with_reducible exact LeO.none _)
      | (with_reducible refine LeO.ite ?_ ?_)
      | (with_reducible refine LeO.bind ?_ (fun _ => ?_))
      | exact ih0 _ _ _
      | exact LeO.none _
      | refine LeO.ite ?_ ?_
      | refine LeO.bind ?_ (fun _ => ?_)
theorem slices_Reverse_int_int.mono : ∀ a0 k, LeO (slices_Reverse_int_int.f k a0) (slices_Reverse_int_int.f (k + 1) a0) := by
  intro a0 k
  have ih0 := slices_Reverse_int_int.mono_l k
  unfold slices_Reverse_int_int.f
  repeat' first
      | (with_reducible exact ih0 _ _ _)
      | (with_reducible exact LeO.refl _)
      | (with_reducible exact LeO.none _)
      | (with_reducible refine LeO.ite ?_ ?_)
      | (with_reducible refine LeO.bind ?_ (fun _ => ?_))
      | exact ih0 _ _ _
      | exact LeO.none _
      | refine LeO.ite ?_ ?_
      | refine LeO.bind ?_ (fun _ => ?_)
def slices_Reverse_int_int.T3 : Bool × List (List Nat × List Nat) := (true, [([], []), ([], []), ([], []), ([], []), ([], []), ([], []), ([4, 5], [4, 5]), ([6], [6]), ([], []), ([], []), ([8, 9], [8, 9]), ([10], [10]), ([0, 1, 0, 1, 4, 5, 6, 7, 11], [0, 1]), ([12, 7, 0, 1, 4, 5, 6, 7, 11], [7, 12]), ([2, 3, 0, 1, 2, 3, 4, 5, 6, 7, 8, 9, 10, 11, 12, 13], [2, 3]), ([14, 11, 13, 0, 1, 2, 3, 4, 5, 6, 7, 8, 9, 10, 11, 12, 13], [11, 14])])
def slices_Reverse_int_int.B3 : List Nat := [0, 0, 0, 0, 0, 0, 48, 112, 0, 0, 768, 1792, 4083, 8179, 16383, 32767]
theorem slices_Reverse_int_int.tab3 : rtab .any (opsOf Try.f68 3) = slices_Reverse_int_int.T3 := by kernel_rfl
theorem slices_Reverse_int_int.bits3 : waitsOk slices_Reverse_int_int.T3.2 slices_Reverse_int_int.B3 = true := by kernel_rfl
set_option maxHeartbeats 8000000 in
set_option maxRecDepth 100000 in
theorem slices_Reverse_int_int.calls (k : Nat) (P0_ : Nat → Prop) (u9000_ : Value) (l0 : List Int) (r : List Int) (w0 w : World) (hB : Below w0.heap.size w0 w) (ho0 : Kd.R (Kd.int .i64) 3 w w0.heap.size P0_ u9000_ l0) (h : slices_Reverse_int_int.f k l0 = some r) :
    Calls Try.prog 68 #[u9000_] w fun e w' => e = .returned (.tuple #[]) ∧ Kd.R (Kd.int .i64) 3 w' w0.heap.size (fun k_ => (P0_ k_ ∨ w.heap.size ≤ k_)) u9000_ r ∧ Below w0.heap.size w0 w' ∧ Kept w w' (fun k_ => P0_ k_) := by
  have HO0 := Aside0.mk (show Kd.R (Kd.int .i64) 3 w w0.heap.size (fun k_ => (P0_ k_ ∨ w.heap.size ≤ k_)) u9000_ l0 from Kd.R_mono ho0 (fun k_ hk => (.inl hk)))
  have HK := Aside0.mk (Kept.refl w (fun k_ => P0_ k_))
  have HW0 := Aside0.mk hB.size
  have HB := Aside0.mk hB
  clear hB
  have H : (slices_Reverse_int_int.l0 k l0 0 (wrap64 ((l0.length : Int) - 1))) = some r := h
  clear h
  have H' := Aside0.mk H
  clear H
  obtain ⟨Ao2, co2, eo2⟩ := Kd.R_slice HO0.out
  subst eo2
  go_enter Try.func68, Try.ntmps68
  go_wp2
  go_loopg [2, 3] k (fun kq v2 v3 w' => ∃ (x0_1 : List Int) (x2_1 : Int) (x3_1 : Int), v2 = .int .i64 x2_1 ∧ v3 = .int .i64 x3_1 ∧ Aside0 (slices_Reverse_int_int.l0 kq x0_1 x2_1 x3_1 = some r) ∧ Aside0 (kq ≤ k) ∧ Aside0 (Kd.R (Kd.int .i64) 3 w' w0.heap.size (fun k_ => (P0_ k_ ∨ w.heap.size ≤ k_)) (.slice Ao2 l0.length co2) x0_1) ∧ Aside0 (Kept w w' (fun k_ => P0_ k_)) ∧ Aside0 (Below w0.heap.size w0 w'))
  case atStart => exact ⟨(l0), (0), (wrap64 ((l0.length : Int) - 1)), (by first | rfl | (simp; done) | (simp [*]; done)), (by first | rfl | (simp; done) | (simp [*]; done)), H', ⟨Nat.le_refl _⟩, ⟨by (with_reducible repeat (first | apply Kd.R_alloc | apply Kd.R_drewN | apply Kd.R_drew)); exact HO0.out⟩, ⟨by repeat (first | (with_reducible first | exact HK.out | apply Kept.alloc | apply Kept.drewN | apply Kept.drew) | exact HK.out)⟩, ⟨by repeat (first | (with_reducible first | exact HB.out | apply below_alloc | apply pw_below_drewN | apply below_drew1) | exact HB.out)⟩⟩
  case round =>
    clear H'
    try clear p2
    obtain ⟨x0_1, x2_1, x3_1, rfl, rfl, HA, HK1, HO_0, HK, HB⟩ := hrel
    have hl0_1 := (Kd.R_reads' HO_0.out).1
    rw [hl0_1] at HO_0
    (try simp only [hl0_1])
    cases gk with
    | zero => exact absurd HA.out (by simp [slices_Reverse_int_int.l0])
    | succ k1 =>
      have H := HA.out
      clear HA
      simp only [slices_Reverse_int_int.l0] at H
      by_cases c3 : x2_1 < x3_1
      · rw [if_pos c3] at H
        have c3b0 : decide (x2_1 < x3_1) = true := decide_eq_true c3
        clear c3
        by_cases c4 : 0 ≤ x3_1
        · rw [if_pos c4] at H
          have c4b0 : decide (0 ≤ x3_1) = true := decide_eq_true c4
          clear c4
          by_cases c5 : x3_1 < (x0_1.length : Int)
          · rw [if_pos c5] at H
            have c5b0 : decide (x3_1 < (x0_1.length : Int)) = true := decide_eq_true c5
            clear c5
            by_cases c6 : 0 ≤ x2_1
            · rw [if_pos c6] at H
              have c6b0 : decide (0 ≤ x2_1) = true := decide_eq_true c6
              clear c6
              by_cases c7 : x2_1 < (x0_1.length : Int)
              · rw [if_pos c7] at H
                have c7b0 : decide (x2_1 < (x0_1.length : Int)) = true := decide_eq_true c7
                clear c7
                obtain ⟨y470, hy470⟩ : ∃ y_ : List Int, y_ = (x0_1.set (x2_1 : Int).toNat (rd x0_1 x3_1)) := ⟨_, rfl⟩
                replace H : (slices_Reverse_int_int.l0 k1 (y470.set (x3_1 : Int).toNat (rd x0_1 x2_1)) (wrap64 (x2_1 + 1)) (wrap64 (x3_1 - 1))) = some r := by first | (rw [hy470]; with_reducible exact H) | (have H2_ := (Option.bind_some _ _).symm.trans H; rw [hy470]; with_reducible exact H2_) | (have H2_ := (Option.bind_some _ _).symm.trans H; with_reducible exact H2_) | with_reducible exact H | (rw [hy470]; exact H) | exact H
                have Ny470 := Aside0.mk hy470
                clear hy470
                obtain ⟨y471, hy471⟩ : ∃ y_ : List Int, y_ = (y470.set (x3_1 : Int).toNat (rd x0_1 x2_1)) := ⟨_, rfl⟩
                replace H : (slices_Reverse_int_int.l0 k1 y471 (wrap64 (x2_1 + 1)) (wrap64 (x3_1 - 1))) = some r := by first | (rw [hy471]; with_reducible exact H) | (have H2_ := (Option.bind_some _ _).symm.trans H; rw [hy471]; with_reducible exact H2_) | (have H2_ := (Option.bind_some _ _).symm.trans H; with_reducible exact H2_) | with_reducible exact H | (rw [hy471]; exact H) | exact H
                have Ny471 := Aside0.mk hy471
                clear hy471
                have H' := Aside0.mk H
                clear H
                try go_wp2
                have n0_ := Aside0.mk (Kd.R_drew HO_0.out)
                have n1_ := Aside0.mk (Kept.drew HK.out)
                have n2_ := Aside0.mk (below_drew1 HB.out)
                clear HO_0
                clear HK
                clear HB
                have HO_0 := n0_
                have HK := n1_
                have HB := n2_
                clear n0_ n1_ n2_
                have p468 : 0 ≤ (x3_1 : Int) := of_decide_eq_true (by first | (with_reducible assumption) | assumption)
                have q468 : x3_1 < (x0_1.length : Int) := of_decide_eq_true (by first | (with_reducible assumption) | assumption)
                obtain ⟨ad468, e468, hx468_0⟩ := Kd.at_int (Kd.R_reads' HO_0.out).2.2 x3_1 p468 q468
                cases e468
                replace p468 := eq_true p468
                replace q468 := eq_true q468
                have p469 : 0 ≤ (x2_1 : Int) := of_decide_eq_true (by first | (with_reducible assumption) | assumption)
                have q469 : x2_1 < (x0_1.length : Int) := of_decide_eq_true (by first | (with_reducible assumption) | assumption)
                obtain ⟨ad469, e469, hx469_0⟩ := Kd.at_int (Kd.R_reads' HO_0.out).2.2 x2_1 p469 q469
                obtain rfl : ad468 = ad469 := (by injection e469)
                replace p469 := eq_true p469
                replace q469 := eq_true q469
                have p8 : 0 ≤ (x2_1 : Int) := of_decide_eq_true (by first | (with_reducible assumption) | assumption)
                have q8 : (x2_1 : Int) < ((x0_1.length : Int) : Int) := of_decide_eq_true (by first | (with_reducible assumption) | assumption)
                obtain ⟨go8, co8, eo8, gb8, gl8, cl8, HG8⟩ := Kd.R_form HO_0.out (by omega)
                (first | cases eo8 | (injection eo8 with ea_ en_ ec_; (first | subst ea_ | (injection ea_ with ea_; subst ea_)); subst ec_; clear en_))
                have GB8 := Aside0.mk gb8
                have GG8 := Aside0.mk HG8
                clear gb8 gl8 HG8
                have HMgo8 := Aside0.mk (show (P0_ go8 ∨ w.heap.size ≤ go8) from (HO_0.out.1 _ rfl))
                (first | simp only [add_plain] at hx468_0 | skip)
                (first | simp only [add_plain] at hx469_0 | skip)
                obtain ⟨hx8_0, hf8_0⟩ := Kd.R_celln 0 HO_0.out (x2_1 : Int) p8 q8
                replace p8 := eq_true p8
                replace q8 := eq_true q8
                have HP11 := Kd.R_putn HO_0.out (x2_1 : Int) (rd x0_1 x3_1)
                rw [← Ny470.out] at HP11
                have HQ11 := Aside0.mk HP11
                clear HP11
                have p9 : 0 ≤ (x3_1 : Int) := of_decide_eq_true (by first | (with_reducible assumption) | assumption)
                have q9 : (x3_1 : Int) < ((x0_1.length : Int) : Int) := of_decide_eq_true (by first | (with_reducible assumption) | assumption)
                obtain ⟨hx9_0, hf9_0⟩ := Kd.R_celln 0 HQ11.out (x3_1 : Int) p9 q9
                replace p9 := eq_true p9
                replace q9 := eq_true q9
                have HP12 := Kd.R_putn HQ11.out (x3_1 : Int) (rd x0_1 x2_1)
                rw [← Ny471.out] at HP12
                have HQ12 := Aside0.mk HP12
                clear HP12
                refine start_ (n := 16) (S := fun w' => w'.cell? ⟨go8, (x3_1).toNat, none⟩ = some (.int .i64 (rd x0_1 x3_1)) ∧ w'.cell? ⟨go8, (x2_1).toNat, none⟩ = some (.int .i64 (rd x0_1 x2_1))) (ds := [13, 15]) #[false, false, false, false, false, false, false, false, false, false, false, false, false, false, false, false] (by kernel_rfl) rfl rfl ⟨hx468_0, hx469_0⟩ (fun hHeld => ?_); refine with_tabW slices_Reverse_int_int.tab3 slices_Reverse_int_int.bits3 (fun HT_ HW_ => ?_)
                generalize wr.drew = w10 at HO_0 HK HB GG8 HQ11 HQ12 hf8_0 hf9_0 hx468_0 hx469_0 hx8_0 hx9_0 hHeld ⊢
                refine pure_ (i := 0) (N := some 14) (v := ?_) (a' := ?_) #[true, false, false, false, false, false, false, false, false, false, false, false, false, false, false, false] rfl rfl (any_of HT_.out (by kernel_rfl)) (fun _ _ _ h => h) (Or.inl ⟨by rfl, ?_⟩) ?_ ?_
                rotate_left
                · intro w'
                  go_simp
                  with_reducible rfl
                rotate_left
                · simp only [Act.put, List.setIfInBounds_toArray, List.set_cons_zero, List.set_cons_succ, i64_w, i32_w]
                  rfl
                refine pure_ (i := 1) (N := some 15) (v := ?_) (a' := ?_) #[true, true, false, false, false, false, false, false, false, false, false, false, false, false, false, false] rfl rfl (any_of HT_.out (by kernel_rfl)) (fun _ _ _ h => h) (Or.inl ⟨by rfl, ?_⟩) ?_ ?_
                rotate_left
                · intro w'
                  go_simp
                  with_reducible rfl
                rotate_left
                · simp only [Act.put, List.setIfInBounds_toArray, List.set_cons_zero, List.set_cons_succ, i64_w, i32_w]
                  rfl
                refine pure_ (i := 2) (N := some 16) (v := ?_) (a' := ?_) #[true, true, true, false, false, false, false, false, false, false, false, false, false, false, false, false] rfl rfl (any_of HT_.out (by kernel_rfl)) (fun _ _ _ h => h) (Or.inl ⟨by rfl, ?_⟩) ?_ ?_
                rotate_left
                · intro w'
                  go_simp
                  with_reducible rfl
                rotate_left
                · simp only [Act.put, List.setIfInBounds_toArray, List.set_cons_zero, List.set_cons_succ, i64_w, i32_w]
                  rfl
                refine pure_ (i := 3) (N := some 17) (v := ?_) (a' := ?_) #[true, true, true, true, false, false, false, false, false, false, false, false, false, false, false, false] rfl rfl (any_of HT_.out (by kernel_rfl)) (fun _ _ _ h => h) (Or.inl ⟨by rfl, ?_⟩) ?_ ?_
                rotate_left
                · intro w'
                  go_simp
                  with_reducible rfl
                rotate_left
                · simp only [Act.put, List.setIfInBounds_toArray, List.set_cons_zero, List.set_cons_succ, i64_w, i32_w]
                  rfl
                refine pure_ (i := 4) (N := some 18) (v := ?_) (a' := ?_) #[true, true, true, true, true, false, false, false, false, false, false, false, false, false, false, false] rfl rfl (any_of HT_.out (by kernel_rfl)) (fun _ _ _ h => h) (Or.inl ⟨by rfl, ?_⟩) ?_ ?_
                rotate_left
                · intro w'
                  go_simp
                  with_reducible rfl
                rotate_left
                · simp only [Act.put, List.setIfInBounds_toArray, List.set_cons_zero, List.set_cons_succ, i64_w, i32_w]
                  rfl
                refine pure_ (i := 5) (N := some 19) (v := ?_) (a' := ?_) #[true, true, true, true, true, true, false, false, false, false, false, false, false, false, false, false] rfl rfl (any_of HT_.out (by kernel_rfl)) (fun _ _ _ h => h) (Or.inl ⟨by rfl, ?_⟩) ?_ ?_
                rotate_left
                · intro w'
                  go_simp
                  with_reducible rfl
                rotate_left
                · simp only [Act.put, List.setIfInBounds_toArray, List.set_cons_zero, List.set_cons_succ, i64_w, i32_w]
                  rfl
                refine pure_ (i := 6) (N := some 20) (v := ?_) (a' := ?_) #[true, true, true, true, true, true, true, false, false, false, false, false, false, false, false, false] rfl rfl (any_of HT_.out (by kernel_rfl)) (fun _ _ _ h => h) (Or.inl ⟨by rfl, ?_⟩) ?_ ?_
                rotate_left
                · intro w'
                  go_simp
                  with_reducible rfl
                rotate_left
                · simp only [Act.put, List.setIfInBounds_toArray, List.set_cons_zero, List.set_cons_succ, i64_w, i32_w]
                  rfl
                refine pure_ (i := 8) (N := some 22) (v := ?_) (a' := ?_) #[true, true, true, true, true, true, true, false, true, false, false, false, false, false, false, false] rfl rfl (any_of HT_.out (by kernel_rfl)) (fun _ _ _ h => h) (Or.inl ⟨by rfl, ?_⟩) ?_ ?_
                rotate_left
                · intro w'
                  go_simp
                  with_reducible rfl
                rotate_left
                · simp only [Act.put, List.setIfInBounds_toArray, List.set_cons_zero, List.set_cons_succ, i64_w, i32_w]
                  rfl
                refine pure_ (i := 9) (N := some 23) (v := ?_) (a' := ?_) #[true, true, true, true, true, true, true, false, true, true, false, false, false, false, false, false] rfl rfl (any_of HT_.out (by kernel_rfl)) (fun _ _ _ h => h) (Or.inl ⟨by rfl, ?_⟩) ?_ ?_
                rotate_left
                · intro w'
                  go_simp
                  with_reducible rfl
                rotate_left
                · simp only [Act.put, List.setIfInBounds_toArray, List.set_cons_zero, List.set_cons_succ, i64_w, i32_w]
                  rfl
                refine pure_ (i := 10) (N := some 24) (v := ?_) (a' := ?_) #[true, true, true, true, true, true, true, false, true, true, true, false, false, false, false, false] rfl rfl (any_of HT_.out (by kernel_rfl)) (fun _ _ _ h => h) (Or.inl ⟨by rfl, ?_⟩) ?_ ?_
                rotate_left
                · intro w'
                  go_simp
                  with_reducible rfl
                rotate_left
                · simp only [Act.put, List.setIfInBounds_toArray, List.set_cons_zero, List.set_cons_succ, i64_w, i32_w]
                  rfl
                refine take_ (i := 7) (N := some 21) (v := ?_) (a' := ?_) #[true, true, true, true, true, true, true, true, true, true, true, false, false, false, false, false] rfl rfl (take_ofW HT_.out HW_.out (by kernel_rfl)) (fun _ _ _ h => h) (Or.inl ⟨by rfl, ?_⟩) hHeld ?_ ?_
                rotate_left
                · rintro w' ⟨s0, s1⟩
                  go_simp
                  with_reducible rfl
                rotate_left
                · simp only [Act.put, List.setIfInBounds_toArray, List.set_cons_zero, List.set_cons_succ, i64_w, i32_w]
                  rfl
                refine take_ (i := 11) (N := some 25) (v := ?_) (a' := ?_) #[true, true, true, true, true, true, true, true, true, true, true, true, false, false, false, false] rfl rfl (take_ofW HT_.out HW_.out (by kernel_rfl)) (fun _ _ _ h => h) (Or.inl ⟨by rfl, ?_⟩) hHeld ?_ ?_
                rotate_left
                · rintro w' ⟨s0, s1⟩
                  go_simp
                  with_reducible rfl
                rotate_left
                · simp only [Act.put, List.setIfInBounds_toArray, List.set_cons_zero, List.set_cons_succ, i64_w, i32_w]
                  rfl
                refine pure_ (i := 12) (N := some 26) (v := ?_) (a' := ?_) #[true, true, true, true, true, true, true, true, true, true, true, true, true, false, false, false] rfl rfl (any_of HT_.out (by kernel_rfl)) (fun _ _ _ h => h) (Or.inl ⟨by rfl, ?_⟩) ?_ ?_
                rotate_left
                · intro w'
                  go_simp
                  with_reducible rfl
                rotate_left
                · simp only [Act.put, List.setIfInBounds_toArray, List.set_cons_zero, List.set_cons_succ, i64_w, i32_w]
                  rfl
                refine last_ (i := 13) (N := none) #[true, true, true, true, true, true, true, true, true, true, true, true, true, true, false, false] rfl rfl (one_of HT_.out (by kernel_rfl)) (by decide) (fun K hK => ?_)
                refine skip_ (w1 := ?_) (by rfl) rfl ?_ ?_
                rotate_left
                · go_simp
                  rfl
                refine hK.out _ _ ?_
                clear hK K
                refine pure_ (i := 14) (N := some 27) (v := ?_) (a' := ?_) #[true, true, true, true, true, true, true, true, true, true, true, true, true, true, true, false] rfl rfl (any_of HT_.out (by kernel_rfl)) (fun _ _ _ h => h) (Or.inl ⟨by rfl, ?_⟩) ?_ ?_
                rotate_left
                · intro w'
                  go_simp
                  with_reducible rfl
                rotate_left
                · simp only [Act.put, List.setIfInBounds_toArray, List.set_cons_zero, List.set_cons_succ, i64_w, i32_w]
                  rfl
                refine last_ (i := 15) (N := none) #[true, true, true, true, true, true, true, true, true, true, true, true, true, true, true, true] rfl rfl (one_of HT_.out (by kernel_rfl)) (by decide) (fun K hK => ?_)
                refine skip_ (w1 := ?_) (by rfl) rfl ?_ ?_
                rotate_left
                · go_simp
                  rfl
                refine hK.out _ _ ?_
                clear hK K
                refine done_ (done_of HT_.out (by kernel_rfl)) ?_
                try go_wp2
                (try simp only [← hl0_1])
                go_roundg k1
                case measure => have := HK1.out; omega
                case rel => exact ⟨(y471), (wrap64 (x2_1 + 1)), (wrap64 (x3_1 - 1)), (by first | rfl | (simp; done) | (simp [*]; done)), (by first | rfl | (simp; done) | (simp [*]; done)), H', ⟨by have := HK1.out; omega⟩, ⟨by (try simp only [hl0_1]); (with_reducible repeat (first | apply Kd.R_alloc | apply Kd.R_drewN | apply Kd.R_drew)); exact HQ12.out⟩, ⟨by repeat (first | (with_reducible first | exact HK.out | apply Kept.alloc | apply Kept.drewN | apply Kept.drew | refine Kept.setCell ?_ HMgo8.out _ | refine Kept.setCell ?_ HMgo8.out _) | exact HK.out)⟩, ⟨by repeat (first | (with_reducible first | exact HB.out | apply below_alloc | apply pw_below_drewN | apply below_drew1 | refine below_set ?_ GB8.out | refine below_set ?_ GB8.out) | exact HB.out)⟩⟩
              · rw [if_neg c7] at H
                exact absurd H (by simp)
            · rw [if_neg c6] at H
              exact absurd H (by simp)
          · rw [if_neg c5] at H
            exact absurd H (by simp)
        · rw [if_neg c4] at H
          exact absurd H (by simp)
      · rw [if_neg c3] at H
        have c3b0 : decide (x2_1 < x3_1) = false := decide_eq_false c3
        clear c3
        obtain rfl := Option.some.inj H
        go_wp2
        first | go_end0 | ((try simp only [Exit.inBlock, Exit.then]); refine bodyPost_ret (results_none rfl _ _ _) rfl ?_)
        exact ⟨by first | rfl | (simp [errW_none, errW_some] <;> rfl) | (simp [*, errW_none, errW_some] <;> rfl), (by first | exact (by (with_reducible repeat (first | apply Kd.R_alloc | apply Kd.R_drewN | apply Kd.R_drew)); exact HO_0.out) | (simp only [hl0_1]; exact (by (with_reducible repeat (first | apply Kd.R_alloc | apply Kd.R_drewN | apply Kd.R_drew)); exact HO_0.out))), by repeat (first | (with_reducible first | exact HB.out | apply below_alloc | apply pw_below_drewN | apply below_drew1) | exact HB.out), by repeat (first | (with_reducible first | exact HK.out | apply Kept.alloc | apply Kept.drewN | apply Kept.drew) | exact HK.out)⟩

end Go.Proofs.Ytjbjongahnocdaa.S

namespace Go.Proofs.Ytjbjongahnocdaa.S
open Go.Proofs.Ytjbjongahnocdaa.Lib
open Go.Proofs.Ytjbjongahnocdaa.Defs
open Go.Maps (Keyed)
open Go.RowKit Go.Proofs.YtjbjongahnocdaaW.PrintWords Go.Proofs.YtjbjongahnocdaaW.PrintLast Go.Proofs.YtjbjongahnocdaaW.PrintMore
attribute [local go_sem] max2_int min2_int max_two min_two max_three min_three max_four min_four   -- for this text's walks alone
set_option linter.unusedVariables false
set_option linter.unusedSimpArgs false

/-! ### shunt_conflicts: function 74 -/
mutual
def shunt_conflicts.l0 : Nat → List Int → List (List Int) → Int → Int → Option ((List (List Int)))
  | 0, _, _, _, _ => none
  | k + 1, x0, x3, x10, x11 => if x11 < x10 then (shunt_conflicts.l1 k x0 x3 x11 x10 x11 x11 0) else (some x3)
def shunt_conflicts.l1 : Nat → List Int → List (List Int) → Int → Int → Int → Int → Int → Option ((List (List Int)))
  | 0, _, _, _, _, _, _, _ => none
  | k + 1, x0, x3, x4, x10, x11, x14, x15 => if x15 < x14 then ((shunt_blocking.f k x0 x15 x4).bind fun t564 => (if t564 > 0 then (if 0 ≤ x15 then (if x15 < (x3.length : Int) then (if (rd_L1 x3 x15).length < 17592186044416 then ((some (x3.set (x15 : Int).toNat ((rd_L1 x3 x15) ++ [x4]) : List (List Int))).bind fun y569 => (if 0 ≤ x4 then (if x4 < (x3.length : Int) then (if (rd_L1 y569 x4).length < 17592186044416 then (shunt_conflicts.l1 k x0 (y569.set (x4 : Int).toNat ((rd_L1 y569 x4) ++ [x15])) x4 x10 x11 x14 (wrap64 (x15 + 1))) else (none)) else (none)) else (none))) else (none)) else (none)) else (none)) else (shunt_conflicts.l1 k x0 x3 x4 x10 x11 x14 (wrap64 (x15 + 1))))) else (shunt_conflicts.l0 k x0 x3 x10 (wrap64 (x11 + 1)))
end
def shunt_conflicts.f (k : Nat) (l0 : List Int) : Option ((List (List Int))) := if 0 ≤ (l0.length : Int) then (if ((l0.length : Int) : Int).toNat ≤ 11728124029610 then (shunt_conflicts.l0 k l0 (List.replicate ((l0.length : Int) : Int).toNat []) (l0.length : Int) 0) else (none)) else (none)
theorem shunt_conflicts.mono_l : ∀ k, (∀ y0 y1 y2 y3, LeO (shunt_conflicts.l0 k y0 y1 y2 y3) (shunt_conflicts.l0 (k + 1) y0 y1 y2 y3)) ∧ (∀ y0 y1 y2 y3 y4 y5 y6, LeO (shunt_conflicts.l1 k y0 y1 y2 y3 y4 y5 y6) (shunt_conflicts.l1 (k + 1) y0 y1 y2 y3 y4 y5 y6))
  | 0 => ⟨fun _ _ _ _ r h => by simp [shunt_conflicts.l0] at h, fun _ _ _ _ _ _ _ r h => by simp [shunt_conflicts.l1] at h⟩
  | k + 1 => by
    obtain ⟨ih0, ih1⟩ := shunt_conflicts.mono_l k
    refine ⟨?_, ?_⟩
    · intro y0 y1 y2 y3
      unfold shunt_conflicts.l0
      repeat' first
      | (with_reducible exact ih0 _ _ _ _)
      | (with_reducible exact ih1 _ _ _ _ _ _ _)
      | (with_reducible exact shunt_blocking.mono _ _ _ _)
      | (with_reducible exact LeO.refl _)
      | (with_reducible exact LeO.none _)
      | (with_reducible refine LeO.ite ?_ ?_)
      | (with_reducible refine LeO.bind ?_ (fun _ => ?_))
      | exact ih0 _ _ _ _
      | exact ih1 _ _ _ _ _ _ _
      | exact shunt_blocking.mono _ _ _ _
      | exact LeO.none _
      | refine LeO.ite ?_ ?_
      | refine LeO.bind ?_ (fun _ => ?_)
    · intro y0 y1 y2 y3 y4 y5 y6
      unfold shunt_conflicts.l1
      repeat' first
      | (with_reducible exact ih0 _ _ _ _)
      | (with_reducible exact ih1 _ _ _ _ _ _ _)
      | (with_reducible exact shunt_blocking.mono _ _ _ _)
      | (with_reducible exact LeO.refl _)
      | (with_reducible exact LeO.none _)
      | (with_reducible refine LeO.ite ?_ ?_)
      | (with_reducible refine LeO.bind ?_ (fun _ => ?_))
      | exact ih0 _ _ _ _
      | exact ih1 _ _ _ _ _ _ _
      | exact shunt_blocking.mono _ _ _ _
      | exact LeO.none _
      | refine LeO.ite ?_ ?_
      | refine LeO.bind ?_ (fun _ => ?_)
theorem shunt_conflicts.mono : ∀ a0 k, LeO (shunt_conflicts.f k a0) (shunt_conflicts.f (k + 1) a0) := by
  intro a0 k
  obtain ⟨ih0, ih1⟩ := shunt_conflicts.mono_l k
  unfold shunt_conflicts.f
  repeat' first
      | (with_reducible exact ih0 _ _ _ _)
      | (with_reducible exact ih1 _ _ _ _ _ _ _)
      | (with_reducible exact shunt_blocking.mono _ _ _ _)
      | (with_reducible exact LeO.refl _)
      | (with_reducible exact LeO.none _)
      | (with_reducible refine LeO.ite ?_ ?_)
      | (with_reducible refine LeO.bind ?_ (fun _ => ?_))
      | exact ih0 _ _ _ _
      | exact ih1 _ _ _ _ _ _ _
      | exact shunt_blocking.mono _ _ _ _
      | exact LeO.none _
      | refine LeO.ite ?_ ?_
      | refine LeO.bind ?_ (fun _ => ?_)
set_option maxHeartbeats 8000000 in
set_option maxRecDepth 100000 in
theorem shunt_conflicts.calls (k : Nat) (A0 : Option Addr) (c0 : Nat) (l0 : List Int) (r : List (List Int)) (w : World) (hr0 : Kd.C (Kd.int .i64) w A0 l0.length l0) (hc0 : l0.length ≤ c0) (h : shunt_conflicts.f k l0 = some r) :
    Calls Try.prog 74 #[.slice A0 l0.length c0] w fun e w' => ∃ v0_ : Value, e = .returned (v0_) ∧ Kd.S (Kd.slice 3 (Kd.int .i64)) 22 w' w.heap.size (fun _ => True) v0_ r ∧ Below w.heap.size w w' := by
  have HR0 := Aside0.mk hr0
  have HC0 := Aside0.mk hc0
  clear hr0 hc0
  have HB := Aside0.mk (Below.refl w.heap.size w)
  have H : (if 0 ≤ (l0.length : Int) then (if ((l0.length : Int) : Int).toNat ≤ 11728124029610 then (shunt_conflicts.l0 k l0 (List.replicate ((l0.length : Int) : Int).toNat []) (l0.length : Int) 0) else (none)) else (none)) = some r := h
  clear h
  by_cases c2 : 0 ≤ (l0.length : Int)
  · rw [if_pos c2] at H
    have c2b0 := eq_true c2
    have c2b1 : decide (0 ≤ (l0.length : Int)) = true := decide_eq_true c2
    clear c2
    by_cases c3 : ((l0.length : Int) : Int).toNat ≤ 11728124029610
    · rw [if_pos c3] at H
      have c3b0 := eq_true c3
      have c3b1 : decide (((l0.length : Int) : Int).toNat ≤ 11728124029610) = true := decide_eq_true c3
      clear c3
      obtain ⟨y561, hy561⟩ : ∃ y_ : List (List Int), y_ = (List.replicate ((l0.length : Int) : Int).toNat []) := ⟨_, rfl⟩
      replace H : (shunt_conflicts.l0 k l0 y561 (l0.length : Int) 0) = some r := by first | (rw [hy561]; with_reducible exact H) | (have H2_ := (Option.bind_some _ _).symm.trans H; rw [hy561]; with_reducible exact H2_) | (have H2_ := (Option.bind_some _ _).symm.trans H; with_reducible exact H2_) | with_reducible exact H | (rw [hy561]; exact H) | exact H
      have Ny561 := Aside0.mk hy561
      clear hy561
      have H' := Aside0.mk H
      clear H
      go_enter Try.func74, Try.ntmps74
      go_wp2_with (first | ((with_reducible refine gate_dst (N := 8) rfl ?_); refine Kd.S_make (Kd.slice 3 (Kd.int .i64)) _ 22 rfl (N := 8) rfl 60 _ _ rfl (l0.length : Int) rfl rfl Try.underlying60 (.slice none 0 0) 24 info22 rfl (by decide) (by omega) [] (ok := fun _ => True) (okp := fun _ => True) ⟨_, rfl, Kd.R_nil _ _ _ _ _⟩ (fun _ hk => hk) trivial (of_decide_eq_true (by first | (with_reducible assumption) | assumption)) (Nat.le_trans (Nat.mul_le_mul_right _ (of_decide_eq_true (by first | (with_reducible assumption) | assumption) : (l0.length : Int).toNat ≤ 11728124029610)) (by omega)) (Below.refl _ _) (Nat.le_refl _) ?_; intro v562 w4 ho5 hb hg_ hnew_; clear hg_ hnew_; (first | rw [← Ny561.out] at ho5 | (simp only [Int.reduceToNat] at ho5; rw [← Ny561.out] at ho5)); have n0_ := Aside0.mk (Kd.S_lower ho5 (below_size (by repeat (first | (with_reducible first | exact HB.out | apply below_alloc | apply pw_below_drewN | apply below_drew1) | exact HB.out)))); have n1_ := Aside0.mk (below_step (by repeat (first | (with_reducible first | exact HB.out | apply below_alloc | apply pw_below_drewN | apply below_drew1) | exact HB.out)) hb); clear HB; have HO563 := n0_; have HB := n1_; clear n0_ n1_; clear hb ho5))
      go_loopg [11] k (fun kq v11 w' => ∃ (x3_1 : List (List Int)) (x11_1 : Int), v11 = .int .i64 x11_1 ∧ Aside0 (shunt_conflicts.l0 kq l0 x3_1 (l0.length : Int) x11_1 = some r) ∧ Aside0 (kq ≤ k) ∧ Aside0 (Kd.S (Kd.slice 3 (Kd.int .i64)) 22 w' w.heap.size (fun _ => True) v562 x3_1) ∧ Aside0 (Below w.heap.size w w'))
      case atStart => exact ⟨(y561), (0), (by first | rfl | (simp; done) | (simp [*]; done)), H', ⟨Nat.le_refl _⟩, ⟨by (with_reducible repeat (first | apply Kd.S_alloc | apply Kd.S_drewN | apply Kd.S_drew)); exact HO563.out⟩, ⟨by repeat (first | (with_reducible first | exact HB.out | apply below_alloc | apply pw_below_drewN | apply below_drew1) | exact HB.out)⟩⟩
      case round =>
        clear H'
        try clear c2
        try clear c2b0
        try clear c2b1
        try clear p2
        try clear c3
        try clear c3b0
        try clear c3b1
        obtain ⟨x3_1, x11_1, rfl, HA, HK1, HO_3, HB⟩ := hrel
        cases gk with
        | zero => exact absurd HA.out (by simp [shunt_conflicts.l0])
        | succ k1 =>
          have H := HA.out
          clear HA
          simp only [shunt_conflicts.l0] at H
          by_cases c6 : x11_1 < (l0.length : Int)
          · rw [if_pos c6] at H
            have c6b0 : decide (x11_1 < (l0.length : Int)) = true := decide_eq_true c6
            clear c6
            have H' := Aside0.mk H
            clear H
            go_wp2
            go_loopg [15] k1 (fun kq v15 w' => ∃ (x3_2 : List (List Int)) (x15_2 : Int), v15 = .int .i64 x15_2 ∧ Aside0 (shunt_conflicts.l1 kq l0 x3_2 x11_1 (l0.length : Int) x11_1 x11_1 x15_2 = some r) ∧ Aside0 (kq ≤ k1) ∧ Aside0 (Kd.S (Kd.slice 3 (Kd.int .i64)) 22 w' w.heap.size (fun _ => True) v562 x3_2) ∧ Aside0 (Below w.heap.size w w'))
            case atStart => exact ⟨(x3_1), (0), (by first | rfl | (simp; done) | (simp [*]; done)), H', ⟨Nat.le_refl _⟩, ⟨by (with_reducible repeat (first | apply Kd.S_alloc | apply Kd.S_drewN | apply Kd.S_drew)); exact HO_3.out⟩, ⟨by repeat (first | (with_reducible first | exact HB.out | apply below_alloc | apply pw_below_drewN | apply below_drew1) | exact HB.out)⟩⟩
            case round =>
              clear H'
              try clear c2
              try clear c2b0
              try clear c2b1
              try clear p2
              try clear c3
              try clear c3b0
              try clear c3b1
              try clear c6
              try clear c6b0
              try clear p2
              obtain ⟨x3_2, x15_2, rfl, HA, HK2, HO_3, HB⟩ := hrel
              cases gk with
              | zero => exact absurd HA.out (by simp [shunt_conflicts.l1])
              | succ k2 =>
                have H := HA.out
                clear HA
                simp only [shunt_conflicts.l1] at H
                by_cases c7 : x15_2 < x11_1
                · rw [if_pos c7] at H
                  have c7b0 : decide (x15_2 < x11_1) = true := decide_eq_true c7
                  clear c7
                  replace H := Option.bind_eq_some_iff.mp H
                  obtain ⟨t564, A80, H⟩ := H
                  replace H : (if t564 > 0 then (if 0 ≤ x15_2 then (if x15_2 < (x3_2.length : Int) then (if (rd_L1 x3_2 x15_2).length < 17592186044416 then ((some (x3_2.set (x15_2 : Int).toNat ((rd_L1 x3_2 x15_2) ++ [x11_1]) : List (List Int))).bind fun y569 => (if 0 ≤ x11_1 then (if x11_1 < (x3_2.length : Int) then (if (rd_L1 y569 x11_1).length < 17592186044416 then (shunt_conflicts.l1 k2 l0 (y569.set (x11_1 : Int).toNat ((rd_L1 y569 x11_1) ++ [x15_2])) x11_1 (l0.length : Int) x11_1 x11_1 (wrap64 (x15_2 + 1))) else (none)) else (none)) else (none))) else (none)) else (none)) else (none)) else (shunt_conflicts.l1 k2 l0 x3_2 x11_1 (l0.length : Int) x11_1 x11_1 (wrap64 (x15_2 + 1)))) = some r := H
                  have A8 := Aside0.mk A80
                  clear A80
                  by_cases c9 : t564 > 0
                  · rw [if_pos c9] at H
                    have c9b0 : decide (0 < t564) = true := decide_eq_true c9
                    clear c9
                    by_cases c10 : 0 ≤ x15_2
                    · rw [if_pos c10] at H
                      have c10b0 : decide (0 ≤ x15_2) = true := decide_eq_true c10
                      clear c10
                      by_cases c11 : x15_2 < (x3_2.length : Int)
                      · rw [if_pos c11] at H
                        have c11b0 : decide (x15_2 < (x3_2.length : Int)) = true := decide_eq_true c11
                        clear c11
                        by_cases c12 : (rd_L1 x3_2 x15_2).length < 17592186044416
                        · rw [if_pos c12] at H
                          have LMc12 := Aside0.mk c12
                          clear c12
                          obtain ⟨y566, hy566⟩ : ∃ y_ : List Int, y_ = ((rd_L1 x3_2 x15_2) ++ [x11_1]) := ⟨_, rfl⟩
                          replace H : ((some (x3_2.set (x15_2 : Int).toNat y566 : List (List Int))).bind fun y569 => (if 0 ≤ x11_1 then (if x11_1 < (x3_2.length : Int) then (if (rd_L1 y569 x11_1).length < 17592186044416 then (shunt_conflicts.l1 k2 l0 (y569.set (x11_1 : Int).toNat ((rd_L1 y569 x11_1) ++ [x15_2])) x11_1 (l0.length : Int) x11_1 x11_1 (wrap64 (x15_2 + 1))) else (none)) else (none)) else (none))) = some r := by first | (rw [hy566]; with_reducible exact H) | (have H2_ := (Option.bind_some _ _).symm.trans H; rw [hy566]; with_reducible exact H2_) | (have H2_ := (Option.bind_some _ _).symm.trans H; with_reducible exact H2_) | with_reducible exact H | (rw [hy566]; exact H) | exact H
                          have Ny566 := Aside0.mk hy566
                          clear hy566
                          obtain ⟨y569, hy569⟩ : ∃ y_ : List (List Int), y_ = (x3_2.set (x15_2 : Int).toNat y566) := ⟨_, rfl⟩
                          replace H : (if 0 ≤ x11_1 then (if x11_1 < (x3_2.length : Int) then (if (rd_L1 y569 x11_1).length < 17592186044416 then (shunt_conflicts.l1 k2 l0 (y569.set (x11_1 : Int).toNat ((rd_L1 y569 x11_1) ++ [x15_2])) x11_1 (l0.length : Int) x11_1 x11_1 (wrap64 (x15_2 + 1))) else (none)) else (none)) else (none)) = some r := by first | (rw [hy569]; with_reducible exact H) | (have H2_ := (Option.bind_some _ _).symm.trans H; rw [hy569]; with_reducible exact H2_) | (have H2_ := (Option.bind_some _ _).symm.trans H; with_reducible exact H2_) | with_reducible exact H | (rw [hy569]; exact H) | exact H
                          have Ny569 := Aside0.mk hy569
                          clear hy569
                          by_cases c14 : 0 ≤ x11_1
                          · rw [if_pos c14] at H
                            have c14b0 : decide (0 ≤ x11_1) = true := decide_eq_true c14
                            clear c14
                            by_cases c15 : x11_1 < (x3_2.length : Int)
                            · rw [if_pos c15] at H
                              have c15b0 : decide (x11_1 < (x3_2.length : Int)) = true := decide_eq_true c15
                              clear c15
                              by_cases c16 : (rd_L1 y569 x11_1).length < 17592186044416
                              · rw [if_pos c16] at H
                                have LMc16 := Aside0.mk c16
                                clear c16
                                obtain ⟨y571, hy571⟩ : ∃ y_ : List Int, y_ = ((rd_L1 y569 x11_1) ++ [x15_2]) := ⟨_, rfl⟩
                                replace H : (shunt_conflicts.l1 k2 l0 (y569.set (x11_1 : Int).toNat y571) x11_1 (l0.length : Int) x11_1 x11_1 (wrap64 (x15_2 + 1))) = some r := by first | (rw [hy571]; with_reducible exact H) | (have H2_ := (Option.bind_some _ _).symm.trans H; rw [hy571]; with_reducible exact H2_) | (have H2_ := (Option.bind_some _ _).symm.trans H; with_reducible exact H2_) | with_reducible exact H | (rw [hy571]; exact H) | exact H
                                have Ny571 := Aside0.mk hy571
                                clear hy571
                                obtain ⟨y574, hy574⟩ : ∃ y_ : List (List Int), y_ = (y569.set (x11_1 : Int).toNat y571) := ⟨_, rfl⟩
                                replace H : (shunt_conflicts.l1 k2 l0 y574 x11_1 (l0.length : Int) x11_1 x11_1 (wrap64 (x15_2 + 1))) = some r := by first | (rw [hy574]; with_reducible exact H) | (have H2_ := (Option.bind_some _ _).symm.trans H; rw [hy574]; with_reducible exact H2_) | (have H2_ := (Option.bind_some _ _).symm.trans H; with_reducible exact H2_) | with_reducible exact H | (rw [hy574]; exact H) | exact H
                                have Ny574 := Aside0.mk hy574
                                clear hy574
                                have H' := Aside0.mk H
                                clear H
                                go_wp2_with (first | ((with_reducible refine gate_callee (f := 72) rfl ?_); refine goesL_ (some 21) rfl rfl Try.func72 (by kernel_rfl) rfl #[.slice A0 l0.length c0, .int .i64 x15_2, .int .i64 x11_1] rfl (by (try simp only [List.map_toArray, List.map_cons, List.map_nil]); first | done | rfl | (simp only [List.length_drop, List.length_take]; rfl)) ?_; (with_reducible refine (shunt_blocking.calls k2 _ _ l0 x15_2 x11_1 t564 _ ?side1 ?side2 A8.out).mono ?_); (case side1 => repeat (first | exact (Kd.C_below HR0.out HB.out) | (with_reducible refine Kd.C_alloc ?_ _) | (with_reducible refine Kd.C_drewN ?_ _) | (with_reducible refine Kd.C_drew ?_))); (case side2 => exact HC0.out); rintro e w' ⟨rfl, ⟨nd, rfl⟩⟩; refine ⟨_, rfl, ?_⟩; (try (rw [drewN_self wr]; generalize hq_ : World.drewN wr _ = wr; have n0_ : Aside0 (Kd.S (Kd.slice 3 (Kd.int .i64)) 22 wr w.heap.size (fun _ => True) v562 x3_2) := ⟨by rw [← hq_]; exact (by (with_reducible repeat (first | apply Kd.S_alloc | apply Kd.S_drewN | apply Kd.S_drew)); exact HO_3.out)⟩; have n1_ : Aside0 (Below w.heap.size w wr) := ⟨by rw [← hq_]; exact (by repeat (first | (with_reducible first | exact HB.out | apply below_alloc | apply pw_below_drewN | apply below_drew1) | exact HB.out))⟩; clear HO_3 HB hq_; have HO_3 := n0_; have HB := n1_; clear n0_ n1_)); obtain ⟨Ao18, co18, eo18⟩ := Kd.S_slice HO_3.out; subst eo18; have p565 : 0 ≤ (x15_2 : Int) := of_decide_eq_true (by first | (with_reducible assumption) | assumption); have q565 : x15_2 < (x3_2.length : Int) := of_decide_eq_true (by first | (with_reducible assumption) | assumption); obtain ⟨ad565, A565_0, c565_0, e565, hx565_0, hl565_0, hi565_0⟩ := at_L1 (Kd.S_reads' HO_3.out).2.2 x15_2 p565 q565; cases e565; obtain ⟨ce565, hce565, hMe565, hcc565⟩ := Kd.S_get HO_3.out [] x15_2 p565 (by first | exact q565 | exact of_decide_eq_true (by first | (with_reducible assumption) | assumption) | (have e_ := (Kd.S_reads' HO_3.out).1; omega)); obtain ⟨ve565_0, rfl, ge565_0⟩ := hMe565; have hv565_0 := hcc565 0 _ rfl; rw [Nat.add_zero, show ((Kd.slice 3 (Kd.int .i64))).sz = 1 from rfl, Nat.mul_one] at hv565_0; replace hv565_0 := Option.some.inj (hv565_0.symm.trans hx565_0); rw [hv565_0] at ge565_0; have HL565_0 := Aside0.mk (show Kd.R (Kd.int .i64) 3 _ _ _ _ (rd_L1 x3_2 x15_2) from ge565_0); clear hv565_0 ge565_0; have HX565_0 := Aside0.mk hx565_0; clear hcc565 hce565; have HR565_0 := Aside0.mk hi565_0; have HC565_0 := Aside0.mk hl565_0; clear hi565_0 hl565_0; replace p565 := eq_true p565; replace q565 := eq_true q565; obtain ⟨go19, co19, eo19, gb19, gl19, cl19, HG19⟩ := Kd.S_form HO_3.out (by have h_ : (x15_2 : Int) < ((x3_2.length : Int) : Int) := of_decide_eq_true (by first | (with_reducible assumption) | assumption); have h2_ : 0 ≤ (x15_2 : Int) := (of_decide_eq_true (by first | (with_reducible assumption) | assumption)); omega); (first | cases eo19 | (injection eo19 with ea_ en_ ec_; (first | subst ea_ | (injection ea_ with ea_; subst ea_)); subst ec_; clear en_)); have GB19 := Aside0.mk gb19; have GG19 := Aside0.mk HG19; clear gb19 gl19 HG19; (first | simp only [add_plain] at hx565_0 | skip); obtain ⟨oki19, ce19, hcl19, hM19, hcc19, _, _, hH19⟩ := Kd.S_elem HO_3.out [] (x15_2 : Int) (of_decide_eq_true (by first | (with_reducible assumption) | assumption)) (by have h_ : (x15_2 : Int) < ((x3_2.length : Int) : Int) := of_decide_eq_true (by first | (with_reducible assumption) | assumption); first | exact h_ | (have e_ := (Kd.S_reads' HO_3.out).1; omega) | simpa using h_); obtain ⟨ve19_0, rfl, ge19_0⟩ := hM19; have hv19 := hcc19 0 _ rfl; have hX19 := HX565_0.out; (try simp only [add_plain] at hX19); (try simp only [Nat.add_zero] at hv19); (try rw [show ((Kd.slice 3 (Kd.int .i64))).sz = 1 from rfl, Nat.mul_one] at hv19); replace hv19 := Option.some.inj (hv19.symm.trans hX19); subst hv19; clear hX19 hcc19 hcl19; have UU19 := Aside0.mk (show Kd.R (Kd.int .i64) 3 _ w.heap.size oki19 (.slice A565_0 (rd_L1 x3_2 x15_2).length c565_0) (rd_L1 x3_2 x15_2) from ge19_0); have HH19 := Aside0.mk hH19; have HN19 := Aside0.mk (Kd.S_reads' HO_3.out).1; clear hH19 ge19_0) | ((with_reducible refine gate_builtin (b := .append) (xs := #[.tmp 28, .tmp 30]) rfl ?_); at_builtin; refine Kd.R_append (Kd.int .i64) (w0 := w) w.heap.size rfl (.tmp 28) (.tmp 30) 22 3 (.int .i64 0) 8 rfl Try.underlying22 info3 rfl (by decide) (by omega) (.slice A565_0 (rd_L1 x3_2 x15_2).length c565_0) (rd_L1 x3_2 x15_2) x11_1 [.int .i64 x11_1] (fun k_ => oki19 k_ ∨ ((fun _ => True)) k_ ∧ wr.heap.size ≤ k_) (fun _ => False) rfl rfl ?aP (fun _ hk => hk.elim) ?aF ?aO ?aB ?aS ?aL ?_; (case aP => exact rfl); (case aB => exact (by repeat (first | (with_reducible first | exact HB.out | apply below_alloc | apply pw_below_drewN | apply below_drew1) | exact HB.out))); (case aF => exact (fun k_ hk => .inr ⟨trivial, hk⟩)); (case aO => exact (by (with_reducible repeat (first | apply Kd.R_alloc | apply Kd.R_drewN | apply Kd.R_drew)); exact Kd.R_mono UU19.out (fun _ hk => .inl hk))); (case aS => exact (below_size (by repeat (first | (with_reducible first | exact HB.out | apply below_alloc | apply pw_below_drewN | apply below_drew1) | exact HB.out)))); (case aL => have := LMc12.out; omega); intro v567 w20 ho hb hg hat; rw [← Ny566.out] at ho; have n0_ := Aside0.mk (hb); have n1_ := Aside0.mk (Kd.H_grown (Kd.H_widen (by repeat (first | exact HH19.out | refine Kd.H_alloc ?_ _ | refine Kd.H_drewN ?_ _ | refine Kd.H_drew ?_))) hg (fun k_ e_ => .inl (UU19.out.1 k_ e_))); have n2_ := Aside0.mk (ho); clear HB; clear HH19; clear HO_3; clear UU19; clear HL565_0; have HB := n0_; have HH19 := n1_; have HO568 := n2_; clear n0_ n1_ n2_; clear ho hb hg hat; have p13 : 0 ≤ (x15_2 : Int) := of_decide_eq_true (by first | (with_reducible assumption) | assumption); have q13 : (x15_2 : Int) < ((x3_2.length : Int) : Int) := of_decide_eq_true (by first | (with_reducible assumption) | assumption); replace p13 := eq_true p13; replace q13 := eq_true q13; obtain ⟨Ao23, co23, eo23⟩ := Kd.R_slice HO568.out; subst eo23; obtain ⟨_, _, hraw21, _, _, hcc21, _⟩ := Kd.H_raw HH19.out (of_decide_eq_true (by first | (with_reducible assumption) | assumption)) (by have h_ : (x15_2 : Int) < ((x3_2.length : Int) : Int) := of_decide_eq_true (by first | (with_reducible assumption) | assumption); first | exact h_ | (have e_ := (HN19.out); omega) | simpa using h_); obtain ⟨_, hfr21⟩ := Kd.H_at HH19.out (of_decide_eq_true (by first | (with_reducible assumption) | assumption)) (by have h_ : (x15_2 : Int) < ((x3_2.length : Int) : Int) := of_decide_eq_true (by first | (with_reducible assumption) | assumption); first | exact h_ | (have e_ := (HN19.out); omega) | simpa using h_); have hx21_0 := hcc21 0 _ rfl; have hf21_0 := hfr21 0; (try simp only [Nat.add_zero] at hx21_0 hf21_0); (try rw [show ((Kd.slice 3 (Kd.int .i64))).sz = 1 from rfl, Nat.mul_one] at hx21_0); (try rw [show ((Kd.slice 3 (Kd.int .i64))).sz = 1 from rfl, Nat.mul_one] at hf21_0); have HP21 := Kd.S_seg0 HH19.out (of_decide_eq_true (by first | (with_reducible assumption) | assumption)) (by have h_ : (x15_2 : Int) < ((x3_2.length : Int) : Int) := of_decide_eq_true (by first | (with_reducible assumption) | assumption); first | exact h_ | (have e_ := (HN19.out); omega) | simpa using h_) (seg := [.slice Ao23 y566.length co23]) (j := 0) (show 1 ≤ 1 from by decide) (x' := y566) (Kd.M_row HO568.out) (fun _ hk => hk); (try simp only [show ((Kd.slice 3 (Kd.int .i64))).sz = 1 from rfl, Nat.mul_one, Nat.add_zero] at HP21); clear hcc21 hfr21) | ((with_reducible refine gate_store (t := 22) (p := 32) rfl ?_); refine store_event (t := 22) (p := 32) (v := ?vo_w22) (w1 := (w20.setCell ⟨go19, (x15_2 : Int).toNat, none⟩ (.slice Ao23 y566.length co23))) ?hg ?ho ?hn ?hr ?_; (case ho => rfl); (case hg => rfl); (case hn => rfl); (case hr => first | (go_simp; done) | (go_simp; rfl)); intro w22 hw; have hg : w20.grownBy w22 (some go19) := (by rw [hw]; exact HP21.2); have hp_ : Kd.S (Kd.slice 3 (Kd.int .i64)) 22 w22 w.heap.size (fun _ => True) (.slice (some ⟨go19, 0, none⟩) x3_2.length co18) y569 := (by rw [hw, Ny569.out]; exact HP21.1); clear HP21; have n0_ := Aside0.mk ((by rw [hw]; exact below_set HB.out GB19.out : Below w.heap.size w w22)); have n1_ := Aside0.mk (hp_); clear HB; clear HO568; clear HH19; have HB := n0_; have HO_3 := n1_; clear n0_ n1_; clear hg hw hp_ hraw21; have p570 : 0 ≤ (x11_1 : Int) := of_decide_eq_true (by first | (with_reducible assumption) | assumption); have q570 : x11_1 < (y569.length : Int) := (by have h_ : (x11_1 : Int) < ((x3_2.length : Int) : Int) := of_decide_eq_true (by first | (with_reducible assumption) | assumption); first | (have e_ := (Kd.S_reads' HO_3.out).1; omega) | simpa only [Ny569.out, List.length_set] using h_); have ql570 : ((x11_1 : Int) < ((x3_2.length : Int) : Int)) = True := eq_true (of_decide_eq_true (by first | (with_reducible assumption) | assumption)); obtain ⟨ad570, A570_0, c570_0, e570, hx570_0, hl570_0, hi570_0⟩ := at_L1 (Kd.S_reads' HO_3.out).2.2 x11_1 p570 q570; obtain rfl : (⟨go19, 0, none⟩ : Addr) = ad570 := (by injection e570); obtain ⟨ce570, hce570, hMe570, hcc570⟩ := Kd.S_get HO_3.out [] x11_1 p570 (by first | exact q570 | exact of_decide_eq_true (by first | (with_reducible assumption) | assumption) | (have e_ := (Kd.S_reads' HO_3.out).1; omega)); obtain ⟨ve570_0, rfl, ge570_0⟩ := hMe570; have hv570_0 := hcc570 0 _ rfl; rw [Nat.add_zero, show ((Kd.slice 3 (Kd.int .i64))).sz = 1 from rfl, Nat.mul_one] at hv570_0; replace hv570_0 := Option.some.inj (hv570_0.symm.trans hx570_0); rw [hv570_0] at ge570_0; have HL570_0 := Aside0.mk (show Kd.R (Kd.int .i64) 3 _ _ _ _ (rd_L1 y569 x11_1) from ge570_0); clear hv570_0 ge570_0; have HX570_0 := Aside0.mk hx570_0; clear hcc570 hce570; (first | simp only [add_plain] at hx570_0 | simp only [add_at] at hx570_0 | simp only [Addr.add, Nat.zero_add] at hx570_0 | skip); have HR570_0 := Aside0.mk hi570_0; have HC570_0 := Aside0.mk hl570_0; clear hi570_0 hl570_0; replace p570 := eq_true p570; replace q570 := eq_true q570; obtain ⟨oki24, ce24, hcl24, hM24, hcc24, _, _, hH24⟩ := Kd.S_elem HO_3.out [] (x11_1 : Int) (of_decide_eq_true (by first | (with_reducible assumption) | assumption)) (by have h_ : (x11_1 : Int) < ((x3_2.length : Int) : Int) := of_decide_eq_true (by first | (with_reducible assumption) | assumption); first | exact h_ | (have e_ := (Kd.S_reads' HO_3.out).1; omega) | simpa using h_); obtain ⟨ve24_0, rfl, ge24_0⟩ := hM24; have hv24 := hcc24 0 _ rfl; have hX24 := HX570_0.out; (try simp only [add_plain] at hX24); (try simp only [Nat.add_zero] at hv24); (try rw [show ((Kd.slice 3 (Kd.int .i64))).sz = 1 from rfl, Nat.mul_one] at hv24); replace hv24 := Option.some.inj (hv24.symm.trans hX24); subst hv24; clear hX24 hcc24 hcl24; have UU24 := Aside0.mk (show Kd.R (Kd.int .i64) 3 _ w.heap.size oki24 (.slice A570_0 (rd_L1 y569 x11_1).length c570_0) (rd_L1 y569 x11_1) from ge24_0); have HH24 := Aside0.mk hH24; have HN24 := Aside0.mk (Kd.S_reads' HO_3.out).1; clear hH24 ge24_0) | ((with_reducible refine gate_builtin (b := .append) (xs := #[.tmp 38, .tmp 40]) rfl ?_); at_builtin; refine Kd.R_append (Kd.int .i64) (w0 := w) w.heap.size rfl (.tmp 38) (.tmp 40) 22 3 (.int .i64 0) 8 rfl Try.underlying22 info3 rfl (by decide) (by omega) (.slice A570_0 (rd_L1 y569 x11_1).length c570_0) (rd_L1 y569 x11_1) x15_2 [.int .i64 x15_2] (fun k_ => oki24 k_ ∨ ((fun _ => True)) k_ ∧ w22.heap.size ≤ k_) (fun _ => False) rfl rfl ?aP (fun _ hk => hk.elim) ?aF ?aO ?aB ?aS ?aL ?_; (case aP => exact rfl); (case aB => exact (by repeat (first | (with_reducible first | exact HB.out | apply below_alloc | apply pw_below_drewN | apply below_drew1) | exact HB.out))); (case aF => exact (fun k_ hk => .inr ⟨trivial, hk⟩)); (case aO => exact (by (with_reducible repeat (first | apply Kd.R_alloc | apply Kd.R_drewN | apply Kd.R_drew)); exact Kd.R_mono UU24.out (fun _ hk => .inl hk))); (case aS => exact (below_size (by repeat (first | (with_reducible first | exact HB.out | apply below_alloc | apply pw_below_drewN | apply below_drew1) | exact HB.out)))); (case aL => have := LMc16.out; omega); intro v572 w25 ho hb hg hat; rw [← Ny571.out] at ho; have n0_ := Aside0.mk (hb); have n1_ := Aside0.mk (Kd.H_grown (Kd.H_widen (by repeat (first | exact HH24.out | refine Kd.H_alloc ?_ _ | refine Kd.H_drewN ?_ _ | refine Kd.H_drew ?_))) hg (fun k_ e_ => .inl (UU24.out.1 k_ e_))); have n2_ := Aside0.mk (ho); clear HB; clear HH24; clear HO_3; clear UU24; clear HL570_0; have HB := n0_; have HH24 := n1_; have HO573 := n2_; clear n0_ n1_ n2_; clear ho hb hg hat; have p17 : 0 ≤ (x11_1 : Int) := of_decide_eq_true (by first | (with_reducible assumption) | assumption); have q17 : (x11_1 : Int) < ((x3_2.length : Int) : Int) := of_decide_eq_true (by first | (with_reducible assumption) | assumption); replace p17 := eq_true p17; replace q17 := eq_true q17; obtain ⟨Ao28, co28, eo28⟩ := Kd.R_slice HO573.out; subst eo28; obtain ⟨_, _, hraw26, _, _, hcc26, _⟩ := Kd.H_raw HH24.out (of_decide_eq_true (by first | (with_reducible assumption) | assumption)) (by have h_ : (x11_1 : Int) < ((x3_2.length : Int) : Int) := of_decide_eq_true (by first | (with_reducible assumption) | assumption); first | exact h_ | (have e_ := (HN24.out); omega) | simpa using h_); obtain ⟨_, hfr26⟩ := Kd.H_at HH24.out (of_decide_eq_true (by first | (with_reducible assumption) | assumption)) (by have h_ : (x11_1 : Int) < ((x3_2.length : Int) : Int) := of_decide_eq_true (by first | (with_reducible assumption) | assumption); first | exact h_ | (have e_ := (HN24.out); omega) | simpa using h_); have hx26_0 := hcc26 0 _ rfl; have hf26_0 := hfr26 0; (try simp only [Nat.add_zero] at hx26_0 hf26_0); (try rw [show ((Kd.slice 3 (Kd.int .i64))).sz = 1 from rfl, Nat.mul_one] at hx26_0); (try rw [show ((Kd.slice 3 (Kd.int .i64))).sz = 1 from rfl, Nat.mul_one] at hf26_0); have HP26 := Kd.S_seg0 HH24.out (of_decide_eq_true (by first | (with_reducible assumption) | assumption)) (by have h_ : (x11_1 : Int) < ((x3_2.length : Int) : Int) := of_decide_eq_true (by first | (with_reducible assumption) | assumption); first | exact h_ | (have e_ := (HN24.out); omega) | simpa using h_) (seg := [.slice Ao28 y571.length co28]) (j := 0) (show 1 ≤ 1 from by decide) (x' := y571) (Kd.M_row HO573.out) (fun _ hk => hk); (try simp only [show ((Kd.slice 3 (Kd.int .i64))).sz = 1 from rfl, Nat.mul_one, Nat.add_zero] at HP26); clear hcc26 hfr26) | ((with_reducible refine gate_store (t := 22) (p := 42) rfl ?_); refine store_event (t := 22) (p := 42) (v := ?vo_w27) (w1 := (w25.setCell ⟨go19, (x11_1 : Int).toNat, none⟩ (.slice Ao28 y571.length co28))) ?hg ?ho ?hn ?hr ?_; (case ho => rfl); (case hg => rfl); (case hn => rfl); (case hr => first | (go_simp; done) | (go_simp; rfl)); intro w27 hw; have hg : w25.grownBy w27 (some go19) := (by rw [hw]; exact HP26.2); have hp_ : Kd.S (Kd.slice 3 (Kd.int .i64)) 22 w27 w.heap.size (fun _ => True) (.slice (some ⟨go19, 0, none⟩) x3_2.length co18) y574 := (by rw [hw, Ny574.out]; exact HP26.1); clear HP26; have n0_ := Aside0.mk ((by rw [hw]; exact below_set HB.out GB19.out : Below w.heap.size w w27)); have n1_ := Aside0.mk (hp_); clear HB; clear HO573; clear HH24; have HB := n0_; have HO_3 := n1_; clear n0_ n1_; clear hg hw hp_ hraw26))
                                go_roundg k2
                                case measure => have := HK1.out; have := HK2.out; omega
                                case rel => exact ⟨(y574), (wrap64 (x15_2 + 1)), (by first | rfl | (simp; done) | (simp [*]; done)), H', ⟨by have := HK1.out; have := HK2.out; omega⟩, ⟨by (with_reducible repeat (first | apply Kd.S_alloc | apply Kd.S_drewN | apply Kd.S_drew)); exact HO_3.out⟩, ⟨by repeat (first | (with_reducible first | exact HB.out | apply below_alloc | apply pw_below_drewN | apply below_drew1) | exact HB.out)⟩⟩
                              · rw [if_neg c16] at H
                                exact absurd H (by simp)
                            · rw [if_neg c15] at H
                              exact absurd H (by simp)
                          · rw [if_neg c14] at H
                            exact absurd H (by simp)
                        · rw [if_neg c12] at H
                          exact absurd H (by simp)
                      · rw [if_neg c11] at H
                        exact absurd H (by simp)
                    · rw [if_neg c10] at H
                      exact absurd H (by simp)
                  · rw [if_neg c9] at H
                    have c9b0 : decide (0 < t564) = false := decide_eq_false c9
                    clear c9
                    have H' := Aside0.mk H
                    clear H
                    go_wp2_with (first | ((with_reducible refine gate_callee (f := 72) rfl ?_); refine goesL_ (some 21) rfl rfl Try.func72 (by kernel_rfl) rfl #[.slice A0 l0.length c0, .int .i64 x15_2, .int .i64 x11_1] rfl (by (try simp only [List.map_toArray, List.map_cons, List.map_nil]); first | done | rfl | (simp only [List.length_drop, List.length_take]; rfl)) ?_; (with_reducible refine (shunt_blocking.calls k2 _ _ l0 x15_2 x11_1 t564 _ ?side1 ?side2 A8.out).mono ?_); (case side1 => repeat (first | exact (Kd.C_below HR0.out HB.out) | (with_reducible refine Kd.C_alloc ?_ _) | (with_reducible refine Kd.C_drewN ?_ _) | (with_reducible refine Kd.C_drew ?_))); (case side2 => exact HC0.out); rintro e w' ⟨rfl, ⟨nd, rfl⟩⟩; refine ⟨_, rfl, ?_⟩))
                    go_roundg k2
                    case measure => have := HK1.out; have := HK2.out; omega
                    case rel => exact ⟨(x3_2), (wrap64 (x15_2 + 1)), (by first | rfl | (simp; done) | (simp [*]; done)), H', ⟨by have := HK1.out; have := HK2.out; omega⟩, ⟨by (with_reducible repeat (first | apply Kd.S_alloc | apply Kd.S_drewN | apply Kd.S_drew)); exact HO_3.out⟩, ⟨by repeat (first | (with_reducible first | exact HB.out | apply below_alloc | apply pw_below_drewN | apply below_drew1) | exact HB.out)⟩⟩
                · rw [if_neg c7] at H
                  have c7b0 : decide (x15_2 < x11_1) = false := decide_eq_false c7
                  clear c7
                  have H' := Aside0.mk H
                  clear H
                  go_wp2
                  go_roundg k2
                  case measure => have := HK1.out; have := HK2.out; omega
                  case rel => exact ⟨(x3_2), (wrap64 (x11_1 + 1)), (by first | rfl | (simp; done) | (simp [*]; done)), H', ⟨by have := HK1.out; have := HK2.out; omega⟩, ⟨by (with_reducible repeat (first | apply Kd.S_alloc | apply Kd.S_drewN | apply Kd.S_drew)); exact HO_3.out⟩, ⟨by repeat (first | (with_reducible first | exact HB.out | apply below_alloc | apply pw_below_drewN | apply below_drew1) | exact HB.out)⟩⟩
          · rw [if_neg c6] at H
            have c6b0 : decide (x11_1 < (l0.length : Int)) = false := decide_eq_false c6
            clear c6
            obtain rfl := Option.some.inj H
            go_wp2
            go_ret
            exact ⟨_, by first | rfl | (simp [errW_none, errW_some] <;> rfl) | (simp [*, errW_none, errW_some] <;> rfl), by (with_reducible repeat (first | apply Kd.S_alloc | apply Kd.S_drewN | apply Kd.S_drew)); exact HO_3.out, by repeat (first | (with_reducible first | exact HB.out | apply below_alloc | apply pw_below_drewN | apply below_drew1) | exact HB.out)⟩
    · rw [if_neg c3] at H
      exact absurd H (by simp)
  · rw [if_neg c2] at H
    exact absurd H (by simp)

end Go.Proofs.Ytjbjongahnocdaa.S
