-- Written by wip/bundle2.py: texts of this claim, one behind the other.
import Derived.Test.YtnfmeafiaipplaaBLoopsLaws2
import Derived.KernelRfl
import Derived.WalkKit
import Derived.ProofKit
import Derived.OpenShut
import Derived.ShutString
import Derived.ChangeOld
import Derived.Below
import Derived.SizedLaws
import Derived.Deep.Slices
import Derived.Laws.IdiomArrays
set_option linter.unusedVariables false
set_option linter.unusedSimpArgs false

namespace Go.Proofs.Ytnfmeafiaipplaa.P
open Go.RowKit Go.Proofs.Ytnfmeafiaipplaa.S Go.Proofs.Ytnfmeafiaipplaa.Lib Go.Proofs.YtnfmeafiaipplaaW.PrintWords
set_option linter.unusedVariables false
set_option linter.unusedSectionVars false

section
variable {α : Type} [DecidableEq α]
theorem numIx_lt {fs : List α} {x : α} (h : x ∈ fs) : numIx fs x < fs.length := List.idxOf_lt_length_of_mem h
theorem numIx_get {fs : List α} {x : α} (h : x ∈ fs) : fs[numIx fs x]'(numIx_lt h) = x := List.getElem_idxOf (numIx_lt h)
theorem numIx_inj {fs : List α} {x y : α} (hx : x ∈ fs) (hy : y ∈ fs) (h : numIx fs x = numIx fs y) : x = y := by
 have h1 := numIx_get hx
 have h2 := numIx_get hy
 rw [← h1, ← h2]
 simp [h]
theorem numGo_spec : ∀ (ks ds : List α) (out : List Int), ds.Nodup → ∃ fs : List α, fs.Nodup ∧ (∀ x ∈ ds, x ∈ fs ∧ numIx fs x = numIx ds x) ∧ (∀ x ∈ ks, x ∈ fs) ∧ (∀ x ∈ fs, x ∈ ds ∨ x ∈ ks) ∧ numGo ks ds out = (out ++ ks.map (fun x => (numIx fs x : Int)), (fs.length : Int))
 | [], ds, out, h => ⟨ds, h, fun x hx => ⟨hx, rfl⟩, fun x hx => by simp at hx, fun x hx => .inl hx, by simp [numGo]⟩
 | k :: ks, ds, out, h => by
  have hd : (numStep ds k).Nodup := by
   unfold numStep
   split
   ·exact h
   ·rename_i hk
    exact List.nodup_append.2 ⟨h, by simp, fun a ha b hb => by simp at hb; subst hb; exact fun e => hk (e ▸ ha)⟩
  have hk : k ∈ numStep ds k := by
   unfold numStep
   split
   ·assumption
   ·simp
  have hold : ∀ x ∈ ds, x ∈ numStep ds k ∧ numIx (numStep ds k) x = numIx ds x := fun x hx => by
   unfold numStep
   split
   ·exact ⟨hx, rfl⟩
   ·exact ⟨by simp [hx], numIx_old k hx⟩
  obtain ⟨fs, f1, f2, f3, f4, f5⟩ := numGo_spec ks (numStep ds k) (out ++ [(numIx (numStep ds k) k : Int)]) hd
  refine ⟨fs, f1, fun x hx => ?_, fun x hx => ?_, fun x hx => ?_, ?_⟩
  ·obtain ⟨g1, g2⟩ := hold x hx
   exact ⟨(f2 x g1).1, (f2 x g1).2.trans g2⟩
  ·rcases List.mem_cons.1 hx with rfl | hx
   ·exact (f2 x hk).1
   ·exact f3 x hx
  ·rcases f4 x hx with h' | h'
   ·unfold numStep at h'
    split at h'
    ·exact .inl h'
    ·rcases List.mem_append.1 h' with h' | h'
     ·exact .inl h'
     ·simp at h'
      exact .inr (by simp [h'])
   ·exact .inr (by simp [h'])
  ·unfold numGo
   rw [f5, List.map_cons, (f2 k hk).2]
   simp
theorem dup_exists {L : List α} (h : ¬ L.Nodup) : ∃ x, x ∈ L.erase x := by
 induction L with
 | nil => exact absurd List.nodup_nil h
 | cons a L ih =>
  by_cases ha : a ∈ L
  ·exact ⟨a, by rw [List.erase_cons_head]; exact ha⟩
  ·have : ¬ L.Nodup := fun hn => h (List.nodup_cons.2 ⟨ha, hn⟩)
   obtain ⟨x, hx⟩ := ih this
   have hxa : x ≠ a := fun e => ha (e ▸ List.mem_of_mem_erase hx)
   refine ⟨x, ?_⟩
   rw [List.erase_cons_tail (by simpa using Ne.symm hxa)]
   exact List.mem_cons_of_mem _ hx
theorem nodup_sub_len : ∀ {R L : List α}, R.Nodup → (∀ x ∈ R, x ∈ L) → R.length ≤ L.length
 | [], _, _, _ => by simp
 | a :: R, L, hn, hs => by
  have ha : a ∈ L := hs a (by simp)
  have h1 := nodup_sub_len (R := R) (L := L.erase a) (List.nodup_cons.1 hn).2 (fun x hx => by
   have hxa : x ≠ a := fun e => (List.nodup_cons.1 hn).1 (e ▸ hx)
   exact (List.mem_erase_of_ne hxa).2 (hs x (by simp [hx])))
  rw [List.length_erase_of_mem ha] at h1
  have : 0 < L.length := List.length_pos_of_mem ha
  simp
  omega
end
theorem nodup_range_int (m : Nat) : ((List.range m).map (fun c : Nat => (c : Int))).Nodup := by
 rw [List.Nodup, List.pairwise_map]
 exact List.nodup_range.imp (fun h e => h (by omega))
/-- A list of m that has all the numbers below m has none twice. -/
theorem full_nodup {L : List Int} {m : Nat} (hl : L.length = m) (hf : ∀ c : Nat, c < m → (c : Int) ∈ L) : L.Nodup := by
 apply Classical.byContradiction
 intro hn
 obtain ⟨x, hx⟩ := dup_exists hn
 have hxL := List.mem_of_mem_erase hx
 have := nodup_sub_len (R := (List.range m).map (fun c : Nat => (c : Int))) (L := L.erase x) (nodup_range_int m) (fun y hy => by
  obtain ⟨c, hc, rfl⟩ := List.mem_map.1 hy
  have := hf c (List.mem_range.1 hc)
  by_cases e : (c : Int) = x
  ·rw [e]; exact hx
  ·exact (List.mem_erase_of_ne e).2 this)
 rw [List.length_erase_of_mem hxL] at this
 have h0 : 0 < L.length := List.length_pos_of_mem hxL
 simp at this
 omega
theorem full_len {L : List Int} {m : Nat} (hf : ∀ c : Nat, c < m → (c : Int) ∈ L) : m ≤ L.length := by
 have := nodup_sub_len (R := (List.range m).map (fun c : Nat => (c : Int))) (L := L) (nodup_range_int m) (fun y hy => by
  obtain ⟨c, hc, rfl⟩ := List.mem_map.1 hy
  exact hf c (List.mem_range.1 hc))
 simpa using this
theorem map_nodup_inj {α : Type} {f : α → Int} : ∀ {l : List α}, (l.map f).Nodup → ∀ x ∈ l, ∀ y ∈ l, f x = f y → x = y
 | [], _, x, hx, _, _, _ => by simp at hx
 | a :: l, h, x, hx, y, hy, e => by
  rw [List.map_cons, List.nodup_cons] at h
  rcases List.mem_cons.1 hx with hx1 | hx1 <;> rcases List.mem_cons.1 hy with hy1 | hy1
  ·rw [hx1, hy1]
  ·exact absurd (List.mem_map.2 ⟨y, hy1, by rw [← e, hx1]⟩) h.1
  ·exact absurd (List.mem_map.2 ⟨x, hx1, by rw [e, hy1]⟩) h.1
  ·exact map_nodup_inj h.2 x hx1 y hy1 e
section
variable {t : List S39} (hv : ∀ i : Int, 0 ≤ i → i < t.length → okN t i) (hn : t.length ≤ 1000)
include hv hn

/-- Numbers of nodes, as far as they have come. -/
structure ClsI (t : List S39) (out : List Int) (m : Nat) : Prop where
 len : out.length = t.length
 rng : ∀ i : Nat, i < t.length → 0 ≤ rd out i ∧ rd out i < m
 onto : ∀ c : Nat, c < m → ∃ i : Nat, i < t.length ∧ rd out i = c
 same : ∀ i j : Nat, i < t.length → j < t.length → Same t i t j → rd out i = rd out j
 kind : ∀ i j : Nat, i < t.length → j < t.length → rd out i = rd out j → (nd t i).f0 = (nd t j).f0
omit hv hn in
/-- Numbers by keys. -/
theorem rd_map {α : Type} (ks : List α) (f : α → Int) (d : α) (i : Nat) (h : i < ks.length) : rd (ks.map f) (i : Int) = f (ks.getD i d) := by
 rw [rd_lt _ i (by simpa using h), List.getElem_map, List.getD_eq_getElem?_getD, List.getElem?_eq_getElem h, Option.getD_some]
def keyC (t : List S39) (out : List Int) (i : Int) : S98 := if 4 ≤ (nd t i).f0 then ⟨rd out i, (nd t i).f0, rd out (nd t i).f1, rd out (nd t i).f2⟩ else ⟨rd out i, (nd t i).f0, 0, 0⟩
def keysC (t : List S39) (out : List Int) : List S98 := (List.range t.length).map (fun i : Nat => keyC t out i)
omit hn in
theorem l98_key {out : List Int} {i j : Nat} (hi : i < t.length) (hj : j < t.length) : l98 (keyC t out i) = l98 (keyC t out j) ↔ (rd out i = rd out j ∧ (nd t i).f0 = (nd t j).f0 ∧ (4 ≤ (nd t i).f0 → rd out (nd t i).f1 = rd out (nd t j).f1 ∧ rd out (nd t i).f2 = rd out (nd t j).f2)) := by
 unfold keyC l98
 by_cases c : 4 ≤ (nd t i).f0 <;> by_cases c' : 4 ≤ (nd t j).f0
 ·simp [c, c']
 ·simp only [if_pos c, if_neg c']
  constructor
  ·intro h; simp at h; omega
  ·rintro ⟨_, h, _⟩; omega
 ·simp only [if_neg c, if_pos c']
  constructor
  ·intro h; simp at h; omega
  ·rintro ⟨_, h, _⟩; omega
 ·simp [c, c']
theorem key_i98 {out : List Int} {m : Nat} (hm : m ≤ 1000) (h : ClsI t out m) {i : Nat} (hi : i < t.length) : i98B (keyC t out i) = true := by
 have h1 := h.rng i hi
 obtain ⟨⟨k0, k1⟩, _, ⟨a0, a1⟩, ⟨b0, b1⟩⟩ := hv i (by omega) (by omega)
 have h2 := h.rng (nd t i).f1.toNat (by omega)
 have h3 := h.rng (nd t i).f2.toNat (by omega)
 rw [Int.toNat_of_nonneg a0] at h2
 rw [Int.toNat_of_nonneg b0] at h3
 unfold i98B keyC l98 i64B
 split
 ·simp only [List.all_cons, List.all_nil, Bool.and_true, Bool.and_eq_true, decide_eq_true_eq]
  refine ⟨by omega, by omega, by omega, by omega⟩
 ·simp only [List.all_cons, List.all_nil, Bool.and_true, Bool.and_eq_true, decide_eq_true_eq]
  refine ⟨by omega, by omega, by omega, by omega⟩
/-- One refinement. -/
theorem cls_next {out : List Int} {m : Nat} (h : ClsI t out m) : ∃ (nx : List Int) (m' : Nat), numGo ((keysC t out).map l98) [] [] = (nx, (m' : Int)) ∧ ClsI t nx m' ∧ m ≤ m' ∧ m' ≤ t.length ∧
  (m' = m → ∀ i j : Nat, i < t.length → j < t.length → (rd nx i = rd nx j ↔ Same t i t j)) := by
 obtain ⟨fs, f1, _, f3, f4, f5⟩ := numGo_spec ((keysC t out).map l98) [] [] List.nodup_nil
 have hkl : ((keysC t out).map l98).length = t.length := by simp [keysC]
 have hkg : ∀ i : Nat, i < t.length → ((keysC t out).map l98).getD i [] = l98 (keyC t out i) := fun i hi => by
  rw [List.getD_eq_getElem?_getD, List.getElem?_eq_getElem (by simpa [keysC] using hi)]
  simp [keysC]
 have hmem : ∀ i : Nat, i < t.length → l98 (keyC t out i) ∈ fs := fun i hi => f3 _ (List.mem_map.2 ⟨_, List.mem_map.2 ⟨i, List.mem_range.2 hi, rfl⟩, rfl⟩)
 have hfs : ∀ x ∈ fs, ∃ i : Nat, i < t.length ∧ x = l98 (keyC t out i) := fun x hx => by
  rcases f4 x hx with h' | h'
  ·simp at h'
  ·obtain ⟨y, hy, rfl⟩ := List.mem_map.1 h'
   obtain ⟨i, hi, rfl⟩ := List.mem_map.1 hy
   exact ⟨i, List.mem_range.1 hi, rfl⟩
 have hrd : ∀ i : Nat, i < t.length → rd (((keysC t out).map l98).map (fun x => (numIx fs x : Int))) (i : Int) = (numIx fs (l98 (keyC t out i)) : Int) := fun i hi => by
  rw [rd_map _ _ [] i (by rw [hkl]; exact hi), hkg i hi]
 have hker : ∀ i j : Nat, i < t.length → j < t.length → ((numIx fs (l98 (keyC t out i)) : Int) = (numIx fs (l98 (keyC t out j)) : Int) ↔ l98 (keyC t out i) = l98 (keyC t out j)) := fun i j hi hj =>
  ⟨fun e => numIx_inj (hmem i hi) (hmem j hj) (by omega), fun e => by rw [e]⟩
 have hsame : ∀ i j : Nat, i < t.length → j < t.length → Same t i t j → l98 (keyC t out i) = l98 (keyC t out j) := fun i j hi hj hs => by
  rw [l98_key hv hi hj]
  refine ⟨h.same i j hi hj hs, (same_iff.1 hs).1, fun c => ?_⟩
  obtain ⟨_, _, ⟨a0, a1⟩, ⟨a2, a3⟩⟩ := hv i (by omega) (by omega)
  obtain ⟨_, _, ⟨b0, b1⟩, ⟨b2, b3⟩⟩ := hv j (by omega) (by omega)
  have h1 := h.same (nd t i).f1.toNat (nd t j).f1.toNat (by omega) (by omega) (by rw [Int.toNat_of_nonneg a0, Int.toNat_of_nonneg b0]; exact ((same_iff.1 hs).2 c).1)
  have h2 := h.same (nd t i).f2.toNat (nd t j).f2.toNat (by omega) (by omega) (by rw [Int.toNat_of_nonneg a2, Int.toNat_of_nonneg b2]; exact ((same_iff.1 hs).2 c).2)
  rw [Int.toNat_of_nonneg a0, Int.toNat_of_nonneg b0] at h1
  rw [Int.toNat_of_nonneg a2, Int.toNat_of_nonneg b2] at h2
  exact ⟨h1, h2⟩
 have hL : ∀ c : Nat, c < m → (c : Int) ∈ fs.map (fun x => x.getD 0 0) := fun c hc => by
  obtain ⟨i, hi, e⟩ := h.onto c hc
  refine List.mem_map.2 ⟨_, hmem i hi, ?_⟩
  rw [← e]
  unfold keyC l98
  split <;> rfl
 have hfl : fs.length ≤ t.length := by
  have := nodup_sub_len f1 (fun x hx => (f4 x hx).resolve_left (by simp))
  rwa [hkl] at this
 refine ⟨_, fs.length, by rw [f5], ⟨?_, fun i hi => ?_, fun c hc => ?_, fun i j hi hj hs => ?_, fun i j hi hj e => ?_⟩, by simpa using full_len hL, hfl, fun hm i j hi hj => ?_⟩
 ·simp [keysC]
 ·simp only [List.nil_append]
  rw [hrd i hi]
  have := numIx_lt (hmem i hi)
  omega
 ·have hx : fs[c] ∈ fs := List.getElem_mem hc
  obtain ⟨i, hi, e⟩ := hfs _ hx
  refine ⟨i, hi, ?_⟩
  simp only [List.nil_append]
  rw [hrd i hi, ← e]
  have h1 := numIx_get hx
  have h2 : numIx fs fs[c] = c := (List.getElem_inj f1).1 h1
  rw [h2]
 ·simp only [List.nil_append]
  rw [hrd i hi, hrd j hj, hsame i j hi hj hs]
 ·simp only [List.nil_append] at e
  rw [hrd i hi, hrd j hj, hker i j hi hj, l98_key hv hi hj] at e
  exact e.2.1
 ·simp only [List.nil_append]
  rw [hrd i hi, hrd j hj, hker i j hi hj]
  refine ⟨fun e => ?_, hsame i j hi hj⟩
  have hnd := full_nodup (L := fs.map (fun x => x.getD 0 0)) (m := m) (by simpa using hm) hL
  have hclosed : ∀ a b : Nat, a < t.length → b < t.length → rd out a = rd out b → l98 (keyC t out a) = l98 (keyC t out b) := fun a b ha hb hab =>
   map_nodup_inj hnd _ (hmem a ha) _ (hmem b hb) (by
    have g : ∀ i : Nat, (l98 (keyC t out i)).getD 0 0 = rd out i := fun i => by unfold keyC l98; split <;> rfl
    rw [g a, g b, hab])
  refine same_closed (t := t) (t' := t) (fun x y => ∃ a b : Nat, x = a ∧ y = b ∧ a < t.length ∧ b < t.length ∧ rd out a = rd out b) ?_ i j ⟨i, j, rfl, rfl, hi, hj, ((l98_key hv hi hj).1 e).1⟩
  rintro x y ⟨a, b, rfl, rfl, ha, hb, hab⟩
  have hk := (l98_key hv ha hb).1 (hclosed a b ha hb hab)
  refine ⟨hk.2.1, fun c => ?_⟩
  obtain ⟨_, _, ⟨a0, a1⟩, ⟨a2, a3⟩⟩ := hv a (by omega) (by omega)
  obtain ⟨_, _, ⟨b0, b1⟩, ⟨b2, b3⟩⟩ := hv b (by omega) (by omega)
  have := hk.2.2 c
  exact ⟨⟨_, _, (Int.toNat_of_nonneg a0).symm, (Int.toNat_of_nonneg b0).symm, by omega, by omega, by rw [Int.toNat_of_nonneg a0, Int.toNat_of_nonneg b0]; exact this.1⟩, ⟨_, _, (Int.toNat_of_nonneg a2).symm, (Int.toNat_of_nonneg b2).symm, by omega, by omega, by rw [Int.toNat_of_nonneg a2, Int.toNat_of_nonneg b2]; exact this.2⟩⟩
omit hn in
theorem hasParts_v {i : Nat} (hi : i < t.length) : loops_hasParts.f (nd t i).f0 (nd t i).f1 (nd t i).f2 = some (decide (4 ≤ (nd t i).f0)) := by
 obtain ⟨⟨k0, k1⟩, _⟩ := hv i (by omega) (by omega)
 unfold loops_hasParts.f
 by_cases c : (nd t i).f0 = 4
 ·rw [if_pos c, decide_eq_true (by omega)]
 ·rw [if_neg c]
  by_cases c5 : (nd t i).f0 = 5
  ·rw [decide_eq_true (by omega), beq_iff_eq.2 c5]
  ·rw [decide_eq_false (by omega), beq_eq_false_iff_ne.2 c5]
theorem cls_l2 {out : List Int} {m : Nat} (hI : ClsI t out m) (M : Int) : ∀ (d i : Nat), i + d = t.length → ∀ r, Ev (fun k => (loops_numbered_4_int.f (keysC t out)).bind fun b => if b.2 = M then some b.1 else loops_classes.l1 k t b.1 b.2) r →
  Ev (fun k => loops_classes.l2 k t out M ((List.range i).map (fun a : Nat => keyC t out a)) t t.length (i : Int)) r
 | 0, i, h, r, hr => by
  have : i = t.length := by omega
  subst this
  refine Ev.step (fun k => ?_) hr
  simp only [loops_classes.l2]
  rw [if_neg (by omega)]
  rfl
 | d + 1, i, h, r, hr => by
  have hi : i < t.length := by omega
  have ih := cls_l2 hI M d (i + 1) (by omega) r hr
  have hlen := hI.len
  obtain ⟨_, _, ⟨a0, a1⟩, ⟨b0, b1⟩⟩ := hv i (by omega) (by omega)
  have hp := hasParts_v hv hi
  refine Ev.step (f := fun k => loops_classes.l2 k t out M ((List.range (i + 1)).map (fun a : Nat => keyC t out a)) t t.length ((i + 1 : Nat) : Int)) (fun k => ?_) ih
  have c1 := castlt hi
  have c2 : (i : Int) < (out.length : Int) := by omega
  have c3 : (nd t i).f1 < (out.length : Int) := by omega
  have c4 : (nd t i).f2 < (out.length : Int) := by omega
  have hl : ((List.range i).map (fun a : Nat => keyC t out a)).length = i := by simp
  have e2 := w64s (j := i) (by omega)
  simp only [loops_classes.l2]
  rw [if_pos c1, if_pos (cast0 _), if_pos c1, if_pos c2, hp, Option.bind_some, e2, List.range_succ, List.map_append, List.map_singleton]
  by_cases c : 4 ≤ (nd t i).f0
  ·rw [if_pos (decide_eq_true c), if_pos a0, if_pos c3, if_pos b0, if_pos c4, if_pos (by rw [hl]; omega)]
   unfold keyC
   rw [if_pos c]
  ·rw [if_neg (by rw [decide_eq_false c]; decide), if_pos (by rw [hl]; omega)]
   rw [show keyC t out i = ⟨rd out i, (nd t i).f0, 0, 0⟩ from if_neg c]
theorem num4_some {out : List Int} {m : Nat} (hm : m ≤ 1000) (h : ClsI t out m) : loops_numbered_4_int.f (keysC t out) = some (numGo ((keysC t out).map l98) [] []) := by
 unfold loops_numbered_4_int.f
 rw [if_pos]
 refine ⟨by simp [keysC]; omega, List.all_eq_true.2 (fun x hx => ?_)⟩
 obtain ⟨i, hi, rfl⟩ := List.mem_map.1 hx
 exact key_i98 hv hn hm h (List.mem_range.1 hi)
theorem cls_l1 : ∀ (d : Nat) (out : List Int) (m : Nat), m + d = t.length → ClsI t out m → ∃ r, Ev (fun k => loops_classes.l1 k t out m) r ∧ r.length = t.length ∧ (∀ i : Nat, i < t.length → 0 ≤ rd r i ∧ rd r i < t.length) ∧ ∀ i j : Nat, i < t.length → j < t.length → (rd r i = rd r j ↔ Same t i t j) := by
 intro d
 induction d using Nat.strongRecOn with
 | _ d ih =>
  intro out m h hI
  obtain ⟨nx, m', e, hI', hle, hle', hfin⟩ := cls_next hv hn hI
  have hnum := num4_some hv hn (by omega) hI
  rw [e] at hnum
  have go : ∀ r, Ev (fun k => if (m' : Int) = (m : Int) then some nx else loops_classes.l1 k t nx m') r → Ev (fun k => loops_classes.l1 k t out m) r := fun r hr => by
   refine Ev.step (f := fun k => loops_classes.l2 k t out (m : Int) ((List.range 0).map (fun a : Nat => keyC t out a)) t t.length ((0 : Nat) : Int)) (fun k => ?_) (cls_l2 hv hn hI (m : Int) t.length 0 (by omega) r ?_)
   ·simp only [loops_classes.l1]
    rfl
   ·refine Ev.congr (fun k => ?_) hr
    rw [hnum, Option.bind_some]
  by_cases hm : m' = m
  ·refine ⟨nx, go nx ?_, hI'.len, fun i hi => ?_, hfin hm⟩
   ·refine Ev.congr (fun k => ?_) (Ev.now nx)
    rw [if_pos (by omega)]
   ·have := hI'.rng i hi
    omega
  ·obtain ⟨r, r1, r2, r3, r4⟩ := ih (t.length - m') (by omega) nx m' (by omega) hI'
   refine ⟨r, go r ?_, r2, r3, r4⟩
   refine Ev.congr (fun k => ?_) r1
   rw [if_neg (by omega)]
omit hv in
theorem cls_l0 : ∀ (d i : Nat), i + d = t.length → ∀ r, Ev (fun k => (loops_numbered_int.f ((List.range t.length).map (fun a : Nat => (nd t a).f0))).bind fun b => loops_classes.l1 k t b.1 b.2) r →
  Ev (fun k => loops_classes.l0 k t ((List.range i).map (fun a : Nat => (nd t a).f0)) t t.length (i : Int)) r
 | 0, i, h, r, hr => by
  have : i = t.length := by omega
  subst this
  refine Ev.step (fun k => ?_) hr
  simp only [loops_classes.l0]
  rw [if_neg (by omega)]
 | d + 1, i, h, r, hr => by
  have hi : i < t.length := by omega
  have ih := cls_l0 d (i + 1) (by omega) r hr
  refine Ev.step (f := fun k => loops_classes.l0 k t ((List.range (i + 1)).map (fun a : Nat => (nd t a).f0)) t t.length ((i + 1 : Nat) : Int)) (fun k => ?_) ih
  have hl : ((List.range i).map (fun a : Nat => (nd t a).f0)).length = i := by simp
  have c1 := castlt hi
  have e2 := w64s (j := i) (by omega)
  simp only [loops_classes.l0]
  rw [if_pos c1, if_pos (cast0 _), if_pos c1, if_pos (by rw [hl]; omega), e2, List.range_succ, List.map_append, List.map_singleton]
/-- The program's classes. -/
theorem classes_ev : ∃ r, Ev (fun k => loops_classes.f k t) r ∧ r.length = t.length ∧ (∀ i : Nat, i < t.length → 0 ≤ rd r i ∧ rd r i < t.length) ∧ ∀ i j : Nat, i < t.length → j < t.length → (rd r i = rd r j ↔ Same t i t j) := by
 obtain ⟨fs, f1, _, f3, f4, f5⟩ := numGo_spec ((List.range t.length).map (fun a : Nat => (nd t a).f0)) [] [] List.nodup_nil
 have hkl : ((List.range t.length).map (fun a : Nat => (nd t a).f0)).length = t.length := by simp
 have hkg : ∀ i : Nat, i < t.length → ((List.range t.length).map (fun a : Nat => (nd t a).f0)).getD i 0 = (nd t i).f0 := fun i hi => by
  rw [List.getD_eq_getElem?_getD, List.getElem?_eq_getElem (by simpa using hi)]
  simp
 have hmem : ∀ i : Nat, i < t.length → (nd t i).f0 ∈ fs := fun i hi => f3 _ (List.mem_map.2 ⟨i, List.mem_range.2 hi, rfl⟩)
 have hfs : ∀ x ∈ fs, ∃ i : Nat, i < t.length ∧ x = (nd t i).f0 := fun x hx => by
  rcases f4 x hx with h' | h'
  ·simp at h'
  ·obtain ⟨i, hi, rfl⟩ := List.mem_map.1 h'
   exact ⟨i, List.mem_range.1 hi, rfl⟩
 have hrd : ∀ i : Nat, i < t.length → rd (((List.range t.length).map (fun a : Nat => (nd t a).f0)).map (fun x => (numIx fs x : Int))) (i : Int) = (numIx fs (nd t i).f0 : Int) := fun i hi => by
  rw [rd_map _ _ 0 i (by rw [hkl]; exact hi), hkg i hi]
 have hfl : fs.length ≤ t.length := by
  have := nodup_sub_len f1 (fun x hx => (f4 x hx).resolve_left (by simp))
  rwa [hkl] at this
 have hker : ∀ i j : Nat, i < t.length → j < t.length → ((numIx fs (nd t i).f0 : Int) = (numIx fs (nd t j).f0 : Int) ↔ (nd t i).f0 = (nd t j).f0) := fun i j hi hj =>
  ⟨fun e => numIx_inj (hmem i hi) (hmem j hj) (by omega), fun e => by rw [e]⟩
 have hI : ClsI t (((List.range t.length).map (fun a : Nat => (nd t a).f0)).map (fun x => (numIx fs x : Int))) fs.length := by
  refine ⟨by simp, fun i hi => ?_, fun c hc => ?_, fun i j hi hj hs => ?_, fun i j hi hj e => ?_⟩
  ·rw [hrd i hi]
   have := numIx_lt (hmem i hi)
   omega
  ·obtain ⟨i, hi, e⟩ := hfs _ (List.getElem_mem hc)
   refine ⟨i, hi, ?_⟩
   rw [hrd i hi, ← e]
   have h2 : numIx fs fs[c] = c := (List.getElem_inj f1).1 (numIx_get (List.getElem_mem hc))
   rw [h2]
  ·rw [hrd i hi, hrd j hj, (same_iff.1 hs).1]
  ·rw [hrd i hi, hrd j hj, hker i j hi hj] at e
   exact e
 obtain ⟨r, r1, r2, r3, r4⟩ := cls_l1 hv hn (t.length - fs.length) _ fs.length (by omega) hI
 refine ⟨r, ?_, r2, r3, r4⟩
 have hnum : loops_numbered_int.f ((List.range t.length).map (fun a : Nat => (nd t a).f0)) = some (((List.range t.length).map (fun a : Nat => (nd t a).f0)).map (fun x => (numIx fs x : Int)), (fs.length : Int)) := by
  unfold loops_numbered_int.f
  rw [if_pos, f5]
  ·simp
  ·refine ⟨by simp; omega, List.all_eq_true.2 (fun x hx => ?_)⟩
   obtain ⟨i, hi, rfl⟩ := List.mem_map.1 hx
   obtain ⟨⟨k0, k1⟩, _⟩ := hv i (by omega) (by have := List.mem_range.1 hi; omega)
   unfold i64B
   exact decide_eq_true ⟨by omega, by omega⟩
 refine Ev.congr (f := fun k => loops_classes.l0 k t ((List.range 0).map (fun a : Nat => (nd t a).f0)) t t.length ((0 : Nat) : Int)) (fun k => rfl) (cls_l0 hn t.length 0 (by omega) r ?_)
 refine Ev.congr (fun k => ?_) r1
 rw [hnum, Option.bind_some]
end

/-- Where a list has a node that is equal to x first. -/
noncomputable def ixS (t : List S39) (ns : List Int) (x : Int) : Nat := ns.findIdx (fun y => sameB t y x)
noncomputable def reS (t : List S39) (ns : List Int) (x : Int) : List Int := if ixS t ns x < ns.length then ns else ns ++ [x]
noncomputable def canS (t : List S39) : Nat → List Int → Nat → List S39 → Option (List S39)
  | 0, _, _, _ => none
  | f + 1, ns, k, out =>
    if k < ns.length then
      (if 4 ≤ (nd t (rd ns k)).f0 then canS t f (reS t (reS t ns (nd t (rd ns k)).f1) (nd t (rd ns k)).f2) (k + 1)
        (out ++ [⟨(nd t (rd ns k)).f0, (ixS t (reS t ns (nd t (rd ns k)).f1) (nd t (rd ns k)).f1 : Int), (ixS t (reS t (reS t ns (nd t (rd ns k)).f1) (nd t (rd ns k)).f2) (nd t (rd ns k)).f2 : Int)⟩])
       else canS t f ns (k + 1) (out ++ [nd t (rd ns k)]))
    else some out
/-- Nodes of the list, no two equal. -/
def Apart (t : List S39) (ns : List Int) : Prop := (∀ x ∈ ns, 0 ≤ x ∧ x < t.length) ∧ ns.Pairwise (fun x y => ¬ Same t x t y)
theorem Apart.nodup {t : List S39} {ns : List Int} (h : Apart t ns) : ns.Nodup := h.2.imp (fun hs e => hs (by rw [e]; exact Same.refl _ _))
theorem Apart.len {t : List S39} {ns : List Int} (h : Apart t ns) : ns.length ≤ t.length := nodup_len t.length ns (-1) h.nodup (fun a ha => by have := h.1 a ha; omega)
section
variable {t : List S39} (hv : ∀ i : Int, 0 ≤ i → i < t.length → okN t i) (hn : t.length ≤ 100)
include hv hn
omit hv hn in
end

noncomputable def tyB (t : List S39) (m : Int) : Bool := @decide (IsTy t ∧ (t.length : Int) ≤ m) (Classical.propDecidable _)
theorem tyB_iff {t : List S39} {m : Int} : tyB t m = true ↔ IsTy t ∧ (t.length : Int) ≤ m := by
 unfold tyB
 exact @decide_eq_true_iff _ (Classical.propDecidable _)
theorem tyB_false {t : List S39} {m : Int} (h : ¬ (IsTy t ∧ (t.length : Int) ≤ m)) : tyB t m = false := by
 cases e : tyB t m with
 | false => rfl
 | true => exact absurd (tyB_iff.1 e) h
theorem tyB_not {t : List S39} {m : Int} {i : Nat} (hi : i < t.length) (h : ¬ okN t i) : tyB t m = false := tyB_false (fun hh => h (hh.1.2 i (by omega) (by omega)))
theorem within_eq (a b c : Int) : loops_within.f a b c = some (decide (b ≤ a ∧ a ≤ c)) := by
 unfold loops_within.f
 by_cases h : a ≥ b
 ·rw [if_pos h]
  by_cases h2 : a ≤ c
  ·rw [decide_eq_true h2, decide_eq_true ⟨h, h2⟩]
  ·rw [decide_eq_false h2, decide_eq_false (fun hh => h2 hh.2)]
 ·rw [if_neg h, decide_eq_false (fun hh => h hh.1)]
theorem areTypes_l0 {t : List S39} (h1 : 1 ≤ t.length) (hn : t.length ≤ 24) : ∀ (d i : Nat), i + d = t.length → (∀ j : Nat, j < i → okN t j) → Ev (fun k => loops_areTypes.l0 k t t t.length (i : Int)) (tyB t 24)
 | 0, i, h, ho => by
  refine Ev.step (fun k => ?_) (Ev.now (tyB t 24))
  simp only [loops_areTypes.l0]
  rw [if_neg (by omega), tyB_iff.2 ⟨⟨h1, fun j j0 j1 => by
   have := ho j.toNat (by omega)
   rwa [Int.toNat_of_nonneg j0] at this⟩, by omega⟩]
 | d + 1, i, h, ho => by
  have hi : i < t.length := by omega
  have z := cast0 i
  have hlt := castlt hi
  have hw : wrap64 ((t.length : Int) - 1) = (t.length : Int) - 1 := w64 (by omega) (by omega)
  obtain ⟨x5, hx5⟩ : ∃ x5, x5 = if 4 ≤ (nd t i).f0 then (t.length : Int) - 1 else 0 := ⟨_, rfl⟩
  have go : ∀ r, Ev (fun k => loops_areTypes.j1 k t x5 t t.length (i : Int) (nd t i).f0 (nd t i).f1 (nd t i).f2) r → (0 ≤ (nd t i).f0 → (nd t i).f0 ≤ 5 → Ev (fun k => loops_areTypes.l0 k t t t.length (i : Int)) r) := fun r hr f0 f5 => by
   refine Ev.step (fun k => ?_) hr
   simp only [loops_areTypes.l0]
   rw [if_pos hlt, if_pos z, if_pos hlt, hw]
   by_cases c : 4 ≤ (nd t i).f0
   ·rw [if_pos c] at hx5
    have : loops_hasParts.f (rd_T39 t i).f0 (rd_T39 t i).f1 (rd_T39 t i).f2 = some true := by
     unfold loops_hasParts.f
     by_cases c4 : (nd t i).f0 = 4
     ·rw [if_pos c4]
     ·have c5 : (nd t i).f0 = 5 := by omega
      rw [if_neg c4, beq_iff_eq.2 c5]
    rw [this, Option.bind_some, if_pos rfl, hx5]
   ·rw [if_neg c] at hx5
    have : loops_hasParts.f (rd_T39 t i).f0 (rd_T39 t i).f1 (rd_T39 t i).f2 = some false := by
     unfold loops_hasParts.f
     have c4 : ¬ (rd_T39 t i).f0 = 4 := fun e => c (by rw [e]; decide)
     have c5 : ¬ (rd_T39 t i).f0 = 5 := fun e => c (by rw [e]; decide)
     rw [if_neg c4, beq_eq_false_iff_ne.2 c5]
    rw [this, Option.bind_some, if_neg (by decide), hx5]
  have z5 : 0 ≤ x5 := by rw [hx5]; split <;> omega
  by_cases hok : okN t i
  ·have ih := areTypes_l0 h1 hn d (i + 1) (by omega) (fun j hj => by
    by_cases e : j = i
    ·rw [e]; exact hok
    ·exact ho j (by omega))
   obtain ⟨⟨k0, k1⟩, k2, ⟨a0, a1⟩, ⟨b0, b1⟩⟩ := hok
   refine go _ ?_ k0 k1
   refine Ev.step (f := fun k => loops_areTypes.l0 k t t t.length ((i + 1 : Nat) : Int)) (fun k => ?_) ih
   have e2 := w64s (j := i) (by omega)
   have q1 : (nd t i).f1 ≤ x5 := by rw [hx5]; split <;> omega
   have q2 : (nd t i).f2 ≤ x5 := by rw [hx5]; split <;> omega
   simp only [loops_areTypes.j1]
   rw [within_eq, decide_eq_true ⟨k0, k1⟩, within_eq, decide_eq_true ⟨a0, q1⟩, within_eq, decide_eq_true ⟨b0, q2⟩, e2]
   rfl
  ·rw [tyB_not hi hok]
   by_cases hk : 0 ≤ (nd t i).f0 ∧ (nd t i).f0 ≤ 5
   ·refine go _ ?_ hk.1 hk.2
    refine Ev.step (fun k => ?_) (Ev.now false)
    simp only [loops_areTypes.j1]
    rw [within_eq, decide_eq_true hk, Option.bind_some, if_pos rfl, within_eq]
    by_cases c1 : 0 ≤ (nd t i).f1 ∧ (nd t i).f1 ≤ x5
    ·rw [decide_eq_true c1, Option.bind_some, if_pos rfl, within_eq]
     by_cases c2 : 0 ≤ (nd t i).f2 ∧ (nd t i).f2 ≤ x5
     ·exfalso
      apply hok
      have q : ¬ 4 ≤ (nd t i).f0 → x5 = 0 := fun c => by rw [hx5, if_neg c]
      have q' : x5 ≤ (t.length : Int) - 1 := by rw [hx5]; split <;> omega
      refine ⟨hk, fun h => ⟨?_, ?_⟩, ⟨?_, ?_⟩, ⟨?_, ?_⟩⟩ <;> omega
     ·rw [decide_eq_false c2]
      rfl
    ·rw [decide_eq_false c1]
     rfl
   ·-- a kind that is none: both ways end so
    refine Ev.step (f := fun k => loops_areTypes.j1 k t (if (nd t i).f0 = 4 ∨ (nd t i).f0 = 5 then (t.length : Int) - 1 else 0) t t.length (i : Int) (nd t i).f0 (nd t i).f1 (nd t i).f2) (fun k => ?_) (Ev.step (fun k => ?_) (Ev.now false))
    ·simp only [loops_areTypes.l0]
     have c4 : ¬ (rd_T39 t i).f0 = 4 := fun e => hk ⟨by show 0 ≤ (rd_T39 t i).f0; omega, by show (rd_T39 t i).f0 ≤ 5; omega⟩
     have c5 : ¬ (rd_T39 t i).f0 = 5 := fun e => hk ⟨by show 0 ≤ (rd_T39 t i).f0; omega, by show (rd_T39 t i).f0 ≤ 5; omega⟩
     have : loops_hasParts.f (rd_T39 t i).f0 (rd_T39 t i).f1 (rd_T39 t i).f2 = some false := by
      unfold loops_hasParts.f
      rw [if_neg c4, beq_eq_false_iff_ne.2 c5]
     rw [if_pos hlt, if_pos z, if_pos hlt, this, Option.bind_some, if_neg (by decide), if_neg (show ¬ ((nd t i).f0 = 4 ∨ (nd t i).f0 = 5) from fun h => h.elim c4 c5)]
    ·simp only [loops_areTypes.j1]
     rw [within_eq, decide_eq_false hk]
     rfl
theorem areTypes_ev {t : List S39} (hn : t.length ≤ 1000) : Ev (fun k => loops_areTypes.f k t) (tyB t 24) := by
 unfold loops_areTypes.f
 simp only [within_eq]
 by_cases c : 1 ≤ (t.length : Int) ∧ (t.length : Int) ≤ 24
 ·refine Ev.congr (fun k => ?_) (areTypes_l0 (by omega) (by omega) t.length 0 (by omega) (fun j hj => by omega))
  rw [decide_eq_true c]
  rfl
 ·rw [tyB_false (fun hh => c ⟨by have := hh.1.1; omega, hh.2⟩)]
  refine Ev.congr (fun k => ?_) (Ev.now false)
  rw [decide_eq_false c]
  rfl
/-- All of some nodes lie in a list. -/
def inB (t : List S39) (is : List Int) : Bool := is.all (fun i => decide (0 ≤ i ∧ i < t.length))
theorem areNodes_ev {t : List S39} (hn : t.length ≤ 1000) (is : List Int) : Ev (fun k => loops_areNodes.f k t is) (tyB t 24 && inB t is) := by
 unfold loops_areNodes.f
 refine Ev.bind (f := fun k (b : Bool) => if b = true then some (!(is.any (badNode t.length))) else some false) (areTypes_ev hn) ?_
 refine Ev.congr (fun k => ?_) (Ev.now _)
 cases tyB t 24 with
 | false => rfl
 | true =>
  rw [if_pos rfl, Bool.true_and]
  congr 1
  unfold inB
  rw [List.not_any_eq_all_not]
  congr 1
  funext i
  unfold badNode
  rw [Bool.not_not]
  apply decide_eq_decide.2
  omega
/-- The canonical list. -/
noncomputable def canL (t : List S39) (i : Int) : List S39 := (canS t 200 [i] 0 []).getD []
theorem inB_two {t : List S39} {i j : Int} : inB t [i, j] = true ↔ (0 ≤ i ∧ i < t.length) ∧ (0 ≤ j ∧ j < t.length) := by simp [inB]
theorem Equal_ev {t : List S39} (hn : t.length ≤ 1000) (i j : Int) : Ev (fun k => loops_Equal.f k t i j) (if (tyB t 24 && inB t [i, j]) = true then (sameB t i j, 0) else (false, 2)) := by
 unfold loops_Equal.f
 refine Ev.bind (f := fun k (b : Bool) => if b = true then ((loops_classes.f k t).bind fun cs => (if 0 ≤ i then (if i < (cs.length : Int) then (if 0 ≤ j then (if j < (cs.length : Int) then (some (((rd cs i) == (rd cs j)), (0 : Int))) else (none)) else (none)) else (none)) else (none))) else (some (false, 2))) (areNodes_ev hn [i, j]) ?_
 cases h : (tyB t 24 && inB t [i, j]) with
 | false => exact Ev.now _
 | true =>
  rw [Bool.and_eq_true] at h
  obtain ⟨⟨i0, i1⟩, ⟨j0, j1⟩⟩ := inB_two.1 h.2
  obtain ⟨⟨h1, hv⟩, hl⟩ := tyB_iff.1 h.1
  obtain ⟨cs, c1, c2, c3, c4⟩ := classes_ev hv (by omega)
  simp only [if_pos]
  refine Ev.bind (f := fun k (cs : List Int) => (if 0 ≤ i then (if i < (cs.length : Int) then (if 0 ≤ j then (if j < (cs.length : Int) then (some (((rd cs i) == (rd cs j)), (0 : Int))) else (none)) else (none)) else (none)) else (none))) c1 (Ev.congr (fun k => ?_) (Ev.now _))
  rw [if_pos i0, if_pos (by rw [c2]; exact i1), if_pos j0, if_pos (by rw [c2]; exact j1)]
  have hs := c4 i.toNat j.toNat (by omega) (by omega)
  rw [Int.toNat_of_nonneg i0, Int.toNat_of_nonneg j0] at hs
  congr 2
  cases e : sameB t i j with
  | true => exact beq_iff_eq.2 (hs.2 (sameB_iff.1 e))
  | false => exact beq_eq_false_iff_ne.2 (fun hh => by rw [sameB_iff.2 (hs.1 hh)] at e; cases e)
end Go.Proofs.Ytnfmeafiaipplaa.P

namespace Go.Proofs.Ytnfmeafiaipplaa.P
open Go.RowKit Go.Proofs.Ytnfmeafiaipplaa.S Go.Proofs.Ytnfmeafiaipplaa.Lib Go.Proofs.YtnfmeafiaipplaaW.PrintWords
set_option linter.unusedVariables false
def awT : List S39 := [(⟨4, 1, 0⟩ : S39), (⟨2, 0, 0⟩ : S39), (⟨3, 0, 0⟩ : S39), (⟨5, 4, 1⟩ : S39), (⟨1, 0, 0⟩ : S39), (⟨5, 1, 4⟩ : S39)]
theorem aw_can : loops_Canonical.f 40 awT 0 = some ([⟨4, 1, 0⟩, ⟨2, 0, 0⟩], 0) := by kernel_rfl
theorem aw_dep3 : loops_Depth.f 40 awT 3 = some (1, 0) := by kernel_rfl
theorem aw_dep0 : loops_Depth.f 40 awT 0 = some (0, 6) := by kernel_rfl
theorem aw_sub12 : (loops_Sub.f 40 awT 1 2).map (fun x => (x.1, x.2.2)) = some (false, ByteArray.empty, 0) := by kernel_rfl
theorem aw_sub35 : (loops_Sub.f 40 awT 3 5).map (fun x => (x.1, x.2.2.2)) = some (true, 0) := by kernel_rfl
theorem aw_types : tickinglaw06_types.f 40 [(⟨4, 1, 0⟩ : S39), ⟨2, 0, 0⟩] [(⟨4, 1, 0⟩ : S39), ⟨2, 0, 0⟩] = some true := by kernel_rfl
theorem aw_empty : ByteArray.empty.toList = ([] : List UInt8) := by
 unfold ByteArray.toList ByteArray.toList.loop
 rfl
theorem awake_40 : tickinglaw06_awake.f 40 = some true := by
 obtain ⟨x, hx, ex⟩ := Option.map_eq_some_iff.1 aw_sub12
 obtain ⟨y, hy, ey⟩ := Option.map_eq_some_iff.1 aw_sub35
 obtain ⟨x1, x2⟩ := Prod.mk.inj ex
 obtain ⟨x3, x4⟩ := Prod.mk.inj x2
 obtain ⟨y1, y2⟩ := Prod.mk.inj ey
 unfold tickinglaw06_awake.f
 rw [Option.bind_some]
 show ((loops_Sub.f 40 awT 1 2).bind fun bt170 => ((loops_Sub.f 40 awT 3 5).bind fun bt177 => ((loops_Canonical.f 40 awT 0).bind fun bt184 => ((loops_Depth.f 40 awT 3).bind fun bt188 => ((loops_Depth.f 40 awT 0).bind fun bt190 => _))))) = some true
 rw [hx, hy, aw_can, aw_dep3, aw_dep0]
 simp only [Option.bind_some]
 rw [if_pos x4, if_neg (by rw [x1]; decide), if_pos (by rw [x3]; exact aw_empty), if_pos y2, if_pos y1]
 simp only [if_true, aw_types, Option.bind_some]
 rfl
theorem awake_ev : Ev (fun k => tickinglaw06_awake.f k) true := Ev.of (fun k => tickinglaw06_awake.mono k) awake_40
end Go.Proofs.Ytnfmeafiaipplaa.P

namespace Go.Proofs.Ytnfmeafiaipplaa.P
open Go.RowKit Go.Proofs.Ytnfmeafiaipplaa.S Go.Proofs.Ytnfmeafiaipplaa.Lib Go.Proofs.YtnfmeafiaipplaaW.PrintWords
set_option linter.unusedVariables false
set_option linter.unusedSectionVars false

theorem u64_nonneg (a : Int) : 0 ≤ IntKind.u64.wrap a := by
 simp [IntKind.wrap, IntKind.signed, IntKind.bits]
 omega
theorem u64_id {a : Int} (h0 : 0 ≤ a) (h1 : a ≤ 1000000) : IntKind.u64.wrap a = a := by
 simp [IntKind.wrap, IntKind.signed, IntKind.bits]
 omega
theorem mod_ok (a : Int) {b : Int} (b1 : 1 ≤ b) (b2 : b ≤ 1000) : ∃ m, tickinglaw06_mod.f a b = some m ∧ 0 ≤ m ∧ m < b := by
 unfold tickinglaw06_mod.f
 rw [u64_id (by omega) (by omega), if_neg (by omega), Int.tmod_eq_emod_of_nonneg (u64_nonneg a)]
 have h0 := Int.emod_nonneg (IntKind.u64.wrap a) (show b ≠ 0 by omega)
 have h1 := Int.emod_lt_of_pos (IntKind.u64.wrap a) (show 0 < b by omega)
 rw [w64 (by omega) (by omega)]
 exact ⟨_, rfl, h0, h1⟩
/-- A node in order, of a list that will have n. -/
def okV (n : Int) (x : S39) : Prop := (0 ≤ x.f0 ∧ x.f0 ≤ 5) ∧ (x.f0 < 4 → x.f1 = 0 ∧ x.f2 = 0) ∧ (0 ≤ x.f1 ∧ x.f1 < n) ∧ (0 ≤ x.f2 ∧ x.f2 < n)
theorem ty_of {t : List S39} (h1 : 1 ≤ t.length) (h : ∀ x ∈ t, okV t.length x) : IsTy t := ⟨h1, fun i i0 i1 => by
 have hi : i.toNat < t.length := by omega
 have := h _ (List.getElem_mem hi)
 have e : nd t i = t[i.toNat] := by
  unfold nd rd_T39
  rw [List.getD_eq_getElem?_getD, List.getElem?_eq_getElem hi, Option.getD_some]
 unfold okN
 rw [e]
 exact this⟩
theorem tame_l0 (l : List S39) {n : Nat} (n1 : 1 ≤ n) (n2 : n ≤ 1000) : ∀ (d i : Nat) (out : List S39), i + d = n → out.length = i → (∀ x ∈ out, okV n x) → ∃ r, Ev (fun k => tickinglaw06_tame.l0 k l n out (i : Int)) r ∧ r.length = n ∧ ∀ x ∈ r, okV n x
 | 0, i, out, h, ho, hx => ⟨out, Ev.step (fun k => by
   simp only [tickinglaw06_tame.l0]
   rw [if_neg (by omega)]) (Ev.now out), by omega, hx⟩
 | d + 1, i, out, h, ho, hx => by
  have hb : out.length < 5864062014805 := by omega
  have hin : (i : Int) < (n : Int) := by omega
  have add : ∀ x, okV n x → ∀ y ∈ out ++ [x], okV n y := fun x hxx y hy => by
   rcases List.mem_append.1 hy with hy | hy
   ·exact hx y hy
   ·simp at hy
    rw [hy]; exact hxx
  have e2 := w64s (j := i) (by omega)
  by_cases c : (i : Int) < (l.length : Int)
  ·obtain ⟨a, ha, a0, a1⟩ := mod_ok ((rd_T39 l i).f0) (b := 6) (by omega) (by omega)
   by_cases c4 : a ≥ 4
   ·obtain ⟨b, hb1, b0, b1⟩ := mod_ok ((rd_T39 l i).f1) (b := n) (by omega) (by omega)
    obtain ⟨e, he1, e0, e1⟩ := mod_ok ((rd_T39 l i).f2) (b := n) (by omega) (by omega)
    obtain ⟨r, r1, r2⟩ := tame_l0 l n1 n2 d (i + 1) (out ++ [⟨a, b, e⟩]) (by omega) (by simp [ho]) (add _ ⟨⟨a0, show a ≤ 5 by omega⟩, fun h4 => by have : a < 4 := h4; omega, ⟨b0, b1⟩, ⟨e0, e1⟩⟩)
    refine ⟨r, Ev.step (f := fun k => tickinglaw06_tame.l0 k l n (out ++ [⟨a, b, e⟩]) ((i + 1 : Nat) : Int)) (fun k => ?_) r1, r2⟩
    simp only [tickinglaw06_tame.l0]
    rw [if_pos hin, if_pos c, if_pos (cast0 _), ha, Option.bind_some, if_pos c4, hb1, Option.bind_some, he1, Option.bind_some, if_pos hb, e2]
   ·obtain ⟨r, r1, r2⟩ := tame_l0 l n1 n2 d (i + 1) (out ++ [⟨a, 0, 0⟩]) (by omega) (by simp [ho]) (add _ ⟨⟨a0, show a ≤ 5 by omega⟩, fun _ => ⟨rfl, rfl⟩, ⟨Int.le_refl _, show (0 : Int) < n by omega⟩, ⟨Int.le_refl _, show (0 : Int) < n by omega⟩⟩)
    refine ⟨r, Ev.step (f := fun k => tickinglaw06_tame.l0 k l n (out ++ [⟨a, 0, 0⟩]) ((i + 1 : Nat) : Int)) (fun k => ?_) r1, r2⟩
    simp only [tickinglaw06_tame.l0]
    rw [if_pos hin, if_pos c, if_pos (cast0 _), ha, Option.bind_some, if_neg c4, if_pos hb, e2]
  ·obtain ⟨r, r1, r2⟩ := tame_l0 l n1 n2 d (i + 1) (out ++ [⟨0, 0, 0⟩]) (by omega) (by simp [ho]) (add _ ⟨⟨Int.le_refl _, by show (0 : Int) ≤ 5; decide⟩, fun _ => ⟨rfl, rfl⟩, ⟨Int.le_refl _, show (0 : Int) < n by omega⟩, ⟨Int.le_refl _, show (0 : Int) < n by omega⟩⟩)
   refine ⟨r, Ev.step (f := fun k => tickinglaw06_tame.l0 k l n (out ++ [⟨0, 0, 0⟩]) ((i + 1 : Nat) : Int)) (fun k => ?_) r1, r2⟩
   simp only [tickinglaw06_tame.l0]
   rw [if_pos hin, if_neg c, if_pos hb, e2]
theorem tame_ev (l : List S39) {m : Int} (m1 : 1 ≤ m) (m2 : m ≤ 24) : ∃ t, Ev (fun k => tickinglaw06_tame.f k l m) t ∧ IsTy t ∧ (t.length : Int) ≤ m := by
 obtain ⟨q, hq, q0, q1⟩ := mod_ok (wrap64 ((l.length : Int) - 1)) (b := m) m1 (by omega)
 have hw : wrap64 (1 + q) = ((q.toNat + 1 : Nat) : Int) := by
  rw [w64 (by omega) (by omega)]
  omega
 obtain ⟨t, t1, t2, t3⟩ := tame_l0 l (n := q.toNat + 1) (by omega) (by omega) (q.toNat + 1) 0 [] (by omega) rfl (fun x hx => by simp at hx)
 refine ⟨t, ?_, ty_of (by omega) (by rw [t2]; exact t3), by omega⟩
 unfold tickinglaw06_tame.f
 rw [hq]
 simp only [Option.bind_some, hw]
 exact t1

/-- What a relation of subtypes must bear, at two nodes. -/
def Stp (t : List S39) (R : Int → Int → Prop) (i j : Int) : Prop :=
  ((nd t i).f0 = 0 ∨ (nd t j).f0 = 1) ∨ ((nd t i).f0 = (nd t j).f0 ∧ ((nd t i).f0 = 4 → R (nd t i).f1 (nd t j).f1 ∧ R (nd t i).f2 (nd t j).f2) ∧ ((nd t i).f0 = 5 → R (nd t j).f1 (nd t i).f1 ∧ R (nd t i).f2 (nd t j).f2))
theorem Stp.mono {t : List S39} {R R' : Int → Int → Prop} {i j : Int} (h : Stp t R i j) (hR : ∀ a b, R a b → R' a b) : Stp t R' i j := by
  rcases h with h | ⟨h1, h2, h3⟩
  · exact .inl h
  · exact .inr ⟨h1, fun c => ⟨hR _ _ (h2 c).1, hR _ _ (h2 c).2⟩, fun c => ⟨hR _ _ (h3 c).1, hR _ _ (h3 c).2⟩⟩
def SubC (t : List S39) (i j : Int) : Prop := ∃ R : Int → Int → Prop, (∀ a b, R a b → Stp t R a b) ∧ R i j
theorem SubC.step {t : List S39} {i j : Int} (h : SubC t i j) : Stp t (SubC t) i j := by
  obtain ⟨R, h1, h2⟩ := h
  exact (h1 i j h2).mono (fun a b hab => ⟨R, h1, hab⟩)
theorem SubC.of_same {t : List S39} {i j : Int} (h : Same t i t j) : SubC t i j :=
  ⟨fun a b => Same t a t b, fun a b hab => .inr ⟨(same_iff.1 hab).1, fun c => (same_iff.1 hab).2 (by omega), fun c => ⟨((same_iff.1 hab).2 (by omega)).1.symm, ((same_iff.1 hab).2 (by omega)).2⟩⟩, h⟩
theorem SubC.refl (t : List S39) (i : Int) : SubC t i i := .of_same (Same.refl t i)
theorem SubC.bot {t : List S39} {i j : Int} (h : (nd t i).f0 = 0 ∨ (nd t j).f0 = 1) : SubC t i j :=
  ⟨fun a b => (nd t a).f0 = 0 ∨ (nd t b).f0 = 1, fun a b hab => .inl hab, h⟩
theorem SubC.trans {t : List S39} {i j k : Int} (h : SubC t i j) (h' : SubC t j k) : SubC t i k := by
  refine ⟨fun a c => ∃ b, SubC t a b ∧ SubC t b c, ?_, j, h, h'⟩
  rintro a c ⟨b, h1, h2⟩
  rcases h1.step with (p | p) | ⟨p1, p2, p3⟩
  · exact .inl (.inl p)
  · rcases h2.step with (q | q) | ⟨q1, _, _⟩
    · omega
    · exact .inl (.inr q)
    · exact .inl (.inr (by omega))
  · rcases h2.step with (q | q) | ⟨q1, q2, q3⟩
    · exact .inl (.inl (by omega))
    · exact .inl (.inr q)
    · exact .inr ⟨by omega, fun c => ⟨⟨_, (p2 c).1, (q2 (by omega)).1⟩, ⟨_, (p2 c).2, (q2 (by omega)).2⟩⟩, fun c => ⟨⟨_, (q3 (by omega)).1, (p3 c).1⟩, ⟨_, (p3 c).2, (q3 (by omega)).2⟩⟩⟩
theorem SubC.anti {t : List S39} (hv : ∀ i : Int, 0 ≤ i → i < t.length → okN t i) {i j : Int} (i0 : 0 ≤ i) (i1 : i < t.length) (j0 : 0 ≤ j) (j1 : j < t.length) (h : SubC t i j) (h' : SubC t j i) : Same t i t j := by
  refine same_closed (t := t) (t' := t) (fun a b => (0 ≤ a ∧ a < t.length) ∧ (0 ≤ b ∧ b < t.length) ∧ SubC t a b ∧ SubC t b a) ?_ i j ⟨⟨i0, i1⟩, ⟨j0, j1⟩, h, h'⟩
  rintro a b ⟨ha, hb, h1, h2⟩
  obtain ⟨⟨k0, k1⟩, _, pa, qa⟩ := hv a ha.1 ha.2
  obtain ⟨⟨l0, l1⟩, _, pb, qb⟩ := hv b hb.1 hb.2
  have s1 := h1.step
  have s2 := h2.step
  have e : (nd t a).f0 = (nd t b).f0 := by
    rcases s1 with p | ⟨p, _, _⟩
    · rcases s2 with q | ⟨q, _, _⟩
      · omega
      · omega
    · exact p
  refine ⟨e, fun c => ?_⟩
  rcases s1 with p | ⟨_, p2, p3⟩
  · omega
  · rcases s2 with q | ⟨_, q2, q3⟩
    · omega
    · by_cases c4 : (nd t a).f0 = 4
      · exact ⟨⟨pa, pb, (p2 c4).1, (q2 (by omega)).1⟩, ⟨qa, qb, (p2 c4).2, (q2 (by omega)).2⟩⟩
      · have c5 : (nd t a).f0 = 5 := by omega
        exact ⟨⟨pa, pb, (q3 (by omega)).1, (p3 c5).1⟩, ⟨qa, qb, (p3 c5).2, (q3 (by omega)).2⟩⟩
theorem stp_needs {t : List S39} (hv : ∀ i : Int, 0 ≤ i → i < t.length → okN t i) {i j : Int} (i0 : 0 ≤ i) (i1 : i < t.length) {R : Int → Int → Prop} : Stp t R i j ↔ ∃ m, needsF (nd t i) (nd t j) = some m ∧ ∀ c q, needGet m c = some q → R (s23 q).f0 (s23 q).f1 := by
  obtain ⟨⟨k0, k1⟩, _⟩ := hv i i0 i1
  unfold needsF Stp
  by_cases c0 : (nd t i).f0 = 0 ∨ (nd t j).f0 = 1
  · rw [if_pos c0]
    exact ⟨fun _ => ⟨none, rfl, fun c q h => by cases h⟩, fun _ => .inl c0⟩
  · rw [if_neg c0]
    by_cases c1 : (nd t i).f0 = (nd t j).f0
    · rw [if_neg (by simpa using c1)]
      by_cases c4 : (nd t i).f0 = 4
      · rw [if_pos c4]
        constructor
        · rintro (h | ⟨_, h, _⟩)
          · exact absurd h c0
          · refine ⟨_, rfl, fun c q hq => ?_⟩
            simp only [needGet] at hq
            split at hq
            · cases hq; exact (h c4).1
            · split at hq
              · cases hq; exact (h c4).2
              · cases hq
        · rintro ⟨m, hm, h⟩
          cases hm
          exact .inr ⟨c1, fun _ => ⟨h 97 _ rfl, h 98 _ rfl⟩, fun c5 => by omega⟩
      · rw [if_neg c4]
        by_cases c5 : (nd t i).f0 = 5
        · rw [if_pos c5]
          constructor
          · rintro (h | ⟨_, _, h⟩)
            · exact absurd h c0
            · refine ⟨_, rfl, fun c q hq => ?_⟩
              simp only [needGet] at hq
              split at hq
              · cases hq; exact (h c5).1
              · split at hq
                · cases hq; exact (h c5).2
                · cases hq
          · rintro ⟨m, hm, h⟩
            cases hm
            exact .inr ⟨c1, fun c4' => absurd c4' c4, fun _ => ⟨h 97 _ rfl, h 98 _ rfl⟩⟩
        · rw [if_neg c5]
          exact ⟨fun _ => ⟨none, rfl, fun c q h => by cases h⟩, fun _ => .inr ⟨c1, fun c => absurd c c4, fun c => absurd c c5⟩⟩
    · rw [if_pos c1]
      constructor
      · rintro (h | ⟨h, _⟩)
        · exact absurd h c0
        · exact absurd h c1
      · rintro ⟨m, hm, _⟩
        cases hm
def inP (t : List S39) (p : S23) : Prop := (0 ≤ p.f0 ∧ p.f0 < t.length) ∧ (0 ≤ p.f1 ∧ p.f1 < t.length)
theorem l23_inj {p q : S23} (h : l23 p = l23 q) : p = q := by
  obtain ⟨a, b⟩ := p
  obtain ⟨c, d⟩ := q
  simp [l23] at h
  rw [h.1, h.2]
theorem hasK_cons (bs : Bad) (k : List Int) (c : Int) (q : List Int) : hasK ((k, c) :: bs) q = (q == k || hasK bs q) := by
  unfold hasK
  rw [List.lookup_cons]
  cases h : q == k <;> simp
theorem letOf_cons (bs : Bad) (k : List Int) (c : Int) (q : List Int) : letOf ((k, c) :: bs) q = if q = k then c else letOf bs q := by
  unfold letOf
  rw [List.lookup_cons]
  by_cases h : q = k
  · rw [if_pos h, h]
    simp
  · rw [if_neg h, beq_eq_false_iff_ne.2 h]
/-- Why a pair is refuted, by a list. -/
def Why (t : List S39) (bs : Bad) (p : S23) (c : Int) : Prop :=
  (c = 0 ∧ needsF (nd t p.f0) (nd t p.f1) = none) ∨ ((c = 97 ∨ c = 98) ∧ ∃ m q, needsF (nd t p.f0) (nd t p.f1) = some m ∧ needGet m c = some q ∧ hasK bs q = true)
inductive Rk (t : List S39) : Bad → Prop where
  | nil : Rk t []
  | cons (p : S23) (c : Int) (bs : Bad) : Rk t bs → inP t p → hasK bs (l23 p) = false → Why t bs p c → Rk t ((l23 p, c) :: bs)
theorem need_inP {t : List S39} (hv : ∀ i : Int, 0 ≤ i → i < t.length → okN t i) {p : S23} (hp : inP t p) {m : Option (List Int × List Int)} (hm : needsF (nd t p.f0) (nd t p.f1) = some m) {c : Int} {q : List Int} (hq : needGet m c = some q) : q = l23 (s23 q) ∧ inP t (s23 q) := by
  obtain ⟨_, _, a1, b1⟩ := hv _ hp.1.1 hp.1.2
  obtain ⟨_, _, a2, b2⟩ := hv _ hp.2.1 hp.2.2
  unfold needsF at hm
  repeat' split at hm
  all_goals first
    | (cases hm; done)
    | (cases hm; cases hq; done)
    | (cases hm; simp only [needGet] at hq; split at hq
       · cases hq; exact ⟨rfl, by first | exact ⟨a1, a2⟩ | exact ⟨a2, a1⟩⟩
       · split at hq
         · cases hq; exact ⟨rfl, ⟨b1, b2⟩⟩
         · cases hq)
theorem Rk.sound {t : List S39} (hv : ∀ i : Int, 0 ≤ i → i < t.length → okN t i) {bs : Bad} (h : Rk t bs) : ∀ p : S23, hasK bs (l23 p) = true → ¬ SubC t p.f0 p.f1 := by
  induction h with
  | nil => intro p hp; cases hp
  | cons p c bs hr hin hno hw ih =>
    intro x hx hs
    rw [hasK_cons, Bool.or_eq_true] at hx
    rcases hx with hx | hx
    · have e := l23_inj (beq_iff_eq.1 hx)
      subst e
      obtain ⟨m, hm, hall⟩ := (stp_needs hv hin.1.1 hin.1.2).1 hs.step
      rcases hw with ⟨_, hn⟩ | ⟨_, m', q, hm', hq, hb⟩
      · rw [hn] at hm; cases hm
      · rw [hm] at hm'
        cases hm'
        have := (need_inP hv hin hm hq).1
        exact ih (s23 q) (by rw [← this]; exact hb) (hall c q hq)
    · exact ih x hx hs
theorem Rk.let_suf {t : List S39} {suf : Bad} {k : List Int} (hk : hasK suf k = true) : ∀ {pre : Bad}, Rk t (pre ++ suf) → letOf (pre ++ suf) k = letOf suf k
  | [], _ => rfl
  | x :: pre, h => by
    cases h with
    | cons p c bs hr hin hno hw =>
      have hin2 : hasK (pre ++ suf) k = true := by
        clear hno hr hw
        induction pre with
        | nil => exact hk
        | cons y pre ih =>
          obtain ⟨a, b⟩ := y
          rw [List.cons_append, hasK_cons, ih, Bool.or_true]
      have hno' : hasK (pre ++ suf) (l23 p) = false := hno
      rw [List.cons_append, letOf_cons, if_neg (fun e => by rw [e, hno'] at hin2; cases hin2)]
      exact Rk.let_suf hk hr
theorem Rk.suf {t : List S39} {suf : Bad} : ∀ {pre : Bad}, Rk t (pre ++ suf) → Rk t suf
  | [], h => h
  | x :: pre, h => by
    cases h with
    | cons p c bs hr hin hno hw => exact Rk.suf hr
/-- A path ends. -/
theorem path_ok {t : List S39} (hv : ∀ i : Int, 0 ≤ i → i < t.length → okN t i) {bad : Bad} (hR : Rk t bad) : ∀ (suf pre : Bad) (p : S23) (f : Nat) (path : ByteArray), bad = pre ++ suf → hasK suf (l23 p) = true → suf.length ≤ f → ∃ r, pathGo t bad f p path = some r
  | [], _, _, _, _, _, h, _ => by cases h
  | (k, c) :: suf, pre, p, f, path, e, h, hf => by
    obtain ⟨f, rfl⟩ : ∃ g, f = g + 1 := ⟨f - 1, by simp at hf; omega⟩
    have hf' : suf.length ≤ f := by simpa using hf
    by_cases hk : l23 p = k
    · have hR' := hR
      rw [e] at hR'
      have hl : letOf bad (l23 p) = c := by
        rw [e, Rk.let_suf h hR', letOf_cons, if_pos hk]
      cases Rk.suf hR' with
      | cons p' c' bs hr hin hno hw =>
        have := l23_inj hk
        subst this
        unfold pathGo
        rw [hl]
        rcases hw with ⟨rfl, _⟩ | ⟨hc, m, q, hm, hq, hb⟩
        · exact ⟨path, if_pos rfl⟩
        · rw [if_neg (by omega), if_pos ⟨hc, hin⟩]
          obtain ⟨q1, q2⟩ := need_inP hv hin hm hq
          have hm' : needsF (rd_T39 t p.f0) (rd_T39 t p.f1) = some m := hm
          rw [hm', Option.getD_some, hq]
          exact path_ok hv hR suf (pre ++ [(l23 p, c)]) (s23 q) f _ (by rw [e]; simp) (by rw [← q1]; exact hb) hf'
    · refine path_ok hv hR suf (pre ++ [(k, c)]) p (f + 1) path (by rw [e]; simp) ?_ (by omega)
      rw [hasK_cons, Bool.or_eq_true] at h
      exact h.resolve_left (fun hh => hk (beq_iff_eq.1 hh))
/-- All pairs of nodes. -/
def allP (t : List S39) : List (List Int) := (List.range t.length).flatMap (fun i : Nat => (List.range t.length).map (fun j : Nat => [(i : Int), (j : Int)]))
theorem sum_const (n : Nat) : ∀ l : List Nat, (l.map (fun _ => n)).sum = l.length * n
  | [] => by simp
  | a :: l => by rw [List.map_cons, List.sum_cons, sum_const n l, List.length_cons, Nat.succ_mul, Nat.add_comm]
theorem allP_len (t : List S39) : (allP t).length = t.length * t.length := by
  unfold allP
  rw [List.length_flatMap]
  simp only [List.length_map, List.length_range]
  rw [sum_const, List.length_range]
theorem allP_mem {t : List S39} {p : S23} (h : inP t p) : l23 p ∈ allP t := by
  unfold allP
  refine List.mem_flatMap.2 ⟨p.f0.toNat, List.mem_range.2 (by have := h.1; omega), List.mem_map.2 ⟨p.f1.toNat, List.mem_range.2 (by have := h.2; omega), ?_⟩⟩
  unfold l23
  rw [Int.toNat_of_nonneg h.1.1, Int.toNat_of_nonneg h.2.1]
theorem Rk.keys {t : List S39} {bs : Bad} (h : Rk t bs) : (bs.map (·.1)).Nodup ∧ (∀ k ∈ bs.map (·.1), k ∈ allP t) ∧ ∀ k, k ∈ bs.map (·.1) ↔ hasK bs k = true := by
  induction h with
  | nil => exact ⟨List.nodup_nil, fun k hk => by simp at hk, fun k => ⟨fun hk => by simp at hk, fun hk => by cases hk⟩⟩
  | cons p c bs hr hin hno hw ih =>
    refine ⟨?_, fun k hk => ?_, fun k => ?_⟩
    · rw [List.map_cons, List.nodup_cons]
      exact ⟨(fun hm => by rw [(ih.2.2 _).1 hm] at hno; cases hno), ih.1⟩
    · rcases List.mem_cons.1 hk with rfl | hk
      · exact allP_mem hin
      · exact ih.2.1 k hk
    · rw [List.map_cons, List.mem_cons, hasK_cons, Bool.or_eq_true, ih.2.2 k, beq_iff_eq]
theorem Rk.len {t : List S39} {bs : Bad} (h : Rk t bs) : bs.length ≤ t.length * t.length := by
  have := nodup_sub_len h.keys.1 h.keys.2.1
  rwa [List.length_map, allP_len] at this

/-- A pair that a stage leaves: nothing that it needs is refuted. -/
def Fine (t : List S39) (bs : Bad) (p : S23) : Prop := ∃ m, needsF (nd t p.f0) (nd t p.f1) = some m ∧ ∀ c q, needGet m c = some q → hasK bs q = false
/-- A stage under way: the pairs that it has been at are told by D. -/
structure Stg (t : List S39) (bs : Bad) (D : S23 → Prop) (st : List S23 × Bad) : Prop where
  dup : st.1.Nodup
  what : ∀ p ∈ st.1, inP t p ∧ D p ∧ hasK bs (l23 p) = false ∧ Why t bs p (letOf st.2 (l23 p))
  rest : ∀ p, inP t p → D p → hasK bs (l23 p) = false → p ∈ st.1 ∨ Fine t bs p
  new : ∀ p, ¬ D p → letOf st.2 (l23 p) = 0
  len : st.2.length ≤ st.1.length
theorem Stg.size {t : List S39} {bs : Bad} {D : S23 → Prop} {st : List S23 × Bad} (h : Stg t bs D st) : st.1.length ≤ t.length * t.length := by
  have hnd : (st.1.map l23).Nodup := by
    rw [List.Nodup, List.pairwise_map]
    exact h.dup.imp (fun hne e => hne (l23_inj e))
  have := nodup_sub_len hnd (fun k hk => by
    obtain ⟨p, hp, rfl⟩ := List.mem_map.1 hk
    exact allP_mem (h.what p hp).1)
  rwa [List.length_map, allP_len] at this
theorem Stg.iff {t : List S39} {bs : Bad} {D D' : S23 → Prop} {st : List S23 × Bad} (h : Stg t bs D st) (e : ∀ p, inP t p → (D p ↔ D' p)) (e' : ∀ p, ¬ D' p → ¬ D p) : Stg t bs D' st :=
  ⟨h.dup, fun p hp => by
    obtain ⟨a, b, c, d⟩ := h.what p hp
    exact ⟨a, (e p a).1 b, c, d⟩, fun p hp hd => h.rest p hp ((e p hp).2 hd), fun p hd => h.new p (e' p hd), h.len⟩
theorem Stg.cell {t : List S39} {bs : Bad} {D : S23 → Prop} {st : List S23 × Bad} (h : Stg t bs D st) {i j : Int} (hp : inP t ⟨i, j⟩) (hD : ¬ D ⟨i, j⟩) : Stg t bs (fun p => D p ∨ p = ⟨i, j⟩) (cellStep t bs i j st) := by
  have hn : (⟨i, j⟩ : S23) ∉ st.1 := fun hm => hD (h.what _ hm).2.1
  have hlet := h.new _ hD
  -- a pair that is taken
  have take : ∀ (ls : Bad), (∀ q, q ≠ l23 ⟨i, j⟩ → letOf ls q = letOf st.2 q) → ls.length ≤ st.2.length + 1 → hasK bs (l23 ⟨i, j⟩) = false → Why t bs ⟨i, j⟩ (letOf ls (l23 ⟨i, j⟩)) → Stg t bs (fun p => D p ∨ p = ⟨i, j⟩) (st.1 ++ [⟨i, j⟩], ls) := fun ls h1 h2 h3 h4 => by
    refine ⟨?_, fun p hpp => ?_, fun p hpp hd hk => ?_, fun p hd => ?_, ?_⟩
    · exact List.nodup_append.2 ⟨h.dup, by simp, fun a ha b hb => by simp at hb; subst hb; exact fun e => hn (e ▸ ha)⟩
    · rcases List.mem_append.1 hpp with hpp | hpp
      · obtain ⟨a, b, c, d⟩ := h.what p hpp
        refine ⟨a, .inl b, c, ?_⟩
        rw [show letOf (st.1 ++ [(⟨i, j⟩ : S23)], ls).2 (l23 p) = letOf st.2 (l23 p) from h1 _ (fun e => hn (l23_inj e ▸ hpp))]
        exact d
      · simp at hpp
        subst hpp
        exact ⟨hp, .inr rfl, h3, h4⟩
    · rcases hd with hd | rfl
      · rcases h.rest p hpp hd hk with hm | hf
        · exact .inl (List.mem_append_left _ hm)
        · exact .inr hf
      · exact .inl (by simp)
    · have hne : p ≠ ⟨i, j⟩ := fun e => hd (.inr e)
      rw [show letOf (st.1 ++ [(⟨i, j⟩ : S23)], ls).2 (l23 p) = letOf st.2 (l23 p) from h1 _ (fun e => hne (l23_inj e))]
      exact h.new p (fun hh => hd (.inl hh))
    · have := h.len
      simp
      omega
  -- a pair that is left
  have leave : (hasK bs (l23 ⟨i, j⟩) = false → Fine t bs ⟨i, j⟩) → Stg t bs (fun p => D p ∨ p = ⟨i, j⟩) st := fun h1 => by
    refine ⟨h.dup, fun p hpp => ?_, fun p hpp hd hk => ?_, fun p hd => h.new p (fun hh => hd (.inl hh)), h.len⟩
    · obtain ⟨a, b, c, d⟩ := h.what p hpp
      exact ⟨a, .inl b, c, d⟩
    · rcases hd with hd | rfl
      · exact h.rest p hpp hd hk
      · exact .inr (h1 hk)
  have letc : ∀ c : Int, (∀ q, q ≠ l23 ⟨i, j⟩ → letOf ((l23 ⟨i, j⟩, c) :: st.2) q = letOf st.2 q) := fun c q hq => by rw [letOf_cons, if_neg hq]
  unfold cellStep
  by_cases hk : hasK bs [i, j] = true
  · rw [if_pos hk]
    exact leave (fun hf => by have hf' : hasK bs [i, j] = false := hf; rw [hk] at hf'; cases hf')
  · rw [if_neg hk]
    have hkf : hasK bs (l23 ⟨i, j⟩) = false := by
      cases e : hasK bs (l23 ⟨i, j⟩) with
      | false => rfl
      | true => exact absurd e hk
    cases hm : needsF (rd_T39 t i) (rd_T39 t j) with
    | none => exact take st.2 (fun q _ => rfl) (by omega) hkf (.inl ⟨hlet, hm⟩)
    | some m =>
      have hm' : needsF (nd t i) (nd t j) = some m := hm
      show Stg t bs _ (abIn bs ⟨i, j⟩ m 0 st)
      unfold abIn
      rw [if_pos rfl]
      have hfine : (∀ c q, (c = 97 ∨ c = 98) → needGet m c = some q → hasK bs q = false) → Fine t bs ⟨i, j⟩ := fun hh => ⟨m, hm', fun c q hq => by
        refine hh c q ?_ hq
        unfold needGet at hq
        split at hq
        · cases hq
        · split at hq
          · exact .inl ‹_›
          · split at hq
            · exact .inr ‹_›
            · cases hq⟩
      have s98 : (∀ q, needGet m 97 = some q → hasK bs q = false) → Stg t bs (fun p => D p ∨ p = ⟨i, j⟩) (abStep bs ⟨i, j⟩ (needGet m 98) 98 st) := fun h97 => by
        unfold abStep
        cases h98 : needGet m 98 with
        | none =>
          exact leave (fun _ => hfine (fun c q hc hq => by
            rcases hc with rfl | rfl
            · exact h97 q hq
            · rw [h98] at hq; cases hq))
        | some q =>
          simp only []
          by_cases hb : hasK bs q = true
          · rw [if_pos ⟨hlet, hb⟩]
            exact take _ (letc 98) (by simp) hkf (by
              rw [letOf_cons, if_pos rfl]
              exact .inr ⟨.inr rfl, m, q, hm', h98, hb⟩)
          · rw [if_neg (fun hh => hb hh.2)]
            exact leave (fun _ => hfine (fun c q' hc hq => by
              rcases hc with rfl | rfl
              · exact h97 q' hq
              · rw [h98] at hq
                cases hq
                simpa using hb))
      have e97 : abStep bs ⟨i, j⟩ (needGet m 97) 97 st = st ∧ (∀ q, needGet m 97 = some q → hasK bs q = false) ∨ (∃ q, needGet m 97 = some q ∧ hasK bs q = true) ∧ abStep bs ⟨i, j⟩ (needGet m 97) 97 st = (st.1 ++ [⟨i, j⟩], (l23 ⟨i, j⟩, 97) :: st.2) := by
        unfold abStep
        cases h97 : needGet m 97 with
        | none => exact .inl ⟨rfl, fun q hq => by cases hq⟩
        | some q =>
          simp only []
          by_cases hb : hasK bs q = true
          · exact .inr ⟨⟨q, rfl, hb⟩, if_pos ⟨hlet, hb⟩⟩
          · exact .inl ⟨if_neg (fun hh => hb hh.2), fun q' hq => by cases hq; simpa using hb⟩
      rcases e97 with ⟨e, h97⟩ | ⟨⟨q, hq, hb⟩, e⟩
      · rw [e]
        exact s98 h97
      · rw [e]
        have hl97 : letOf ((l23 ⟨i, j⟩, 97) :: st.2) (l23 ⟨i, j⟩) = 97 := by rw [letOf_cons, if_pos rfl]
        have : abStep bs ⟨i, j⟩ (needGet m 98) 98 (st.1 ++ [⟨i, j⟩], (l23 ⟨i, j⟩, 97) :: st.2) = (st.1 ++ [⟨i, j⟩], (l23 ⟨i, j⟩, 97) :: st.2) := by
          unfold abStep
          cases needGet m 98 with
          | none => rfl
          | some q' =>
            simp only []
            rw [if_neg (fun hh => by rw [hl97] at hh; exact absurd hh.1 (by decide))]
        rw [this]
        exact take _ (letc 97) (by simp) hkf (by
          rw [hl97]
          exact .inr ⟨.inl rfl, m, q, hm', hq, hb⟩)
section
variable {t : List S39} (hv : ∀ i : Int, 0 ≤ i → i < t.length → okN t i) (hn : t.length ≤ 24) {bs : Bad}
include hv hn
theorem sq_le : t.length * t.length ≤ 576 := Nat.mul_le_mul hn hn
theorem jGo_ok {i : Int} (i0 : 0 ≤ i) (i1 : i < t.length) : ∀ (d j f : Nat) (st : List S23 × Bad), j + d = t.length → d < f → Stg t bs (fun p => p.f0 < i ∨ (p.f0 = i ∧ p.f1 < j)) st → ∃ st', jGo t bs i f j st = some st' ∧ Stg t bs (fun p => p.f0 < i + 1) st'
  | 0, j, f, st, h, hf, hS => by
    obtain ⟨f, rfl⟩ : ∃ g, f = g + 1 := ⟨f - 1, by omega⟩
    refine ⟨st, ?_, hS.iff (fun p hp => ?_) (fun p hd hh => hd ?_)⟩
    · unfold jGo
      rw [if_neg (by omega)]
    · have := hp.2.2
      omega
    · omega
  | d + 1, j, f, st, h, hf, hS => by
    obtain ⟨f, rfl⟩ : ∃ g, f = g + 1 := ⟨f - 1, by omega⟩
    have hsz := hS.size
    have hl := hS.len
    have hsq := sq_le hv hn
    have hin : inP t ⟨i, (j : Int)⟩ := ⟨⟨i0, i1⟩, ⟨by show (0 : Int) ≤ (j : Int); omega, by show (j : Int) < _; omega⟩⟩
    have hc := hS.cell hin (fun hd => by
      rcases hd with hd | ⟨_, hd⟩
      · have hd : i < i := hd; omega
      · have hd : (j : Int) < (j : Int) := hd; omega)
    obtain ⟨st', e, hS'⟩ := jGo_ok i0 i1 d (j + 1) f (cellStep t bs i j st) (by omega) (by omega) (hc.iff (fun p _ => by
      constructor
      · rintro (h | h)
        · omega
        · rw [h]; right; exact ⟨rfl, by show (j : Int) < _; omega⟩
      · intro h
        by_cases e : p.f0 = i ∧ p.f1 = j
        · right
          obtain ⟨a, b⟩ := p
          simp only at e
          rw [e.1, e.2]
        · left; omega) (fun p hd hh => hd (by
      rcases hh with h | h
      · omega
      · rw [h]; right; exact ⟨rfl, by show (j : Int) < _; omega⟩)))
    refine ⟨st', ?_, hS'⟩
    unfold jGo
    rw [if_pos (by omega), if_pos ⟨by omega, by omega, by omega⟩]
    exact e
theorem iGo_ok : ∀ (d i f : Nat) (st : List S23 × Bad), i + d = t.length → d < f → Stg t bs (fun p => p.f0 < i) st → ∃ st', iGo t bs f i st = some st' ∧ Stg t bs (fun p => p.f0 < t.length) st'
  | 0, i, f, st, h, hf, hS => by
    obtain ⟨f, rfl⟩ : ∃ g, f = g + 1 := ⟨f - 1, by omega⟩
    have : i = t.length := by omega
    subst this
    refine ⟨st, ?_, hS⟩
    unfold iGo
    rw [if_neg (by omega)]
  | d + 1, i, f, st, h, hf, hS => by
    obtain ⟨f, rfl⟩ : ∃ g, f = g + 1 := ⟨f - 1, by omega⟩
    obtain ⟨st1, e1, hS1⟩ := jGo_ok hv hn (bs := bs) (i := i) (by omega) (by omega) t.length 0 200 st (by omega) (by omega) (by
      refine hS.iff (fun p hp => ?_) (fun p hd hh => hd (.inl hh))
      have := hp.2.1
      omega)
    obtain ⟨st2, e2, hS2⟩ := iGo_ok d (i + 1) f st1 (by omega) (by omega) hS1
    refine ⟨st2, ?_, hS2⟩
    unfold iGo
    rw [if_pos (by omega), if_pos (by omega)]
    show ((jGo t bs i 200 ((0 : Nat) : Int) st).bind _) = _
    rw [e1]
    exact e2
omit hv in
theorem addGo_ok {fs : List S23} {ls : Bad} (hnd : fs.Nodup) (hw : ∀ p ∈ fs, inP t p ∧ hasK bs (l23 p) = false ∧ Why t bs p (letOf ls (l23 p))) (hfl : fs.length ≤ 20000) : ∀ (d k f : Nat) (cur : Bad), k + d = fs.length → d < f → Rk t cur → (∀ q, hasK bs q = true → hasK cur q = true) → (∀ q, hasK cur q = true → hasK bs q = true ∨ ∃ m, ∃ h : m < fs.length, m < k ∧ q = l23 fs[m]) → cur.length = bs.length + k →
    ∃ r, addGo fs ls f k cur = some r ∧ Rk t r ∧ (∀ q, hasK bs q = true → hasK r q = true) ∧ r.length = bs.length + fs.length
  | 0, k, f, cur, h, hf, hR, h1, h2, hl => by
    obtain ⟨f, rfl⟩ : ∃ g, f = g + 1 := ⟨f - 1, by omega⟩
    refine ⟨cur, ?_, hR, h1, by omega⟩
    unfold addGo
    rw [if_neg (by omega)]
  | d + 1, k, f, cur, h, hf, hR, h1, h2, hl => by
    obtain ⟨f, rfl⟩ : ∃ g, f = g + 1 := ⟨f - 1, by omega⟩
    have hk : k < fs.length := by omega
    obtain ⟨w1, w2, w3⟩ := hw _ (List.getElem_mem hk)
    have e : rd_T23 fs (k : Int) = fs[k] := by
      unfold rd_T23
      rw [List.getD_eq_getElem?_getD, Int.toNat_natCast, List.getElem?_eq_getElem hk, Option.getD_some]
    have hno : hasK cur (l23 fs[k]) = false := by
      cases ec : hasK cur (l23 fs[k]) with
      | false => rfl
      | true =>
        rcases h2 _ ec with h | ⟨m, hm, hmk, hq⟩
        · rw [w2] at h; cases h
        · have := l23_inj hq
          have := (List.getElem_inj hnd).1 this
          omega
    have hwhy : Why t cur fs[k] (letOf ls (l23 fs[k])) := by
      rcases w3 with h | ⟨hc, m, q, a, b, c⟩
      · exact .inl h
      · exact .inr ⟨hc, m, q, a, b, h1 q c⟩
    have hcl := hR.len
    have hsq : t.length * t.length ≤ 576 := Nat.mul_le_mul hn hn
    obtain ⟨r, r1, r2, r3, r4⟩ := addGo_ok hnd hw hfl d (k + 1) f ((l23 fs[k], letOf ls (l23 fs[k])) :: cur) (by omega) (by omega) (.cons _ _ _ hR w1 hno hwhy) (fun q hq => by
      rw [hasK_cons, h1 q hq, Bool.or_true]) (fun q hq => by
      rw [hasK_cons, Bool.or_eq_true] at hq
      rcases hq with hq | hq
      · exact .inr ⟨k, hk, by omega, beq_iff_eq.1 hq⟩
      · rcases h2 q hq with h | ⟨m, hm, hmk, hq⟩
        · exact .inl h
        · exact .inr ⟨m, hm, by omega, hq⟩) (by simp; omega)
    refine ⟨r, ?_, r2, r3, r4⟩
    unfold addGo
    rw [if_pos (by omega), e, if_pos]
    · exact r1
    · have a1 := w1.1; have a2 := w1.2
      refine ⟨by omega, by omega, ?_, ?_⟩
      · unfold i64B; exact decide_eq_true ⟨by omega, by omega⟩
      · unfold i64B; exact decide_eq_true ⟨by omega, by omega⟩
/-- The refuted pairs: those that no closed relation has. -/
theorem refGo_ok : ∀ (d f : Nat) (bs : Bad), t.length * t.length ≤ bs.length + d → d + 1 < f → Rk t bs → ∃ r, refGo t f true bs = some r ∧ Rk t r ∧ ∀ p, inP t p → hasK r (l23 p) = false → Fine t r p := by
  intro d
  induction d using Nat.strongRecOn with
  | _ d ih =>
    intro f bs hd hf hR
    obtain ⟨f, rfl⟩ : ∃ g, f = g + 2 := ⟨f - 2, by omega⟩
    have hbl := hR.len
    have hsq := sq_le hv hn
    obtain ⟨st, e1, hS⟩ := iGo_ok hv hn (bs := bs) t.length 0 200 ([], []) (by omega) (by omega) ⟨List.nodup_nil, fun p hp => (by cases hp), fun p hp hd => by have := hp.1.1; omega, fun p _ => rfl, Nat.le_refl _⟩
    have hsz := hS.size
    obtain ⟨r, r1, r2, r3, r4⟩ := addGo_ok hn (bs := bs) (fs := st.1) (ls := st.2) hS.dup (fun p hp => by
      obtain ⟨a, _, c, d⟩ := hS.what p hp
      exact ⟨a, c, d⟩) (by omega) st.1.length 0 30000 bs (by omega) (by omega) hR (fun q h => h) (fun q h => .inl h) (by omega)
    have hgo : refGo t (f + 2) true bs = refGo t (f + 1) (decide (0 < st.1.length)) r := by
      conv => lhs; unfold refGo
      rw [if_pos rfl, if_pos ⟨by omega, by omega⟩]
      show ((iGo t bs 200 ((0 : Nat) : Int) ([], [])).bind _) = _
      rw [e1, Option.bind_some, if_pos (by omega)]
      show ((addGo st.1 st.2 30000 ((0 : Nat) : Int) bs).bind _) = _
      rw [r1]
      rfl
    rw [hgo]
    by_cases hfr : 0 < st.1.length
    · rw [decide_eq_true hfr]
      have hrl := r2.len
      exact ih (d - st.1.length) (by omega) (f + 1) r (by omega) (by omega) r2
    · rw [decide_eq_false hfr]
      have hnil : st.1 = [] := List.length_eq_zero_iff.1 (by omega)
      have hrb : r = bs := by
        unfold addGo at r1
        rw [if_neg (by omega)] at r1
        exact (Option.some.inj r1).symm
      subst hrb
      refine ⟨r, ?_, r2, fun p hp hk => ?_⟩
      · unfold refGo
        rw [if_neg (by decide)]
      · rcases hS.rest p hp hp.1.2 hk with h | h
        · rw [hnil] at h; cases h
        · exact h
theorem rel_ok : ∀ (d f i : Nat) (out : List S23), t.length * t.length ≤ i + d → d < f → i ≤ out.length → out.Nodup → (∀ p ∈ out, inP t p) → ∃ r, relGo t f i out = some r := by
  intro d
  induction d with
  | zero =>
    intro f i out h hf hi hnd hin
    obtain ⟨f, rfl⟩ : ∃ g, f = g + 1 := ⟨f - 1, by omega⟩
    have hsz : out.length ≤ t.length * t.length := by
      have hnd' : (out.map l23).Nodup := by
        rw [List.Nodup, List.pairwise_map]
        exact hnd.imp (fun hne e => hne (l23_inj e))
      have := nodup_sub_len hnd' (fun k hk => by
        obtain ⟨p, hp, rfl⟩ := List.mem_map.1 hk
        exact allP_mem (hin p hp))
      rwa [List.length_map, allP_len] at this
    refine ⟨out, ?_⟩
    unfold relGo
    rw [if_neg (by omega)]
  | succ d ih =>
    intro f i out h hf hi hnd hin
    obtain ⟨f, rfl⟩ : ∃ g, f = g + 1 := ⟨f - 1, by omega⟩
    have hsz : out.length ≤ t.length * t.length := by
      have hnd' : (out.map l23).Nodup := by
        rw [List.Nodup, List.pairwise_map]
        exact hnd.imp (fun hne e => hne (l23_inj e))
      have := nodup_sub_len hnd' (fun k hk => by
        obtain ⟨p, hp, rfl⟩ := List.mem_map.1 hk
        exact allP_mem (hin p hp))
      rwa [List.length_map, allP_len] at this
    have hsq := sq_le hv hn
    by_cases c : i < out.length
    · have e : rd_T23 out (i : Int) = out[i] := by
        unfold rd_T23
        rw [List.getD_eq_getElem?_getD, Int.toNat_natCast, List.getElem?_eq_getElem c, Option.getD_some]
      have hp := hin _ (List.getElem_mem c)
      have add : ∀ (o : List S23) (q : Option (List Int)), o.Nodup → (∀ p ∈ o, inP t p) → (∀ x, q = some x → x = l23 (s23 x) ∧ inP t (s23 x)) → (relAdd o q).Nodup ∧ (∀ p ∈ relAdd o q, inP t p) ∧ o.length ≤ (relAdd o q).length := fun o q h1 h2 h3 => by
        unfold relAdd
        cases q with
        | none => exact ⟨h1, h2, Nat.le_refl _⟩
        | some x =>
          simp only []
          split
          · exact ⟨h1, h2, Nat.le_refl _⟩
          · rename_i hx
            obtain ⟨x1, x2⟩ := h3 x rfl
            refine ⟨List.nodup_append.2 ⟨h1, by simp, fun a ha b hb => by
              simp at hb
              subst hb
              intro e
              exact hx (List.mem_map.2 ⟨a, ha, by rw [e]; exact x1.symm⟩)⟩, fun p hp => ?_, by simp⟩
            rcases List.mem_append.1 hp with hp | hp
            · exact h2 p hp
            · simp at hp
              rw [hp]; exact x2
      have hneed : ∀ c x, needGet ((needsF (nd t out[i].f0) (nd t out[i].f1)).getD none) c = some x → x = l23 (s23 x) ∧ inP t (s23 x) := fun c x hx => by
        cases hm : needsF (nd t out[i].f0) (nd t out[i].f1) with
        | none => rw [hm] at hx; cases hx
        | some m =>
          rw [hm] at hx
          exact need_inP hv hp hm hx
      obtain ⟨a1, a2, a3⟩ := add out (needGet ((needsF (nd t out[i].f0) (nd t out[i].f1)).getD none) 97) hnd hin (hneed 97)
      obtain ⟨b1, b2, b3⟩ := add _ (needGet ((needsF (nd t out[i].f0) (nd t out[i].f1)).getD none) 98) a1 a2 (hneed 98)
      obtain ⟨r, hr⟩ := ih f (i + 1) _ (by omega) (by omega) (by omega) b1 b2
      refine ⟨r, ?_⟩
      unfold relGo
      rw [if_pos (by omega), e, if_pos ⟨by omega, by omega, hp.1, hp.2⟩]
      unfold relIn
      rw [if_pos rfl]
      exact hr
    · refine ⟨out, ?_⟩
      unfold relGo
      rw [if_neg (by omega)]
end
noncomputable def subB (t : List S39) (i j : Int) : Bool := @decide (SubC t i j) (Classical.propDecidable _)
theorem subB_iff {t : List S39} {i j : Int} : subB t i j = true ↔ SubC t i j := by
  unfold subB
  exact @decide_eq_true_iff _ (Classical.propDecidable _)
/-- What Sub says of two nodes of types. -/
theorem Sub_ev {t : List S39} (ht : tyB t 24 = true) {i j : Int} (i0 : 0 ≤ i) (i1 : i < t.length) (j0 : 0 ≤ j) (j1 : j < t.length) : ∃ (rel : List S23) (path : ByteArray), Ev (fun k => loops_Sub.f k t i j) (subB t i j, rel, path, 0) := by
  obtain ⟨⟨h1, hv⟩, hl⟩ := tyB_iff.1 ht
  have hn : t.length ≤ 24 := by omega
  have hsq : t.length * t.length ≤ 576 := Nat.mul_le_mul hn hn
  obtain ⟨bad, b1, b2, b3⟩ := refGo_ok hv hn 576 1000 [] (by simp; omega) (by omega) .nil
  have hin : inP t ⟨i, j⟩ := ⟨⟨i0, i1⟩, ⟨j0, j1⟩⟩
  have hall : t.all t39B = true := List.all_eq_true.2 (fun x hx => by
    obtain ⟨k, hk, rfl⟩ := List.getElem_of_mem hx
    have := hv k (by omega) (by omega)
    have e : nd t (k : Int) = t[k] := by
      unfold nd rd_T39
      rw [List.getD_eq_getElem?_getD, Int.toNat_natCast, List.getElem?_eq_getElem hk, Option.getD_some]
    unfold okN at this
    rw [e] at this
    obtain ⟨⟨k0, k1⟩, _, ⟨a0, a1⟩, ⟨c0, c1⟩⟩ := this
    unfold t39B i64B
    rw [Bool.and_eq_true, Bool.and_eq_true]
    exact ⟨decide_eq_true ⟨by omega, by omega⟩, decide_eq_true ⟨by omega, by omega⟩, decide_eq_true ⟨by omega, by omega⟩⟩)
  have key : ∀ rel path, (if hasK bad [i, j] = true then (pathGo t bad 1000 ⟨i, j⟩ (⟨#[]⟩ : ByteArray)).bind fun p => some (false, [], p, (0 : Int)) else (relGo t 10000 0 [⟨i, j⟩]).bind fun r => some (true, r, (⟨#[]⟩ : ByteArray), 0)) = some (subB t i j, rel, path, (0 : Int)) → Ev (fun k => loops_Sub.f k t i j) (subB t i j, rel, path, 0) := fun rel path h => by
    unfold loops_Sub.f
    refine Ev.bind (f := fun k (ok : Bool) => if ok = true then
      (if t.all t39B = true ∧ (0 ≤ i ∧ i < t.length) ∧ (0 ≤ j ∧ j < t.length) ∧ t.length ≤ 100 then
        (refGo t 1000 true []).bind fun bad =>
          if hasK bad [i, j] = true then (pathGo t bad 1000 ⟨i, j⟩ (⟨#[]⟩ : ByteArray)).bind fun p => some (false, [], p, (0 : Int))
          else (relGo t 10000 0 [⟨i, j⟩]).bind fun r => some (true, r, (⟨#[]⟩ : ByteArray), 0)
       else none)
    else some (false, [], (⟨#[]⟩ : ByteArray), 2)) (areNodes_ev (by omega) [i, j]) ?_
    rw [ht, inB_two.2 ⟨⟨i0, i1⟩, ⟨j0, j1⟩⟩]
    refine Ev.congr (fun k => ?_) (Ev.now _)
    rw [if_pos (show (true && true) = true from rfl), if_pos ⟨hall, ⟨i0, i1⟩, ⟨j0, j1⟩, by omega⟩, b1, Option.bind_some]
    exact h
  by_cases hb : hasK bad [i, j] = true
  · have hns := b2.sound hv ⟨i, j⟩ hb
    have hs : subB t i j = false := by
      cases e : subB t i j with
      | false => rfl
      | true => exact absurd (subB_iff.1 e) hns
    obtain ⟨p, hp⟩ := path_ok hv b2 bad [] ⟨i, j⟩ 1000 (⟨#[]⟩ : ByteArray) rfl hb (by have := b2.len; omega)
    exact ⟨[], p, key [] p (by rw [if_pos hb, hp, hs]; rfl)⟩
  · have hs : subB t i j = true := subB_iff.2 ⟨fun a b => inP t ⟨a, b⟩ ∧ hasK bad [a, b] = false, fun a b hab => by
      obtain ⟨m, hm, hall2⟩ := b3 ⟨a, b⟩ hab.1 hab.2
      refine (stp_needs hv hab.1.1.1 hab.1.1.2).2 ⟨m, hm, fun c q hq => ?_⟩
      obtain ⟨q1, q2⟩ := need_inP hv hab.1 hm hq
      refine ⟨q2, ?_⟩
      have := hall2 c q hq
      rw [q1] at this
      exact this, hin, by simpa using hb⟩
    obtain ⟨r, hr⟩ := rel_ok hv hn 576 10000 0 [⟨i, j⟩] (by omega) (by omega) (by simp) (by simp) (fun p hp => by simp at hp; rw [hp]; exact hin)
    refine ⟨r, _, key r (⟨#[]⟩ : ByteArray) ?_⟩
    rw [if_neg hb, hs]
    show ((relGo t 10000 ((0 : Nat) : Int) [⟨i, j⟩]).bind _) = _
    rw [hr]
    rfl
theorem sub_ev {t : List S39} (ht : tyB t 24 = true) {i j : Int} (i0 : 0 ≤ i) (i1 : i < t.length) (j0 : 0 ≤ j) (j1 : j < t.length) : Ev (fun k => tickinglaw06_sub.f k t i j) (subB t i j, true) := by
 obtain ⟨rel, path, h⟩ := Sub_ev ht i0 i1 j0 j1
 unfold tickinglaw06_sub.f
 exact Ev.bind (f := fun k (b : Bool × List S23 × ByteArray × Int) => some (b.1, (b.2.2.2 == 0))) h (Ev.now _)
/-- Types with the least and the greatest type behind them. -/
theorem ends_ty {t : List S39} (h : IsTy t) : IsTy (t ++ [(⟨0, 0, 0⟩ : S39), ⟨1, 0, 0⟩]) ∧ nd (t ++ [(⟨0, 0, 0⟩ : S39), ⟨1, 0, 0⟩]) t.length = ⟨0, 0, 0⟩ ∧ nd (t ++ [(⟨0, 0, 0⟩ : S39), ⟨1, 0, 0⟩]) (t.length + 1) = ⟨1, 0, 0⟩ := by
 have hl : (t ++ [(⟨0, 0, 0⟩ : S39), ⟨1, 0, 0⟩]).length = t.length + 2 := by simp
 have e0 : nd (t ++ [(⟨0, 0, 0⟩ : S39), ⟨1, 0, 0⟩]) t.length = ⟨0, 0, 0⟩ := by
  unfold nd rd_T39
  rw [List.getD_eq_getElem?_getD, Int.toNat_natCast, List.getElem?_append_right (Nat.le_refl _)]
  simp
 have e1 : nd (t ++ [(⟨0, 0, 0⟩ : S39), ⟨1, 0, 0⟩]) (t.length + 1) = ⟨1, 0, 0⟩ := by
  unfold nd rd_T39
  rw [List.getD_eq_getElem?_getD, show ((t.length : Int) + 1).toNat = t.length + 1 by omega, List.getElem?_append_right (by omega)]
  simp
 refine ⟨⟨by omega, fun i i0 i1 => ?_⟩, e0, e1⟩
 rw [hl] at i1
 unfold okN
 rw [hl]
 by_cases c : i < t.length
 ·have e : nd (t ++ [(⟨0, 0, 0⟩ : S39), ⟨1, 0, 0⟩]) i = nd t i := by
   unfold nd rd_T39
   rw [List.getD_eq_getElem?_getD, List.getD_eq_getElem?_getD, List.getElem?_append_left (by omega)]
  obtain ⟨p0, p1, p2, p3⟩ := h.2 i i0 c
  rw [e]
  exact ⟨p0, p1, ⟨p2.1, by omega⟩, ⟨p3.1, by omega⟩⟩
 ·by_cases c2 : i = t.length
  ·rw [c2, e0]
   refine ⟨⟨by decide, by decide⟩, fun _ => ⟨rfl, rfl⟩, ⟨by decide, ?_⟩, ⟨by decide, ?_⟩⟩ <;> (show (0 : Int) < _; omega)
  ·rw [show i = (t.length : Int) + 1 by omega, e1]
   refine ⟨⟨by decide, by decide⟩, fun _ => ⟨rfl, rfl⟩, ⟨by decide, ?_⟩, ⟨by decide, ?_⟩⟩ <;> (show (0 : Int) < _; omega)
theorem LoopsLaws_ev (l : List S39) (a b c : Int) : Ev (fun k => tickinglaw06_LoopsLaws.f k l a b c) true := by
 unfold tickinglaw06_LoopsLaws.f
 obtain ⟨t, t1, t2, t3⟩ := tame_ev l (m := 12) (by omega) (by omega)
 refine Ev.bind (f := fun k (z : List S39) => _) t1 ?_
 obtain ⟨x1, x2, x3⟩ := ends_ty t2
 have hl : (t ++ [(⟨0, 0, 0⟩ : S39), ⟨1, 0, 0⟩]).length = t.length + 2 := by simp
 have hb : t.length + ([(⟨0, 0, 0⟩ : S39), ⟨1, 0, 0⟩] : List S39).length < 5864062014805 := by simp; omega
 simp only [Option.bind_some, if_pos hb]
 generalize t ++ [(⟨0, 0, 0⟩ : S39), ⟨1, 0, 0⟩] = x at *
 have hx : tyB x 24 = true := tyB_iff.2 ⟨x1, by omega⟩
 have hv := x1.2
 obtain ⟨i, hi, i0, i1⟩ := mod_ok a (b := x.length) (by omega) (by omega)
 obtain ⟨j, hj, j0, j1⟩ := mod_ok b (b := x.length) (by omega) (by omega)
 obtain ⟨m, hm, m0, m1⟩ := mod_ok c (b := x.length) (by omega) (by omega)
 rw [hi, hj, hm]
 have w1 : wrap64 ((x.length : Int) - 2) = (t.length : Int) := by rw [w64 (by omega) (by omega)]; omega
 have w2 : wrap64 ((x.length : Int) - 1) = (t.length : Int) + 1 := by rw [w64 (by omega) (by omega)]; omega
 simp only [Option.bind_some, w1, w2]
 have q0 : (0 : Int) ≤ t.length := Int.natCast_nonneg _
 have q1 : (t.length : Int) < x.length := by omega
 have r0 : (0 : Int) ≤ (t.length : Int) + 1 := by omega
 have r1 : (t.length : Int) + 1 < x.length := by omega
 refine Ev.bind (f := fun k (z : Bool × Bool) => _) (sub_ev hx i0 i1 j0 j1) ?_
 refine Ev.bind (f := fun k (z : Bool × Bool) => _) (sub_ev hx j0 j1 m0 m1) ?_
 refine Ev.bind (f := fun k (z : Bool × Bool) => _) (sub_ev hx i0 i1 m0 m1) ?_
 refine Ev.bind (f := fun k (z : Bool × Bool) => _) (sub_ev hx j0 j1 i0 i1) ?_
 refine Ev.bind (f := fun k (z : Bool × Bool) => _) (sub_ev hx i0 i1 i0 i1) ?_
 refine Ev.bind (f := fun k (z : Bool × Bool) => _) (sub_ev hx q0 q1 i0 i1) ?_
 refine Ev.bind (f := fun k (z : Bool × Bool) => _) (sub_ev hx i0 i1 r0 r1) ?_
 refine Ev.bind (f := fun k (z : Bool × Int) => _) (Equal_ev (by omega) i j) ?_
 have g1 : subB x i i = true := subB_iff.2 (SubC.refl x i)
 have g2 : subB x t.length i = true := subB_iff.2 (SubC.bot (.inl (by rw [x2])))
 have g3 : subB x i ((t.length : Int) + 1) = true := subB_iff.2 (SubC.bot (.inr (by rw [x3])))
 have hin : inB x [i, j] = true := inB_two.2 ⟨⟨i0, i1⟩, ⟨j0, j1⟩⟩
 have hw : Ev (fun k => (tickinglaw06_awake.f k).bind fun z => some z) true := Ev.congr (fun k => by cases tickinglaw06_awake.f k <;> rfl) awake_ev
 rw [hx, hin, g1, g2, g3]
 simp only [Bool.and_self, if_true]
 cases h1 : subB x i j with
 | false =>
  have he : sameB x i j = false := by
   cases e : sameB x i j with
   | false => rfl
   | true => rw [subB_iff.2 (SubC.of_same (sameB_iff.1 e))] at h1; cases h1
  simp only [he, Bool.false_eq_true, if_false, beq_self_eq_true, if_true]
  exact hw
 | true =>
  have s1 := subB_iff.1 h1
  have he : subB x j i = sameB x i j := by
   cases e : sameB x i j with
   | true => exact subB_iff.2 (SubC.of_same (sameB_iff.1 e).symm)
   | false =>
    cases e2 : subB x j i with
    | false => rfl
    | true => rw [sameB_iff.2 (SubC.anti hv i0 i1 j0 j1 s1 (subB_iff.1 e2))] at e; cases e
  simp only [he, beq_self_eq_true, if_true]
  cases h2 : subB x j m with
  | false =>
   simp only [Bool.false_eq_true, if_false]
   exact hw
  | true =>
   have h3 : subB x i m = true := subB_iff.2 (s1.trans (subB_iff.1 h2))
   simp only [h3, if_true]
   exact hw
theorem LoopsLaws (l : List S39) (a b c : Int) : ∃ k, tickinglaw06_LoopsLaws.f k l a b c = some true := (LoopsLaws_ev l a b c).rounds
end Go.Proofs.Ytnfmeafiaipplaa.P

namespace Go.Proofs.Ytnfmeafiaipplaa.Open
instance : Inhabited Go.Proofs.Ytnfmeafiaipplaa.S.S39 := ⟨⟨0, 0, 0⟩⟩
open Go.ChangeShapes Go.WideShapes Go.ChangeAt Go.RowKit
open Go.Proofs.Ytnfmeafiaipplaa.S Go.Proofs.Ytnfmeafiaipplaa.Lib Go.Proofs.YtnfmeafiaipplaaW.PrintWords Go.Proofs.YtnfmeafiaipplaaW.PrintLast Go.Proofs.YtnfmeafiaipplaaW.PrintMore
set_option linter.unusedVariables false
set_option maxRecDepth 100000

theorem add_add (a : Addr) (i j : Nat) : (a.add i).add j = a.add (i + j) := by
 unfold Addr.add
 by_cases hi : i = 0
 ·subst hi
  simp
 ·by_cases hj : j = 0
  ·subst hj
   simp [hi]
  ·simp [hi, hj, Nat.add_assoc]
theorem cells3 : Try.prog.cellsOf 39 = 3 := by kernel_rfl
theorem cells1 : Try.prog.cellsOf 3 = 1 := by kernel_rfl
section
variable {H : Type} {enc : TypeId × Value → H} {W : World} {base : Nat} {spare : Nat → Bool} {held : Bool}
/-- A node's cells. -/
theorem open_node {fuel : Nat} {cs : List Value} {x : DataW H × List MemPlace} (h : DataW.trod enc Try.prog W base spare held fuel 39 cs = some x) : ∃ n : S39, cs = [.int .i64 n.f0, .int .i64 n.f1, .int .i64 n.f2] := by
 obtain ⟨xs, n, _, _, hl, hxl, hf⟩ := DataW.trod_struct Try.underlying39 h
 rw [cells3] at hl
 obtain ⟨c0, c1, c2, rfl⟩ : ∃ c0 c1 c2, cs = [c0, c1, c2] := by
  match cs, hl with
  | [a, b, c], _ => exact ⟨a, b, c, rfl⟩
 have f0 : DataW.trod enc Try.prog W base spare held n 3 (([c0, c1, c2].drop 0).take (Try.prog.cellsOf 3)) = xs[0]? := hf 0 _ rfl
 have f1 : DataW.trod enc Try.prog W base spare held n 3 (([c0, c1, c2].drop 1).take (Try.prog.cellsOf 3)) = xs[1]? := hf 1 _ rfl
 have f2 : DataW.trod enc Try.prog W base spare held n 3 (([c0, c1, c2].drop 2).take (Try.prog.cellsOf 3)) = xs[2]? := hf 2 _ rfl
 rw [cells1] at f0 f1 f2
 have hxl3 : xs.length = 3 := hxl
 rw [List.getElem?_eq_getElem (by omega)] at f0 f1 f2
 obtain ⟨n0, h0, _⟩ := DataW.trod_int Try.underlying3 f0
 obtain ⟨n1, h1, _⟩ := DataW.trod_int Try.underlying3 f1
 obtain ⟨n2, h2, _⟩ := DataW.trod_int Try.underlying3 f2
 refine ⟨⟨n0, n1, n2⟩, ?_⟩
 simp at h0 h1 h2
 rw [h0, h1, h2]
theorem open_types {a : Option Addr} {len cap : Nat} {d : DataW H} {ps : List MemPlace} (h : DataW.Trod enc Try.prog W base spare held 22 (.slice a len cap) d ps) :
  ∃ zs : List S39, zs.length = len ∧ Kd.C k39 W a zs.length zs ∧ zs.length ≤ cap := by
 obtain ⟨fuel, hf⟩ := h
 rcases Go.Deep.open_slice Try.underlying22 hf with ⟨hcs, _⟩ | ⟨x, l, c, m, n, D, Pl, hcs, _, hl, hm, hmm, _, hx⟩
 ·simp [Value.cells] at hcs
  obtain ⟨rfl, rfl, rfl⟩ := hcs
  exact ⟨[], rfl, ⟨rfl, by simp, fun hp => absurd hp (by simp)⟩, by simp⟩
 ·simp [Value.cells] at hcs
  obtain ⟨rfl, rfl, rfl⟩ := hcs
  have hlm : len ≤ m := by rw [hmm]; split <;> omega
  obtain ⟨Z, hZ⟩ := Go.Deep.choose_lt (α := S39) (n := len) (p := fun i z => ∀ j u, [Value.int .i64 z.f0, .int .i64 z.f1, .int .i64 z.f2][j]? = some u → W.cell? (x.add (i * 3 + j)) = some u) (fun i hi => by
   obtain ⟨cs', h1, h2⟩ := hx i (by omega)
   obtain ⟨z, rfl⟩ := open_node h2
   obtain ⟨_, _, h3⟩ := World.cells?_some h1
   rw [cells3] at h3
   refine ⟨z, fun j u hu => ?_⟩
   have hj : j < 3 := by
    have := (List.getElem?_eq_some_iff.1 hu).1
    simpa using this
   rw [← add_add, h3 j hj, hu])
  have hml : len ≤ 9223372036854775807 := by simp only [maxLen] at hm; omega
  refine ⟨(List.range len).map Z, by simp, ⟨by simp, by simpa using hml, fun _ => ⟨x, rfl, fun j p hj => ?_⟩⟩, by simpa using hl⟩
  obtain ⟨hj1, hj2⟩ := List.getElem?_eq_some_iff.1 hj
  simp at hj1 hj2
  refine ⟨_, rfl, k39_mk W p, fun i u hu => ?_⟩
  rw [← hj2] at hu
  exact hZ j hj1 i u hu
theorem okWide_array {P : Program} {w : World} {r : Reach} {b0 n : Nat} {t e : TypeId} {v : Value} (ht : P.underlying t = some (.array n e)) (h : Value.okWide P w r b0 t v) : ∃ cs, v = .agg cs ∧ cs.size = P.cellsOf t := by
 simp only [Value.okWide, ht] at h
 obtain ⟨cs, h1, h2, _⟩ := h
 exact ⟨cs, h1, h2⟩
theorem open_three {r : Reach} {b0 : Nat} {v : Value} {d : DataW H} {ps : List MemPlace} (hv : Value.okWide Try.prog W r b0 37 v) (h : DataW.Trod enc Try.prog W base spare held 37 v d ps) :
  ∃ a b c : Int, v = .agg #[.int .i64 a, .int .i64 b, .int .i64 c] ∧ (Lit.int .i64 a).wf = true ∧ (Lit.int .i64 b).wf = true ∧ (Lit.int .i64 c).wf = true := by
 obtain ⟨cs, rfl, hsz⟩ := okWide_array Try.underlying37 hv
 obtain ⟨fuel, hf⟩ := h
 have hc : Try.prog.cellsOf 37 = 3 := by kernel_rfl
 rw [hc] at hsz
 obtain ⟨xs, m, _, _, _, hxl, hel⟩ := DataW.trod_array Try.underlying37 hf
 obtain ⟨c0, c1, c2, rfl⟩ : ∃ c0 c1 c2, cs = #[c0, c1, c2] := by
  obtain ⟨l⟩ := cs
  match l, hsz with
  | [a, b, c], _ => exact ⟨a, b, c, rfl⟩
 have e0 := hel 0 (by omega)
 have e1 := hel 1 (by omega)
 have e2 := hel 2 (by omega)
 simp only [cells1] at e0 e1 e2
 rw [List.getElem?_eq_getElem (by omega)] at e0 e1 e2
 obtain ⟨n0, h0, _, w0⟩ := DataW.trod_int Try.underlying3 e0
 obtain ⟨n1, h1, _, w1⟩ := DataW.trod_int Try.underlying3 e1
 obtain ⟨n2, h2, _, w2⟩ := DataW.trod_int Try.underlying3 e2
 refine ⟨n0, n1, n2, ?_, w0, w1, w2⟩
 simp [Value.cells] at h0 h1 h2
 rw [h0, h1, h2]
end
end Go.Proofs.Ytnfmeafiaipplaa.Open
