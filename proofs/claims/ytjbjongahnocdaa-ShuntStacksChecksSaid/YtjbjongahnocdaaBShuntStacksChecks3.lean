-- Written by wip/bundle.py: texts of this claim, one behind the other.
import Derived.Test.YtjbjongahnocdaaBShuntStacksChecks2
set_option linter.unusedVariables false
set_option linter.unusedSimpArgs false

/- Conflicts, cycles, and what CheckStacks answers. -/
namespace Go.Proofs.Ytjbjongahnocdaa.P
open Go.RowKit Go.Proofs.Ytjbjongahnocdaa.S Go.Proofs.Ytjbjongahnocdaa.Defs Go.Proofs.YtjbjongahnocdaaW.PrintWords Go.Proofs.YtjbjongahnocdaaW.PrintLast Go.Proofs.YtjbjongahnocdaaW.PrintMore
set_option linter.unusedVariables false

/-- The positions a < b are in conflict. -/
def Conf (l : List Int) (a b : Nat) : Prop := ∃ c : Nat, b < c ∧ c < l.length ∧ rd l c < rd l a ∧ rd l a < rd l b
theorem found_conf {l : List Int} {a b : Nat} {r : Int} (hd : l.Nodup) (hab : a < b) (hb : b < l.length) (h : Found l a b r) : r ≠ 0 ↔ Conf l a b := by
  rcases h with ⟨rfl, h⟩ | ⟨c, rfl, h1, h2, h3, h4⟩
  · exact ⟨fun h => absurd rfl h, fun ⟨c, h1, h2, h3, h4⟩ => absurd ⟨h3, by omega⟩ (h c h1 h2)⟩
  · refine ⟨fun _ => ⟨c, h1, h2, h3, ?_⟩, fun _ => by omega⟩
    rw [rd_lt l a (by omega), rd_lt l b (by omega)] at h4 ⊢
    have : l[a] ≠ l[b] := List.pairwise_iff_getElem.1 hd a b (by omega) (by omega) hab
    omega
theorem conf_ev (l : List Int) (a b : Nat) (hd : l.Nodup) (hab : a < b) (hb : b < l.length) (hl : l.length ≤ 1000000) : ∃ r : Int, Ev (fun k => shunt_blocking.f k l (a : Int) (b : Int)) r ∧ (r ≠ 0 ↔ Conf l a b) := by
  obtain ⟨r, h1, h2⟩ := blocking_ev l a b (by omega) hb hl
  exact ⟨r, h1, found_conf hd hab hb h2⟩
theorem Conflict_loop (l : List Int) (a b : Nat) (ha : a < l.length) (hb : b < l.length) (hl : l.length ≤ 1000000) : ∀ (d i : Nat), i + d = l.length →
    ∃ r, Ev (fun k => tickingref02_Conflict.l0 k l (a : Int) (b : Int) (i : Int)) r ∧ (r = true ↔ ∃ c : Nat, i ≤ c ∧ c < l.length ∧ rd l c < rd l a ∧ rd l a < rd l b)
  | 0, i, h => by
    refine ⟨false, Ev.step (fun k => ?_) (Ev.now _), ⟨fun h => (by cases h), fun ⟨c, h1, h2, _⟩ => by omega⟩⟩
    simp only [tickingref02_Conflict.l0]
    rw [if_neg (by omega)]
  | d + 1, i, h => by
    have go : ¬ (rd l i < rd l a ∧ rd l a < rd l b) → ∀ f : Nat → Option Bool, (∀ k, f k = tickingref02_Conflict.l0 k l (a : Int) (b : Int) ((i + 1 : Nat) : Int)) → ∃ r, Ev f r ∧ (r = true ↔ ∃ c : Nat, i ≤ c ∧ c < l.length ∧ rd l c < rd l a ∧ rd l a < rd l b) := by
      intro hn f hf
      obtain ⟨r, h1, h2⟩ := Conflict_loop l a b ha hb hl d (i + 1) (by omega)
      refine ⟨r, Ev.congr hf h1, h2.trans ⟨fun ⟨c, q1, q⟩ => ⟨c, by omega, q⟩, fun ⟨c, q1, q2, q3, q4⟩ => ⟨c, ?_, q2, q3, q4⟩⟩⟩
      by_cases e : c = i
      · subst e; exact absurd ⟨q3, q4⟩ hn
      · omega
    by_cases c1 : rd l (i : Int) < rd l a
    · by_cases c2 : rd l a < rd l b
      · refine ⟨true, Ev.step (fun k => ?_) (Ev.now _), ⟨fun _ => ⟨i, Nat.le_refl _, by omega, c1, c2⟩, fun _ => rfl⟩⟩
        simp only [tickingref02_Conflict.l0]
        rw [if_pos (by omega), if_pos (by omega), if_pos (by omega), if_pos (by omega), if_pos c1, if_pos (by omega), if_pos (by omega), if_pos c2]
      · obtain ⟨r, h1, h2⟩ := go (fun h => c2 h.2) _ (fun k => rfl)
        refine ⟨r, Ev.step (fun k => ?_) h1, h2⟩
        simp only [tickingref02_Conflict.l0]
        rw [if_pos (by omega), if_pos (by omega), if_pos (by omega), if_pos (by omega), if_pos c1, if_pos (by omega), if_pos (by omega), if_neg c2, w64 (by omega) (by omega)]
        rfl
    · obtain ⟨r, h1, h2⟩ := go (fun h => c1 h.1) _ (fun k => rfl)
      refine ⟨r, Ev.step (fun k => ?_) h1, h2⟩
      simp only [tickingref02_Conflict.l0]
      rw [if_pos (by omega), if_pos (by omega), if_pos (by omega), if_pos (by omega), if_neg c1, w64 (by omega) (by omega)]
      rfl
theorem Conflict_ev (l : List Int) (a b : Nat) (ha : a < l.length) (hb : b < l.length) (hl : l.length ≤ 1000000) : ∃ r, Ev (fun k => tickingref02_Conflict.f k l (a : Int) (b : Int)) r ∧ (r = true ↔ Conf l a b) := by
  obtain ⟨r, h1, h2⟩ := Conflict_loop l a b ha hb hl (l.length - (b + 1)) (b + 1) (by omega)
  refine ⟨r, Ev.congr (fun k => ?_) h1, h2⟩
  unfold tickingref02_Conflict.f
  rw [w64 (by omega) (by omega)]
  rfl

/-! ### cycles -/
theorem index_loop (l : List Int) (x : Int) (hl : l.length ≤ 1000000) : ∀ (d i : Nat), i + d = l.length → ∃ r : Int, Ev (fun k => slices_Index_int_int.l0 k l x (l.length : Int) (i : Int)) r ∧ (0 ≤ r ↔ x ∈ l.drop i)
  | 0, i, h => by
    refine ⟨-1, Ev.step (fun k => ?_) (Ev.now _), ?_⟩
    · simp only [slices_Index_int_int.l0]
      rw [if_neg (by omega)]
    · rw [List.drop_eq_nil_of_le (by omega)]
      simp
  | d + 1, i, h => by
    rw [drop_cons l i (by omega)]
    by_cases he : x = rd l (i : Int)
    · refine ⟨i, Ev.step (fun k => ?_) (Ev.now _), ⟨fun _ => by rw [he]; exact List.mem_cons_self, fun _ => by omega⟩⟩
      simp only [slices_Index_int_int.l0]
      rw [if_pos (by omega), if_pos (by omega), if_pos (by omega), if_pos he]
    · obtain ⟨r, h1, h2⟩ := index_loop l x hl d (i + 1) (by omega)
      refine ⟨r, Ev.step (fun k => ?_) h1, h2.trans ?_⟩
      · simp only [slices_Index_int_int.l0]
        rw [if_pos (by omega), if_pos (by omega), if_pos (by omega), if_neg he, w64 (by omega) (by omega)]
        rfl
      · rw [List.mem_cons]
        exact ⟨fun h => .inr h, fun h => h.elim (fun h => absurd h he) id⟩
theorem contains_ev (l : List Int) (x : Int) (hl : l.length ≤ 1000000) : Ev (fun k => slices_Contains_int_int.f k l x) (decide (x ∈ l)) := by
  obtain ⟨r, h1, h2⟩ := index_loop l x hl l.length 0 (by omega)
  have e : decide (r ≥ 0) = decide (x ∈ l) := by
    rw [decide_eq_decide]
    exact h2
  rw [← e]
  exact Ev.bind (f := fun _ t => some (decide (t ≥ 0))) h1 (Ev.now _)

/-- The position after the i-th one of a cycle. -/
def nextOf (b : List Int) (i : Nat) : Int := rd b (((i + 1) % b.length : Nat) : Int)
def Edges (l b : List Int) (i : Nat) : Prop := ∀ j : Nat, i ≤ j → j < b.length → Conf l (mn (rd b j) (nextOf b j)).toNat (mx (rd b j) (nextOf b j)).toNat
/-- A block for two stacks: a cycle of odd length. -/
def Cyc (l b : List Int) : Prop := 3 ≤ b.length ∧ b.length % 2 = 1 ∧ ((∀ x ∈ b, 0 ≤ x ∧ x < l.length) ∧ b.Nodup) ∧ Edges l b 0
theorem step_mod (b : List Int) (i : Nat) (hi : i < b.length) (hl : b.length ≤ 1000000) : Int.tmod (wrap64 ((i : Int) + 1)) (b.length : Int) = (((i + 1) % b.length : Nat) : Int) ∧ (i + 1) % b.length < b.length := by
  refine ⟨?_, Nat.mod_lt _ (by omega)⟩
  rw [w64 (by omega) (by omega), Int.tmod_eq_emod_of_nonneg (by omega)]
  exact (Int.natCast_emod (i + 1) b.length).symm
theorem step_ne (b : List Int) (i : Nat) (hi : i < b.length) (h3 : 3 ≤ b.length) (hd : b.Nodup) : rd b i ≠ nextOf b i := by
  have hm : (i + 1) % b.length < b.length := Nat.mod_lt _ (by omega)
  have hne : i ≠ (i + 1) % b.length := by
    by_cases c : i + 1 < b.length
    · rw [Nat.mod_eq_of_lt c]; omega
    · have : i + 1 = b.length := by omega
      rw [this, Nat.mod_self]
      omega
  unfold nextOf
  rw [rd_lt b i hi, rd_lt b _ hm]
  rcases Nat.lt_or_gt_of_ne hne with h | h
  · exact List.pairwise_iff_getElem.1 hd _ _ hi hm h
  · exact fun e => List.pairwise_iff_getElem.1 hd _ _ hm hi h e.symm
theorem mm_range {l : List Int} {x y : Int} (hx : 0 ≤ x ∧ x < l.length) (hy : 0 ≤ y ∧ y < l.length) (hne : x ≠ y) : mn x y = ((mn x y).toNat : Int) ∧ mx x y = ((mx x y).toNat : Int) ∧ (mn x y).toNat < (mx x y).toNat ∧ (mx x y).toNat < l.length := by
  unfold mn mx
  refine ⟨?_, ?_, ?_, ?_⟩ <;> (repeat' split) <;> omega
theorem edges_step {l b : List Int} {i : Nat} (hi : i < b.length) : Edges l b i ↔ Conf l (mn (rd b i) (nextOf b i)).toNat (mx (rd b i) (nextOf b i)).toNat ∧ Edges l b (i + 1) := by
  constructor
  · exact fun h => ⟨h i (Nat.le_refl _) hi, fun j h1 h2 => h j (by omega) h2⟩
  · rintro ⟨h1, h2⟩ j h3 h4
    by_cases e : j = i
    · subst e; exact h1
    · exact h2 j (by omega) h4

theorem cycle_l1 (l b : List Int) (hd : l.Nodup) (hl : l.length ≤ 60) (hb : b.length ≤ 1000) (h3 : 3 ≤ b.length) (hr : ∀ x ∈ b, 0 ≤ x ∧ x < l.length) (hbd : b.Nodup) : ∀ (d i : Nat), i + d = b.length →
    ∃ r, Ev (fun k => shunt_isCycle.l1 k l b b (b.length : Int) (i : Int)) r ∧ (r = true ↔ Edges l b i)
  | 0, i, h => by
    refine ⟨true, Ev.step (fun k => ?_) (Ev.now _), ⟨fun _ j h1 h2 => by omega, fun _ => rfl⟩⟩
    simp only [shunt_isCycle.l1]
    rw [if_neg (by omega)]
  | d + 1, i, h => by
    obtain ⟨s1, s2⟩ := step_mod b i (by omega) (by omega)
    have hx := hr _ (rd_mem (l := b) (x := (i : Int)) (by omega) (by omega))
    have hy := hr _ (rd_mem (l := b) (x := (((i + 1) % b.length : Nat) : Int)) (by omega) (by omega))
    obtain ⟨m1, m2, m3, m4⟩ := mm_range hx hy (step_ne b i (by omega) h3 hbd)
    obtain ⟨q, q1, q2⟩ := conf_ev l _ _ hd m3 m4 (by omega)
    rw [← m1, ← m2] at q1
    have hst : ∀ k, shunt_isCycle.l1 (k + 1) l b b (b.length : Int) (i : Int) = (shunt_blocking.f k l (mn (rd b i) (nextOf b i)) (mx (rd b i) (nextOf b i))).bind fun t528 => (if t528 = 0 then (some false) else (shunt_isCycle.l1 k l b b (b.length : Int) ((i + 1 : Nat) : Int))) := by
      intro k
      simp only [shunt_isCycle.l1]
      rw [if_pos (by omega), if_pos (by omega), if_pos (by omega), if_neg (by omega), s1, if_pos (by omega), if_pos (by omega), w64 (by omega) (by omega)]
      rfl
    by_cases c : q = 0
    · refine ⟨false, Ev.step hst (Ev.bind (f := fun k t528 => (if t528 = 0 then (some false) else (shunt_isCycle.l1 k l b b (b.length : Int) ((i + 1 : Nat) : Int)))) q1 (Ev.congr (fun k => if_pos c) (Ev.now _))), ⟨fun h => (by cases h), fun h => absurd c (q2.2 ((edges_step (by omega)).1 h).1)⟩⟩
    · obtain ⟨r, h1, h2⟩ := cycle_l1 l b hd hl hb h3 hr hbd d (i + 1) (by omega)
      refine ⟨r, Ev.step hst (Ev.bind (f := fun k t528 => (if t528 = 0 then (some false) else (shunt_isCycle.l1 k l b b (b.length : Int) ((i + 1 : Nat) : Int)))) q1 (Ev.congr (fun k => if_neg c) h1)), ?_⟩
      rw [h2, edges_step (i := i) (by omega)]
      exact ⟨fun h => ⟨q2.1 c, h⟩, fun h => h.2⟩
theorem cycle_l0 (l b : List Int) (hd : l.Nodup) (hl : l.length ≤ 60) (hb : b.length ≤ 1000) (h3 : 3 ≤ b.length) : ∀ (d i : Nat), i + d = b.length → (b.take i).Nodup → (∀ x ∈ b.take i, 0 ≤ x ∧ x < (l.length : Int)) →
    ∃ r, Ev (fun k => shunt_isCycle.l0 k l b b (b.length : Int) (i : Int)) r ∧ (r = true ↔ ((∀ x ∈ b, 0 ≤ x ∧ x < (l.length : Int)) ∧ b.Nodup) ∧ Edges l b 0)
  | 0, i, h, n1, n2 => by
    rw [List.take_of_length_le (by omega)] at n1 n2
    obtain ⟨r, h1, h2⟩ := cycle_l1 l b hd hl hb h3 n2 n1 b.length 0 (by omega)
    refine ⟨r, Ev.step (fun k => ?_) h1, h2.trans ⟨fun h => ⟨⟨n2, n1⟩, h⟩, fun h => h.2⟩⟩
    simp only [shunt_isCycle.l0]
    rw [if_neg (by omega)]
    rfl
  | d + 1, i, h, n1, n2 => by
    have hi : i < b.length := by omega
    have hm : rd b (i : Int) ∈ b := rd_mem (by omega) (by omega)
    have e : b.take (i + 1) = b.take i ++ [rd b (i : Int)] := by rw [rd_lt b i hi, List.take_succ_eq_append_getElem hi]
    have hw : shunt_within.f (rd b i) 0 (wrap64 ((l.length : Int) - 1)) = some (decide (0 ≤ rd b i ∧ rd b i < (l.length : Int))) := by
      rw [w64 (by omega) (by omega)]
      unfold shunt_within.f
      by_cases c : rd b i ≥ 0
      · rw [if_pos c]
        congr 1
        rw [decide_eq_decide]
        omega
      · rw [if_neg c, decide_eq_false (by omega)]
    have hst : ∀ k, shunt_isCycle.l0 (k + 1) l b b (b.length : Int) (i : Int) = if decide (0 ≤ rd b i ∧ rd b i < (l.length : Int)) = true then (slices_Contains_int_int.f k (b.take i) (rd b i)).bind fun t525 => (if t525 = true then (some false) else (shunt_isCycle.l0 k l b b (b.length : Int) ((i + 1 : Nat) : Int))) else some false := by
      intro k
      simp only [shunt_isCycle.l0]
      rw [if_pos (by omega), if_pos (by omega), if_pos (by omega), hw, w64 (x := (i : Int) + 1) (by omega) (by omega), if_pos (show (i : Int) ≤ (b.length : Int) by omega)]
      rfl
    by_cases c : 0 ≤ rd b i ∧ rd b i < (l.length : Int)
    · have hc := contains_ev (b.take i) (rd b i) (by rw [List.length_take]; omega)
      have hst2 : ∀ k, shunt_isCycle.l0 (k + 1) l b b (b.length : Int) (i : Int) = (slices_Contains_int_int.f k (b.take i) (rd b i)).bind fun t525 => (if t525 = true then (some false) else (shunt_isCycle.l0 k l b b (b.length : Int) ((i + 1 : Nat) : Int))) := by
        intro k
        rw [hst, if_pos (decide_eq_true c)]
      by_cases c2 : rd b i ∈ b.take i
      · refine ⟨false, Ev.step hst2 (Ev.bind (f := fun k (t525 : Bool) => (if t525 = true then (some false) else (shunt_isCycle.l0 k l b b (b.length : Int) ((i + 1 : Nat) : Int)))) hc (Ev.congr (fun k => if_pos (decide_eq_true c2)) (Ev.now _))), ⟨fun h => (by cases h), fun h => ?_⟩⟩
        exfalso
        have hn := h.1.2
        rw [← List.take_append_drop i b, drop_cons b i hi] at hn
        exact (List.nodup_append.1 hn).2.2 _ c2 (rd b (i : Int)) (by simp) rfl
      · obtain ⟨r, h1, h2⟩ := cycle_l0 l b hd hl hb h3 d (i + 1) (by omega) (by
          rw [e, List.nodup_append]
          refine ⟨n1, by simp, fun a ha x hx => ?_⟩
          rw [List.mem_singleton] at hx
          subst hx
          exact fun e => c2 (e ▸ ha)) (by
          rw [e]
          intro x hx
          rcases List.mem_append.1 hx with hx | hx
          · exact n2 x hx
          · rw [List.mem_singleton] at hx
            subst hx
            exact c)
        exact ⟨r, Ev.step hst2 (Ev.bind (f := fun k (t525 : Bool) => (if t525 = true then (some false) else (shunt_isCycle.l0 k l b b (b.length : Int) ((i + 1 : Nat) : Int)))) hc (Ev.congr (fun k => if_neg (by rw [decide_eq_true_eq]; exact c2)) h1)), h2⟩
    · refine ⟨false, Ev.step (fun k => (hst k).trans (if_neg (by rw [decide_eq_true_eq]; exact c))) (Ev.now _), ⟨fun h => (by cases h), fun h => absurd (h.1.1 _ hm) c⟩⟩
theorem isCycle_ev (l b : List Int) (hd : l.Nodup) (hl : l.length ≤ 60) (hb : b.length ≤ 1000) : ∃ r, Ev (fun k => shunt_isCycle.f k l b) r ∧ (r = true ↔ Cyc l b) := by
  have hno : Ev (fun k => shunt_isCycle.j0 k l b true) false := Ev.step (f := fun _ => some false) (fun k => by simp only [shunt_isCycle.j0, if_true]) (Ev.now _)
  by_cases c1 : ((b.length : Int) % 2) = 0
  · exact ⟨false, Ev.congr (fun k => if_pos c1) hno, ⟨fun h => (by cases h), fun h => by have := h.2.1; omega⟩⟩
  · by_cases c2 : (b.length : Int) < 3
    · exact ⟨false, Ev.congr (fun k => (if_neg c1).trans (by rw [decide_eq_true c2])) hno, ⟨fun h => (by cases h), fun h => by have := h.1; omega⟩⟩
    · obtain ⟨r, h1, h2⟩ := cycle_l0 l b hd hl hb (by omega) b.length 0 (by omega) (by simp) (by simp)
      refine ⟨r, Ev.congr (fun k => (if_neg c1).trans (by rw [decide_eq_false c2])) (Ev.step (fun k => ?_) h1), h2.trans ⟨fun h => ⟨by omega, by omega, h⟩, fun h => h.2.2⟩⟩
      simp only [shunt_isCycle.j0]
      rw [if_neg (by decide)]
      rfl
theorem refCycle_l0 (l b : List Int) (hl : l.length ≤ 60) (hb : b.length ≤ 1000) (h3 : 3 ≤ b.length) (hr : ∀ x ∈ b, 0 ≤ x ∧ x < l.length) (hbd : b.Nodup) : ∀ (d i : Nat), i + d = b.length →
    ∃ r, Ev (fun k => tickingref02_StacksBlock.l0 k l b (i : Int)) r ∧ (r = true ↔ Edges l b i)
  | 0, i, h => by
    refine ⟨true, Ev.step (fun k => ?_) (Ev.now _), ⟨fun _ j h1 h2 => by omega, fun _ => rfl⟩⟩
    simp only [tickingref02_StacksBlock.l0]
    rw [if_neg (by omega)]
  | d + 1, i, h => by
    obtain ⟨s1, s2⟩ := step_mod b i (by omega) (by omega)
    have hx := hr _ (rd_mem (l := b) (x := (i : Int)) (by omega) (by omega))
    have hy := hr _ (rd_mem (l := b) (x := (((i + 1) % b.length : Nat) : Int)) (by omega) (by omega))
    obtain ⟨m1, m2, m3, m4⟩ := mm_range hx hy (step_ne b i (by omega) h3 hbd)
    obtain ⟨q, q1, q2⟩ := Conflict_ev l _ _ (Nat.lt_trans m3 m4) m4 (by omega)
    rw [← m1, ← m2] at q1
    have hst : ∀ k, tickingref02_StacksBlock.l0 (k + 1) l b (i : Int) = (tickingref02_Conflict.f k l (mn (rd b i) (nextOf b i)) (mx (rd b i) (nextOf b i))).bind fun t542 => (if t542 = true then (tickingref02_StacksBlock.l0 k l b ((i + 1 : Nat) : Int)) else (some false)) := by
      intro k
      simp only [tickingref02_StacksBlock.l0]
      rw [if_pos (by omega), if_pos (by omega), if_neg (by omega), s1, if_pos (by omega), if_pos (by omega), w64 (by omega) (by omega)]
      rfl
    cases q with
    | false =>
      refine ⟨false, Ev.step hst (Ev.bind (f := fun k (t542 : Bool) => (if t542 = true then (tickingref02_StacksBlock.l0 k l b ((i + 1 : Nat) : Int)) else (some false))) q1 (Ev.congr (fun k => if_neg (by decide)) (Ev.now _))), ⟨fun h => (by cases h), fun h => ?_⟩⟩
      have := q2.2 ((edges_step (by omega)).1 h).1
      cases this
    | true =>
      obtain ⟨r, h1, h2⟩ := refCycle_l0 l b hl hb h3 hr hbd d (i + 1) (by omega)
      refine ⟨r, Ev.step hst (Ev.bind (f := fun k (t542 : Bool) => (if t542 = true then (tickingref02_StacksBlock.l0 k l b ((i + 1 : Nat) : Int)) else (some false))) q1 (Ev.congr (fun k => if_pos rfl) h1)), ?_⟩
      rw [h2, edges_step (i := i) (by omega)]
      exact ⟨fun h => ⟨q2.1 rfl, h⟩, fun h => h.2⟩
theorem stacksBlock_ev (l b : List Int) (hl : l.length ≤ 60) (hb : b.length ≤ 1000) : ∃ r, Ev (fun k => tickingref02_StacksBlock.f k l b) r ∧ (r = true ↔ Cyc l b) := by
  have hno : Ev (fun k => tickingref02_StacksBlock.j0 k l b true) false := Ev.step (f := fun _ => some false) (fun k => by simp only [tickingref02_StacksBlock.j0, if_true]) (Ev.now _)
  by_cases c2 : (b.length : Int) < 3
  · exact ⟨false, Ev.congr (fun k => if_pos c2) hno, ⟨fun h => (by cases h), fun h => by have := h.1; omega⟩⟩
  · by_cases c1 : ((b.length : Int) % 2) = 0
    · exact ⟨false, Ev.congr (fun k => (if_neg c2).trans (if_pos c1)) hno, ⟨fun h => (by cases h), fun h => by have := h.2.1; omega⟩⟩
    · have ha := at_ev b (l.length : Int) (by omega)
      have hf : ∀ k, tickingref02_StacksBlock.f k l b = (tickingref02_at.f k b (l.length : Int)).bind fun t539 => (tickingref02_StacksBlock.j0 k l b (!t539)) := fun k => (if_neg c2).trans (if_neg c1)
      by_cases c3 : (∀ x ∈ b, 0 ≤ x ∧ x < (l.length : Int)) ∧ b.Nodup
      · obtain ⟨r, h1, h2⟩ := refCycle_l0 l b hl hb (by omega) c3.1 c3.2 b.length 0 (by omega)
        refine ⟨r, Ev.congr hf (Ev.bind (f := fun k (t539 : Bool) => (tickingref02_StacksBlock.j0 k l b (!t539))) ha ?_), h2.trans ⟨fun h => ⟨by omega, by omega, c3, h⟩, fun h => h.2.2.2⟩⟩
        rw [decide_eq_true c3]
        refine Ev.step (fun k => ?_) h1
        simp only [tickingref02_StacksBlock.j0]
        rw [if_neg (by decide)]
        rfl
      · refine ⟨false, Ev.congr hf (Ev.bind (f := fun k (t539 : Bool) => (tickingref02_StacksBlock.j0 k l b (!t539))) ha ?_), ⟨fun h => (by cases h), fun h => absurd h.2.2.1 c3⟩⟩
        rw [decide_eq_false c3]
        exact hno

/-! ### sides -/
/-- No two positions of one side are in conflict. -/
def SidesOk (l s : List Int) : Prop := (∀ x ∈ s, x = 0 ∨ x = 1) ∧ ∀ a b : Nat, a < b → b < l.length → rd s a = rd s b → ¬ Conf l a b
theorem sides_l1 (l s : List Int) (hd : l.Nodup) (hl : l.length ≤ 60) (hs : s.length = l.length) (b : Nat) (hb : b < l.length) : ∀ (d a : Nat) (right : Bool), a + d = b →
    ∃ r : Bool, (r = true ↔ right = true ∧ ∀ a' : Nat, a ≤ a' → a' < b → rd s a' = rd s b → ¬ Conf l a' b) ∧ ∀ R, Ev (fun k => shunt_CheckStacks.l0 k l s r (s.length : Int) ((b + 1 : Nat) : Int)) R → Ev (fun k => shunt_CheckStacks.l1 k l s right (b : Int) (s.length : Int) (b : Int) (b : Int) (a : Int)) R
  | 0, a, right, h => by
    refine ⟨right, ⟨fun h => ⟨h, fun a' h1 h2 => by omega⟩, fun h => h.1⟩, fun R hR => Ev.step (fun k => ?_) hR⟩
    simp only [shunt_CheckStacks.l1]
    rw [if_neg (by omega), w64 (by omega) (by omega)]
    rfl
  | d + 1, a, right, h => by
    have ih := sides_l1 l s hd hl hs b hb d (a + 1)
    have split : ∀ P : Prop, ((∀ a' : Nat, a ≤ a' → a' < b → rd s a' = rd s b → ¬ Conf l a' b) ↔ ((rd s a = rd s b → ¬ Conf l a b) ∧ ∀ a' : Nat, a + 1 ≤ a' → a' < b → rd s a' = rd s b → ¬ Conf l a' b)) := by
      intro _
      constructor
      · exact fun h' => ⟨h' a (Nat.le_refl _) (by omega), fun a' q1 => h' a' (by omega)⟩
      · rintro ⟨q1, q2⟩ a' q3 q4
        by_cases e : a' = a
        · subst e; exact q1
        · exact q2 a' (by omega) q4
    cases right with
    | false =>
      obtain ⟨r, h1, h2⟩ := ih false (by omega)
      have hr : r = false := by
        cases r with
        | false => rfl
        | true => exact absurd (h1.1 rfl).1 (by decide)
      subst hr
      refine ⟨false, ⟨fun h => (by cases h), fun h => absurd h.1 (by decide)⟩, fun R hR => Ev.step (fun k => ?_) (h2 R hR)⟩
      simp only [shunt_CheckStacks.l1]
      rw [if_pos (by omega), if_neg (by decide), w64 (by omega) (by omega)]
      rfl
    | true =>
      by_cases c : rd s a = rd s b
      · obtain ⟨q, q1, q2⟩ := conf_ev l a b hd (by omega) hb (by omega)
        obtain ⟨r, h1, h2⟩ := ih (q == 0) (by omega)
        refine ⟨r, ?_, fun R hR => Ev.step (f := fun k => (shunt_blocking.f k l (a : Int) (b : Int)).bind fun t534 => shunt_CheckStacks.l1 k l s (t534 == 0) (b : Int) (s.length : Int) (b : Int) (b : Int) ((a + 1 : Nat) : Int)) (fun k => ?_) (Ev.bind (f := fun k t534 => shunt_CheckStacks.l1 k l s (t534 == 0) (b : Int) (s.length : Int) (b : Int) (b : Int) ((a + 1 : Nat) : Int)) q1 (h2 R hR))⟩
        · rw [h1, split True]
          constructor
          · rintro ⟨g1, g2⟩
            exact ⟨rfl, fun _ hc => (q2.2 hc) (by simpa using g1), g2⟩
          · rintro ⟨_, g1, g2⟩
            refine ⟨?_, g2⟩
            rw [beq_iff_eq]
            apply Classical.byContradiction
            exact fun hq => g1 c (q2.1 hq)
        · simp only [shunt_CheckStacks.l1]
          rw [if_pos (by omega), if_pos trivial, if_pos (by omega), if_pos (by omega), if_pos (by omega), if_pos (by omega), if_pos c, w64 (by omega) (by omega)]
          rfl
      · obtain ⟨r, h1, h2⟩ := ih true (by omega)
        refine ⟨r, ?_, fun R hR => Ev.step (fun k => ?_) (h2 R hR)⟩
        · rw [h1, split True]
          exact ⟨fun h => ⟨h.1, fun e => absurd e c, h.2⟩, fun h => ⟨h.1, h.2.2⟩⟩
        · simp only [shunt_CheckStacks.l1]
          rw [if_pos (by omega), if_pos trivial, if_pos (by omega), if_pos (by omega), if_pos (by omega), if_pos (by omega), if_neg c, w64 (by omega) (by omega)]
          rfl
theorem sides_l0 (l s : List Int) (hd : l.Nodup) (hl : l.length ≤ 60) (hs : s.length = l.length) : ∀ (d b : Nat) (right : Bool), b + d = l.length →
    ∃ e : Int, Ev (fun k => shunt_CheckStacks.l0 k l s right (s.length : Int) (b : Int)) e ∧ (e = 0 ∨ e = 10) ∧ (e = 0 ↔ right = true ∧ ∀ b' : Nat, b ≤ b' → b' < l.length → ∀ a' : Nat, a' < b' → rd s a' = rd s b' → ¬ Conf l a' b')
  | 0, b, right, h => by
    refine ⟨if right = true then 0 else 10, Ev.step (f := fun _ => if right = true then some 0 else some 10) (fun k => ?_) (Ev.congr (fun k => ?_) (Ev.now _)), ?_, ?_⟩
    · simp only [shunt_CheckStacks.l0]
      rw [if_neg (by omega)]
    · split <;> rfl
    · split <;> simp
    · cases right
      · exact ⟨fun h => absurd h (by decide), fun h => absurd h.1 (by decide)⟩
      · exact ⟨fun _ => ⟨rfl, fun b' h1 h2 => by omega⟩, fun _ => rfl⟩
  | d + 1, b, right, h => by
    obtain ⟨r, h1, h2⟩ := sides_l1 l s hd hl hs b (by omega) b 0 right (by omega)
    obtain ⟨e, e1, e2, e3⟩ := sides_l0 l s hd hl hs d (b + 1) r (by omega)
    refine ⟨e, Ev.step (fun k => ?_) (h2 e e1), e2, e3.trans ?_⟩
    · simp only [shunt_CheckStacks.l0]
      rw [if_pos (by omega)]
      rfl
    · rw [h1]
      constructor
      · rintro ⟨⟨g1, g2⟩, g3⟩
        refine ⟨g1, fun b' q1 q2 a' q3 => ?_⟩
        by_cases c : b' = b
        · subst c; exact g2 a' (by omega) q3
        · exact g3 b' (by omega) q2 a' q3
      · rintro ⟨g1, g2⟩
        exact ⟨⟨g1, fun a' _ q3 => g2 b (Nat.le_refl _) (by omega) a' q3⟩, fun b' q1 q2 => g2 b' (by omega) q2⟩
theorem any_bad (s : List Int) : s.any badSide = false ↔ ∀ x ∈ s, x = 0 ∨ x = 1 := by
  rw [List.any_eq_false]
  constructor
  · intro h x hx
    have := h x hx
    unfold badSide at this
    rw [Bool.not_eq_true, Bool.not_eq_false', decide_eq_true_eq] at this
    omega
  · intro h x hx
    have := h x hx
    unfold badSide
    rw [Bool.not_eq_true, Bool.not_eq_false', decide_eq_true_eq]
    omega
/-- What CheckStacks answers for an order. -/
theorem checkStacks_ev (l s b : List Int) (h : IsOrd l) (hl : l.length ≤ 60) (hb : b.length ≤ 1000) : ∃ e : Int, Ev (fun k => shunt_CheckStacks.f k l s b) e ∧ (e = 0 ∨ e = 10) ∧
    (e = 0 ↔ if s.length = l.length ∧ b.length = 0 then SidesOk l s else s.length = 0 ∧ Cyc l b) := by
  have hor : shunt_isOrder.f l = some true := by
    unfold shunt_isOrder.f
    rw [(isOrderB_iff l).2 ⟨hl, h⟩]
  obtain ⟨q, q1, q2⟩ := isCycle_ev l b h.1 hl hb
  obtain ⟨right, r1, r2⟩ : ∃ right : Bool, (right = true ↔ s.length = 0 ∧ Cyc l b) ∧ ∀ e, Ev (fun k => shunt_CheckStacks.j0 k l s b right) e → Ev (fun k => shunt_CheckStacks.f k l s b) e := by
    by_cases c : (s.length : Int) = 0
    · refine ⟨q, q2.trans ⟨fun h => ⟨by omega, h⟩, fun h => h.2⟩, fun e he => Ev.congr (f := fun k => (shunt_isCycle.f k l b).bind fun t530 => (shunt_CheckStacks.j0 k l s b t530)) (fun k => ?_) (Ev.bind (f := fun k t530 => (shunt_CheckStacks.j0 k l s b t530)) q1 he)⟩
      unfold shunt_CheckStacks.f
      rw [hor]
      simp only [Option.bind_some, if_true]
      rw [if_pos c]
    · refine ⟨false, ⟨fun h => (by cases h), fun h => by have := h.1; omega⟩, fun e he => Ev.congr (fun k => ?_) he⟩
      unfold shunt_CheckStacks.f
      rw [hor]
      simp only [Option.bind_some, if_true]
      rw [if_neg c]
  by_cases c : s.length = l.length ∧ b.length = 0
  · obtain ⟨e, e1, e2, e3⟩ := sides_l0 l s h.1 hl c.1 l.length 0 (!(s.any badSide)) (by omega)
    refine ⟨e, r2 e (Ev.step (f := fun k => shunt_CheckStacks.j1 k l s right true) (fun k => ?_) (Ev.step (fun k => ?_) e1)), e2, ?_⟩
    · simp only [shunt_CheckStacks.j0]
      rw [if_pos (by omega), beq_iff_eq.mpr (show (b.length : Int) = 0 by omega)]
    · simp only [shunt_CheckStacks.j1, if_true]
      rfl
    · rw [if_pos c, e3]
      unfold SidesOk
      rw [← any_bad, Bool.not_eq_true']
      exact ⟨fun h => ⟨h.1, fun a b' q1 q2 => h.2 b' (by omega) q2 a q1⟩, fun h => ⟨h.1, fun b' _ q2 a q3 => h.2 a b' q3 q2⟩⟩
  · have hj : Ev (fun k => shunt_CheckStacks.j1 k l s right false) (if right = true then 0 else 10) := by
      refine Ev.step (f := fun _ => if right = true then some 0 else some 10) (fun k => ?_) (Ev.congr (fun k => ?_) (Ev.now _))
      · simp only [shunt_CheckStacks.j1]
        rw [if_neg (by decide)]
      · split <;> rfl
    refine ⟨if right = true then 0 else 10, r2 _ (Ev.step (f := fun k => shunt_CheckStacks.j1 k l s right false) (fun k => ?_) hj), ?_, ?_⟩
    · simp only [shunt_CheckStacks.j0]
      by_cases c1 : (s.length : Int) = (l.length : Int)
      · rw [if_pos c1, beq_eq_false_iff_ne.mpr (show (b.length : Int) ≠ 0 from fun e => c ⟨by omega, by omega⟩)]
      · rw [if_neg c1]
    · split <;> simp
    · rw [if_neg c, ← r1]
      cases right <;> simp
theorem checkStacks_no (l s b : List Int) (h : ¬ (l.length ≤ 60 ∧ IsOrd l)) (k : Nat) : shunt_CheckStacks.f k l s b = some 2 := by
  have hor : shunt_isOrder.f l = some false := by
    unfold shunt_isOrder.f
    cases c : isOrderB l with
    | false => rfl
    | true => exact absurd ((isOrderB_iff l).1 c) h
  unfold shunt_CheckStacks.f
  rw [hor]
  rfl
end Go.Proofs.Ytjbjongahnocdaa.P

/- What the reference's check of sides answers. -/
namespace Go.Proofs.Ytjbjongahnocdaa.P
open Go.RowKit Go.Proofs.Ytjbjongahnocdaa.S Go.Proofs.Ytjbjongahnocdaa.Defs Go.Proofs.YtjbjongahnocdaaW.PrintWords
set_option linter.unusedVariables false

theorem sidesSort_f (l s : List Int) (h : IsOrd l) (hl : l.length ≤ 60) : ∃ r : Bool, tickingref02_SidesSort.f l s = some r ∧ (r = true ↔ s.length = l.length ∧ SidesOk l s) := by
  unfold tickingref02_SidesSort.f
  rw [if_pos (by omega)]
  by_cases c : s.length = l.length
  case neg => exact ⟨false, if_neg c, ⟨fun h => (by cases h), fun h => absurd h.1 c⟩⟩
  rw [if_pos c]
  have hlen : (l.zip s).length = l.length := by rw [List.length_zip, c, Nat.min_self]
  by_cases hs : ∀ x ∈ s, x = 0 ∨ x = 1
  · have hfst : (l.zip s).map (·.1) = l := List.map_fst_zip (by omega)
    have hi : Inv2 l.length 1 (items [] [] (l.zip s)) := by
      unfold items
      rw [List.nil_append, List.nil_append, hfst]
      exact ⟨h.1, h.2, by omega⟩
    obtain ⟨w', e1, e2⟩ := sides_iff l.length (l.zip s) [] [] 1 (fun x hx => hs _ (List.of_mem_zip (a := x.1) (b := x.2) hx).2) hi (fun h t e => by cases e) (fun h t e => by cases e)
    rw [e1]
    refine ⟨decide (w' = (l.length : Int) + 1), rfl, ?_⟩
    rw [decide_eq_true_eq, e2]
    have hg : Good2 0 1 [] [] (l.zip s) ↔ No231K (l.zip s) := ⟨fun h => h.2.2.2.2, fun h => ⟨List.Pairwise.nil, List.Pairwise.nil, by simp, by simp, h⟩⟩
    rw [hg, no231K_pos]
    constructor
    · intro hn
      refine ⟨c, hs, ?_⟩
      rintro a b h1 h2 he ⟨cc, h3, h4, h5, h6⟩
      have := hn a b cc h1 h3 (by omega)
      simp only [List.getElem_zip] at this
      rw [rd_lt s a (by omega), rd_lt s b (by omega)] at he
      rw [rd_lt l cc (by omega), rd_lt l a (by omega)] at h5
      rw [rd_lt l a (by omega), rd_lt l b (by omega)] at h6
      exact this he ⟨h5, h6⟩
    · rintro ⟨_, _, hn⟩ a b cc h1 h2 h3 he ⟨h5, h6⟩
      simp only [List.getElem_zip] at he h5 h6
      refine hn a b h1 (by omega) ?_ ⟨cc, h2, by omega, ?_, ?_⟩
      · rw [rd_lt s a (by omega), rd_lt s b (by omega)]
        exact he
      · rw [rd_lt l cc (by omega), rd_lt l a (by omega)]
        exact h5
      · rw [rd_lt l a (by omega), rd_lt l b (by omega)]
        exact h6
  · have hb : ∃ x ∈ l.zip s, ¬ (x.2 = 0 ∨ x.2 = 1) := by
      apply Classical.byContradiction
      intro hn
      apply hs
      intro x hx
      obtain ⟨i, hi, rfl⟩ := List.mem_iff_getElem.1 hx
      apply Classical.byContradiction
      intro hx'
      exact hn ⟨(l.zip s)[i]'(by omega), List.getElem_mem _, by simpa only [List.getElem_zip] using hx'⟩
    rw [sides_bad (l.zip s) [] [] 1 hb]
    exact ⟨false, rfl, ⟨fun h => (by cases h), fun h => absurd h.2.1 hs⟩⟩
end Go.Proofs.Ytjbjongahnocdaa.P

/- CheckStacks returns OK exactly for sides that sort or a block, and ErrAnswer otherwise: for every three lists, of each the first 61 numbers count. -/
namespace Go.Proofs.Ytjbjongahnocdaa.Pure
open Go.RowKit Go.Proofs.Ytjbjongahnocdaa.S Go.Proofs.Ytjbjongahnocdaa.P Go.Proofs.Ytjbjongahnocdaa.Defs Go.Proofs.YtjbjongahnocdaaW.PrintWords Go.Proofs.YtjbjongahnocdaaW.PrintLast Go.Proofs.YtjbjongahnocdaaW.PrintMore
set_option linter.unusedVariables false

theorem schecks_end {g : Nat → Option Bool} (h : ∀ k, g k = (tickinglaw02_awake.f k).bind fun t => some t) : Ev g true :=
  Ev.congr h (Ev.bind (f := fun _ t => some t) awake_ev (Ev.now _))
theorem schecks_j0 (e : Int) (x : Bool) (he : e = 0 ∨ e = 10) (hx : x = true ↔ e = 0) : Ev (fun k => tickinglaw02_ShuntStacksChecks.j0 k e x) true := by
  refine Ev.step (f := fun k => (tickinglaw02_awake.f k).bind fun t => some t) (fun k => ?_) (schecks_end fun k => rfl)
  simp only [tickinglaw02_ShuntStacksChecks.j0]
  rcases he with rfl | rfl
  · rw [if_pos (hx.2 rfl), if_pos rfl]
  · rw [if_neg (fun h => absurd (hx.1 h) (by decide)), if_pos rfl]
def ShuntStacksChecks.Is : Prop := ∀ (l0 l2 l3 : List Int), l0.length ≤ maxLen → l0.length * 8 ≤ 140737488351232 → (∀ x ∈ l0, (Lit.int .i64 x).wf = true) → l2.length ≤ maxLen → (∀ x ∈ l2, (Lit.int .i64 x).wf = true) → l3.length ≤ maxLen → (∀ x ∈ l3, (Lit.int .i64 x).wf = true) → ∃ k, tickinglaw02_ShuntStacksChecks.f k l0 l2 l3 = some true
theorem ShuntStacksChecks : ShuntStacksChecks.Is := by
  intro l0 l2 l3
  intros
  apply Ev.rounds
  obtain ⟨o, ho⟩ : ∃ o, o = l0.take 61 := ⟨_, rfl⟩
  obtain ⟨s, hs⟩ : ∃ s, s = l2.take 61 := ⟨_, rfl⟩
  obtain ⟨b, hb⟩ : ∃ b, b = l3.take 61 := ⟨_, rfl⟩
  have hlen : o.length ≤ 61 := by rw [ho, List.length_take]; omega
  have hblen : b.length ≤ 61 := by rw [hb, List.length_take]; omega
  have hOr := Order_ev o 60 (by omega)
  have hf : ∀ k, tickinglaw02_ShuntStacksChecks.f k l0 l2 l3 = ((shunt_CheckStacks.f k o s b).bind fun t553 => ((tickingref02_Order.f k o 60).bind fun t554 => (if t554 = true then ((tickingref02_SidesSort.f o s).bind fun t556 => (if t556 = true then (if (b.length : Int) = 0 then (tickinglaw02_ShuntStacksChecks.j0 k t553 true) else (if (s.length : Int) = 0 then (if (o.length : Int) > 0 then ((tickingref02_StacksBlock.f k o b).bind fun t557 => (tickinglaw02_ShuntStacksChecks.j0 k t553 t557)) else (tickinglaw02_ShuntStacksChecks.j0 k t553 false)) else (tickinglaw02_ShuntStacksChecks.j0 k t553 false))) else (if (s.length : Int) = 0 then (if (o.length : Int) > 0 then ((tickingref02_StacksBlock.f k o b).bind fun t558 => (tickinglaw02_ShuntStacksChecks.j0 k t553 t558)) else (tickinglaw02_ShuntStacksChecks.j0 k t553 false)) else (tickinglaw02_ShuntStacksChecks.j0 k t553 false)))) else (if t553 = 2 then ((tickinglaw02_awake.f k).bind fun t555 => (some t555)) else (some false))))) := by
    intro k
    rw [ho, hs, hb]
    rfl
  refine Ev.congr hf ?_
  by_cases c : o.length ≤ 60 ∧ IsOrd o
  · obtain ⟨c1, c2⟩ := c
    obtain ⟨e, e1, e2, e3⟩ := checkStacks_ev o s b c2 c1 (by omega)
    obtain ⟨r, r1, r2⟩ := sidesSort_f o s c2 c1
    obtain ⟨q, q1, q2⟩ := stacksBlock_ev o b c1 (by omega)
    refine Ev.bind (f := fun k t553 => _) e1 ?_
    refine Ev.bind (f := fun k (t554 : Bool) => _) hOr ?_
    have hpos : Cyc o b → 0 < o.length ∧ b.length ≠ 0 := by
      rintro ⟨b1, _, ⟨b2, _⟩, _⟩
      have := b2 _ (rd_mem (l := b) (x := 0) (by omega) (by omega))
      omega
    have hrest : ¬ (r = true ∧ b.length = 0) → Ev (fun k => (if (s.length : Int) = 0 then (if (o.length : Int) > 0 then ((tickingref02_StacksBlock.f k o b).bind fun t558 => (tickinglaw02_ShuntStacksChecks.j0 k e t558)) else (tickinglaw02_ShuntStacksChecks.j0 k e false)) else (tickinglaw02_ShuntStacksChecks.j0 k e false))) true := by
      intro hno
      have hex : e = 0 ↔ s.length = 0 ∧ 0 < o.length ∧ Cyc o b := by
        rw [e3]
        by_cases d : s.length = o.length ∧ b.length = 0
        · rw [if_pos d]
          constructor
          · exact fun h => absurd ⟨r2.2 ⟨d.1, h⟩, d.2⟩ hno
          · exact fun h => absurd d.2 (hpos h.2.2).2
        · rw [if_neg d]
          exact ⟨fun h => ⟨h.1, (hpos h.2).1, h.2⟩, fun h => ⟨h.1, h.2.2⟩⟩
      by_cases d1 : (s.length : Int) = 0
      · by_cases d2 : (o.length : Int) > 0
        · refine Ev.congr (f := fun k => (tickingref02_StacksBlock.f k o b).bind fun t558 => (tickinglaw02_ShuntStacksChecks.j0 k e t558)) (fun k => by rw [if_pos d1, if_pos d2]) ?_
          refine Ev.bind (f := fun k (t558 : Bool) => (tickinglaw02_ShuntStacksChecks.j0 k e t558)) q1 ?_
          exact schecks_j0 e q e2 (by rw [q2, hex]; exact ⟨fun h => ⟨by omega, by omega, h⟩, fun h => h.2.2⟩)
        · refine Ev.congr (fun k => by rw [if_pos d1, if_neg d2]) (schecks_j0 e false e2 ⟨fun h => (by cases h), fun h => ?_⟩)
          have := hex.1 h
          omega
      · refine Ev.congr (fun k => by rw [if_neg d1]) (schecks_j0 e false e2 ⟨fun h => (by cases h), fun h => ?_⟩)
        have := hex.1 h
        omega
    refine Ev.congr (f := fun k => (if r = true then (if (b.length : Int) = 0 then (tickinglaw02_ShuntStacksChecks.j0 k e true) else (if (s.length : Int) = 0 then (if (o.length : Int) > 0 then ((tickingref02_StacksBlock.f k o b).bind fun t558 => (tickinglaw02_ShuntStacksChecks.j0 k e t558)) else (tickinglaw02_ShuntStacksChecks.j0 k e false)) else (tickinglaw02_ShuntStacksChecks.j0 k e false))) else (if (s.length : Int) = 0 then (if (o.length : Int) > 0 then ((tickingref02_StacksBlock.f k o b).bind fun t558 => (tickinglaw02_ShuntStacksChecks.j0 k e t558)) else (tickinglaw02_ShuntStacksChecks.j0 k e false)) else (tickinglaw02_ShuntStacksChecks.j0 k e false)))) (fun k => ?_) ?_
    · rw [if_pos (decide_eq_true ⟨c2, by omega⟩), r1]
      rfl
    by_cases d : r = true
    · by_cases d2 : (b.length : Int) = 0
      · refine Ev.congr (fun k => by rw [if_pos d, if_pos d2]) (schecks_j0 e true e2 ⟨fun _ => ?_, fun _ => rfl⟩)
        have hd := r2.1 d
        rw [e3, if_pos ⟨hd.1, by omega⟩]
        exact hd.2
      · refine Ev.congr (fun k => ?_) (hrest (fun h => d2 (by omega)))
        rw [if_pos d, if_neg d2]
    · refine Ev.congr (fun k => ?_) (hrest (fun h => d h.1))
      rw [if_neg d]
  · refine Ev.congr (f := fun k => (some (2 : Int)).bind fun t553 => ((tickingref02_Order.f k o 60).bind fun t554 => (if t554 = true then ((tickingref02_SidesSort.f o s).bind fun t556 => (if t556 = true then (if (b.length : Int) = 0 then (tickinglaw02_ShuntStacksChecks.j0 k t553 true) else (if (s.length : Int) = 0 then (if (o.length : Int) > 0 then ((tickingref02_StacksBlock.f k o b).bind fun t557 => (tickinglaw02_ShuntStacksChecks.j0 k t553 t557)) else (tickinglaw02_ShuntStacksChecks.j0 k t553 false)) else (tickinglaw02_ShuntStacksChecks.j0 k t553 false))) else (if (s.length : Int) = 0 then (if (o.length : Int) > 0 then ((tickingref02_StacksBlock.f k o b).bind fun t558 => (tickinglaw02_ShuntStacksChecks.j0 k t553 t558)) else (tickinglaw02_ShuntStacksChecks.j0 k t553 false)) else (tickinglaw02_ShuntStacksChecks.j0 k t553 false)))) else (if t553 = 2 then ((tickinglaw02_awake.f k).bind fun t555 => (some t555)) else (some false))))) (fun k => by rw [checkStacks_no o s b c k]) ?_
    simp only [Option.bind_some]
    refine Ev.bind (f := fun k (t554 : Bool) => _) hOr ?_
    refine schecks_end fun k => ?_
    rw [if_neg (by rw [decide_eq_true_eq]; exact fun h => c ⟨by omega, h.1⟩), if_pos trivial]
end Go.Proofs.Ytjbjongahnocdaa.Pure
