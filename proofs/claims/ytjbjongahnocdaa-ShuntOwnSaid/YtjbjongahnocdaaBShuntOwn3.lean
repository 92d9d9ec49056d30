-- Written by wip/bundle.py: texts of this claim, one behind the other.
import Derived.Test.YtjbjongahnocdaaBShuntOwn2
set_option linter.unusedVariables false
set_option linter.unusedSimpArgs false

/- Passes: a pass moves the greatest item to the end, and enough passes sort. -/
namespace Go.Proofs.Ytjbjongahnocdaa.P
open Go.RowKit Go.Proofs.Ytjbjongahnocdaa.S Go.Proofs.Ytjbjongahnocdaa.Defs Go.Proofs.YtjbjongahnocdaaW.PrintWords

theorem passIn_perm (x : Int) : ∀ s lft : List Int, ((passIn x s lft).2 ++ (passIn x s lft).1).Perm (lft ++ s)
  | [], lft => by simp [passIn]
  | t :: s, lft => by
    unfold passIn
    split
    · refine (passIn_perm x s (lft ++ [t])).trans ?_
      rw [List.append_assoc]
      exact List.Perm.refl _
    · exact List.Perm.refl _
theorem passGo_perm : ∀ xs s lft : List Int, ((passGo xs (s, lft)).2 ++ (passGo xs (s, lft)).1).Perm (lft ++ s ++ xs)
  | [], s, lft => by simp [passGo]
  | x :: xs, s, lft => by
    unfold passGo
    refine (passGo_perm xs _ _).trans ?_
    have := passIn_perm x s lft
    rw [show lft ++ s ++ x :: xs = (lft ++ s ++ [x]) ++ xs by simp]
    refine List.Perm.append_right xs ?_
    refine List.perm_middle.trans ?_
    exact (List.Perm.cons x this).trans (List.perm_append_singleton x _).symm
theorem passOut_perm (l : List Int) : (passOut l).Perm l := by
  have := passGo_perm l [] []
  simpa [passOut] using this
theorem passOut_ord {l : List Int} (h : IsOrd l) : IsOrd (passOut l) := by
  have hp := passOut_perm l
  exact ⟨hp.nodup_iff.2 h.1, fun x hx => by rw [passOut_len]; exact h.2 x (hp.mem_iff.1 hx)⟩

theorem passGo_append : ∀ (a b : List Int) (st : List Int × List Int), passGo (a ++ b) st = passGo b (passGo a st)
  | [], b, st => rfl
  | x :: a, b, (s, lft) => by
    rw [List.cons_append, passGo, passGo_append a b]
    rfl
theorem passIn_all (x : Int) : ∀ s lft : List Int, (∀ t ∈ s, t < x) → passIn x s lft = ([], lft ++ s)
  | [], lft, _ => by simp [passIn]
  | t :: s, lft, h => by
    rw [passIn, if_pos (h t (by simp)), passIn_all x s _ (fun u hu => h u (List.mem_cons_of_mem _ hu)), List.append_assoc]
    rfl
theorem pass_tail : ∀ (b s lft : List Int), Asc b → (∀ t ∈ s, ∀ y ∈ b, t < y) → (passGo b (s, lft)).2 ++ (passGo b (s, lft)).1 = lft ++ s ++ b
  | [], s, lft, _, _ => by simp [passGo]
  | y :: b, s, lft, hb, h => by
    obtain ⟨h1, h2⟩ := (asc_cons y b).1 hb
    rw [passGo, passIn_all y s lft (fun t ht => h t ht y (by simp))]
    rw [pass_tail b [y] (lft ++ s) h2 (fun t ht u hu => by
      rw [List.mem_singleton] at ht
      subst ht
      exact h1 u hu)]
    simp
theorem passIn_bottom (q m : Int) (hq : q < m) : ∀ s lft : List Int, passIn q (s ++ [m]) lft = ((passIn q s lft).1 ++ [m], (passIn q s lft).2)
  | [], lft => by
    show passIn q [m] lft = ([] ++ [m], lft)
    simp only [passIn]
    rw [if_neg (by omega)]
    rfl
  | t :: s, lft => by
    rw [List.cons_append, passIn, passIn]
    split
    · exact passIn_bottom q m hq s _
    · rfl
theorem passGo_bottom (m : Int) : ∀ (q s lft : List Int), (∀ x ∈ q, x < m) → passGo q (s ++ [m], lft) = ((passGo q (s, lft)).1 ++ [m], (passGo q (s, lft)).2)
  | [], s, lft, _ => rfl
  | x :: q, s, lft, h => by
    rw [passGo, passGo, passIn_bottom x m (h x (by simp))]
    exact passGo_bottom m q (x :: (passIn x s lft).1) _ (fun y hy => h y (List.mem_cons_of_mem _ hy))
theorem passIn_left (x : Int) (a : List Int) : ∀ s lft : List Int, passIn x s (a ++ lft) = ((passIn x s lft).1, a ++ (passIn x s lft).2)
  | [], lft => by simp [passIn]
  | t :: s, lft => by
    rw [passIn, passIn]
    split
    · rw [List.append_assoc]
      exact passIn_left x a s _
    · rfl
theorem passGo_left (a : List Int) : ∀ (q s lft : List Int), passGo q (s, a ++ lft) = ((passGo q (s, lft)).1, a ++ (passGo q (s, lft)).2)
  | [], s, lft => rfl
  | x :: q, s, lft => by
    rw [passGo, passGo, passIn_left]
    exact passGo_left a q _ _

theorem passOut_max (p q : List Int) (m : Int) (hp : ∀ x ∈ p, x < m) (hq : ∀ x ∈ q, x < m) : passOut (p ++ m :: q) = passOut p ++ passOut q ++ [m] := by
  unfold passOut
  rw [passGo_append]
  obtain ⟨s1, l1, e⟩ : ∃ s1 l1, passGo p ([], []) = (s1, l1) := ⟨_, _, rfl⟩
  have hm : ∀ t ∈ s1, t < m := fun t ht => by
    have := (passGo_perm p [] []).mem_iff (a := t)
    rw [e] at this
    exact hp t (by simpa using this.1 (List.mem_append_right _ ht))
  rw [e, passGo, passIn_all m s1 l1 hm]
  have h1 := passGo_bottom m q [] (l1 ++ s1) hq
  have h2 := passGo_left (l1 ++ s1) q [] []
  rw [List.append_nil] at h2
  rw [List.nil_append, h2] at h1
  show (passGo q ([m], l1 ++ s1)).2 ++ (passGo q ([m], l1 ++ s1)).1 = _
  rw [h1]
  simp
theorem passOut_tail (a b : List Int) (hb : Asc b) (h : ∀ x ∈ a, ∀ y ∈ b, x < y) : passOut (a ++ b) = passOut a ++ b := by
  unfold passOut
  rw [passGo_append]
  obtain ⟨s1, l1, e⟩ : ∃ s1 l1, passGo a ([], []) = (s1, l1) := ⟨_, _, rfl⟩
  rw [e, pass_tail b s1 l1 hb]
  intro t ht
  have := (passGo_perm a [] []).mem_iff (a := t)
  rw [e] at this
  exact h t (by simpa using this.1 (List.mem_append_right _ ht))

theorem exists_max : ∀ (a : List Int), a ≠ [] → a.Nodup → ∃ p m q, a = p ++ m :: q ∧ (∀ x ∈ p, x < m) ∧ ∀ x ∈ q, x < m
  | [], h, _ => absurd rfl h
  | x :: a, _, hn => by
    obtain ⟨n1, n2⟩ := List.nodup_cons.1 hn
    by_cases ha : a = []
    · subst ha
      exact ⟨[], x, [], rfl, by simp, by simp⟩
    · obtain ⟨p, m, q, e, h1, h2⟩ := exists_max a ha n2
      have hxm : x ≠ m := fun e' => n1 (by rw [e, e']; simp)
      by_cases c : x < m
      · refine ⟨x :: p, m, q, by rw [e]; rfl, fun y hy => ?_, h2⟩
        rcases List.mem_cons.1 hy with rfl | hy
        · exact c
        · exact h1 y hy
      · refine ⟨[], x, a, rfl, by simp, fun y hy => ?_⟩
        rw [e] at hy
        rcases List.mem_append.1 hy with hy | hy
        · have := h1 y hy
          omega
        · rcases List.mem_cons.1 hy with rfl | hy
          · omega
          · have := h2 y hy
            omega

/-- The greatest i items (or all) stand in place at the end. -/
def Placed (i : Nat) (l : List Int) : Prop := ∃ a b, l = a ++ b ∧ Asc b ∧ (∀ x ∈ a, ∀ y ∈ b, x < y) ∧ (a = [] ∨ i ≤ b.length)
theorem placed_step {i : Nat} {l : List Int} (hn : l.Nodup) (h : Placed i l) : Placed (i + 1) (passOut l) := by
  obtain ⟨a, b, e, h1, h2, h3⟩ := h
  subst e
  rw [passOut_tail a b h1 h2]
  by_cases ha : a = []
  · subst ha
    exact ⟨[], b, rfl, h1, by simp, .inl rfl⟩
  · obtain ⟨p, m, q, e, k1, k2⟩ := exists_max a ha (List.nodup_append.1 hn).1
    subst e
    rw [passOut_max p q m k1 k2, List.append_assoc]
    refine ⟨passOut p ++ passOut q, m :: b, rfl, (asc_cons m b).2 ⟨fun y hy => h2 m (by simp) y hy, h1⟩, fun x hx y hy => ?_, .inr ?_⟩
    · have hx' : x < m ∧ x ∈ p ++ m :: q := by
        rcases List.mem_append.1 hx with hx | hx
        · have := (passOut_perm p).mem_iff.1 hx
          exact ⟨k1 x this, by simp [this]⟩
        · have := (passOut_perm q).mem_iff.1 hx
          exact ⟨k2 x this, by simp [this]⟩
      rcases List.mem_cons.1 hy with rfl | hy
      · exact hx'.1
      · exact h2 x hx'.2 y hy
    · rcases h3 with h3 | h3
      · simp at h3
      · simp; omega
theorem placed_asc {l : List Int} (h : Placed l.length l) : Asc l := by
  obtain ⟨a, b, e, h1, h2, h3⟩ := h
  have : a = [] := by
    rcases h3 with h3 | h3
    · exact h3
    · have := congrArg List.length e
      rw [List.length_append] at this
      exact List.eq_nil_of_length_eq_zero (by omega)
  subst this
  rw [e]
  exact h1
theorem placed_last {l : List Int} (hn : IsOrd l) (h : Placed 1 l) (hl : 0 < l.length) : rd l ((l.length : Int) - 1) = l.length := by
  obtain ⟨a, b, e, h1, h2, h3⟩ := h
  have hb : b ≠ [] := by
    rintro rfl
    rcases h3 with h3 | h3
    · subst h3; subst e; simp at hl
    · simp at h3
  have hm := full_range l.length l 0 hn.1 (fun x hx => by have := hn.2 x hx; omega) rfl (l.length : Int) (by omega) (by omega)
  obtain ⟨b', m, rfl⟩ : ∃ b' m, b = b' ++ [m] := ⟨b.dropLast, b.getLast hb, (List.dropLast_concat_getLast hb).symm⟩
  subst e
  have hr : rd (a ++ (b' ++ [m])) (((a ++ (b' ++ [m])).length : Int) - 1) = m := by
    rw [show (((a ++ (b' ++ [m])).length : Int) - 1) = ((a.length + b'.length : Nat) : Int) by simp; omega, rd_nat, List.getD_eq_getElem?_getD, List.getElem?_append_right (by omega), List.getElem?_append_right (by omega)]
    have : a.length + b'.length - a.length - b'.length = 0 := by omega
    rw [this]
    rfl
  rw [hr]
  have hle := (hn.2 m (by simp)).2
  rcases List.mem_append.1 hm with hm' | hm'
  · have := h2 _ hm' m (by simp)
    omega
  · rcases List.mem_append.1 hm' with hm' | hm'
    · have := ((asc_append b' [m]).1 h1).2.2 _ hm' m (by simp)
      omega
    · rw [List.mem_singleton] at hm'
      omega
theorem asc_ord {l : List Int} (h : IsOrd l) (ha : Asc l) : l = (List.range l.length).map (fun i => ((i : Nat) : Int) + 1) := by
  have := asc_range l 0 ha (fun t ht => by have := h.2 t ht; omega)
  refine this.trans (List.map_congr_left fun i _ => by omega)
theorem asc_rd {l : List Int} (h : IsOrd l) (ha : Asc l) (i : Nat) (hi : i < l.length) : rd l (i : Int) = (i : Int) + 1 := by
  have := asc_ord h ha
  rw [rd_nat, this, List.getD_eq_getElem?_getD, List.getElem?_map]
  simp [hi]

end Go.Proofs.Ytjbjongahnocdaa.P

/- What Stack and Pass answer for an order. -/
namespace Go.Proofs.Ytjbjongahnocdaa.P
open Go.RowKit Go.Proofs.Ytjbjongahnocdaa.S Go.Proofs.Ytjbjongahnocdaa.Defs Go.Proofs.YtjbjongahnocdaaW.PrintWords

theorem Pass_f (l : List Int) (h : IsOrd l) (hl : l.length ≤ 60) : shunt_Pass.f l = some (passOut l, 0) := by
  unfold shunt_Pass.f
  rw [if_pos ((isOrderB_iff l).2 ⟨hl, h⟩)]
  rfl
theorem Pass_no (l : List Int) (h : ¬ (l.length ≤ 60 ∧ IsOrd l)) : shunt_Pass.f l = some ([], 2) := by
  unfold shunt_Pass.f
  rw [if_neg (fun h' => h ((isOrderB_iff l).1 h'))]

/-- Stack's answer for an order: the plan of what it did, or a block. -/
theorem Stack_ev (l : List Int) (h : IsOrd l) (hl : l.length ≤ 60) : ∃ p b, Ev (fun k => shunt_Stack.f k l) (p, b, 0) ∧ ((No231 l ∧ b = [] ∧ p = strOfNums (stackGo l ([], [], [])).2.2) ∨ (¬ No231 l ∧ p = ⟨#[]⟩ ∧ BlockOf l b ∧ b ≠ [])) := by
  have hb : isOrderB l = true := (isOrderB_iff l).2 ⟨hl, h⟩
  have hf := stack_full l h
  by_cases hn : No231 l
  · refine ⟨_, _, Ev.congr (fun k => ?_) (Ev.now _), .inl ⟨hn, rfl, rfl⟩⟩
    unfold shunt_Stack.f
    rw [if_pos hb, if_neg (by rw [hf.2 hn]; omega)]
  · obtain ⟨r, h1, h2⟩ := block_ev l (by omega)
    have hlt : (stackGo l ([], [], [])).2.1.length < l.length := by
      have hne : (stackGo l ([], [], [])).2.1.length ≠ l.length := fun e => hn (hf.1 e)
      have hle := stackGo_le l ([], [], [])
      simp at hle
      omega
    refine ⟨⟨#[]⟩, r, Ev.congr (f := fun k => (shunt_block.f k l).bind fun b => some (⟨#[]⟩, b, 0)) (fun k => ?_) (Ev.bind (f := fun _ b => some ((⟨#[]⟩ : ByteArray), b, (0 : Int))) h1 (Ev.now _)), .inr ⟨hn, rfl, h2, fun e => hn ((blockOf_nil h2 h.1).1 e)⟩⟩
    unfold shunt_Stack.f
    rw [if_pos hb, if_pos hlt]
theorem Stack_no (l : List Int) (h : ¬ (l.length ≤ 60 ∧ IsOrd l)) : Ev (fun k => shunt_Stack.f k l) (⟨#[]⟩, [], 2) := by
  refine Ev.congr (fun k => ?_) (Ev.now _)
  unfold shunt_Stack.f
  rw [if_neg (fun h' => h ((isOrderB_iff l).1 h'))]

end Go.Proofs.Ytjbjongahnocdaa.P

/- The order that a statement makes of any list: the ranks of its numbers. -/
namespace Go.Proofs.Ytjbjongahnocdaa.P
open Go.RowKit Go.Proofs.Ytjbjongahnocdaa.S Go.Proofs.Ytjbjongahnocdaa.Defs Go.Proofs.YtjbjongahnocdaaW.PrintWords Go.Proofs.YtjbjongahnocdaaW.PrintMore

/-- The number at k stands before the number at i. -/
def pre (l : List Int) (i k : Nat) : Bool := decide (rd l k < rd l i) || (decide (rd l k = rd l i) && decide (k < i))
def rankAt (l : List Int) (n i : Nat) : Int := 1 + ((List.range n).countP (pre l i) : Nat)
def tameL (l : List Int) (n : Nat) : List Int := (List.range n).map (rankAt l n)

theorem pre_irrefl (l : List Int) (i : Nat) : pre l i i = false := by simp [pre]
theorem pre_trans (l : List Int) {i j k : Nat} (h1 : pre l i k = true) (h2 : pre l j i = true) : pre l j k = true := by
  simp [pre] at h1 h2 ⊢
  omega
theorem pre_total (l : List Int) {i j : Nat} (h : i ≠ j) : pre l i j = true ∨ pre l j i = true := by
  simp [pre]
  omega

theorem countP_lt {α : Type} (p q : α → Bool) : ∀ (l : List α), (∀ x ∈ l, p x = true → q x = true) → ∀ a ∈ l, q a = true → p a = false → l.countP p < l.countP q
  | [], _, a, ha, _, _ => by cases ha
  | x :: l, h, a, ha, hq, hp => by
    have hle : l.countP p ≤ l.countP q := List.countP_mono_left (fun y hy => h y (List.mem_cons_of_mem _ hy))
    rcases List.mem_cons.1 ha with rfl | ha
    · rw [List.countP_cons, List.countP_cons, hq, hp]
      simp
      omega
    · have := countP_lt p q l (fun y hy => h y (List.mem_cons_of_mem _ hy)) a ha hq hp
      have hx := h x (by simp)
      rw [List.countP_cons, List.countP_cons]
      cases hpx : p x with
      | true => rw [hx hpx]; simp; omega
      | false => simp; omega

theorem rank_lt (l : List Int) (n : Nat) {i j : Nat} (hi : i < n) (h : pre l j i = true) : rankAt l n i < rankAt l n j := by
  unfold rankAt
  have := countP_lt (pre l i) (pre l j) (List.range n) (fun k _ hk => pre_trans l hk h) i (by simpa using hi) h (pre_irrefl l i)
  omega
theorem rank_range (l : List Int) (n i : Nat) (hi : i < n) : 1 ≤ rankAt l n i ∧ rankAt l n i ≤ n := by
  unfold rankAt
  have := countP_lt (pre l i) (fun _ => true) (List.range n) (fun _ _ _ => rfl) i (by simpa using hi) rfl (pre_irrefl l i)
  have h2 : (List.range n).countP (fun _ => true) = n := by simp
  omega
theorem tameL_len (l : List Int) (n : Nat) : (tameL l n).length = n := by simp [tameL]
theorem tameL_ord (l : List Int) (n : Nat) : IsOrd (tameL l n) := by
  refine ⟨?_, fun x hx => ?_⟩
  · unfold tameL
    rw [List.Nodup, List.pairwise_map]
    refine List.Pairwise.imp_of_mem (R := fun a b => a ≠ b) (fun {a b} ha hb hab => ?_) List.nodup_range
    have ha' : a < n := by simpa using ha
    have hb' : b < n := by simpa using hb
    rcases pre_total l hab with h | h
    · have := rank_lt l n hb' h
      omega
    · have := rank_lt l n ha' h
      omega
  · obtain ⟨i, hi, rfl⟩ := List.mem_map.1 hx
    rw [tameL_len]
    exact rank_range l n i (by simpa using hi)

theorem tame_step (l : List Int) (n i : Nat) (out : List Int) (k : Nat) (r : Int) (hn : n ≤ l.length) (hi : i < n) (h : k < n) (q : Nat) (w1 : wrap64 (r + 1) = r + 1) (w2 : wrap64 ((k : Int) + 1) = ((k + 1 : Nat) : Int)) :
    tickinglaw02_tame.l1 (q + 1) l out (n : Int) (i : Int) r (k : Int) = tickinglaw02_tame.l1 q l out (n : Int) (i : Int) (if pre l i k = true then r + 1 else r) ((k + 1 : Nat) : Int) := by
  simp only [tickinglaw02_tame.l1]
  rw [if_pos (by omega), if_pos (by omega), if_pos (by omega), if_pos (by omega), if_pos (by omega), w1, w2]
  unfold pre
  by_cases c1 : rd l k < rd l i
  · rw [if_pos c1, decide_eq_true c1, Bool.true_or, if_pos rfl]
  · rw [if_neg c1, decide_eq_false c1, Bool.false_or]
    by_cases c2 : rd l k = rd l i
    · rw [if_pos c2, decide_eq_true c2, Bool.true_and]
      by_cases c3 : k < i
      · rw [if_pos (by omega), decide_eq_true c3, if_pos rfl]
      · rw [if_neg (by omega), decide_eq_false c3, if_neg (by decide)]
    · rw [if_neg c2, decide_eq_false c2, Bool.false_and, if_neg (by decide)]

def cnt (l : List Int) (i k : Nat) : Nat := (List.range k).countP (pre l i)
theorem cnt_le (l : List Int) (i k : Nat) : cnt l i k ≤ k := by
  have := List.countP_le_length (p := pre l i) (l := List.range k)
  simpa [cnt] using this
theorem cnt_succ (l : List Int) (i k : Nat) : cnt l i (k + 1) = cnt l i k + if pre l i k = true then 1 else 0 := by
  unfold cnt
  rw [List.range_succ, List.countP_append, List.countP_singleton]
theorem tame_l1 (l : List Int) (n i : Nat) (hn : n ≤ l.length) (hi : i < n) (hl : n ≤ 1000) (out : List Int) (R : List Int) (ho : out.length ≤ 1000)
    (hR : Ev (fun q => tickinglaw02_tame.l0 q l (out ++ [rankAt l n i]) (n : Int) ((i + 1 : Nat) : Int)) R) (d : Nat) : ∀ (k : Nat), k + d = n → Ev (fun q => tickinglaw02_tame.l1 q l out (n : Int) (i : Int) (1 + (cnt l i k : Int)) (k : Int)) R := by
  induction d with
  | zero =>
    intro k h
    obtain rfl : k = n := h
    have w2 : wrap64 ((i : Int) + 1) = ((i + 1 : Nat) : Int) := by rw [w64 (by omega) (by omega)]; rfl
    refine Ev.step (fun q => ?_) hR
    simp only [tickinglaw02_tame.l1]
    rw [if_neg (by omega), if_pos (by omega), w2]
    rfl
  | succ d ih =>
    intro k h
    have hc := cnt_le l i k
    have := ih (k + 1) (by omega)
    rw [cnt_succ] at this
    refine Ev.step (fun q => tame_step l n i out k (1 + (cnt l i k : Int)) hn hi (by omega) q (w64 (by omega) (by omega)) (by rw [w64 (by omega) (by omega)]; rfl)) ?_
    have e : (if pre l i k = true then 1 + (cnt l i k : Int) + 1 else 1 + (cnt l i k : Int)) = 1 + ((cnt l i k + if pre l i k = true then 1 else 0 : Nat) : Int) := by split <;> omega
    rw [e]
    exact this
theorem tame_l0 (l : List Int) (n : Nat) (hn : n ≤ l.length) (hl : n ≤ 1000) : ∀ (d i : Nat), i + d = n → Ev (fun q => tickinglaw02_tame.l0 q l ((List.range i).map (rankAt l n)) (n : Int) (i : Int)) (tameL l n)
  | 0, i, h => by
    obtain rfl : i = n := by omega
    refine Ev.step (fun q => ?_) (Ev.now _)
    simp only [tickinglaw02_tame.l0]
    rw [if_neg (by omega)]
    rfl
  | d + 1, i, h => by
    have h0 := tame_l0 l n hn hl d (i + 1) (by omega)
    rw [List.range_succ, List.map_append] at h0
    have := tame_l1 l n i hn (by omega) hl _ _ (by simp; omega) h0 n 0 (by omega)
    refine Ev.step (fun q => ?_) this
    simp only [tickinglaw02_tame.l0]
    rw [if_pos (by omega)]
    rfl
theorem tame_ev (l : List Int) (m : Nat) (hm : m ≤ 1000) : Ev (fun q => tickinglaw02_tame.f q l (m : Int)) (tameL l (min l.length m)) := by
  have := tame_l0 l (min l.length m) (by omega) (by omega) (min l.length m) 0 (by omega)
  refine Ev.congr (fun q => ?_) this
  unfold tickinglaw02_tame.f mn
  have e : (if (m : Int) < (l.length : Int) then (m : Int) else (l.length : Int)) = ((min l.length m : Nat) : Int) := by split <;> omega
  rw [e]
  rfl

end Go.Proofs.Ytjbjongahnocdaa.P

/- Results are new memory, and no function changes its arguments: for every list, of which at most 25 numbers count. -/
namespace Go.Proofs.Ytjbjongahnocdaa.Pure
open Go.RowKit Go.Proofs.Ytjbjongahnocdaa.S Go.Proofs.Ytjbjongahnocdaa.P Go.Proofs.Ytjbjongahnocdaa.Defs Go.Proofs.YtjbjongahnocdaaW.PrintWords Go.Proofs.YtjbjongahnocdaaW.PrintLast Go.Proofs.YtjbjongahnocdaaW.PrintMore
set_option linter.unusedVariables false

theorem ShuntOwn : tickinglaw02_ShuntOwn.Pure := by
  intro l0 _ _ _
  apply Ev.rounds
  obtain ⟨o, hoe⟩ : ∃ o, o = tameL l0 (min l0.length 25) := ⟨_, rfl⟩
  have ho : IsOrd o := by rw [hoe]; exact tameL_ord _ _
  have hlen : o.length ≤ 25 := by rw [hoe, tameL_len]; omega
  have htm := tame_ev l0 25 (by omega)
  rw [← hoe] at htm
  have hls : tickinglaw02_list.f o = some o := by
    have e : tickinglaw02_list.f o = some (o.take 61) := rfl
    rw [e, List.take_of_length_le (by omega)]
  obtain ⟨p1, a, s1, _⟩ := Stack_ev o ho (by omega)
  obtain ⟨n, _, hn⟩ := Least_ev o ho (by omega)
  obtain ⟨b, c, s2, _⟩ := Queues_ev o 2 ho (by omega) (by omega) (by omega) n hn
  obtain ⟨s, d, s3, _⟩ := Stacks_ev o ho (by omega)
  unfold tickinglaw02_ShuntOwn.f
  refine Ev.bind (f := fun q (o : List Int) => _) htm ?_
  rw [hls]
  simp only [Option.bind_some]
  refine Ev.bind (f := fun q (x : ByteArray × List Int × Int) => _) s1 ?_
  refine Ev.bind (f := fun q (y : List Int × List Int × Int) => _) s2 ?_
  refine Ev.bind (f := fun q (z : List Int × List Int × Int) => _) s3 ?_
  rw [Pass_f o ho (by omega)]
  simp only [Option.bind_some]
  refine Ev.bind (f := fun q (q1 : Bool) => _) (ints_ev o o (by omega)) ?_
  refine Ev.bind (f := fun q (rp : List Int) => _) (Pass_ev o (by omega)) ?_
  refine Ev.bind (f := fun q (q2 : Bool) => _) (ints_ev (passOut o) (passOut o) (by rw [passOut_len]; omega)) ?_
  exact Ev.congr (fun q => if_pos (by simp)) awake_ev
end Go.Proofs.Ytjbjongahnocdaa.Pure
