-- Written by wip/bundle.py: texts of this claim, one behind the other.
import Derived.Test.YtjbjongahnocdaaBShuntPasses1

/- One stack: what a pass sorts, what the stack sorts, and the pattern that neither does. -/
namespace Go.Proofs.Ytjbjongahnocdaa.P
open Go.RowKit Go.Proofs.Ytjbjongahnocdaa.S Go.Proofs.Ytjbjongahnocdaa.Defs Go.Proofs.YtjbjongahnocdaaW.PrintWords

/-- Nothing greater than t stands ahead of something smaller. -/
def NoPat (t : Int) (xs : List Int) : Prop := xs.Pairwise (fun x y => ¬ (y < t ∧ t < x))
def No231 : List Int → Prop
  | [] => True
  | a :: r => NoPat a r ∧ No231 r
instance (t : Int) (xs : List Int) : Decidable (NoPat t xs) := by unfold NoPat; infer_instance
instance no231dec : (l : List Int) → Decidable (No231 l)
  | [] => .isTrue trivial
  | a :: r => by
    have := no231dec r
    unfold No231
    infer_instance

theorem asc_cons (a : Int) (l : List Int) : Asc (a :: l) ↔ (∀ b ∈ l, a < b) ∧ Asc l := List.pairwise_cons
theorem asc_append (a b : List Int) : Asc (a ++ b) ↔ Asc a ∧ Asc b ∧ ∀ x ∈ a, ∀ y ∈ b, x < y := List.pairwise_append

theorem passIn_cut (x : Int) : ∀ s lft : List Int, Asc s → ∃ p s', s = p ++ s' ∧ (∀ t ∈ p, t < x) ∧ (∀ t ∈ s', x ≤ t) ∧ passIn x s lft = (s', lft ++ p)
  | [], lft, _ => ⟨[], [], rfl, by simp, by simp, by simp [passIn]⟩
  | t :: s, lft, h => by
    obtain ⟨h1, h2⟩ := (asc_cons t s).1 h
    by_cases c : t < x
    · obtain ⟨p, s', e1, e2, e3, e4⟩ := passIn_cut x s (lft ++ [t]) h2
      refine ⟨t :: p, s', by rw [e1]; rfl, ?_, e3, ?_⟩
      · intro y hy
        rcases List.mem_cons.1 hy with rfl | hy
        · exact c
        · exact e2 y hy
      · rw [passIn, if_pos c, e4, List.append_assoc]
        rfl
    · refine ⟨[], t :: s, rfl, by simp, ?_, by rw [passIn, if_neg c, List.append_nil]⟩
      intro y hy
      rcases List.mem_cons.1 hy with rfl | hy
      · omega
      · have := h1 y hy
        omega

theorem no231_cons (x : Int) (xs : List Int) : No231 (x :: xs) ↔ NoPat x xs ∧ No231 xs := Iff.rfl
theorem noPat_cons (t x : Int) (xs : List Int) : NoPat t (x :: xs) ↔ (∀ y ∈ xs, ¬ (y < t ∧ t < x)) ∧ NoPat t xs := List.pairwise_cons

theorem pass_iff : ∀ (xs s lft : List Int), Asc s → (∀ a ∈ s, a ∉ xs) → xs.Nodup →
    (Asc ((passGo xs (s, lft)).2 ++ (passGo xs (s, lft)).1) ↔ Asc lft ∧ (∀ a ∈ lft, ∀ b ∈ s, a < b) ∧ (∀ a ∈ lft, ∀ b ∈ xs, a < b) ∧ (∀ t ∈ s, NoPat t xs) ∧ No231 xs)
  | [], s, lft, hs, _, _ => by
    unfold passGo
    rw [asc_append]
    constructor
    · rintro ⟨h1, _, h3⟩
      exact ⟨h1, h3, by simp, fun t _ => List.Pairwise.nil, trivial⟩
    · rintro ⟨h1, h2, _⟩
      exact ⟨h1, hs, h2⟩
  | x :: xs, s, lft, hs, hd, hn => by
    obtain ⟨p, s', e1, e2, e3, e4⟩ := passIn_cut x s lft hs
    have hxs : x ∉ s := fun hm => hd x hm (by simp)
    obtain ⟨hn1, hn2⟩ := List.nodup_cons.1 hn
    have hs' : Asc s' := by rw [e1] at hs; exact ((asc_append _ _).1 hs).2.1
    have hp : Asc p := by rw [e1] at hs; exact ((asc_append _ _).1 hs).1
    have hps : ∀ a ∈ p, ∀ b ∈ s', a < b := by rw [e1] at hs; exact ((asc_append _ _).1 hs).2.2
    have hxs' : ∀ t ∈ s', x < t := fun t ht => by
      have h1 := e3 t ht
      have h2 : x ≠ t := fun e => hxs (by rw [e1, e]; exact List.mem_append_right _ ht)
      omega
    have hpx : ∀ t ∈ p, ∀ y ∈ xs, t ≠ y := fun t ht y hy e => hd t (by rw [e1]; exact List.mem_append_left _ ht) (by rw [e]; exact List.mem_cons_of_mem _ hy)
    unfold passGo
    rw [e4]
    have ih := pass_iff xs (x :: s') (lft ++ p) ((asc_cons _ _).2 ⟨hxs', hs'⟩) (fun a ha => by
      rcases List.mem_cons.1 ha with rfl | ha
      · exact hn1
      · exact fun hm => hd a (by rw [e1]; exact List.mem_append_right _ ha) (List.mem_cons_of_mem _ hm)) hn2
    rw [ih]
    constructor
    · rintro ⟨k1, k2, k3, k4, k5⟩
      obtain ⟨a1, a2, a3⟩ := (asc_append _ _).1 k1
      refine ⟨a1, ?_, ?_, ?_, k4 x (by simp), k5⟩
      · intro a ha b hb
        rw [e1] at hb
        rcases List.mem_append.1 hb with hb | hb
        · exact a3 a ha b hb
        · exact k2 a (List.mem_append_left _ ha) b (List.mem_cons_of_mem _ hb)
      · intro a ha b hb
        rcases List.mem_cons.1 hb with rfl | hb
        · exact k2 a (List.mem_append_left _ ha) b (by simp)
        · exact k3 a (List.mem_append_left _ ha) b hb
      · intro t ht
        rw [noPat_cons]
        rw [e1] at ht
        rcases List.mem_append.1 ht with ht | ht
        · have hy : ∀ y ∈ xs, t < y := fun y hy => k3 t (List.mem_append_right _ ht) y hy
          refine ⟨fun y hy' => by have := hy y hy'; omega, ?_⟩
          exact List.Pairwise.imp_of_mem (R := fun _ _ => True) (fun {a b} _ hb _ => by have := hy b hb; omega) (List.pairwise_of_forall (fun _ _ => trivial))
        · have := hxs' t ht
          exact ⟨fun y _ => by omega, k4 t (List.mem_cons_of_mem _ ht)⟩
    · rintro ⟨k1, k2, k3, k4, k5, k6⟩
      refine ⟨(asc_append _ _).2 ⟨k1, hp, fun a ha b hb => k2 a ha b (by rw [e1]; exact List.mem_append_left _ hb)⟩, ?_, ?_, ?_, k6⟩
      · intro a ha b hb
        rcases List.mem_append.1 ha with ha | ha
        · rcases List.mem_cons.1 hb with rfl | hb
          · exact k3 a ha b (by simp)
          · exact k2 a ha b (by rw [e1]; exact List.mem_append_right _ hb)
        · rcases List.mem_cons.1 hb with rfl | hb
          · exact e2 a ha
          · exact hps a ha b hb
      · intro a ha b hb
        rcases List.mem_append.1 ha with ha | ha
        · exact k3 a ha b (List.mem_cons_of_mem _ hb)
        · have h1 := ((noPat_cons _ _ _).1 (k4 a (by rw [e1]; exact List.mem_append_left _ ha))).1 b hb
          have h2 := e2 a ha
          have h3 := hpx a ha b hb
          omega
      · intro t ht
        rcases List.mem_cons.1 ht with rfl | ht
        · exact k5
        · exact ((noPat_cons _ _ _).1 (k4 t (by rw [e1]; exact List.mem_append_right _ ht))).2

theorem passOut_asc (l : List Int) (h : l.Nodup) : Asc (passOut l) ↔ No231 l := by
  unfold passOut
  rw [pass_iff l [] [] List.Pairwise.nil (by simp) h]
  exact ⟨fun h => h.2.2.2.2, fun h => ⟨List.Pairwise.nil, by simp, by simp, by simp, h⟩⟩

/-! ### the block -/
theorem rd_succ (x : Int) (l : List Int) (i : Nat) : rd (x :: l) ((i + 1 : Nat) : Int) = rd l (i : Int) := by
  rw [rd_nat, rd_nat, List.getD_cons_succ]
theorem noPat_pos (t : Int) (l : List Int) : NoPat t l ↔ ∀ b c : Nat, b < c → c < l.length → ¬ (rd l c < t ∧ t < rd l b) := by
  unfold NoPat
  rw [List.pairwise_iff_getElem]
  constructor
  · intro h b c hbc hc
    have := h b c (by omega) hc hbc
    rw [rd_lt l b (by omega), rd_lt l c hc]
    exact this
  · intro h b c hb hc hbc
    have := h b c hbc hc
    rw [rd_lt l b (by omega), rd_lt l c hc] at this
    exact this
theorem no231_pos : ∀ l : List Int, No231 l ↔ ∀ a b c : Nat, a < b → b < c → c < l.length → ¬ (rd l c < rd l a ∧ rd l a < rd l b)
  | [] => by simp [No231]
  | x :: l => by
    unfold No231
    rw [noPat_pos, no231_pos l]
    constructor
    · rintro ⟨h1, h2⟩ a b c hab hbc hc
      obtain ⟨b, rfl⟩ : ∃ b', b = b' + 1 := ⟨b - 1, by omega⟩
      obtain ⟨c, rfl⟩ : ∃ c', c = c' + 1 := ⟨c - 1, by omega⟩
      have hc' : c < l.length := by simpa using hc
      cases a with
      | zero =>
        have := h1 b c (by omega) hc'
        rw [rd_succ, rd_succ]
        exact this
      | succ a =>
        have := h2 a b c (by omega) (by omega) hc'
        rw [rd_succ, rd_succ, rd_succ]
        exact this
    · intro h
      refine ⟨fun b c hbc hc => ?_, fun a b c hab hbc hc => ?_⟩
      · have := h 0 (b + 1) (c + 1) (by omega) (by omega) (by simpa using hc)
        rw [rd_succ, rd_succ] at this
        exact this
      · have := h (a + 1) (b + 1) (c + 1) (by omega) (by omega) (by simpa using hc)
        rw [rd_succ, rd_succ, rd_succ] at this
        exact this

/-- What 'blocking' finds. -/
def Found (l : List Int) (a b : Nat) (r : Int) : Prop :=
  (r = 0 ∧ ∀ c : Nat, b < c → c < l.length → ¬ (rd l c < rd l a ∧ rd l a ≤ rd l b)) ∨ ∃ c : Nat, r = c ∧ b < c ∧ c < l.length ∧ rd l c < rd l a ∧ rd l a ≤ rd l b

theorem blocking_loop (l : List Int) (a b : Nat) (ha : a < l.length) (hl : l.length ≤ 1000000) (hab : rd l a ≤ rd l b) : ∀ (d i : Nat), i + d = l.length → b < i → (∀ c : Nat, b < c → c < i → ¬ rd l c < rd l a) →
    ∃ r, Ev (fun k => shunt_blocking.l0 k l (a : Int) (i : Int)) r ∧ Found l a b r
  | 0, i, h, hb, hno => by
    refine ⟨0, Ev.step (fun k => ?_) (Ev.now _), .inl ⟨rfl, fun c h1 h2 h3 => hno c h1 (by omega) h3.1⟩⟩
    simp only [shunt_blocking.l0]
    rw [if_neg (by omega)]
  | d + 1, i, h, hb, hno => by
    by_cases c : rd l (i : Int) < rd l a
    · refine ⟨i, Ev.step (fun k => ?_) (Ev.now _), .inr ⟨i, rfl, hb, by omega, c, hab⟩⟩
      simp only [shunt_blocking.l0]
      rw [if_pos (by omega), if_pos (by omega), if_pos (by omega), if_pos (by omega), if_pos c]
    · obtain ⟨r, h1, h2⟩ := blocking_loop l a b ha hl hab d (i + 1) (by omega) (by omega) (fun c' h3 h4 => by
        by_cases e : c' = i
        · subst e; exact c
        · exact hno c' h3 (by omega))
      refine ⟨r, Ev.step (fun k => ?_) h1, h2⟩
      simp only [shunt_blocking.l0]
      rw [if_pos (by omega), if_pos (by omega), if_pos (by omega), if_pos (by omega), if_neg c, w64 (by omega) (by omega)]
      rfl
theorem blocking_ev (l : List Int) (a b : Nat) (ha : a < l.length) (hb : b < l.length) (hl : l.length ≤ 1000000) : ∃ r, Ev (fun k => shunt_blocking.f k l (a : Int) (b : Int)) r ∧ Found l a b r := by
  by_cases c : rd l a > rd l b
  · refine ⟨0, Ev.congr (fun k => ?_) (Ev.now _), .inl ⟨rfl, fun c' _ _ h => by omega⟩⟩
    unfold shunt_blocking.f
    rw [if_pos (by omega), if_pos (by omega), if_pos (by omega), if_pos (by omega), if_pos c]
  · obtain ⟨r, h1, h2⟩ := blocking_loop l a b ha hl (by omega) (l.length - (b + 1)) (b + 1) (by omega) (by omega) (fun c' h3 h4 => by omega)
    refine ⟨r, Ev.congr (fun k => ?_) h1, h2⟩
    unfold shunt_blocking.f
    rw [if_pos (by omega), if_pos (by omega), if_pos (by omega), if_pos (by omega), if_neg c, w64 (by omega) (by omega)]
    rfl

/-- What 'block' returns. -/
def BlockOf (l r : List Int) : Prop :=
  (r = [] ∧ ∀ a b c : Nat, a < b → b < c → c < l.length → ¬ (rd l c < rd l a ∧ rd l a ≤ rd l b)) ∨
    ∃ a b c : Nat, r = [(a : Int), (b : Int), (c : Int)] ∧ a < b ∧ b < c ∧ c < l.length ∧ rd l c < rd l a ∧ rd l a ≤ rd l b

theorem block_l1 (l : List Int) (b : Nat) (hb : b < l.length) (hl : l.length ≤ 1000000) (hrest : (∀ a c : Nat, a < b → b < c → c < l.length → ¬ (rd l c < rd l a ∧ rd l a ≤ rd l b)) → ∃ r, Ev (fun k => shunt_block.l0 k l (l.length : Int) ((b + 1 : Nat) : Int)) r ∧ BlockOf l r) : ∀ (d a : Nat), a + d = b →
    (∀ a' c : Nat, a' < a → b < c → c < l.length → ¬ (rd l c < rd l a' ∧ rd l a' ≤ rd l b)) → ∃ r, Ev (fun k => shunt_block.l1 k l (b : Int) (l.length : Int) (b : Int) (b : Int) (a : Int)) r ∧ BlockOf l r
  | 0, a, h, hno => by
    obtain ⟨r, h1, h2⟩ := hrest (fun a' c h1 => hno a' c (by omega))
    refine ⟨r, Ev.step (fun k => ?_) h1, h2⟩
    simp only [shunt_block.l1]
    rw [if_neg (by omega), w64 (by omega) (by omega)]
    rfl
  | d + 1, a, h, hno => by
    obtain ⟨q, q1, q2⟩ := blocking_ev l a b (by omega) hb hl
    rcases q2 with ⟨rfl, q2⟩ | ⟨c, rfl, q3, q4, q5, q6⟩
    · obtain ⟨r, h1, h2⟩ := block_l1 l b hb hl hrest d (a + 1) (by omega) (fun a' c h3 h4 h5 => by
        by_cases e : a' = a
        · subst e; exact q2 c h4 h5
        · exact hno a' c (by omega) h4 h5)
      refine ⟨r, ?_, h2⟩
      refine Ev.step (f := fun k => (shunt_blocking.f k l (a : Int) (b : Int)).bind fun t => if t > 0 then some [(a : Int), (b : Int), t] else shunt_block.l1 k l (b : Int) (l.length : Int) (b : Int) (b : Int) (wrap64 ((a : Int) + 1))) (fun k => ?_) (Ev.bind q1 ?_)
      · simp only [shunt_block.l1]
        rw [if_pos (by omega)]
      · refine Ev.congr (fun k => ?_) h1
        rw [if_neg (by omega), w64 (by omega) (by omega)]
        rfl
    · refine ⟨[(a : Int), (b : Int), (c : Int)], ?_, .inr ⟨a, b, c, rfl, by omega, q3, q4, q5, q6⟩⟩
      refine Ev.step (f := fun k => (shunt_blocking.f k l (a : Int) (b : Int)).bind fun t => if t > 0 then some [(a : Int), (b : Int), t] else shunt_block.l1 k l (b : Int) (l.length : Int) (b : Int) (b : Int) (wrap64 ((a : Int) + 1))) (fun k => ?_) (Ev.bind q1 ?_)
      · simp only [shunt_block.l1]
        rw [if_pos (by omega)]
      · refine Ev.congr (fun k => ?_) (Ev.now _)
        rw [if_pos (by omega)]
theorem block_l0 (l : List Int) (hl : l.length ≤ 1000000) : ∀ (d b : Nat), b + d = l.length → (∀ a b' c : Nat, a < b' → b' < b → b' < c → c < l.length → ¬ (rd l c < rd l a ∧ rd l a ≤ rd l b')) →
    ∃ r, Ev (fun k => shunt_block.l0 k l (l.length : Int) (b : Int)) r ∧ BlockOf l r
  | 0, b, h, hno => by
    refine ⟨[], Ev.step (fun k => ?_) (Ev.now _), .inl ⟨rfl, fun a b' c h1 h2 h3 => hno a b' c h1 (by omega) h2 h3⟩⟩
    simp only [shunt_block.l0]
    rw [if_neg (by omega)]
  | d + 1, b, h, hno => by
    obtain ⟨r, h1, h2⟩ := block_l1 l b (by omega) hl (fun hb => block_l0 l hl d (b + 1) (by omega) (fun a b' c h1 h2 h3 h4 => by
      by_cases e : b' = b
      · subst e; exact hb a c h1 h3 h4
      · exact hno a b' c h1 (by omega) h3 h4)) b 0 (by omega) (fun a' c h => by omega)
    refine ⟨r, Ev.step (fun k => ?_) h1, h2⟩
    simp only [shunt_block.l0]
    rw [if_pos (by omega)]
    rfl
theorem block_ev (l : List Int) (hl : l.length ≤ 1000000) : ∃ r, Ev (fun k => shunt_block.f k l) r ∧ BlockOf l r := by
  obtain ⟨r, h1, h2⟩ := block_l0 l hl l.length 0 (by omega) (fun a b c h h' => by omega)
  exact ⟨r, h1, h2⟩
theorem blockOf_nil {l r : List Int} (h : BlockOf l r) (hd : l.Nodup) : r = [] ↔ No231 l := by
  rw [no231_pos]
  rcases h with ⟨rfl, h⟩ | ⟨a, b, c, rfl, h1, h2, h3, h4, h5⟩
  · exact ⟨fun _ a b c k1 k2 k3 k4 => h a b c k1 k2 k3 ⟨k4.1, by omega⟩, fun _ => rfl⟩
  · refine ⟨fun e => (by cases e), fun h => absurd ⟨h4, ?_⟩ (h a b c h1 h2 h3)⟩
    rw [rd_lt l a (by omega), rd_lt l b (by omega)] at h5 ⊢
    have : l[a] ≠ l[b] := List.pairwise_iff_getElem.1 hd a b (by omega) (by omega) h1
    omega

/-! ### what the stack sorts -/
theorem drain_cut : ∀ s lft plan : List Int, ∃ d s', s = d ++ s' ∧ drainS s lft plan = (s', lft ++ d, plan ++ List.replicate d.length 111) ∧ (∀ t ∈ d, (lft.length : Int) < t ∧ t ≤ lft.length + d.length) ∧ Asc d ∧ ∀ h t, s' = h :: t → h ≠ (lft.length : Int) + d.length + 1
  | [], lft, plan => ⟨[], [], rfl, by simp [drainS], by simp, List.Pairwise.nil, fun h t e => by cases e⟩
  | x :: s, lft, plan => by
    by_cases c : x = (lft.length : Int) + 1
    · obtain ⟨d, s', e1, e2, e3, e4, e5⟩ := drain_cut s (lft ++ [x]) (plan ++ [111])
      have hl : (lft ++ [x]).length = lft.length + 1 := by simp
      rw [hl] at e3 e5
      refine ⟨x :: d, s', by rw [e1]; rfl, ?_, ?_, (asc_cons _ _).2 ⟨fun b hb => ?_, e4⟩, fun h t e => ?_⟩
      · rw [drainS, if_pos c, e2, List.append_assoc, List.append_assoc]
        rfl
      · intro t ht
        rw [List.length_cons]
        rcases List.mem_cons.1 ht with rfl | ht
        · omega
        · have := e3 t ht
          omega
      · have := e3 b hb
        omega
      · have := e5 h t e
        rw [List.length_cons]
        omega
    · refine ⟨[], x :: s, rfl, by rw [drainS, if_neg c]; simp, by simp, List.Pairwise.nil, fun h t e => ?_⟩
      injection e with e _
      subst e
      simpa using c

/-- The stack s, what has left, and what is still to come, of an order of n items. -/
structure OnWay (n : Nat) (s lft xs : List Int) : Prop where
  nodup : (s ++ xs).Nodup
  range : ∀ a ∈ s ++ xs, (lft.length : Int) < a ∧ a ≤ n
  count : s.length + xs.length + lft.length = n
  left : lft = (List.range lft.length).map (fun i => ((i : Nat) : Int) + 1)

theorem asc_range (d : List Int) (lo : Int) (hd : Asc d) (h : ∀ t ∈ d, lo < t ∧ t ≤ lo + d.length) : d = (List.range d.length).map (fun i => lo + 1 + ((i : Nat) : Int)) := by
  induction d generalizing lo with
  | nil => rfl
  | cons a t ih =>
    obtain ⟨h1, h2⟩ := (asc_cons a t).1 hd
    have hn : (a :: t).Nodup := List.Pairwise.imp (fun {x y} (h : x < y) => by omega) hd
    have hm := full_range (a :: t).length (a :: t) lo hn h rfl (lo + 1) (by omega) (by simp; omega)
    have ha : a = lo + 1 := by
      rcases List.mem_cons.1 hm with e | hm
      · exact e.symm
      · have := h1 _ hm
        have := h a (by simp)
        omega
    have := ih (lo + 1) h2 (fun b hb => by
      have := h1 b hb
      have := h b (List.mem_cons_of_mem _ hb)
      rw [List.length_cons] at this
      omega)
    rw [List.length_cons, List.range_succ_eq_map, List.map_cons, List.map_map, ha]
    congr 1
    · omega
    · refine this.trans (List.map_congr_left fun i _ => ?_)
      simp only [Function.comp]
      omega

theorem OnWay.step {n : Nat} {s lft xs : List Int} {x : Int} {plan : List Int} (h : OnWay n s lft (x :: xs)) : ∃ d s', x :: s = d ++ s' ∧ drainS (x :: s) lft plan = (s', lft ++ d, plan ++ List.replicate d.length 111) ∧ (∀ t ∈ d, (lft.length : Int) < t ∧ t ≤ lft.length + d.length) ∧ Asc d ∧ (∀ h t, s' = h :: t → h ≠ ((lft ++ d).length : Int) + 1) ∧ OnWay n s' (lft ++ d) xs := by
  obtain ⟨d, s', e1, e2, e3, e4, e5⟩ := drain_cut (x :: s) lft plan
  have hperm : (d ++ (s' ++ xs)).Perm (s ++ x :: xs) := by
    rw [← List.append_assoc, ← e1, List.cons_append]
    exact List.perm_middle.symm
  have hnd : (d ++ (s' ++ xs)).Nodup := hperm.nodup_iff.2 h.nodup
  obtain ⟨n1, n2, n3⟩ := List.nodup_append.1 hnd
  refine ⟨d, s', e1, e2, e3, e4, fun a t e => by have := e5 a t e; rw [List.length_append]; omega, ⟨n2, fun a ha => ?_, ?_, ?_⟩⟩
  · have hr := h.range a (hperm.mem_iff.1 (List.mem_append_right _ ha))
    refine ⟨?_, hr.2⟩
    rw [List.length_append]
    by_cases hle : a ≤ lft.length + d.length
    · have := full_range d.length d lft.length n1 e3 rfl a hr.1 hle
      exact absurd rfl (n3 a this a ha)
    · omega
  · have := h.count
    have hl := congrArg List.length e1
    rw [List.length_append, List.length_cons] at hl
    rw [List.length_append]
    simp only [List.length_cons] at this
    omega
  · have := asc_range d lft.length e4 e3
    rw [List.length_append, List.range_add, List.map_append]
    congr 1
    · exact h.left
    · rw [List.map_map]
      refine this.trans (List.map_congr_left fun i _ => ?_)
      simp only [Function.comp]
      omega

theorem stack_iff (n : Nat) : ∀ (xs s lft plan : List Int), OnWay n s lft xs → (∀ h t, s = h :: t → h ≠ (lft.length : Int) + 1) →
    ((stackGo xs (s, lft, plan)).2.1.length = n ↔ Asc s ∧ (∀ t ∈ s, NoPat t xs) ∧ No231 xs)
  | [], s, lft, plan, h, hd => by
    unfold stackGo
    have hc := h.count
    simp only [List.length_nil] at hc
    constructor
    · intro e
      have : s = [] := List.eq_nil_of_length_eq_zero (by simp only at e; omega)
      subst this
      exact ⟨List.Pairwise.nil, by simp, trivial⟩
    · rintro ⟨ha, _⟩
      cases s with
      | nil => simp only at hc ⊢; simp at hc; exact hc
      | cons a t =>
        exfalso
        have h1 := (asc_cons a t).1 ha
        have hr := h.range
        have hnd := h.nodup
        rw [List.append_nil] at hr hnd
        have hm := full_range (a :: t).length (a :: t) lft.length hnd (fun b hb => by have := hr b hb; omega) rfl ((lft.length : Int) + 1) (by omega) (by simp; omega)
        rcases List.mem_cons.1 hm with e | hm
        · exact hd a t rfl e.symm
        · have := h1.1 _ hm
          have := hr a (by simp)
          omega
  | x :: xs, s, lft, plan, h, hd => by
    obtain ⟨d, s', e1, e2, e3, e4, e5, hw⟩ := h.step (plan := plan ++ [105])
    unfold stackGo
    rw [e2, stack_iff n xs s' (lft ++ d) _ hw e5]
    have hnd := h.nodup
    have hxs : ∀ t ∈ s, t ≠ x := fun t ht e => (List.nodup_append.1 hnd).2.2 t ht x (by simp) e
    have hsx : ∀ t ∈ s, ∀ y ∈ xs, t ≠ y := fun t ht y hy => (List.nodup_append.1 hnd).2.2 t ht y (by simp [hy])
    cases d with
    | nil =>
      rw [List.nil_append] at e1
      rw [← e1, asc_cons, no231_cons]
      constructor
      · rintro ⟨⟨h1, h2⟩, h3, h4⟩
        refine ⟨h2, fun t ht => (noPat_cons _ _ _).2 ⟨fun y hy => by have := h1 t ht; omega, h3 t (by simp [ht])⟩, h3 x (by simp), h4⟩
      · rintro ⟨h2, h3, h4, h5⟩
        refine ⟨⟨fun t ht => ?_, h2⟩, fun t ht => ?_, h5⟩
        · by_cases hlt : x < t
          · exact hlt
          · exfalso
            have hne := hxs t ht
            have hp := ((noPat_cons _ _ _).1 (h3 t ht)).1
            have hm := full_range (s ++ x :: xs).length (s ++ x :: xs) lft.length hnd (fun b hb => by have := h.range b hb; have := h.count; simp at *; omega) rfl ((lft.length : Int) + 1) (by omega) (by simp; omega)
            rcases List.mem_append.1 hm with hm | hm
            · cases s with
              | nil => cases ht
              | cons a r =>
                rcases List.mem_cons.1 hm with e | hm
                · exact hd a r rfl e.symm
                · have h6 := ((asc_cons a r).1 h2).1 _ hm
                  have h7 := h.range a (by simp)
                  omega
            · rcases List.mem_cons.1 hm with e | hm
              · have := e5 x s e1.symm
                simp at this
                omega
              · have h6 := hp _ hm
                have h7 := hsx t ht _ hm
                have h8 := h.range t (by simp [ht])
                omega
        · rcases List.mem_cons.1 ht with rfl | ht
          · exact h4
          · exact ((noPat_cons _ _ _).1 (h3 t ht)).2
    | cons a d' =>
      injection e1 with e0 e1
      subst e0
      have hx : x = (lft.length : Int) + 1 := by
        have hm := full_range (x :: d').length (x :: d') lft.length (List.Pairwise.imp (fun {x y} (h : x < y) => by omega) e4) e3 rfl ((lft.length : Int) + 1) (by omega) (by simp; omega)
        rcases List.mem_cons.1 hm with e | hm
        · exact e.symm
        · have := ((asc_cons x d').1 e4).1 _ hm
          have := h.range x (by simp)
          omega
      have hbig : ∀ b ∈ s' ++ xs, ((lft ++ x :: d').length : Int) < b := fun b hb => (hw.range b hb).1
      have hlen : ((lft ++ x :: d').length : Int) = lft.length + (x :: d').length := by simp
      replace e1 : s = d' ++ s' := e1
      rw [no231_cons, e1, asc_append]
      constructor
      · rintro ⟨h1, h2, h3⟩
        refine ⟨⟨((asc_cons x d').1 e4).2, h1, fun u hu v hv => ?_⟩, fun t ht => (noPat_cons _ _ _).2 ⟨fun y hy => ?_, ?_⟩, ?_, h3⟩
        · have := e3 u (List.mem_cons_of_mem _ hu)
          have := hbig v (List.mem_append_left _ hv)
          omega
        · have := hbig y (List.mem_append_right _ hy)
          have : (lft.length : Int) < t ∧ t ≤ n := h.range t (by rw [e1]; exact List.mem_append_left _ ht)
          omega
        · rcases List.mem_append.1 ht with ht | ht
          · exact List.Pairwise.imp_of_mem (R := fun _ _ => True) (fun {u v} _ hv _ => by
              have := hbig v (List.mem_append_right _ hv)
              have := e3 t (List.mem_cons_of_mem _ ht)
              omega) (List.pairwise_of_forall (fun _ _ => trivial))
          · exact h2 t ht
        · exact List.Pairwise.imp_of_mem (R := fun _ _ => True) (fun {u v} _ hv _ => by
              have := hbig v (List.mem_append_right _ hv)
              have : 0 < (x :: d').length := by simp
              omega) (List.pairwise_of_forall (fun _ _ => trivial))
      · rintro ⟨⟨_, h1, _⟩, h2, _, h3⟩
        exact ⟨h1, fun t ht => ((noPat_cons _ _ _).1 (h2 t (List.mem_append_right _ ht))).2, h3⟩

theorem onWay_start (l : List Int) (h : IsOrd l) : OnWay l.length [] [] l :=
  ⟨by simpa using h.1, fun a ha => by have := h.2 a (by simpa using ha); simp; omega, by simp, rfl⟩
theorem stack_full (l : List Int) (h : IsOrd l) : (stackGo l ([], [], [])).2.1.length = l.length ↔ No231 l := by
  rw [stack_iff l.length l [] [] [] (onWay_start l h) (fun _ _ e => by cases e)]
  exact ⟨fun h => h.2.2, fun h => ⟨List.Pairwise.nil, by simp, h⟩⟩

theorem drainS_le : ∀ s lft plan : List Int, (drainS s lft plan).2.1.length + (drainS s lft plan).1.length = lft.length + s.length
  | [], lft, plan => by simp [drainS]
  | x :: s, lft, plan => by
    rw [drainS]
    split
    · rw [drainS_le s]; simp; omega
    · rfl
theorem stackGo_le : ∀ (l : List Int) (st : List Int × List Int × List Int), (stackGo l st).2.1.length ≤ st.2.1.length + st.1.length + l.length
  | [], (s, lft, plan) => by simp [stackGo]
  | x :: l, (s, lft, plan) => by
    have h1 := stackGo_le l (drainS (x :: s) lft (plan ++ [105]))
    have h2 := drainS_le (x :: s) lft (plan ++ [105])
    rw [stackGo]
    simp only [List.length_cons] at h2 ⊢
    omega

end Go.Proofs.Ytjbjongahnocdaa.P

/- Passes: a pass moves the greatest item to the end, and enough passes sort. -/
namespace Go.Proofs.Ytjbjongahnocdaa.P
open Go.RowKit Go.Proofs.Ytjbjongahnocdaa.S Go.Proofs.Ytjbjongahnocdaa.Defs Go.Proofs.YtjbjongahnocdaaW.PrintWords

theorem passIn_perm (x : Int) : ∀ s lft : List Int, ((passIn x s lft).2 ++ (passIn x s lft).1).Perm (lft ++ s)
  | [], lft => by simp [passIn]
  | t :: s, lft => by
    unfold passIn
    split
    · refine (passIn_perm x s (lft ++ [t])).trans ?_
      rw [List.append_assoc]
      exact List.Perm.refl _
    · exact List.Perm.refl _
theorem passGo_perm : ∀ xs s lft : List Int, ((passGo xs (s, lft)).2 ++ (passGo xs (s, lft)).1).Perm (lft ++ s ++ xs)
  | [], s, lft => by simp [passGo]
  | x :: xs, s, lft => by
    unfold passGo
    refine (passGo_perm xs _ _).trans ?_
    have := passIn_perm x s lft
    rw [show lft ++ s ++ x :: xs = (lft ++ s ++ [x]) ++ xs by simp]
    refine List.Perm.append_right xs ?_
    refine List.perm_middle.trans ?_
    exact (List.Perm.cons x this).trans (List.perm_append_singleton x _).symm
theorem passOut_perm (l : List Int) : (passOut l).Perm l := by
  have := passGo_perm l [] []
  simpa [passOut] using this
theorem passOut_ord {l : List Int} (h : IsOrd l) : IsOrd (passOut l) := by
  have hp := passOut_perm l
  exact ⟨hp.nodup_iff.2 h.1, fun x hx => by rw [passOut_len]; exact h.2 x (hp.mem_iff.1 hx)⟩

theorem passGo_append : ∀ (a b : List Int) (st : List Int × List Int), passGo (a ++ b) st = passGo b (passGo a st)
  | [], b, st => rfl
  | x :: a, b, (s, lft) => by
    rw [List.cons_append, passGo, passGo_append a b]
    rfl
theorem passIn_all (x : Int) : ∀ s lft : List Int, (∀ t ∈ s, t < x) → passIn x s lft = ([], lft ++ s)
  | [], lft, _ => by simp [passIn]
  | t :: s, lft, h => by
    rw [passIn, if_pos (h t (by simp)), passIn_all x s _ (fun u hu => h u (List.mem_cons_of_mem _ hu)), List.append_assoc]
    rfl
theorem pass_tail : ∀ (b s lft : List Int), Asc b → (∀ t ∈ s, ∀ y ∈ b, t < y) → (passGo b (s, lft)).2 ++ (passGo b (s, lft)).1 = lft ++ s ++ b
  | [], s, lft, _, _ => by simp [passGo]
  | y :: b, s, lft, hb, h => by
    obtain ⟨h1, h2⟩ := (asc_cons y b).1 hb
    rw [passGo, passIn_all y s lft (fun t ht => h t ht y (by simp))]
    rw [pass_tail b [y] (lft ++ s) h2 (fun t ht u hu => by
      rw [List.mem_singleton] at ht
      subst ht
      exact h1 u hu)]
    simp
theorem passIn_bottom (q m : Int) (hq : q < m) : ∀ s lft : List Int, passIn q (s ++ [m]) lft = ((passIn q s lft).1 ++ [m], (passIn q s lft).2)
  | [], lft => by
    show passIn q [m] lft = ([] ++ [m], lft)
    simp only [passIn]
    rw [if_neg (by omega)]
    rfl
  | t :: s, lft => by
    rw [List.cons_append, passIn, passIn]
    split
    · exact passIn_bottom q m hq s _
    · rfl
theorem passGo_bottom (m : Int) : ∀ (q s lft : List Int), (∀ x ∈ q, x < m) → passGo q (s ++ [m], lft) = ((passGo q (s, lft)).1 ++ [m], (passGo q (s, lft)).2)
  | [], s, lft, _ => rfl
  | x :: q, s, lft, h => by
    rw [passGo, passGo, passIn_bottom x m (h x (by simp))]
    exact passGo_bottom m q (x :: (passIn x s lft).1) _ (fun y hy => h y (List.mem_cons_of_mem _ hy))
theorem passIn_left (x : Int) (a : List Int) : ∀ s lft : List Int, passIn x s (a ++ lft) = ((passIn x s lft).1, a ++ (passIn x s lft).2)
  | [], lft => by simp [passIn]
  | t :: s, lft => by
    rw [passIn, passIn]
    split
    · rw [List.append_assoc]
      exact passIn_left x a s _
    · rfl
theorem passGo_left (a : List Int) : ∀ (q s lft : List Int), passGo q (s, a ++ lft) = ((passGo q (s, lft)).1, a ++ (passGo q (s, lft)).2)
  | [], s, lft => rfl
  | x :: q, s, lft => by
    rw [passGo, passGo, passIn_left]
    exact passGo_left a q _ _

theorem passOut_max (p q : List Int) (m : Int) (hp : ∀ x ∈ p, x < m) (hq : ∀ x ∈ q, x < m) : passOut (p ++ m :: q) = passOut p ++ passOut q ++ [m] := by
  unfold passOut
  rw [passGo_append]
  obtain ⟨s1, l1, e⟩ : ∃ s1 l1, passGo p ([], []) = (s1, l1) := ⟨_, _, rfl⟩
  have hm : ∀ t ∈ s1, t < m := fun t ht => by
    have := (passGo_perm p [] []).mem_iff (a := t)
    rw [e] at this
    exact hp t (by simpa using this.1 (List.mem_append_right _ ht))
  rw [e, passGo, passIn_all m s1 l1 hm]
  have h1 := passGo_bottom m q [] (l1 ++ s1) hq
  have h2 := passGo_left (l1 ++ s1) q [] []
  rw [List.append_nil] at h2
  rw [List.nil_append, h2] at h1
  show (passGo q ([m], l1 ++ s1)).2 ++ (passGo q ([m], l1 ++ s1)).1 = _
  rw [h1]
  simp
theorem passOut_tail (a b : List Int) (hb : Asc b) (h : ∀ x ∈ a, ∀ y ∈ b, x < y) : passOut (a ++ b) = passOut a ++ b := by
  unfold passOut
  rw [passGo_append]
  obtain ⟨s1, l1, e⟩ : ∃ s1 l1, passGo a ([], []) = (s1, l1) := ⟨_, _, rfl⟩
  rw [e, pass_tail b s1 l1 hb]
  intro t ht
  have := (passGo_perm a [] []).mem_iff (a := t)
  rw [e] at this
  exact h t (by simpa using this.1 (List.mem_append_right _ ht))

theorem exists_max : ∀ (a : List Int), a ≠ [] → a.Nodup → ∃ p m q, a = p ++ m :: q ∧ (∀ x ∈ p, x < m) ∧ ∀ x ∈ q, x < m
  | [], h, _ => absurd rfl h
  | x :: a, _, hn => by
    obtain ⟨n1, n2⟩ := List.nodup_cons.1 hn
    by_cases ha : a = []
    · subst ha
      exact ⟨[], x, [], rfl, by simp, by simp⟩
    · obtain ⟨p, m, q, e, h1, h2⟩ := exists_max a ha n2
      have hxm : x ≠ m := fun e' => n1 (by rw [e, e']; simp)
      by_cases c : x < m
      · refine ⟨x :: p, m, q, by rw [e]; rfl, fun y hy => ?_, h2⟩
        rcases List.mem_cons.1 hy with rfl | hy
        · exact c
        · exact h1 y hy
      · refine ⟨[], x, a, rfl, by simp, fun y hy => ?_⟩
        rw [e] at hy
        rcases List.mem_append.1 hy with hy | hy
        · have := h1 y hy
          omega
        · rcases List.mem_cons.1 hy with rfl | hy
          · omega
          · have := h2 y hy
            omega

/-- The greatest i items (or all) stand in place at the end. -/
def Placed (i : Nat) (l : List Int) : Prop := ∃ a b, l = a ++ b ∧ Asc b ∧ (∀ x ∈ a, ∀ y ∈ b, x < y) ∧ (a = [] ∨ i ≤ b.length)
theorem placed_step {i : Nat} {l : List Int} (hn : l.Nodup) (h : Placed i l) : Placed (i + 1) (passOut l) := by
  obtain ⟨a, b, e, h1, h2, h3⟩ := h
  subst e
  rw [passOut_tail a b h1 h2]
  by_cases ha : a = []
  · subst ha
    exact ⟨[], b, rfl, h1, by simp, .inl rfl⟩
  · obtain ⟨p, m, q, e, k1, k2⟩ := exists_max a ha (List.nodup_append.1 hn).1
    subst e
    rw [passOut_max p q m k1 k2, List.append_assoc]
    refine ⟨passOut p ++ passOut q, m :: b, rfl, (asc_cons m b).2 ⟨fun y hy => h2 m (by simp) y hy, h1⟩, fun x hx y hy => ?_, .inr ?_⟩
    · have hx' : x < m ∧ x ∈ p ++ m :: q := by
        rcases List.mem_append.1 hx with hx | hx
        · have := (passOut_perm p).mem_iff.1 hx
          exact ⟨k1 x this, by simp [this]⟩
        · have := (passOut_perm q).mem_iff.1 hx
          exact ⟨k2 x this, by simp [this]⟩
      rcases List.mem_cons.1 hy with rfl | hy
      · exact hx'.1
      · exact h2 x hx'.2 y hy
    · rcases h3 with h3 | h3
      · simp at h3
      · simp; omega
theorem placed_asc {l : List Int} (h : Placed l.length l) : Asc l := by
  obtain ⟨a, b, e, h1, h2, h3⟩ := h
  have : a = [] := by
    rcases h3 with h3 | h3
    · exact h3
    · have := congrArg List.length e
      rw [List.length_append] at this
      exact List.eq_nil_of_length_eq_zero (by omega)
  subst this
  rw [e]
  exact h1
theorem placed_last {l : List Int} (hn : IsOrd l) (h : Placed 1 l) (hl : 0 < l.length) : rd l ((l.length : Int) - 1) = l.length := by
  obtain ⟨a, b, e, h1, h2, h3⟩ := h
  have hb : b ≠ [] := by
    rintro rfl
    rcases h3 with h3 | h3
    · subst h3; subst e; simp at hl
    · simp at h3
  have hm := full_range l.length l 0 hn.1 (fun x hx => by have := hn.2 x hx; omega) rfl (l.length : Int) (by omega) (by omega)
  obtain ⟨b', m, rfl⟩ : ∃ b' m, b = b' ++ [m] := ⟨b.dropLast, b.getLast hb, (List.dropLast_concat_getLast hb).symm⟩
  subst e
  have hr : rd (a ++ (b' ++ [m])) (((a ++ (b' ++ [m])).length : Int) - 1) = m := by
    rw [show (((a ++ (b' ++ [m])).length : Int) - 1) = ((a.length + b'.length : Nat) : Int) by simp; omega, rd_nat, List.getD_eq_getElem?_getD, List.getElem?_append_right (by omega), List.getElem?_append_right (by omega)]
    have : a.length + b'.length - a.length - b'.length = 0 := by omega
    rw [this]
    rfl
  rw [hr]
  have hle := (hn.2 m (by simp)).2
  rcases List.mem_append.1 hm with hm' | hm'
  · have := h2 _ hm' m (by simp)
    omega
  · rcases List.mem_append.1 hm' with hm' | hm'
    · have := ((asc_append b' [m]).1 h1).2.2 _ hm' m (by simp)
      omega
    · rw [List.mem_singleton] at hm'
      omega
theorem asc_ord {l : List Int} (h : IsOrd l) (ha : Asc l) : l = (List.range l.length).map (fun i => ((i : Nat) : Int) + 1) := by
  have := asc_range l 0 ha (fun t ht => by have := h.2 t ht; omega)
  refine this.trans (List.map_congr_left fun i _ => by omega)
theorem asc_rd {l : List Int} (h : IsOrd l) (ha : Asc l) (i : Nat) (hi : i < l.length) : rd l (i : Int) = (i : Int) + 1 := by
  have := asc_ord h ha
  rw [rd_nat, this, List.getD_eq_getElem?_getD, List.getElem?_map]
  simp [hi]

end Go.Proofs.Ytjbjongahnocdaa.P

/- What Stack and Pass answer for an order. -/
namespace Go.Proofs.Ytjbjongahnocdaa.P
open Go.RowKit Go.Proofs.Ytjbjongahnocdaa.S Go.Proofs.Ytjbjongahnocdaa.Defs Go.Proofs.YtjbjongahnocdaaW.PrintWords

theorem Pass_f (l : List Int) (h : IsOrd l) (hl : l.length ≤ 60) : shunt_Pass.f l = some (passOut l, 0) := by
  unfold shunt_Pass.f
  rw [if_pos ((isOrderB_iff l).2 ⟨hl, h⟩)]
  rfl
theorem Pass_no (l : List Int) (h : ¬ (l.length ≤ 60 ∧ IsOrd l)) : shunt_Pass.f l = some ([], 2) := by
  unfold shunt_Pass.f
  rw [if_neg (fun h' => h ((isOrderB_iff l).1 h'))]

/-- Stack's answer for an order: the plan of what it did, or a block. -/
theorem Stack_ev (l : List Int) (h : IsOrd l) (hl : l.length ≤ 60) : ∃ p b, Ev (fun k => shunt_Stack.f k l) (p, b, 0) ∧ ((No231 l ∧ b = [] ∧ p = strOfNums (stackGo l ([], [], [])).2.2) ∨ (¬ No231 l ∧ p = ⟨#[]⟩ ∧ BlockOf l b ∧ b ≠ [])) := by
  have hb : isOrderB l = true := (isOrderB_iff l).2 ⟨hl, h⟩
  have hf := stack_full l h
  by_cases hn : No231 l
  · refine ⟨_, _, Ev.congr (fun k => ?_) (Ev.now _), .inl ⟨hn, rfl, rfl⟩⟩
    unfold shunt_Stack.f
    rw [if_pos hb, if_neg (by rw [hf.2 hn]; omega)]
  · obtain ⟨r, h1, h2⟩ := block_ev l (by omega)
    have hlt : (stackGo l ([], [], [])).2.1.length < l.length := by
      have hne : (stackGo l ([], [], [])).2.1.length ≠ l.length := fun e => hn (hf.1 e)
      have hle := stackGo_le l ([], [], [])
      simp at hle
      omega
    refine ⟨⟨#[]⟩, r, Ev.congr (f := fun k => (shunt_block.f k l).bind fun b => some (⟨#[]⟩, b, 0)) (fun k => ?_) (Ev.bind (f := fun _ b => some ((⟨#[]⟩ : ByteArray), b, (0 : Int))) h1 (Ev.now _)), .inr ⟨hn, rfl, h2, fun e => hn ((blockOf_nil h2 h.1).1 e)⟩⟩
    unfold shunt_Stack.f
    rw [if_pos hb, if_pos hlt]
theorem Stack_no (l : List Int) (h : ¬ (l.length ≤ 60 ∧ IsOrd l)) : Ev (fun k => shunt_Stack.f k l) (⟨#[]⟩, [], 2) := by
  refine Ev.congr (fun k => ?_) (Ev.now _)
  unfold shunt_Stack.f
  rw [if_neg (fun h' => h ((isOrderB_iff l).1 h'))]

end Go.Proofs.Ytjbjongahnocdaa.P

/- The order that a statement makes of any list: the ranks of its numbers. -/
namespace Go.Proofs.Ytjbjongahnocdaa.P
open Go.RowKit Go.Proofs.Ytjbjongahnocdaa.S Go.Proofs.Ytjbjongahnocdaa.Defs Go.Proofs.YtjbjongahnocdaaW.PrintWords Go.Proofs.YtjbjongahnocdaaW.PrintMore

/-- The number at k stands before the number at i. -/
def pre (l : List Int) (i k : Nat) : Bool := decide (rd l k < rd l i) || (decide (rd l k = rd l i) && decide (k < i))
def rankAt (l : List Int) (n i : Nat) : Int := 1 + ((List.range n).countP (pre l i) : Nat)
def tameL (l : List Int) (n : Nat) : List Int := (List.range n).map (rankAt l n)

theorem pre_irrefl (l : List Int) (i : Nat) : pre l i i = false := by simp [pre]
theorem pre_trans (l : List Int) {i j k : Nat} (h1 : pre l i k = true) (h2 : pre l j i = true) : pre l j k = true := by
  simp [pre] at h1 h2 ⊢
  omega
theorem pre_total (l : List Int) {i j : Nat} (h : i ≠ j) : pre l i j = true ∨ pre l j i = true := by
  simp [pre]
  omega

theorem countP_lt {α : Type} (p q : α → Bool) : ∀ (l : List α), (∀ x ∈ l, p x = true → q x = true) → ∀ a ∈ l, q a = true → p a = false → l.countP p < l.countP q
  | [], _, a, ha, _, _ => by cases ha
  | x :: l, h, a, ha, hq, hp => by
    have hle : l.countP p ≤ l.countP q := List.countP_mono_left (fun y hy => h y (List.mem_cons_of_mem _ hy))
    rcases List.mem_cons.1 ha with rfl | ha
    · rw [List.countP_cons, List.countP_cons, hq, hp]
      simp
      omega
    · have := countP_lt p q l (fun y hy => h y (List.mem_cons_of_mem _ hy)) a ha hq hp
      have hx := h x (by simp)
      rw [List.countP_cons, List.countP_cons]
      cases hpx : p x with
      | true => rw [hx hpx]; simp; omega
      | false => simp; omega

theorem rank_lt (l : List Int) (n : Nat) {i j : Nat} (hi : i < n) (h : pre l j i = true) : rankAt l n i < rankAt l n j := by
  unfold rankAt
  have := countP_lt (pre l i) (pre l j) (List.range n) (fun k _ hk => pre_trans l hk h) i (by simpa using hi) h (pre_irrefl l i)
  omega
theorem rank_range (l : List Int) (n i : Nat) (hi : i < n) : 1 ≤ rankAt l n i ∧ rankAt l n i ≤ n := by
  unfold rankAt
  have := countP_lt (pre l i) (fun _ => true) (List.range n) (fun _ _ _ => rfl) i (by simpa using hi) rfl (pre_irrefl l i)
  have h2 : (List.range n).countP (fun _ => true) = n := by simp
  omega
theorem tameL_len (l : List Int) (n : Nat) : (tameL l n).length = n := by simp [tameL]
theorem tameL_ord (l : List Int) (n : Nat) : IsOrd (tameL l n) := by
  refine ⟨?_, fun x hx => ?_⟩
  · unfold tameL
    rw [List.Nodup, List.pairwise_map]
    refine List.Pairwise.imp_of_mem (R := fun a b => a ≠ b) (fun {a b} ha hb hab => ?_) List.nodup_range
    have ha' : a < n := by simpa using ha
    have hb' : b < n := by simpa using hb
    rcases pre_total l hab with h | h
    · have := rank_lt l n hb' h
      omega
    · have := rank_lt l n ha' h
      omega
  · obtain ⟨i, hi, rfl⟩ := List.mem_map.1 hx
    rw [tameL_len]
    exact rank_range l n i (by simpa using hi)

theorem tame_step (l : List Int) (n i : Nat) (out : List Int) (k : Nat) (r : Int) (hn : n ≤ l.length) (hi : i < n) (h : k < n) (q : Nat) (w1 : wrap64 (r + 1) = r + 1) (w2 : wrap64 ((k : Int) + 1) = ((k + 1 : Nat) : Int)) :
    tickinglaw02_tame.l1 (q + 1) l out (n : Int) (i : Int) r (k : Int) = tickinglaw02_tame.l1 q l out (n : Int) (i : Int) (if pre l i k = true then r + 1 else r) ((k + 1 : Nat) : Int) := by
  simp only [tickinglaw02_tame.l1]
  rw [if_pos (by omega), if_pos (by omega), if_pos (by omega), if_pos (by omega), if_pos (by omega), w1, w2]
  unfold pre
  by_cases c1 : rd l k < rd l i
  · rw [if_pos c1, decide_eq_true c1, Bool.true_or, if_pos rfl]
  · rw [if_neg c1, decide_eq_false c1, Bool.false_or]
    by_cases c2 : rd l k = rd l i
    · rw [if_pos c2, decide_eq_true c2, Bool.true_and]
      by_cases c3 : k < i
      · rw [if_pos (by omega), decide_eq_true c3, if_pos rfl]
      · rw [if_neg (by omega), decide_eq_false c3, if_neg (by decide)]
    · rw [if_neg c2, decide_eq_false c2, Bool.false_and, if_neg (by decide)]

def cnt (l : List Int) (i k : Nat) : Nat := (List.range k).countP (pre l i)
theorem cnt_le (l : List Int) (i k : Nat) : cnt l i k ≤ k := by
  have := List.countP_le_length (p := pre l i) (l := List.range k)
  simpa [cnt] using this
theorem cnt_succ (l : List Int) (i k : Nat) : cnt l i (k + 1) = cnt l i k + if pre l i k = true then 1 else 0 := by
  unfold cnt
  rw [List.range_succ, List.countP_append, List.countP_singleton]
theorem tame_l1 (l : List Int) (n i : Nat) (hn : n ≤ l.length) (hi : i < n) (hl : n ≤ 1000) (out : List Int) (R : List Int) (ho : out.length ≤ 1000)
    (hR : Ev (fun q => tickinglaw02_tame.l0 q l (out ++ [rankAt l n i]) (n : Int) ((i + 1 : Nat) : Int)) R) (d : Nat) : ∀ (k : Nat), k + d = n → Ev (fun q => tickinglaw02_tame.l1 q l out (n : Int) (i : Int) (1 + (cnt l i k : Int)) (k : Int)) R := by
  induction d with
  | zero =>
    intro k h
    obtain rfl : k = n := h
    have w2 : wrap64 ((i : Int) + 1) = ((i + 1 : Nat) : Int) := by rw [w64 (by omega) (by omega)]; rfl
    refine Ev.step (fun q => ?_) hR
    simp only [tickinglaw02_tame.l1]
    rw [if_neg (by omega), if_pos (by omega), w2]
    rfl
  | succ d ih =>
    intro k h
    have hc := cnt_le l i k
    have := ih (k + 1) (by omega)
    rw [cnt_succ] at this
    refine Ev.step (fun q => tame_step l n i out k (1 + (cnt l i k : Int)) hn hi (by omega) q (w64 (by omega) (by omega)) (by rw [w64 (by omega) (by omega)]; rfl)) ?_
    have e : (if pre l i k = true then 1 + (cnt l i k : Int) + 1 else 1 + (cnt l i k : Int)) = 1 + ((cnt l i k + if pre l i k = true then 1 else 0 : Nat) : Int) := by split <;> omega
    rw [e]
    exact this
theorem tame_l0 (l : List Int) (n : Nat) (hn : n ≤ l.length) (hl : n ≤ 1000) : ∀ (d i : Nat), i + d = n → Ev (fun q => tickinglaw02_tame.l0 q l ((List.range i).map (rankAt l n)) (n : Int) (i : Int)) (tameL l n)
  | 0, i, h => by
    obtain rfl : i = n := by omega
    refine Ev.step (fun q => ?_) (Ev.now _)
    simp only [tickinglaw02_tame.l0]
    rw [if_neg (by omega)]
    rfl
  | d + 1, i, h => by
    have h0 := tame_l0 l n hn hl d (i + 1) (by omega)
    rw [List.range_succ, List.map_append] at h0
    have := tame_l1 l n i hn (by omega) hl _ _ (by simp; omega) h0 n 0 (by omega)
    refine Ev.step (fun q => ?_) this
    simp only [tickinglaw02_tame.l0]
    rw [if_pos (by omega)]
    rfl
theorem tame_ev (l : List Int) (m : Nat) (hm : m ≤ 1000) : Ev (fun q => tickinglaw02_tame.f q l (m : Int)) (tameL l (min l.length m)) := by
  have := tame_l0 l (min l.length m) (by omega) (by omega) (min l.length m) 0 (by omega)
  refine Ev.congr (fun q => ?_) this
  unfold tickinglaw02_tame.f mn
  have e : (if (m : Int) < (l.length : Int) then (m : Int) else (l.length : Int)) = ((min l.length m : Nat) : Int) := by split <;> omega
  rw [e]
  rfl

end Go.Proofs.Ytjbjongahnocdaa.P

/- One stack sorts an order exactly if a pass leads to ascending items; a pass moves the greatest item to the end, and as many passes as there are items sort: for every list, of which at most 30 numbers count. -/
namespace Go.Proofs.Ytjbjongahnocdaa.Pure
open Go.RowKit Go.Proofs.Ytjbjongahnocdaa.S Go.Proofs.Ytjbjongahnocdaa.P Go.Proofs.YtjbjongahnocdaaW.PrintWords Go.Proofs.YtjbjongahnocdaaW.PrintLast

theorem passes_l2 (n : Nat) (hn : n ≤ 1000) (l : List Int) (hl : l.length = n) (ho : IsOrd l) (ha : Asc l) (d : Nat) : ∀ i : Nat, i + d = n → Ev (fun k => tickinglaw02_ShuntPasses.l2 k (n : Int) l (i : Int)) true := by
  induction d with
  | zero =>
    intro i h
    refine Ev.step (f := fun k => (tickinglaw02_awake.f k).bind fun t => some t) (fun k => ?_) (Ev.bind (f := fun _ t => some t) awake_ev (Ev.now _))
    simp only [tickinglaw02_ShuntPasses.l2]
    rw [if_neg (by omega)]
  | succ d ih =>
    intro i h
    have hr := asc_rd ho ha i (by omega)
    have w : wrap64 ((i : Int) + 1) = ((i + 1 : Nat) : Int) := by rw [w64 (by omega) (by omega)]; rfl
    refine Ev.step (f := fun k => tickinglaw02_ShuntPasses.l2 k (n : Int) l ((i + 1 : Nat) : Int)) (fun k => ?_) (ih (i + 1) (by omega))
    simp only [tickinglaw02_ShuntPasses.l2]
    rw [if_pos (by omega), if_pos (by omega), if_pos (by omega), w, if_pos (by rw [hr]; omega)]
theorem passes_l1 (n : Nat) (hn : n ≤ 60) (d : Nat) : ∀ (i : Nat) (l : List Int), i + d = n → l.length = n → IsOrd l → Placed i l → Ev (fun k => tickinglaw02_ShuntPasses.l1 k (n : Int) l (i : Int)) true := by
  induction d with
  | zero =>
    intro i l h hl ho hp
    have ha : Asc l := by
      obtain rfl : i = n := by omega
      exact placed_asc (hl ▸ hp)
    refine Ev.step (fun k => ?_) (passes_l2 n (by omega) l hl ho ha n 0 (by omega))
    simp only [tickinglaw02_ShuntPasses.l1]
    rw [if_neg (by omega)]
    rfl
  | succ d ih =>
    intro i l h hl ho hp
    have w : wrap64 ((i : Int) + 1) = ((i + 1 : Nat) : Int) := by rw [w64 (by omega) (by omega)]; rfl
    have hpl := passOut_len l
    refine Ev.step (f := fun k => tickinglaw02_ShuntPasses.l1 k (n : Int) (passOut l) ((i + 1 : Nat) : Int)) (fun k => ?_) (ih (i + 1) (passOut l) (by omega) (by omega) (passOut_ord ho) (placed_step ho.1 hp))
    simp only [tickinglaw02_ShuntPasses.l1]
    rw [if_pos (by omega), Pass_f l ho (by omega)]
    simp only [Option.bind_some]
    rw [if_pos trivial, if_pos (by omega), w]
theorem passes_l0 (n : Nat) (hn : n ≤ 60) (b l : List Int) (hl : l.length = n) (ho : IsOrd l) (hp : Placed 1 l) (hb : b = [] ↔ Asc l) (d : Nat) : ∀ (i : Nat) (s : Bool), i + d = n → (s = true ↔ ∀ j : Nat, j < i → rd l (j : Int) = (j : Int) + 1) → Ev (fun k => tickinglaw02_ShuntPasses.l0 k (n : Int) b l s (i : Int)) true := by
  induction d with
  | zero =>
    intro i s h hs
    have hsa : s = true ↔ Asc l := by
      rw [hs]
      constructor
      · intro h1
        have : l = (List.range n).map (fun i => ((i : Nat) : Int) + 1) := by
          apply List.ext_getElem
          · simp [hl]
          · intro j hj _
            have := h1 j (by omega)
            rw [rd_lt l j hj] at this
            rw [this]
            simp
        rw [this]
        unfold Asc
        rw [List.pairwise_map]
        exact List.Pairwise.imp (fun {a b} (h : a < b) => by omega) List.pairwise_lt_range
      · intro ha j hj
        exact asc_rd ho ha j (by omega)
    have hcmp : (s != ((b.length : Int) == 0)) = false := by
      have h1 : ((b.length : Int) == 0) = true ↔ b = [] := by
        rw [beq_iff_eq]
        cases b <;> simp
        omega
      have h2 : s = ((b.length : Int) == 0) := by
        rw [Bool.eq_iff_iff, h1, hsa, hb]
      rw [h2]
      simp
    have hj2 : Ev (fun k => tickinglaw02_ShuntPasses.j2 k (n : Int) l false) true := by
      refine Ev.step (fun k => ?_) (passes_l1 n hn n 0 l (by omega) hl ho (by obtain ⟨a, b, e, h1, h2, h3⟩ := hp; exact ⟨a, b, e, h1, h2, .inr (Nat.zero_le _)⟩))
      simp only [tickinglaw02_ShuntPasses.j2]
      rw [if_neg (by decide)]
      rfl
    refine Ev.step (fun k => ?_) hj2
    simp only [tickinglaw02_ShuntPasses.l0]
    rw [if_neg (by omega), if_neg (by rw [hcmp]; decide)]
    by_cases hn0 : n = 0
    · rw [if_neg (by omega)]
    · have hlast := placed_last ho hp (by omega)
      rw [hl] at hlast
      have w : wrap64 ((n : Int) - 1) = (n : Int) - 1 := w64 (by omega) (by omega)
      rw [if_pos (by omega), w, if_pos (by omega), if_pos (by omega), hlast]
      simp
  | succ d ih =>
    intro i s h hs
    have w : wrap64 ((i : Int) + 1) = ((i + 1 : Nat) : Int) := by rw [w64 (by omega) (by omega)]; rfl
    cases s with
    | true =>
      refine Ev.step (f := fun k => tickinglaw02_ShuntPasses.l0 k (n : Int) b l (rd l (i : Int) == ((i + 1 : Nat) : Int)) ((i + 1 : Nat) : Int)) (fun k => ?_) (ih (i + 1) _ (by omega) ?_)
      · simp only [tickinglaw02_ShuntPasses.l0]
        rw [if_pos (by omega), if_pos trivial, if_pos (by omega), if_pos (by omega), w]
      · rw [beq_iff_eq]
        constructor
        · intro h1 j hj
          by_cases e : j = i
          · subst e; rw [h1]; omega
          · exact hs.1 rfl j (by omega)
        · intro h1
          have := h1 i (by omega)
          omega
    | false =>
      refine Ev.step (f := fun k => tickinglaw02_ShuntPasses.l0 k (n : Int) b l false ((i + 1 : Nat) : Int)) (fun k => ?_) (ih (i + 1) false (by omega) ?_)
      · simp only [tickinglaw02_ShuntPasses.l0]
        rw [if_pos (by omega), if_neg (by decide), w]
      · constructor
        · intro h; cases h
        · intro h1
          have := hs.2 (fun j hj => h1 j (by omega))
          cases this

theorem ShuntPasses : tickinglaw02_ShuntPasses.Pure := by
  intro l0 _ _ _
  apply Ev.rounds
  have ht := tame_ev l0 30 (by omega)
  obtain ⟨o, ho⟩ : ∃ o, o = tameL l0 (min l0.length 30) := ⟨_, rfl⟩
  have hord : IsOrd o := by rw [ho]; exact tameL_ord _ _
  have hlen : o.length ≤ 30 := by rw [ho, tameL_len]; omega
  rw [← ho] at ht
  obtain ⟨p, b, hst, hcase⟩ := Stack_ev o hord (by omega)
  have hpl := passOut_len o
  have hord2 := passOut_ord hord
  have hOr := Order_ev (passOut o) 30 (by omega)
  rw [decide_eq_true (⟨hord2, by omega⟩)] at hOr
  have hbn : b = [] ↔ Asc (passOut o) := by
    rw [passOut_asc o hord.1]
    rcases hcase with ⟨h1, h2, _⟩ | ⟨h1, _, _, h2⟩
    · exact ⟨fun _ => h1, fun _ => h2⟩
    · exact ⟨fun e => absurd e h2, fun e => absurd e h1⟩
  have hpl1 : Placed 1 (passOut o) := placed_step hord.1 ⟨o, [], by simp, List.Pairwise.nil, by simp, .inr (Nat.zero_le _)⟩
  have h0 := passes_l0 o.length (by omega) b (passOut o) hpl hord2 hpl1 hbn o.length 0 true (by omega) ⟨fun _ j hj => by omega, fun _ => rfl⟩
  refine Ev.bind (f := fun k t => (shunt_Stack.f k t).bind fun bt => (shunt_Pass.f t).bind fun bu => _) ht ?_
  refine Ev.bind (f := fun k bt => (shunt_Pass.f o).bind fun bu => _) hst ?_
  rw [Pass_f o hord (by omega)]
  simp only [Option.bind_some]
  refine Ev.congr (f := fun k => (tickingref02_Order.f k (passOut o) 30).bind fun t256 => (if t256 = true then (tickinglaw02_ShuntPasses.j0 k (o.length : Int) b (passOut o) (((passOut o).length : Int) != (o.length : Int))) else (tickinglaw02_ShuntPasses.j0 k (o.length : Int) b (passOut o) true))) (fun k => by rw [if_pos trivial, if_pos trivial]) ?_
  refine Ev.bind (f := fun k (t256 : Bool) => (if t256 = true then (tickinglaw02_ShuntPasses.j0 k (o.length : Int) b (passOut o) (((passOut o).length : Int) != (o.length : Int))) else (tickinglaw02_ShuntPasses.j0 k (o.length : Int) b (passOut o) true))) hOr ?_
  refine Ev.congr (f := fun k => tickinglaw02_ShuntPasses.j0 k (o.length : Int) b (passOut o) false) (fun k => by rw [if_pos rfl, hpl]; simp) ?_
  refine Ev.step (fun k => ?_) h0
  simp only [tickinglaw02_ShuntPasses.j0]
  rw [if_neg (by decide)]
  rfl
end Go.Proofs.Ytjbjongahnocdaa.Pure
