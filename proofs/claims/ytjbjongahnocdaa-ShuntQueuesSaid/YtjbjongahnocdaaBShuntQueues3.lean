-- Written by wip/bundle.py: texts of this claim, one behind the other.
import Derived.Test.YtjbjongahnocdaaBShuntQueues2
set_option linter.unusedVariables false
set_option linter.unusedSimpArgs false

/- The least number of queues: what places and least compute is the length of the longest descending choice of positions. -/
namespace Go.Proofs.Ytjbjongahnocdaa.P
open Go.RowKit Go.Proofs.Ytjbjongahnocdaa.S Go.Proofs.Ytjbjongahnocdaa.Defs Go.Proofs.YtjbjongahnocdaaW.PrintWords Go.Proofs.YtjbjongahnocdaaW.PrintLast Go.Proofs.YtjbjongahnocdaaW.PrintMore

def qAt (out : List (Int × Int)) (j : Nat) : Int := (out.getD j (0, 0)).1
def bfAt (out : List (Int × Int)) (j : Nat) : Int := (out.getD j (0, 0)).2
theorem getD_old {α : Type} (out : List α) (p d : α) (j : Nat) (h : j < out.length) : (out ++ [p]).getD j d = out.getD j d := by
  simp [List.getElem?_append, h]
theorem getD_new {α : Type} (out : List α) (p d : α) : (out ++ [p]).getD out.length d = p := by
  simp

/-- What holds of the queues when i items have been placed. -/
structure Inv (l : List Int) (i : Nat) (last : List Int) (out : List (Int × Int)) : Prop where
  len : out.length = i
  le : i ≤ l.length
  qr : ∀ j, j < i → 0 ≤ qAt out j ∧ qAt out j < last.length
  lr : ∀ c : Nat, c < last.length → ∃ p : Nat, last.getD c 0 = (p : Int) ∧ p < i ∧ qAt out p = (c : Int)
  top : ∀ j c p : Nat, j < i → c < last.length → qAt out j = (c : Int) → last.getD c 0 = (p : Int) → rd l j ≤ rd l p
  inc : ∀ j j' : Nat, j < j' → j' < i → qAt out j = qAt out j' → rd l j < rd l j'
  ch : ∀ j : Nat, j < i → 0 < qAt out j → ∃ b : Nat, bfAt out j = (b : Int) ∧ b < j ∧ qAt out b = qAt out j - 1 ∧ rd l j < rd l b
  no : ∀ j, j < i → qAt out j = 0 → bfAt out j = -1

theorem rd_inj {l : List Int} (h : l.Nodup) {i j : Nat} (hi : i < l.length) (hj : j < l.length) (e : rd l i = rd l j) : i = j := by
  rw [rd_lt l i hi, rd_lt l j hj] at e
  have hp := List.pairwise_iff_getElem.1 h
  rcases Nat.lt_trichotomy i j with c | c | c
  · exact absurd e (hp i j hi hj c)
  · exact c
  · exact absurd e.symm (hp j i hj hi c)

theorem inv_step (l : List Int) (hd : l.Nodup) (i : Nat) (hi : i < l.length) (last : List Int) (out : List (Int × Int)) (h : Inv l i last out) :
    Inv l (i + 1) ((lastFor l last (rd l i) i).set (placeQ l last (rd l i)) i) (out ++ [((placeQ l last (rd l i) : Int), beforeOf (lastFor l last (rd l i) i) (placeQ l last (rd l i)))]) := by
  obtain ⟨c0, hc0⟩ : ∃ c0, c0 = placeQ l last (rd l i) := ⟨_, rfl⟩
  have hle : c0 ≤ last.length := by rw [hc0]; exact List.findIdx_le_length
  have hlt : c0 < last.length → rd l (last.getD c0 0) < rd l i := by
    intro c
    have := List.findIdx_getElem (p := fun k : Int => decide (l.getD k.toNat 0 < rd l i)) (xs := last) (w := by rw [hc0] at c; exact c)
    rw [decide_eq_true_eq] at this
    have e : last.getD c0 0 = last[c0] := by simp [c]
    rw [e]
    subst hc0
    exact this
  have hge : ∀ c, c < c0 → ¬ rd l (last.getD c 0) < rd l i := by
    intro c hc
    have hcl : c < last.length := by omega
    have := List.not_of_lt_findIdx (p := fun k : Int => decide (l.getD k.toNat 0 < rd l i)) (xs := last) (i := c) (by rw [hc0] at hc; exact hc)
    rw [Bool.eq_false_iff, ne_eq, decide_eq_true_eq] at this
    have e : last.getD c 0 = last[c] := by simp [hcl]
    rw [e]
    exact this
  obtain ⟨L, hL⟩ : ∃ L, L = (lastFor l last (rd l i) i).set (placeQ l last (rd l i)) i := ⟨_, rfl⟩
  obtain ⟨b, hb⟩ : ∃ b, b = beforeOf (lastFor l last (rd l i) i) (placeQ l last (rd l i)) := ⟨_, rfl⟩
  have hLf : lastFor l last (rd l i) i = if c0 < last.length then last else last ++ [(i : Int)] := by rw [hc0]; rfl
  have hLl : L.length = if c0 < last.length then last.length else last.length + 1 := by
    rw [hL, List.length_set, hLf]
    split <;> simp
  have hLc : L.getD c0 0 = (i : Int) := by
    have : c0 < (lastFor l last (rd l i) i).length := by
      rw [hLf]; split
      · assumption
      · simp; omega
    rw [hL, ← hc0]
    simp [this]
  have hLo : ∀ c, c ≠ c0 → c < L.length → c < last.length ∧ L.getD c 0 = last.getD c 0 := by
    intro c hc hcl
    rw [hLl] at hcl
    have hcl' : c < last.length := by
      split at hcl
      · exact hcl
      · omega
    refine ⟨hcl', ?_⟩
    rw [hL, ← hc0, hLf]
    simp only [List.getD_eq_getElem?_getD, List.getElem?_set]
    rw [if_neg (by omega)]
    split
    · rfl
    · rw [List.getElem?_append_left hcl']
  have hbz : c0 = 0 → b = -1 := by
    intro e
    rw [hb, ← hc0]
    unfold beforeOf
    rw [if_pos e]
  have hbp : 0 < c0 → b = last.getD (c0 - 1) 0 := by
    intro e
    rw [hb, ← hc0]
    unfold beforeOf
    rw [if_neg (by omega), hLf]
    split
    · rfl
    · rw [getD_old _ _ _ _ (by omega)]
  rw [← hL, ← hb, ← hc0]
  clear hL hb hLf hc0
  have hlen := h.len
  have qo : ∀ j, j < i → qAt (out ++ [((c0 : Int), b)]) j = qAt out j := fun j hj => by unfold qAt; rw [getD_old _ _ _ _ (by omega)]
  have bo : ∀ j, j < i → bfAt (out ++ [((c0 : Int), b)]) j = bfAt out j := fun j hj => by unfold bfAt; rw [getD_old _ _ _ _ (by omega)]
  have qn : qAt (out ++ [((c0 : Int), b)]) i = c0 := by unfold qAt; rw [← hlen, getD_new]
  have bn : bfAt (out ++ [((c0 : Int), b)]) i = b := by unfold bfAt; rw [← hlen, getD_new]
  have hcL : c0 < L.length := by rw [hLl]; split <;> omega
  have hLL : last.length ≤ L.length := by rw [hLl]; split <;> omega
  refine ⟨by simp [hlen], hi, ?_, ?_, ?_, ?_, ?_, ?_⟩
  · intro j hj
    by_cases e : j = i
    · subst e; rw [qn]; omega
    · rw [qo j (by omega)]
      have := h.qr j (by omega)
      omega
  · intro c hc
    by_cases e : c = c0
    · subst e; exact ⟨i, hLc, by omega, qn⟩
    · obtain ⟨h1, h2⟩ := hLo c e hc
      obtain ⟨p, p1, p2, p3⟩ := h.lr c h1
      exact ⟨p, by rw [h2, p1], by omega, by rw [qo p p2, p3]⟩
  · intro j c p hj hc hq hp
    by_cases e : c = c0
    · subst e
      rw [hLc] at hp
      obtain rfl : i = p := by omega
      by_cases e : j = i
      · subst e; exact Int.le_refl _
      · rw [qo j (by omega)] at hq
        have r := (h.qr j (by omega)).2
        have hcl : c < last.length := by omega
        obtain ⟨p, p1, p2, p3⟩ := h.lr c hcl
        have t := h.top j c p (by omega) hcl hq p1
        have := hlt hcl
        rw [p1] at this
        omega
    · obtain ⟨h1, h2⟩ := hLo c e hc
      rw [h2] at hp
      have hji : j ≠ i := by
        intro e'
        subst e'
        rw [qn] at hq
        omega
      rw [qo j (by omega)] at hq
      exact h.top j c p (by omega) h1 hq hp
  · intro j j' hj hj' hq
    by_cases e : j' = i
    · subst e
      rw [qn, qo j hj] at hq
      have r := (h.qr j hj).2
      have hcl : c0 < last.length := by omega
      obtain ⟨p, p1, p2, p3⟩ := h.lr c0 hcl
      have t := h.top j c0 p hj hcl hq p1
      have := hlt hcl
      rw [p1] at this
      omega
    · rw [qo j (by omega), qo j' (by omega)] at hq
      exact h.inc j j' hj (by omega) hq
  · intro j hj hq
    by_cases e : j = i
    · subst e
      rw [qn] at hq
      have hcl : c0 - 1 < last.length := by omega
      obtain ⟨p, p1, p2, p3⟩ := h.lr (c0 - 1) hcl
      have n := hge (c0 - 1) (by omega)
      rw [p1] at n
      have ne : rd l p ≠ rd l j := fun e => by
        have := rd_inj hd (by omega) hi e
        omega
      refine ⟨p, by rw [bn, hbp (by omega), p1], p2, ?_, by omega⟩
      rw [qo p p2, qn, p3]
      omega
    · rw [qo j (by omega)] at hq ⊢
      obtain ⟨b', b1, b2, b3, b4⟩ := h.ch j (by omega) hq
      exact ⟨b', by rw [bo j (by omega), b1], b2, by rw [qo b' (by omega), b3], b4⟩
  · intro j hj hq
    by_cases e : j = i
    · subst e
      rw [qn] at hq
      rw [bn, hbz (by omega)]
    · rw [qo j (by omega)] at hq
      rw [bo j (by omega)]
      exact h.no j (by omega) hq

theorem placesGo_inv (l : List Int) (hd : l.Nodup) (d : Nat) : ∀ (i : Nat) (last : List Int) (out : List (Int × Int)), i + d = l.length → Inv l i last out → ∃ last', Inv l l.length last' (placesGo l (l.drop i) (i : Int) last out) := by
  induction d with
  | zero =>
    intro i last out h hv
    obtain rfl : i = l.length := by omega
    rw [List.drop_length]
    exact ⟨last, hv⟩
  | succ d ih =>
    intro i last out h hv
    rw [drop_cons l i (by omega)]
    exact ih (i + 1) _ _ (by omega) (inv_step l hd i (by omega) last out hv)
theorem places_inv (l : List Int) (hd : l.Nodup) : ∃ last, Inv l l.length last (placesB l) :=
  placesGo_inv l hd l.length 0 [] [] (by omega) ⟨rfl, Nat.zero_le _, fun _ h => by omega, fun _ h => absurd h (Nat.not_lt_zero _), fun _ _ _ h => by omega, fun _ _ _ h => by omega, fun _ h => by omega, fun _ h => by omega⟩

/-- Positions of descending items. -/
def Desc (l : List Int) (ps : List Nat) : Prop := ps.Pairwise (fun a b : Nat => a < b ∧ rd l (b : Int) < rd l (a : Int)) ∧ ∀ p ∈ ps, p < l.length
def LeastIs (l : List Int) (r : Int) : Prop := 1 ≤ r ∧ (∀ ps, Desc l ps → (ps.length : Int) ≤ r) ∧ (r = 1 ∨ ∃ ps, Desc l ps ∧ (ps.length : Int) = r)
theorem least_unique {l : List Int} {r s : Int} (h : LeastIs l r) (h' : LeastIs l s) : r = s := by
  obtain ⟨a1, a2, a3⟩ := h
  obtain ⟨b1, b2, b3⟩ := h'
  have x : r ≤ s := by
    rcases a3 with rfl | ⟨ps, p1, p2⟩
    · exact b1
    · have := b2 ps p1; omega
  have y : s ≤ r := by
    rcases b3 with rfl | ⟨ps, p1, p2⟩
    · exact a1
    · have := a2 ps p1; omega
  omega
theorem least_move {l l' : List Int} {r : Int} (h1 : ∀ ps, Desc l ps → ∃ qs, Desc l' qs ∧ qs.length = ps.length) (h2 : ∀ ps, Desc l' ps → ∃ qs, Desc l qs ∧ qs.length = ps.length) (h : LeastIs l r) : LeastIs l' r := by
  obtain ⟨a1, a2, a3⟩ := h
  refine ⟨a1, fun ps hp => ?_, ?_⟩
  · obtain ⟨qs, q1, q2⟩ := h2 ps hp
    have := a2 qs q1
    omega
  · rcases a3 with rfl | ⟨ps, p1, p2⟩
    · exact .inl rfl
    · obtain ⟨qs, q1, q2⟩ := h1 ps p1
      exact .inr ⟨qs, q1, by omega⟩

theorem chain_at {l : List Int} {i : Nat} {last : List Int} {out : List (Int × Int)} (h : Inv l i last out) : ∀ (c j : Nat), j < i → qAt out j = (c : Int) → ∃ ps, Desc l (ps ++ [j]) ∧ ps.length = c := by
  intro c
  induction c with
  | zero =>
    intro j hj _
    have := h.le
    exact ⟨[], ⟨by simp, by simp; omega⟩, rfl⟩
  | succ c ih =>
    intro j hj hq
    obtain ⟨b, _, b2, b3, b4⟩ := h.ch j hj (by omega)
    obtain ⟨ps, ⟨p1, p2⟩, p3⟩ := ih b (by omega) (by omega)
    have := h.le
    refine ⟨ps ++ [b], ⟨?_, ?_⟩, by simp [p3]⟩
    · rw [List.pairwise_append]
      refine ⟨p1, by simp, ?_⟩
      intro a ha x hx
      rw [List.mem_singleton] at hx
      subst hx
      rw [List.pairwise_append] at p1
      rcases List.mem_append.1 ha with ha | ha
      · have := p1.2.2 a ha b (by simp)
        omega
      · rw [List.mem_singleton] at ha
        subst ha
        omega
    · intro p hp
      rcases List.mem_append.1 hp with hp | hp
      · exact p2 p hp
      · rw [List.mem_singleton] at hp
        omega

theorem desc_nodup {l : List Int} {last : List Int} {out : List (Int × Int)} (h : Inv l l.length last out) {ps : List Nat} (hp : Desc l ps) : (ps.map (qAt out)).Nodup := by
  unfold List.Nodup
  rw [List.pairwise_map]
  refine List.Pairwise.imp_of_mem ?_ hp.1
  intro a b ha hb hab e
  have := h.inc a b hab.1 (hp.2 b hb) e
  omega

theorem least_loop (out : List (Int × Int)) (hl : out.length ≤ 60) (hq : ∀ j, j < out.length → 0 ≤ qAt out j ∧ qAt out j < 60) (d : Nat) : ∀ (i : Nat) (m : Int), i + d = out.length → 1 ≤ m → m ≤ 60 → (∀ j, j < i → qAt out j + 1 ≤ m) → (m = 1 ∨ ∃ j, j < i ∧ m = qAt out j + 1) →
    ∃ r, Ev (fun k => shunt_least.l0 k m (out.map plPlace) (out.length : Int) (i : Int)) r ∧ 1 ≤ r ∧ (∀ j, j < out.length → qAt out j + 1 ≤ r) ∧ (r = 1 ∨ ∃ j, j < out.length ∧ r = qAt out j + 1) := by
  induction d with
  | zero =>
    intro i m h h1 _ h2 h3
    obtain rfl : i = out.length := by omega
    refine ⟨m, Ev.step (f := fun _ => some m) (fun k => ?_) (Ev.now _), h1, h2, h3⟩
    simp only [shunt_least.l0]
    rw [if_neg (by omega)]
  | succ d ih =>
    intro i m h h1 hm h2 h3
    have hr := hq i (by omega)
    have w : wrap64 ((i : Int) + 1) = ((i + 1 : Nat) : Int) := by rw [w64 (by omega) (by omega)]; rfl
    have e : (rd_T82 (out.map plPlace) (i : Int)).f0 = qAt out i := by
      have hi : i < out.length := by omega
      unfold rd_T82 qAt
      simp [plPlace, hi]
    have w2 : wrap64 (qAt out i + 1) = qAt out i + 1 := w64 (by omega) (by omega)
    have step : ∀ r, Ev (fun k => shunt_least.l0 k (mx m (qAt out i + 1)) (out.map plPlace) (out.length : Int) ((i + 1 : Nat) : Int)) r → Ev (fun k => shunt_least.l0 k m (out.map plPlace) (out.length : Int) (i : Int)) r := by
      intro r hr
      refine Ev.step (fun k => ?_) hr
      simp only [shunt_least.l0]
      rw [if_pos (by omega), if_pos (by omega), if_pos (by rw [List.length_map]; omega), e, w2, w]
    by_cases c : m < qAt out i + 1
    · have em : mx m (qAt out i + 1) = qAt out i + 1 := by unfold mx; rw [if_pos c]
      rw [em] at step
      obtain ⟨r, r1, r2⟩ := ih (i + 1) (qAt out i + 1) (by omega) (by omega) (by omega) (fun j hj => by
        by_cases e : j = i
        · subst e; omega
        · have := h2 j (by omega); omega) (.inr ⟨i, by omega, rfl⟩)
      exact ⟨r, step r r1, r2⟩
    · have em : mx m (qAt out i + 1) = m := by unfold mx; rw [if_neg c]
      rw [em] at step
      obtain ⟨r, r1, r2⟩ := ih (i + 1) m (by omega) (by omega) (by omega) (fun j hj => by
        by_cases e : j = i
        · subst e; omega
        · exact h2 j (by omega)) (by
          rcases h3 with h3 | ⟨j, j1, j2⟩
          · exact .inl h3
          · exact .inr ⟨j, by omega, j2⟩)
      exact ⟨r, step r r1, r2⟩

theorem last_le {l : List Int} {last : List Int} {out : List (Int × Int)} {i : Nat} (h : Inv l i last out) : last.length ≤ i := by
  have hd : (((List.range last.length).map (fun c => last.getD c 0))).Nodup := by
    unfold List.Nodup
    rw [List.pairwise_map]
    refine List.Pairwise.imp_of_mem ?_ List.pairwise_lt_range
    intro a b ha hb hab e
    rw [List.mem_range] at ha hb
    obtain ⟨p, p1, _, p3⟩ := h.lr a ha
    obtain ⟨q, q1, _, q3⟩ := h.lr b hb
    have : p = q := by omega
    subst this
    omega
  have := nodup_len i _ (-1) hd (fun a ha => by
    obtain ⟨c, c1, c2⟩ := List.mem_map.1 ha
    rw [List.mem_range] at c1
    obtain ⟨p, p1, p2, _⟩ := h.lr c c1
    omega)
  simpa using this

theorem Least_ev (l : List Int) (h : IsOrd l) (hl : l.length ≤ 60) : ∃ r, Ev (fun k => shunt_Least.f k l) (r, 0) ∧ LeastIs l r := by
  obtain ⟨last, hv⟩ := places_inv l h.1
  have hll := last_le hv
  have hlen := hv.len
  obtain ⟨r, r1, r2, r3, r4⟩ := least_loop (placesB l) (by omega) (fun j hj => by have := hv.qr j (by omega); omega) (placesB l).length 0 1 (by omega) (by omega) (by omega) (fun j hj => by omega) (.inl rfl)
  refine ⟨r, ?_, r2, ?_, ?_⟩
  · refine Ev.congr (f := fun k => (shunt_least.f k ((placesB l).map plPlace)).bind fun t131 => some (t131, 0)) (fun k => ?_) ?_
    · unfold shunt_Least.f shunt_isOrder.f
      simp only [Option.bind_some]
      rw [if_pos ((isOrderB_iff l).2 ⟨hl, h⟩)]
      unfold shunt_places.f
      rw [if_pos hl]
      rfl
    · refine Ev.bind (f := fun _ (t131 : Int) => some (t131, (0 : Int))) ?_ (Ev.now _)
      unfold shunt_least.f
      rw [List.length_map]
      exact r1
  · intro ps hp
    have := nodup_len r.toNat (ps.map (qAt (placesB l))) (-1) (desc_nodup hv hp) (fun a ha => by
      obtain ⟨p, p1, p2⟩ := List.mem_map.1 ha
      have := hv.qr p (hp.2 p p1)
      have := r3 p (by have := hp.2 p p1; omega)
      omega)
    rw [List.length_map] at this
    omega
  · rcases r4 with r4 | ⟨j, j1, j2⟩
    · exact .inl r4
    · have hq := hv.qr j (by omega)
      obtain ⟨ps, p1, p2⟩ := chain_at hv (qAt (placesB l) j).toNat j (by omega) (by omega)
      exact .inr ⟨_, p1, by rw [List.length_append, p2]; simp; omega⟩
theorem Least_no (l : List Int) (h : ¬ (l.length ≤ 60 ∧ IsOrd l)) (k : Nat) : shunt_Least.f k l = some (0, 2) := by
  unfold shunt_Least.f shunt_isOrder.f
  simp only [Option.bind_some]
  rw [if_neg (fun h' => h ((isOrderB_iff l).1 h'))]
end Go.Proofs.Ytjbjongahnocdaa.P

/- Lanes and blocks for queues: what CheckQueues and the reference's checks answer. -/
namespace Go.Proofs.Ytjbjongahnocdaa.P
open Go.RowKit Go.Proofs.Ytjbjongahnocdaa.S Go.Proofs.Ytjbjongahnocdaa.Defs Go.Proofs.YtjbjongahnocdaaW.PrintWords Go.Proofs.YtjbjongahnocdaaW.PrintLast Go.Proofs.YtjbjongahnocdaaW.PrintMore
set_option linter.unusedVariables false

/-- Lanes that sort. -/
def LanesP (l : List Int) (k : Int) (lanes : List Int) : Prop :=
  lanes.length = l.length ∧ ∀ m : Nat, m < lanes.length → (0 ≤ rd lanes (m : Int) ∧ rd lanes (m : Int) < k) ∧ ∀ j : Nat, j < m → rd lanes (j : Int) = rd lanes (m : Int) → rd l (j : Int) < rd l (m : Int)
/-- A block for k queues. -/
def QB (l : List Int) (k : Int) (b : List Int) : Prop :=
  (b.length : Int) = k + 1 ∧ ∀ i : Nat, i < b.length → (0 ≤ rd b (i : Int) ∧ rd b (i : Int) < l.length) ∧ (0 < i → rd b ((i - 1 : Nat) : Int) < rd b (i : Int) ∧ rd l (rd b (i : Int)) < rd l (rd b ((i - 1 : Nat) : Int)))

theorem pos_rd {l : List Int} (h : IsOrd l) (p : Nat) (hp : p < l.length) : 1 ≤ rd l (p : Int) ∧ rd l (p : Int) ≤ l.length :=
  h.2 _ (rd_mem (by omega) (by omega))

/-! ### the reference's lanes -/
theorem lanes_l1 (l : List Int) (a : Int) (lanes : List Int) (hl : lanes.length ≤ 1000) (he : lanes.length = l.length) (hd : l.Nodup) (i : Nat) (hi : i < lanes.length) (P : Prop)
    (hrest : (∀ j : Nat, j < i → rd lanes (j : Int) = rd lanes (i : Int) → rd l (j : Int) < rd l (i : Int)) → ∃ r, Ev (fun k => tickingref02_LanesSort.l0 k l a lanes ((i + 1 : Nat) : Int)) r ∧ (r = true ↔ P))
    (hP : P → ∀ j : Nat, j < i → rd lanes (j : Int) = rd lanes (i : Int) → rd l (j : Int) < rd l (i : Int)) (d : Nat) : ∀ j : Nat, j + d = i → (∀ j' : Nat, j' < j → rd lanes (j' : Int) = rd lanes (i : Int) → rd l (j' : Int) < rd l (i : Int)) →
    ∃ r, Ev (fun k => tickingref02_LanesSort.l1 k l a lanes (i : Int) (j : Int)) r ∧ (r = true ↔ P) := by
  induction d with
  | zero =>
    intro j h hj
    obtain rfl : j = i := by omega
    obtain ⟨r, r1, r2⟩ := hrest hj
    have w : wrap64 ((j : Int) + 1) = ((j + 1 : Nat) : Int) := by rw [w64 (by omega) (by omega)]; rfl
    refine ⟨r, Ev.step (fun k => ?_) r1, r2⟩
    simp only [tickingref02_LanesSort.l1]
    rw [if_neg (by omega), w]
  | succ d ih =>
    intro j h hj
    have w : wrap64 ((j : Int) + 1) = ((j + 1 : Nat) : Int) := by rw [w64 (by omega) (by omega)]; rfl
    by_cases c : rd lanes (j : Int) = rd lanes (i : Int)
    · by_cases c2 : rd l (j : Int) > rd l (i : Int)
      · refine ⟨false, Ev.step (f := fun _ => some false) (fun k => ?_) (Ev.now _), ⟨fun h => (by cases h), fun h => absurd (hP h j (by omega) c) (by omega)⟩⟩
        simp only [tickingref02_LanesSort.l1]
        rw [if_pos (by omega), if_pos (by omega), if_pos (by omega), if_pos (by omega), if_pos (by omega), if_pos c, if_pos (by omega), if_pos (by omega), if_pos c2]
      · have hne : rd l (j : Int) ≠ rd l (i : Int) := fun e => by
          have := rd_inj hd (by omega) (by omega) e
          omega
        obtain ⟨r, r1, r2⟩ := ih (j + 1) (by omega) (fun j' hj' e => by
          by_cases e' : j' = j
          · subst e'; omega
          · exact hj j' (by omega) e)
        refine ⟨r, Ev.step (fun k => ?_) r1, r2⟩
        simp only [tickingref02_LanesSort.l1]
        rw [if_pos (by omega), if_pos (by omega), if_pos (by omega), if_pos (by omega), if_pos (by omega), if_pos c, if_pos (by omega), if_pos (by omega), if_neg c2, w]
    · obtain ⟨r, r1, r2⟩ := ih (j + 1) (by omega) (fun j' hj' e => by
        by_cases e' : j' = j
        · subst e'; exact absurd e c
        · exact hj j' (by omega) e)
      refine ⟨r, Ev.step (fun k => ?_) r1, r2⟩
      simp only [tickingref02_LanesSort.l1]
      rw [if_pos (by omega), if_pos (by omega), if_pos (by omega), if_pos (by omega), if_pos (by omega), if_neg c, w]
def LanesFrom (l : List Int) (k : Int) (lanes : List Int) (i : Nat) : Prop :=
  ∀ m : Nat, i ≤ m → m < lanes.length → (0 ≤ rd lanes (m : Int) ∧ rd lanes (m : Int) < k) ∧ ∀ j : Nat, j < m → rd lanes (j : Int) = rd lanes (m : Int) → rd l (j : Int) < rd l (m : Int)
theorem lanes_l0 (l : List Int) (a : Int) (lanes : List Int) (hl : lanes.length ≤ 1000) (he : lanes.length = l.length) (hd : l.Nodup) (d : Nat) : ∀ i : Nat, i + d = lanes.length →
    ∃ r, Ev (fun k => tickingref02_LanesSort.l0 k l a lanes (i : Int)) r ∧ (r = true ↔ LanesFrom l a lanes i) := by
  induction d with
  | zero =>
    intro i h
    refine ⟨true, Ev.step (f := fun _ => some true) (fun k => ?_) (Ev.now _), ⟨fun _ m h1 h2 => by omega, fun _ => rfl⟩⟩
    simp only [tickingref02_LanesSort.l0]
    rw [if_neg (by omega)]
  | succ d ih =>
    intro i h
    have hj : ∀ b r, Ev (fun k => tickingref02_LanesSort.j1 k l a lanes (i : Int) b) r → b = decide (¬ (0 ≤ rd lanes (i : Int) ∧ rd lanes (i : Int) < a)) → Ev (fun k => tickingref02_LanesSort.l0 k l a lanes (i : Int)) r := by
      intro b r hr hb
      refine Ev.step (fun k => ?_) hr
      simp only [tickingref02_LanesSort.l0]
      rw [if_pos (by omega), if_pos (by omega)]
      split
      · rw [hb, decide_eq_true (by omega)]
      · rw [hb]
        congr 1
        rw [decide_eq_decide]
        omega
    by_cases c : 0 ≤ rd lanes (i : Int) ∧ rd lanes (i : Int) < a
    · obtain ⟨r, r1, r2⟩ := lanes_l1 l a lanes hl he hd i (by omega) (LanesFrom l a lanes i) (fun hlt => by
        obtain ⟨r, r1, r2⟩ := ih (i + 1) (by omega)
        refine ⟨r, r1, r2.trans ⟨fun h m h1 h2 => ?_, fun h m h1 h2 => h m (by omega) h2⟩⟩
        by_cases e : m = i
        · subst e; exact ⟨c, hlt⟩
        · exact h m (by omega) h2) (fun h => (h i (Nat.le_refl _) (by omega)).2) i 0 (by omega) (fun j hj => by omega)
      refine ⟨r, hj false r (Ev.step (fun k => ?_) r1) (by rw [decide_eq_false (fun h => h c)]), r2⟩
      simp only [tickingref02_LanesSort.j1]
      rw [if_neg (by decide)]
      rfl
    · refine ⟨false, hj true false (Ev.step (f := fun _ => some false) (fun k => ?_) (Ev.now _)) (by rw [decide_eq_true c]), ⟨fun h => (by cases h), fun h => absurd (h i (Nat.le_refl _) (by omega)).1 c⟩⟩
      simp only [tickingref02_LanesSort.j1]
      rw [if_pos trivial]
theorem lanes_ev (l : List Int) (a : Int) (lanes : List Int) (h : IsOrd l) (hl : l.length ≤ 60) : ∃ r, Ev (fun k => tickingref02_LanesSort.f k l a lanes) r ∧ (r = true ↔ LanesP l a lanes) := by
  by_cases c : lanes.length = l.length
  · obtain ⟨r, r1, r2⟩ := lanes_l0 l a lanes (by omega) c h.1 lanes.length 0 (by omega)
    refine ⟨r, Ev.congr (fun k => ?_) r1, r2.trans ⟨fun h => ⟨c, fun m hm => h m (Nat.zero_le _) hm⟩, fun h m _ hm => h.2 m hm⟩⟩
    unfold tickingref02_LanesSort.f
    rw [if_pos (by omega)]
    rfl
  · refine ⟨false, Ev.congr (fun k => ?_) (Ev.now _), ⟨fun h => (by cases h), fun h => absurd h.1 c⟩⟩
    unfold tickingref02_LanesSort.f
    rw [if_neg (by omega)]

/-! ### CheckQueues's lanes -/
def LastIs (l lanes : List Int) (i : Nat) (last : Int → Int) : Prop :=
  ∀ y, 0 ≤ last y ∧ (∀ j : Nat, j < i → rd lanes (j : Int) = y → rd l (j : Int) ≤ last y) ∧ (last y = 0 ∨ ∃ j : Nat, j < i ∧ rd lanes (j : Int) = y ∧ rd l (j : Int) = last y)
theorem lanesGo_iff (l : List Int) (k : Int) (lanes : List Int) (h : IsOrd l) (he : lanes.length = l.length) (d : Nat) : ∀ (i : Nat) (last : Int → Int), i + d = lanes.length → LastIs l lanes i last →
    (lanesGo l k (lanes.drop i) (i : Int) last = true ↔ LanesFrom l k lanes i) := by
  induction d with
  | zero =>
    intro i last hi hl
    rw [List.drop_eq_nil_of_le (by omega)]
    exact ⟨fun _ m h1 h2 => by omega, fun _ => rfl⟩
  | succ d ih =>
    intro i last hi hl
    rw [drop_cons lanes i (by omega)]
    have ho := pos_rd h i (by omega)
    obtain ⟨l1, l2, l3⟩ := hl (rd lanes (i : Int))
    have hiff : last (rd lanes (i : Int)) < rd l (i : Int) ↔ ∀ j : Nat, j < i → rd lanes (j : Int) = rd lanes (i : Int) → rd l (j : Int) < rd l (i : Int) := by
      constructor
      · intro hlt j hj e
        have := l2 j hj e
        omega
      · intro hall
        rcases l3 with l3 | ⟨j, j1, j2, j3⟩
        · omega
        · have := hall j j1 j2
          omega
    unfold lanesGo
    by_cases c : 0 ≤ rd lanes (i : Int) ∧ rd lanes (i : Int) ≤ k - 1 ∧ last (rd lanes (i : Int)) < rd l (i : Int)
    · rw [if_pos c]
      have hn : LastIs l lanes (i + 1) (fun y => if y = rd lanes (i : Int) then rd l (i : Int) else last y) := by
        intro y
        by_cases e : y = rd lanes (i : Int)
        · subst e
          simp only [if_true]
          refine ⟨by omega, fun j hj ej => ?_, .inr ⟨i, by omega, rfl, rfl⟩⟩
          by_cases e' : j = i
          · subst e'; exact Int.le_refl _
          · have := hiff.1 c.2.2 j (by omega) ej
            omega
        · simp only [if_neg e]
          obtain ⟨m1, m2, m3⟩ := hl y
          refine ⟨m1, fun j hj ej => ?_, ?_⟩
          · by_cases e' : j = i
            · subst e'; exact absurd ej.symm e
            · exact m2 j (by omega) ej
          · rcases m3 with m3 | ⟨j, j1, j2⟩
            · exact .inl m3
            · exact .inr ⟨j, by omega, j2⟩
      have := ih (i + 1) _ (by omega) hn
      refine (show _ ↔ _ from this).trans ⟨fun h' m h1 h2 => ?_, fun h' m h1 h2 => h' m (by omega) h2⟩
      by_cases e : m = i
      · subst e; exact ⟨⟨c.1, by omega⟩, hiff.1 c.2.2⟩
      · exact h' m (by omega) h2
    · rw [if_neg c]
      refine ⟨fun h => (by cases h), fun h' => ?_⟩
      have := h' i (Nat.le_refl _) (by omega)
      exact absurd ⟨this.1.1, by omega, hiff.2 this.2⟩ c
theorem rightL_iff (l : List Int) (k : Int) (lanes block : List Int) (h : IsOrd l) : rightL l k lanes block = true ↔ LanesP l k lanes ∧ block = [] := by
  unfold rightL
  rw [Bool.and_eq_true, Bool.and_eq_true, decide_eq_true_eq, decide_eq_true_eq, List.length_eq_zero_iff]
  constructor
  · rintro ⟨⟨h1, h2⟩, h3⟩
    refine ⟨⟨h1, fun m hm => ?_⟩, h2⟩
    have := (lanesGo_iff l k lanes h h1 lanes.length 0 (fun _ => 0) (by omega) (fun y => ⟨Int.le_refl _, fun j hj => by omega, .inl rfl⟩)).1 (by rw [List.drop_zero]; exact h3)
    exact this m (Nat.zero_le _) hm
  · rintro ⟨⟨h1, h2⟩, h3⟩
    refine ⟨⟨h1, h3⟩, ?_⟩
    have := (lanesGo_iff l k lanes h h1 lanes.length 0 (fun _ => 0) (by omega) (fun y => ⟨Int.le_refl _, fun j hj => by omega, .inl rfl⟩)).2 (fun m _ hm => h2 m hm)
    rw [List.drop_zero] at this
    exact this

/-! ### blocks for queues -/
theorem blockGo_iff (l b : List Int) (d : Nat) : ∀ (i : Nat) (right : Bool), blockGo l b d (i : Int) right = true ↔ right = true ∧ ∀ m : Nat, i ≤ m → m < i + d → stepB l b (m : Int) = true := by
  induction d with
  | zero => intro i right; exact ⟨fun h => ⟨h, fun m h1 h2 => by omega⟩, fun h => h.1⟩
  | succ d ih =>
    intro i right
    have := ih (i + 1) (right && stepB l b (i : Int))
    refine (show blockGo l b (d + 1) (i : Int) right = true ↔ _ from this).trans ?_
    rw [Bool.and_eq_true]
    constructor
    · rintro ⟨⟨h1, h2⟩, h3⟩
      refine ⟨h1, fun m m1 m2 => ?_⟩
      by_cases e : m = i
      · subst e; exact h2
      · exact h3 m (by omega) (by omega)
    · rintro ⟨h1, h2⟩
      exact ⟨⟨h1, h2 i (Nat.le_refl _) (by omega)⟩, fun m m1 m2 => h2 m (by omega) (by omega)⟩
theorem stepB_iff (l b : List Int) (i : Nat) : stepB l b (i : Int) = true ↔ (0 ≤ rd b (i : Int) ∧ rd b (i : Int) < l.length) ∧ (0 < i → rd b ((i - 1 : Nat) : Int) < rd b (i : Int) ∧ rd l (rd b (i : Int)) < rd l (rd b ((i - 1 : Nat) : Int))) := by
  unfold stepB
  rw [Bool.and_eq_true, Bool.or_eq_true, Bool.and_eq_true, decide_eq_true_eq, decide_eq_true_eq, decide_eq_true_eq, decide_eq_true_eq]
  by_cases c : i = 0
  · subst c
    constructor
    · rintro ⟨h1, _⟩; exact ⟨by omega, fun h => by omega⟩
    · rintro ⟨h1, _⟩; exact ⟨by omega, .inl rfl⟩
  · rw [show ((i : Int) - 1) = ((i - 1 : Nat) : Int) by omega]
    constructor
    · rintro ⟨h1, h2 | h2⟩
      · omega
      · exact ⟨by omega, fun _ => h2⟩
    · rintro ⟨h1, h2⟩
      exact ⟨by omega, .inr (h2 (by omega))⟩

theorem queuesCheck (l : List Int) (k : Int) (lanes block : List Int) (h : IsOrd l) (hl : l.length ≤ 60) (h0 : 1 ≤ k) (h1 : k ≤ 60) : ∃ e : Int, shunt_CheckQueues.f l k lanes block = some e ∧ (e = 0 ∨ e = 10) ∧ (e = 0 ↔ (LanesP l k lanes ∧ block = []) ∨ (lanes = [] ∧ QB l k block)) := by
  have hb : isOrderB l = true := (isOrderB_iff l).2 ⟨hl, h⟩
  unfold shunt_CheckQueues.f
  rw [if_pos ⟨hb, h0, h1⟩]
  by_cases c : lanes.length = 0 ∧ (block.length : Int) = k + 1
  · rw [if_pos c]
    have hiff : blockGo l block block.length 0 true = true ↔ QB l k block := by
      have := blockGo_iff l block block.length 0 true
      refine (show blockGo l block block.length 0 true = true ↔ _ from this).trans ?_
      constructor
      · rintro ⟨_, h3⟩
        exact ⟨c.2, fun i hi => (stepB_iff l block i).1 (h3 i (Nat.zero_le _) (by omega))⟩
      · rintro ⟨_, h3⟩
        exact ⟨rfl, fun m _ hm => (stepB_iff l block m).2 (h3 m (by omega))⟩
    have hne : block ≠ [] := fun e => by
      rw [e] at c
      have : (([] : List Int).length : Int) = k + 1 := c.2
      simp at this
      omega
    refine ⟨_, rfl, ?_, ?_⟩
    · split <;> simp
    · constructor
      · intro h
        refine .inr ⟨List.length_eq_zero_iff.1 c.1, hiff.1 ?_⟩
        split at h
        · assumption
        · cases h
      · rintro (h | h)
        · exact absurd h.2 hne
        · rw [if_pos (hiff.2 h.2)]
  · rw [if_neg c]
    have hiff := rightL_iff l k lanes block h
    refine ⟨_, rfl, ?_, ?_⟩
    · split <;> simp
    · constructor
      · intro h
        refine .inl (hiff.1 ?_)
        split at h
        · assumption
        · cases h
      · rintro (h | h)
        · rw [if_pos (hiff.2 h)]
        · exact absurd ⟨by rw [h.1]; rfl, h.2.1⟩ c
theorem queuesCheck_no (l : List Int) (k : Int) (lanes block : List Int) (h : ¬ ((l.length ≤ 60 ∧ IsOrd l) ∧ 1 ≤ k ∧ k ≤ 60)) : shunt_CheckQueues.f l k lanes block = some 2 := by
  unfold shunt_CheckQueues.f
  rw [if_neg (fun h' => h ⟨(isOrderB_iff l).1 h'.1, h'.2⟩)]

theorem asc_adj (b : List Int) : Asc b ↔ ∀ i : Nat, 0 < i → i < b.length → rd b ((i - 1 : Nat) : Int) < rd b (i : Int) := by
  constructor
  · intro h i h0 hi
    rw [rd_lt b i hi, rd_lt b (i - 1) (by omega)]
    exact List.pairwise_iff_getElem.1 h (i - 1) i (by omega) hi (by omega)
  · intro h
    have key : ∀ d i : Nat, i + d + 1 < b.length → rd b (i : Int) < rd b ((i + d + 1 : Nat) : Int) := by
      intro d
      induction d with
      | zero =>
        intro i hi
        exact h (i + 1) (by omega) (by omega)
      | succ d ih =>
        intro i hi
        have a1 := ih i (by omega)
        have a2 := h (i + d + 2) (by omega) (by omega)
        have e : (i + d + 2 - 1 : Nat) = i + d + 1 := by omega
        rw [e] at a2
        have e2 : (i + (d + 1) + 1 : Nat) = i + d + 2 := by omega
        rw [e2]
        omega
    unfold Asc
    rw [List.pairwise_iff_getElem]
    intro i j hi hj hij
    have := key (j - i - 1) i (by omega)
    rw [show i + (j - i - 1) + 1 = j by omega, rd_lt b i hi, rd_lt b j hj] at this
    exact this
theorem asc_nodup {b : List Int} (h : Asc b) : b.Nodup := List.Pairwise.imp (fun {a b} (h : a < b) => by omega) h

theorem qb_loop (l b : List Int) (hb : b.length ≤ 1000) (hr : ∀ i : Nat, i < b.length → 0 ≤ rd b (i : Int) ∧ rd b (i : Int) < l.length) (d : Nat) : ∀ i : Nat, i + d = b.length → 1 ≤ i →
    ∃ r, Ev (fun k => tickingref02_QueuesBlock.l0 k l b (i : Int)) r ∧ (r = true ↔ ∀ m : Nat, i ≤ m → m < b.length → rd l (rd b (m : Int)) < rd l (rd b ((m - 1 : Nat) : Int))) := by
  induction d with
  | zero =>
    intro i h h1
    refine ⟨true, Ev.step (f := fun _ => some true) (fun k => ?_) (Ev.now _), ⟨fun _ m h1 h2 => by omega, fun _ => rfl⟩⟩
    simp only [tickingref02_QueuesBlock.l0]
    rw [if_neg (by omega)]
  | succ d ih =>
    intro i h h1
    have w1 : wrap64 ((i : Int) - 1) = ((i - 1 : Nat) : Int) := by rw [w64 (by omega) (by omega)]; omega
    have w2 : wrap64 ((i : Int) + 1) = ((i + 1 : Nat) : Int) := by rw [w64 (by omega) (by omega)]; rfl
    have r0 := hr i (by omega)
    have r1 := hr (i - 1) (by omega)
    by_cases c : rd l (rd b ((i - 1 : Nat) : Int)) ≤ rd l (rd b (i : Int))
    · refine ⟨false, Ev.step (f := fun _ => some false) (fun k => ?_) (Ev.now _), ⟨fun h => (by cases h), fun h => absurd (h i (Nat.le_refl _) (by omega)) (by omega)⟩⟩
      simp only [tickingref02_QueuesBlock.l0]
      rw [w1, if_pos (by omega), if_pos (by omega), if_pos (by omega), if_pos r1.1, if_pos r1.2, if_pos (by omega), if_pos r0.1, if_pos r0.2, if_pos c]
    · obtain ⟨r, s1, s2⟩ := ih (i + 1) (by omega) (by omega)
      refine ⟨r, Ev.step (fun k => ?_) s1, s2.trans ⟨fun h m m1 m2 => ?_, fun h m m1 m2 => h m (by omega) m2⟩⟩
      · simp only [tickingref02_QueuesBlock.l0]
        rw [w1, if_pos (by omega), if_pos (by omega), if_pos (by omega), if_pos r1.1, if_pos r1.2, if_pos (by omega), if_pos r0.1, if_pos r0.2, if_neg c, w2]
      · by_cases e : m = i
        · subst e; omega
        · exact h m (by omega) m2
theorem queuesBlock_ev (l : List Int) (k : Int) (b : List Int) (h0 : 1 ≤ k) (h1 : k ≤ 60) : ∃ r, Ev (fun q => tickingref02_QueuesBlock.f q l k b) r ∧ (r = true ↔ QB l k b) := by
  have w : wrap64 (k + 1) = k + 1 := w64 (by omega) (by omega)
  have no : ∀ q, tickingref02_QueuesBlock.j0 (q + 1) l b true = some false := by
    intro q
    simp only [tickingref02_QueuesBlock.j0]
    rw [if_pos trivial]
  have hno : Ev (fun q => tickingref02_QueuesBlock.j0 q l b true) false := Ev.step (f := fun _ => some false) no (Ev.now _)
  by_cases c : (b.length : Int) = k + 1
  · have hf : ∀ q, tickingref02_QueuesBlock.f q l k b = (tickingref02_at.f q b (l.length : Int)).bind fun t325 => (if t325 = true then ((tickingref02_ascending.f q b).bind fun t326 => (tickingref02_QueuesBlock.j0 q l b (!t326))) else (tickingref02_QueuesBlock.j0 q l b true)) := by
      intro q
      unfold tickingref02_QueuesBlock.f
      rw [w, if_pos c]
    have ha := at_ev b l.length (by omega)
    have hs := asc_ev b (by omega)
    by_cases c1 : (∀ x ∈ b, 0 ≤ x ∧ x < (l.length : Int)) ∧ b.Nodup
    · rw [decide_eq_true c1] at ha
      have hr : ∀ i : Nat, i < b.length → 0 ≤ rd b (i : Int) ∧ rd b (i : Int) < l.length := fun i hi => c1.1 _ (rd_mem (by omega) (by omega))
      by_cases c2 : Asc b
      · rw [decide_eq_true c2] at hs
        obtain ⟨r, r1, r2⟩ := qb_loop l b (by omega) hr (b.length - 1) 1 (by omega) (Nat.le_refl _)
        refine ⟨r, Ev.congr hf ?_, r2.trans ?_⟩
        · refine Ev.bind (f := fun q (t325 : Bool) => (if t325 = true then ((tickingref02_ascending.f q b).bind fun t326 => (tickingref02_QueuesBlock.j0 q l b (!t326))) else (tickingref02_QueuesBlock.j0 q l b true))) ha ?_
          refine Ev.congr (f := fun q => ((tickingref02_ascending.f q b).bind fun t326 => (tickingref02_QueuesBlock.j0 q l b (!t326)))) (fun q => by rw [if_pos rfl]) ?_
          refine Ev.bind (f := fun q (t326 : Bool) => tickingref02_QueuesBlock.j0 q l b (!t326)) hs ?_
          refine Ev.step (fun q => ?_) r1
          simp only [tickingref02_QueuesBlock.j0]
          rw [if_neg (by decide)]
          rfl
        · rw [asc_adj] at c2
          exact ⟨fun h => ⟨c, fun i hi => ⟨hr i hi, fun h0 => ⟨c2 i h0 hi, h i (by omega) hi⟩⟩⟩, fun h m m1 m2 => ((h.2 m m2).2 (by omega)).2⟩
      · rw [decide_eq_false c2] at hs
        refine ⟨false, Ev.congr hf ?_, ⟨fun h => (by cases h), fun h => absurd ((asc_adj b).2 fun i h0 hi => ((h.2 i hi).2 h0).1) c2⟩⟩
        refine Ev.bind (f := fun q (t325 : Bool) => (if t325 = true then ((tickingref02_ascending.f q b).bind fun t326 => (tickingref02_QueuesBlock.j0 q l b (!t326))) else (tickingref02_QueuesBlock.j0 q l b true))) ha ?_
        refine Ev.congr (f := fun q => ((tickingref02_ascending.f q b).bind fun t326 => (tickingref02_QueuesBlock.j0 q l b (!t326)))) (fun q => by rw [if_pos rfl]) ?_
        exact Ev.bind (f := fun q (t326 : Bool) => tickingref02_QueuesBlock.j0 q l b (!t326)) hs hno
    · rw [decide_eq_false c1] at ha
      refine ⟨false, Ev.congr hf ?_, ⟨fun h => (by cases h), fun h => absurd ⟨fun x hx => ?_, asc_nodup ((asc_adj b).2 fun i h0 hi => ((h.2 i hi).2 h0).1)⟩ c1⟩⟩
      · refine Ev.bind (f := fun q (t325 : Bool) => (if t325 = true then ((tickingref02_ascending.f q b).bind fun t326 => (tickingref02_QueuesBlock.j0 q l b (!t326))) else (tickingref02_QueuesBlock.j0 q l b true))) ha ?_
        exact Ev.congr (fun q => by rw [if_neg (by decide)]) hno
      · obtain ⟨i, hi, rfl⟩ := List.mem_iff_getElem.1 hx
        have := (h.2 i hi).1
        rw [rd_lt b i hi] at this
        exact this
  · refine ⟨false, Ev.congr (fun q => ?_) hno, ⟨fun h => (by cases h), fun h => absurd h.1 c⟩⟩
    unfold tickingref02_QueuesBlock.f
    rw [w, if_neg c]
end Go.Proofs.Ytjbjongahnocdaa.P

/- The reference's Least, and what Queues returns. -/
namespace Go.Proofs.Ytjbjongahnocdaa.P
open Go.RowKit Go.Proofs.Ytjbjongahnocdaa.S Go.Proofs.Ytjbjongahnocdaa.Defs Go.Proofs.YtjbjongahnocdaaW.PrintWords Go.Proofs.YtjbjongahnocdaaW.PrintLast Go.Proofs.YtjbjongahnocdaaW.PrintMore
set_option linter.unusedVariables false

theorem rd_put (R : List Int) (v w x : Int) (hv : 0 ≤ v) (hw : 0 ≤ w) (hl : v < R.length) : rd (R.set v.toNat x) w = if v = w then x else rd R w := by
  unfold rd
  simp only [List.getD_eq_getElem?_getD, List.getElem?_set]
  by_cases c : v = w
  · subst c
    rw [if_pos rfl, if_pos (by omega), if_pos rfl]
    rfl
  · rw [if_neg (by omega), if_neg c]

/-! ### the reference's Least -/
theorem desc_snoc {l : List Int} {ps : List Nat} {p i : Nat} : Desc l (ps ++ [p] ++ [i]) ↔ Desc l (ps ++ [p]) ∧ p < i ∧ i < l.length ∧ rd l (i : Int) < rd l (p : Int) := by
  unfold Desc
  constructor
  · rintro ⟨h1, h2⟩
    rw [List.pairwise_append] at h1
    have := h1.2.2 p (by simp) i (by simp)
    exact ⟨⟨h1.1, fun x hx => h2 x (List.mem_append_left _ hx)⟩, this.1, h2 i (by simp), this.2⟩
  · rintro ⟨⟨h1, h2⟩, h3, h4, h5⟩
    refine ⟨?_, ?_⟩
    · rw [List.pairwise_append]
      refine ⟨h1, by simp, fun a ha x hx => ?_⟩
      rw [List.mem_singleton] at hx
      subst hx
      rw [List.pairwise_append] at h1
      rcases List.mem_append.1 ha with ha | ha
      · have := h1.2.2 a ha p (by simp)
        omega
      · rw [List.mem_singleton] at ha
        subst ha
        exact ⟨h3, h5⟩
    · intro x hx
      rcases List.mem_append.1 hx with hx | hx
      · exact h2 x hx
      · rw [List.mem_singleton] at hx
        omega
theorem last_or {α : Type} (ps : List α) : ps = [] ∨ ∃ qs p, ps = qs ++ [p] := by
  rcases List.eq_nil_or_concat ps with h | ⟨qs, p, h⟩
  · exact .inl h
  · exact .inr ⟨qs, p, by simpa using h⟩
def EndIs (l : List Int) (i : Nat) (v : Int) : Prop := 1 ≤ v ∧ v ≤ (i : Int) + 1 ∧ (∀ ps, Desc l (ps ++ [i]) → (ps.length : Int) + 1 ≤ v) ∧ ∃ ps, Desc l (ps ++ [i]) ∧ (ps.length : Int) + 1 = v
theorem refLeast_l1 (l : List Int) (hl : l.length ≤ 60) (best : Int) (i : Nat) (hi : i < l.length) (R : Int → Prop)
    (hrest : ∀ ends : List Int, ends.length = l.length → (∀ m : Nat, m ≤ i → EndIs l m (rd ends (m : Int))) → ∃ r, Ev (fun k => tickingref02_Least.l0 k l (mx best (rd ends (i : Int))) ends ((i + 1 : Nat) : Int)) r ∧ R r) (d : Nat) :
    ∀ (j : Nat) (ends : List Int), j + d = i → ends.length = l.length → (∀ m : Nat, m < i → EndIs l m (rd ends (m : Int))) →
      (1 ≤ rd ends (i : Int) ∧ rd ends (i : Int) ≤ (i : Int) + 1 ∧ (∀ ps p, p < j → Desc l (ps ++ [p] ++ [i]) → (ps.length : Int) + 2 ≤ rd ends (i : Int)) ∧ ∃ ps, Desc l (ps ++ [i]) ∧ (ps.length : Int) + 1 = rd ends (i : Int)) →
      ∃ r, Ev (fun k => tickingref02_Least.l1 k l best ends (i : Int) (j : Int)) r ∧ R r := by
  induction d with
  | zero =>
    intro j ends h he hm hv
    obtain rfl : j = i := by omega
    obtain ⟨v1, v2, v3, v4⟩ := hv
    have w : wrap64 ((j : Int) + 1) = ((j + 1 : Nat) : Int) := by rw [w64 (by omega) (by omega)]; rfl
    obtain ⟨r, r1, r2⟩ := hrest ends he (fun m hmi => by
      by_cases e : m = j
      · subst e
        refine ⟨v1, v2, fun ps hp => ?_, v4⟩
        rcases last_or ps with rfl | ⟨qs, p, rfl⟩
        · simpa using v1
        · have := v3 qs p (desc_snoc.1 hp).2.1 hp
          rw [List.length_append, List.length_singleton]
          omega
      · exact hm m (by omega))
    refine ⟨r, Ev.step (fun k => ?_) r1, r2⟩
    simp only [tickingref02_Least.l1]
    rw [if_neg (by omega), if_pos (by omega), if_pos (by omega), w]
  | succ d ih =>
    intro j ends h he hm hv
    obtain ⟨v1, v2, v3, v4⟩ := hv
    have w : wrap64 ((j : Int) + 1) = ((j + 1 : Nat) : Int) := by rw [w64 (by omega) (by omega)]; rfl
    obtain ⟨j1, j2, j3, j4⟩ := hm j (by omega)
    by_cases c : rd l (j : Int) > rd l (i : Int)
    · have w2 : wrap64 (rd ends (j : Int) + 1) = rd ends (j : Int) + 1 := w64 (by omega) (by omega)
      obtain ⟨V, hV⟩ : ∃ V, V = mx (rd ends (i : Int)) (rd ends (j : Int) + 1) := ⟨_, rfl⟩
      have hV1 : rd ends (i : Int) ≤ V ∧ rd ends (j : Int) + 1 ≤ V ∧ (V = rd ends (i : Int) ∨ V = rd ends (j : Int) + 1) := by
        rw [hV]; unfold mx; split <;> omega
      have hset : ∀ m : Nat, rd (ends.set (i : Int).toNat V) (m : Int) = if (i : Int) = (m : Int) then V else rd ends (m : Int) := fun m => rd_put ends i m V (by omega) (by omega) (by omega)
      obtain ⟨r, r1, r2⟩ := ih (j + 1) (ends.set (i : Int).toNat V) (by omega) (by rw [List.length_set, he]) (fun m hmi => by
        rw [hset, if_neg (by omega)]
        exact hm m hmi) (by
        rw [hset, if_pos rfl]
        refine ⟨by omega, by omega, fun ps p hp hdp => ?_, ?_⟩
        · by_cases e : p = j
          · subst e
            have := j3 ps (desc_snoc.1 hdp).1
            omega
          · have := v3 ps p (by omega) hdp
            omega
        · rcases hV1.2.2 with e | e
          · rw [e]; exact v4
          · obtain ⟨ps, p1, p2⟩ := j4
            refine ⟨ps ++ [j], desc_snoc.2 ⟨p1, by omega, hi, c⟩, ?_⟩
            rw [List.length_append, List.length_singleton]
            omega)
      refine ⟨r, Ev.step (fun k => ?_) r1, r2⟩
      simp only [tickingref02_Least.l1]
      rw [if_pos (by omega), if_pos (by omega), if_pos (by omega), if_pos (by omega), if_pos (by omega), if_pos c, if_pos (by omega), if_pos (by omega), w2, ← hV, w]
    · obtain ⟨r, r1, r2⟩ := ih (j + 1) ends (by omega) he hm ⟨v1, v2, fun ps p hp hdp => by
        by_cases e : p = j
        · subst e
          exact absurd (desc_snoc.1 hdp).2.2.2 (by omega)
        · exact v3 ps p (by omega) hdp, v4⟩
      refine ⟨r, Ev.step (fun k => ?_) r1, r2⟩
      simp only [tickingref02_Least.l1]
      rw [if_pos (by omega), if_pos (by omega), if_pos (by omega), if_pos (by omega), if_pos (by omega), if_neg c, w]
theorem refLeast_l0 (l : List Int) (hl : l.length ≤ 60) (d : Nat) : ∀ (i : Nat) (best : Int) (ends : List Int), i + d = l.length → ends.length = l.length → (∀ m : Nat, m < i → EndIs l m (rd ends (m : Int))) →
    1 ≤ best → (∀ m : Nat, m < i → rd ends (m : Int) ≤ best) → (best = 1 ∨ ∃ m : Nat, m < i ∧ best = rd ends (m : Int)) → ∃ r, Ev (fun k => tickingref02_Least.l0 k l best ends (i : Int)) r ∧ LeastIs l r := by
  induction d with
  | zero =>
    intro i best ends h he hm b1 b2 b3
    obtain rfl : i = l.length := by omega
    refine ⟨best, Ev.step (f := fun _ => some best) (fun k => ?_) (Ev.now _), b1, fun ps hp => ?_, ?_⟩
    · simp only [tickingref02_Least.l0]
      rw [if_neg (by omega)]
    · rcases last_or ps with rfl | ⟨qs, p, rfl⟩
      · simp; omega
      · have hpl := hp.2 p (by simp)
        have := (hm p hpl).2.2.1 qs hp
        have := b2 p hpl
        rw [List.length_append, List.length_singleton]
        omega
    · rcases b3 with b3 | ⟨m, m1, m2⟩
      · exact .inl b3
      · obtain ⟨ps, p1, p2⟩ := (hm m m1).2.2.2
        refine .inr ⟨ps ++ [m], p1, ?_⟩
        rw [List.length_append, List.length_singleton]
        omega
  | succ d ih =>
    intro i best ends h he hm b1 b2 b3
    have hset : ∀ m : Nat, rd (ends.set (i : Int).toNat 1) (m : Int) = if (i : Int) = (m : Int) then 1 else rd ends (m : Int) := fun m => rd_put ends i m 1 (by omega) (by omega) (by omega)
    obtain ⟨r, r1, r2⟩ := refLeast_l1 l hl best i (by omega) (LeastIs l) (fun ends' he' hm' => by
      have hx : best ≤ mx best (rd ends' (i : Int)) ∧ rd ends' (i : Int) ≤ mx best (rd ends' (i : Int)) ∧ (mx best (rd ends' (i : Int)) = best ∨ mx best (rd ends' (i : Int)) = rd ends' (i : Int)) := by
        unfold mx; split <;> omega
      have hsame : ∀ m : Nat, m < i → rd ends' (m : Int) = rd ends (m : Int) := fun m hmi => by
        obtain ⟨x1, x2, x3, ps, x4, x5⟩ := hm' m (by omega)
        obtain ⟨y1, y2, y3, qs, y4, y5⟩ := hm m hmi
        have := x3 qs y4
        have := y3 ps x4
        omega
      refine ih (i + 1) _ ends' (by omega) he' (fun m hmi => hm' m (by omega)) (by omega) (fun m hmi => ?_) ?_
      · by_cases e : m = i
        · subst e; exact hx.2.1
        · have := b2 m (by omega)
          rw [hsame m (by omega)]
          omega
      · rcases hx.2.2 with e | e
        · rw [e]
          rcases b3 with b3 | ⟨m, m1, m2⟩
          · exact .inl b3
          · exact .inr ⟨m, by omega, by rw [hsame m m1]; exact m2⟩
        · rw [e]
          exact .inr ⟨i, by omega, rfl⟩) i 0 (ends.set (i : Int).toNat 1) (by omega) (by rw [List.length_set, he]) (fun m hmi => by
        rw [hset, if_neg (by omega)]
        exact hm m hmi) (by
        rw [hset, if_pos rfl]
        refine ⟨Int.le_refl _, by omega, fun ps p hp => by omega, [], ⟨by simp, by simp; omega⟩, rfl⟩)
    refine ⟨r, Ev.step (fun k => ?_) r1, r2⟩
    simp only [tickingref02_Least.l0]
    rw [if_pos (by omega), if_pos (by omega), if_pos (by omega)]
    rfl
theorem refLeast_ev (l : List Int) (hl : l.length ≤ 60) : ∃ r, Ev (fun k => tickingref02_Least.f k l) r ∧ LeastIs l r := by
  obtain ⟨r, r1, r2⟩ := refLeast_l0 l hl l.length 0 1 (List.replicate l.length 0) (by omega) (by simp) (fun m hm => by omega) (Int.le_refl _) (fun m hm => by omega) (.inl rfl)
  refine ⟨r, Ev.congr (fun k => ?_) r1, r2⟩
  unfold tickingref02_Least.f
  rw [if_pos (by omega), if_pos (by omega)]
  rfl

/-! ### turning a list -/
theorem reverse_loop (xs : List Int) (hl : xs.length ≤ 1000) (d : Nat) : ∀ (i : Nat) (R : List Int), 2 * i + d = xs.length → R.length = xs.length →
    (∀ m : Nat, m < xs.length → rd R (m : Int) = if m < i ∨ xs.length - 1 - m < i then rd xs ((xs.length - 1 - m : Nat) : Int) else rd xs (m : Int)) → Ev (fun k => slices_Reverse_int_int.l0 k R (i : Int) ((xs.length : Int) - 1 - i)) xs.reverse := by
  induction d using Nat.strongRecOn with
  | _ d ih =>
    intro i R h hR hv
    by_cases c : 2 ≤ d
    · obtain ⟨e, rfl⟩ : ∃ e, d = e + 2 := ⟨d - 2, by omega⟩
      have w1 : wrap64 ((i : Int) + 1) = ((i + 1 : Nat) : Int) := by rw [w64 (by omega) (by omega)]; rfl
      have w2 : wrap64 ((xs.length : Int) - 1 - i - 1) = (xs.length : Int) - 1 - ((i + 1 : Nat) : Int) := by rw [w64 (by omega) (by omega)]; omega
      have e3 : (xs.length : Int) - 1 - i = ((xs.length - 1 - i : Nat) : Int) := by omega
      refine Ev.step (fun k => ?_) (ih e (by omega) (i + 1) ((R.set (i : Int).toNat (rd R ((xs.length : Int) - 1 - i))).set ((xs.length : Int) - 1 - i).toNat (rd R (i : Int))) (by omega) (by simp [hR]) (fun m hm => ?_))
      · simp only [slices_Reverse_int_int.l0]
        rw [if_pos (by omega), if_pos (by omega), if_pos (by omega), if_pos (by omega), if_pos (by omega), w1, w2]
      · rw [rd_put _ _ _ _ (by omega) (by omega) (by rw [List.length_set]; omega), rd_put _ _ _ _ (by omega) (by omega) (by omega)]
        have hi := hv i (by omega)
        rw [if_neg (by omega)] at hi
        have hj := hv (xs.length - 1 - i) (by omega)
        rw [if_neg (by omega)] at hj
        by_cases c1 : m = xs.length - 1 - i
        · subst c1
          rw [if_pos e3, if_pos (by omega), hi, show xs.length - 1 - (xs.length - 1 - i) = i by omega]
        · rw [if_neg (by omega)]
          by_cases c2 : m = i
          · subst c2
            rw [if_pos rfl, if_pos (by omega), e3, hj]
          · rw [if_neg (by omega), hv m hm]
            by_cases c3 : m < i ∨ xs.length - 1 - m < i
            · rw [if_pos c3, if_pos (by omega)]
            · rw [if_neg c3, if_neg (by omega)]
    · have hx : R = xs.reverse := by
        apply List.ext_getElem
        · simp [hR]
        · intro m h1 h2
          have hm := hv m (by omega)
          rw [rd_lt R m h1] at hm
          rw [hm, List.getElem_reverse]
          by_cases c3 : m < i ∨ xs.length - 1 - m < i
          · rw [if_pos c3, rd_lt xs _ (by omega)]
          · rw [if_neg c3, rd_lt xs m (by omega)]
            congr 1
            omega
      rw [hx] at *
      refine Ev.step (f := fun _ => some xs.reverse) (fun k => ?_) (Ev.now _)
      simp only [slices_Reverse_int_int.l0]
      rw [if_neg (by omega)]
theorem reverse_ev (xs : List Int) (hl : xs.length ≤ 1000) : Ev (fun k => slices_Reverse_int_int.f k xs) xs.reverse := by
  have w : wrap64 ((xs.length : Int) - 1) = (xs.length : Int) - 1 - ((0 : Nat) : Int) := by rw [w64 (by omega) (by omega)]; omega
  refine Ev.congr (fun k => ?_) (reverse_loop xs hl xs.length 0 xs (by omega) rfl (fun m hm => by rw [if_neg (by omega)]))
  unfold slices_Reverse_int_int.f
  rw [w]
  rfl

/-! ### Queues -/
theorem plq (out : List (Int × Int)) (i : Nat) (h : i < out.length) : (rd_T82 (out.map plPlace) (i : Int)).f0 = qAt out i := by
  unfold rd_T82 qAt
  simp [plPlace, h]
theorem plb (out : List (Int × Int)) (i : Nat) (h : i < out.length) : (rd_T82 (out.map plPlace) (i : Int)).f1 = bfAt out i := by
  unfold rd_T82 bfAt
  simp [plPlace, h]
/-- Going back over the queues: the positions of a descending choice, the last one first. -/
theorem back_ev {l last : List Int} {out : List (Int × Int)} (hv : Inv l l.length last out) (hl : l.length ≤ 60) (c : Nat) : ∀ (j : Nat) (acc : List Int), j < l.length → qAt out j = (c : Int) → acc.length + c ≤ 100 →
    ∃ ps : List Nat, Desc l (ps ++ [j]) ∧ ps.length = c ∧ Ev (fun k => shunt_Queues.l1 k (out.map plPlace) (j : Int) acc) (([] : List Int), (acc ++ ((ps ++ [j]).map (fun p : Nat => (p : Int))).reverse).reverse, 0) := by
  have hlen := hv.len
  have hend : ∀ acc : List Int, acc.length ≤ 200 → Ev (fun k => shunt_Queues.l1 k (out.map plPlace) (-1) acc) (([] : List Int), acc.reverse, 0) := by
    intro acc ha
    refine Ev.step (f := fun k => (slices_Reverse_int_int.f k acc).bind fun t => some (([] : List Int), t, (0 : Int))) (fun k => ?_) ?_
    · simp only [shunt_Queues.l1]
      rw [if_neg (by omega)]
    · exact Ev.bind (f := fun k t => some (([] : List Int), t, (0 : Int))) (reverse_ev acc (by omega)) (Ev.now _)
  induction c with
  | zero =>
    intro j acc hj hq ha
    refine ⟨[], ⟨by simp, by simp; omega⟩, rfl, ?_⟩
    have hb := hv.no j hj (by omega)
    refine Ev.step (fun k => ?_) (hend (acc ++ [(j : Int)]) (by simp; omega))
    simp only [shunt_Queues.l1]
    rw [if_pos (by omega), if_pos (by omega), if_pos (by omega), if_pos (by rw [List.length_map]; omega), plb out j (by omega), hb]
  | succ c ih =>
    intro j acc hj hq ha
    obtain ⟨b, b1, b2, b3, b4⟩ := hv.ch j hj (by omega)
    obtain ⟨ps, p1, p2, p3⟩ := ih b (acc ++ [(j : Int)]) (by omega) (by omega) (by simp; omega)
    refine ⟨ps ++ [b], desc_snoc.2 ⟨p1, b2, hj, b4⟩, by simp [p2], ?_⟩
    have e : acc ++ ((ps ++ [b] ++ [j]).map (fun p : Nat => (p : Int))).reverse = acc ++ [(j : Int)] ++ ((ps ++ [b]).map (fun p : Nat => (p : Int))).reverse := by simp
    rw [e]
    refine Ev.step (fun k => ?_) p3
    simp only [shunt_Queues.l1]
    rw [if_pos (by omega), if_pos (by omega), if_pos (by omega), if_pos (by rw [List.length_map]; omega), plb out j (by omega), b1]
theorem desc_qb {l : List Int} {ps : List Nat} (h : Desc l ps) (k : Int) (hk : (ps.length : Int) = k + 1) : QB l k (ps.map (fun p : Nat => (p : Int))) := by
  have hr : ∀ i : Nat, (hi : i < ps.length) → rd (ps.map (fun p : Nat => (p : Int))) (i : Int) = ((ps[i] : Nat) : Int) := by
    intro i hi
    rw [rd_lt _ i (by simpa using hi)]
    simp
  refine ⟨by rw [List.length_map]; exact hk, fun i hi => ?_⟩
  rw [List.length_map] at hi
  rw [hr i hi]
  have := h.2 ps[i] (List.getElem_mem hi)
  refine ⟨by omega, fun h0 => ?_⟩
  rw [hr (i - 1) (by omega)]
  have := List.pairwise_iff_getElem.1 h.1 (i - 1) i (by omega) hi (by omega)
  exact ⟨by omega, this.2⟩
theorem queues_loop {l last : List Int} {out : List (Int × Int)} (hv : Inv l l.length last out) (hl : l.length ≤ 60) (k : Int) (h0 : 1 ≤ k) (h1 : k ≤ 60) (d : Nat) : ∀ i : Nat, i + d = l.length → (∀ j : Nat, j < i → qAt out j < k) →
    ∃ la b, Ev (fun q => shunt_Queues.l0 q k (out.map plPlace) ((List.range i).map (qAt out)) (out.map plPlace) ((out.map plPlace).length : Int) (i : Int)) (la, b, 0) ∧
      (((∀ j : Nat, j < l.length → qAt out j < k) ∧ la = (List.range l.length).map (qAt out) ∧ b = []) ∨ (la = [] ∧ QB l k b)) := by
  have hlen := hv.len
  have hml : (out.map plPlace).length = l.length := by rw [List.length_map, hlen]
  induction d with
  | zero =>
    intro i h hq
    obtain rfl : i = l.length := by omega
    refine ⟨(List.range l.length).map (qAt out), [], Ev.step (f := fun _ => some ((List.range l.length).map (qAt out), ([] : List Int), (0 : Int))) (fun q => ?_) (Ev.now _), .inl ⟨hq, rfl, rfl⟩⟩
    simp only [shunt_Queues.l0]
    rw [if_neg (by omega)]
  | succ d ih =>
    intro i h hq
    have w : wrap64 ((i : Int) + 1) = ((i + 1 : Nat) : Int) := by rw [w64 (by omega) (by omega)]; rfl
    have hqr := hv.qr i (by omega)
    by_cases c : qAt out i = k
    · obtain ⟨ps, p1, p2, p3⟩ := back_ev hv hl k.toNat i [] (by omega) (by omega) (by simp; omega)
      refine ⟨_, _, Ev.step (fun q => ?_) p3, .inr ⟨rfl, ?_⟩⟩
      · simp only [shunt_Queues.l0]
        rw [if_pos (by omega), if_pos (by omega), if_pos (by omega), plq out i (by omega), if_pos c]
      · rw [List.nil_append, List.reverse_reverse]
        exact desc_qb p1 k (by rw [List.length_append, p2, List.length_singleton]; omega)
    · have hlt : qAt out i < k := by
        apply Classical.byContradiction
        intro hn
        have hgt : k < qAt out i := by omega
        obtain ⟨b, b1, b2, b3, b4⟩ := hv.ch i (by omega) (by omega)
        have := hq b b2
        omega
      obtain ⟨la, b, s1, s2⟩ := ih (i + 1) (by omega) (fun j hj => by
        by_cases e : j = i
        · subst e; exact hlt
        · exact hq j (by omega))
      refine ⟨la, b, Ev.step (fun q => ?_) s1, s2⟩
      simp only [shunt_Queues.l0]
      rw [if_pos (by omega), if_pos (by omega), if_pos (by omega), plq out i (by omega), if_neg c, if_pos (by simp; omega), w, List.range_succ, List.map_append]
      rfl
/-- What Queues answers for an order: lanes that sort, or a block; which one, the least number tells. -/
theorem Queues_ev (l : List Int) (k : Int) (h : IsOrd l) (hl : l.length ≤ 60) (h0 : 1 ≤ k) (h1 : k ≤ 60) (n : Int) (hn : LeastIs l n) :
    ∃ la b, Ev (fun q => shunt_Queues.f q l k) (la, b, 0) ∧ ((n ≤ k ∧ LanesP l k la ∧ b = []) ∨ (k < n ∧ la = [] ∧ QB l k b)) := by
  obtain ⟨last, hv⟩ := places_inv l h.1
  obtain ⟨la, b, s1, s2⟩ := queues_loop hv hl k h0 h1 l.length 0 (by omega) (fun j hj => by omega)
  refine ⟨la, b, ?_, ?_⟩
  · refine Ev.congr (f := fun q => shunt_Queues.j0 q l k false) (fun q => ?_) (Ev.step (fun q => ?_) s1)
    · unfold shunt_Queues.f shunt_isOrder.f shunt_within.f
      simp only [Option.bind_some]
      rw [if_pos ((isOrderB_iff l).2 ⟨hl, h⟩), if_pos h0, decide_eq_true h1]
      rfl
    · simp only [shunt_Queues.j0]
      unfold shunt_places.f
      rw [if_neg (by decide), if_pos hl]
      rfl
  · rcases s2 with ⟨t1, rfl, rfl⟩ | ⟨rfl, t2⟩
    · left
      have hle : n ≤ k := by
        obtain ⟨n1, n2, n3⟩ := hn
        rcases n3 with rfl | ⟨ps, p1, p2⟩
        · exact h0
        · have := nodup_len k.toNat (ps.map (qAt (placesB l))) (-1) (desc_nodup hv p1) (fun a ha => by
            obtain ⟨p, q1, q2⟩ := List.mem_map.1 ha
            have := hv.qr p (p1.2 p q1)
            have := t1 p (p1.2 p q1)
            omega)
          rw [List.length_map] at this
          omega
      have hr : ∀ m : Nat, m < l.length → rd ((List.range l.length).map (qAt (placesB l))) (m : Int) = qAt (placesB l) m := by
        intro m hm
        rw [rd_lt _ m (by simpa using hm)]
        simp
      refine ⟨hle, ⟨by simp, fun m hm => ?_⟩, rfl⟩
      rw [List.length_map, List.length_range] at hm
      rw [hr m hm]
      refine ⟨⟨(hv.qr m hm).1, t1 m hm⟩, fun j hj e => ?_⟩
      rw [hr j (by omega)] at e
      exact hv.inc j m hj hm e
    · right
      refine ⟨?_, rfl, t2⟩
      have : Desc l (b.map Int.toNat) := by
        refine ⟨?_, ?_⟩
        · rw [List.pairwise_map]
          have hasc : Asc b := (asc_adj b).2 fun i i0 hi => ((t2.2 i hi).2 i0).1
          have hdes : b.Pairwise (fun x y => rd l y < rd l x) := by
            have := (asc_adj (b.map (fun x => - rd l x))).2 (fun i i0 hi => by
              rw [List.length_map] at hi
              rw [rd_lt _ i (by simpa using hi), rd_lt _ (i - 1) (by simp; omega)]
              simp only [List.getElem_map]
              have := ((t2.2 i hi).2 i0).2
              rw [rd_lt b i hi, rd_lt b (i - 1) (by omega)] at this
              omega)
            unfold Asc at this
            rw [List.pairwise_map] at this
            exact List.Pairwise.imp (fun {x y} (h : - rd l x < - rd l y) => by omega) this
          refine List.Pairwise.imp_of_mem ?_ (List.Pairwise.and hasc hdes)
          intro x y hx hy hxy
          obtain ⟨i, hi, rfl⟩ := List.mem_iff_getElem.1 hx
          obtain ⟨j, hj, rfl⟩ := List.mem_iff_getElem.1 hy
          have ri := (t2.2 i hi).1
          have rj := (t2.2 j hj).1
          rw [rd_lt b i hi] at ri
          rw [rd_lt b j hj] at rj
          rw [show ((b[i].toNat : Nat) : Int) = b[i] by omega, show ((b[j].toNat : Nat) : Int) = b[j] by omega]
          exact ⟨by omega, hxy.2⟩
        · intro p hp
          obtain ⟨x, hx, rfl⟩ := List.mem_map.1 hp
          obtain ⟨i, hi, rfl⟩ := List.mem_iff_getElem.1 hx
          have ri := (t2.2 i hi).1
          rw [rd_lt b i hi] at ri
          omega
      have := hn.2.1 _ this
      rw [List.length_map] at this
      have := t2.1
      omega
theorem Queues_no (l : List Int) (k : Int) (h : ¬ ((l.length ≤ 60 ∧ IsOrd l) ∧ 1 ≤ k ∧ k ≤ 60)) : Ev (fun q => shunt_Queues.f q l k) (([] : List Int), ([] : List Int), 2) := by
  have hj : Ev (fun q => shunt_Queues.j0 q l k true) (([] : List Int), ([] : List Int), 2) := by
    refine Ev.step (f := fun _ => some (([] : List Int), ([] : List Int), (2 : Int))) (fun q => ?_) (Ev.now _)
    simp only [shunt_Queues.j0]
    rw [if_pos trivial]
  refine Ev.congr (fun q => ?_) hj
  unfold shunt_Queues.f shunt_isOrder.f shunt_within.f
  simp only [Option.bind_some]
  by_cases c : isOrderB l = true
  · rw [if_pos c]
    have c' := (isOrderB_iff l).1 c
    by_cases d : k ≥ 1
    · rw [if_pos d, decide_eq_false (fun h' => h ⟨c', d, h'⟩)]
      rfl
    · rw [if_neg d]
      rfl
  · rw [if_neg c]
end Go.Proofs.Ytjbjongahnocdaa.P

/- For any order and any number of queues, Queues returns lanes that sort, or a block, CheckQueues accepts it, and Least returns the least number of queues, or ErrArg: for every list, of which the first 61 numbers count, and every int. -/
namespace Go.Proofs.Ytjbjongahnocdaa.Pure
open Go.RowKit Go.Proofs.Ytjbjongahnocdaa.S Go.Proofs.Ytjbjongahnocdaa.P Go.Proofs.Ytjbjongahnocdaa.Defs Go.Proofs.YtjbjongahnocdaaW.PrintWords Go.Proofs.YtjbjongahnocdaaW.PrintLast Go.Proofs.YtjbjongahnocdaaW.PrintMore

theorem queues_end {g : Nat → Option Bool} (h : ∀ k, g k = (tickinglaw02_awake.f k).bind fun t => some t) : Ev g true :=
  Ev.congr h (Ev.bind (f := fun _ t => some t) awake_ev (Ev.now _))
theorem queues_j2 (k : Int) (o la b : List Int) (n : Int) (h : IsOrd o) (ho : o.length ≤ 60) (h0 : 1 ≤ k) (h1 : k ≤ 60) (hc : (n ≤ k ∧ LanesP o k la ∧ b = []) ∨ (k < n ∧ la = [] ∧ QB o k b)) :
    Ev (fun q => tickinglaw02_ShuntQueues.j2 q k o la b n false) true := by
  rcases hc with ⟨c1, c2, rfl⟩ | ⟨c1, rfl, c2⟩
  · obtain ⟨r, r1, r2⟩ := lanes_ev o k la h ho
    have hr := r2.2 c2
    subst hr
    refine Ev.step (f := fun q => (tickingref02_LanesSort.f q o k la).bind fun t491 => (if t491 = true then (if (([] : List Int).length : Int) = 0 then ((tickinglaw02_awake.f q).bind fun t492 => (some t492)) else (some false)) else (some false))) (fun q => ?_) ?_
    · simp only [tickinglaw02_ShuntQueues.j2]
      rw [if_neg (by decide), if_pos (by omega)]
    · refine Ev.bind (f := fun q (t491 : Bool) => (if t491 = true then (if (([] : List Int).length : Int) = 0 then ((tickinglaw02_awake.f q).bind fun t492 => (some t492)) else (some false)) else (some false))) r1 ?_
      exact queues_end fun q => by rw [if_pos rfl, if_pos (show (([] : List Int).length : Int) = 0 from rfl)]
  · obtain ⟨r, r1, r2⟩ := queuesBlock_ev o k b h0 h1
    have hr := r2.2 c2
    subst hr
    refine Ev.step (f := fun q => (tickingref02_QueuesBlock.f q o k b).bind fun t493 => (if t493 = true then ((tickinglaw02_awake.f q).bind fun t494 => (some t494)) else (some false))) (fun q => ?_) ?_
    · simp only [tickinglaw02_ShuntQueues.j2]
      rw [if_neg (by decide), if_neg (by omega), if_pos (show (([] : List Int).length : Int) = 0 from rfl)]
    · refine Ev.bind (f := fun q (t493 : Bool) => (if t493 = true then ((tickinglaw02_awake.f q).bind fun t494 => (some t494)) else (some false))) r1 ?_
      exact queues_end fun q => by rw [if_pos rfl]

theorem ShuntQueues : tickinglaw02_ShuntQueues.Pure := by
  intro l0 a1 _ _ _ _
  apply Ev.rounds
  obtain ⟨o, ho⟩ : ∃ o, o = l0.take 61 := ⟨_, rfl⟩
  have hlen : o.length ≤ 61 := by rw [ho, List.length_take]; omega
  have hOr := Order_ev o 60 (by omega)
  have hf : ∀ k, tickinglaw02_ShuntQueues.f k l0 a1 = ((shunt_Queues.f k o a1).bind fun bt475 => ((shunt_Least.f k o).bind fun bt482 => ((tickingref02_Order.f k o 60).bind fun t484 => (if t484 = true then ((tickingref02_Least.f k o).bind fun t487 => (if bt482.1 = t487 then (tickinglaw02_ShuntQueues.j0 k a1 o bt475.1 bt475.2.1 bt475.2.2 bt482.1 (bt482.2 != 0)) else (tickinglaw02_ShuntQueues.j0 k a1 o bt475.1 bt475.2.1 bt475.2.2 bt482.1 true))) else (if (bt475.1.length : Int) = 0 then (if (bt475.2.1.length : Int) = 0 then (if bt475.2.2 = 2 then (if bt482.1 = 0 then (if bt482.2 = 2 then ((shunt_CheckQueues.f o a1 bt475.1 bt475.2.1).bind fun t485 => (if t485 = 2 then ((tickinglaw02_awake.f k).bind fun t486 => (some t486)) else (some false))) else (some false)) else (some false)) else (some false)) else (some false)) else (some false)))))) := by
    intro k
    rw [ho]
    rfl
  refine Ev.congr hf ?_
  by_cases c : o.length ≤ 60 ∧ IsOrd o
  · obtain ⟨c1, c2⟩ := c
    obtain ⟨n, n1, n2⟩ := Least_ev o c2 c1
    obtain ⟨n', m1, m2⟩ := refLeast_ev o c1
    obtain rfl : n = n' := least_unique n2 m2
    obtain ⟨la, b, e, hq, hj1⟩ : ∃ la b e, Ev (fun k => shunt_Queues.f k o a1) (la, b, e) ∧ Ev (fun k => tickinglaw02_ShuntQueues.j0 k a1 o la b e n false) true := by
      by_cases d : 1 ≤ a1 ∧ a1 ≤ 60
      · obtain ⟨la, b, q1, q2⟩ := Queues_ev o a1 c2 c1 d.1 d.2 n n2
        refine ⟨la, b, 0, q1, ?_⟩
        obtain ⟨e, e1, _, e3⟩ := queuesCheck o a1 la b c2 c1 d.1 d.2
        have he : e = 0 := e3.2 (by
          rcases q2 with ⟨_, h1, h2⟩ | ⟨_, h1, h2⟩
          · exact .inl ⟨h1, h2⟩
          · exact .inr ⟨h1, h2⟩)
        subst he
        refine Ev.step (f := fun k => tickinglaw02_ShuntQueues.j1 k a1 o la b 0 n false) (fun k => ?_) (Ev.step (f := fun k => tickinglaw02_ShuntQueues.j2 k a1 o la b n false) (fun k => ?_) (queues_j2 a1 o la b n c2 c1 d.1 d.2 q2))
        · simp only [tickinglaw02_ShuntQueues.j0]
          rw [if_neg (by decide), if_neg (by omega), decide_eq_false (by omega)]
        · simp only [tickinglaw02_ShuntQueues.j1]
          rw [if_neg (by decide), if_pos trivial, e1]
          rfl
      · refine ⟨[], [], 2, Queues_no o a1 (fun h => d h.2), ?_⟩
        have hj : Ev (fun k => tickinglaw02_ShuntQueues.j1 k a1 o [] [] 2 n true) true := by
          refine Ev.step (f := fun k => (tickinglaw02_awake.f k).bind fun t => some t) (fun k => ?_) (queues_end fun k => rfl)
          simp only [tickinglaw02_ShuntQueues.j1]
          rw [if_pos trivial, if_pos (show (([] : List Int).length : Int) = 0 from rfl), if_pos trivial, queuesCheck_no o a1 [] [] (fun h => d h.2)]
          rfl
        refine Ev.step (fun k => ?_) hj
        simp only [tickinglaw02_ShuntQueues.j0]
        rw [if_neg (by decide)]
        split
        · rfl
        · rw [decide_eq_true (by omega)]
    refine Ev.bind (f := fun k (bt475 : List Int × List Int × Int) => ((shunt_Least.f k o).bind fun bt482 => ((tickingref02_Order.f k o 60).bind fun t484 => (if t484 = true then ((tickingref02_Least.f k o).bind fun t487 => (if bt482.1 = t487 then (tickinglaw02_ShuntQueues.j0 k a1 o bt475.1 bt475.2.1 bt475.2.2 bt482.1 (bt482.2 != 0)) else (tickinglaw02_ShuntQueues.j0 k a1 o bt475.1 bt475.2.1 bt475.2.2 bt482.1 true))) else (if (bt475.1.length : Int) = 0 then (if (bt475.2.1.length : Int) = 0 then (if bt475.2.2 = 2 then (if bt482.1 = 0 then (if bt482.2 = 2 then ((shunt_CheckQueues.f o a1 bt475.1 bt475.2.1).bind fun t485 => (if t485 = 2 then ((tickinglaw02_awake.f k).bind fun t486 => (some t486)) else (some false))) else (some false)) else (some false)) else (some false)) else (some false)) else (some false)))))) hq ?_
    refine Ev.bind (f := fun k (bt482 : Int × Int) => ((tickingref02_Order.f k o 60).bind fun t484 => _)) n1 ?_
    refine Ev.bind (f := fun k (t484 : Bool) => _) hOr ?_
    refine Ev.congr (f := fun k => (tickingref02_Least.f k o).bind fun t487 => (if n = t487 then (tickinglaw02_ShuntQueues.j0 k a1 o la b e n false) else (tickinglaw02_ShuntQueues.j0 k a1 o la b e n true))) (fun k => ?_) ?_
    · rw [if_pos (decide_eq_true ⟨c2, by omega⟩)]
      rfl
    · refine Ev.bind (f := fun k (t487 : Int) => (if n = t487 then (tickinglaw02_ShuntQueues.j0 k a1 o la b e n false) else (tickinglaw02_ShuntQueues.j0 k a1 o la b e n true))) m1 ?_
      exact Ev.congr (fun k => by rw [if_pos rfl]) hj1
  · refine Ev.bind (f := fun k (bt475 : List Int × List Int × Int) => ((shunt_Least.f k o).bind fun bt482 => ((tickingref02_Order.f k o 60).bind fun t484 => (if t484 = true then ((tickingref02_Least.f k o).bind fun t487 => (if bt482.1 = t487 then (tickinglaw02_ShuntQueues.j0 k a1 o bt475.1 bt475.2.1 bt475.2.2 bt482.1 (bt482.2 != 0)) else (tickinglaw02_ShuntQueues.j0 k a1 o bt475.1 bt475.2.1 bt475.2.2 bt482.1 true))) else (if (bt475.1.length : Int) = 0 then (if (bt475.2.1.length : Int) = 0 then (if bt475.2.2 = 2 then (if bt482.1 = 0 then (if bt482.2 = 2 then ((shunt_CheckQueues.f o a1 bt475.1 bt475.2.1).bind fun t485 => (if t485 = 2 then ((tickinglaw02_awake.f k).bind fun t486 => (some t486)) else (some false))) else (some false)) else (some false)) else (some false)) else (some false)) else (some false)))))) (Queues_no o a1 (fun h => c h.1)) ?_
    refine Ev.bind (f := fun k (bt482 : Int × Int) => ((tickingref02_Order.f k o 60).bind fun t484 => _)) (Ev.congr (Least_no o c) (Ev.now _)) ?_
    refine Ev.bind (f := fun k (t484 : Bool) => _) hOr ?_
    refine queues_end fun k => ?_
    rw [if_neg (by rw [decide_eq_true_eq]; exact fun h => c ⟨by omega, h.1⟩), if_pos (show (([] : List Int).length : Int) = 0 from rfl), if_pos (show (([] : List Int).length : Int) = 0 from rfl), if_pos rfl, if_pos rfl, if_pos rfl, queuesCheck_no o a1 [] [] (fun h => c h.1)]
    rfl
end Go.Proofs.Ytjbjongahnocdaa.Pure
