-- Written by wip/bundle.py: texts of this claim, one behind the other.
import Derived.Test.YtjbjongahnocdaaBShuntRanked2
set_option linter.unusedVariables false
set_option linter.unusedSimpArgs false

namespace Go.Proofs.Ytjbjongahnocdaa.S
open Go.Proofs.Ytjbjongahnocdaa.Lib
open Go.Proofs.Ytjbjongahnocdaa.Defs
open Go.Maps (Keyed)
open Go.RowKit Go.Proofs.YtjbjongahnocdaaW.PrintWords Go.Proofs.YtjbjongahnocdaaW.PrintLast Go.Proofs.YtjbjongahnocdaaW.PrintMore
attribute [local go_sem] max2_int min2_int max_two min_two max_three min_three max_four min_four   -- for this text's walks alone
set_option linter.unusedVariables false
set_option linter.unusedSimpArgs false

/-! ### shunt_sorts: function 67 -/
def sortsGo (order : List Int) (plan : ByteArray) : Nat → Int → Int → List Int → List Int → Bool
  | 0, _, _, _, lft => decide (lft.length = order.length)
  | d + 1, i, next, s, lft =>
    if bt plan i = 105 ∧ next < order.length then sortsGo order plan d (i + 1) (next + 1) (rd order next :: s) lft
    else if bt plan i = 111 then (match s with | [] => false | a :: t => if a = (lft.length : Int) + 1 then sortsGo order plan d (i + 1) next t (lft ++ [a]) else false)
    else false
def shunt_sorts.f (l0 : List Int) (a1 : ByteArray) : Option Bool :=
  if l0.length ≤ 60 then (if (a1.size : Int) = 2 * (l0.length : Int) then some (sortsGo l0 a1 a1.size 0 0 [] []) else some false) else none

set_option maxHeartbeats 2000000 in
set_option maxRecDepth 100000 in
theorem shunt_sorts.calls (A0 : Option Addr) (c0 : Nat) (l0 : List Int) (a1 : ByteArray) (r : Bool) (w : World) (hr0 : Kd.C (Kd.int .i64) w A0 l0.length l0) (hc0 : l0.length ≤ c0) (h : shunt_sorts.f l0 a1 = some r) :
    Calls Try.prog 67 #[.slice A0 l0.length c0, .string a1] w fun e w' => e = .returned (.bool r) ∧ Below w.heap.size w w' := by
  have HR0 := Aside0.mk hr0
  have HC0 := Aside0.mk hc0
  clear hr0 hc0
  unfold shunt_sorts.f at h
  by_cases hl : l0.length ≤ 60
  · rw [if_pos hl] at h
    obtain ⟨jt, hjt⟩ : ∃ jt : Int, jt = 2 * (l0.length : Int) := ⟨_, rfl⟩
    have hjw : IntKind.i64.wrap (2 * (l0.length : Int)) = jt := by rw [i64_w, hjt]; unfold wrap64; omega
    rw [← hjt] at h
    by_cases c1 : (a1.size : Int) = jt
    · rw [if_pos c1] at h
      have H' := Aside0.mk (Option.some.inj h)
      have HS := Aside0.mk (show a1.size ≤ 120 by omega)
      have HL := Aside0.mk hl
      have c1b0 : ((a1.size : Int) != jt) = false := bne_eq_false_iff_eq.mpr c1
      clear h c1 hl hjt
      go_enter Try.func67, Try.ntmps67
      go_wp2
      go_loopw [6, 18] (fun v6 v18 wr => ∃ (next i : Int) (s lft : List Int), v6 = .int .i64 next ∧ v18 = .int .i64 i ∧ Aside0 (0 ≤ i ∧ i ≤ a1.size ∧ 0 ≤ next ∧ next ≤ l0.length ∧ (s.length : Int) + lft.length = next) ∧ Aside0 (sortsGo l0 a1 (a1.size - i.toNat) i next s lft = r) ∧ Aside0 (LineIs w.heap.size wr w.heap.size s.reverse lft) ∧ Aside0 (Below w.heap.size w wr)) (fun _ v18 _ => a1.size - (intOf v18).toNat)
      case atStart => exact ⟨0, 0, [], [], rfl, rfl, ⟨by simp⟩, H', ⟨⟨_, _, heap_alloc_new w _, Nat.le_refl _, Kd.R_nil _ _ _ _ _, Kd.R_nil _ _ _ _ _⟩⟩, ⟨below_alloc (Below.refl _ _) _⟩⟩
      case round =>
        clear H'
        obtain ⟨next, i, s, lft, rfl, rfl, HX, HA, HLN, HB⟩ := hrel
        obtain ⟨p0, p1, p2, p3, p4⟩ := HX.out
        have hs120 := HS.out
        have hl60 := HL.out
        by_cases c2 : i < (a1.size : Int)
        · have c2b0 : decide (i < (a1.size : Int)) = true := decide_eq_true c2
          have hx7 := bt_at a1 i
          have q0 := eq_true p0
          have q1 := eq_true c2
          have HA1 := HA.out
          rw [show a1.size - i.toNat = (a1.size - (i + 1).toNat) + 1 by omega] at HA1
          unfold sortsGo at HA1
          by_cases c3 : bt a1 i = 105
          · have c3b0 : (bt a1 i == 105) = true := beq_iff_eq.mpr c3
            by_cases c4 : next < (l0.length : Int)
            · have c4b0 : decide (next < (l0.length : Int)) = true := decide_eq_true c4
              rw [if_pos ⟨c3, c4⟩] at HA1
              have HA2 := Aside0.mk HA1
              obtain ⟨ad, ea, hx⟩ := Kd.at_int (Kd.C_below HR0.out HB.out) next p2 c4
              cases ea
              have q2 := eq_true p2
              have q3 := eq_true c4
              have hxd := (World.cell?_drew wr (ad.add next.toNat)).trans hx
              have HPU := Aside0.mk (stack_push.calls w.heap.size w.heap.size s.reverse lft (rd l0 next) wr.drew HLN.out.drew (by simp; omega) HB.out.size)
              rw [← List.reverse_cons] at HPU
              clear HA HA1 c3 c4
              go_wp2
              go_region_with (go_at_call 58; go_must ((with_reducible refine HPU.out.mono ?_); rintro e w2 ⟨rfl, hL2, hT2⟩; have HL2 := Aside0.mk hL2; have HB2 := Aside0.mk (Turn.below (below_drew1 HB.out) HB.out.size hT2); clear hL2 hT2))
              all_goals (
                go_wp2
                go_roundw
                case rel => exact ⟨next + 1, i + 1, rd l0 next :: s, lft, rfl, rfl, ⟨by have := HX.out; have := of_eq_true q1; have := of_eq_true q3; simp; omega⟩, HA2, HL2, HB2⟩
                case measure => have := of_eq_true q1; simp [intOf]; omega)
            · have c4b0 : decide (next < (l0.length : Int)) = false := decide_eq_false c4
              have c5b0 : (bt a1 i != 111) = true := by rw [c3]; rfl
              rw [if_neg (fun h => c4 h.2), if_neg (by omega)] at HA1
              subst HA1
              clear HA c3 c4
              go_wp2
              go_ret
              exact ⟨rfl, HB.out⟩
          · have c3b0 : (bt a1 i == 105) = false := beq_eq_false_iff_ne.mpr c3
            rw [if_neg (fun h => c3 h.1)] at HA1
            by_cases c5 : bt a1 i = 111
            · have c5b0 : (bt a1 i != 111) = false := bne_eq_false_iff_eq.mpr c5
              rw [if_pos c5] at HA1
              have HN := Aside0.mk (line_isNext.calls w.heap.size w.heap.size s.reverse lft (nextIs s lft) wr HLN.out (by cases s <;> simp [nextIs]) (by omega))
              cases s with
              | nil =>
                have HA1 : false = r := HA1
                subst HA1
                have HN' := Aside0.mk (show Calls Try.prog 61 #[.pointer (some ⟨w.heap.size, 0, none⟩)] wr fun e w' => e = .returned (.bool false) ∧ Drawn0 wr w' from HN.out)
                clear HA HN c3 c5
                go_wp2_with (go_at_call 61; go_must ((with_reducible refine HN'.out.mono ?_); rintro e w2 ⟨rfl, ⟨nd, rfl⟩⟩))
                go_ret
                exact ⟨rfl, by repeat (first | (with_reducible first | exact HB.out | apply below_alloc | apply pw_below_drewN | apply below_drew1) | exact HB.out)⟩
              | cons a t =>
                by_cases c6 : a = (lft.length : Int) + 1
                · have c6b : decide (a = (lft.length : Int) + 1) = true := decide_eq_true c6
                  have HA1 : (if a = (lft.length : Int) + 1 then sortsGo l0 a1 (a1.size - (i + 1).toNat) (i + 1) next t (lft ++ [a]) else false) = r := HA1
                  rw [if_pos c6] at HA1
                  have HA2 := Aside0.mk HA1
                  have HN' := Aside0.mk (show Calls Try.prog 61 #[.pointer (some ⟨w.heap.size, 0, none⟩)] wr fun e w' => e = .returned (.bool true) ∧ Drawn0 wr w' by have := HN.out; simpa only [nextIs, c6b] using this)
                  have HLV := Aside0.mk (fun n => line_leave.calls w.heap.size w.heap.size (a :: t).reverse lft (wr.drewN n) (HLN.out.drewN n) (by omega) HB.out.size)
                  have e5 : (a :: t).reverse.dropLast = t.reverse := by simp
                  have e6 : (if (a :: t).reverse.isEmpty then lft else lft ++ [(a :: t).reverse.getLast?.getD 0]) = lft ++ [a] := by simp
                  have e7 : (a :: t).reverse.isEmpty = false := by simp
                  rw [e5, e6, e7] at HLV
                  have HY2 := Aside0.mk (show (t.length : Int) + (lft ++ [a]).length = next by simp at p4 ⊢; omega)
                  clear HA HA1 HN c3 c5 c6 c6b e5 e6 e7 p4
                  go_wp2_with (first | (go_at_call 61; go_must ((with_reducible refine HN'.out.mono ?_); rintro e w2 ⟨rfl, ⟨nd, rfl⟩⟩)) | (go_at_call 57; go_must ((with_reducible refine (HLV.out _).mono ?_); rintro e w3 ⟨rfl, hL2, hT2⟩; have HL2 := Aside0.mk hL2; have HB2 := Aside0.mk (Turn.below (pw_below_drewN HB.out _) HB.out.size hT2); clear hL2 hT2)))
                  go_roundw
                  case rel => exact ⟨next, i + 1, t, lft ++ [a], rfl, rfl, ⟨by have := HX.out; have := of_eq_true q1; have := HY2.out; omega⟩, HA2, HL2, HB2⟩
                  case measure => have := of_eq_true q1; simp [intOf]; omega
                · have c6b : decide (a = (lft.length : Int) + 1) = false := decide_eq_false c6
                  have HA1 : (if a = (lft.length : Int) + 1 then sortsGo l0 a1 (a1.size - (i + 1).toNat) (i + 1) next t (lft ++ [a]) else false) = r := HA1
                  rw [if_neg c6] at HA1
                  subst HA1
                  have HN' := Aside0.mk (show Calls Try.prog 61 #[.pointer (some ⟨w.heap.size, 0, none⟩)] wr fun e w' => e = .returned (.bool false) ∧ Drawn0 wr w' by have := HN.out; simpa only [nextIs, c6b] using this)
                  clear HA HN c3 c5 c6 c6b
                  go_wp2_with (go_at_call 61; go_must ((with_reducible refine HN'.out.mono ?_); rintro e w2 ⟨rfl, ⟨nd, rfl⟩⟩))
                  go_ret
                  exact ⟨rfl, by repeat (first | (with_reducible first | exact HB.out | apply below_alloc | apply pw_below_drewN | apply below_drew1) | exact HB.out)⟩
            · have c5b0 : (bt a1 i != 111) = true := bne_iff_ne.mpr c5
              rw [if_neg c5] at HA1
              subst HA1
              clear HA c3 c5
              go_wp2
              go_ret
              exact ⟨rfl, HB.out⟩
        · have c2b0 : decide (i < (a1.size : Int)) = false := decide_eq_false c2
          obtain ⟨A, c, hlc⟩ : ∃ A c, wr.cell? ⟨w.heap.size, 1, none⟩ = some (.slice A lft.length c) := by
            obtain ⟨vi, vl, hb5, hg5, h15, h25⟩ := HLN.out
            obtain ⟨A, c, rfl⟩ := Kd.R_slice h25
            exact ⟨A, c, (blk_cell hb5 1).trans rfl⟩
          have HA1 := HA.out
          rw [show a1.size - i.toNat = 0 by omega] at HA1
          have HA2 : r = ((lft.length : Int) == (l0.length : Int)) := by
            rw [← HA1]
            show decide (lft.length = l0.length) = _
            rw [Bool.eq_iff_iff]
            simp
            try omega
          subst HA2
          clear HA HA1 c2 p4
          go_wp2
          go_ret
          exact ⟨rfl, HB.out⟩
    · rw [if_neg c1] at h
      injection h with h
      subst h
      have c1b0 : ((a1.size : Int) != jt) = true := bne_iff_ne.mpr c1
      clear c1 hjt
      go_enter Try.func67, Try.ntmps67
      go_wp2
      go_ret
      exact ⟨rfl, Below.refl _ _⟩
  · rw [if_neg hl] at h
    cases h


end Go.Proofs.Ytjbjongahnocdaa.S

/- Plans for one stack: what the reference's plan check answers, and that Stack's plan sorts. -/
namespace Go.Proofs.Ytjbjongahnocdaa.P
open Go.RowKit Go.Proofs.Ytjbjongahnocdaa.S Go.Proofs.Ytjbjongahnocdaa.Defs Go.Proofs.YtjbjongahnocdaaW.PrintWords Go.Proofs.YtjbjongahnocdaaW.PrintLast Go.Proofs.YtjbjongahnocdaaW.PrintMore
set_option linter.unusedVariables false

/-! ### plans -/
def sortsB (l : List Int) (p : ByteArray) : Bool := decide ((p.size : Int) = 2 * (l.length : Int)) && sortsGo l p p.size 0 0 [] []
theorem sorts_f (l : List Int) (p : ByteArray) (hl : l.length ≤ 60) : shunt_sorts.f l p = some (sortsB l p) := by
  unfold shunt_sorts.f sortsB
  rw [if_pos hl]
  split
  · rename_i h; rw [decide_eq_true h, Bool.true_and]
  · rename_i h; rw [decide_eq_false h, Bool.false_and]

theorem plan_loop (l : List Int) (p : ByteArray) (hl : l.length ≤ 60) (hp : p.size = 2 * l.length) (d : Nat) : ∀ (i next : Nat) (s lft : List Int), i + d = p.size → next ≤ l.length → s.length + lft.length = next → i = next + lft.length →
    Ev (fun k => tickingref02_PlanSorts.l0 k l p s.reverse (next : Int) ((lft.length : Int) + 1) (i : Int)) (sortsGo l p d (i : Int) (next : Int) s lft) := by
  induction d with
  | zero =>
    intro i next s lft h hn h1 h2
    have : sortsGo l p 0 (i : Int) (next : Int) s lft = true := by
      show decide (lft.length = l.length) = true
      rw [decide_eq_true_eq]
      omega
    rw [this]
    refine Ev.step (f := fun _ => some true) (fun k => ?_) (Ev.now _)
    simp only [tickingref02_PlanSorts.l0]
    rw [if_neg (by omega)]
  | succ d ih =>
    intro i next s lft h hn h1 h2
    have w1 : wrap64 ((i : Int) + 1) = ((i + 1 : Nat) : Int) := by rw [w64 (by omega) (by omega)]; rfl
    have w2 : wrap64 ((next : Int) + 1) = ((next + 1 : Nat) : Int) := by rw [w64 (by omega) (by omega)]; rfl
    unfold sortsGo
    by_cases c : bt p (i : Int) = 105 ∧ (next : Int) < l.length
    · rw [if_pos c]
      refine Ev.step (f := fun k => tickingref02_PlanSorts.j1 k l p s.reverse (next : Int) ((lft.length : Int) + 1) (i : Int) true) (fun k => ?_) ?_
      · simp only [tickingref02_PlanSorts.l0]
        rw [if_pos (by omega), if_pos (by omega), if_pos c.1, decide_eq_true c.2]
      · have := ih (i + 1) (next + 1) (rd l (next : Int) :: s) lft (by omega) (by omega) (by simp; omega) (by omega)
        rw [List.reverse_cons] at this
        refine Ev.step (fun k => ?_) this
        simp only [tickingref02_PlanSorts.j1]
        rw [if_pos trivial, if_pos (by omega), if_pos c.2, if_pos (by rw [List.length_reverse]; omega), w1, w2]
    · rw [if_neg c]
      have hj : ∀ r, Ev (fun k => tickingref02_PlanSorts.j1 k l p s.reverse (next : Int) ((lft.length : Int) + 1) (i : Int) false) r → Ev (fun k => tickingref02_PlanSorts.l0 k l p s.reverse (next : Int) ((lft.length : Int) + 1) (i : Int)) r := by
        intro r hr
        refine Ev.step (fun k => ?_) hr
        simp only [tickingref02_PlanSorts.l0]
        rw [if_pos (by omega), if_pos (by omega)]
        split
        · rename_i c1
          rw [decide_eq_false (fun h => c ⟨c1, h⟩)]
        · rfl
      refine hj _ ?_
      by_cases c2 : bt p (i : Int) = 111
      · rw [if_pos c2]
        cases s with
        | nil =>
          refine Ev.step (f := fun _ => some false) (fun k => ?_) (Ev.now _)
          simp only [tickingref02_PlanSorts.j1]
          rw [if_neg (by decide), if_pos (by omega), if_pos (by omega), if_pos c2, if_neg (by simp)]
        | cons a t =>
          have hlen : (((a :: t).reverse).length : Int) = (t.length : Int) + 1 := by simp
          have w3 : wrap64 ((((a :: t).reverse).length : Int) - 1) = (((a :: t).reverse).length : Int) - 1 := w64 (by simp at h1; omega) (by simp at h1; omega)
          have htop := rd_top t a
          have htake := take_top t a
          by_cases c3 : a = (lft.length : Int) + 1
          · have := ih (i + 1) next t (lft ++ [a]) (by omega) hn (by simp at h1 ⊢; omega) (by simp; omega)
            have w4 : wrap64 ((lft.length : Int) + 1 + 1) = (((lft ++ [a]).length : Nat) : Int) + 1 := by rw [w64 (by simp at h1; omega) (by simp at h1; omega)]; simp
            show Ev _ (if a = (lft.length : Int) + 1 then _ else false)
            rw [if_pos c3]
            refine Ev.step (fun k => ?_) this
            simp only [tickingref02_PlanSorts.j1]
            rw [if_neg (by decide), if_pos (by omega), if_pos (by omega), if_pos c2, if_pos (by omega), w3, if_pos (by omega), if_pos (by omega), htop, if_pos c3, if_pos (by omega), htake, w1, w4]
          · show Ev _ (if a = (lft.length : Int) + 1 then _ else false)
            rw [if_neg c3]
            refine Ev.step (f := fun _ => some false) (fun k => ?_) (Ev.now _)
            simp only [tickingref02_PlanSorts.j1]
            rw [if_neg (by decide), if_pos (by omega), if_pos (by omega), if_pos c2, if_pos (by omega), w3, if_pos (by omega), if_pos (by omega), htop, if_neg c3]
      · rw [if_neg c2]
        refine Ev.step (f := fun _ => some false) (fun k => ?_) (Ev.now _)
        simp only [tickingref02_PlanSorts.j1]
        rw [if_neg (by decide), if_pos (by omega), if_pos (by omega), if_neg c2]
theorem planSorts_ev (l : List Int) (p : ByteArray) (hl : l.length ≤ 60) : Ev (fun k => tickingref02_PlanSorts.f k l p) (sortsB l p) := by
  have w : wrap64 (2 * (l.length : Int)) = 2 * (l.length : Int) := w64 (by omega) (by omega)
  unfold sortsB tickingref02_PlanSorts.f
  by_cases c : (p.size : Int) = 2 * (l.length : Int)
  · rw [decide_eq_true c, Bool.true_and]
    refine Ev.congr (fun k => by rw [w, if_pos c]; rfl) (plan_loop l p hl (by omega) p.size 0 0 [] [] (by omega) (by omega) rfl rfl)
  · rw [decide_eq_false c, Bool.false_and]
    exact Ev.congr (fun k => by rw [w, if_neg c]) (Ev.now _)

/-! ### Stack's plan sorts -/
def Fits (p : ByteArray) (plan : List Int) : Prop := ∀ i : Nat, i < plan.length → bt p (i : Int) = plan.getD i 0
theorem drain_sorts (l : List Int) (p : ByteArray) (next : Int) : ∀ (s lft plan : List Int) (d : Nat), Fits p (drainS s lft plan).2.2 → (drainS s lft plan).2.2.length ≤ plan.length + d →
    sortsGo l p d (plan.length : Int) next s lft = sortsGo l p (plan.length + d - (drainS s lft plan).2.2.length) ((drainS s lft plan).2.2.length : Int) next (drainS s lft plan).1 (drainS s lft plan).2.1
  | [], lft, plan, d, _, _ => by
    unfold drainS
    rw [Nat.add_sub_cancel_left]
  | x :: s, lft, plan, d, hf, hd => by
    unfold drainS at hf hd ⊢
    split
    · rename_i c
      rw [if_pos c] at hf hd
      have ih := drain_sorts l p next s (lft ++ [x]) (plan ++ [111]) (d - 1) hf
      obtain ⟨q, hq⟩ := drain_prefix s (lft ++ [x]) (plan ++ [111])
      have hlen : (drainS s (lft ++ [x]) (plan ++ [111])).2.2.length = plan.length + 1 + q.length := by rw [hq]; simp; omega
      have hd1 : 0 < d := by omega
      obtain ⟨d', rfl⟩ : ∃ d', d = d' + 1 := ⟨d - 1, by omega⟩
      have hb : bt p (plan.length : Int) = 111 := by
        rw [hf plan.length (by omega), hq]
        simp
      rw [show (plan ++ [(111 : Int)]).length = plan.length + 1 by simp, show d' + 1 - 1 = d' by omega] at ih
      have ih := ih (by omega)
      rw [show plan.length + (d' + 1) - (drainS s (lft ++ [x]) (plan ++ [111])).2.2.length = plan.length + 1 + d' - (drainS s (lft ++ [x]) (plan ++ [111])).2.2.length by omega, ← ih]
      show (if bt p (plan.length : Int) = 105 ∧ next < l.length then _ else if bt p (plan.length : Int) = 111 then (if x = (lft.length : Int) + 1 then sortsGo l p d' ((plan.length : Int) + 1) next s (lft ++ [x]) else false) else false) = _
      rw [if_neg (fun h => by rw [hb] at h; omega), if_pos hb, if_pos c]
      rfl
    · rename_i c
      rw [if_neg c] at hf hd
      rw [Nat.add_sub_cancel_left]
where
  drain_prefix : ∀ (s lft plan : List Int), ∃ q, (drainS s lft plan).2.2 = plan ++ q
    | [], lft, plan => ⟨[], by simp [drainS]⟩
    | x :: s, lft, plan => by
      unfold drainS
      split
      · obtain ⟨q, hq⟩ := drain_prefix s (lft ++ [x]) (plan ++ [111])
        exact ⟨111 :: q, by rw [hq]; simp⟩
      · exact ⟨[], by simp⟩
theorem drain_len : ∀ (s lft plan : List Int), (drainS s lft plan).2.2.length + lft.length = plan.length + (drainS s lft plan).2.1.length
  | [], lft, plan => by simp [drainS]
  | x :: s, lft, plan => by
    unfold drainS
    split
    · have := drain_len s (lft ++ [x]) (plan ++ [111])
      simp at this ⊢
      omega
    · rfl
theorem drain_byte : ∀ (s lft plan : List Int), (∀ x ∈ plan, x = 105 ∨ x = 111) → ∀ x ∈ (drainS s lft plan).2.2, x = 105 ∨ x = 111
  | [], lft, plan, h => h
  | x :: s, lft, plan, h => by
    unfold drainS
    split
    · refine drain_byte s (lft ++ [x]) (plan ++ [111]) (fun y hy => ?_)
      rcases List.mem_append.1 hy with hy | hy
      · exact h y hy
      · exact .inr (List.mem_singleton.1 hy)
    · exact h
theorem stack_prefix : ∀ (xs : List Int) (st : List Int × List Int × List Int), ∃ q, (stackGo xs st).2.2 = st.2.2 ++ q
  | [], st => ⟨[], by simp [stackGo]⟩
  | x :: xs, (s, lft, plan) => by
    obtain ⟨q, hq⟩ := stack_prefix xs (drainS (x :: s) lft (plan ++ [105]))
    obtain ⟨q', hq'⟩ := drain_sorts.drain_prefix (x :: s) lft (plan ++ [105])
    refine ⟨105 :: (q' ++ q), ?_⟩
    show (stackGo xs (drainS (x :: s) lft (plan ++ [105]))).2.2 = _
    rw [hq, hq']
    simp
theorem stack_len : ∀ (xs : List Int) (st : List Int × List Int × List Int), (stackGo xs st).2.2.length + st.2.1.length = st.2.2.length + xs.length + (stackGo xs st).2.1.length
  | [], st => by simp [stackGo]
  | x :: xs, (s, lft, plan) => by
    have h1 := stack_len xs (drainS (x :: s) lft (plan ++ [105]))
    have h2 := drain_len (x :: s) lft (plan ++ [105])
    show (stackGo xs (drainS (x :: s) lft (plan ++ [105]))).2.2.length + lft.length = plan.length + (xs.length + 1) + (stackGo xs (drainS (x :: s) lft (plan ++ [105]))).2.1.length
    rw [List.length_append, List.length_singleton] at h2
    omega
theorem stack_byte : ∀ (xs : List Int) (st : List Int × List Int × List Int), (∀ x ∈ st.2.2, x = 105 ∨ x = 111) → ∀ x ∈ (stackGo xs st).2.2, x = 105 ∨ x = 111
  | [], st, h => h
  | x :: xs, (s, lft, plan), h => by
    refine stack_byte xs (drainS (x :: s) lft (plan ++ [105])) (drain_byte _ _ _ (fun y hy => ?_))
    rcases List.mem_append.1 hy with hy | hy
    · exact h y hy
    · exact .inl (List.mem_singleton.1 hy)
theorem Fits.left {p : ByteArray} {a q : List Int} (h : Fits p (a ++ q)) : Fits p a := fun i hi => by
  rw [h i (by rw [List.length_append]; omega)]
  simp [List.getElem?_append, hi]
theorem stack_sorts (l : List Int) (p : ByteArray) : ∀ (xs s lft plan : List Int) (next d : Nat), xs = l.drop next → next ≤ l.length → Fits p (stackGo xs (s, lft, plan)).2.2 → (stackGo xs (s, lft, plan)).2.2.length = plan.length + d →
    sortsGo l p d (plan.length : Int) (next : Int) s lft = decide ((stackGo xs (s, lft, plan)).2.1.length = l.length)
  | [], s, lft, plan, next, d, hx, hn, hf, hd => by
    have : d = 0 := by
      have : (stackGo [] (s, lft, plan)).2.2 = plan := rfl
      rw [this] at hd
      omega
    subst this
    rfl
  | x :: xs, s, lft, plan, next, d, hx, hn, hf, hd => by
    have hlt : next < l.length := by
      apply Nat.lt_of_not_le
      intro h
      rw [List.drop_eq_nil_of_le h] at hx
      cases hx
    rw [drop_cons l next hlt] at hx
    injection hx with hx1 hx2
    have hG : stackGo (x :: xs) (s, lft, plan) = stackGo xs (drainS (x :: s) lft (plan ++ [105])) := rfl
    rw [hG] at hf hd ⊢
    obtain ⟨q, hq⟩ := stack_prefix xs (drainS (x :: s) lft (plan ++ [105]))
    obtain ⟨q', hq'⟩ := drain_sorts.drain_prefix (x :: s) lft (plan ++ [105])
    have hf1 : Fits p (drainS (x :: s) lft (plan ++ [105])).2.2 := by rw [hq] at hf; exact hf.left
    have hf2 : Fits p (plan ++ [105]) := by rw [hq'] at hf1; exact hf1.left
    have hb : bt p (plan.length : Int) = 105 := by
      rw [hf2 plan.length (by simp)]
      simp
    have hl1 : (drainS (x :: s) lft (plan ++ [105])).2.2.length = plan.length + 1 + q'.length := by rw [hq']; simp; omega
    have hl2 : (stackGo xs (drainS (x :: s) lft (plan ++ [105]))).2.2.length = plan.length + 1 + q'.length + q.length := by rw [hq, List.length_append, hl1]
    obtain ⟨d', rfl⟩ : ∃ d', d = d' + 1 := ⟨d - 1, by omega⟩
    have h1 := drain_sorts l p ((next + 1 : Nat) : Int) (x :: s) lft (plan ++ [105]) d' hf1 (by rw [hl1]; simp; omega)
    have h2 := stack_sorts l p xs (drainS (x :: s) lft (plan ++ [105])).1 (drainS (x :: s) lft (plan ++ [105])).2.1 (drainS (x :: s) lft (plan ++ [105])).2.2 (next + 1) (plan.length + 1 + d' - (plan.length + 1 + q'.length)) hx2 (by omega) hf (by rw [hl2, hl1]; omega)
    rw [hl1, show (plan ++ [(105 : Int)]).length = plan.length + 1 by simp] at h1
    rw [hl1] at h2
    rw [← h2, ← h1]
    show (if bt p (plan.length : Int) = 105 ∧ (next : Int) < l.length then sortsGo l p d' ((plan.length : Int) + 1) ((next : Int) + 1) (rd l (next : Int) :: s) lft else _) = _
    rw [if_pos ⟨hb, by omega⟩, ← hx1]
    rfl
theorem fits_str (ns : List Int) (h : ∀ x ∈ ns, x = 105 ∨ x = 111) : Fits (strOfNums ns) ns := by
  intro i hi
  unfold bt
  rw [dif_pos (by rw [strOfNums_size, Int.toNat_natCast]; exact hi)]
  have e : ns.getD i 0 = ns[i] := by simp [hi]
  have hv := h ns[i] (List.getElem_mem hi)
  rw [e]
  have : ((strOfNums ns)[(i : Int).toNat]'(by rw [strOfNums_size, Int.toNat_natCast]; exact hi)) = UInt8.ofNat (ns[i]).toNat := by
    simp [strOfNums, ByteArray.getElem_eq_getElem_data]
  rw [this]
  rcases hv with hv | hv <;> rw [hv] <;> rfl
/-- The plan that Stack returns sorts. -/
theorem stack_plan (l : List Int) (h : IsOrd l) (hn : No231 l) : sortsB l (strOfNums (stackGo l ([], [], [])).2.2) = true := by
  have hf := (stack_full l h).2 hn
  have hlen := stack_len l ([], [], [])
  have hfit := fits_str _ (stack_byte l ([], [], []) (by simp))
  have := stack_sorts l _ l [] [] [] 0 (stackGo l ([], [], [])).2.2.length rfl (Nat.zero_le _) hfit (by simp)
  unfold sortsB
  simp only [List.length_nil] at hlen
  rw [decide_eq_true (by rw [strOfNums_size]; omega), Bool.true_and, strOfNums_size]
  rw [decide_eq_true hf] at this
  exact this
end Go.Proofs.Ytjbjongahnocdaa.P

/- Rank inverts Sortable, Stack gives a plan that sorts for its order, and the next order is lexicographically greater: for every n and k, which are taken modulo 31 and modulo the number of orders. -/
namespace Go.Proofs.Ytjbjongahnocdaa.Pure
open Go.RowKit Go.Proofs.Ytjbjongahnocdaa.S Go.Proofs.Ytjbjongahnocdaa.P Go.Proofs.Ytjbjongahnocdaa.Defs Go.Proofs.YtjbjongahnocdaaW.PrintWords Go.Proofs.YtjbjongahnocdaaW.PrintLast
set_option linter.unusedVariables false

theorem ranked_end {g : Nat → Option Bool} (h : ∀ k, g k = (tickinglaw02_awake.f k).bind fun t => some t) : Ev g true :=
  Ev.congr h (Ev.bind (f := fun _ t => some t) awake_ev (Ev.now _))
theorem ranked_mod (a n : Int) (h0 : 0 < n) (h1 : n ≤ 4000000000000000) : ∃ m : Int, tickinglaw02_mod.f a n = some m ∧ 0 ≤ m ∧ m < n := by
  unfold tickinglaw02_mod.f
  have h6 : IntKind.u64.wrap n = n := by
    show n % 18446744073709551616 = n
    omega
  have hn : 0 ≤ IntKind.u64.wrap a := by
    show 0 ≤ a % 18446744073709551616
    omega
  obtain ⟨u, hu'⟩ : ∃ u, u = IntKind.u64.wrap a := ⟨_, rfl⟩
  rw [h6, if_neg (by omega), ← hu']
  rw [← hu'] at hn
  have e : Int.tmod u n = u % n := Int.tmod_eq_emod_of_nonneg hn
  have r0 : 0 ≤ u % n := Int.emod_nonneg _ (by omega)
  have r1 : u % n < n := Int.emod_lt_of_pos _ (by omega)
  rw [e]
  refine ⟨_, rfl, ?_, ?_⟩ <;> (unfold wrap64; omega)
theorem ranked_lex (n : Nat) (hn : n ≤ 30) : ∀ (s t : List Int) (pre : List Int) (l m : List Int), l = pre ++ s → m = pre ++ t → l.length = n → m.length = n → LexLt s t → Ev (fun k => tickinglaw02_ShuntRanked.l0 k (n : Int) l m (pre.length : Int)) true
  | [], _, _, _, _, _, _, _, _, h => by cases h
  | x :: s, [], _, _, _, _, _, _, _, h => by cases h
  | x :: s, y :: t, pre, l, m, hl, hm, nl, nm, h => by
    have l1 : pre.length < n := by rw [← nl, hl]; simp
    have r1 : rd l (pre.length : Int) = x := by rw [rd_nat, hl]; simp
    have r2 : rd m (pre.length : Int) = y := by rw [rd_nat, hm]; simp
    have w : wrap64 ((pre.length : Int) + 1) = (((pre ++ [x]).length : Nat) : Int) := by rw [w64 (by omega) (by omega)]; simp
    by_cases c : x = y
    · subst c
      have h2 : LexLt s t := h.elim (fun h => absurd h (Int.lt_irrefl _)) (fun h => h.2)
      refine Ev.step (fun k => ?_) (ranked_lex n hn s t (pre ++ [x]) l m (by simp [hl]) (by simp [hm]) nl nm h2)
      simp only [tickinglaw02_ShuntRanked.l0]
      rw [if_pos (by omega), if_pos (by omega), if_pos (by omega), if_pos (by omega), r1, r2, if_pos rfl, w]
    · have h2 : x < y := h.elim id (fun h => absurd h.1 c)
      refine Ev.step (f := fun k => (tickinglaw02_awake.f k).bind fun t => some t) (fun k => ?_) (ranked_end fun k => rfl)
      simp only [tickinglaw02_ShuntRanked.l0]
      rw [if_pos (by omega), if_pos (by omega), if_pos (by omega), if_pos (by omega), r1, r2, if_neg c, if_pos h2]
theorem ranked_j1 (n : Nat) (hn : n ≤ 30) (k : Int) (l : List Int) (h : Unr n k 0 l) : Ev (fun q => tickinglaw02_ShuntRanked.j1 q (n : Int) k (cat n) l false) true := by
  have hb := unr_bound h hn
  have hc := cat_range n hn
  have hl := unr_len h
  have w : wrap64 (k + 1) = k + 1 := w64 (by omega) (by omega)
  by_cases c : k + 1 = cat n
  · refine Ev.step (f := fun k => (tickinglaw02_awake.f k).bind fun t => some t) (fun q => ?_) (ranked_end fun k => rfl)
    simp only [tickinglaw02_ShuntRanked.j1]
    rw [if_neg (by decide), w, if_pos c]
  · obtain ⟨m, hu⟩ := unr_ex n hn (k + 1) 0 (by omega) (by omega)
    have hm := unr_len hu
    refine Ev.step (f := fun q => ((shunt_Sortable.f q (n : Int) (k + 1)).bind fun bt406 => (if bt406.2 = 0 then (tickinglaw02_ShuntRanked.j2 q (n : Int) l bt406.1 ((bt406.1.length : Int) != (n : Int))) else (tickinglaw02_ShuntRanked.j2 q (n : Int) l bt406.1 true)))) (fun q => ?_) ?_
    · simp only [tickinglaw02_ShuntRanked.j1]
      rw [if_neg (by decide), w, if_neg c]
    · refine Ev.bind (f := fun q (bt406 : List Int × Int) => (if bt406.2 = 0 then (tickinglaw02_ShuntRanked.j2 q (n : Int) l bt406.1 ((bt406.1.length : Int) != (n : Int))) else (tickinglaw02_ShuntRanked.j2 q (n : Int) l bt406.1 true))) (Sortable_ev hn hu) ?_
      refine Ev.congr (f := fun q => tickinglaw02_ShuntRanked.j2 q (n : Int) l m false) (fun q => ?_) ?_
      · rw [if_pos rfl, hm, bne_self_eq_false]
      · refine Ev.step (f := fun q => tickinglaw02_ShuntRanked.l0 q (n : Int) l m 0) (fun q => ?_) (ranked_lex n hn l m [] l m rfl rfl hl hm ((unr_lex h hn hu).2 (by omega)))
        simp only [tickinglaw02_ShuntRanked.j2]
        rw [if_neg (by decide)]
theorem rank_ev_unr {n : Nat} {k : Int} {l : List Int} (hn : n ≤ 30) (h : Unr n k 0 l) (ho : IsOrd l) (h2 : No231 l) : Ev (fun q => shunt_Rank.f q l) (k, 0) := by
  have hl := unr_len h
  obtain ⟨r, h1, hb⟩ := block_ev l (by omega)
  have hr := (blockOf_nil hb ho.1).2 h2
  subst hr
  refine Ev.congr (f := fun k => (shunt_block.f k l).bind fun b => (if b = [] then (shunt_counts.f k (l.length : Int)).bind fun all => (if all.length ≤ 100 then (rankF all (l.length + 1) l 0).bind fun r => some (r, 0) else none) else some (0, 6))) (fun k => ?_) ?_
  · unfold shunt_Rank.f
    rw [if_pos ((isOrderB_iff l).2 ⟨by omega, ho⟩), if_pos (by omega)]
  · refine Ev.bind (f := fun k b => (if b = [] then (shunt_counts.f k (l.length : Int)).bind fun all => (if all.length ≤ 100 then (rankF all (l.length + 1) l 0).bind fun r => some (r, 0) else none) else some (0, 6))) h1 ?_
    refine Ev.congr (f := fun k => (shunt_counts.f k (l.length : Int)).bind fun all => (if all.length ≤ 100 then (rankF all (l.length + 1) l 0).bind fun r => some (r, 0) else none)) (fun k => by rw [if_pos rfl]) ?_
    rw [hl]
    refine Ev.bind (f := fun k all => (if all.length ≤ 100 then (rankF all (n + 1) l 0).bind fun r => some (r, 0) else none)) (counts_ev n hn) ?_
    refine Ev.congr (fun k => ?_) (Ev.now _)
    rw [if_pos (by rw [table_len n hn]; omega), rank_of (table.take (n + 1)) n (table_len n hn) (fun j hj => take_cat n j hj) hn h (by omega) (by omega) (n + 1) (by omega)]
    rfl
theorem ranked_j0 (n : Nat) (hn : n ≤ 30) (a1 k : Int) (hk : tickinglaw02_mod.f a1 (cat n) = some k) (h0 : 0 ≤ k) (h1 : k < cat n) : Ev (fun q => tickinglaw02_ShuntRanked.j0 q (n : Int) a1 (cat n) false) true := by
  obtain ⟨l, hu⟩ := unr_ex n hn k 0 h0 h1
  have hl := unr_len hu
  have hr := unr_ranked hu
  have ho : IsOrd l := ⟨hr.1, fun a ha => by have := hr.2.1 a ha; omega⟩
  obtain ⟨p, b, hst, hcase⟩ := Stack_ev l ho (by omega)
  rcases hcase with ⟨_, hb, hp⟩ | ⟨hx, _⟩
  case inr => exact absurd hr.2.2 hx
  subst hb
  have hps : sortsB l p = true := by rw [hp]; exact stack_plan l ho hr.2.2
  refine Ev.step (f := fun q => ((shunt_Sortable.f q (n : Int) k).bind fun bt393 => ((shunt_Rank.f q bt393.1).bind fun bt397 => ((shunt_Stack.f q bt393.1).bind fun bt399 => (if bt393.2 = 0 then (if bt397.2 = 0 then (if bt399.2.2 = 0 then (if bt397.1 = k then (if (bt393.1.length : Int) = (n : Int) then (if (bt399.2.1.length : Int) > 0 then (tickinglaw02_ShuntRanked.j1 q (n : Int) k (cat n) bt393.1 true) else ((tickingref02_PlanSorts.f q bt393.1 bt399.1).bind fun t404 => (tickinglaw02_ShuntRanked.j1 q (n : Int) k (cat n) bt393.1 (!t404)))) else (tickinglaw02_ShuntRanked.j1 q (n : Int) k (cat n) bt393.1 true)) else (tickinglaw02_ShuntRanked.j1 q (n : Int) k (cat n) bt393.1 true)) else (tickinglaw02_ShuntRanked.j1 q (n : Int) k (cat n) bt393.1 true)) else (tickinglaw02_ShuntRanked.j1 q (n : Int) k (cat n) bt393.1 true)) else (tickinglaw02_ShuntRanked.j1 q (n : Int) k (cat n) bt393.1 true)))))) (fun q => ?_) ?_
  · simp only [tickinglaw02_ShuntRanked.j0]
    rw [if_neg (by decide), hk]
    rfl
  · refine Ev.bind (f := fun q (bt393 : List Int × Int) => ((shunt_Rank.f q bt393.1).bind fun bt397 => ((shunt_Stack.f q bt393.1).bind fun bt399 => (if bt393.2 = 0 then (if bt397.2 = 0 then (if bt399.2.2 = 0 then (if bt397.1 = k then (if (bt393.1.length : Int) = (n : Int) then (if (bt399.2.1.length : Int) > 0 then (tickinglaw02_ShuntRanked.j1 q (n : Int) k (cat n) bt393.1 true) else ((tickingref02_PlanSorts.f q bt393.1 bt399.1).bind fun t404 => (tickinglaw02_ShuntRanked.j1 q (n : Int) k (cat n) bt393.1 (!t404)))) else (tickinglaw02_ShuntRanked.j1 q (n : Int) k (cat n) bt393.1 true)) else (tickinglaw02_ShuntRanked.j1 q (n : Int) k (cat n) bt393.1 true)) else (tickinglaw02_ShuntRanked.j1 q (n : Int) k (cat n) bt393.1 true)) else (tickinglaw02_ShuntRanked.j1 q (n : Int) k (cat n) bt393.1 true)) else (tickinglaw02_ShuntRanked.j1 q (n : Int) k (cat n) bt393.1 true))))) (Sortable_ev hn hu) ?_
    refine Ev.bind (f := fun q (bt397 : Int × Int) => _) (rank_ev_unr hn hu ho hr.2.2) ?_
    refine Ev.bind (f := fun q (bt399 : ByteArray × List Int × Int) => _) hst ?_
    refine Ev.congr (f := fun q => ((tickingref02_PlanSorts.f q l p).bind fun t404 => (tickinglaw02_ShuntRanked.j1 q (n : Int) k (cat n) l (!t404)))) (fun q => ?_) ?_
    · rw [if_pos rfl, if_pos rfl, if_pos rfl, if_pos rfl, if_pos (by simp only [hl]), if_neg (by simp)]
    · have := planSorts_ev l p (by omega)
      rw [hps] at this
      refine Ev.bind (f := fun q (t404 : Bool) => _) this ?_
      exact ranked_j1 n hn k l hu
theorem ShuntRanked : tickinglaw02_ShuntRanked.Pure := by
  intro a0 a1 _ _
  apply Ev.rounds
  obtain ⟨m, hm, m0, m1⟩ := ranked_mod a0 31 (by omega) (by omega)
  obtain ⟨n, rfl⟩ : ∃ n : Nat, m = (n : Int) := ⟨m.toNat, by omega⟩
  have hn : n ≤ 30 := by omega
  have hc := cat_range n hn
  obtain ⟨k, hk, k0, k1⟩ := ranked_mod a1 (cat n) (by omega) (by omega)
  refine Ev.congr (f := fun q => ((shunt_Count.f q (n : Int)).bind fun bt390 => (if bt390.2 = 0 then (tickinglaw02_ShuntRanked.j0 q (n : Int) a1 bt390.1 (decide (bt390.1 < 1))) else (tickinglaw02_ShuntRanked.j0 q (n : Int) a1 bt390.1 true)))) (fun q => ?_) ?_
  · unfold tickinglaw02_ShuntRanked.f
    rw [hm]
    rfl
  · refine Ev.bind (f := fun q (bt390 : Int × Int) => (if bt390.2 = 0 then (tickinglaw02_ShuntRanked.j0 q (n : Int) a1 bt390.1 (decide (bt390.1 < 1))) else (tickinglaw02_ShuntRanked.j0 q (n : Int) a1 bt390.1 true))) (Count_ev n hn) ?_
    refine Ev.congr (fun q => ?_) (ranked_j0 n hn a1 k hk k0 k1)
    rw [if_pos rfl, decide_eq_false (by omega)]
end Go.Proofs.Ytjbjongahnocdaa.Pure
