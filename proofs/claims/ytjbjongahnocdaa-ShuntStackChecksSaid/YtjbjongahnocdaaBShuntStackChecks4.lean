-- Written by wip/bundle.py: texts of this claim, one behind the other.
import Derived.Test.YtjbjongahnocdaaBShuntStackChecks3
set_option linter.unusedVariables false
set_option linter.unusedSimpArgs false

/- CheckStack returns OK exactly for a plan that sorts or a block, and ErrAnswer otherwise: for every list (the first 61 numbers count), every plan (the first 130 bytes count) and every block (the first 61 numbers count). -/
namespace Go.Proofs.Ytjbjongahnocdaa.Pure
open Go.RowKit Go.Proofs.Ytjbjongahnocdaa.S Go.Proofs.Ytjbjongahnocdaa.P Go.Proofs.Ytjbjongahnocdaa.Defs Go.Proofs.YtjbjongahnocdaaW.PrintWords Go.Proofs.YtjbjongahnocdaaW.PrintLast Go.Proofs.YtjbjongahnocdaaW.PrintMore

theorem checks_end {g : Nat → Option Bool} (h : ∀ k, g k = (tickinglaw02_awake.f k).bind fun t => some t) : Ev g true :=
  Ev.congr h (Ev.bind (f := fun _ t => some t) awake_ev (Ev.now _))
theorem checks_j0 (e : Int) (x : Bool) (he : e = 0 ∨ e = 10) (hx : x = true ↔ e = 0) : Ev (fun k => tickinglaw02_ShuntStackChecks.j0 k e x) true := by
  refine Ev.step (f := fun k => (tickinglaw02_awake.f k).bind fun t => some t) (fun k => ?_) (checks_end fun k => rfl)
  simp only [tickinglaw02_ShuntStackChecks.j0]
  rcases he with rfl | rfl
  · rw [if_pos (hx.2 rfl), if_pos rfl]
  · rw [if_neg (fun h => absurd (hx.1 h) (by decide)), if_pos rfl]

theorem ShuntStackChecks : tickinglaw02_ShuntStackChecks.Pure := by
  intro l0 a1 l2 _ _ _ _ _ _ hw2
  apply Ev.rounds
  obtain ⟨o, ho⟩ : ∃ o, o = l0.take 61 := ⟨_, rfl⟩
  obtain ⟨b, hb⟩ : ∃ b, b = l2.take 61 := ⟨_, rfl⟩
  obtain ⟨p, hp⟩ : ∃ p, p = a1.extract 0 ((mn (a1.size : Int) 130) : Int).toNat := ⟨_, rfl⟩
  have hlen : o.length ≤ 61 := by rw [ho, List.length_take]; omega
  have hw : ∀ v ∈ b, (Lit.int .i64 v).wf = true := fun v hv => hw2 v (by rw [hb] at hv; exact List.mem_of_mem_take hv)
  have hOr := Order_ev o 60 (by omega)
  have hm : 0 ≤ mn (a1.size : Int) 130 ∧ mn (a1.size : Int) 130 ≤ (a1.size : Int) := by unfold mn; split <;> omega
  have hf : ∀ k, tickinglaw02_ShuntStackChecks.f k l0 a1 l2 = ((shunt_CheckStack.f k o p b).bind fun t429 => ((tickingref02_Order.f k o 60).bind fun t430 => (if t430 = true then ((tickingref02_PlanSorts.f k o p).bind fun t432 => (if t432 = true then (if (b.length : Int) = 0 then (tickinglaw02_ShuntStackChecks.j0 k t429 true) else (if p.toList = ([] : List UInt8) then (if (o.length : Int) > 0 then ((tickingref02_StackBlock.f k o b).bind fun t433 => (tickinglaw02_ShuntStackChecks.j0 k t429 t433)) else (tickinglaw02_ShuntStackChecks.j0 k t429 false)) else (tickinglaw02_ShuntStackChecks.j0 k t429 false))) else (if p.toList = ([] : List UInt8) then (if (o.length : Int) > 0 then ((tickingref02_StackBlock.f k o b).bind fun t434 => (tickinglaw02_ShuntStackChecks.j0 k t429 t434)) else (tickinglaw02_ShuntStackChecks.j0 k t429 false)) else (tickinglaw02_ShuntStackChecks.j0 k t429 false)))) else (if t429 = 2 then ((tickinglaw02_awake.f k).bind fun t431 => (some t431)) else (some false))))) := by
    intro k
    rw [ho, hb, hp]
    unfold tickinglaw02_ShuntStackChecks.f tickinglaw02_list.f
    simp only [Option.bind_some]
    rw [if_pos hm.1, if_pos hm.2]
  refine Ev.congr hf ?_
  by_cases c : o.length ≤ 60 ∧ IsOrd o
  · obtain ⟨c1, c2⟩ := c
    obtain ⟨e, e1, e2, e3⟩ := check_ev o p b c2 c1 hw
    have hps := planSorts_ev o p c1
    obtain ⟨r, r1, r2⟩ := stackBlock_ev o b c1
    refine Ev.bind (f := fun k (t429 : Int) => ((tickingref02_Order.f k o 60).bind fun t430 => _)) e1 ?_
    refine Ev.bind (f := fun k (t430 : Bool) => _) hOr ?_
    have hpos : Blk o b → 0 < o.length := by
      rintro ⟨x, y, z, _, h⟩
      omega
    -- the part behind the plan
    have hrest : (sortsB o p = true ∧ b = []) = False → Ev (fun k => (if p.toList = ([] : List UInt8) then (if (o.length : Int) > 0 then ((tickingref02_StackBlock.f k o b).bind fun t433 => (tickinglaw02_ShuntStackChecks.j0 k e t433)) else (tickinglaw02_ShuntStackChecks.j0 k e false)) else (tickinglaw02_ShuntStackChecks.j0 k e false))) true := by
      intro hno
      rw [hno, false_or] at e3
      by_cases d1 : p.size = 0
      · by_cases d2 : (o.length : Int) > 0
        · refine Ev.congr (f := fun k => ((tickingref02_StackBlock.f k o b).bind fun t433 => (tickinglaw02_ShuntStackChecks.j0 k e t433))) (fun k => by rw [if_pos ((bytes_nil p).2 d1), if_pos d2]) ?_
          refine Ev.bind (f := fun k (t433 : Bool) => tickinglaw02_ShuntStackChecks.j0 k e t433) r1 ?_
          exact checks_j0 e r e2 (by rw [r2, e3]; exact ⟨fun h => ⟨d1, h⟩, fun h => h.2⟩)
        · refine Ev.congr (f := fun k => tickinglaw02_ShuntStackChecks.j0 k e false) (fun k => by rw [if_pos ((bytes_nil p).2 d1), if_neg d2]) ?_
          exact checks_j0 e false e2 ⟨fun h => (by cases h), fun h => absurd (hpos (e3.1 h).2) (by omega)⟩
      · refine Ev.congr (f := fun k => tickinglaw02_ShuntStackChecks.j0 k e false) (fun k => by rw [if_neg (fun h => d1 ((bytes_nil p).1 h))]) ?_
        exact checks_j0 e false e2 ⟨fun h => (by cases h), fun h => absurd (e3.1 h).1 d1⟩
    by_cases d : sortsB o p = true
    · rw [d] at hps
      by_cases d2 : b = []
      · refine Ev.congr (fun k => if_pos (decide_eq_true ⟨c2, by omega⟩)) ?_
        refine Ev.bind (f := fun k (t432 : Bool) => _) hps ?_
        refine Ev.congr (fun k => ?_) (checks_j0 e true e2 ⟨fun _ => e3.2 (.inl ⟨d, d2⟩), fun _ => rfl⟩)
        rw [if_pos rfl, if_pos (show (b.length : Int) = 0 by rw [d2]; rfl)]
      · refine Ev.congr (fun k => if_pos (decide_eq_true ⟨c2, by omega⟩)) ?_
        refine Ev.bind (f := fun k (t432 : Bool) => _) hps ?_
        refine Ev.congr (fun k => ?_) (hrest (by simp [d2]))
        rw [if_pos rfl, if_neg (by cases b <;> simp at d2 ⊢; omega)]
    · rw [Bool.eq_false_iff.2 d] at hps
      refine Ev.congr (fun k => if_pos (decide_eq_true ⟨c2, by omega⟩)) ?_
      refine Ev.bind (f := fun k (t432 : Bool) => _) hps ?_
      refine Ev.congr (fun k => ?_) (hrest (by simp [d]))
      rw [if_neg (by decide)]
  · have hc := check_no o p b c
    refine Ev.bind (f := fun k (t429 : Int) => ((tickingref02_Order.f k o 60).bind fun t430 => _)) (Ev.congr hc (Ev.now _)) ?_
    refine Ev.bind (f := fun k (t430 : Bool) => _) hOr ?_
    refine checks_end fun k => ?_
    rw [if_neg (by rw [decide_eq_true_eq]; exact fun h => c ⟨by omega, h.1⟩), if_pos rfl]
end Go.Proofs.Ytjbjongahnocdaa.Pure
