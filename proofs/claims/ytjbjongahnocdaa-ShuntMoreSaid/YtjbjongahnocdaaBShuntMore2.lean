-- Written by wip/bundle.py: texts of this claim, one behind the other.
import Derived.Test.YtjbjongahnocdaaBShuntMore1
import Derived.RowKit
import Derived.Test.YtjbjongahnocdaaWWords
set_option linter.unusedVariables false
set_option linter.unusedSimpArgs false

-- By hand, in the form of the print's texts: the print's own text of this law is too long for a claim.
namespace Go.Proofs.Ytjbjongahnocdaa.S
open Go.Proofs.Ytjbjongahnocdaa.Lib
open Go.Proofs.Ytjbjongahnocdaa.Defs
open Go.Maps (Keyed)
open Go.RowKit Go.Proofs.YtjbjongahnocdaaW.PrintWords Go.Proofs.YtjbjongahnocdaaW.PrintLast Go.Proofs.YtjbjongahnocdaaW.PrintMore
attribute [local go_sem] max2_int min2_int max_two min_two max_three min_three max_four min_four   -- for this text's walks alone
set_option linter.unusedVariables false
set_option linter.unusedSimpArgs false

/-! ### tickinglaw02_ShuntMore: function 14 -/
def moreGood (a b c d : List Int) (n m : Int) : Prop := (a ≠ [] ∨ (b = [] ∧ c = [])) ∧ (b ≠ [] ∨ d = []) ∧ m ≤ n ∧ n - 1 ≤ m ∧ 0 ≤ n ∧ n ≤ 1000
instance (a b c d : List Int) (n m : Int) : Decidable (moreGood a b c d n m) := by unfold moreGood; infer_instance
def restOf (o : List Int) (i : Int) : List Int := o.take i.toNat ++ o.drop (i + 1).toNat
def tickinglaw02_ShuntMore.g (k : Nat) (o less : List Int) : Option Bool :=
  (shunt_Stack.f k o).bind fun x => (shunt_Stacks.f k o).bind fun y => (shunt_Least.f k o).bind fun z => (shunt_Stack.f k less).bind fun x' => (shunt_Stacks.f k less).bind fun y' => (shunt_Least.f k less).bind fun z' =>
    if x.2.2 = 0 ∧ y.2.2 = 0 ∧ z.2 = 0 ∧ x'.2.2 = 0 ∧ y'.2.2 = 0 ∧ z'.2 = 0 ∧ moreGood x.2.1 y.2.1 x'.2.1 y'.2.1 z.1 z'.1 then tickinglaw02_awake.f k else none
def tickinglaw02_ShuntMore.f (k : Nat) (l0 : List Int) (a1 : Int) : Option Bool :=
  (tickinglaw02_tame.f k l0 25).bind fun o =>
    if o.length = 0 then tickinglaw02_awake.f k
    else (tickinglaw02_mod.f a1 (o.length : Int)).bind fun i =>
      if 0 ≤ i ∧ i < o.length ∧ o.length ≤ 100 then (tickinglaw02_tame.f k (restOf o i) 25).bind fun less => tickinglaw02_ShuntMore.g k o less
      else none

theorem more_rest (o : List Int) (i i1 : Int) (ad1 : Addr) (c1 : Nat) (w1 : World) (nd : Nat) (hi : 0 ≤ i ∧ i < o.length ∧ o.length ≤ 100 ∧ i1 = i + 1) (hr : Kd.C (Kd.int .i64) w1 (some ad1) o.length o) (hc : o.length ≤ c1) :
    (∀ W' : World, (Instr.slice 22 (.slice (some ad1) o.length c1) none (some (.int .i64 i)) none).run Try.prog W' = .ok (.slice (some ad1) i.toNat c1) W') ∧
    ∃ (Af : Option Addr) (Am : Option Addr) (cm : Nat) (v4 : Value) (w3 w4 : World),
      (∀ W' : World, (Instr.slice 22 (.slice (some ad1) o.length c1) (some (.int .i64 i1)) none none).run Try.prog W' = .ok (.slice Af (o.length - i1.toNat) (c1 - i1.toNat)) W') ∧
      (Builtin.append_ #[22, 22] 22 #[.slice none 0 0, .slice (some ad1) i.toNat c1]).run Try.prog (w1.drewN nd) = .ok (.slice Am i.toNat cm) w3 ∧
      (Builtin.append_ #[22, 22] 22 #[.slice Am i.toNat cm, .slice Af (o.length - i1.toNat) (c1 - i1.toNat)]).run Try.prog w3 = .ok v4 w4 ∧
      (∃ (A4 : Option Addr) (c4 : Nat), v4 = .slice A4 (restOf o i).length c4) ∧ (∀ (A4 : Option Addr) (c4 : Nat), v4 = .slice A4 (restOf o i).length c4 → Kd.C (Kd.int .i64) w4 A4 (restOf o i).length (restOf o i) ∧ (restOf o i).length ≤ c4) ∧ Below w1.heap.size w1 w4 := by
  obtain ⟨h0, h1, h2, rfl⟩ := hi
  obtain ⟨i0, hi0, _, hsz0, _⟩ := info_parts info3
  have hcp := cut_to (P := Try.prog) 22 3 .i64 Try.underlying22 hi0 (some ad1) o.length c1 i (by omega) (by omega) hc
  have hcf := cut_from (P := Try.prog) 22 3 .i64 Try.underlying22 hi0 1 hsz0 (some ad1) o.length c1 (i + 1) (by omega) (by omega)
  have hr1 := Kd.C_take (m := i.toNat) hr (by omega)
  have hr2 := Kd.C_drop (m := (i + 1).toNat) hr (by omega) hc
  have e1 : (o.take i.toNat).length = i.toNat := by rw [List.length_take]; omega
  have e2 : (o.drop (i + 1).toNat).length = o.length - (i + 1).toNat := by rw [List.length_drop]
  have hs1 : (Kd.int .i64).sz = 1 := rfl
  rw [hs1] at hr2
  have hD := pw_below_drewN (Below.refl w1.heap.size w1) nd
  obtain ⟨v3, w3, hrun1, hR3, hB3, _, _⟩ := append_row (Kd.int .i64) (P := Try.prog) (w0 := w1) (W := w1.drewN nd) w1.heap.size 22 22 3 (.int .i64 0) 8 Try.underlying22 info3 rfl (by decide) (by omega) (v := .slice none 0 0) (xs := []) (o.take i.toNat) (some ad1) (o.take i.toNat).length c1 (ok := fun _ => True) (fun _ => False) (Kd.C_drewN hr1 nd) (fun _ _ h => h) (fun _ h => h.elim) (fun _ _ => trivial) (Kd.R_nil _ _ _ _ _) hD hD.size (by rw [e1]; simp; omega)
  rw [List.nil_append] at hR3
  obtain ⟨Am, cm, e3⟩ := Kd.R_slice hR3
  subst e3
  obtain ⟨v4, w4, hrun2, hR4, hB4, _, _⟩ := append_row (Kd.int .i64) (P := Try.prog) (w0 := w1) (W := w3) w1.heap.size 22 22 3 (.int .i64 0) 8 Try.underlying22 info3 rfl (by decide) (by omega) (v := .slice Am (o.take i.toNat).length cm) (xs := o.take i.toNat) (o.drop (i + 1).toNat) _ (o.drop (i + 1).toNat).length (c1 - (i + 1).toNat) (ok := fun _ => True) (fun _ => False) (Kd.C_below hr2 hB3) (fun _ _ h => h) (fun _ h => h.elim) (fun _ _ => trivial) hR3 hB3 hB3.size (by rw [e1, e2]; omega)
  rw [e1] at hrun1 hrun2
  rw [e2] at hrun2
  refine ⟨hcp, _, Am, cm, v4, w3, w4, hcf, hrun1, hrun2, Kd.R_slice hR4, fun A4 c4 e4 => ?_, hB4⟩
  subst e4
  exact ⟨(Kd.R_reads' hR4).2.2, (Kd.R_reads' hR4).2.1⟩

set_option maxHeartbeats 8000000 in
set_option maxRecDepth 100000 in
theorem tickinglaw02_ShuntMore.calls (k : Nat) (A0 : Option Addr) (c0 : Nat) (l0 : List Int) (a1 : Int) (r : Bool) (w : World) (hr0 : Kd.C (Kd.int .i64) w A0 l0.length l0) (hc0 : l0.length ≤ c0) (h : tickinglaw02_ShuntMore.f k l0 a1 = some r) :
    Calls Try.prog 14 #[.slice A0 l0.length c0, .int .i64 a1] w fun e w' => e = .returned (.bool r) ∧ Below w.heap.size w w' := by
  unfold tickinglaw02_ShuntMore.f at h
  replace h := Option.bind_eq_some_iff.mp h
  obtain ⟨o, ho, h⟩ := h
  have HT1 := Aside0.mk (tickinglaw02_tame.calls k A0 c0 l0 25 o w hr0 hc0 ho)
  clear hr0 hc0 ho
  by_cases hz : o.length = 0
  case pos =>
    rw [if_pos hz] at h
    have HAW := Aside0.mk (fun (W : World) => tickinglaw02_awake.calls k r W h)
    obtain rfl : o = [] := List.eq_nil_of_length_eq_zero hz
    clear hz h
    go_enter Try.func14, Try.ntmps14
    go_wp2_with (first
      | (go_at_call 27; go_must ((with_reducible refine HT1.out.mono ?_); rintro e w1 ⟨v1, rfl, hR1, hB1⟩; obtain ⟨A1, c1, e1⟩ := Kd.R_slice hR1; subst e1; have HB1 := Aside0.mk hB1; clear hR1 hB1))
      | (go_at_call 22; go_must ((with_reducible refine (HAW.out _).mono ?_); rintro e w2 ⟨rfl, hB2⟩; have HB2 := Aside0.mk hB2; clear hB2)))
    go_ret
    exact ⟨rfl, below_step HB1.out HB2.out⟩
  rw [if_neg hz] at h
  replace h := Option.bind_eq_some_iff.mp h
  obtain ⟨i, hi, h⟩ := h
  have HMD := Aside0.mk (fun (W : World) => tickinglaw02_mod.calls a1 (o.length : Int) i W hi)
  by_cases hc : 0 ≤ i ∧ i < o.length ∧ o.length ≤ 100
  case neg => rw [if_neg hc] at h; cases h
  rw [if_pos hc] at h
  replace h := Option.bind_eq_some_iff.mp h
  obtain ⟨less, hless, h⟩ := h
  have HT2 := Aside0.mk (fun (A : Option Addr) (c : Nat) (W : World) (hr : Kd.C (Kd.int .i64) W A (restOf o i).length (restOf o i)) (hc : (restOf o i).length ≤ c) => tickinglaw02_tame.calls k A c (restOf o i) 25 less W hr hc hless)
  unfold tickinglaw02_ShuntMore.g at h
  replace h := Option.bind_eq_some_iff.mp h
  obtain ⟨⟨p1, a, e1⟩, hx1, h⟩ := h
  replace h := Option.bind_eq_some_iff.mp h
  obtain ⟨⟨s1, b, e2⟩, hx2, h⟩ := h
  replace h := Option.bind_eq_some_iff.mp h
  obtain ⟨⟨n, e3⟩, hx3, h⟩ := h
  replace h := Option.bind_eq_some_iff.mp h
  obtain ⟨⟨p2, c, e4⟩, hx4, h⟩ := h
  replace h := Option.bind_eq_some_iff.mp h
  obtain ⟨⟨s2, d, e5⟩, hx5, h⟩ := h
  replace h := Option.bind_eq_some_iff.mp h
  obtain ⟨⟨m, e6⟩, hx6, h⟩ := h
  by_cases hg : e1 = 0 ∧ e2 = 0 ∧ e3 = 0 ∧ e4 = 0 ∧ e5 = 0 ∧ e6 = 0 ∧ moreGood a b c d n m
  case neg => rw [if_neg hg] at h; cases h
  rw [if_pos hg] at h
  obtain ⟨rfl, rfl, rfl, rfl, rfl, rfl, g1, g2, g3, g4, g5, g6⟩ := hg
  have HAW := Aside0.mk (fun (W : World) => tickinglaw02_awake.calls k r W h)
  have HS1 := Aside0.mk (fun (A : Option Addr) (q : Nat) (W : World) (hr : Kd.C (Kd.int .i64) W A o.length o) (hc : o.length ≤ q) => shunt_Stack.calls k A q o p1 a 0 W hr hc hx1)
  have HS2 := Aside0.mk (fun (A : Option Addr) (q : Nat) (W : World) (hr : Kd.C (Kd.int .i64) W A o.length o) (hc : o.length ≤ q) => shunt_Stacks.calls k A q o s1 b 0 W hr hc hx2)
  have HS3 := Aside0.mk (fun (A : Option Addr) (q : Nat) (W : World) (hr : Kd.C (Kd.int .i64) W A o.length o) (hc : o.length ≤ q) => shunt_Least.calls k A q o n 0 W hr hc hx3)
  have HS4 := Aside0.mk (fun (A : Option Addr) (q : Nat) (W : World) (hr : Kd.C (Kd.int .i64) W A less.length less) (hc : less.length ≤ q) => shunt_Stack.calls k A q less p2 c 0 W hr hc hx4)
  have HS5 := Aside0.mk (fun (A : Option Addr) (q : Nat) (W : World) (hr : Kd.C (Kd.int .i64) W A less.length less) (hc : less.length ≤ q) => shunt_Stacks.calls k A q less s2 d 0 W hr hc hx5)
  have HS6 := Aside0.mk (fun (A : Option Addr) (q : Nat) (W : World) (hr : Kd.C (Kd.int .i64) W A less.length less) (hc : less.length ≤ q) => shunt_Least.calls k A q less m 0 W hr hc hx6)
  have hz1 : (o.length == 0) = false := beq_eq_false_iff_ne.mpr hz
  have hz2 : ((o.length : Int) == 0) = false := by rw [beq_eq_false_iff_ne]; omega
  obtain ⟨i1, hi1⟩ : ∃ i1, i1 = i + 1 := ⟨_, rfl⟩
  have hiw : IntKind.i64.wrap (i + 1) = i1 := by rw [IntWalk.i64_in _ (by omega), hi1]
  obtain ⟨n1, hn1⟩ : ∃ n1, n1 = n - 1 := ⟨_, rfl⟩
  have hnw : IntKind.i64.wrap (n - 1) = n1 := by rw [IntWalk.i64_in _ (by omega), hn1]
  have t1 : decide (m ≤ n) = true := decide_eq_true g3
  have t2 : decide (n1 ≤ m) = true := decide_eq_true (by omega)
  have HI := Aside0.mk (show 0 ≤ i ∧ i < o.length ∧ o.length ≤ 100 ∧ i1 = i + 1 from ⟨hc.1, hc.2.1, hc.2.2, hi1⟩)
  have HZ := Aside0.mk hz
  clear hz hc hi hless hx1 hx2 hx3 hx4 hx5 hx6 h hi1 hn1 g3 g4 g5 g6
  by_cases ca : a = []
  · obtain ⟨rfl, rfl⟩ : b = [] ∧ c = [] := g1.elim (fun h => absurd ca h) id
    obtain rfl : d = [] := g2.elim (fun h => absurd rfl h) id
    subst ca
    clear g1 g2
    go_enter Try.func14, Try.ntmps14
    go_wp2_with (first
      | (go_at_call 27; go_must (first
          | ((with_reducible refine HT1.out.mono ?_); rintro e w1 ⟨v1, rfl, hR1, hB1⟩; obtain ⟨A1, c1, e1⟩ := Kd.R_slice hR1; subst e1; obtain ⟨ad1, ea1, _⟩ := Kd.at_int (Kd.R_reads' hR1).2.2 0 (by omega) (by have := HZ.out; omega); subst ea1; have HB1 := Aside0.mk hB1; have HO := Aside0.mk (Kd.R_reads' hR1).2.2; have HOC := Aside0.mk (Kd.R_reads' hR1).2.1; clear hR1 hB1)
          | ((with_reducible refine (HT2.out _ _ _ HC4.out HL4.out).mono ?_); rintro e w5 ⟨v5, rfl, hR5, hB5⟩; obtain ⟨A5, c5, e5⟩ := Kd.R_slice hR5; subst e5; have HX5 := Aside0.mk (below_step HX4.out hB5); have HLS := Aside0.mk (Kd.R_reads' hR5).2.2; have HLC := Aside0.mk (Kd.R_reads' hR5).2.1; clear hR5 hB5)))
      | (go_at_call 31; go_must ((with_reducible refine (HMD.out _).mono ?_); rintro e w2 ⟨rfl, ⟨nd, rfl⟩⟩; obtain ⟨hcp, Af, Am, cm, v4, w3, w4, hcf, hrun1, hrun2, ⟨A4, c4, e4⟩, hCL, hX4⟩ := more_rest o i i1 ad1 c1 w1 nd HI.out HO.out HOC.out; obtain ⟨hC4, hL4⟩ := hCL A4 c4 e4; subst e4; clear hCL; have HRUN1 := Aside0.mk hrun1; have HRUN2 := Aside0.mk hrun2; have HC4 := Aside0.mk hC4; have HL4 := Aside0.mk hL4; have HX4 := Aside0.mk hX4; clear hrun1 hrun2 hC4 hL4 hX4))
      | (at_builtin; go_must (first | (refine wpList_appendRun _ rfl _ _ _ rfl HRUN1.out rfl rfl rfl ?_) | (refine wpList_appendRun _ rfl _ _ _ rfl HRUN2.out rfl rfl rfl ?_)))
      | (go_at_call 28; go_must (first
          | ((with_reducible refine (HS1.out _ _ _ (Kd.C_below HO.out HX5.out) HOC.out).mono ?_); rintro e w6 ⟨v6, rfl, hR6, hB6⟩; obtain ⟨A6, c6, e6⟩ := Kd.R_slice hR6; subst e6; have HX6 := Aside0.mk (below_step HX5.out hB6); have HY6 := Aside0.mk hB6; clear hR6 hB6)
          | ((with_reducible refine (HS4.out _ _ _ (Kd.C_below HLS.out HY8.out) HLC.out).mono ?_); rintro e w9 ⟨v9, rfl, hR9, hB9⟩; obtain ⟨A9, c9, e9⟩ := Kd.R_slice hR9; subst e9; have HX9 := Aside0.mk (below_step HX8.out hB9); have HY9 := Aside0.mk (below_step HY8.out hB9); clear hR9 hB9)))
      | (go_at_call 48; go_must (first
          | ((with_reducible refine (HS2.out _ _ _ (Kd.C_below HO.out HX6.out) HOC.out).mono ?_); rintro e w7 ⟨v7, u7, rfl, hR7, hQ7, hB7⟩; obtain ⟨A7, c7, e7⟩ := Kd.R_slice hR7; subst e7; obtain ⟨F7, d7, f7⟩ := Kd.R_slice hQ7; subst f7; have HX7 := Aside0.mk (below_step HX6.out hB7); have HY7 := Aside0.mk (below_step HY6.out hB7); clear hR7 hQ7 hB7)
          | ((with_reducible refine (HS5.out _ _ _ (Kd.C_below HLS.out HY9.out) HLC.out).mono ?_); rintro e w10 ⟨v10, u10, rfl, hR10, hQ10, hB10⟩; obtain ⟨A10, c10, e10⟩ := Kd.R_slice hR10; subst e10; obtain ⟨F10, d10, f10⟩ := Kd.R_slice hQ10; subst f10; have HX10 := Aside0.mk (below_step HX9.out hB10); have HY10 := Aside0.mk (below_step HY9.out hB10); clear hR10 hQ10 hB10)))
      | (go_at_call 29; go_must (first
          | ((with_reducible refine (HS3.out _ _ _ (Kd.C_below HO.out HX7.out) HOC.out).mono ?_); rintro e w8 ⟨rfl, hB8⟩; have HX8 := Aside0.mk (below_step HX7.out hB8); have HY8 := Aside0.mk (below_step HY7.out hB8); clear hB8)
          | ((with_reducible refine (HS6.out _ _ _ (Kd.C_below HLS.out HY10.out) HLC.out).mono ?_); rintro e w11 ⟨rfl, hB11⟩; have HX11 := Aside0.mk (below_step HX10.out hB11); clear hB11)))
      | (go_at_call 22; go_must ((with_reducible refine (HAW.out _).mono ?_); rintro e w12 ⟨rfl, hB12⟩; have HX12 := Aside0.mk (below_step HX11.out hB12); clear hB12)))
    go_ret
    exact ⟨rfl, below_step HB1.out HX12.out⟩
  · have ha : 0 < a.length := List.length_pos_iff.2 ca
    have u1 : decide (0 < a.length) = true := decide_eq_true ha
    have u2 : decide ((0 : Int) < (a.length : Int)) = true := decide_eq_true (by omega)
    by_cases cb : b = []
    · obtain rfl : d = [] := g2.elim (fun h => absurd cb h) id
      subst cb
      clear g1 g2 ha ca
      go_enter Try.func14, Try.ntmps14
      go_wp2_with (first
        | (go_at_call 27; go_must (first
            | ((with_reducible refine HT1.out.mono ?_); rintro e w1 ⟨v1, rfl, hR1, hB1⟩; obtain ⟨A1, c1, e1⟩ := Kd.R_slice hR1; subst e1; obtain ⟨ad1, ea1, _⟩ := Kd.at_int (Kd.R_reads' hR1).2.2 0 (by omega) (by have := HZ.out; omega); subst ea1; have HB1 := Aside0.mk hB1; have HO := Aside0.mk (Kd.R_reads' hR1).2.2; have HOC := Aside0.mk (Kd.R_reads' hR1).2.1; clear hR1 hB1)
            | ((with_reducible refine (HT2.out _ _ _ HC4.out HL4.out).mono ?_); rintro e w5 ⟨v5, rfl, hR5, hB5⟩; obtain ⟨A5, c5, e5⟩ := Kd.R_slice hR5; subst e5; have HX5 := Aside0.mk (below_step HX4.out hB5); have HLS := Aside0.mk (Kd.R_reads' hR5).2.2; have HLC := Aside0.mk (Kd.R_reads' hR5).2.1; clear hR5 hB5)))
        | (go_at_call 31; go_must ((with_reducible refine (HMD.out _).mono ?_); rintro e w2 ⟨rfl, ⟨nd, rfl⟩⟩; obtain ⟨hcp, Af, Am, cm, v4, w3, w4, hcf, hrun1, hrun2, ⟨A4, c4, e4⟩, hCL, hX4⟩ := more_rest o i i1 ad1 c1 w1 nd HI.out HO.out HOC.out; obtain ⟨hC4, hL4⟩ := hCL A4 c4 e4; subst e4; clear hCL; have HRUN1 := Aside0.mk hrun1; have HRUN2 := Aside0.mk hrun2; have HC4 := Aside0.mk hC4; have HL4 := Aside0.mk hL4; have HX4 := Aside0.mk hX4; clear hrun1 hrun2 hC4 hL4 hX4))
        | (at_builtin; go_must (first | (refine wpList_appendRun _ rfl _ _ _ rfl HRUN1.out rfl rfl rfl ?_) | (refine wpList_appendRun _ rfl _ _ _ rfl HRUN2.out rfl rfl rfl ?_)))
        | (go_at_call 28; go_must (first
            | ((with_reducible refine (HS1.out _ _ _ (Kd.C_below HO.out HX5.out) HOC.out).mono ?_); rintro e w6 ⟨v6, rfl, hR6, hB6⟩; obtain ⟨A6, c6, e6⟩ := Kd.R_slice hR6; subst e6; have HX6 := Aside0.mk (below_step HX5.out hB6); have HY6 := Aside0.mk hB6; clear hR6 hB6)
            | ((with_reducible refine (HS4.out _ _ _ (Kd.C_below HLS.out HY8.out) HLC.out).mono ?_); rintro e w9 ⟨v9, rfl, hR9, hB9⟩; obtain ⟨A9, c9, e9⟩ := Kd.R_slice hR9; subst e9; have HX9 := Aside0.mk (below_step HX8.out hB9); have HY9 := Aside0.mk (below_step HY8.out hB9); clear hR9 hB9)))
        | (go_at_call 48; go_must (first
            | ((with_reducible refine (HS2.out _ _ _ (Kd.C_below HO.out HX6.out) HOC.out).mono ?_); rintro e w7 ⟨v7, u7, rfl, hR7, hQ7, hB7⟩; obtain ⟨A7, c7, e7⟩ := Kd.R_slice hR7; subst e7; obtain ⟨F7, d7, f7⟩ := Kd.R_slice hQ7; subst f7; have HX7 := Aside0.mk (below_step HX6.out hB7); have HY7 := Aside0.mk (below_step HY6.out hB7); clear hR7 hQ7 hB7)
            | ((with_reducible refine (HS5.out _ _ _ (Kd.C_below HLS.out HY9.out) HLC.out).mono ?_); rintro e w10 ⟨v10, u10, rfl, hR10, hQ10, hB10⟩; obtain ⟨A10, c10, e10⟩ := Kd.R_slice hR10; subst e10; obtain ⟨F10, d10, f10⟩ := Kd.R_slice hQ10; subst f10; have HX10 := Aside0.mk (below_step HX9.out hB10); have HY10 := Aside0.mk (below_step HY9.out hB10); clear hR10 hQ10 hB10)))
        | (go_at_call 29; go_must (first
            | ((with_reducible refine (HS3.out _ _ _ (Kd.C_below HO.out HX7.out) HOC.out).mono ?_); rintro e w8 ⟨rfl, hB8⟩; have HX8 := Aside0.mk (below_step HX7.out hB8); have HY8 := Aside0.mk (below_step HY7.out hB8); clear hB8)
            | ((with_reducible refine (HS6.out _ _ _ (Kd.C_below HLS.out HY10.out) HLC.out).mono ?_); rintro e w11 ⟨rfl, hB11⟩; have HX11 := Aside0.mk (below_step HX10.out hB11); clear hB11)))
        | (go_at_call 22; go_must ((with_reducible refine (HAW.out _).mono ?_); rintro e w12 ⟨rfl, hB12⟩; have HX12 := Aside0.mk (below_step HX11.out hB12); clear hB12)))
      go_ret
      exact ⟨rfl, below_step HB1.out HX12.out⟩
    · have hb : 0 < b.length := List.length_pos_iff.2 cb
      have u3 : decide (0 < b.length) = true := decide_eq_true hb
      have u4 : decide ((0 : Int) < (b.length : Int)) = true := decide_eq_true (by omega)
      clear g1 g2 ha hb ca cb
      go_enter Try.func14, Try.ntmps14
      go_wp2_with (first
        | (go_at_call 27; go_must (first
            | ((with_reducible refine HT1.out.mono ?_); rintro e w1 ⟨v1, rfl, hR1, hB1⟩; obtain ⟨A1, c1, e1⟩ := Kd.R_slice hR1; subst e1; obtain ⟨ad1, ea1, _⟩ := Kd.at_int (Kd.R_reads' hR1).2.2 0 (by omega) (by have := HZ.out; omega); subst ea1; have HB1 := Aside0.mk hB1; have HO := Aside0.mk (Kd.R_reads' hR1).2.2; have HOC := Aside0.mk (Kd.R_reads' hR1).2.1; clear hR1 hB1)
            | ((with_reducible refine (HT2.out _ _ _ HC4.out HL4.out).mono ?_); rintro e w5 ⟨v5, rfl, hR5, hB5⟩; obtain ⟨A5, c5, e5⟩ := Kd.R_slice hR5; subst e5; have HX5 := Aside0.mk (below_step HX4.out hB5); have HLS := Aside0.mk (Kd.R_reads' hR5).2.2; have HLC := Aside0.mk (Kd.R_reads' hR5).2.1; clear hR5 hB5)))
        | (go_at_call 31; go_must ((with_reducible refine (HMD.out _).mono ?_); rintro e w2 ⟨rfl, ⟨nd, rfl⟩⟩; obtain ⟨hcp, Af, Am, cm, v4, w3, w4, hcf, hrun1, hrun2, ⟨A4, c4, e4⟩, hCL, hX4⟩ := more_rest o i i1 ad1 c1 w1 nd HI.out HO.out HOC.out; obtain ⟨hC4, hL4⟩ := hCL A4 c4 e4; subst e4; clear hCL; have HRUN1 := Aside0.mk hrun1; have HRUN2 := Aside0.mk hrun2; have HC4 := Aside0.mk hC4; have HL4 := Aside0.mk hL4; have HX4 := Aside0.mk hX4; clear hrun1 hrun2 hC4 hL4 hX4))
        | (at_builtin; go_must (first | (refine wpList_appendRun _ rfl _ _ _ rfl HRUN1.out rfl rfl rfl ?_) | (refine wpList_appendRun _ rfl _ _ _ rfl HRUN2.out rfl rfl rfl ?_)))
        | (go_at_call 28; go_must (first
            | ((with_reducible refine (HS1.out _ _ _ (Kd.C_below HO.out HX5.out) HOC.out).mono ?_); rintro e w6 ⟨v6, rfl, hR6, hB6⟩; obtain ⟨A6, c6, e6⟩ := Kd.R_slice hR6; subst e6; have HX6 := Aside0.mk (below_step HX5.out hB6); have HY6 := Aside0.mk hB6; clear hR6 hB6)
            | ((with_reducible refine (HS4.out _ _ _ (Kd.C_below HLS.out HY8.out) HLC.out).mono ?_); rintro e w9 ⟨v9, rfl, hR9, hB9⟩; obtain ⟨A9, c9, e9⟩ := Kd.R_slice hR9; subst e9; have HX9 := Aside0.mk (below_step HX8.out hB9); have HY9 := Aside0.mk (below_step HY8.out hB9); clear hR9 hB9)))
        | (go_at_call 48; go_must (first
            | ((with_reducible refine (HS2.out _ _ _ (Kd.C_below HO.out HX6.out) HOC.out).mono ?_); rintro e w7 ⟨v7, u7, rfl, hR7, hQ7, hB7⟩; obtain ⟨A7, c7, e7⟩ := Kd.R_slice hR7; subst e7; obtain ⟨F7, d7, f7⟩ := Kd.R_slice hQ7; subst f7; have HX7 := Aside0.mk (below_step HX6.out hB7); have HY7 := Aside0.mk (below_step HY6.out hB7); clear hR7 hQ7 hB7)
            | ((with_reducible refine (HS5.out _ _ _ (Kd.C_below HLS.out HY9.out) HLC.out).mono ?_); rintro e w10 ⟨v10, u10, rfl, hR10, hQ10, hB10⟩; obtain ⟨A10, c10, e10⟩ := Kd.R_slice hR10; subst e10; obtain ⟨F10, d10, f10⟩ := Kd.R_slice hQ10; subst f10; have HX10 := Aside0.mk (below_step HX9.out hB10); have HY10 := Aside0.mk (below_step HY9.out hB10); clear hR10 hQ10 hB10)))
        | (go_at_call 29; go_must (first
            | ((with_reducible refine (HS3.out _ _ _ (Kd.C_below HO.out HX7.out) HOC.out).mono ?_); rintro e w8 ⟨rfl, hB8⟩; have HX8 := Aside0.mk (below_step HX7.out hB8); have HY8 := Aside0.mk (below_step HY7.out hB8); clear hB8)
            | ((with_reducible refine (HS6.out _ _ _ (Kd.C_below HLS.out HY10.out) HLC.out).mono ?_); rintro e w11 ⟨rfl, hB11⟩; have HX11 := Aside0.mk (below_step HX10.out hB11); clear hB11)))
        | (go_at_call 22; go_must ((with_reducible refine (HAW.out _).mono ?_); rintro e w12 ⟨rfl, hB12⟩; have HX12 := Aside0.mk (below_step HX11.out hB12); clear hB12)))
      go_ret
      exact ⟨rfl, below_step HB1.out HX12.out⟩

/-- THE ONE PURE STATEMENT of tickinglaw02_ShuntMore. -/
def tickinglaw02_ShuntMore.Pure : Prop := ∀ (l0 : List Int) (a1 : Int), l0.length ≤ maxLen → l0.length * 8 ≤ 140737488351232 → (∀ x ∈ l0, (Lit.int .i64 x).wf = true) → (Lit.int .i64 a1).wf = true → ∃ k, tickinglaw02_ShuntMore.f k l0 a1 = some true
theorem tickinglaw02_ShuntMore.walk (P : tickinglaw02_ShuntMore.Pure) (a0 : Option Addr) (len0 cap0 : Nat) (z0 : List Int) (a1 : Int) (w : World) (w0 : (a0 = none ∧ len0 = 0 ∧ cap0 = 0 ∧ z0 = []) ∨ ∃ x, a0 = some x ∧ len0 ≤ cap0 ∧ cap0 ≤ maxLen ∧ z0.length = cap0 ∧ (∀ i, i < z0.length → w.cell? (x.add i) = some (.int .i64 (z0.getD i 0))) ∧ ∀ n ∈ z0, (Lit.int .i64 n).wf = true) (y0 : len0 * 8 ≤ 140737488351232) (w1 : (Lit.int .i64 a1).wf = true) :
    Calls Try.prog 14 #[.slice a0 len0 cap0, .int .i64 a1] w fun e w' => e = .returned (.bool true) ∧ Below w.heap.size w w' := by
  obtain ⟨l0, rfl, hr0, hm0, hw0, hc0⟩ := ReadsInt.ofRowC w0
  obtain ⟨k, h⟩ := P l0 a1 hm0 y0 hw0 w1
  refine (tickinglaw02_ShuntMore.calls k _ _ l0 a1 true w (Kd.C_of_reads (d := (0 : Int)) (h1 := fun _ => rfl) hr0) hc0 h).mono ?_
  rintro e w' ⟨rfl, hd⟩
  exact ⟨rfl, hd⟩

end Go.Proofs.Ytjbjongahnocdaa.S

/- Small facts for the plain laws: whole numbers that do not wrap, reads of lists, rounds. -/
namespace Go.Proofs.Ytjbjongahnocdaa.P
open Go.RowKit Go.Proofs.YtjbjongahnocdaaW.PrintWords

theorem w64 {x : Int} (h0 : -9223372036854775808 ≤ x) (h1 : x ≤ 9223372036854775807) : wrap64 x = x := by
  unfold wrap64
  omega

theorem rd_nat (l : List Int) (i : Nat) : rd l (i : Int) = l.getD i 0 := by
  unfold rd
  rw [show ((i : Int)).toNat = i by omega]

theorem rd_lt (l : List Int) (i : Nat) (h : i < l.length) : rd l (i : Int) = l[i] := by
  rw [rd_nat, List.getD_eq_getElem?_getD, List.getElem?_eq_getElem h, Option.getD_some]

theorem rd_mem {l : List Int} {x : Int} (h0 : 0 ≤ x) (h1 : x < l.length) : rd l x ∈ l := by
  obtain ⟨n, rfl⟩ := Int.eq_ofNat_of_zero_le h0
  rw [rd_lt l n (by omega)]
  exact List.getElem_mem _

theorem drop_cons (l : List Int) (i : Nat) (h : i < l.length) : l.drop i = rd l (i : Int) :: l.drop (i + 1) := by
  rw [rd_lt l i h, List.drop_eq_getElem_cons h]

theorem nodup_len : ∀ (n : Nat) (l : List Int) (lo : Int), l.Nodup → (∀ a ∈ l, lo < a ∧ a ≤ lo + n) → l.length ≤ n
  | 0, l, lo, _, h => by
    cases l with
    | nil => simp
    | cons a t => have := h a (by simp); omega
  | n + 1, l, lo, hd, h => by
    have h1 := nodup_len n (l.erase (lo + 1)) (lo + 1) (hd.erase _) (fun a ha => by
      have hm := List.mem_of_mem_erase ha
      have hne : a ≠ lo + 1 := fun e => by
        subst e
        exact (List.Nodup.not_mem_erase hd) ha
      have := h a hm
      omega)
    have h2 : l.length ≤ (l.erase (lo + 1)).length + 1 := by
      rw [List.length_erase]
      split <;> omega
    omega

theorem full_range (n : Nat) (l : List Int) (lo : Int) (hd : l.Nodup) (h : ∀ a ∈ l, lo < a ∧ a ≤ lo + n) (hl : l.length = n) (v : Int) (h0 : lo < v) (h1 : v ≤ lo + n) : v ∈ l := by
  by_cases hv : v ∈ l
  · exact hv
  · have := nodup_len n (v :: l) lo (List.nodup_cons.2 ⟨hv, hd⟩) (fun a ha => by
      rcases List.mem_cons.1 ha with rfl | ha
      · exact ⟨h0, h1⟩
      · exact h a ha)
    rw [List.length_cons] at this
    omega

end Go.Proofs.Ytjbjongahnocdaa.P

namespace Go.Proofs.Ytjbjongahnocdaa.S
open Go.Proofs.Ytjbjongahnocdaa.Lib
open Go.Proofs.Ytjbjongahnocdaa.Defs
open Go.Maps (Keyed)
open Go.RowKit Go.Proofs.YtjbjongahnocdaaW.PrintWords Go.Proofs.YtjbjongahnocdaaW.PrintLast Go.Proofs.YtjbjongahnocdaaW.PrintMore
attribute [local go_sem] max2_int min2_int max_two min_two max_three min_three max_four min_four   -- for this text's walks alone
set_option linter.unusedVariables false
set_option linter.unusedSimpArgs false

/-! ### tickingref02_has: function 59 -/
def tickingref02_has.l0 : Nat → List Int → Int → Int → Option (Bool)
  | 0, _, _, _ => none
  | k + 1, x0, x1, x5 => if x5 < (x0.length : Int) then (if 0 ≤ x5 then (if (rd x0 x5) = x1 then (some true) else (tickingref02_has.l0 k x0 x1 (wrap64 (x5 + 1)))) else (none)) else (some false)
def tickingref02_has.f (k : Nat) (l0 : List Int) (a1 : Int) : Option (Bool) := tickingref02_has.l0 k l0 a1 0
theorem tickingref02_has.mono_l : ∀ k, (∀ y0 y1 y2, LeO (tickingref02_has.l0 k y0 y1 y2) (tickingref02_has.l0 (k + 1) y0 y1 y2))
  | 0 => fun _ _ _ r h => by simp [tickingref02_has.l0] at h
  | k + 1 => by
    have ih0 := tickingref02_has.mono_l k
    · intro y0 y1 y2
      unfold tickingref02_has.l0
      repeat' first
      | (with_reducible exact ih0 _ _ _)
      | (with_reducible exact LeO.refl _)
      | (with_reducible exact LeO.none _)
      | (with_reducible refine LeO.ite ?_ ?_)
      | (with_reducible refine LeO.bind ?_ (fun _ => ?_))
      | exact ih0 _ _ _
      | exact LeO.none _
      | refine LeO.ite ?_ ?_
      | refine LeO.bind ?_ (fun _ => ?_)
theorem tickingref02_has.mono : ∀ a0 a1 k, LeO (tickingref02_has.f k a0 a1) (tickingref02_has.f (k + 1) a0 a1) := by
  intro a0 a1 k
  have ih0 := tickingref02_has.mono_l k
  unfold tickingref02_has.f
  repeat' first
      | (with_reducible exact ih0 _ _ _)
      | (with_reducible exact LeO.refl _)
      | (with_reducible exact LeO.none _)
      | (with_reducible refine LeO.ite ?_ ?_)
      | (with_reducible refine LeO.bind ?_ (fun _ => ?_))
      | exact ih0 _ _ _
      | exact LeO.none _
      | refine LeO.ite ?_ ?_
      | refine LeO.bind ?_ (fun _ => ?_)
set_option maxHeartbeats 8000000 in
set_option maxRecDepth 100000 in
theorem tickingref02_has.calls (k : Nat) (A0 : Option Addr) (c0 : Nat) (l0 : List Int) (a1 : Int) (r : Bool) (w : World) (hr0 : Kd.C (Kd.int .i64) w A0 l0.length l0) (hc0 : l0.length ≤ c0) (h : tickingref02_has.f k l0 a1 = some r) :
    Calls Try.prog 59 #[.slice A0 l0.length c0, .int .i64 a1] w fun e w' => e = .returned (.bool r) ∧ Drawn0 w w' := by
  have HR0 := Aside0.mk hr0
  have HC0 := Aside0.mk hc0
  clear hr0 hc0
  have H : (tickingref02_has.l0 k l0 a1 0) = some r := h
  clear h
  have H' := Aside0.mk H
  clear H
  go_enter Try.func59, Try.ntmps59
  go_wp2
  go_loopg [5] k (fun kq v5 w' => ∃ (x5_1 : Int), v5 = .int .i64 x5_1 ∧ Aside0 (tickingref02_has.l0 kq l0 a1 x5_1 = some r) ∧ Aside0 (kq ≤ k) ∧ Drawn0 w w')
  case atStart => exact ⟨(0), (by first | rfl | (simp; done) | (simp [*]; done)), H', ⟨Nat.le_refl _⟩, by repeat (first | exact Drawn0.refl _ | apply Drawn0.step)⟩
  case round =>
    clear H'
    try clear p2
    obtain ⟨x5_1, rfl, HA, HK1, ⟨m1, rfl⟩⟩ := hrel
    cases gk with
    | zero => exact absurd HA.out (by simp [tickingref02_has.l0])
    | succ k1 =>
      have H := HA.out
      clear HA
      simp only [tickingref02_has.l0] at H
      by_cases c3 : x5_1 < (l0.length : Int)
      · rw [if_pos c3] at H
        have c3b0 : decide (x5_1 < (l0.length : Int)) = true := decide_eq_true c3
        clear c3
        by_cases c4 : 0 ≤ x5_1
        · rw [if_pos c4] at H
          have c4b0 : decide (0 ≤ x5_1) = true := decide_eq_true c4
          clear c4
          by_cases c5 : (rd l0 x5_1) = a1
          · rw [if_pos c5] at H
            have c5b0 : ((rd l0 x5_1) == a1) = true := beq_iff_eq.mpr c5
            have c5b1 : ((rd l0 x5_1) != a1) = false := bne_eq_false_iff_eq.mpr c5
            clear c5
            obtain rfl := Option.some.inj H
            have p117 : 0 ≤ (x5_1 : Int) := of_decide_eq_true (by first | (with_reducible assumption) | assumption)
            have q117 : x5_1 < (l0.length : Int) := of_decide_eq_true (by first | (with_reducible assumption) | assumption)
            obtain ⟨ad117, e117, hx117_0⟩ := Kd.at_int HR0.out x5_1 p117 q117
            cases e117
            replace p117 := eq_true p117
            replace q117 := eq_true q117
            go_wp2
            go_ret
            exact ⟨by first | rfl | (simp; done) | (simp [*]; done), by repeat (first | exact Drawn0.refl _ | apply Drawn0.step)⟩
          · rw [if_neg c5] at H
            have c5b0 : ((rd l0 x5_1) == a1) = false := beq_eq_false_iff_ne.mpr c5
            have c5b1 : ((rd l0 x5_1) != a1) = true := bne_iff_ne.mpr c5
            have H' := Aside0.mk H
            clear H
            have p117 : 0 ≤ (x5_1 : Int) := of_decide_eq_true (by first | (with_reducible assumption) | assumption)
            have q117 : x5_1 < (l0.length : Int) := of_decide_eq_true (by first | (with_reducible assumption) | assumption)
            obtain ⟨ad117, e117, hx117_0⟩ := Kd.at_int HR0.out x5_1 p117 q117
            cases e117
            replace p117 := eq_true p117
            replace q117 := eq_true q117
            go_wp2
            go_roundg k1
            case measure => have := HK1.out; omega
            case rel => exact ⟨(wrap64 (x5_1 + 1)), (by first | rfl | (simp; done) | (simp [*]; done)), H', ⟨by have := HK1.out; omega⟩, by repeat (first | exact Drawn0.refl _ | apply Drawn0.step)⟩
        · rw [if_neg c4] at H
          exact absurd H (by simp)
      · rw [if_neg c3] at H
        have c3b0 : decide (x5_1 < (l0.length : Int)) = false := decide_eq_false c3
        clear c3
        obtain rfl := Option.some.inj H
        go_wp2
        go_ret
        exact ⟨by first | rfl | (simp; done) | (simp [*]; done), by repeat (first | exact Drawn0.refl _ | apply Drawn0.step)⟩

end Go.Proofs.Ytjbjongahnocdaa.S

namespace Go.Proofs.Ytjbjongahnocdaa.S
open Go.Proofs.Ytjbjongahnocdaa.Lib
open Go.Proofs.Ytjbjongahnocdaa.Defs
open Go.Maps (Keyed)
open Go.RowKit Go.Proofs.YtjbjongahnocdaaW.PrintWords Go.Proofs.YtjbjongahnocdaaW.PrintLast Go.Proofs.YtjbjongahnocdaaW.PrintMore
attribute [local go_sem] max2_int min2_int max_two min_two max_three min_three max_four min_four   -- for this text's walks alone
set_option linter.unusedVariables false
set_option linter.unusedSimpArgs false

/-! ### tickingref02_Order: function 21 -/
def tickingref02_Order.l0 : Nat → List Int → Int → Int → Option (Bool)
  | 0, _, _, _ => none
  | k + 1, x0, x1, x5 => if x5 < (x0.length : Int) then (if 0 ≤ x5 then (if (rd x0 x5) < 1 then (some false) else (if (rd x0 x5) > (x0.length : Int) then (some false) else (if x5 ≤ (x0.length : Int) then ((tickingref02_has.f k (x0.take (x5 : Int).toNat) (rd x0 x5)).bind fun t122 => (if t122 = true then (some false) else (tickingref02_Order.l0 k x0 x1 (wrap64 (x5 + 1))))) else (none)))) else (none)) else (some (decide ((x0.length : Int) ≤ x1)))
def tickingref02_Order.f (k : Nat) (l0 : List Int) (a1 : Int) : Option (Bool) := tickingref02_Order.l0 k l0 a1 0
theorem tickingref02_Order.mono_l : ∀ k, (∀ y0 y1 y2, LeO (tickingref02_Order.l0 k y0 y1 y2) (tickingref02_Order.l0 (k + 1) y0 y1 y2))
  | 0 => fun _ _ _ r h => by simp [tickingref02_Order.l0] at h
  | k + 1 => by
    have ih0 := tickingref02_Order.mono_l k
    · intro y0 y1 y2
      unfold tickingref02_Order.l0
      repeat' first
      | (with_reducible exact ih0 _ _ _)
      | (with_reducible exact tickingref02_has.mono _ _ _)
      | (with_reducible exact LeO.refl _)
      | (with_reducible exact LeO.none _)
      | (with_reducible refine LeO.ite ?_ ?_)
      | (with_reducible refine LeO.bind ?_ (fun _ => ?_))
      | exact ih0 _ _ _
      | exact tickingref02_has.mono _ _ _
      | exact LeO.none _
      | refine LeO.ite ?_ ?_
      | refine LeO.bind ?_ (fun _ => ?_)
theorem tickingref02_Order.mono : ∀ a0 a1 k, LeO (tickingref02_Order.f k a0 a1) (tickingref02_Order.f (k + 1) a0 a1) := by
  intro a0 a1 k
  have ih0 := tickingref02_Order.mono_l k
  unfold tickingref02_Order.f
  repeat' first
      | (with_reducible exact ih0 _ _ _)
      | (with_reducible exact tickingref02_has.mono _ _ _)
      | (with_reducible exact LeO.refl _)
      | (with_reducible exact LeO.none _)
      | (with_reducible refine LeO.ite ?_ ?_)
      | (with_reducible refine LeO.bind ?_ (fun _ => ?_))
      | exact ih0 _ _ _
      | exact tickingref02_has.mono _ _ _
      | exact LeO.none _
      | refine LeO.ite ?_ ?_
      | refine LeO.bind ?_ (fun _ => ?_)
set_option maxHeartbeats 8000000 in
set_option maxRecDepth 100000 in
theorem tickingref02_Order.calls (k : Nat) (A0 : Option Addr) (c0 : Nat) (l0 : List Int) (a1 : Int) (r : Bool) (w : World) (hr0 : Kd.C (Kd.int .i64) w A0 l0.length l0) (hc0 : l0.length ≤ c0) (h : tickingref02_Order.f k l0 a1 = some r) :
    Calls Try.prog 21 #[.slice A0 l0.length c0, .int .i64 a1] w fun e w' => e = .returned (.bool r) ∧ Drawn0 w w' := by
  have HR0 := Aside0.mk hr0
  have HC0 := Aside0.mk hc0
  clear hr0 hc0
  have H : (tickingref02_Order.l0 k l0 a1 0) = some r := h
  clear h
  have H' := Aside0.mk H
  clear H
  go_enter Try.func21, Try.ntmps21
  go_wp2
  repeat (go_quiet (fail); try go_wp2)
  go_loopg [5] k (fun kq v5 w' => ∃ (x5_1 : Int), v5 = .int .i64 x5_1 ∧ Aside0 (tickingref02_Order.l0 kq l0 a1 x5_1 = some r) ∧ Aside0 (kq ≤ k) ∧ Drawn0 w w')
  case atStart => exact ⟨(0), (by first | rfl | (simp; done) | (simp [*]; done)), H', ⟨Nat.le_refl _⟩, by repeat (first | exact Drawn0.refl _ | apply Drawn0.step)⟩
  case round =>
    clear H'
    try clear c2
    try clear p2
    obtain ⟨x5_1, rfl, HA, HK1, ⟨m1, rfl⟩⟩ := hrel
    cases gk with
    | zero => exact absurd HA.out (by simp [tickingref02_Order.l0])
    | succ k1 =>
      have H := HA.out
      clear HA
      simp only [tickingref02_Order.l0] at H
      by_cases c3 : x5_1 < (l0.length : Int)
      · rw [if_pos c3] at H
        have c3b0 : decide (x5_1 < (l0.length : Int)) = true := decide_eq_true c3
        clear c3
        by_cases c4 : 0 ≤ x5_1
        · rw [if_pos c4] at H
          have c4b0 : decide (0 ≤ x5_1) = true := decide_eq_true c4
          clear c4
          by_cases c5 : (rd l0 x5_1) < 1
          · rw [if_pos c5] at H
            have c5b0 : decide ((rd l0 x5_1) < 1) = true := decide_eq_true c5
            clear c5
            obtain rfl := Option.some.inj H
            have p118 : 0 ≤ (x5_1 : Int) := of_decide_eq_true (by first | (with_reducible assumption) | assumption)
            have q118 : x5_1 < (l0.length : Int) := of_decide_eq_true (by first | (with_reducible assumption) | assumption)
            obtain ⟨ad118, e118, hx118_0⟩ := Kd.at_int HR0.out x5_1 p118 q118
            cases e118
            replace p118 := eq_true p118
            replace q118 := eq_true q118
            go_wp2
            repeat (go_quiet (fail); try go_wp2)
            go_ret
            exact ⟨by first | rfl | (simp; done) | (simp [*]; done), by repeat (first | exact Drawn0.refl _ | apply Drawn0.step)⟩
          · rw [if_neg c5] at H
            have c5b0 : decide ((rd l0 x5_1) < 1) = false := decide_eq_false c5
            clear c5
            by_cases c6 : (rd l0 x5_1) > (l0.length : Int)
            · rw [if_pos c6] at H
              have c6b0 : decide ((l0.length : Int) < (rd l0 x5_1)) = true := decide_eq_true c6
              clear c6
              obtain rfl := Option.some.inj H
              have p118 : 0 ≤ (x5_1 : Int) := of_decide_eq_true (by first | (with_reducible assumption) | assumption)
              have q118 : x5_1 < (l0.length : Int) := of_decide_eq_true (by first | (with_reducible assumption) | assumption)
              obtain ⟨ad118, e118, hx118_0⟩ := Kd.at_int HR0.out x5_1 p118 q118
              cases e118
              replace p118 := eq_true p118
              replace q118 := eq_true q118
              have p119 : 0 ≤ (x5_1 : Int) := of_decide_eq_true (by first | (with_reducible assumption) | assumption)
              have q119 : x5_1 < (l0.length : Int) := of_decide_eq_true (by first | (with_reducible assumption) | assumption)
              obtain ⟨ad119, e119, hx119_0⟩ := Kd.at_int HR0.out x5_1 p119 q119
              obtain rfl : ad118 = ad119 := (by injection e119)
              replace p119 := eq_true p119
              replace q119 := eq_true q119
              go_wp2
              repeat (go_quiet (fail); try go_wp2)
              go_ret
              exact ⟨by first | rfl | (simp; done) | (simp [*]; done), by repeat (first | exact Drawn0.refl _ | apply Drawn0.step)⟩
            · rw [if_neg c6] at H
              have c6b0 : decide ((l0.length : Int) < (rd l0 x5_1)) = false := decide_eq_false c6
              clear c6
              have c7b0 := eq_true (of_decide_eq_true (by first | (with_reducible assumption) | assumption) : 0 ≤ x5_1)
              by_cases c8 : x5_1 ≤ (l0.length : Int)
              · rw [if_pos c8] at H
                have c8b0 := eq_true c8
                have c8b1 : decide (x5_1 ≤ (l0.length : Int)) = true := decide_eq_true c8
                clear c8
                replace H := Option.bind_eq_some_iff.mp H
                obtain ⟨t122, A90, H⟩ := H
                replace H : (if t122 = true then (some false) else (tickingref02_Order.l0 k1 l0 a1 (wrap64 (x5_1 + 1)))) = some r := H
                have A9 := Aside0.mk A90
                clear A90
                by_cases c10 : t122 = true
                · subst c10
                  have H1 : (some false) = some r := by rw [if_pos rfl] at H; exact H
                  clear H
                  have H := H1
                  clear H1
                  obtain rfl := Option.some.inj H
                  have p118 : 0 ≤ (x5_1 : Int) := of_decide_eq_true (by first | (with_reducible assumption) | assumption)
                  have q118 : x5_1 < (l0.length : Int) := of_decide_eq_true (by first | (with_reducible assumption) | assumption)
                  obtain ⟨ad118, e118, hx118_0⟩ := Kd.at_int HR0.out x5_1 p118 q118
                  cases e118
                  replace p118 := eq_true p118
                  replace q118 := eq_true q118
                  have p119 : 0 ≤ (x5_1 : Int) := of_decide_eq_true (by first | (with_reducible assumption) | assumption)
                  have q119 : x5_1 < (l0.length : Int) := of_decide_eq_true (by first | (with_reducible assumption) | assumption)
                  obtain ⟨ad119, e119, hx119_0⟩ := Kd.at_int HR0.out x5_1 p119 q119
                  obtain rfl : ad118 = ad119 := (by injection e119)
                  replace p119 := eq_true p119
                  replace q119 := eq_true q119
                  obtain ⟨i011, hi011, _, hsz11, _⟩ := info_parts info3
                  obtain ⟨hcut11, hA11, hC11⟩ := print_take_of (P := Try.prog) (Value.int .i64) 0 22 3 .i64 Try.underlying22 hi011 hsz11 (some ad118) c0 l0 x5_1 (of_decide_eq_true (by first | (with_reducible assumption) | assumption)) (of_decide_eq_true (by first | (with_reducible assumption) | assumption)) HC0.out
                  have HR120 := Aside0.mk (Kd.C_of_reads (h1 := fun _ => rfl) (hA11 _ (Kd.reads_of_C HR0.out)))
                  have HC120 := Aside0.mk hC11
                  clear hA11 hC11 hi011 hsz11
                  obtain ⟨tk11, htk11⟩ : ∃ tk_ : List Int, (l0.take (x5_1 : Int).toNat) = tk_ := ⟨_, rfl⟩
                  simp only [htk11] at *
                  have Htk11 := Aside0.mk htk11
                  clear htk11
                  have p121 : 0 ≤ (x5_1 : Int) := of_decide_eq_true (by first | (with_reducible assumption) | assumption)
                  have q121 : x5_1 < (l0.length : Int) := of_decide_eq_true (by first | (with_reducible assumption) | assumption)
                  obtain ⟨ad121, e121, hx121_0⟩ := Kd.at_int HR0.out x5_1 p121 q121
                  obtain rfl : ad118 = ad121 := (by injection e121)
                  replace p121 := eq_true p121
                  replace q121 := eq_true q121
                  go_wp2_with (first | (go_at_call 59; (with_reducible refine (tickingref02_has.calls k1 _ _ tk11 (rd l0 x5_1) true _ ?side1 ?side2 A9.out).mono ?_); (case side1 => repeat (first | exact HR120.out | (with_reducible refine Kd.C_alloc ?_ _) | (with_reducible refine Kd.C_drewN ?_ _) | (with_reducible refine Kd.C_drew ?_))); (case side2 => exact HC120.out); rintro e w' ⟨rfl, ⟨nd, rfl⟩⟩; (try first | exact ⟨rfl, _, World.drewN_drewN _ _ _⟩ | exact ⟨rfl, _, Eq.trans (World.drewN_drewN _ _ _) (congrArg (World.drewN _) (Nat.add_assoc _ _ _))⟩)))
                  repeat (go_quiet (first | (go_at_call 59; (with_reducible refine (tickingref02_has.calls k1 _ _ tk11 (rd l0 x5_1) true _ ?side1 ?side2 A9.out).mono ?_); (case side1 => repeat (first | exact HR120.out | (with_reducible refine Kd.C_alloc ?_ _) | (with_reducible refine Kd.C_drewN ?_ _) | (with_reducible refine Kd.C_drew ?_))); (case side2 => exact HC120.out); rintro e w' ⟨rfl, ⟨nd, rfl⟩⟩; (try first | exact ⟨rfl, _, World.drewN_drewN _ _ _⟩ | exact ⟨rfl, _, Eq.trans (World.drewN_drewN _ _ _) (congrArg (World.drewN _) (Nat.add_assoc _ _ _))⟩))); try go_wp2_with (first | (go_at_call 59; (with_reducible refine (tickingref02_has.calls k1 _ _ tk11 (rd l0 x5_1) true _ ?side1 ?side2 A9.out).mono ?_); (case side1 => repeat (first | exact HR120.out | (with_reducible refine Kd.C_alloc ?_ _) | (with_reducible refine Kd.C_drewN ?_ _) | (with_reducible refine Kd.C_drew ?_))); (case side2 => exact HC120.out); rintro e w' ⟨rfl, ⟨nd, rfl⟩⟩; (try first | exact ⟨rfl, _, World.drewN_drewN _ _ _⟩ | exact ⟨rfl, _, Eq.trans (World.drewN_drewN _ _ _) (congrArg (World.drewN _) (Nat.add_assoc _ _ _))⟩))))
                  go_ret
                  exact ⟨by first | rfl | (simp; done) | (simp [*]; done), by repeat (first | exact Drawn0.refl _ | apply Drawn0.step)⟩
                · replace c10 := Bool.eq_false_iff.mpr c10
                  subst c10
                  have H1 : (tickingref02_Order.l0 k1 l0 a1 (wrap64 (x5_1 + 1))) = some r := by rw [if_neg (show ¬ (false = true) by decide)] at H; exact H
                  clear H
                  have H := H1
                  clear H1
                  have H' := Aside0.mk H
                  clear H
                  have p118 : 0 ≤ (x5_1 : Int) := of_decide_eq_true (by first | (with_reducible assumption) | assumption)
                  have q118 : x5_1 < (l0.length : Int) := of_decide_eq_true (by first | (with_reducible assumption) | assumption)
                  obtain ⟨ad118, e118, hx118_0⟩ := Kd.at_int HR0.out x5_1 p118 q118
                  cases e118
                  replace p118 := eq_true p118
                  replace q118 := eq_true q118
                  have p119 : 0 ≤ (x5_1 : Int) := of_decide_eq_true (by first | (with_reducible assumption) | assumption)
                  have q119 : x5_1 < (l0.length : Int) := of_decide_eq_true (by first | (with_reducible assumption) | assumption)
                  obtain ⟨ad119, e119, hx119_0⟩ := Kd.at_int HR0.out x5_1 p119 q119
                  obtain rfl : ad118 = ad119 := (by injection e119)
                  replace p119 := eq_true p119
                  replace q119 := eq_true q119
                  obtain ⟨i012, hi012, _, hsz12, _⟩ := info_parts info3
                  obtain ⟨hcut12, hA12, hC12⟩ := print_take_of (P := Try.prog) (Value.int .i64) 0 22 3 .i64 Try.underlying22 hi012 hsz12 (some ad118) c0 l0 x5_1 (of_decide_eq_true (by first | (with_reducible assumption) | assumption)) (of_decide_eq_true (by first | (with_reducible assumption) | assumption)) HC0.out
                  have HR120 := Aside0.mk (Kd.C_of_reads (h1 := fun _ => rfl) (hA12 _ (Kd.reads_of_C HR0.out)))
                  have HC120 := Aside0.mk hC12
                  clear hA12 hC12 hi012 hsz12
                  obtain ⟨tk12, htk12⟩ : ∃ tk_ : List Int, (l0.take (x5_1 : Int).toNat) = tk_ := ⟨_, rfl⟩
                  simp only [htk12] at *
                  have Htk12 := Aside0.mk htk12
                  clear htk12
                  have p121 : 0 ≤ (x5_1 : Int) := of_decide_eq_true (by first | (with_reducible assumption) | assumption)
                  have q121 : x5_1 < (l0.length : Int) := of_decide_eq_true (by first | (with_reducible assumption) | assumption)
                  obtain ⟨ad121, e121, hx121_0⟩ := Kd.at_int HR0.out x5_1 p121 q121
                  obtain rfl : ad118 = ad121 := (by injection e121)
                  replace p121 := eq_true p121
                  replace q121 := eq_true q121
                  go_wp2_with (first | (go_at_call 59; (with_reducible refine (tickingref02_has.calls k1 _ _ tk12 (rd l0 x5_1) false _ ?side1 ?side2 A9.out).mono ?_); (case side1 => repeat (first | exact HR120.out | (with_reducible refine Kd.C_alloc ?_ _) | (with_reducible refine Kd.C_drewN ?_ _) | (with_reducible refine Kd.C_drew ?_))); (case side2 => exact HC120.out); rintro e w' ⟨rfl, ⟨nd, rfl⟩⟩; (try first | exact ⟨rfl, _, World.drewN_drewN _ _ _⟩ | exact ⟨rfl, _, Eq.trans (World.drewN_drewN _ _ _) (congrArg (World.drewN _) (Nat.add_assoc _ _ _))⟩)))
                  repeat (go_quiet (first | (go_at_call 59; (with_reducible refine (tickingref02_has.calls k1 _ _ tk12 (rd l0 x5_1) false _ ?side1 ?side2 A9.out).mono ?_); (case side1 => repeat (first | exact HR120.out | (with_reducible refine Kd.C_alloc ?_ _) | (with_reducible refine Kd.C_drewN ?_ _) | (with_reducible refine Kd.C_drew ?_))); (case side2 => exact HC120.out); rintro e w' ⟨rfl, ⟨nd, rfl⟩⟩; (try first | exact ⟨rfl, _, World.drewN_drewN _ _ _⟩ | exact ⟨rfl, _, Eq.trans (World.drewN_drewN _ _ _) (congrArg (World.drewN _) (Nat.add_assoc _ _ _))⟩))); try go_wp2_with (first | (go_at_call 59; (with_reducible refine (tickingref02_has.calls k1 _ _ tk12 (rd l0 x5_1) false _ ?side1 ?side2 A9.out).mono ?_); (case side1 => repeat (first | exact HR120.out | (with_reducible refine Kd.C_alloc ?_ _) | (with_reducible refine Kd.C_drewN ?_ _) | (with_reducible refine Kd.C_drew ?_))); (case side2 => exact HC120.out); rintro e w' ⟨rfl, ⟨nd, rfl⟩⟩; (try first | exact ⟨rfl, _, World.drewN_drewN _ _ _⟩ | exact ⟨rfl, _, Eq.trans (World.drewN_drewN _ _ _) (congrArg (World.drewN _) (Nat.add_assoc _ _ _))⟩))))
                  go_roundg k1
                  case measure => have := HK1.out; omega
                  case rel => exact ⟨(wrap64 (x5_1 + 1)), (by first | rfl | (simp; done) | (simp [*]; done)), H', ⟨by have := HK1.out; omega⟩, by repeat (first | exact Drawn0.refl _ | apply Drawn0.step)⟩
              · rw [if_neg c8] at H
                exact absurd H (by simp)
        · rw [if_neg c4] at H
          exact absurd H (by simp)
      · rw [if_neg c3] at H
        have c3b0 : decide (x5_1 < (l0.length : Int)) = false := decide_eq_false c3
        clear c3
        obtain rfl := Option.some.inj H
        go_wp2
        repeat (go_quiet (fail); try go_wp2)
        go_ret
        exact ⟨by first | rfl | (simp; done) | (simp [*]; done), by repeat (first | exact Drawn0.refl _ | apply Drawn0.step)⟩

end Go.Proofs.Ytjbjongahnocdaa.S

namespace Go.Proofs.Ytjbjongahnocdaa.S
open Go.Proofs.Ytjbjongahnocdaa.Lib
open Go.Proofs.Ytjbjongahnocdaa.Defs
open Go.Maps (Keyed)
open Go.RowKit Go.Proofs.YtjbjongahnocdaaW.PrintWords Go.Proofs.YtjbjongahnocdaaW.PrintLast Go.Proofs.YtjbjongahnocdaaW.PrintMore
attribute [local go_sem] max2_int min2_int max_two min_two max_three min_three max_four min_four   -- for this text's walks alone
set_option linter.unusedVariables false
set_option linter.unusedSimpArgs false

/-! ### tickingref02_ascending: function 60 -/
def tickingref02_ascending.l0 : Nat → List Int → Int → Option (Bool)
  | 0, _, _ => none
  | k + 1, x0, x3 => if x3 < (x0.length : Int) then (if 0 ≤ (wrap64 (x3 - 1)) then (if (wrap64 (x3 - 1)) < (x0.length : Int) then (if 0 ≤ x3 then (if (rd x0 (wrap64 (x3 - 1))) ≥ (rd x0 x3) then (some false) else (tickingref02_ascending.l0 k x0 (wrap64 (x3 + 1)))) else (none)) else (none)) else (none)) else (some true)
def tickingref02_ascending.f (k : Nat) (l0 : List Int) : Option (Bool) := tickingref02_ascending.l0 k l0 1
theorem tickingref02_ascending.mono_l : ∀ k, (∀ y0 y1, LeO (tickingref02_ascending.l0 k y0 y1) (tickingref02_ascending.l0 (k + 1) y0 y1))
  | 0 => fun _ _ r h => by simp [tickingref02_ascending.l0] at h
  | k + 1 => by
    have ih0 := tickingref02_ascending.mono_l k
    · intro y0 y1
      unfold tickingref02_ascending.l0
      repeat' first
      | (with_reducible exact ih0 _ _)
      | (with_reducible exact LeO.refl _)
      | (with_reducible exact LeO.none _)
      | (with_reducible refine LeO.ite ?_ ?_)
      | (with_reducible refine LeO.bind ?_ (fun _ => ?_))
      | exact ih0 _ _
      | exact LeO.none _
      | refine LeO.ite ?_ ?_
      | refine LeO.bind ?_ (fun _ => ?_)
theorem tickingref02_ascending.mono : ∀ a0 k, LeO (tickingref02_ascending.f k a0) (tickingref02_ascending.f (k + 1) a0) := by
  intro a0 k
  have ih0 := tickingref02_ascending.mono_l k
  unfold tickingref02_ascending.f
  repeat' first
      | (with_reducible exact ih0 _ _)
      | (with_reducible exact LeO.refl _)
      | (with_reducible exact LeO.none _)
      | (with_reducible refine LeO.ite ?_ ?_)
      | (with_reducible refine LeO.bind ?_ (fun _ => ?_))
      | exact ih0 _ _
      | exact LeO.none _
      | refine LeO.ite ?_ ?_
      | refine LeO.bind ?_ (fun _ => ?_)
set_option maxHeartbeats 8000000 in
set_option maxRecDepth 100000 in
theorem tickingref02_ascending.calls (k : Nat) (A0 : Option Addr) (c0 : Nat) (l0 : List Int) (r : Bool) (w : World) (hr0 : Kd.C (Kd.int .i64) w A0 l0.length l0) (hc0 : l0.length ≤ c0) (h : tickingref02_ascending.f k l0 = some r) :
    Calls Try.prog 60 #[.slice A0 l0.length c0] w fun e w' => e = .returned (.bool r) ∧ Drawn0 w w' := by
  have HR0 := Aside0.mk hr0
  have HC0 := Aside0.mk hc0
  clear hr0 hc0
  have H : (tickingref02_ascending.l0 k l0 1) = some r := h
  clear h
  have H' := Aside0.mk H
  clear H
  go_enter Try.func60, Try.ntmps60
  go_wp2
  repeat (go_quiet (fail); try go_wp2)
  go_loopg [3] k (fun kq v3 w' => ∃ (x3_1 : Int), v3 = .int .i64 x3_1 ∧ Aside0 (tickingref02_ascending.l0 kq l0 x3_1 = some r) ∧ Aside0 (kq ≤ k) ∧ Drawn0 w w')
  case atStart => exact ⟨(1), (by first | rfl | (simp; done) | (simp [*]; done)), H', ⟨Nat.le_refl _⟩, by repeat (first | exact Drawn0.refl _ | apply Drawn0.step)⟩
  case round =>
    clear H'
    obtain ⟨x3_1, rfl, HA, HK1, ⟨m1, rfl⟩⟩ := hrel
    cases gk with
    | zero => exact absurd HA.out (by simp [tickingref02_ascending.l0])
    | succ k1 =>
      have H := HA.out
      clear HA
      simp only [tickingref02_ascending.l0] at H
      by_cases c2 : x3_1 < (l0.length : Int)
      · rw [if_pos c2] at H
        have c2b0 : decide (x3_1 < (l0.length : Int)) = true := decide_eq_true c2
        clear c2
        obtain ⟨ji3, hji3⟩ : ∃ j_ : Int, (wrap64 (x3_1 - 1)) = j_ := ⟨_, rfl⟩
        replace H : (if 0 ≤ (ji3) then (if (ji3) < (l0.length : Int) then (if 0 ≤ x3_1 then (if (rd l0 (ji3)) ≥ (rd l0 x3_1) then (some false) else (tickingref02_ascending.l0 k1 l0 (wrap64 (x3_1 + 1)))) else (none)) else (none)) else (none)) = some r := by first | (rw [hji3] at H; exact H) | (simp only [hji3] at H ⊢; exact H)
        have hji3w : (IntKind.i64.wrap (x3_1 - 1)) = ji3 := (i64_w _).trans hji3
        by_cases c4 : 0 ≤ (ji3)
        · rw [if_pos c4] at H
          have c4b0 : decide (0 ≤ (ji3)) = true := decide_eq_true c4
          clear c4
          by_cases c5 : (ji3) < (l0.length : Int)
          · rw [if_pos c5] at H
            have c5b0 : decide ((ji3) < (l0.length : Int)) = true := decide_eq_true c5
            clear c5
            by_cases c6 : 0 ≤ x3_1
            · rw [if_pos c6] at H
              have c6b0 : decide (0 ≤ x3_1) = true := decide_eq_true c6
              clear c6
              by_cases c7 : (rd l0 (ji3)) ≥ (rd l0 x3_1)
              · rw [if_pos c7] at H
                have c7b0 : decide ((rd l0 x3_1) ≤ (rd l0 (ji3))) = true := decide_eq_true c7
                clear c7
                obtain rfl := Option.some.inj H
                have p194 : 0 ≤ ((ji3) : Int) := of_decide_eq_true (by first | (with_reducible assumption) | assumption)
                have q194 : (ji3) < (l0.length : Int) := of_decide_eq_true (by first | (with_reducible assumption) | assumption)
                obtain ⟨ad194, e194, hx194_0⟩ := Kd.at_int HR0.out (ji3) p194 q194
                cases e194
                replace p194 := eq_true p194
                replace q194 := eq_true q194
                have p195 : 0 ≤ (x3_1 : Int) := of_decide_eq_true (by first | (with_reducible assumption) | assumption)
                have q195 : x3_1 < (l0.length : Int) := of_decide_eq_true (by first | (with_reducible assumption) | assumption)
                obtain ⟨ad195, e195, hx195_0⟩ := Kd.at_int HR0.out x3_1 p195 q195
                obtain rfl : ad194 = ad195 := (by injection e195)
                replace p195 := eq_true p195
                replace q195 := eq_true q195
                go_wp2
                repeat (go_quiet (fail); try go_wp2)
                go_ret
                exact ⟨by first | rfl | (simp; done) | (simp only [← hji3] <;> (first | rfl | simp)) | (simp [*]; done), by repeat (first | exact Drawn0.refl _ | apply Drawn0.step)⟩
              · rw [if_neg c7] at H
                have c7b0 : decide ((rd l0 x3_1) ≤ (rd l0 (ji3))) = false := decide_eq_false c7
                clear c7
                have H' := Aside0.mk H
                clear H
                have p194 : 0 ≤ ((ji3) : Int) := of_decide_eq_true (by first | (with_reducible assumption) | assumption)
                have q194 : (ji3) < (l0.length : Int) := of_decide_eq_true (by first | (with_reducible assumption) | assumption)
                obtain ⟨ad194, e194, hx194_0⟩ := Kd.at_int HR0.out (ji3) p194 q194
                cases e194
                replace p194 := eq_true p194
                replace q194 := eq_true q194
                have p195 : 0 ≤ (x3_1 : Int) := of_decide_eq_true (by first | (with_reducible assumption) | assumption)
                have q195 : x3_1 < (l0.length : Int) := of_decide_eq_true (by first | (with_reducible assumption) | assumption)
                obtain ⟨ad195, e195, hx195_0⟩ := Kd.at_int HR0.out x3_1 p195 q195
                obtain rfl : ad194 = ad195 := (by injection e195)
                replace p195 := eq_true p195
                replace q195 := eq_true q195
                go_wp2
                repeat (go_quiet (fail); try go_wp2)
                go_roundg k1
                case measure => have := HK1.out; omega
                case rel => exact ⟨(wrap64 (x3_1 + 1)), (by first | rfl | (simp; done) | (simp [*]; done)), H', ⟨by have := HK1.out; omega⟩, by repeat (first | exact Drawn0.refl _ | apply Drawn0.step)⟩
            · rw [if_neg c6] at H
              exact absurd H (by simp)
          · rw [if_neg c5] at H
            exact absurd H (by simp)
        · rw [if_neg c4] at H
          exact absurd H (by simp)
      · rw [if_neg c2] at H
        have c2b0 : decide (x3_1 < (l0.length : Int)) = false := decide_eq_false c2
        clear c2
        obtain rfl := Option.some.inj H
        go_wp2
        repeat (go_quiet (fail); try go_wp2)
        go_ret
        exact ⟨by first | rfl | (simp; done) | (simp [*]; done), by repeat (first | exact Drawn0.refl _ | apply Drawn0.step)⟩

end Go.Proofs.Ytjbjongahnocdaa.S

namespace Go.Proofs.Ytjbjongahnocdaa.S
open Go.Proofs.Ytjbjongahnocdaa.Lib
open Go.Proofs.Ytjbjongahnocdaa.Defs
open Go.Maps (Keyed)
open Go.RowKit Go.Proofs.YtjbjongahnocdaaW.PrintWords Go.Proofs.YtjbjongahnocdaaW.PrintLast Go.Proofs.YtjbjongahnocdaaW.PrintMore
attribute [local go_sem] max2_int min2_int max_two min_two max_three min_three max_four min_four   -- for this text's walks alone
set_option linter.unusedVariables false
set_option linter.unusedSimpArgs false

/-! ### tickingref02_Pass: function 24 -/
mutual
def tickingref02_Pass.l0 : Nat → List Int → List Int → List Int → Int → Option (List Int)
  | 0, _, _, _, _ => none
  | k + 1, x0, x3, x4, x5 => if x5 < (x0.length : Int) then (tickingref02_Pass.l1 k x0 x3 x4 x5) else (tickingref02_Pass.l2 k x3 x4 (wrap64 ((x4.length : Int) - 1)))
def tickingref02_Pass.l1 : Nat → List Int → List Int → List Int → Int → Option (List Int)
  | 0, _, _, _, _ => none
  | k + 1, x0, x3, x4, x5 => if (x4.length : Int) > 0 then (if 0 ≤ (wrap64 ((x4.length : Int) - 1)) then (if (wrap64 ((x4.length : Int) - 1)) < (x4.length : Int) then (if 0 ≤ x5 then (if x5 < (x0.length : Int) then (if (rd x4 (wrap64 ((x4.length : Int) - 1))) < (rd x0 x5) then (if x3.length < 17592186044416 then (if (wrap64 ((x4.length : Int) - 1)) ≤ (x4.length : Int) then (tickingref02_Pass.l1 k x0 (x3 ++ [rd x4 (wrap64 ((x4.length : Int) - 1))]) (x4.take ((wrap64 ((x4.length : Int) - 1)) : Int).toNat) x5) else (none)) else (none)) else (if x4.length < 17592186044416 then (tickingref02_Pass.l0 k x0 x3 (x4 ++ [rd x0 x5]) (wrap64 (x5 + 1))) else (none))) else (none)) else (none)) else (none)) else (none)) else (if 0 ≤ x5 then (if x5 < (x0.length : Int) then (if x4.length < 17592186044416 then (tickingref02_Pass.l0 k x0 x3 (x4 ++ [rd x0 x5]) (wrap64 (x5 + 1))) else (none)) else (none)) else (none))
def tickingref02_Pass.l2 : Nat → List Int → List Int → Int → Option (List Int)
  | 0, _, _, _ => none
  | k + 1, x3, x4, x6 => if x6 ≥ 0 then (if 0 ≤ x6 then (if x6 < (x4.length : Int) then (if x3.length < 17592186044416 then (tickingref02_Pass.l2 k (x3 ++ [rd x4 x6]) x4 (wrap64 (x6 - 1))) else (none)) else (none)) else (none)) else (some x3)
end
def tickingref02_Pass.f (k : Nat) (l0 : List Int) : Option (List Int) := tickingref02_Pass.l0 k l0 ([] : List Int) ([] : List Int) 0
theorem tickingref02_Pass.mono_l : ∀ k, (∀ y0 y1 y2 y3, LeO (tickingref02_Pass.l0 k y0 y1 y2 y3) (tickingref02_Pass.l0 (k + 1) y0 y1 y2 y3)) ∧ (∀ y0 y1 y2 y3, LeO (tickingref02_Pass.l1 k y0 y1 y2 y3) (tickingref02_Pass.l1 (k + 1) y0 y1 y2 y3)) ∧ (∀ y0 y1 y2, LeO (tickingref02_Pass.l2 k y0 y1 y2) (tickingref02_Pass.l2 (k + 1) y0 y1 y2))
  | 0 => ⟨fun _ _ _ _ r h => by simp [tickingref02_Pass.l0] at h, fun _ _ _ _ r h => by simp [tickingref02_Pass.l1] at h, fun _ _ _ r h => by simp [tickingref02_Pass.l2] at h⟩
  | k + 1 => by
    obtain ⟨ih0, ih1, ih2⟩ := tickingref02_Pass.mono_l k
    refine ⟨?_, ?_, ?_⟩
    · intro y0 y1 y2 y3
      unfold tickingref02_Pass.l0
      repeat' first
      | (with_reducible exact ih0 _ _ _ _)
      | (with_reducible exact ih1 _ _ _ _)
      | (with_reducible exact ih2 _ _ _)
      | (with_reducible exact LeO.refl _)
      | (with_reducible exact LeO.none _)
      | (with_reducible refine LeO.ite ?_ ?_)
      | (with_reducible refine LeO.bind ?_ (fun _ => ?_))
      | exact ih0 _ _ _ _
      | exact ih1 _ _ _ _
      | exact ih2 _ _ _
      | exact LeO.none _
      | refine LeO.ite ?_ ?_
      | refine LeO.bind ?_ (fun _ => ?_)
    · intro y0 y1 y2 y3
      unfold tickingref02_Pass.l1
      repeat' first
      | (with_reducible exact ih0 _ _ _ _)
      | (with_reducible exact ih1 _ _ _ _)
      | (with_reducible exact ih2 _ _ _)
      | (with_reducible exact LeO.refl _)
      | (with_reducible exact LeO.none _)
      | (with_reducible refine LeO.ite ?_ ?_)
      | (with_reducible refine LeO.bind ?_ (fun _ => ?_))
      | exact ih0 _ _ _ _
      | exact ih1 _ _ _ _
      | exact ih2 _ _ _
      | exact LeO.none _
      | refine LeO.ite ?_ ?_
      | refine LeO.bind ?_ (fun _ => ?_)
    · intro y0 y1 y2
      unfold tickingref02_Pass.l2
      repeat' first
      | (with_reducible exact ih0 _ _ _ _)
      | (with_reducible exact ih1 _ _ _ _)
      | (with_reducible exact ih2 _ _ _)
      | (with_reducible exact LeO.refl _)
      | (with_reducible exact LeO.none _)
      | (with_reducible refine LeO.ite ?_ ?_)
      | (with_reducible refine LeO.bind ?_ (fun _ => ?_))
      | exact ih0 _ _ _ _
      | exact ih1 _ _ _ _
      | exact ih2 _ _ _
      | exact LeO.none _
      | refine LeO.ite ?_ ?_
      | refine LeO.bind ?_ (fun _ => ?_)
theorem tickingref02_Pass.mono : ∀ a0 k, LeO (tickingref02_Pass.f k a0) (tickingref02_Pass.f (k + 1) a0) := by
  intro a0 k
  obtain ⟨ih0, ih1, ih2⟩ := tickingref02_Pass.mono_l k
  unfold tickingref02_Pass.f
  repeat' first
      | (with_reducible exact ih0 _ _ _ _)
      | (with_reducible exact ih1 _ _ _ _)
      | (with_reducible exact ih2 _ _ _)
      | (with_reducible exact LeO.refl _)
      | (with_reducible exact LeO.none _)
      | (with_reducible refine LeO.ite ?_ ?_)
      | (with_reducible refine LeO.bind ?_ (fun _ => ?_))
      | exact ih0 _ _ _ _
      | exact ih1 _ _ _ _
      | exact ih2 _ _ _
      | exact LeO.none _
      | refine LeO.ite ?_ ?_
      | refine LeO.bind ?_ (fun _ => ?_)
set_option maxHeartbeats 8000000 in
set_option maxRecDepth 100000 in
theorem tickingref02_Pass.calls (k : Nat) (A0 : Option Addr) (c0 : Nat) (l0 : List Int) (r : List Int) (w : World) (hr0 : Kd.C (Kd.int .i64) w A0 l0.length l0) (hc0 : l0.length ≤ c0) (h : tickingref02_Pass.f k l0 = some r) :
    Calls Try.prog 24 #[.slice A0 l0.length c0] w fun e w' => ∃ v0_ : Value, e = .returned (v0_) ∧ Kd.R (Kd.int .i64) 3 w' w.heap.size (fun _ => True) v0_ r ∧ Below w.heap.size w w' := by
  have HR0 := Aside0.mk hr0
  have HC0 := Aside0.mk hc0
  clear hr0 hc0
  have HB := Aside0.mk (Below.refl w.heap.size w)
  have H : (tickingref02_Pass.l0 k l0 ([] : List Int) ([] : List Int) 0) = some r := h
  clear h
  have H' := Aside0.mk H
  clear H
  go_enter Try.func24, Try.ntmps24
  go_wp2
  repeat (go_quiet (fail); try go_wp2)
  go_loopg [3, 4, 5] k (fun kq v3 v4 v5 w' => ∃ (x3_1 : List Int) (x4_1 : List Int) (x5_1 : Int), v5 = .int .i64 x5_1 ∧ Aside0 (tickingref02_Pass.l0 kq l0 x3_1 x4_1 x5_1 = some r) ∧ Aside0 (kq ≤ k) ∧ Aside0 (Kd.R (Kd.int .i64) 3 w' w.heap.size (fun k_ => some k_ ≠ (v4 : Value).ownBlock) v3 x3_1) ∧ Aside0 (Kd.R (Kd.int .i64) 3 w' w.heap.size (fun k_ => some k_ ≠ (v3 : Value).ownBlock) v4 x4_1) ∧ Aside0 (Below w.heap.size w w'))
  case atStart => exact ⟨(([] : List Int)), (([] : List Int)), (0), (by first | rfl | (simp; done) | (simp [*]; done)), H', ⟨Nat.le_refl _⟩, ⟨by first | exact Kd.R_nil _ _ _ _ _ | exact Kd.N_nil _ _ _ _ _ | exact Kd.V_nil _ _ _ _ _ | exact Kd.Q_nil _ _ _ _ _ | exact Kd.S_nil _ _ _ _ _⟩, ⟨by first | exact Kd.R_nil _ _ _ _ _ | exact Kd.N_nil _ _ _ _ _ | exact Kd.V_nil _ _ _ _ _ | exact Kd.Q_nil _ _ _ _ _ | exact Kd.S_nil _ _ _ _ _⟩, ⟨by repeat (first | (with_reducible first | exact HB.out | apply below_alloc | apply pw_below_drewN | apply below_drew1) | exact HB.out)⟩⟩
  case round =>
    clear H'
    obtain ⟨x3_1, x4_1, x5_1, rfl, HA, HK1, HO_3, HO_4, HB⟩ := hrel
    cases gk with
    | zero => exact absurd HA.out (by simp [tickingref02_Pass.l0])
    | succ k1 =>
      have H := HA.out
      clear HA
      simp only [tickingref02_Pass.l0] at H
      by_cases c2 : x5_1 < (l0.length : Int)
      · rw [if_pos c2] at H
        have c2b0 : decide (x5_1 < (l0.length : Int)) = true := decide_eq_true c2
        clear c2
        have H' := Aside0.mk H
        clear H
        go_wp2
        repeat (go_quiet (fail); try go_wp2)
        go_loopg [3, 4] k1 (fun kq v3 v4 w' => ∃ (x3_2 : List Int) (x4_2 : List Int), Aside0 (tickingref02_Pass.l1 kq l0 x3_2 x4_2 x5_1 = some r) ∧ Aside0 (kq ≤ k1) ∧ Aside0 (Kd.R (Kd.int .i64) 3 w' w.heap.size (fun k_ => some k_ ≠ (v4 : Value).ownBlock) v3 x3_2) ∧ Aside0 (Kd.R (Kd.int .i64) 3 w' w.heap.size (fun k_ => some k_ ≠ (v3 : Value).ownBlock) v4 x4_2) ∧ Aside0 (Below w.heap.size w w'))
        case atStart => exact ⟨(x3_1), (x4_1), H', ⟨Nat.le_refl _⟩, ⟨by (with_reducible repeat (first | apply Kd.R_alloc | apply Kd.R_drewN | apply Kd.R_drew)); exact HO_3.out⟩, ⟨by (with_reducible repeat (first | apply Kd.R_alloc | apply Kd.R_drewN | apply Kd.R_drew)); exact HO_4.out⟩, ⟨by repeat (first | (with_reducible first | exact HB.out | apply below_alloc | apply pw_below_drewN | apply below_drew1) | exact HB.out)⟩⟩
        case round =>
          clear H'
          try clear c2
          try clear c2b0
          try clear p2
          obtain ⟨x3_2, x4_2, HA, HK2, HO_3, HO_4, HB⟩ := hrel
          cases gk with
          | zero => exact absurd HA.out (by simp [tickingref02_Pass.l1])
          | succ k2 =>
            have H := HA.out
            clear HA
            simp only [tickingref02_Pass.l1] at H
            by_cases c3 : (x4_2.length : Int) > 0
            · rw [if_pos c3] at H
              have c3b0 : decide (0 < (x4_2.length : Int)) = true := decide_eq_true c3
              have c3b1 : decide (0 < x4_2.length) = true := decide_eq_true (by omega)
              clear c3
              obtain ⟨ji4, hji4⟩ : ∃ j_ : Int, (wrap64 ((x4_2.length : Int) - 1)) = j_ := ⟨_, rfl⟩
              replace H : (if 0 ≤ (ji4) then (if (ji4) < (x4_2.length : Int) then (if 0 ≤ x5_1 then (if x5_1 < (l0.length : Int) then (if (rd x4_2 (ji4)) < (rd l0 x5_1) then (if x3_2.length < 17592186044416 then (if (ji4) ≤ (x4_2.length : Int) then (tickingref02_Pass.l1 k2 l0 (x3_2 ++ [rd x4_2 (ji4)]) (x4_2.take ((ji4) : Int).toNat) x5_1) else (none)) else (none)) else (if x4_2.length < 17592186044416 then (tickingref02_Pass.l0 k2 l0 x3_2 (x4_2 ++ [rd l0 x5_1]) (wrap64 (x5_1 + 1))) else (none))) else (none)) else (none)) else (none)) else (none)) = some r := by first | (rw [hji4] at H; exact H) | (simp only [hji4] at H ⊢; exact H)
              have hji4w : (IntKind.i64.wrap ((x4_2.length : Int) - 1)) = ji4 := (i64_w _).trans hji4
              by_cases c5 : 0 ≤ (ji4)
              · rw [if_pos c5] at H
                have c5b0 : decide (0 ≤ (ji4)) = true := decide_eq_true c5
                clear c5
                by_cases c6 : (ji4) < (x4_2.length : Int)
                · rw [if_pos c6] at H
                  have c6b0 : decide ((ji4) < (x4_2.length : Int)) = true := decide_eq_true c6
                  clear c6
                  by_cases c7 : 0 ≤ x5_1
                  · rw [if_pos c7] at H
                    have c7b0 : decide (0 ≤ x5_1) = true := decide_eq_true c7
                    clear c7
                    by_cases c8 : x5_1 < (l0.length : Int)
                    · rw [if_pos c8] at H
                      have c8b0 : decide (x5_1 < (l0.length : Int)) = true := decide_eq_true c8
                      clear c8
                      by_cases c9 : (rd x4_2 (ji4)) < (rd l0 x5_1)
                      · rw [if_pos c9] at H
                        have c9b0 : decide ((rd x4_2 (ji4)) < (rd l0 x5_1)) = true := decide_eq_true c9
                        clear c9
                        by_cases c10 : x3_2.length < 17592186044416
                        · rw [if_pos c10] at H
                          have LMc10 := Aside0.mk c10
                          clear c10
                          obtain ⟨y176, hy176⟩ : ∃ y_ : List Int, y_ = (x3_2 ++ [rd x4_2 (ji4)]) := ⟨_, rfl⟩
                          replace H : (if (ji4) ≤ (x4_2.length : Int) then (tickingref02_Pass.l1 k2 l0 y176 (x4_2.take ((ji4) : Int).toNat) x5_1) else (none)) = some r := by first | (rw [hy176]; with_reducible exact H) | (have H2_ := (Option.bind_some _ _).symm.trans H; rw [hy176]; with_reducible exact H2_) | (have H2_ := (Option.bind_some _ _).symm.trans H; with_reducible exact H2_) | with_reducible exact H | (rw [hy176]; exact H) | exact H
                          have Ny176 := Aside0.mk hy176
                          clear hy176
                          by_cases c11 : (ji4) ≤ (x4_2.length : Int)
                          · rw [if_pos c11] at H
                            have c11b0 := eq_true c11
                            have c11b1 : decide ((ji4) ≤ (x4_2.length : Int)) = true := decide_eq_true c11
                            clear c11
                            obtain ⟨y179, hy179⟩ : ∃ y_ : List Int, y_ = (x4_2.take ((ji4) : Int).toNat) := ⟨_, rfl⟩
                            replace H : (tickingref02_Pass.l1 k2 l0 y176 y179 x5_1) = some r := by first | (rw [hy179]; with_reducible exact H) | (have H2_ := (Option.bind_some _ _).symm.trans H; rw [hy179]; with_reducible exact H2_) | (have H2_ := (Option.bind_some _ _).symm.trans H; with_reducible exact H2_) | with_reducible exact H | (rw [hy179]; exact H) | exact H
                            have Ny179 := Aside0.mk hy179
                            clear hy179
                            have H' := Aside0.mk H
                            clear H
                            obtain ⟨Ao12, co12, eo12⟩ := Kd.R_slice HO_4.out
                            subst eo12
                            have p173 : 0 ≤ ((ji4) : Int) := of_decide_eq_true (by first | (with_reducible assumption) | assumption)
                            have q173 : (ji4) < (x4_2.length : Int) := of_decide_eq_true (by first | (with_reducible assumption) | assumption)
                            obtain ⟨ad173, e173, hx173_0⟩ := Kd.at_int (Kd.R_reads' HO_4.out).2.2 (ji4) p173 q173
                            cases e173
                            replace p173 := eq_true p173
                            replace q173 := eq_true q173
                            have p174 : 0 ≤ (x5_1 : Int) := of_decide_eq_true (by first | (with_reducible assumption) | assumption)
                            have q174 : x5_1 < (l0.length : Int) := of_decide_eq_true (by first | (with_reducible assumption) | assumption)
                            obtain ⟨ad174, e174, hx174_0⟩ := Kd.at_int HR0.out x5_1 p174 q174
                            cases e174
                            replace hx174_0 := (HB.out.cell (World.block_lt_of_cell? w _ hx174_0)).trans hx174_0
                            replace p174 := eq_true p174
                            replace q174 := eq_true q174
                            have p175 : 0 ≤ ((ji4) : Int) := of_decide_eq_true (by first | (with_reducible assumption) | assumption)
                            have q175 : (ji4) < (x4_2.length : Int) := of_decide_eq_true (by first | (with_reducible assumption) | assumption)
                            obtain ⟨ad175, e175, hx175_0⟩ := Kd.at_int (Kd.R_reads' HO_4.out).2.2 (ji4) p175 q175
                            obtain rfl : ad173 = ad175 := (by injection e175)
                            replace p175 := eq_true p175
                            replace q175 := eq_true q175
                            go_wp2_with (first | ((with_reducible refine gate_builtin (b := .append) (xs := #[.tmp 29, .tmp 36]) rfl ?_); (try (refine gate_guard (by rfl) ?_; dsimp only)); at_builtin; refine Kd.R_append (Kd.int .i64) (w0 := w) w.heap.size rfl (.tmp 29) (.tmp 36) 22 3 (.int .i64 0) 8 rfl Try.underlying22 info3 rfl (by decide) (by omega) u3 x3_2 (rd x4_2 (ji4)) [.int .i64 (rd x4_2 (ji4))] (fun k_ => some k_ ≠ (.slice (some ad173) x4_2.length co12 : Value).ownBlock) (fun _ => False) rfl rfl ?aP (fun _ hk => hk.elim) ?aF ?aO ?aB ?aS ?aL ?_; (case aP => exact rfl); (case aB => exact (by repeat (first | (with_reducible first | exact HB.out | apply below_alloc | apply pw_below_drewN | apply below_drew1) | exact HB.out))); (case aF => exact (fun k_ hk => Kd.fresh' (Kd.R_lt (by (with_reducible repeat (first | apply Kd.R_alloc | apply Kd.R_drewN | apply Kd.R_drew)); exact HO_4.out)) k_ hk)); (case aO => exact (by (with_reducible repeat (first | apply Kd.R_alloc | apply Kd.R_drewN | apply Kd.R_drew)); exact HO_3.out)); (case aS => exact (below_size (by repeat (first | (with_reducible first | exact HB.out | apply below_alloc | apply pw_below_drewN | apply below_drew1) | exact HB.out)))); (case aL => have := LMc10.out; omega); intro v177 w13 ho hb hg hat; rw [← Ny176.out] at ho; have n0_ := Aside0.mk (Kd.R_after (ok := (fun _ => True)) (by (with_reducible repeat (first | apply Kd.R_alloc | apply Kd.R_drewN | apply Kd.R_drew)); exact Kd.R_mono HO_4.out (fun _ hk => ⟨trivial, hk⟩)) hg hat); have n1_ := Aside0.mk (hb); have n2_ := Aside0.mk (ho); clear HO_4; clear HB; clear HO_3; have HO_4 := n0_; have HB := n1_; have HO178 := n2_; clear n0_ n1_ n2_; clear ho hb hg hat; have q14 : ((ji4) : Int) ≤ ((x4_2.length : Int) : Int) := of_decide_eq_true (by first | (with_reducible assumption) | assumption); obtain ⟨i014, hi014, _, hsz14, _⟩ := info_parts info3; have hcut14 := cut_to (P := Try.prog) 22 3 .i64 Try.underlying22 hi014 (some ad173) x4_2.length co12 (ji4) (of_decide_eq_true (by first | (with_reducible assumption) | assumption)) q14 (Kd.R_reads' HO_4.out).2.1; have hr14 := Kd.R_take (m := ((ji4) : Int).toNat) HO_4.out (by omega); have hy14 : y179.length = ((ji4) : Int).toNat := (by rw [Ny179.out, List.length_take]; omega); rw [← Ny179.out] at hr14; rw [← hy14] at hr14 hcut14; clear hy14 hi014 hsz14 HO_4; have HO181 := Aside0.mk hr14; clear hr14; replace q14 := eq_true q14))
                            repeat (go_quiet (first | ((with_reducible refine gate_builtin (b := .append) (xs := #[.tmp 29, .tmp 36]) rfl ?_); (try (refine gate_guard (by rfl) ?_; dsimp only)); at_builtin; refine Kd.R_append (Kd.int .i64) (w0 := w) w.heap.size rfl (.tmp 29) (.tmp 36) 22 3 (.int .i64 0) 8 rfl Try.underlying22 info3 rfl (by decide) (by omega) u3 x3_2 (rd x4_2 (ji4)) [.int .i64 (rd x4_2 (ji4))] (fun k_ => some k_ ≠ (.slice (some ad173) x4_2.length co12 : Value).ownBlock) (fun _ => False) rfl rfl ?aP (fun _ hk => hk.elim) ?aF ?aO ?aB ?aS ?aL ?_; (case aP => exact rfl); (case aB => exact (by repeat (first | (with_reducible first | exact HB.out | apply below_alloc | apply pw_below_drewN | apply below_drew1) | exact HB.out))); (case aF => exact (fun k_ hk => Kd.fresh' (Kd.R_lt (by (with_reducible repeat (first | apply Kd.R_alloc | apply Kd.R_drewN | apply Kd.R_drew)); exact HO_4.out)) k_ hk)); (case aO => exact (by (with_reducible repeat (first | apply Kd.R_alloc | apply Kd.R_drewN | apply Kd.R_drew)); exact HO_3.out)); (case aS => exact (below_size (by repeat (first | (with_reducible first | exact HB.out | apply below_alloc | apply pw_below_drewN | apply below_drew1) | exact HB.out)))); (case aL => have := LMc10.out; omega); intro v177 w13 ho hb hg hat; rw [← Ny176.out] at ho; have n0_ := Aside0.mk (Kd.R_after (ok := (fun _ => True)) (by (with_reducible repeat (first | apply Kd.R_alloc | apply Kd.R_drewN | apply Kd.R_drew)); exact Kd.R_mono HO_4.out (fun _ hk => ⟨trivial, hk⟩)) hg hat); have n1_ := Aside0.mk (hb); have n2_ := Aside0.mk (ho); clear HO_4; clear HB; clear HO_3; have HO_4 := n0_; have HB := n1_; have HO178 := n2_; clear n0_ n1_ n2_; clear ho hb hg hat; have q14 : ((ji4) : Int) ≤ ((x4_2.length : Int) : Int) := of_decide_eq_true (by first | (with_reducible assumption) | assumption); obtain ⟨i014, hi014, _, hsz14, _⟩ := info_parts info3; have hcut14 := cut_to (P := Try.prog) 22 3 .i64 Try.underlying22 hi014 (some ad173) x4_2.length co12 (ji4) (of_decide_eq_true (by first | (with_reducible assumption) | assumption)) q14 (Kd.R_reads' HO_4.out).2.1; have hr14 := Kd.R_take (m := ((ji4) : Int).toNat) HO_4.out (by omega); have hy14 : y179.length = ((ji4) : Int).toNat := (by rw [Ny179.out, List.length_take]; omega); rw [← Ny179.out] at hr14; rw [← hy14] at hr14 hcut14; clear hy14 hi014 hsz14 HO_4; have HO181 := Aside0.mk hr14; clear hr14; replace q14 := eq_true q14)); try go_wp2_with (first | ((with_reducible refine gate_builtin (b := .append) (xs := #[.tmp 29, .tmp 36]) rfl ?_); (try (refine gate_guard (by rfl) ?_; dsimp only)); at_builtin; refine Kd.R_append (Kd.int .i64) (w0 := w) w.heap.size rfl (.tmp 29) (.tmp 36) 22 3 (.int .i64 0) 8 rfl Try.underlying22 info3 rfl (by decide) (by omega) u3 x3_2 (rd x4_2 (ji4)) [.int .i64 (rd x4_2 (ji4))] (fun k_ => some k_ ≠ (.slice (some ad173) x4_2.length co12 : Value).ownBlock) (fun _ => False) rfl rfl ?aP (fun _ hk => hk.elim) ?aF ?aO ?aB ?aS ?aL ?_; (case aP => exact rfl); (case aB => exact (by repeat (first | (with_reducible first | exact HB.out | apply below_alloc | apply pw_below_drewN | apply below_drew1) | exact HB.out))); (case aF => exact (fun k_ hk => Kd.fresh' (Kd.R_lt (by (with_reducible repeat (first | apply Kd.R_alloc | apply Kd.R_drewN | apply Kd.R_drew)); exact HO_4.out)) k_ hk)); (case aO => exact (by (with_reducible repeat (first | apply Kd.R_alloc | apply Kd.R_drewN | apply Kd.R_drew)); exact HO_3.out)); (case aS => exact (below_size (by repeat (first | (with_reducible first | exact HB.out | apply below_alloc | apply pw_below_drewN | apply below_drew1) | exact HB.out)))); (case aL => have := LMc10.out; omega); intro v177 w13 ho hb hg hat; rw [← Ny176.out] at ho; have n0_ := Aside0.mk (Kd.R_after (ok := (fun _ => True)) (by (with_reducible repeat (first | apply Kd.R_alloc | apply Kd.R_drewN | apply Kd.R_drew)); exact Kd.R_mono HO_4.out (fun _ hk => ⟨trivial, hk⟩)) hg hat); have n1_ := Aside0.mk (hb); have n2_ := Aside0.mk (ho); clear HO_4; clear HB; clear HO_3; have HO_4 := n0_; have HB := n1_; have HO178 := n2_; clear n0_ n1_ n2_; clear ho hb hg hat; have q14 : ((ji4) : Int) ≤ ((x4_2.length : Int) : Int) := of_decide_eq_true (by first | (with_reducible assumption) | assumption); obtain ⟨i014, hi014, _, hsz14, _⟩ := info_parts info3; have hcut14 := cut_to (P := Try.prog) 22 3 .i64 Try.underlying22 hi014 (some ad173) x4_2.length co12 (ji4) (of_decide_eq_true (by first | (with_reducible assumption) | assumption)) q14 (Kd.R_reads' HO_4.out).2.1; have hr14 := Kd.R_take (m := ((ji4) : Int).toNat) HO_4.out (by omega); have hy14 : y179.length = ((ji4) : Int).toNat := (by rw [Ny179.out, List.length_take]; omega); rw [← Ny179.out] at hr14; rw [← hy14] at hr14 hcut14; clear hy14 hi014 hsz14 HO_4; have HO181 := Aside0.mk hr14; clear hr14; replace q14 := eq_true q14)))
                            go_roundg k2
                            case measure => have := HK1.out; have := HK2.out; omega
                            case rel => exact ⟨(y176), (y179), H', ⟨by have := HK1.out; have := HK2.out; omega⟩, ⟨by (with_reducible repeat (first | apply Kd.R_alloc | apply Kd.R_drewN | apply Kd.R_drew)); exact HO178.out⟩, ⟨by (with_reducible repeat (first | apply Kd.R_alloc | apply Kd.R_drewN | apply Kd.R_drew)); exact Kd.R_mono HO181.out (fun _ hk => hk.2)⟩, ⟨by repeat (first | (with_reducible first | exact HB.out | apply below_alloc | apply pw_below_drewN | apply below_drew1) | exact HB.out)⟩⟩
                          · rw [if_neg c11] at H
                            exact absurd H (by simp)
                        · rw [if_neg c10] at H
                          exact absurd H (by simp)
                      · rw [if_neg c9] at H
                        have c9b0 : decide ((rd x4_2 (ji4)) < (rd l0 x5_1)) = false := decide_eq_false c9
                        clear c9
                        by_cases c15 : x4_2.length < 17592186044416
                        · rw [if_pos c15] at H
                          have LMc15 := Aside0.mk c15
                          clear c15
                          obtain ⟨y183, hy183⟩ : ∃ y_ : List Int, y_ = (x4_2 ++ [rd l0 x5_1]) := ⟨_, rfl⟩
                          replace H : (tickingref02_Pass.l0 k2 l0 x3_2 y183 (wrap64 (x5_1 + 1))) = some r := by first | (rw [hy183]; with_reducible exact H) | (have H2_ := (Option.bind_some _ _).symm.trans H; rw [hy183]; with_reducible exact H2_) | (have H2_ := (Option.bind_some _ _).symm.trans H; with_reducible exact H2_) | with_reducible exact H | (rw [hy183]; exact H) | exact H
                          have Ny183 := Aside0.mk hy183
                          clear hy183
                          have H' := Aside0.mk H
                          clear H
                          obtain ⟨Ao16, co16, eo16⟩ := Kd.R_slice HO_4.out
                          subst eo16
                          have p173 : 0 ≤ ((ji4) : Int) := of_decide_eq_true (by first | (with_reducible assumption) | assumption)
                          have q173 : (ji4) < (x4_2.length : Int) := of_decide_eq_true (by first | (with_reducible assumption) | assumption)
                          obtain ⟨ad173, e173, hx173_0⟩ := Kd.at_int (Kd.R_reads' HO_4.out).2.2 (ji4) p173 q173
                          cases e173
                          replace p173 := eq_true p173
                          replace q173 := eq_true q173
                          have p174 : 0 ≤ (x5_1 : Int) := of_decide_eq_true (by first | (with_reducible assumption) | assumption)
                          have q174 : x5_1 < (l0.length : Int) := of_decide_eq_true (by first | (with_reducible assumption) | assumption)
                          obtain ⟨ad174, e174, hx174_0⟩ := Kd.at_int HR0.out x5_1 p174 q174
                          cases e174
                          replace hx174_0 := (HB.out.cell (World.block_lt_of_cell? w _ hx174_0)).trans hx174_0
                          replace p174 := eq_true p174
                          replace q174 := eq_true q174
                          have p182 : 0 ≤ (x5_1 : Int) := of_decide_eq_true (by first | (with_reducible assumption) | assumption)
                          have q182 : x5_1 < (l0.length : Int) := of_decide_eq_true (by first | (with_reducible assumption) | assumption)
                          obtain ⟨ad182, e182, hx182_0⟩ := Kd.at_int HR0.out x5_1 p182 q182
                          obtain rfl : ad174 = ad182 := (by injection e182)
                          replace hx182_0 := (HB.out.cell (World.block_lt_of_cell? w _ hx182_0)).trans hx182_0
                          replace p182 := eq_true p182
                          replace q182 := eq_true q182
                          go_wp2_with (first | ((with_reducible refine gate_builtin (b := .append) (xs := #[.tmp 43, .tmp 48]) rfl ?_); (try (refine gate_guard (by rfl) ?_; dsimp only)); at_builtin; refine Kd.R_append (Kd.int .i64) (w0 := w) w.heap.size rfl (.tmp 43) (.tmp 48) 22 3 (.int .i64 0) 8 rfl Try.underlying22 info3 rfl (by decide) (by omega) (.slice (some ad173) x4_2.length co16) x4_2 (rd l0 x5_1) [.int .i64 (rd l0 x5_1)] (fun k_ => some k_ ≠ (u3 : Value).ownBlock) (fun _ => False) rfl rfl ?aP (fun _ hk => hk.elim) ?aF ?aO ?aB ?aS ?aL ?_; (case aP => exact rfl); (case aB => exact (by repeat (first | (with_reducible first | exact HB.out | apply below_alloc | apply pw_below_drewN | apply below_drew1) | exact HB.out))); (case aF => exact (fun k_ hk => Kd.fresh' (Kd.R_lt (by (with_reducible repeat (first | apply Kd.R_alloc | apply Kd.R_drewN | apply Kd.R_drew)); exact HO_3.out)) k_ hk)); (case aO => exact (by (with_reducible repeat (first | apply Kd.R_alloc | apply Kd.R_drewN | apply Kd.R_drew)); exact HO_4.out)); (case aS => exact (below_size (by repeat (first | (with_reducible first | exact HB.out | apply below_alloc | apply pw_below_drewN | apply below_drew1) | exact HB.out)))); (case aL => have := LMc15.out; omega); intro v184 w17 ho hb hg hat; rw [← Ny183.out] at ho; have n0_ := Aside0.mk (Kd.R_after (ok := (fun _ => True)) (by (with_reducible repeat (first | apply Kd.R_alloc | apply Kd.R_drewN | apply Kd.R_drew)); exact Kd.R_mono HO_3.out (fun _ hk => ⟨trivial, hk⟩)) hg hat); have n1_ := Aside0.mk (hb); have n2_ := Aside0.mk (ho); clear HO_3; clear HB; clear HO_4; have HO_3 := n0_; have HB := n1_; have HO185 := n2_; clear n0_ n1_ n2_; clear ho hb hg hat))
                          repeat (go_quiet (first | ((with_reducible refine gate_builtin (b := .append) (xs := #[.tmp 43, .tmp 48]) rfl ?_); (try (refine gate_guard (by rfl) ?_; dsimp only)); at_builtin; refine Kd.R_append (Kd.int .i64) (w0 := w) w.heap.size rfl (.tmp 43) (.tmp 48) 22 3 (.int .i64 0) 8 rfl Try.underlying22 info3 rfl (by decide) (by omega) (.slice (some ad173) x4_2.length co16) x4_2 (rd l0 x5_1) [.int .i64 (rd l0 x5_1)] (fun k_ => some k_ ≠ (u3 : Value).ownBlock) (fun _ => False) rfl rfl ?aP (fun _ hk => hk.elim) ?aF ?aO ?aB ?aS ?aL ?_; (case aP => exact rfl); (case aB => exact (by repeat (first | (with_reducible first | exact HB.out | apply below_alloc | apply pw_below_drewN | apply below_drew1) | exact HB.out))); (case aF => exact (fun k_ hk => Kd.fresh' (Kd.R_lt (by (with_reducible repeat (first | apply Kd.R_alloc | apply Kd.R_drewN | apply Kd.R_drew)); exact HO_3.out)) k_ hk)); (case aO => exact (by (with_reducible repeat (first | apply Kd.R_alloc | apply Kd.R_drewN | apply Kd.R_drew)); exact HO_4.out)); (case aS => exact (below_size (by repeat (first | (with_reducible first | exact HB.out | apply below_alloc | apply pw_below_drewN | apply below_drew1) | exact HB.out)))); (case aL => have := LMc15.out; omega); intro v184 w17 ho hb hg hat; rw [← Ny183.out] at ho; have n0_ := Aside0.mk (Kd.R_after (ok := (fun _ => True)) (by (with_reducible repeat (first | apply Kd.R_alloc | apply Kd.R_drewN | apply Kd.R_drew)); exact Kd.R_mono HO_3.out (fun _ hk => ⟨trivial, hk⟩)) hg hat); have n1_ := Aside0.mk (hb); have n2_ := Aside0.mk (ho); clear HO_3; clear HB; clear HO_4; have HO_3 := n0_; have HB := n1_; have HO185 := n2_; clear n0_ n1_ n2_; clear ho hb hg hat)); try go_wp2_with (first | ((with_reducible refine gate_builtin (b := .append) (xs := #[.tmp 43, .tmp 48]) rfl ?_); (try (refine gate_guard (by rfl) ?_; dsimp only)); at_builtin; refine Kd.R_append (Kd.int .i64) (w0 := w) w.heap.size rfl (.tmp 43) (.tmp 48) 22 3 (.int .i64 0) 8 rfl Try.underlying22 info3 rfl (by decide) (by omega) (.slice (some ad173) x4_2.length co16) x4_2 (rd l0 x5_1) [.int .i64 (rd l0 x5_1)] (fun k_ => some k_ ≠ (u3 : Value).ownBlock) (fun _ => False) rfl rfl ?aP (fun _ hk => hk.elim) ?aF ?aO ?aB ?aS ?aL ?_; (case aP => exact rfl); (case aB => exact (by repeat (first | (with_reducible first | exact HB.out | apply below_alloc | apply pw_below_drewN | apply below_drew1) | exact HB.out))); (case aF => exact (fun k_ hk => Kd.fresh' (Kd.R_lt (by (with_reducible repeat (first | apply Kd.R_alloc | apply Kd.R_drewN | apply Kd.R_drew)); exact HO_3.out)) k_ hk)); (case aO => exact (by (with_reducible repeat (first | apply Kd.R_alloc | apply Kd.R_drewN | apply Kd.R_drew)); exact HO_4.out)); (case aS => exact (below_size (by repeat (first | (with_reducible first | exact HB.out | apply below_alloc | apply pw_below_drewN | apply below_drew1) | exact HB.out)))); (case aL => have := LMc15.out; omega); intro v184 w17 ho hb hg hat; rw [← Ny183.out] at ho; have n0_ := Aside0.mk (Kd.R_after (ok := (fun _ => True)) (by (with_reducible repeat (first | apply Kd.R_alloc | apply Kd.R_drewN | apply Kd.R_drew)); exact Kd.R_mono HO_3.out (fun _ hk => ⟨trivial, hk⟩)) hg hat); have n1_ := Aside0.mk (hb); have n2_ := Aside0.mk (ho); clear HO_3; clear HB; clear HO_4; have HO_3 := n0_; have HB := n1_; have HO185 := n2_; clear n0_ n1_ n2_; clear ho hb hg hat)))
                          go_roundg k2
                          case measure => have := HK1.out; have := HK2.out; omega
                          case rel => exact ⟨(x3_2), (y183), (wrap64 (x5_1 + 1)), (by first | rfl | (simp; done) | (simp [*]; done)), H', ⟨by have := HK1.out; have := HK2.out; omega⟩, ⟨by (with_reducible repeat (first | apply Kd.R_alloc | apply Kd.R_drewN | apply Kd.R_drew)); exact Kd.R_mono HO_3.out (fun _ hk => hk.2)⟩, ⟨by (with_reducible repeat (first | apply Kd.R_alloc | apply Kd.R_drewN | apply Kd.R_drew)); exact HO185.out⟩, ⟨by repeat (first | (with_reducible first | exact HB.out | apply below_alloc | apply pw_below_drewN | apply below_drew1) | exact HB.out)⟩⟩
                        · rw [if_neg c15] at H
                          exact absurd H (by simp)
                    · rw [if_neg c8] at H
                      exact absurd H (by simp)
                  · rw [if_neg c7] at H
                    exact absurd H (by simp)
                · rw [if_neg c6] at H
                  exact absurd H (by simp)
              · rw [if_neg c5] at H
                exact absurd H (by simp)
            · rw [if_neg c3] at H
              have c3b0 : decide (0 < (x4_2.length : Int)) = false := decide_eq_false c3
              have c3b1 : decide (0 < x4_2.length) = false := decide_eq_false (by omega)
              clear c3
              by_cases c18 : 0 ≤ x5_1
              · rw [if_pos c18] at H
                have c18b0 : decide (0 ≤ x5_1) = true := decide_eq_true c18
                clear c18
                by_cases c19 : x5_1 < (l0.length : Int)
                · rw [if_pos c19] at H
                  have c19b0 : decide (x5_1 < (l0.length : Int)) = true := decide_eq_true c19
                  clear c19
                  by_cases c20 : x4_2.length < 17592186044416
                  · rw [if_pos c20] at H
                    have LMc20 := Aside0.mk c20
                    clear c20
                    obtain ⟨y187, hy187⟩ : ∃ y_ : List Int, y_ = (x4_2 ++ [rd l0 x5_1]) := ⟨_, rfl⟩
                    replace H : (tickingref02_Pass.l0 k2 l0 x3_2 y187 (wrap64 (x5_1 + 1))) = some r := by first | (rw [hy187]; with_reducible exact H) | (have H2_ := (Option.bind_some _ _).symm.trans H; rw [hy187]; with_reducible exact H2_) | (have H2_ := (Option.bind_some _ _).symm.trans H; with_reducible exact H2_) | with_reducible exact H | (rw [hy187]; exact H) | exact H
                    have Ny187 := Aside0.mk hy187
                    clear hy187
                    have H' := Aside0.mk H
                    clear H
                    obtain ⟨Ao21, co21, eo21⟩ := Kd.R_slice HO_4.out
                    subst eo21
                    have p186 : 0 ≤ (x5_1 : Int) := of_decide_eq_true (by first | (with_reducible assumption) | assumption)
                    have q186 : x5_1 < (l0.length : Int) := of_decide_eq_true (by first | (with_reducible assumption) | assumption)
                    obtain ⟨ad186, e186, hx186_0⟩ := Kd.at_int HR0.out x5_1 p186 q186
                    cases e186
                    replace hx186_0 := (HB.out.cell (World.block_lt_of_cell? w _ hx186_0)).trans hx186_0
                    replace p186 := eq_true p186
                    replace q186 := eq_true q186
                    go_wp2_with (first | ((with_reducible refine gate_builtin (b := .append) (xs := #[.tmp 43, .tmp 48]) rfl ?_); (try (refine gate_guard (by rfl) ?_; dsimp only)); at_builtin; refine Kd.R_append (Kd.int .i64) (w0 := w) w.heap.size rfl (.tmp 43) (.tmp 48) 22 3 (.int .i64 0) 8 rfl Try.underlying22 info3 rfl (by decide) (by omega) (.slice Ao21 x4_2.length co21) x4_2 (rd l0 x5_1) [.int .i64 (rd l0 x5_1)] (fun k_ => some k_ ≠ (u3 : Value).ownBlock) (fun _ => False) rfl rfl ?aP (fun _ hk => hk.elim) ?aF ?aO ?aB ?aS ?aL ?_; (case aP => exact rfl); (case aB => exact (by repeat (first | (with_reducible first | exact HB.out | apply below_alloc | apply pw_below_drewN | apply below_drew1) | exact HB.out))); (case aF => exact (fun k_ hk => Kd.fresh' (Kd.R_lt (by (with_reducible repeat (first | apply Kd.R_alloc | apply Kd.R_drewN | apply Kd.R_drew)); exact HO_3.out)) k_ hk)); (case aO => exact (by (with_reducible repeat (first | apply Kd.R_alloc | apply Kd.R_drewN | apply Kd.R_drew)); exact HO_4.out)); (case aS => exact (below_size (by repeat (first | (with_reducible first | exact HB.out | apply below_alloc | apply pw_below_drewN | apply below_drew1) | exact HB.out)))); (case aL => have := LMc20.out; omega); intro v188 w22 ho hb hg hat; rw [← Ny187.out] at ho; have n0_ := Aside0.mk (Kd.R_after (ok := (fun _ => True)) (by (with_reducible repeat (first | apply Kd.R_alloc | apply Kd.R_drewN | apply Kd.R_drew)); exact Kd.R_mono HO_3.out (fun _ hk => ⟨trivial, hk⟩)) hg hat); have n1_ := Aside0.mk (hb); have n2_ := Aside0.mk (ho); clear HO_3; clear HB; clear HO_4; have HO_3 := n0_; have HB := n1_; have HO189 := n2_; clear n0_ n1_ n2_; clear ho hb hg hat))
                    repeat (go_quiet (first | ((with_reducible refine gate_builtin (b := .append) (xs := #[.tmp 43, .tmp 48]) rfl ?_); (try (refine gate_guard (by rfl) ?_; dsimp only)); at_builtin; refine Kd.R_append (Kd.int .i64) (w0 := w) w.heap.size rfl (.tmp 43) (.tmp 48) 22 3 (.int .i64 0) 8 rfl Try.underlying22 info3 rfl (by decide) (by omega) (.slice Ao21 x4_2.length co21) x4_2 (rd l0 x5_1) [.int .i64 (rd l0 x5_1)] (fun k_ => some k_ ≠ (u3 : Value).ownBlock) (fun _ => False) rfl rfl ?aP (fun _ hk => hk.elim) ?aF ?aO ?aB ?aS ?aL ?_; (case aP => exact rfl); (case aB => exact (by repeat (first | (with_reducible first | exact HB.out | apply below_alloc | apply pw_below_drewN | apply below_drew1) | exact HB.out))); (case aF => exact (fun k_ hk => Kd.fresh' (Kd.R_lt (by (with_reducible repeat (first | apply Kd.R_alloc | apply Kd.R_drewN | apply Kd.R_drew)); exact HO_3.out)) k_ hk)); (case aO => exact (by (with_reducible repeat (first | apply Kd.R_alloc | apply Kd.R_drewN | apply Kd.R_drew)); exact HO_4.out)); (case aS => exact (below_size (by repeat (first | (with_reducible first | exact HB.out | apply below_alloc | apply pw_below_drewN | apply below_drew1) | exact HB.out)))); (case aL => have := LMc20.out; omega); intro v188 w22 ho hb hg hat; rw [← Ny187.out] at ho; have n0_ := Aside0.mk (Kd.R_after (ok := (fun _ => True)) (by (with_reducible repeat (first | apply Kd.R_alloc | apply Kd.R_drewN | apply Kd.R_drew)); exact Kd.R_mono HO_3.out (fun _ hk => ⟨trivial, hk⟩)) hg hat); have n1_ := Aside0.mk (hb); have n2_ := Aside0.mk (ho); clear HO_3; clear HB; clear HO_4; have HO_3 := n0_; have HB := n1_; have HO189 := n2_; clear n0_ n1_ n2_; clear ho hb hg hat)); try go_wp2_with (first | ((with_reducible refine gate_builtin (b := .append) (xs := #[.tmp 43, .tmp 48]) rfl ?_); (try (refine gate_guard (by rfl) ?_; dsimp only)); at_builtin; refine Kd.R_append (Kd.int .i64) (w0 := w) w.heap.size rfl (.tmp 43) (.tmp 48) 22 3 (.int .i64 0) 8 rfl Try.underlying22 info3 rfl (by decide) (by omega) (.slice Ao21 x4_2.length co21) x4_2 (rd l0 x5_1) [.int .i64 (rd l0 x5_1)] (fun k_ => some k_ ≠ (u3 : Value).ownBlock) (fun _ => False) rfl rfl ?aP (fun _ hk => hk.elim) ?aF ?aO ?aB ?aS ?aL ?_; (case aP => exact rfl); (case aB => exact (by repeat (first | (with_reducible first | exact HB.out | apply below_alloc | apply pw_below_drewN | apply below_drew1) | exact HB.out))); (case aF => exact (fun k_ hk => Kd.fresh' (Kd.R_lt (by (with_reducible repeat (first | apply Kd.R_alloc | apply Kd.R_drewN | apply Kd.R_drew)); exact HO_3.out)) k_ hk)); (case aO => exact (by (with_reducible repeat (first | apply Kd.R_alloc | apply Kd.R_drewN | apply Kd.R_drew)); exact HO_4.out)); (case aS => exact (below_size (by repeat (first | (with_reducible first | exact HB.out | apply below_alloc | apply pw_below_drewN | apply below_drew1) | exact HB.out)))); (case aL => have := LMc20.out; omega); intro v188 w22 ho hb hg hat; rw [← Ny187.out] at ho; have n0_ := Aside0.mk (Kd.R_after (ok := (fun _ => True)) (by (with_reducible repeat (first | apply Kd.R_alloc | apply Kd.R_drewN | apply Kd.R_drew)); exact Kd.R_mono HO_3.out (fun _ hk => ⟨trivial, hk⟩)) hg hat); have n1_ := Aside0.mk (hb); have n2_ := Aside0.mk (ho); clear HO_3; clear HB; clear HO_4; have HO_3 := n0_; have HB := n1_; have HO189 := n2_; clear n0_ n1_ n2_; clear ho hb hg hat)))
                    go_roundg k2
                    case measure => have := HK1.out; have := HK2.out; omega
                    case rel => exact ⟨(x3_2), (y187), (wrap64 (x5_1 + 1)), (by first | rfl | (simp; done) | (simp [*]; done)), H', ⟨by have := HK1.out; have := HK2.out; omega⟩, ⟨by (with_reducible repeat (first | apply Kd.R_alloc | apply Kd.R_drewN | apply Kd.R_drew)); exact Kd.R_mono HO_3.out (fun _ hk => hk.2)⟩, ⟨by (with_reducible repeat (first | apply Kd.R_alloc | apply Kd.R_drewN | apply Kd.R_drew)); exact HO189.out⟩, ⟨by repeat (first | (with_reducible first | exact HB.out | apply below_alloc | apply pw_below_drewN | apply below_drew1) | exact HB.out)⟩⟩
                  · rw [if_neg c20] at H
                    exact absurd H (by simp)
                · rw [if_neg c19] at H
                  exact absurd H (by simp)
              · rw [if_neg c18] at H
                exact absurd H (by simp)
      · rw [if_neg c2] at H
        have c2b0 : decide (x5_1 < (l0.length : Int)) = false := decide_eq_false c2
        clear c2
        have H' := Aside0.mk H
        clear H
        obtain ⟨Ao23, co23, eo23⟩ := Kd.R_slice HO_4.out
        subst eo23
        go_wp2
        repeat (go_quiet (fail); try go_wp2)
        go_loopg [3, 6] k1 (fun kq v3 v6 w' => ∃ (x3_2 : List Int) (x6_2 : Int), v6 = .int .i64 x6_2 ∧ Aside0 (tickingref02_Pass.l2 kq x3_2 x4_1 x6_2 = some r) ∧ Aside0 (kq ≤ k1) ∧ Aside0 (Kd.R (Kd.int .i64) 3 w' w.heap.size (fun k_ => some k_ ≠ ((.slice Ao23 x4_1.length co23) : Value).ownBlock) v3 x3_2) ∧ Aside0 (Kd.R (Kd.int .i64) 3 w' w.heap.size (fun k_ => some k_ ≠ (v3 : Value).ownBlock) (.slice Ao23 x4_1.length co23) x4_1) ∧ Aside0 (Below w.heap.size w w'))
        case atStart => exact ⟨(x3_1), (wrap64 ((x4_1.length : Int) - 1)), (by first | rfl | (simp; done) | (simp [*]; done)), H', ⟨Nat.le_refl _⟩, ⟨by (with_reducible repeat (first | apply Kd.R_alloc | apply Kd.R_drewN | apply Kd.R_drew)); exact HO_3.out⟩, ⟨by (with_reducible repeat (first | apply Kd.R_alloc | apply Kd.R_drewN | apply Kd.R_drew)); exact HO_4.out⟩, ⟨by repeat (first | (with_reducible first | exact HB.out | apply below_alloc | apply pw_below_drewN | apply below_drew1) | exact HB.out)⟩⟩
        case round =>
          clear H'
          try clear c1
          try clear p1
          try clear q1
          try clear hx1
          try clear c2
          try clear c2b0
          try clear p2
          try clear c3
          try clear c3b0
          try clear c3b1
          try clear c5
          try clear c5b0
          try clear c6
          try clear c6b0
          try clear p6
          try clear c7
          try clear c7b0
          try clear c8
          try clear c8b0
          try clear c9
          try clear c9b0
          try clear c10
          try clear c11
          try clear c11b0
          try clear c11b1
          try clear q14
          try clear c15
          try clear p17
          try clear q17
          try clear hx17
          try clear c18
          try clear c18b0
          try clear p18
          try clear q18
          try clear hx18
          try clear c19
          try clear c19b0
          try clear c20
          try clear hx173_0
          try clear hx174_0
          try clear hx175_0
          try clear hx182_0
          try clear hx186_0
          try clear p173
          try clear p174
          try clear p175
          try clear p182
          try clear p186
          try clear p2
          try clear q14
          try clear q173
          try clear q174
          try clear q175
          try clear q182
          try clear q186
          obtain ⟨x3_2, x6_2, rfl, HA, HK2, HO_3, HO_4, HB⟩ := hrel
          cases gk with
          | zero => exact absurd HA.out (by simp [tickingref02_Pass.l2])
          | succ k2 =>
            have H := HA.out
            clear HA
            simp only [tickingref02_Pass.l2] at H
            by_cases c24 : x6_2 ≥ 0
            · rw [if_pos c24] at H
              have c24b0 : decide (0 ≤ x6_2) = true := decide_eq_true c24
              clear c24
              by_cases c25 : 0 ≤ x6_2
              · rw [if_pos c25] at H
                have c25b0 : decide (0 ≤ x6_2) = true := decide_eq_true c25
                clear c25
                by_cases c26 : x6_2 < (x4_1.length : Int)
                · rw [if_pos c26] at H
                  have c26b0 : decide (x6_2 < (x4_1.length : Int)) = true := decide_eq_true c26
                  clear c26
                  by_cases c27 : x3_2.length < 17592186044416
                  · rw [if_pos c27] at H
                    have LMc27 := Aside0.mk c27
                    clear c27
                    obtain ⟨y191, hy191⟩ : ∃ y_ : List Int, y_ = (x3_2 ++ [rd x4_1 x6_2]) := ⟨_, rfl⟩
                    replace H : (tickingref02_Pass.l2 k2 y191 x4_1 (wrap64 (x6_2 - 1))) = some r := by first | (rw [hy191]; with_reducible exact H) | (have H2_ := (Option.bind_some _ _).symm.trans H; rw [hy191]; with_reducible exact H2_) | (have H2_ := (Option.bind_some _ _).symm.trans H; with_reducible exact H2_) | with_reducible exact H | (rw [hy191]; exact H) | exact H
                    have Ny191 := Aside0.mk hy191
                    clear hy191
                    have H' := Aside0.mk H
                    clear H
                    have p190 : 0 ≤ (x6_2 : Int) := of_decide_eq_true (by first | (with_reducible assumption) | assumption)
                    have q190 : x6_2 < (x4_1.length : Int) := of_decide_eq_true (by first | (with_reducible assumption) | assumption)
                    obtain ⟨ad190, e190, hx190_0⟩ := Kd.at_int (Kd.R_reads' HO_4.out).2.2 x6_2 p190 q190
                    cases e190
                    replace p190 := eq_true p190
                    replace q190 := eq_true q190
                    go_wp2_with (first | ((with_reducible refine gate_builtin (b := .append) (xs := #[.tmp 57, .tmp 62]) rfl ?_); (try (refine gate_guard (by rfl) ?_; dsimp only)); at_builtin; refine Kd.R_append (Kd.int .i64) (w0 := w) w.heap.size rfl (.tmp 57) (.tmp 62) 22 3 (.int .i64 0) 8 rfl Try.underlying22 info3 rfl (by decide) (by omega) u3 x3_2 (rd x4_1 x6_2) [.int .i64 (rd x4_1 x6_2)] (fun k_ => some k_ ≠ (.slice (some ad190) x4_1.length co23 : Value).ownBlock) (fun _ => False) rfl rfl ?aP (fun _ hk => hk.elim) ?aF ?aO ?aB ?aS ?aL ?_; (case aP => exact rfl); (case aB => exact (by repeat (first | (with_reducible first | exact HB.out | apply below_alloc | apply pw_below_drewN | apply below_drew1) | exact HB.out))); (case aF => exact (fun k_ hk => Kd.fresh' (Kd.R_lt (by (with_reducible repeat (first | apply Kd.R_alloc | apply Kd.R_drewN | apply Kd.R_drew)); exact HO_4.out)) k_ hk)); (case aO => exact (by (with_reducible repeat (first | apply Kd.R_alloc | apply Kd.R_drewN | apply Kd.R_drew)); exact HO_3.out)); (case aS => exact (below_size (by repeat (first | (with_reducible first | exact HB.out | apply below_alloc | apply pw_below_drewN | apply below_drew1) | exact HB.out)))); (case aL => have := LMc27.out; omega); intro v192 w28 ho hb hg hat; rw [← Ny191.out] at ho; have n0_ := Aside0.mk (Kd.R_after (ok := (fun _ => True)) (by (with_reducible repeat (first | apply Kd.R_alloc | apply Kd.R_drewN | apply Kd.R_drew)); exact Kd.R_mono HO_4.out (fun _ hk => ⟨trivial, hk⟩)) hg hat); have n1_ := Aside0.mk (hb); have n2_ := Aside0.mk (ho); clear HO_4; clear HB; clear HO_3; have HO_4 := n0_; have HB := n1_; have HO193 := n2_; clear n0_ n1_ n2_; clear ho hb hg hat))
                    repeat (go_quiet (first | ((with_reducible refine gate_builtin (b := .append) (xs := #[.tmp 57, .tmp 62]) rfl ?_); (try (refine gate_guard (by rfl) ?_; dsimp only)); at_builtin; refine Kd.R_append (Kd.int .i64) (w0 := w) w.heap.size rfl (.tmp 57) (.tmp 62) 22 3 (.int .i64 0) 8 rfl Try.underlying22 info3 rfl (by decide) (by omega) u3 x3_2 (rd x4_1 x6_2) [.int .i64 (rd x4_1 x6_2)] (fun k_ => some k_ ≠ (.slice (some ad190) x4_1.length co23 : Value).ownBlock) (fun _ => False) rfl rfl ?aP (fun _ hk => hk.elim) ?aF ?aO ?aB ?aS ?aL ?_; (case aP => exact rfl); (case aB => exact (by repeat (first | (with_reducible first | exact HB.out | apply below_alloc | apply pw_below_drewN | apply below_drew1) | exact HB.out))); (case aF => exact (fun k_ hk => Kd.fresh' (Kd.R_lt (by (with_reducible repeat (first | apply Kd.R_alloc | apply Kd.R_drewN | apply Kd.R_drew)); exact HO_4.out)) k_ hk)); (case aO => exact (by (with_reducible repeat (first | apply Kd.R_alloc | apply Kd.R_drewN | apply Kd.R_drew)); exact HO_3.out)); (case aS => exact (below_size (by repeat (first | (with_reducible first | exact HB.out | apply below_alloc | apply pw_below_drewN | apply below_drew1) | exact HB.out)))); (case aL => have := LMc27.out; omega); intro v192 w28 ho hb hg hat; rw [← Ny191.out] at ho; have n0_ := Aside0.mk (Kd.R_after (ok := (fun _ => True)) (by (with_reducible repeat (first | apply Kd.R_alloc | apply Kd.R_drewN | apply Kd.R_drew)); exact Kd.R_mono HO_4.out (fun _ hk => ⟨trivial, hk⟩)) hg hat); have n1_ := Aside0.mk (hb); have n2_ := Aside0.mk (ho); clear HO_4; clear HB; clear HO_3; have HO_4 := n0_; have HB := n1_; have HO193 := n2_; clear n0_ n1_ n2_; clear ho hb hg hat)); try go_wp2_with (first | ((with_reducible refine gate_builtin (b := .append) (xs := #[.tmp 57, .tmp 62]) rfl ?_); (try (refine gate_guard (by rfl) ?_; dsimp only)); at_builtin; refine Kd.R_append (Kd.int .i64) (w0 := w) w.heap.size rfl (.tmp 57) (.tmp 62) 22 3 (.int .i64 0) 8 rfl Try.underlying22 info3 rfl (by decide) (by omega) u3 x3_2 (rd x4_1 x6_2) [.int .i64 (rd x4_1 x6_2)] (fun k_ => some k_ ≠ (.slice (some ad190) x4_1.length co23 : Value).ownBlock) (fun _ => False) rfl rfl ?aP (fun _ hk => hk.elim) ?aF ?aO ?aB ?aS ?aL ?_; (case aP => exact rfl); (case aB => exact (by repeat (first | (with_reducible first | exact HB.out | apply below_alloc | apply pw_below_drewN | apply below_drew1) | exact HB.out))); (case aF => exact (fun k_ hk => Kd.fresh' (Kd.R_lt (by (with_reducible repeat (first | apply Kd.R_alloc | apply Kd.R_drewN | apply Kd.R_drew)); exact HO_4.out)) k_ hk)); (case aO => exact (by (with_reducible repeat (first | apply Kd.R_alloc | apply Kd.R_drewN | apply Kd.R_drew)); exact HO_3.out)); (case aS => exact (below_size (by repeat (first | (with_reducible first | exact HB.out | apply below_alloc | apply pw_below_drewN | apply below_drew1) | exact HB.out)))); (case aL => have := LMc27.out; omega); intro v192 w28 ho hb hg hat; rw [← Ny191.out] at ho; have n0_ := Aside0.mk (Kd.R_after (ok := (fun _ => True)) (by (with_reducible repeat (first | apply Kd.R_alloc | apply Kd.R_drewN | apply Kd.R_drew)); exact Kd.R_mono HO_4.out (fun _ hk => ⟨trivial, hk⟩)) hg hat); have n1_ := Aside0.mk (hb); have n2_ := Aside0.mk (ho); clear HO_4; clear HB; clear HO_3; have HO_4 := n0_; have HB := n1_; have HO193 := n2_; clear n0_ n1_ n2_; clear ho hb hg hat)))
                    go_roundg k2
                    case measure => have := HK1.out; have := HK2.out; omega
                    case rel => exact ⟨(y191), (wrap64 (x6_2 - 1)), (by first | rfl | (simp; done) | (simp [*]; done)), H', ⟨by have := HK1.out; have := HK2.out; omega⟩, ⟨by (with_reducible repeat (first | apply Kd.R_alloc | apply Kd.R_drewN | apply Kd.R_drew)); exact HO193.out⟩, ⟨by (with_reducible repeat (first | apply Kd.R_alloc | apply Kd.R_drewN | apply Kd.R_drew)); exact Kd.R_mono HO_4.out (fun _ hk => hk.2)⟩, ⟨by repeat (first | (with_reducible first | exact HB.out | apply below_alloc | apply pw_below_drewN | apply below_drew1) | exact HB.out)⟩⟩
                  · rw [if_neg c27] at H
                    exact absurd H (by simp)
                · rw [if_neg c26] at H
                  exact absurd H (by simp)
              · rw [if_neg c25] at H
                exact absurd H (by simp)
            · rw [if_neg c24] at H
              have c24b0 : decide (0 ≤ x6_2) = false := decide_eq_false c24
              clear c24
              obtain rfl := Option.some.inj H
              go_wp2
              repeat (go_quiet (fail); try go_wp2)
              go_ret
              exact ⟨_, by first | rfl | (simp [errW_none, errW_some] <;> rfl) | (simp [*, errW_none, errW_some] <;> rfl), by (with_reducible repeat (first | apply Kd.R_alloc | apply Kd.R_drewN | apply Kd.R_drew)); exact Kd.R_mono HO_3.out (fun _ hk => trivial), by repeat (first | (with_reducible first | exact HB.out | apply below_alloc | apply pw_below_drewN | apply below_drew1) | exact HB.out)⟩

end Go.Proofs.Ytjbjongahnocdaa.S

namespace Go.Proofs.Ytjbjongahnocdaa.S
open Go.Proofs.Ytjbjongahnocdaa.Lib
open Go.Proofs.Ytjbjongahnocdaa.Defs
open Go.Maps (Keyed)
open Go.RowKit Go.Proofs.YtjbjongahnocdaaW.PrintWords Go.Proofs.YtjbjongahnocdaaW.PrintLast Go.Proofs.YtjbjongahnocdaaW.PrintMore
attribute [local go_sem] max2_int min2_int max_two min_two max_three min_three max_four min_four   -- for this text's walks alone
set_option linter.unusedVariables false
set_option linter.unusedSimpArgs false

/-! ### tickingref02_OneStack: function 25 -/
def tickingref02_OneStack.f (k : Nat) (l0 : List Int) : Option (Bool) := (tickingref02_Pass.f k l0).bind fun t196 => ((tickingref02_ascending.f k t196).bind fun t199 => (some t199))
theorem tickingref02_OneStack.mono : ∀ a0 k, LeO (tickingref02_OneStack.f k a0) (tickingref02_OneStack.f (k + 1) a0) := by
  intro a0 k
  unfold tickingref02_OneStack.f
  repeat' first
      | (with_reducible exact tickingref02_Pass.mono _ _)
      | (with_reducible exact tickingref02_ascending.mono _ _)
      | (with_reducible exact LeO.refl _)
      | (with_reducible exact LeO.none _)
      | (with_reducible refine LeO.ite ?_ ?_)
      | (with_reducible refine LeO.bind ?_ (fun _ => ?_))
      | exact tickingref02_Pass.mono _ _
      | exact tickingref02_ascending.mono _ _
      | exact LeO.none _
      | refine LeO.ite ?_ ?_
      | refine LeO.bind ?_ (fun _ => ?_)
set_option maxHeartbeats 8000000 in
set_option maxRecDepth 100000 in
theorem tickingref02_OneStack.calls (k : Nat) (A0 : Option Addr) (c0 : Nat) (l0 : List Int) (r : Bool) (w : World) (hr0 : Kd.C (Kd.int .i64) w A0 l0.length l0) (hc0 : l0.length ≤ c0) (h : tickingref02_OneStack.f k l0 = some r) :
    Calls Try.prog 25 #[.slice A0 l0.length c0] w fun e w' => e = .returned (.bool r) ∧ Below w.heap.size w w' := by
  have HR0 := Aside0.mk hr0
  have HC0 := Aside0.mk hc0
  clear hr0 hc0
  have HB := Aside0.mk (Below.refl w.heap.size w)
  have H : ((tickingref02_Pass.f k l0).bind fun t196 => ((tickingref02_ascending.f k t196).bind fun t199 => (some t199))) = some r := h
  clear h
  replace H := Option.bind_eq_some_iff.mp H
  obtain ⟨t196, A20, H⟩ := H
  replace H : ((tickingref02_ascending.f k t196).bind fun t199 => (some t199)) = some r := H
  have A2 := Aside0.mk A20
  clear A20
  replace H := Option.bind_eq_some_iff.mp H
  obtain ⟨t199, A30, H⟩ := H
  replace H : (some t199) = some r := H
  have A3 := Aside0.mk A30
  clear A30
  obtain rfl := Option.some.inj H
  go_enter Try.func25, Try.ntmps25
  go_wp2_with (first | ((with_reducible refine gate_callee (f := 24) rfl ?_); refine goesL_ (some 4) rfl rfl Try.func24 (by kernel_rfl) rfl #[.slice A0 l0.length c0] rfl (by (try simp only [List.map_toArray, List.map_cons, List.map_nil]); first | done | rfl | (simp only [List.length_drop, List.length_take]; rfl)) ?_; (with_reducible refine (tickingref02_Pass.calls k _ _ l0 t196 _ ?side1 ?side2 A2.out).mono ?_); (case side1 => repeat (first | exact HR0.out | (with_reducible refine Kd.C_alloc ?_ _) | (with_reducible refine Kd.C_drewN ?_ _) | (with_reducible refine Kd.C_drew ?_))); (case side2 => exact HC0.out); rintro e w4 ⟨v197, rfl, ho0, hb⟩; refine ⟨_, rfl, ?_⟩; have n0_ := Aside0.mk (Kd.R_lower ho0 (below_size (by repeat (first | (with_reducible first | exact HB.out | apply below_alloc | apply pw_below_drewN | apply below_drew1) | exact HB.out)))); have n1_ := Aside0.mk (below_step (by repeat (first | (with_reducible first | exact HB.out | apply below_alloc | apply pw_below_drewN | apply below_drew1) | exact HB.out)) hb); clear HB; have HO198 := n0_; have HB := n1_; clear n0_ n1_; (try clear hb); (try clear hb2); (try clear hk); (try clear hi); (try clear ho0); obtain ⟨Ao5, co5, eo5⟩ := Kd.R_slice HO198.out; subst eo5) | ((with_reducible refine gate_callee (f := 60) rfl ?_); refine goesL_ (some 5) rfl rfl Try.func60 (by kernel_rfl) rfl #[.slice Ao5 t196.length co5] rfl (by (try simp only [List.map_toArray, List.map_cons, List.map_nil]); first | done | rfl | (simp only [List.length_drop, List.length_take]; rfl)) ?_; (with_reducible refine (tickingref02_ascending.calls k _ _ t196 t199 _ ?side1 ?side2 A3.out).mono ?_); (case side1 => repeat (first | exact (Kd.R_reads' HO198.out).2.2 | (with_reducible refine Kd.C_alloc ?_ _) | (with_reducible refine Kd.C_drewN ?_ _) | (with_reducible refine Kd.C_drew ?_))); (case side2 => exact (Kd.R_reads' HO198.out).2.1); rintro e w' ⟨rfl, ⟨nd, rfl⟩⟩; refine ⟨_, rfl, ?_⟩))
  go_ret
  exact ⟨by first | rfl | (simp [errW_none, errW_some] <;> rfl) | (simp [*, errW_none, errW_some] <;> rfl), by repeat (first | (with_reducible first | exact HB.out | apply below_alloc | apply pw_below_drewN | apply below_drew1) | exact HB.out)⟩

end Go.Proofs.Ytjbjongahnocdaa.S

/- What the references of layer 2 compute: the first ones. -/
namespace Go.Proofs.Ytjbjongahnocdaa.P
open Go.RowKit Go.Proofs.Ytjbjongahnocdaa.S Go.Proofs.Ytjbjongahnocdaa.Defs Go.Proofs.YtjbjongahnocdaaW.PrintWords

theorem has_loop (l : List Int) (x : Int) (hl : l.length ≤ 1000000) : ∀ (d i : Nat), i + d = l.length → Ev (fun k => tickingref02_has.l0 k l x (i : Int)) (decide (x ∈ l.drop i))
  | 0, i, h => by
    refine Ev.step (fun k => ?_) (Ev.now _)
    rw [List.drop_eq_nil_of_le (by omega)]
    simp only [tickingref02_has.l0]
    rw [if_neg (by omega)]
    simp
  | d + 1, i, h => by
    rw [drop_cons l i (by omega)]
    by_cases he : rd l (i : Int) = x
    · refine Ev.step (fun k => ?_) (Ev.now _)
      simp only [tickingref02_has.l0]
      rw [if_pos (by omega), if_pos (by omega), if_pos he]
      simp [he]
    · refine Ev.step (f := fun k => tickingref02_has.l0 k l x ((i + 1 : Nat) : Int)) (fun k => ?_) ?_
      · simp only [tickingref02_has.l0]
        rw [if_pos (by omega), if_pos (by omega), if_neg he, w64 (by omega) (by omega)]
        rfl
      · have := has_loop l x hl d (i + 1) (by omega)
        have e : decide (x ∈ rd l (i : Int) :: l.drop (i + 1)) = decide (x ∈ l.drop (i + 1)) := by
          rw [decide_eq_decide, List.mem_cons]
          exact ⟨fun h => h.elim (fun e => absurd e.symm he) id, .inr⟩
        rw [e]
        exact this
theorem has_ev (l : List Int) (x : Int) (hl : l.length ≤ 1000000) : Ev (fun k => tickingref02_has.f k l x) (decide (x ∈ l)) := by
  have := has_loop l x hl l.length 0 (by omega)
  exact this

/-- An order: different numbers from 1 to its length. -/
def IsOrd (l : List Int) : Prop := l.Nodup ∧ ∀ x ∈ l, 1 ≤ x ∧ x ≤ l.length
instance (l : List Int) : Decidable (IsOrd l) := by unfold IsOrd; infer_instance

theorem isOrderGo_iff (n : Nat) : ∀ (l seen : List Int), isOrderGo n l seen = true ↔ (l.Nodup ∧ (∀ x ∈ l, 1 ≤ x ∧ x ≤ n) ∧ ∀ x ∈ l, x ∉ seen)
  | [], seen => by simp [isOrderGo]
  | x :: xs, seen => by
    unfold isOrderGo
    by_cases h : 1 ≤ x ∧ x ≤ n ∧ x ∉ seen
    · rw [if_pos h, isOrderGo_iff n xs (x :: seen)]
      simp only [List.nodup_cons, List.mem_cons]
      constructor
      · rintro ⟨h1, h2, h3⟩
        refine ⟨⟨fun hm => (h3 x hm) (.inl rfl), h1⟩, fun y hy => ?_, fun y hy hs => ?_⟩
        · rcases hy with rfl | hy
          · exact ⟨h.1, h.2.1⟩
          · exact h2 y hy
        · rcases hy with rfl | hy
          · exact h.2.2 hs
          · exact h3 y hy (.inr hs)
      · rintro ⟨⟨h1, h2⟩, h4, h6⟩
        exact ⟨h2, fun y hy => h4 y (.inr hy), fun y hy hs => hs.elim (fun e => h1 (e ▸ hy)) (h6 y (.inr hy))⟩
    · rw [if_neg h]
      constructor
      · intro h; cases h
      · rintro ⟨_, h3, h5⟩
        exact absurd ⟨(h3 x (by simp)).1, (h3 x (by simp)).2, h5 x (by simp)⟩ h
theorem isOrderB_iff (l : List Int) : isOrderB l = true ↔ l.length ≤ 60 ∧ IsOrd l := by
  unfold isOrderB IsOrd
  rw [Bool.and_eq_true, decide_eq_true_eq, isOrderGo_iff]
  simp

theorem Order_loop (l : List Int) (m : Int) (hl : l.length ≤ 1000000) : ∀ (d i : Nat), i + d = l.length → (l.take i).Nodup → (∀ x ∈ l.take i, 1 ≤ x ∧ x ≤ l.length) → Ev (fun k => tickingref02_Order.l0 k l m (i : Int)) (decide (IsOrd l ∧ (l.length : Int) ≤ m))
  | 0, i, h, h1, h2 => by
    refine Ev.step (fun k => ?_) (Ev.now _)
    simp only [tickingref02_Order.l0]
    rw [if_neg (by omega)]
    rw [List.take_of_length_le (by omega)] at h1 h2
    congr 1
    rw [decide_eq_decide]
    exact ⟨fun h => ⟨⟨h1, h2⟩, h⟩, fun h => h.2⟩
  | d + 1, i, h, h1, h2 => by
    have hi : i < l.length := by omega
    have hm : rd l (i : Int) ∈ l := rd_mem (by omega) (by omega)
    have no : ¬ (1 ≤ rd l (i : Int) ∧ rd l (i : Int) ≤ l.length ∧ rd l (i : Int) ∉ l.take i) → ¬ (IsOrd l ∧ (l.length : Int) ≤ m) := by
      rintro hn ⟨⟨ho1, ho2⟩, _⟩
      refine hn ⟨(ho2 _ hm).1, (ho2 _ hm).2, fun hin => ?_⟩
      rw [← List.take_append_drop i l, drop_cons l i hi] at ho1
      have := (List.nodup_append.1 ho1).2.2 _ hin (rd l (i : Int)) (by simp)
      exact this rfl
    by_cases c1 : rd l (i : Int) < 1
    · refine Ev.step (fun k => ?_) (Ev.now _)
      simp only [tickingref02_Order.l0]
      rw [if_pos (by omega), if_pos (by omega), if_pos c1, decide_eq_false (no (by omega))]
    · by_cases c2 : rd l (i : Int) > (l.length : Int)
      · refine Ev.step (fun k => ?_) (Ev.now _)
        simp only [tickingref02_Order.l0]
        rw [if_pos (by omega), if_pos (by omega), if_neg c1, if_pos c2, decide_eq_false (no (by omega))]
      · have hh := has_ev (l.take i) (rd l (i : Int)) (by rw [List.length_take]; omega)
        refine Ev.step (f := fun k => (tickingref02_has.f k (l.take ((i : Int)).toNat) (rd l (i : Int))).bind fun t => (if t = true then some false else tickingref02_Order.l0 k l m (wrap64 ((i : Int) + 1)))) (fun k => ?_) ?_
        · simp only [tickingref02_Order.l0]
          rw [if_pos (by omega), if_pos (by omega), if_neg c1, if_neg c2, if_pos (by omega)]
        · rw [show ((i : Int)).toNat = i by omega]
          refine Ev.bind hh ?_
          by_cases c3 : rd l (i : Int) ∈ l.take i
          · rw [decide_eq_true c3, decide_eq_false (no (fun h => h.2.2 c3))]
            exact Ev.congr (fun k => by rw [if_pos rfl]) (Ev.now _)
          · rw [decide_eq_false c3]
            refine Ev.congr (f := fun k => tickingref02_Order.l0 k l m ((i + 1 : Nat) : Int)) (fun k => by rw [if_neg (by decide), w64 (by omega) (by omega)]; rfl) ?_
            have e : l.take (i + 1) = l.take i ++ [rd l (i : Int)] := by rw [rd_lt l i hi, List.take_succ_eq_append_getElem hi]
            refine Order_loop l m hl d (i + 1) (by omega) ?_ ?_
            · rw [e, List.nodup_append]
              refine ⟨h1, by simp, fun a ha b hb => ?_⟩
              rw [List.mem_singleton] at hb
              subst hb
              exact fun e => c3 (e ▸ ha)
            · rw [e]
              intro x hx
              rcases List.mem_append.1 hx with hx | hx
              · exact h2 x hx
              · rw [List.mem_singleton] at hx
                subst hx
                omega
theorem Order_ev (l : List Int) (m : Int) (hl : l.length ≤ 1000000) : Ev (fun k => tickingref02_Order.f k l m) (decide (IsOrd l ∧ (l.length : Int) ≤ m)) := by
  have := Order_loop l m hl l.length 0 (by omega) (by simp) (by simp)
  exact this

theorem ints_loop (a b : List Int) (hl : a.length ≤ 1000000) (hab : a.length = b.length) : ∀ (d i : Nat), i + d = a.length → Ev (fun k => tickinglaw02_ints.l0 k a b (i : Int)) (decide (a.drop i = b.drop i))
  | 0, i, h => by
    refine Ev.step (fun k => ?_) (Ev.now _)
    rw [List.drop_eq_nil_of_le (by omega), List.drop_eq_nil_of_le (by omega)]
    simp only [tickinglaw02_ints.l0]
    rw [if_neg (by omega)]
    simp
  | d + 1, i, h => by
    rw [drop_cons a i (by omega), drop_cons b i (by omega)]
    by_cases he : rd a (i : Int) = rd b (i : Int)
    · refine Ev.step (f := fun k => tickinglaw02_ints.l0 k a b ((i + 1 : Nat) : Int)) (fun k => ?_) ?_
      · simp only [tickinglaw02_ints.l0]
        rw [if_pos (by omega), if_pos (by omega), if_pos (by omega), if_pos he, w64 (by omega) (by omega)]
        rfl
      · have := ints_loop a b hl hab d (i + 1) (by omega)
        rw [he, show decide (rd b (i : Int) :: a.drop (i + 1) = rd b (i : Int) :: b.drop (i + 1)) = decide (a.drop (i + 1) = b.drop (i + 1)) by simp]
        exact this
    · refine Ev.step (fun k => ?_) (Ev.now _)
      simp only [tickinglaw02_ints.l0]
      rw [if_pos (by omega), if_pos (by omega), if_pos (by omega), if_neg he]
      simp [he]
theorem ints_ev (a b : List Int) (hl : a.length ≤ 1000000) : Ev (fun k => tickinglaw02_ints.f k a b) (decide (a = b)) := by
  by_cases hab : a.length = b.length
  · have := ints_loop a b hl hab a.length 0 (by omega)
    refine Ev.congr (fun k => ?_) this
    unfold tickinglaw02_ints.f
    rw [if_pos (by omega)]
    rfl
  · refine Ev.congr (fun k => ?_) (Ev.now _)
    unfold tickinglaw02_ints.f
    rw [if_neg (by omega), decide_eq_false (fun e => hab (by rw [e]))]

/-- Ascending: each item is greater than the one before it. -/
def Asc (l : List Int) : Prop := l.Pairwise (· < ·)
instance (l : List Int) : Decidable (Asc l) := by unfold Asc; infer_instance

theorem asc_snoc (l : List Int) (i : Nat) (hi : i + 1 < l.length) (h : Asc (l.take (i + 1))) : Asc (l.take (i + 2)) ↔ rd l (i : Int) < rd l ((i + 1 : Nat) : Int) := by
  unfold Asc at h ⊢
  rw [List.take_succ_eq_append_getElem hi, List.pairwise_append]
  have e : l.take (i + 1) = l.take i ++ [l[i]] := List.take_succ_eq_append_getElem (by omega)
  rw [rd_lt l i (by omega), rd_lt l (i + 1) hi]
  constructor
  · rintro ⟨_, _, h3⟩
    exact h3 _ (by rw [e]; exact List.mem_append_right _ (by simp)) _ (by simp)
  · intro h2
    refine ⟨h, by simp, fun a ha b hb => ?_⟩
    rw [List.mem_singleton] at hb
    subst hb
    rw [e] at ha h
    rcases List.mem_append.1 ha with ha | ha
    · have := (List.pairwise_append.1 h).2.2 a ha l[i] (by simp)
      omega
    · rw [List.mem_singleton] at ha
      subst ha
      exact h2
theorem asc_loop (l : List Int) (hl : l.length ≤ 1000000) : ∀ (d i : Nat), i + 1 + d = l.length → Asc (l.take (i + 1)) → Ev (fun k => tickingref02_ascending.l0 k l ((i + 1 : Nat) : Int)) (decide (Asc l))
  | 0, i, h, h1 => by
    refine Ev.step (fun k => ?_) (Ev.now _)
    simp only [tickingref02_ascending.l0]
    rw [List.take_of_length_le (by omega)] at h1
    rw [if_neg (by omega), decide_eq_true h1]
  | d + 1, i, h, h1 => by
    have hs := asc_snoc l i (by omega) h1
    have e1 : wrap64 (((i + 1 : Nat) : Int) - 1) = (i : Int) := by rw [w64 (by omega) (by omega)]; omega
    by_cases c : rd l (i : Int) ≥ rd l ((i + 1 : Nat) : Int)
    · refine Ev.step (fun k => ?_) (Ev.now _)
      simp only [tickingref02_ascending.l0]
      rw [e1, if_pos (by omega), if_pos (by omega), if_pos (by omega), if_pos (by omega), if_pos c, decide_eq_false]
      intro ha
      have h2 : Asc (l.take (i + 2)) := List.Pairwise.sublist (List.take_sublist _ _) ha
      have := hs.1 h2
      omega
    · refine Ev.step (f := fun k => tickingref02_ascending.l0 k l ((i + 1 + 1 : Nat) : Int)) (fun k => ?_) (asc_loop l hl d (i + 1) (by omega) (hs.2 (by omega)))
      simp only [tickingref02_ascending.l0]
      rw [e1, if_pos (by omega), if_pos (by omega), if_pos (by omega), if_pos (by omega), if_neg c, w64 (by omega) (by omega)]
      rfl
theorem asc_ev (l : List Int) (hl : l.length ≤ 1000000) : Ev (fun k => tickingref02_ascending.f k l) (decide (Asc l)) := by
  cases hn : l with
  | nil => exact Ev.step (fun k => by simp only [tickingref02_ascending.f, tickingref02_ascending.l0]; rw [if_neg (by simp)]; rfl) (Ev.now _)
  | cons a t =>
    rw [← hn]
    have := asc_loop l hl (l.length - 1) 0 (by rw [hn]; simp; omega) (by rw [hn]; simp [Asc])
    exact this

theorem awake_ev : Ev (fun k => tickinglaw02_awake.f k) true := Ev.of (fun k => tickinglaw02_awake.mono k) (k := 40) (by kernel_rfl)

/-! ### a pass -/
theorem rd_top (s : List Int) (t : Int) : rd (t :: s).reverse (((t :: s).reverse.length : Int) - 1) = t := by
  have e : (((t :: s).reverse.length : Int) - 1) = ((s.length : Nat) : Int) := by simp
  rw [e, rd_nat, List.reverse_cons, List.getD_eq_getElem?_getD, List.getElem?_append_right (by simp)]
  simp
theorem take_top (s : List Int) (t : Int) : (t :: s).reverse.take (((t :: s).reverse.length : Int) - 1).toNat = s.reverse := by
  have e : (((t :: s).reverse.length : Int) - 1).toNat = s.reverse.length := by simp
  rw [e, List.reverse_cons, List.take_left']
  rfl

theorem passIn_len (x : Int) : ∀ s lft : List Int, (passIn x s lft).1.length + (passIn x s lft).2.length = s.length + lft.length
  | [], lft => by simp [passIn]
  | t :: s, lft => by
    unfold passIn
    split
    · rw [passIn_len x s]; simp; omega
    · rfl

theorem Pass_l2 : ∀ (s out : List Int), s.length + out.length ≤ 1000000 → ∀ rest : List Int, Ev (fun k => tickingref02_Pass.l2 k out (s.reverse ++ rest) ((s.length : Int) - 1)) (out ++ s)
  | [], out, h, rest => by
    refine Ev.step (fun k => ?_) (Ev.now _)
    simp only [tickingref02_Pass.l2]
    rw [if_neg (by simp)]
    simp
  | t :: s, out, h, rest => by
    have e : (((t :: s).length : Int) - 1) = ((s.length : Nat) : Int) := by simp
    have e2 : rd ((t :: s).reverse ++ rest) ((s.length : Nat) : Int) = t := by
      rw [rd_nat, List.reverse_cons, List.append_assoc, List.getD_eq_getElem?_getD, List.getElem?_append_right (by simp)]
      simp
    refine Ev.step (f := fun k => tickingref02_Pass.l2 k (out ++ [t]) (s.reverse ++ ([t] ++ rest)) ((s.length : Int) - 1)) (fun k => ?_) ?_
    · simp only [tickingref02_Pass.l2]
      simp only [List.length_cons] at h
      rw [e, if_pos (by omega), if_pos (by omega), if_pos (by simp; omega), if_pos (by omega), e2, w64 (by omega) (by omega), List.reverse_cons, List.append_assoc]
    · have := Pass_l2 s (out ++ [t]) (by simp at h ⊢; omega) ([t] ++ rest)
      rw [List.append_assoc] at this
      exact this

theorem Pass_l1 (l : List Int) (i : Nat) (hi : i < l.length) (hl : l.length ≤ 1000000) (R : List Int) : ∀ (s out : List Int), s.length + out.length ≤ 1000000 →
    Ev (fun k => tickingref02_Pass.l0 k l (passIn (rd l i) s out).2 (rd l i :: (passIn (rd l i) s out).1).reverse ((i + 1 : Nat) : Int)) R → Ev (fun k => tickingref02_Pass.l1 k l out s.reverse (i : Int)) R
  | [], out, h, hR => by
    refine Ev.step (fun k => ?_) hR
    simp only [tickingref02_Pass.l1, passIn]
    rw [if_neg (by simp), if_pos (by omega), if_pos (by omega), if_pos (by simp), w64 (by omega) (by omega)]
    rfl
  | t :: s, out, h, hR => by
    have e1 : wrap64 (((t :: s).reverse.length : Int) - 1) = (((t :: s).reverse.length : Int) - 1) := w64 (by omega) (by simp at h ⊢; omega)
    have hlen : (t :: s).reverse.length = s.length + 1 := by simp
    have hh : s.length + 1 + out.length ≤ 1000000 := by simpa using h
    by_cases c : t < rd l i
    · have e2 : passIn (rd l i) (t :: s) out = passIn (rd l i) s (out ++ [t]) := by rw [passIn, if_pos c]
      rw [e2] at hR
      refine Ev.step (f := fun k => tickingref02_Pass.l1 k l (out ++ [t]) s.reverse (i : Int)) (fun k => ?_) (Pass_l1 l i hi hl R s (out ++ [t]) (by simp; omega) hR)
      simp only [tickingref02_Pass.l1]
      rw [e1, rd_top, take_top, if_pos (by omega), if_pos (by omega), if_pos (by omega), if_pos (by omega), if_pos (by omega), if_pos c, if_pos (by omega), if_pos (by omega)]
    · have e2 : passIn (rd l i) (t :: s) out = (t :: s, out) := by rw [passIn, if_neg c]
      rw [e2] at hR
      refine Ev.step (fun k => ?_) hR
      simp only [tickingref02_Pass.l1]
      rw [e1, rd_top, if_pos (by omega), if_pos (by omega), if_pos (by omega), if_pos (by omega), if_pos (by omega), if_neg c, if_pos (by omega), w64 (by omega) (by omega)]
      rw [List.reverse_cons (a := rd l i)]
      rfl

def passOut (l : List Int) : List Int := (passGo l ([], [])).2 ++ (passGo l ([], [])).1

theorem Pass_l0 (l : List Int) (hl : l.length ≤ 1000000) : ∀ (d i : Nat), i + d = l.length → ∀ (s out : List Int), s.length + out.length = i →
    Ev (fun k => tickingref02_Pass.l0 k l out s.reverse (i : Int)) ((passGo (l.drop i) (s, out)).2 ++ (passGo (l.drop i) (s, out)).1)
  | 0, i, h, s, out, hs => by
    rw [List.drop_eq_nil_of_le (by omega)]
    refine Ev.step (f := fun k => tickingref02_Pass.l2 k out (s.reverse ++ []) ((s.length : Int) - 1)) (fun k => ?_) (Pass_l2 s out (by omega) [])
    simp only [tickingref02_Pass.l0]
    rw [if_neg (by omega), w64 (by simp; omega) (by simp; omega), List.append_nil, List.length_reverse]
  | d + 1, i, h, s, out, hs => by
    rw [drop_cons l i (by omega)]
    refine Ev.step (f := fun k => tickingref02_Pass.l1 k l out s.reverse (i : Int)) (fun k => ?_) ?_
    · simp only [tickingref02_Pass.l0]
      rw [if_pos (by omega)]
    · refine Pass_l1 l i (by omega) hl _ s out (by omega) ?_
      have hpl := passIn_len (rd l i) s out
      exact Pass_l0 l hl d (i + 1) (by omega) (rd l i :: (passIn (rd l i) s out).1) (passIn (rd l i) s out).2 (by simp; omega)
theorem Pass_ev (l : List Int) (hl : l.length ≤ 1000000) : Ev (fun k => tickingref02_Pass.f k l) (passOut l) := by
  have := Pass_l0 l hl l.length 0 (by omega) [] [] rfl
  exact this

theorem passGo_len : ∀ (xs s lft : List Int), (passGo xs (s, lft)).1.length + (passGo xs (s, lft)).2.length = xs.length + s.length + lft.length
  | [], s, lft => by simp [passGo]
  | x :: xs, s, lft => by
    have := passIn_len x s lft
    unfold passGo
    rw [passGo_len xs]
    simp; omega
theorem passOut_len (l : List Int) : (passOut l).length = l.length := by
  have := passGo_len l [] []
  unfold passOut
  simp at this ⊢
  omega
theorem OneStack_ev (l : List Int) (hl : l.length ≤ 1000000) : Ev (fun k => tickingref02_OneStack.f k l) (decide (Asc (passOut l))) := by
  refine Ev.congr (fun k => ?_) (Ev.bind (f := fun k t => (tickingref02_ascending.f k t).bind fun u => some u) (Pass_ev l hl) (Ev.bind (f := fun _ u => some u) (asc_ev (passOut l) (by rw [passOut_len]; exact hl)) (Ev.now _)))
  rfl

end Go.Proofs.Ytjbjongahnocdaa.P

/- One stack: what a pass sorts, what the stack sorts, and the pattern that neither does. -/
namespace Go.Proofs.Ytjbjongahnocdaa.P
open Go.RowKit Go.Proofs.Ytjbjongahnocdaa.S Go.Proofs.Ytjbjongahnocdaa.Defs Go.Proofs.YtjbjongahnocdaaW.PrintWords

/-- Nothing greater than t stands ahead of something smaller. -/
def NoPat (t : Int) (xs : List Int) : Prop := xs.Pairwise (fun x y => ¬ (y < t ∧ t < x))
def No231 : List Int → Prop
  | [] => True
  | a :: r => NoPat a r ∧ No231 r
instance (t : Int) (xs : List Int) : Decidable (NoPat t xs) := by unfold NoPat; infer_instance
instance no231dec : (l : List Int) → Decidable (No231 l)
  | [] => .isTrue trivial
  | a :: r => by
    have := no231dec r
    unfold No231
    infer_instance

theorem asc_cons (a : Int) (l : List Int) : Asc (a :: l) ↔ (∀ b ∈ l, a < b) ∧ Asc l := List.pairwise_cons
theorem asc_append (a b : List Int) : Asc (a ++ b) ↔ Asc a ∧ Asc b ∧ ∀ x ∈ a, ∀ y ∈ b, x < y := List.pairwise_append

theorem passIn_cut (x : Int) : ∀ s lft : List Int, Asc s → ∃ p s', s = p ++ s' ∧ (∀ t ∈ p, t < x) ∧ (∀ t ∈ s', x ≤ t) ∧ passIn x s lft = (s', lft ++ p)
  | [], lft, _ => ⟨[], [], rfl, by simp, by simp, by simp [passIn]⟩
  | t :: s, lft, h => by
    obtain ⟨h1, h2⟩ := (asc_cons t s).1 h
    by_cases c : t < x
    · obtain ⟨p, s', e1, e2, e3, e4⟩ := passIn_cut x s (lft ++ [t]) h2
      refine ⟨t :: p, s', by rw [e1]; rfl, ?_, e3, ?_⟩
      · intro y hy
        rcases List.mem_cons.1 hy with rfl | hy
        · exact c
        · exact e2 y hy
      · rw [passIn, if_pos c, e4, List.append_assoc]
        rfl
    · refine ⟨[], t :: s, rfl, by simp, ?_, by rw [passIn, if_neg c, List.append_nil]⟩
      intro y hy
      rcases List.mem_cons.1 hy with rfl | hy
      · omega
      · have := h1 y hy
        omega

theorem no231_cons (x : Int) (xs : List Int) : No231 (x :: xs) ↔ NoPat x xs ∧ No231 xs := Iff.rfl
theorem noPat_cons (t x : Int) (xs : List Int) : NoPat t (x :: xs) ↔ (∀ y ∈ xs, ¬ (y < t ∧ t < x)) ∧ NoPat t xs := List.pairwise_cons

theorem pass_iff : ∀ (xs s lft : List Int), Asc s → (∀ a ∈ s, a ∉ xs) → xs.Nodup →
    (Asc ((passGo xs (s, lft)).2 ++ (passGo xs (s, lft)).1) ↔ Asc lft ∧ (∀ a ∈ lft, ∀ b ∈ s, a < b) ∧ (∀ a ∈ lft, ∀ b ∈ xs, a < b) ∧ (∀ t ∈ s, NoPat t xs) ∧ No231 xs)
  | [], s, lft, hs, _, _ => by
    unfold passGo
    rw [asc_append]
    constructor
    · rintro ⟨h1, _, h3⟩
      exact ⟨h1, h3, by simp, fun t _ => List.Pairwise.nil, trivial⟩
    · rintro ⟨h1, h2, _⟩
      exact ⟨h1, hs, h2⟩
  | x :: xs, s, lft, hs, hd, hn => by
    obtain ⟨p, s', e1, e2, e3, e4⟩ := passIn_cut x s lft hs
    have hxs : x ∉ s := fun hm => hd x hm (by simp)
    obtain ⟨hn1, hn2⟩ := List.nodup_cons.1 hn
    have hs' : Asc s' := by rw [e1] at hs; exact ((asc_append _ _).1 hs).2.1
    have hp : Asc p := by rw [e1] at hs; exact ((asc_append _ _).1 hs).1
    have hps : ∀ a ∈ p, ∀ b ∈ s', a < b := by rw [e1] at hs; exact ((asc_append _ _).1 hs).2.2
    have hxs' : ∀ t ∈ s', x < t := fun t ht => by
      have h1 := e3 t ht
      have h2 : x ≠ t := fun e => hxs (by rw [e1, e]; exact List.mem_append_right _ ht)
      omega
    have hpx : ∀ t ∈ p, ∀ y ∈ xs, t ≠ y := fun t ht y hy e => hd t (by rw [e1]; exact List.mem_append_left _ ht) (by rw [e]; exact List.mem_cons_of_mem _ hy)
    unfold passGo
    rw [e4]
    have ih := pass_iff xs (x :: s') (lft ++ p) ((asc_cons _ _).2 ⟨hxs', hs'⟩) (fun a ha => by
      rcases List.mem_cons.1 ha with rfl | ha
      · exact hn1
      · exact fun hm => hd a (by rw [e1]; exact List.mem_append_right _ ha) (List.mem_cons_of_mem _ hm)) hn2
    rw [ih]
    constructor
    · rintro ⟨k1, k2, k3, k4, k5⟩
      obtain ⟨a1, a2, a3⟩ := (asc_append _ _).1 k1
      refine ⟨a1, ?_, ?_, ?_, k4 x (by simp), k5⟩
      · intro a ha b hb
        rw [e1] at hb
        rcases List.mem_append.1 hb with hb | hb
        · exact a3 a ha b hb
        · exact k2 a (List.mem_append_left _ ha) b (List.mem_cons_of_mem _ hb)
      · intro a ha b hb
        rcases List.mem_cons.1 hb with rfl | hb
        · exact k2 a (List.mem_append_left _ ha) b (by simp)
        · exact k3 a (List.mem_append_left _ ha) b hb
      · intro t ht
        rw [noPat_cons]
        rw [e1] at ht
        rcases List.mem_append.1 ht with ht | ht
        · have hy : ∀ y ∈ xs, t < y := fun y hy => k3 t (List.mem_append_right _ ht) y hy
          refine ⟨fun y hy' => by have := hy y hy'; omega, ?_⟩
          exact List.Pairwise.imp_of_mem (R := fun _ _ => True) (fun {a b} _ hb _ => by have := hy b hb; omega) (List.pairwise_of_forall (fun _ _ => trivial))
        · have := hxs' t ht
          exact ⟨fun y _ => by omega, k4 t (List.mem_cons_of_mem _ ht)⟩
    · rintro ⟨k1, k2, k3, k4, k5, k6⟩
      refine ⟨(asc_append _ _).2 ⟨k1, hp, fun a ha b hb => k2 a ha b (by rw [e1]; exact List.mem_append_left _ hb)⟩, ?_, ?_, ?_, k6⟩
      · intro a ha b hb
        rcases List.mem_append.1 ha with ha | ha
        · rcases List.mem_cons.1 hb with rfl | hb
          · exact k3 a ha b (by simp)
          · exact k2 a ha b (by rw [e1]; exact List.mem_append_right _ hb)
        · rcases List.mem_cons.1 hb with rfl | hb
          · exact e2 a ha
          · exact hps a ha b hb
      · intro a ha b hb
        rcases List.mem_append.1 ha with ha | ha
        · exact k3 a ha b (List.mem_cons_of_mem _ hb)
        · have h1 := ((noPat_cons _ _ _).1 (k4 a (by rw [e1]; exact List.mem_append_left _ ha))).1 b hb
          have h2 := e2 a ha
          have h3 := hpx a ha b hb
          omega
      · intro t ht
        rcases List.mem_cons.1 ht with rfl | ht
        · exact k5
        · exact ((noPat_cons _ _ _).1 (k4 t (by rw [e1]; exact List.mem_append_right _ ht))).2

theorem passOut_asc (l : List Int) (h : l.Nodup) : Asc (passOut l) ↔ No231 l := by
  unfold passOut
  rw [pass_iff l [] [] List.Pairwise.nil (by simp) h]
  exact ⟨fun h => h.2.2.2.2, fun h => ⟨List.Pairwise.nil, by simp, by simp, by simp, h⟩⟩

/-! ### the block -/
theorem rd_succ (x : Int) (l : List Int) (i : Nat) : rd (x :: l) ((i + 1 : Nat) : Int) = rd l (i : Int) := by
  rw [rd_nat, rd_nat, List.getD_cons_succ]
theorem noPat_pos (t : Int) (l : List Int) : NoPat t l ↔ ∀ b c : Nat, b < c → c < l.length → ¬ (rd l c < t ∧ t < rd l b) := by
  unfold NoPat
  rw [List.pairwise_iff_getElem]
  constructor
  · intro h b c hbc hc
    have := h b c (by omega) hc hbc
    rw [rd_lt l b (by omega), rd_lt l c hc]
    exact this
  · intro h b c hb hc hbc
    have := h b c hbc hc
    rw [rd_lt l b (by omega), rd_lt l c hc] at this
    exact this
theorem no231_pos : ∀ l : List Int, No231 l ↔ ∀ a b c : Nat, a < b → b < c → c < l.length → ¬ (rd l c < rd l a ∧ rd l a < rd l b)
  | [] => by simp [No231]
  | x :: l => by
    unfold No231
    rw [noPat_pos, no231_pos l]
    constructor
    · rintro ⟨h1, h2⟩ a b c hab hbc hc
      obtain ⟨b, rfl⟩ : ∃ b', b = b' + 1 := ⟨b - 1, by omega⟩
      obtain ⟨c, rfl⟩ : ∃ c', c = c' + 1 := ⟨c - 1, by omega⟩
      have hc' : c < l.length := by simpa using hc
      cases a with
      | zero =>
        have := h1 b c (by omega) hc'
        rw [rd_succ, rd_succ]
        exact this
      | succ a =>
        have := h2 a b c (by omega) (by omega) hc'
        rw [rd_succ, rd_succ, rd_succ]
        exact this
    · intro h
      refine ⟨fun b c hbc hc => ?_, fun a b c hab hbc hc => ?_⟩
      · have := h 0 (b + 1) (c + 1) (by omega) (by omega) (by simpa using hc)
        rw [rd_succ, rd_succ] at this
        exact this
      · have := h (a + 1) (b + 1) (c + 1) (by omega) (by omega) (by simpa using hc)
        rw [rd_succ, rd_succ, rd_succ] at this
        exact this

/-- What 'blocking' finds. -/
def Found (l : List Int) (a b : Nat) (r : Int) : Prop :=
  (r = 0 ∧ ∀ c : Nat, b < c → c < l.length → ¬ (rd l c < rd l a ∧ rd l a ≤ rd l b)) ∨ ∃ c : Nat, r = c ∧ b < c ∧ c < l.length ∧ rd l c < rd l a ∧ rd l a ≤ rd l b

theorem blocking_loop (l : List Int) (a b : Nat) (ha : a < l.length) (hl : l.length ≤ 1000000) (hab : rd l a ≤ rd l b) : ∀ (d i : Nat), i + d = l.length → b < i → (∀ c : Nat, b < c → c < i → ¬ rd l c < rd l a) →
    ∃ r, Ev (fun k => shunt_blocking.l0 k l (a : Int) (i : Int)) r ∧ Found l a b r
  | 0, i, h, hb, hno => by
    refine ⟨0, Ev.step (fun k => ?_) (Ev.now _), .inl ⟨rfl, fun c h1 h2 h3 => hno c h1 (by omega) h3.1⟩⟩
    simp only [shunt_blocking.l0]
    rw [if_neg (by omega)]
  | d + 1, i, h, hb, hno => by
    by_cases c : rd l (i : Int) < rd l a
    · refine ⟨i, Ev.step (fun k => ?_) (Ev.now _), .inr ⟨i, rfl, hb, by omega, c, hab⟩⟩
      simp only [shunt_blocking.l0]
      rw [if_pos (by omega), if_pos (by omega), if_pos (by omega), if_pos (by omega), if_pos c]
    · obtain ⟨r, h1, h2⟩ := blocking_loop l a b ha hl hab d (i + 1) (by omega) (by omega) (fun c' h3 h4 => by
        by_cases e : c' = i
        · subst e; exact c
        · exact hno c' h3 (by omega))
      refine ⟨r, Ev.step (fun k => ?_) h1, h2⟩
      simp only [shunt_blocking.l0]
      rw [if_pos (by omega), if_pos (by omega), if_pos (by omega), if_pos (by omega), if_neg c, w64 (by omega) (by omega)]
      rfl
theorem blocking_ev (l : List Int) (a b : Nat) (ha : a < l.length) (hb : b < l.length) (hl : l.length ≤ 1000000) : ∃ r, Ev (fun k => shunt_blocking.f k l (a : Int) (b : Int)) r ∧ Found l a b r := by
  by_cases c : rd l a > rd l b
  · refine ⟨0, Ev.congr (fun k => ?_) (Ev.now _), .inl ⟨rfl, fun c' _ _ h => by omega⟩⟩
    unfold shunt_blocking.f
    rw [if_pos (by omega), if_pos (by omega), if_pos (by omega), if_pos (by omega), if_pos c]
  · obtain ⟨r, h1, h2⟩ := blocking_loop l a b ha hl (by omega) (l.length - (b + 1)) (b + 1) (by omega) (by omega) (fun c' h3 h4 => by omega)
    refine ⟨r, Ev.congr (fun k => ?_) h1, h2⟩
    unfold shunt_blocking.f
    rw [if_pos (by omega), if_pos (by omega), if_pos (by omega), if_pos (by omega), if_neg c, w64 (by omega) (by omega)]
    rfl

/-- What 'block' returns. -/
def BlockOf (l r : List Int) : Prop :=
  (r = [] ∧ ∀ a b c : Nat, a < b → b < c → c < l.length → ¬ (rd l c < rd l a ∧ rd l a ≤ rd l b)) ∨
    ∃ a b c : Nat, r = [(a : Int), (b : Int), (c : Int)] ∧ a < b ∧ b < c ∧ c < l.length ∧ rd l c < rd l a ∧ rd l a ≤ rd l b

theorem block_l1 (l : List Int) (b : Nat) (hb : b < l.length) (hl : l.length ≤ 1000000) (hrest : (∀ a c : Nat, a < b → b < c → c < l.length → ¬ (rd l c < rd l a ∧ rd l a ≤ rd l b)) → ∃ r, Ev (fun k => shunt_block.l0 k l (l.length : Int) ((b + 1 : Nat) : Int)) r ∧ BlockOf l r) : ∀ (d a : Nat), a + d = b →
    (∀ a' c : Nat, a' < a → b < c → c < l.length → ¬ (rd l c < rd l a' ∧ rd l a' ≤ rd l b)) → ∃ r, Ev (fun k => shunt_block.l1 k l (b : Int) (l.length : Int) (b : Int) (b : Int) (a : Int)) r ∧ BlockOf l r
  | 0, a, h, hno => by
    obtain ⟨r, h1, h2⟩ := hrest (fun a' c h1 => hno a' c (by omega))
    refine ⟨r, Ev.step (fun k => ?_) h1, h2⟩
    simp only [shunt_block.l1]
    rw [if_neg (by omega), w64 (by omega) (by omega)]
    rfl
  | d + 1, a, h, hno => by
    obtain ⟨q, q1, q2⟩ := blocking_ev l a b (by omega) hb hl
    rcases q2 with ⟨rfl, q2⟩ | ⟨c, rfl, q3, q4, q5, q6⟩
    · obtain ⟨r, h1, h2⟩ := block_l1 l b hb hl hrest d (a + 1) (by omega) (fun a' c h3 h4 h5 => by
        by_cases e : a' = a
        · subst e; exact q2 c h4 h5
        · exact hno a' c (by omega) h4 h5)
      refine ⟨r, ?_, h2⟩
      refine Ev.step (f := fun k => (shunt_blocking.f k l (a : Int) (b : Int)).bind fun t => if t > 0 then some [(a : Int), (b : Int), t] else shunt_block.l1 k l (b : Int) (l.length : Int) (b : Int) (b : Int) (wrap64 ((a : Int) + 1))) (fun k => ?_) (Ev.bind q1 ?_)
      · simp only [shunt_block.l1]
        rw [if_pos (by omega)]
      · refine Ev.congr (fun k => ?_) h1
        rw [if_neg (by omega), w64 (by omega) (by omega)]
        rfl
    · refine ⟨[(a : Int), (b : Int), (c : Int)], ?_, .inr ⟨a, b, c, rfl, by omega, q3, q4, q5, q6⟩⟩
      refine Ev.step (f := fun k => (shunt_blocking.f k l (a : Int) (b : Int)).bind fun t => if t > 0 then some [(a : Int), (b : Int), t] else shunt_block.l1 k l (b : Int) (l.length : Int) (b : Int) (b : Int) (wrap64 ((a : Int) + 1))) (fun k => ?_) (Ev.bind q1 ?_)
      · simp only [shunt_block.l1]
        rw [if_pos (by omega)]
      · refine Ev.congr (fun k => ?_) (Ev.now _)
        rw [if_pos (by omega)]
theorem block_l0 (l : List Int) (hl : l.length ≤ 1000000) : ∀ (d b : Nat), b + d = l.length → (∀ a b' c : Nat, a < b' → b' < b → b' < c → c < l.length → ¬ (rd l c < rd l a ∧ rd l a ≤ rd l b')) →
    ∃ r, Ev (fun k => shunt_block.l0 k l (l.length : Int) (b : Int)) r ∧ BlockOf l r
  | 0, b, h, hno => by
    refine ⟨[], Ev.step (fun k => ?_) (Ev.now _), .inl ⟨rfl, fun a b' c h1 h2 h3 => hno a b' c h1 (by omega) h2 h3⟩⟩
    simp only [shunt_block.l0]
    rw [if_neg (by omega)]
  | d + 1, b, h, hno => by
    obtain ⟨r, h1, h2⟩ := block_l1 l b (by omega) hl (fun hb => block_l0 l hl d (b + 1) (by omega) (fun a b' c h1 h2 h3 h4 => by
      by_cases e : b' = b
      · subst e; exact hb a c h1 h3 h4
      · exact hno a b' c h1 (by omega) h3 h4)) b 0 (by omega) (fun a' c h => by omega)
    refine ⟨r, Ev.step (fun k => ?_) h1, h2⟩
    simp only [shunt_block.l0]
    rw [if_pos (by omega)]
    rfl
theorem block_ev (l : List Int) (hl : l.length ≤ 1000000) : ∃ r, Ev (fun k => shunt_block.f k l) r ∧ BlockOf l r := by
  obtain ⟨r, h1, h2⟩ := block_l0 l hl l.length 0 (by omega) (fun a b c h h' => by omega)
  exact ⟨r, h1, h2⟩
theorem blockOf_nil {l r : List Int} (h : BlockOf l r) (hd : l.Nodup) : r = [] ↔ No231 l := by
  rw [no231_pos]
  rcases h with ⟨rfl, h⟩ | ⟨a, b, c, rfl, h1, h2, h3, h4, h5⟩
  · exact ⟨fun _ a b c k1 k2 k3 k4 => h a b c k1 k2 k3 ⟨k4.1, by omega⟩, fun _ => rfl⟩
  · refine ⟨fun e => (by cases e), fun h => absurd ⟨h4, ?_⟩ (h a b c h1 h2 h3)⟩
    rw [rd_lt l a (by omega), rd_lt l b (by omega)] at h5 ⊢
    have : l[a] ≠ l[b] := List.pairwise_iff_getElem.1 hd a b (by omega) (by omega) h1
    omega

/-! ### what the stack sorts -/
theorem drain_cut : ∀ s lft plan : List Int, ∃ d s', s = d ++ s' ∧ drainS s lft plan = (s', lft ++ d, plan ++ List.replicate d.length 111) ∧ (∀ t ∈ d, (lft.length : Int) < t ∧ t ≤ lft.length + d.length) ∧ Asc d ∧ ∀ h t, s' = h :: t → h ≠ (lft.length : Int) + d.length + 1
  | [], lft, plan => ⟨[], [], rfl, by simp [drainS], by simp, List.Pairwise.nil, fun h t e => by cases e⟩
  | x :: s, lft, plan => by
    by_cases c : x = (lft.length : Int) + 1
    · obtain ⟨d, s', e1, e2, e3, e4, e5⟩ := drain_cut s (lft ++ [x]) (plan ++ [111])
      have hl : (lft ++ [x]).length = lft.length + 1 := by simp
      rw [hl] at e3 e5
      refine ⟨x :: d, s', by rw [e1]; rfl, ?_, ?_, (asc_cons _ _).2 ⟨fun b hb => ?_, e4⟩, fun h t e => ?_⟩
      · rw [drainS, if_pos c, e2, List.append_assoc, List.append_assoc]
        rfl
      · intro t ht
        rw [List.length_cons]
        rcases List.mem_cons.1 ht with rfl | ht
        · omega
        · have := e3 t ht
          omega
      · have := e3 b hb
        omega
      · have := e5 h t e
        rw [List.length_cons]
        omega
    · refine ⟨[], x :: s, rfl, by rw [drainS, if_neg c]; simp, by simp, List.Pairwise.nil, fun h t e => ?_⟩
      injection e with e _
      subst e
      simpa using c

/-- The stack s, what has left, and what is still to come, of an order of n items. -/
structure OnWay (n : Nat) (s lft xs : List Int) : Prop where
  nodup : (s ++ xs).Nodup
  range : ∀ a ∈ s ++ xs, (lft.length : Int) < a ∧ a ≤ n
  count : s.length + xs.length + lft.length = n
  left : lft = (List.range lft.length).map (fun i => ((i : Nat) : Int) + 1)

theorem asc_range (d : List Int) (lo : Int) (hd : Asc d) (h : ∀ t ∈ d, lo < t ∧ t ≤ lo + d.length) : d = (List.range d.length).map (fun i => lo + 1 + ((i : Nat) : Int)) := by
  induction d generalizing lo with
  | nil => rfl
  | cons a t ih =>
    obtain ⟨h1, h2⟩ := (asc_cons a t).1 hd
    have hn : (a :: t).Nodup := List.Pairwise.imp (fun {x y} (h : x < y) => by omega) hd
    have hm := full_range (a :: t).length (a :: t) lo hn h rfl (lo + 1) (by omega) (by simp; omega)
    have ha : a = lo + 1 := by
      rcases List.mem_cons.1 hm with e | hm
      · exact e.symm
      · have := h1 _ hm
        have := h a (by simp)
        omega
    have := ih (lo + 1) h2 (fun b hb => by
      have := h1 b hb
      have := h b (List.mem_cons_of_mem _ hb)
      rw [List.length_cons] at this
      omega)
    rw [List.length_cons, List.range_succ_eq_map, List.map_cons, List.map_map, ha]
    congr 1
    · omega
    · refine this.trans (List.map_congr_left fun i _ => ?_)
      simp only [Function.comp]
      omega

theorem OnWay.step {n : Nat} {s lft xs : List Int} {x : Int} {plan : List Int} (h : OnWay n s lft (x :: xs)) : ∃ d s', x :: s = d ++ s' ∧ drainS (x :: s) lft plan = (s', lft ++ d, plan ++ List.replicate d.length 111) ∧ (∀ t ∈ d, (lft.length : Int) < t ∧ t ≤ lft.length + d.length) ∧ Asc d ∧ (∀ h t, s' = h :: t → h ≠ ((lft ++ d).length : Int) + 1) ∧ OnWay n s' (lft ++ d) xs := by
  obtain ⟨d, s', e1, e2, e3, e4, e5⟩ := drain_cut (x :: s) lft plan
  have hperm : (d ++ (s' ++ xs)).Perm (s ++ x :: xs) := by
    rw [← List.append_assoc, ← e1, List.cons_append]
    exact List.perm_middle.symm
  have hnd : (d ++ (s' ++ xs)).Nodup := hperm.nodup_iff.2 h.nodup
  obtain ⟨n1, n2, n3⟩ := List.nodup_append.1 hnd
  refine ⟨d, s', e1, e2, e3, e4, fun a t e => by have := e5 a t e; rw [List.length_append]; omega, ⟨n2, fun a ha => ?_, ?_, ?_⟩⟩
  · have hr := h.range a (hperm.mem_iff.1 (List.mem_append_right _ ha))
    refine ⟨?_, hr.2⟩
    rw [List.length_append]
    by_cases hle : a ≤ lft.length + d.length
    · have := full_range d.length d lft.length n1 e3 rfl a hr.1 hle
      exact absurd rfl (n3 a this a ha)
    · omega
  · have := h.count
    have hl := congrArg List.length e1
    rw [List.length_append, List.length_cons] at hl
    rw [List.length_append]
    simp only [List.length_cons] at this
    omega
  · have := asc_range d lft.length e4 e3
    rw [List.length_append, List.range_add, List.map_append]
    congr 1
    · exact h.left
    · rw [List.map_map]
      refine this.trans (List.map_congr_left fun i _ => ?_)
      simp only [Function.comp]
      omega

theorem stack_iff (n : Nat) : ∀ (xs s lft plan : List Int), OnWay n s lft xs → (∀ h t, s = h :: t → h ≠ (lft.length : Int) + 1) →
    ((stackGo xs (s, lft, plan)).2.1.length = n ↔ Asc s ∧ (∀ t ∈ s, NoPat t xs) ∧ No231 xs)
  | [], s, lft, plan, h, hd => by
    unfold stackGo
    have hc := h.count
    simp only [List.length_nil] at hc
    constructor
    · intro e
      have : s = [] := List.eq_nil_of_length_eq_zero (by simp only at e; omega)
      subst this
      exact ⟨List.Pairwise.nil, by simp, trivial⟩
    · rintro ⟨ha, _⟩
      cases s with
      | nil => simp only at hc ⊢; simp at hc; exact hc
      | cons a t =>
        exfalso
        have h1 := (asc_cons a t).1 ha
        have hr := h.range
        have hnd := h.nodup
        rw [List.append_nil] at hr hnd
        have hm := full_range (a :: t).length (a :: t) lft.length hnd (fun b hb => by have := hr b hb; omega) rfl ((lft.length : Int) + 1) (by omega) (by simp; omega)
        rcases List.mem_cons.1 hm with e | hm
        · exact hd a t rfl e.symm
        · have := h1.1 _ hm
          have := hr a (by simp)
          omega
  | x :: xs, s, lft, plan, h, hd => by
    obtain ⟨d, s', e1, e2, e3, e4, e5, hw⟩ := h.step (plan := plan ++ [105])
    unfold stackGo
    rw [e2, stack_iff n xs s' (lft ++ d) _ hw e5]
    have hnd := h.nodup
    have hxs : ∀ t ∈ s, t ≠ x := fun t ht e => (List.nodup_append.1 hnd).2.2 t ht x (by simp) e
    have hsx : ∀ t ∈ s, ∀ y ∈ xs, t ≠ y := fun t ht y hy => (List.nodup_append.1 hnd).2.2 t ht y (by simp [hy])
    cases d with
    | nil =>
      rw [List.nil_append] at e1
      rw [← e1, asc_cons, no231_cons]
      constructor
      · rintro ⟨⟨h1, h2⟩, h3, h4⟩
        refine ⟨h2, fun t ht => (noPat_cons _ _ _).2 ⟨fun y hy => by have := h1 t ht; omega, h3 t (by simp [ht])⟩, h3 x (by simp), h4⟩
      · rintro ⟨h2, h3, h4, h5⟩
        refine ⟨⟨fun t ht => ?_, h2⟩, fun t ht => ?_, h5⟩
        · by_cases hlt : x < t
          · exact hlt
          · exfalso
            have hne := hxs t ht
            have hp := ((noPat_cons _ _ _).1 (h3 t ht)).1
            have hm := full_range (s ++ x :: xs).length (s ++ x :: xs) lft.length hnd (fun b hb => by have := h.range b hb; have := h.count; simp at *; omega) rfl ((lft.length : Int) + 1) (by omega) (by simp; omega)
            rcases List.mem_append.1 hm with hm | hm
            · cases s with
              | nil => cases ht
              | cons a r =>
                rcases List.mem_cons.1 hm with e | hm
                · exact hd a r rfl e.symm
                · have h6 := ((asc_cons a r).1 h2).1 _ hm
                  have h7 := h.range a (by simp)
                  omega
            · rcases List.mem_cons.1 hm with e | hm
              · have := e5 x s e1.symm
                simp at this
                omega
              · have h6 := hp _ hm
                have h7 := hsx t ht _ hm
                have h8 := h.range t (by simp [ht])
                omega
        · rcases List.mem_cons.1 ht with rfl | ht
          · exact h4
          · exact ((noPat_cons _ _ _).1 (h3 t ht)).2
    | cons a d' =>
      injection e1 with e0 e1
      subst e0
      have hx : x = (lft.length : Int) + 1 := by
        have hm := full_range (x :: d').length (x :: d') lft.length (List.Pairwise.imp (fun {x y} (h : x < y) => by omega) e4) e3 rfl ((lft.length : Int) + 1) (by omega) (by simp; omega)
        rcases List.mem_cons.1 hm with e | hm
        · exact e.symm
        · have := ((asc_cons x d').1 e4).1 _ hm
          have := h.range x (by simp)
          omega
      have hbig : ∀ b ∈ s' ++ xs, ((lft ++ x :: d').length : Int) < b := fun b hb => (hw.range b hb).1
      have hlen : ((lft ++ x :: d').length : Int) = lft.length + (x :: d').length := by simp
      replace e1 : s = d' ++ s' := e1
      rw [no231_cons, e1, asc_append]
      constructor
      · rintro ⟨h1, h2, h3⟩
        refine ⟨⟨((asc_cons x d').1 e4).2, h1, fun u hu v hv => ?_⟩, fun t ht => (noPat_cons _ _ _).2 ⟨fun y hy => ?_, ?_⟩, ?_, h3⟩
        · have := e3 u (List.mem_cons_of_mem _ hu)
          have := hbig v (List.mem_append_left _ hv)
          omega
        · have := hbig y (List.mem_append_right _ hy)
          have : (lft.length : Int) < t ∧ t ≤ n := h.range t (by rw [e1]; exact List.mem_append_left _ ht)
          omega
        · rcases List.mem_append.1 ht with ht | ht
          · exact List.Pairwise.imp_of_mem (R := fun _ _ => True) (fun {u v} _ hv _ => by
              have := hbig v (List.mem_append_right _ hv)
              have := e3 t (List.mem_cons_of_mem _ ht)
              omega) (List.pairwise_of_forall (fun _ _ => trivial))
          · exact h2 t ht
        · exact List.Pairwise.imp_of_mem (R := fun _ _ => True) (fun {u v} _ hv _ => by
              have := hbig v (List.mem_append_right _ hv)
              have : 0 < (x :: d').length := by simp
              omega) (List.pairwise_of_forall (fun _ _ => trivial))
      · rintro ⟨⟨_, h1, _⟩, h2, _, h3⟩
        exact ⟨h1, fun t ht => ((noPat_cons _ _ _).1 (h2 t (List.mem_append_right _ ht))).2, h3⟩

theorem onWay_start (l : List Int) (h : IsOrd l) : OnWay l.length [] [] l :=
  ⟨by simpa using h.1, fun a ha => by have := h.2 a (by simpa using ha); simp; omega, by simp, rfl⟩
theorem stack_full (l : List Int) (h : IsOrd l) : (stackGo l ([], [], [])).2.1.length = l.length ↔ No231 l := by
  rw [stack_iff l.length l [] [] [] (onWay_start l h) (fun _ _ e => by cases e)]
  exact ⟨fun h => h.2.2, fun h => ⟨List.Pairwise.nil, by simp, h⟩⟩

theorem drainS_le : ∀ s lft plan : List Int, (drainS s lft plan).2.1.length + (drainS s lft plan).1.length = lft.length + s.length
  | [], lft, plan => by simp [drainS]
  | x :: s, lft, plan => by
    rw [drainS]
    split
    · rw [drainS_le s]; simp; omega
    · rfl
theorem stackGo_le : ∀ (l : List Int) (st : List Int × List Int × List Int), (stackGo l st).2.1.length ≤ st.2.1.length + st.1.length + l.length
  | [], (s, lft, plan) => by simp [stackGo]
  | x :: l, (s, lft, plan) => by
    have h1 := stackGo_le l (drainS (x :: s) lft (plan ++ [105]))
    have h2 := drainS_le (x :: s) lft (plan ++ [105])
    rw [stackGo]
    simp only [List.length_cons] at h2 ⊢
    omega

end Go.Proofs.Ytjbjongahnocdaa.P

namespace Go.Proofs.Ytjbjongahnocdaa.S
open Go.Proofs.Ytjbjongahnocdaa.Lib
open Go.Proofs.Ytjbjongahnocdaa.Defs
open Go.Maps (Keyed)
open Go.RowKit Go.Proofs.YtjbjongahnocdaaW.PrintWords Go.Proofs.YtjbjongahnocdaaW.PrintLast Go.Proofs.YtjbjongahnocdaaW.PrintMore
attribute [local go_sem] max2_int min2_int max_two min_two max_three min_three max_four min_four   -- for this text's walks alone
set_option linter.unusedVariables false
set_option linter.unusedSimpArgs false

/-! ### tickingref02_at: function 65 -/
def tickingref02_at.l0 : Nat → List Int → Int → Int → Option (Bool)
  | 0, _, _, _ => none
  | k + 1, x0, x1, x5 => if x5 < (x0.length : Int) then (if 0 ≤ x5 then (if (rd x0 x5) < 0 then (some false) else (if (rd x0 x5) ≥ x1 then (some false) else (if x5 ≤ (x0.length : Int) then ((tickingref02_has.f k (x0.take (x5 : Int).toNat) (rd x0 x5)).bind fun t322 => (if t322 = true then (some false) else (tickingref02_at.l0 k x0 x1 (wrap64 (x5 + 1))))) else (none)))) else (none)) else (some true)
def tickingref02_at.f (k : Nat) (l0 : List Int) (a1 : Int) : Option (Bool) := tickingref02_at.l0 k l0 a1 0
theorem tickingref02_at.mono_l : ∀ k, (∀ y0 y1 y2, LeO (tickingref02_at.l0 k y0 y1 y2) (tickingref02_at.l0 (k + 1) y0 y1 y2))
  | 0 => fun _ _ _ r h => by simp [tickingref02_at.l0] at h
  | k + 1 => by
    have ih0 := tickingref02_at.mono_l k
    · intro y0 y1 y2
      unfold tickingref02_at.l0
      repeat' first
      | (with_reducible exact ih0 _ _ _)
      | (with_reducible exact tickingref02_has.mono _ _ _)
      | (with_reducible exact LeO.refl _)
      | (with_reducible exact LeO.none _)
      | (with_reducible refine LeO.ite ?_ ?_)
      | (with_reducible refine LeO.bind ?_ (fun _ => ?_))
      | exact ih0 _ _ _
      | exact tickingref02_has.mono _ _ _
      | exact LeO.none _
      | refine LeO.ite ?_ ?_
      | refine LeO.bind ?_ (fun _ => ?_)
theorem tickingref02_at.mono : ∀ a0 a1 k, LeO (tickingref02_at.f k a0 a1) (tickingref02_at.f (k + 1) a0 a1) := by
  intro a0 a1 k
  have ih0 := tickingref02_at.mono_l k
  unfold tickingref02_at.f
  repeat' first
      | (with_reducible exact ih0 _ _ _)
      | (with_reducible exact tickingref02_has.mono _ _ _)
      | (with_reducible exact LeO.refl _)
      | (with_reducible exact LeO.none _)
      | (with_reducible refine LeO.ite ?_ ?_)
      | (with_reducible refine LeO.bind ?_ (fun _ => ?_))
      | exact ih0 _ _ _
      | exact tickingref02_has.mono _ _ _
      | exact LeO.none _
      | refine LeO.ite ?_ ?_
      | refine LeO.bind ?_ (fun _ => ?_)
set_option maxHeartbeats 8000000 in
set_option maxRecDepth 100000 in
theorem tickingref02_at.calls (k : Nat) (A0 : Option Addr) (c0 : Nat) (l0 : List Int) (a1 : Int) (r : Bool) (w : World) (hr0 : Kd.C (Kd.int .i64) w A0 l0.length l0) (hc0 : l0.length ≤ c0) (h : tickingref02_at.f k l0 a1 = some r) :
    Calls Try.prog 65 #[.slice A0 l0.length c0, .int .i64 a1] w fun e w' => e = .returned (.bool r) ∧ Drawn0 w w' := by
  have HR0 := Aside0.mk hr0
  have HC0 := Aside0.mk hc0
  clear hr0 hc0
  have H : (tickingref02_at.l0 k l0 a1 0) = some r := h
  clear h
  have H' := Aside0.mk H
  clear H
  go_enter Try.func65, Try.ntmps65
  go_wp2
  repeat (go_quiet (fail); try go_wp2)
  go_loopg [5] k (fun kq v5 w' => ∃ (x5_1 : Int), v5 = .int .i64 x5_1 ∧ Aside0 (tickingref02_at.l0 kq l0 a1 x5_1 = some r) ∧ Aside0 (kq ≤ k) ∧ Drawn0 w w')
  case atStart => exact ⟨(0), (by first | rfl | (simp; done) | (simp [*]; done)), H', ⟨Nat.le_refl _⟩, by repeat (first | exact Drawn0.refl _ | apply Drawn0.step)⟩
  case round =>
    clear H'
    try clear p2
    obtain ⟨x5_1, rfl, HA, HK1, ⟨m1, rfl⟩⟩ := hrel
    cases gk with
    | zero => exact absurd HA.out (by simp [tickingref02_at.l0])
    | succ k1 =>
      have H := HA.out
      clear HA
      simp only [tickingref02_at.l0] at H
      by_cases c3 : x5_1 < (l0.length : Int)
      · rw [if_pos c3] at H
        have c3b0 : decide (x5_1 < (l0.length : Int)) = true := decide_eq_true c3
        clear c3
        by_cases c4 : 0 ≤ x5_1
        · rw [if_pos c4] at H
          have c4b0 : decide (0 ≤ x5_1) = true := decide_eq_true c4
          clear c4
          by_cases c5 : (rd l0 x5_1) < 0
          · rw [if_pos c5] at H
            have c5b0 : decide ((rd l0 x5_1) < 0) = true := decide_eq_true c5
            clear c5
            obtain rfl := Option.some.inj H
            have p318 : 0 ≤ (x5_1 : Int) := of_decide_eq_true (by first | (with_reducible assumption) | assumption)
            have q318 : x5_1 < (l0.length : Int) := of_decide_eq_true (by first | (with_reducible assumption) | assumption)
            obtain ⟨ad318, e318, hx318_0⟩ := Kd.at_int HR0.out x5_1 p318 q318
            cases e318
            replace p318 := eq_true p318
            replace q318 := eq_true q318
            go_wp2
            repeat (go_quiet (fail); try go_wp2)
            go_ret
            exact ⟨by first | rfl | (simp; done) | (simp [*]; done), by repeat (first | exact Drawn0.refl _ | apply Drawn0.step)⟩
          · rw [if_neg c5] at H
            have c5b0 : decide ((rd l0 x5_1) < 0) = false := decide_eq_false c5
            clear c5
            by_cases c6 : (rd l0 x5_1) ≥ a1
            · rw [if_pos c6] at H
              have c6b0 : decide (a1 ≤ (rd l0 x5_1)) = true := decide_eq_true c6
              clear c6
              obtain rfl := Option.some.inj H
              have p318 : 0 ≤ (x5_1 : Int) := of_decide_eq_true (by first | (with_reducible assumption) | assumption)
              have q318 : x5_1 < (l0.length : Int) := of_decide_eq_true (by first | (with_reducible assumption) | assumption)
              obtain ⟨ad318, e318, hx318_0⟩ := Kd.at_int HR0.out x5_1 p318 q318
              cases e318
              replace p318 := eq_true p318
              replace q318 := eq_true q318
              have p319 : 0 ≤ (x5_1 : Int) := of_decide_eq_true (by first | (with_reducible assumption) | assumption)
              have q319 : x5_1 < (l0.length : Int) := of_decide_eq_true (by first | (with_reducible assumption) | assumption)
              obtain ⟨ad319, e319, hx319_0⟩ := Kd.at_int HR0.out x5_1 p319 q319
              obtain rfl : ad318 = ad319 := (by injection e319)
              replace p319 := eq_true p319
              replace q319 := eq_true q319
              go_wp2
              repeat (go_quiet (fail); try go_wp2)
              go_ret
              exact ⟨by first | rfl | (simp; done) | (simp [*]; done), by repeat (first | exact Drawn0.refl _ | apply Drawn0.step)⟩
            · rw [if_neg c6] at H
              have c6b0 : decide (a1 ≤ (rd l0 x5_1)) = false := decide_eq_false c6
              clear c6
              have c7b0 := eq_true (of_decide_eq_true (by first | (with_reducible assumption) | assumption) : 0 ≤ x5_1)
              by_cases c8 : x5_1 ≤ (l0.length : Int)
              · rw [if_pos c8] at H
                have c8b0 := eq_true c8
                have c8b1 : decide (x5_1 ≤ (l0.length : Int)) = true := decide_eq_true c8
                clear c8
                replace H := Option.bind_eq_some_iff.mp H
                obtain ⟨t322, A90, H⟩ := H
                replace H : (if t322 = true then (some false) else (tickingref02_at.l0 k1 l0 a1 (wrap64 (x5_1 + 1)))) = some r := H
                have A9 := Aside0.mk A90
                clear A90
                by_cases c10 : t322 = true
                · subst c10
                  have H1 : (some false) = some r := by rw [if_pos rfl] at H; exact H
                  clear H
                  have H := H1
                  clear H1
                  obtain rfl := Option.some.inj H
                  have p318 : 0 ≤ (x5_1 : Int) := of_decide_eq_true (by first | (with_reducible assumption) | assumption)
                  have q318 : x5_1 < (l0.length : Int) := of_decide_eq_true (by first | (with_reducible assumption) | assumption)
                  obtain ⟨ad318, e318, hx318_0⟩ := Kd.at_int HR0.out x5_1 p318 q318
                  cases e318
                  replace p318 := eq_true p318
                  replace q318 := eq_true q318
                  have p319 : 0 ≤ (x5_1 : Int) := of_decide_eq_true (by first | (with_reducible assumption) | assumption)
                  have q319 : x5_1 < (l0.length : Int) := of_decide_eq_true (by first | (with_reducible assumption) | assumption)
                  obtain ⟨ad319, e319, hx319_0⟩ := Kd.at_int HR0.out x5_1 p319 q319
                  obtain rfl : ad318 = ad319 := (by injection e319)
                  replace p319 := eq_true p319
                  replace q319 := eq_true q319
                  obtain ⟨i011, hi011, _, hsz11, _⟩ := info_parts info3
                  obtain ⟨hcut11, hA11, hC11⟩ := print_take_of (P := Try.prog) (Value.int .i64) 0 22 3 .i64 Try.underlying22 hi011 hsz11 (some ad318) c0 l0 x5_1 (of_decide_eq_true (by first | (with_reducible assumption) | assumption)) (of_decide_eq_true (by first | (with_reducible assumption) | assumption)) HC0.out
                  have HR320 := Aside0.mk (Kd.C_of_reads (h1 := fun _ => rfl) (hA11 _ (Kd.reads_of_C HR0.out)))
                  have HC320 := Aside0.mk hC11
                  clear hA11 hC11 hi011 hsz11
                  obtain ⟨tk11, htk11⟩ : ∃ tk_ : List Int, (l0.take (x5_1 : Int).toNat) = tk_ := ⟨_, rfl⟩
                  simp only [htk11] at *
                  have Htk11 := Aside0.mk htk11
                  clear htk11
                  have p321 : 0 ≤ (x5_1 : Int) := of_decide_eq_true (by first | (with_reducible assumption) | assumption)
                  have q321 : x5_1 < (l0.length : Int) := of_decide_eq_true (by first | (with_reducible assumption) | assumption)
                  obtain ⟨ad321, e321, hx321_0⟩ := Kd.at_int HR0.out x5_1 p321 q321
                  obtain rfl : ad318 = ad321 := (by injection e321)
                  replace p321 := eq_true p321
                  replace q321 := eq_true q321
                  go_wp2_with (first | (go_at_call 59; (with_reducible refine (tickingref02_has.calls k1 _ _ tk11 (rd l0 x5_1) true _ ?side1 ?side2 A9.out).mono ?_); (case side1 => repeat (first | exact HR320.out | (with_reducible refine Kd.C_alloc ?_ _) | (with_reducible refine Kd.C_drewN ?_ _) | (with_reducible refine Kd.C_drew ?_))); (case side2 => exact HC320.out); rintro e w' ⟨rfl, ⟨nd, rfl⟩⟩; (try first | exact ⟨rfl, _, World.drewN_drewN _ _ _⟩ | exact ⟨rfl, _, Eq.trans (World.drewN_drewN _ _ _) (congrArg (World.drewN _) (Nat.add_assoc _ _ _))⟩)))
                  repeat (go_quiet (first | (go_at_call 59; (with_reducible refine (tickingref02_has.calls k1 _ _ tk11 (rd l0 x5_1) true _ ?side1 ?side2 A9.out).mono ?_); (case side1 => repeat (first | exact HR320.out | (with_reducible refine Kd.C_alloc ?_ _) | (with_reducible refine Kd.C_drewN ?_ _) | (with_reducible refine Kd.C_drew ?_))); (case side2 => exact HC320.out); rintro e w' ⟨rfl, ⟨nd, rfl⟩⟩; (try first | exact ⟨rfl, _, World.drewN_drewN _ _ _⟩ | exact ⟨rfl, _, Eq.trans (World.drewN_drewN _ _ _) (congrArg (World.drewN _) (Nat.add_assoc _ _ _))⟩))); try go_wp2_with (first | (go_at_call 59; (with_reducible refine (tickingref02_has.calls k1 _ _ tk11 (rd l0 x5_1) true _ ?side1 ?side2 A9.out).mono ?_); (case side1 => repeat (first | exact HR320.out | (with_reducible refine Kd.C_alloc ?_ _) | (with_reducible refine Kd.C_drewN ?_ _) | (with_reducible refine Kd.C_drew ?_))); (case side2 => exact HC320.out); rintro e w' ⟨rfl, ⟨nd, rfl⟩⟩; (try first | exact ⟨rfl, _, World.drewN_drewN _ _ _⟩ | exact ⟨rfl, _, Eq.trans (World.drewN_drewN _ _ _) (congrArg (World.drewN _) (Nat.add_assoc _ _ _))⟩))))
                  go_ret
                  exact ⟨by first | rfl | (simp; done) | (simp [*]; done), by repeat (first | exact Drawn0.refl _ | apply Drawn0.step)⟩
                · replace c10 := Bool.eq_false_iff.mpr c10
                  subst c10
                  have H1 : (tickingref02_at.l0 k1 l0 a1 (wrap64 (x5_1 + 1))) = some r := by rw [if_neg (show ¬ (false = true) by decide)] at H; exact H
                  clear H
                  have H := H1
                  clear H1
                  have H' := Aside0.mk H
                  clear H
                  have p318 : 0 ≤ (x5_1 : Int) := of_decide_eq_true (by first | (with_reducible assumption) | assumption)
                  have q318 : x5_1 < (l0.length : Int) := of_decide_eq_true (by first | (with_reducible assumption) | assumption)
                  obtain ⟨ad318, e318, hx318_0⟩ := Kd.at_int HR0.out x5_1 p318 q318
                  cases e318
                  replace p318 := eq_true p318
                  replace q318 := eq_true q318
                  have p319 : 0 ≤ (x5_1 : Int) := of_decide_eq_true (by first | (with_reducible assumption) | assumption)
                  have q319 : x5_1 < (l0.length : Int) := of_decide_eq_true (by first | (with_reducible assumption) | assumption)
                  obtain ⟨ad319, e319, hx319_0⟩ := Kd.at_int HR0.out x5_1 p319 q319
                  obtain rfl : ad318 = ad319 := (by injection e319)
                  replace p319 := eq_true p319
                  replace q319 := eq_true q319
                  obtain ⟨i012, hi012, _, hsz12, _⟩ := info_parts info3
                  obtain ⟨hcut12, hA12, hC12⟩ := print_take_of (P := Try.prog) (Value.int .i64) 0 22 3 .i64 Try.underlying22 hi012 hsz12 (some ad318) c0 l0 x5_1 (of_decide_eq_true (by first | (with_reducible assumption) | assumption)) (of_decide_eq_true (by first | (with_reducible assumption) | assumption)) HC0.out
                  have HR320 := Aside0.mk (Kd.C_of_reads (h1 := fun _ => rfl) (hA12 _ (Kd.reads_of_C HR0.out)))
                  have HC320 := Aside0.mk hC12
                  clear hA12 hC12 hi012 hsz12
                  obtain ⟨tk12, htk12⟩ : ∃ tk_ : List Int, (l0.take (x5_1 : Int).toNat) = tk_ := ⟨_, rfl⟩
                  simp only [htk12] at *
                  have Htk12 := Aside0.mk htk12
                  clear htk12
                  have p321 : 0 ≤ (x5_1 : Int) := of_decide_eq_true (by first | (with_reducible assumption) | assumption)
                  have q321 : x5_1 < (l0.length : Int) := of_decide_eq_true (by first | (with_reducible assumption) | assumption)
                  obtain ⟨ad321, e321, hx321_0⟩ := Kd.at_int HR0.out x5_1 p321 q321
                  obtain rfl : ad318 = ad321 := (by injection e321)
                  replace p321 := eq_true p321
                  replace q321 := eq_true q321
                  go_wp2_with (first | (go_at_call 59; (with_reducible refine (tickingref02_has.calls k1 _ _ tk12 (rd l0 x5_1) false _ ?side1 ?side2 A9.out).mono ?_); (case side1 => repeat (first | exact HR320.out | (with_reducible refine Kd.C_alloc ?_ _) | (with_reducible refine Kd.C_drewN ?_ _) | (with_reducible refine Kd.C_drew ?_))); (case side2 => exact HC320.out); rintro e w' ⟨rfl, ⟨nd, rfl⟩⟩; (try first | exact ⟨rfl, _, World.drewN_drewN _ _ _⟩ | exact ⟨rfl, _, Eq.trans (World.drewN_drewN _ _ _) (congrArg (World.drewN _) (Nat.add_assoc _ _ _))⟩)))
                  repeat (go_quiet (first | (go_at_call 59; (with_reducible refine (tickingref02_has.calls k1 _ _ tk12 (rd l0 x5_1) false _ ?side1 ?side2 A9.out).mono ?_); (case side1 => repeat (first | exact HR320.out | (with_reducible refine Kd.C_alloc ?_ _) | (with_reducible refine Kd.C_drewN ?_ _) | (with_reducible refine Kd.C_drew ?_))); (case side2 => exact HC320.out); rintro e w' ⟨rfl, ⟨nd, rfl⟩⟩; (try first | exact ⟨rfl, _, World.drewN_drewN _ _ _⟩ | exact ⟨rfl, _, Eq.trans (World.drewN_drewN _ _ _) (congrArg (World.drewN _) (Nat.add_assoc _ _ _))⟩))); try go_wp2_with (first | (go_at_call 59; (with_reducible refine (tickingref02_has.calls k1 _ _ tk12 (rd l0 x5_1) false _ ?side1 ?side2 A9.out).mono ?_); (case side1 => repeat (first | exact HR320.out | (with_reducible refine Kd.C_alloc ?_ _) | (with_reducible refine Kd.C_drewN ?_ _) | (with_reducible refine Kd.C_drew ?_))); (case side2 => exact HC320.out); rintro e w' ⟨rfl, ⟨nd, rfl⟩⟩; (try first | exact ⟨rfl, _, World.drewN_drewN _ _ _⟩ | exact ⟨rfl, _, Eq.trans (World.drewN_drewN _ _ _) (congrArg (World.drewN _) (Nat.add_assoc _ _ _))⟩))))
                  go_roundg k1
                  case measure => have := HK1.out; omega
                  case rel => exact ⟨(wrap64 (x5_1 + 1)), (by first | rfl | (simp; done) | (simp [*]; done)), H', ⟨by have := HK1.out; omega⟩, by repeat (first | exact Drawn0.refl _ | apply Drawn0.step)⟩
              · rw [if_neg c8] at H
                exact absurd H (by simp)
        · rw [if_neg c4] at H
          exact absurd H (by simp)
      · rw [if_neg c3] at H
        have c3b0 : decide (x5_1 < (l0.length : Int)) = false := decide_eq_false c3
        clear c3
        obtain rfl := Option.some.inj H
        go_wp2
        repeat (go_quiet (fail); try go_wp2)
        go_ret
        exact ⟨by first | rfl | (simp; done) | (simp [*]; done), by repeat (first | exact Drawn0.refl _ | apply Drawn0.step)⟩

end Go.Proofs.Ytjbjongahnocdaa.S

/- Lists of positions: what the reference's check of them answers. -/
namespace Go.Proofs.Ytjbjongahnocdaa.P
open Go.RowKit Go.Proofs.Ytjbjongahnocdaa.S Go.Proofs.Ytjbjongahnocdaa.Defs Go.Proofs.YtjbjongahnocdaaW.PrintWords Go.Proofs.YtjbjongahnocdaaW.PrintLast Go.Proofs.YtjbjongahnocdaaW.PrintMore
set_option linter.unusedVariables false

/-! ### positions -/
theorem at_loop (b : List Int) (n : Int) (hl : b.length ≤ 1000000) (d : Nat) : ∀ i : Nat, i + d = b.length → (b.take i).Nodup → (∀ x ∈ b.take i, 0 ≤ x ∧ x < n) →
    Ev (fun k => tickingref02_at.l0 k b n (i : Int)) (decide ((∀ x ∈ b, 0 ≤ x ∧ x < n) ∧ b.Nodup)) := by
  induction d with
  | zero =>
    intro i h h1 h2
    obtain rfl : i = b.length := by omega
    rw [List.take_length] at h1 h2
    rw [decide_eq_true ⟨h2, h1⟩]
    refine Ev.step (f := fun _ => some true) (fun k => ?_) (Ev.now _)
    simp only [tickingref02_at.l0]
    rw [if_neg (by omega)]
  | succ d ih =>
    intro i h h1 h2
    have hi : i < b.length := by omega
    have hm : rd b (i : Int) ∈ b := rd_mem (by omega) (by omega)
    have w : wrap64 ((i : Int) + 1) = ((i + 1 : Nat) : Int) := by rw [w64 (by omega) (by omega)]; rfl
    have tk : b.take (i + 1) = b.take i ++ [rd b (i : Int)] := by rw [rd_lt b i hi, ← List.take_append_getElem hi]
    by_cases c1 : rd b (i : Int) < 0
    · rw [decide_eq_false (fun h => by have := h.1 _ hm; omega)]
      refine Ev.step (f := fun _ => some false) (fun k => ?_) (Ev.now _)
      simp only [tickingref02_at.l0]
      rw [if_pos (by omega), if_pos (by omega), if_pos c1]
    · by_cases c2 : rd b (i : Int) ≥ n
      · rw [decide_eq_false (fun h => by have := h.1 _ hm; omega)]
        refine Ev.step (f := fun _ => some false) (fun k => ?_) (Ev.now _)
        simp only [tickingref02_at.l0]
        rw [if_pos (by omega), if_pos (by omega), if_neg c1, if_pos c2]
      · refine Ev.step (f := fun k => (tickingref02_has.f k (b.take i) (rd b (i : Int))).bind fun t => if t = true then some false else tickingref02_at.l0 k b n ((i + 1 : Nat) : Int)) (fun k => ?_) ?_
        · simp only [tickingref02_at.l0]
          rw [if_pos (by omega), if_pos (by omega), if_neg c1, if_neg c2, if_pos (by omega), Int.toNat_natCast, w]
        · refine Ev.bind (f := fun k (t : Bool) => if t = true then some false else tickingref02_at.l0 k b n ((i + 1 : Nat) : Int)) (has_ev _ _ (by rw [List.length_take]; omega)) ?_
          by_cases c3 : rd b (i : Int) ∈ b.take i
          · rw [decide_eq_false (p := (∀ x ∈ b, 0 ≤ x ∧ x < n) ∧ b.Nodup) (fun h => by
              have hd : (b.take (i + 1)).Nodup := h.2.sublist (List.take_sublist _ _)
              rw [tk, List.nodup_append] at hd
              exact hd.2.2 _ c3 _ (List.mem_singleton.2 rfl) rfl)]
            exact Ev.congr (fun k => by rw [if_pos (decide_eq_true c3)]) (Ev.now _)
          · refine Ev.congr (f := fun k => tickingref02_at.l0 k b n ((i + 1 : Nat) : Int)) (fun k => by rw [if_neg (by rw [decide_eq_true_eq]; exact c3)]) (ih (i + 1) (by omega) ?_ ?_)
            · rw [tk, List.nodup_append]
              exact ⟨h1, by simp, fun a ha x hx e => by rw [List.mem_singleton] at hx; rw [e, hx] at ha; exact c3 ha⟩
            · rw [tk]
              intro x hx
              rcases List.mem_append.1 hx with hx | hx
              · exact h2 x hx
              · rw [List.mem_singleton] at hx
                omega
theorem at_ev (b : List Int) (n : Int) (hl : b.length ≤ 1000000) : Ev (fun k => tickingref02_at.f k b n) (decide ((∀ x ∈ b, 0 ≤ x ∧ x < n) ∧ b.Nodup)) :=
  at_loop b n hl b.length 0 (by omega) (by simp) (by simp)

end Go.Proofs.Ytjbjongahnocdaa.P

namespace Go.Proofs.Ytjbjongahnocdaa.S
open Go.Proofs.Ytjbjongahnocdaa.Lib
open Go.Proofs.Ytjbjongahnocdaa.Defs
open Go.Maps (Keyed)
open Go.RowKit Go.Proofs.YtjbjongahnocdaaW.PrintWords Go.Proofs.YtjbjongahnocdaaW.PrintLast Go.Proofs.YtjbjongahnocdaaW.PrintMore
attribute [local go_sem] max2_int min2_int max_two min_two max_three min_three max_four min_four   -- for this text's walks alone
set_option linter.unusedVariables false
set_option linter.unusedSimpArgs false

/-! ### slices_Index_int_int: function 81 -/
def slices_Index_int_int.l0 : Nat → List Int → Int → Int → Int → Option (Int)
  | 0, _, _, _, _ => none
  | k + 1, x0, x1, x7, x8 => if x8 < x7 then (if 0 ≤ x8 then (if x8 < (x0.length : Int) then (if x1 = (rd x0 x8) then (some x8) else (slices_Index_int_int.l0 k x0 x1 x7 (wrap64 (x8 + 1)))) else (none)) else (none)) else (some (-1))
def slices_Index_int_int.f (k : Nat) (l0 : List Int) (a1 : Int) : Option (Int) := slices_Index_int_int.l0 k l0 a1 (l0.length : Int) 0
theorem slices_Index_int_int.mono_l : ∀ k, (∀ y0 y1 y2 y3, LeO (slices_Index_int_int.l0 k y0 y1 y2 y3) (slices_Index_int_int.l0 (k + 1) y0 y1 y2 y3))
  | 0 => fun _ _ _ _ r h => by simp [slices_Index_int_int.l0] at h
  | k + 1 => by
    have ih0 := slices_Index_int_int.mono_l k
    · intro y0 y1 y2 y3
      unfold slices_Index_int_int.l0
      repeat' first
      | (with_reducible exact ih0 _ _ _ _)
      | (with_reducible exact LeO.refl _)
      | (with_reducible exact LeO.none _)
      | (with_reducible refine LeO.ite ?_ ?_)
      | (with_reducible refine LeO.bind ?_ (fun _ => ?_))
      | exact ih0 _ _ _ _
      | exact LeO.none _
      | refine LeO.ite ?_ ?_
      | refine LeO.bind ?_ (fun _ => ?_)
theorem slices_Index_int_int.mono : ∀ a0 a1 k, LeO (slices_Index_int_int.f k a0 a1) (slices_Index_int_int.f (k + 1) a0 a1) := by
  intro a0 a1 k
  have ih0 := slices_Index_int_int.mono_l k
  unfold slices_Index_int_int.f
  repeat' first
      | (with_reducible exact ih0 _ _ _ _)
      | (with_reducible exact LeO.refl _)
      | (with_reducible exact LeO.none _)
      | (with_reducible refine LeO.ite ?_ ?_)
      | (with_reducible refine LeO.bind ?_ (fun _ => ?_))
      | exact ih0 _ _ _ _
      | exact LeO.none _
      | refine LeO.ite ?_ ?_
      | refine LeO.bind ?_ (fun _ => ?_)
set_option maxHeartbeats 8000000 in
set_option maxRecDepth 100000 in
theorem slices_Index_int_int.calls (k : Nat) (A0 : Option Addr) (c0 : Nat) (l0 : List Int) (a1 : Int) (r : Int) (w : World) (hr0 : Kd.C (Kd.int .i64) w A0 l0.length l0) (hc0 : l0.length ≤ c0) (h : slices_Index_int_int.f k l0 a1 = some r) :
    Calls Try.prog 81 #[.slice A0 l0.length c0, .int .i64 a1] w fun e w' => e = .returned (.int .i64 r) ∧ Drawn0 w w' := by
  have HR0 := Aside0.mk hr0
  have HC0 := Aside0.mk hc0
  clear hr0 hc0
  have H : (slices_Index_int_int.l0 k l0 a1 (l0.length : Int) 0) = some r := h
  clear h
  have H' := Aside0.mk H
  clear H
  go_enter Try.func81, Try.ntmps81
  go_wp2
  go_loopg [8] k (fun kq v8 w' => ∃ (x8_1 : Int), v8 = .int .i64 x8_1 ∧ Aside0 (slices_Index_int_int.l0 kq l0 a1 (l0.length : Int) x8_1 = some r) ∧ Aside0 (kq ≤ k) ∧ Drawn0 w w')
  case atStart => exact ⟨(0), (by first | rfl | (simp; done) | (simp [*]; done)), H', ⟨Nat.le_refl _⟩, by repeat (first | exact Drawn0.refl _ | apply Drawn0.step)⟩
  case round =>
    clear H'
    try clear p2
    obtain ⟨x8_1, rfl, HA, HK1, ⟨m1, rfl⟩⟩ := hrel
    cases gk with
    | zero => exact absurd HA.out (by simp [slices_Index_int_int.l0])
    | succ k1 =>
      have H := HA.out
      clear HA
      simp only [slices_Index_int_int.l0] at H
      by_cases c3 : x8_1 < (l0.length : Int)
      · rw [if_pos c3] at H
        have c3b0 : decide (x8_1 < (l0.length : Int)) = true := decide_eq_true c3
        clear c3
        by_cases c4 : 0 ≤ x8_1
        · rw [if_pos c4] at H
          have c4b0 : decide (0 ≤ x8_1) = true := decide_eq_true c4
          clear c4
          by_cases c5 : x8_1 < (l0.length : Int)
          · rw [if_pos c5] at H
            have c5b0 : decide (x8_1 < (l0.length : Int)) = true := decide_eq_true c5
            clear c5
            by_cases c6 : a1 = (rd l0 x8_1)
            · rw [if_pos c6] at H
              have c6b0 : (a1 == (rd l0 x8_1)) = true := beq_iff_eq.mpr c6
              have c6b1 : (a1 != (rd l0 x8_1)) = false := bne_eq_false_iff_eq.mpr c6
              clear c6
              obtain rfl := Option.some.inj H
              have p520 : 0 ≤ (x8_1 : Int) := of_decide_eq_true (by first | (with_reducible assumption) | assumption)
              have q520 : x8_1 < (l0.length : Int) := of_decide_eq_true (by first | (with_reducible assumption) | assumption)
              obtain ⟨ad520, e520, hx520_0⟩ := Kd.at_int HR0.out x8_1 p520 q520
              cases e520
              replace p520 := eq_true p520
              replace q520 := eq_true q520
              go_wp2
              go_ret
              exact ⟨by first | rfl | (simp; done) | (simp [*]; done), by repeat (first | exact Drawn0.refl _ | apply Drawn0.step)⟩
            · rw [if_neg c6] at H
              have c6b0 : (a1 == (rd l0 x8_1)) = false := beq_eq_false_iff_ne.mpr c6
              have c6b1 : (a1 != (rd l0 x8_1)) = true := bne_iff_ne.mpr c6
              have H' := Aside0.mk H
              clear H
              have p520 : 0 ≤ (x8_1 : Int) := of_decide_eq_true (by first | (with_reducible assumption) | assumption)
              have q520 : x8_1 < (l0.length : Int) := of_decide_eq_true (by first | (with_reducible assumption) | assumption)
              obtain ⟨ad520, e520, hx520_0⟩ := Kd.at_int HR0.out x8_1 p520 q520
              cases e520
              replace p520 := eq_true p520
              replace q520 := eq_true q520
              go_wp2
              go_roundg k1
              case measure => have := HK1.out; omega
              case rel => exact ⟨(wrap64 (x8_1 + 1)), (by first | rfl | (simp; done) | (simp [*]; done)), H', ⟨by have := HK1.out; omega⟩, by repeat (first | exact Drawn0.refl _ | apply Drawn0.step)⟩
          · rw [if_neg c5] at H
            exact absurd H (by simp)
        · rw [if_neg c4] at H
          exact absurd H (by simp)
      · rw [if_neg c3] at H
        have c3b0 : decide (x8_1 < (l0.length : Int)) = false := decide_eq_false c3
        clear c3
        obtain rfl := Option.some.inj H
        go_wp2
        go_ret
        exact ⟨by first | rfl | (simp; done) | (simp [*]; done), by repeat (first | exact Drawn0.refl _ | apply Drawn0.step)⟩

end Go.Proofs.Ytjbjongahnocdaa.S

namespace Go.Proofs.Ytjbjongahnocdaa.S
open Go.Proofs.Ytjbjongahnocdaa.Lib
open Go.Proofs.Ytjbjongahnocdaa.Defs
open Go.Maps (Keyed)
open Go.RowKit Go.Proofs.YtjbjongahnocdaaW.PrintWords Go.Proofs.YtjbjongahnocdaaW.PrintLast Go.Proofs.YtjbjongahnocdaaW.PrintMore
attribute [local go_sem] max2_int min2_int max_two min_two max_three min_three max_four min_four   -- for this text's walks alone
set_option linter.unusedVariables false
set_option linter.unusedSimpArgs false

/-! ### slices_Contains_int_int: function 79 -/
def slices_Contains_int_int.f (k : Nat) (l0 : List Int) (a1 : Int) : Option (Bool) := (slices_Index_int_int.f k l0 a1).bind fun t521 => (some (decide (t521 ≥ 0)))
theorem slices_Contains_int_int.mono : ∀ a0 a1 k, LeO (slices_Contains_int_int.f k a0 a1) (slices_Contains_int_int.f (k + 1) a0 a1) := by
  intro a0 a1 k
  unfold slices_Contains_int_int.f
  repeat' first
      | (with_reducible exact slices_Index_int_int.mono _ _ _)
      | (with_reducible exact LeO.refl _)
      | (with_reducible exact LeO.none _)
      | (with_reducible refine LeO.ite ?_ ?_)
      | (with_reducible refine LeO.bind ?_ (fun _ => ?_))
      | exact slices_Index_int_int.mono _ _ _
      | exact LeO.none _
      | refine LeO.ite ?_ ?_
      | refine LeO.bind ?_ (fun _ => ?_)
set_option maxHeartbeats 8000000 in
set_option maxRecDepth 100000 in
theorem slices_Contains_int_int.calls (k : Nat) (A0 : Option Addr) (c0 : Nat) (l0 : List Int) (a1 : Int) (r : Bool) (w : World) (hr0 : Kd.C (Kd.int .i64) w A0 l0.length l0) (hc0 : l0.length ≤ c0) (h : slices_Contains_int_int.f k l0 a1 = some r) :
    Calls Try.prog 79 #[.slice A0 l0.length c0, .int .i64 a1] w fun e w' => e = .returned (.bool r) ∧ Drawn0 w w' := by
  have HR0 := Aside0.mk hr0
  have HC0 := Aside0.mk hc0
  clear hr0 hc0
  have H : ((slices_Index_int_int.f k l0 a1).bind fun t521 => (some (decide (t521 ≥ 0)))) = some r := h
  clear h
  replace H := Option.bind_eq_some_iff.mp H
  obtain ⟨t521, A30, H⟩ := H
  replace H : (some (decide (t521 ≥ 0))) = some r := H
  have A3 := Aside0.mk A30
  clear A30
  obtain rfl := Option.some.inj H
  go_enter Try.func79, Try.ntmps79
  go_wp2_with (first | ((with_reducible refine gate_callee (f := 81) rfl ?_); refine goesL_ (some 7) rfl rfl Try.func81 (by kernel_rfl) rfl #[.slice A0 l0.length c0, .int .i64 a1] rfl (by (try simp only [List.map_toArray, List.map_cons, List.map_nil]); first | done | rfl | (simp only [List.length_drop, List.length_take]; rfl)) ?_; (with_reducible refine (slices_Index_int_int.calls k _ _ l0 a1 t521 _ ?side1 ?side2 A3.out).mono ?_); (case side1 => repeat (first | exact HR0.out | (with_reducible refine Kd.C_alloc ?_ _) | (with_reducible refine Kd.C_drewN ?_ _) | (with_reducible refine Kd.C_drew ?_))); (case side2 => exact HC0.out); rintro e w' ⟨rfl, ⟨nd, rfl⟩⟩; refine ⟨_, rfl, ?_⟩))
  go_ret
  exact ⟨by first | rfl | (simp; done) | (simp [*]; done), by repeat (first | exact Drawn0.refl _ | apply Drawn0.step)⟩

end Go.Proofs.Ytjbjongahnocdaa.S

namespace Go.Proofs.Ytjbjongahnocdaa.S
open Go.Proofs.Ytjbjongahnocdaa.Lib
open Go.Proofs.Ytjbjongahnocdaa.Defs
open Go.Maps (Keyed)
open Go.RowKit Go.Proofs.YtjbjongahnocdaaW.PrintWords Go.Proofs.YtjbjongahnocdaaW.PrintLast Go.Proofs.YtjbjongahnocdaaW.PrintMore
attribute [local go_sem] max2_int min2_int max_two min_two max_three min_three max_four min_four   -- for this text's walks alone
set_option linter.unusedVariables false
set_option linter.unusedSimpArgs false

/-! ### shunt_isCycle: function 69 -/
mutual
def shunt_isCycle.j0 : Nat → List Int → List Int → Bool → Option (Bool)
  | 0, _, _, _ => none
  | k + 1, x0, x1, x18 => if x18 = true then (some false) else (shunt_isCycle.l0 k x0 x1 x1 (x1.length : Int) 0)
def shunt_isCycle.l0 : Nat → List Int → List Int → List Int → Int → Int → Option (Bool)
  | 0, _, _, _, _, _ => none
  | k + 1, x0, x1, x19, x20, x21 => if x21 < x20 then (if 0 ≤ x21 then (if x21 < (x19.length : Int) then ((shunt_within.f (rd x19 x21) 0 (wrap64 ((x0.length : Int) - 1))).bind fun t523 => (if t523 = true then (if x21 ≤ (x1.length : Int) then ((slices_Contains_int_int.f k (x1.take (x21 : Int).toNat) (rd x19 x21)).bind fun t525 => (if t525 = true then (some false) else (shunt_isCycle.l0 k x0 x1 x19 x20 (wrap64 (x21 + 1))))) else (none)) else (some false))) else (none)) else (none)) else (shunt_isCycle.l1 k x0 x1 x1 (x1.length : Int) 0)
def shunt_isCycle.l1 : Nat → List Int → List Int → List Int → Int → Int → Option (Bool)
  | 0, _, _, _, _, _ => none
  | k + 1, x0, x1, x40, x41, x42 => if x42 < x41 then (if 0 ≤ x42 then (if x42 < (x40.length : Int) then (if (x1.length : Int) = 0 then (none) else (if 0 ≤ (Int.tmod (wrap64 (x42 + 1)) (x1.length : Int)) then (if (Int.tmod (wrap64 (x42 + 1)) (x1.length : Int)) < (x1.length : Int) then ((shunt_blocking.f k x0 (mn (rd x40 x42) (rd x1 (Int.tmod (wrap64 (x42 + 1)) (x1.length : Int)))) (mx (rd x40 x42) (rd x1 (Int.tmod (wrap64 (x42 + 1)) (x1.length : Int))))).bind fun t528 => (if t528 = 0 then (some false) else (shunt_isCycle.l1 k x0 x1 x40 x41 (wrap64 (x42 + 1))))) else (none)) else (none))) else (none)) else (none)) else (some true)
end
def shunt_isCycle.f (k : Nat) (l0 : List Int) (l1 : List Int) : Option (Bool) := if ((l1.length : Int) % 2) = 0 then (shunt_isCycle.j0 k l0 l1 true) else (shunt_isCycle.j0 k l0 l1 (decide ((l1.length : Int) < 3)))
theorem shunt_isCycle.mono_l : ∀ k, (∀ y0 y1 y2, LeO (shunt_isCycle.j0 k y0 y1 y2) (shunt_isCycle.j0 (k + 1) y0 y1 y2)) ∧ (∀ y0 y1 y2 y3 y4, LeO (shunt_isCycle.l0 k y0 y1 y2 y3 y4) (shunt_isCycle.l0 (k + 1) y0 y1 y2 y3 y4)) ∧ (∀ y0 y1 y2 y3 y4, LeO (shunt_isCycle.l1 k y0 y1 y2 y3 y4) (shunt_isCycle.l1 (k + 1) y0 y1 y2 y3 y4))
  | 0 => ⟨fun _ _ _ r h => by simp [shunt_isCycle.j0] at h, fun _ _ _ _ _ r h => by simp [shunt_isCycle.l0] at h, fun _ _ _ _ _ r h => by simp [shunt_isCycle.l1] at h⟩
  | k + 1 => by
    obtain ⟨ih0, ih1, ih2⟩ := shunt_isCycle.mono_l k
    refine ⟨?_, ?_, ?_⟩
    · intro y0 y1 y2
      unfold shunt_isCycle.j0
      repeat' first
      | (with_reducible exact ih0 _ _ _)
      | (with_reducible exact ih1 _ _ _ _ _)
      | (with_reducible exact ih2 _ _ _ _ _)
      | (with_reducible exact shunt_blocking.mono _ _ _ _)
      | (with_reducible exact slices_Contains_int_int.mono _ _ _)
      | (with_reducible exact LeO.refl _)
      | (with_reducible exact LeO.none _)
      | (with_reducible refine LeO.ite ?_ ?_)
      | (with_reducible refine LeO.bind ?_ (fun _ => ?_))
      | exact ih0 _ _ _
      | exact ih1 _ _ _ _ _
      | exact ih2 _ _ _ _ _
      | exact shunt_blocking.mono _ _ _ _
      | exact slices_Contains_int_int.mono _ _ _
      | exact LeO.none _
      | refine LeO.ite ?_ ?_
      | refine LeO.bind ?_ (fun _ => ?_)
    · intro y0 y1 y2 y3 y4
      unfold shunt_isCycle.l0
      repeat' first
      | (with_reducible exact ih0 _ _ _)
      | (with_reducible exact ih1 _ _ _ _ _)
      | (with_reducible exact ih2 _ _ _ _ _)
      | (with_reducible exact shunt_blocking.mono _ _ _ _)
      | (with_reducible exact slices_Contains_int_int.mono _ _ _)
      | (with_reducible exact LeO.refl _)
      | (with_reducible exact LeO.none _)
      | (with_reducible refine LeO.ite ?_ ?_)
      | (with_reducible refine LeO.bind ?_ (fun _ => ?_))
      | exact ih0 _ _ _
      | exact ih1 _ _ _ _ _
      | exact ih2 _ _ _ _ _
      | exact shunt_blocking.mono _ _ _ _
      | exact slices_Contains_int_int.mono _ _ _
      | exact LeO.none _
      | refine LeO.ite ?_ ?_
      | refine LeO.bind ?_ (fun _ => ?_)
    · intro y0 y1 y2 y3 y4
      unfold shunt_isCycle.l1
      repeat' first
      | (with_reducible exact ih0 _ _ _)
      | (with_reducible exact ih1 _ _ _ _ _)
      | (with_reducible exact ih2 _ _ _ _ _)
      | (with_reducible exact shunt_blocking.mono _ _ _ _)
      | (with_reducible exact slices_Contains_int_int.mono _ _ _)
      | (with_reducible exact LeO.refl _)
      | (with_reducible exact LeO.none _)
      | (with_reducible refine LeO.ite ?_ ?_)
      | (with_reducible refine LeO.bind ?_ (fun _ => ?_))
      | exact ih0 _ _ _
      | exact ih1 _ _ _ _ _
      | exact ih2 _ _ _ _ _
      | exact shunt_blocking.mono _ _ _ _
      | exact slices_Contains_int_int.mono _ _ _
      | exact LeO.none _
      | refine LeO.ite ?_ ?_
      | refine LeO.bind ?_ (fun _ => ?_)
theorem shunt_isCycle.mono : ∀ a0 a1 k, LeO (shunt_isCycle.f k a0 a1) (shunt_isCycle.f (k + 1) a0 a1) := by
  intro a0 a1 k
  obtain ⟨ih0, ih1, ih2⟩ := shunt_isCycle.mono_l k
  unfold shunt_isCycle.f
  repeat' first
      | (with_reducible exact ih0 _ _ _)
      | (with_reducible exact ih1 _ _ _ _ _)
      | (with_reducible exact ih2 _ _ _ _ _)
      | (with_reducible exact shunt_blocking.mono _ _ _ _)
      | (with_reducible exact slices_Contains_int_int.mono _ _ _)
      | (with_reducible exact LeO.refl _)
      | (with_reducible exact LeO.none _)
      | (with_reducible refine LeO.ite ?_ ?_)
      | (with_reducible refine LeO.bind ?_ (fun _ => ?_))
      | exact ih0 _ _ _
      | exact ih1 _ _ _ _ _
      | exact ih2 _ _ _ _ _
      | exact shunt_blocking.mono _ _ _ _
      | exact slices_Contains_int_int.mono _ _ _
      | exact LeO.none _
      | refine LeO.ite ?_ ?_
      | refine LeO.bind ?_ (fun _ => ?_)
set_option maxHeartbeats 8000000 in
set_option maxRecDepth 100000 in
theorem shunt_isCycle.calls (k : Nat) (A0 : Option Addr) (c0 : Nat) (l0 : List Int) (A1 : Option Addr) (c1 : Nat) (l1 : List Int) (r : Bool) (w : World) (hr0 : Kd.C (Kd.int .i64) w A0 l0.length l0) (hc0 : l0.length ≤ c0) (hr1 : Kd.C (Kd.int .i64) w A1 l1.length l1) (hc1 : l1.length ≤ c1) (h : shunt_isCycle.f k l0 l1 = some r) :
    Calls Try.prog 69 #[.slice A0 l0.length c0, .slice A1 l1.length c1] w fun e w' => e = .returned (.bool r) ∧ Below w.heap.size w w' := by
  have HR0 := Aside0.mk hr0
  have HC0 := Aside0.mk hc0
  clear hr0 hc0
  have HR1 := Aside0.mk hr1
  have HC1 := Aside0.mk hc1
  clear hr1 hc1
  have HB := Aside0.mk (Below.refl w.heap.size w)
  have H : (if ((l1.length : Int) % 2) = 0 then (shunt_isCycle.j0 k l0 l1 true) else (shunt_isCycle.j0 k l0 l1 (decide ((l1.length : Int) < 3)))) = some r := h
  clear h
  have HC3 := Aside0.mk H
  clear H
  go_enter Try.func69, Try.ntmps69
  go_upto_region 1 with (fail)
  go_cut [18] (fun v18 wc => ∃ (kq : Nat) (x18_2 : Bool), v18 = .bool x18_2 ∧ Aside0 (shunt_isCycle.j0 kq l0 l1 x18_2 = some r) ∧ Aside0 (kq ≤ k) ∧ Aside0 (Below w.heap.size w wc))
  case first =>
    have H := HC3.out
    clear HC3
    by_cases c4 : ((l1.length : Int) % 2) = 0
    · rw [if_pos c4] at H
      have c4b0 : (((l1.length : Int) % 2) == 0) = true := beq_iff_eq.mpr c4
      have c4b1 : (((l1.length : Int) % 2) != 0) = false := bne_eq_false_iff_eq.mpr c4
      clear c4
      (first | rw [c4b0] | (simp only [i64_w, i32_w]; rw [c4b0]) | skip)
      have H' := Aside0.mk H
      clear H
      go_wp2
      go_meet
      case rel => exact ⟨_, (true), (by first | rfl | (simp; done) | (simp [*]; done)), H', ⟨by first | omega | exact Nat.le_refl _⟩, ⟨by repeat (first | (with_reducible first | exact HB.out | apply below_alloc | apply pw_below_drewN | apply below_drew1) | exact HB.out)⟩⟩
    · rw [if_neg c4] at H
      have c4b0 : (((l1.length : Int) % 2) == 0) = false := beq_eq_false_iff_ne.mpr c4
      have c4b1 : (((l1.length : Int) % 2) != 0) = true := bne_iff_ne.mpr c4
      (first | rw [c4b0] | (simp only [i64_w, i32_w]; rw [c4b0]) | skip)
      have H' := Aside0.mk H
      clear H
      go_wp2
      go_meet
      case rel => exact ⟨_, (decide ((l1.length : Int) < 3)), (by first | rfl | (simp; done) | (simp [*]; done)), H', ⟨by first | omega | exact Nat.le_refl _⟩, ⟨by repeat (first | (with_reducible first | exact HB.out | apply below_alloc | apply pw_below_drewN | apply below_drew1) | exact HB.out)⟩⟩
  case rest =>
    clear HC3
    try clear c1
    try clear p2
    try clear c4
    try clear c4b0
    try clear c4b1
    obtain ⟨kq, x18_2, rfl, HA, HJ2, HB⟩ := hcut
    cases kq with
    | zero => exact absurd HA.out (by simp [shunt_isCycle.j0])
    | succ kj2 =>
      have H := HA.out
      clear HA
      simp only [shunt_isCycle.j0] at H
      by_cases c5 : x18_2 = true
      · subst c5
        have H1 : (some false) = some r := by rw [if_pos rfl] at H; exact H
        clear H
        have H := H1
        clear H1
        obtain rfl := Option.some.inj H
        go_wp2
        go_ret
        exact ⟨by first | rfl | (simp [errW_none, errW_some] <;> rfl) | (simp [*, errW_none, errW_some] <;> rfl), by repeat (first | (with_reducible first | exact HB.out | apply below_alloc | apply pw_below_drewN | apply below_drew1) | exact HB.out)⟩
      · replace c5 := Bool.eq_false_iff.mpr c5
        subst c5
        have H1 : (shunt_isCycle.l0 kj2 l0 l1 l1 (l1.length : Int) 0) = some r := by rw [if_neg (show ¬ (false = true) by decide)] at H; exact H
        clear H
        have H := H1
        clear H1
        have H' := Aside0.mk H
        clear H
        go_wp2
        go_loopg [21] kj2 (fun kq v21 w' => ∃ (x21_2 : Int), v21 = .int .i64 x21_2 ∧ Aside0 (shunt_isCycle.l0 kq l0 l1 l1 (l1.length : Int) x21_2 = some r) ∧ Aside0 (kq ≤ kj2) ∧ Aside0 (Below w.heap.size w w'))
        case atStart => exact ⟨(0), (by first | rfl | (simp; done) | (simp [*]; done)), H', ⟨Nat.le_refl _⟩, ⟨by repeat (first | (with_reducible first | exact HB.out | apply below_alloc | apply pw_below_drewN | apply below_drew1) | exact HB.out)⟩⟩
        case round =>
          clear H'
          try clear c1
          try clear p2
          try clear c4
          try clear c4b0
          try clear c4b1
          try clear c5
          try clear p2
          obtain ⟨x21_2, rfl, HA, HK2, HB⟩ := hrel
          cases gk with
          | zero => exact absurd HA.out (by simp [shunt_isCycle.l0])
          | succ k2 =>
            have H := HA.out
            clear HA
            simp only [shunt_isCycle.l0] at H
            by_cases c6 : x21_2 < (l1.length : Int)
            · rw [if_pos c6] at H
              have c6b0 : decide (x21_2 < (l1.length : Int)) = true := decide_eq_true c6
              clear c6
              by_cases c7 : 0 ≤ x21_2
              · rw [if_pos c7] at H
                have c7b0 : decide (0 ≤ x21_2) = true := decide_eq_true c7
                clear c7
                by_cases c8 : x21_2 < (l1.length : Int)
                · rw [if_pos c8] at H
                  have c8b0 : decide (x21_2 < (l1.length : Int)) = true := decide_eq_true c8
                  clear c8
                  replace H := Option.bind_eq_some_iff.mp H
                  obtain ⟨t523, A90, H⟩ := H
                  replace H : (if t523 = true then (if x21_2 ≤ (l1.length : Int) then ((slices_Contains_int_int.f k2 (l1.take (x21_2 : Int).toNat) (rd l1 x21_2)).bind fun t525 => (if t525 = true then (some false) else (shunt_isCycle.l0 k2 l0 l1 l1 (l1.length : Int) (wrap64 (x21_2 + 1))))) else (none)) else (some false)) = some r := H
                  have A9 := Aside0.mk A90
                  clear A90
                  by_cases c10 : t523 = true
                  · subst c10
                    have H1 : (if x21_2 ≤ (l1.length : Int) then ((slices_Contains_int_int.f k2 (l1.take (x21_2 : Int).toNat) (rd l1 x21_2)).bind fun t525 => (if t525 = true then (some false) else (shunt_isCycle.l0 k2 l0 l1 l1 (l1.length : Int) (wrap64 (x21_2 + 1))))) else (none)) = some r := by rw [if_pos rfl] at H; exact H
                    clear H
                    have H := H1
                    clear H1
                    have c11b0 := eq_true (of_decide_eq_true (by first | (with_reducible assumption) | assumption) : 0 ≤ x21_2)
                    by_cases c12 : x21_2 ≤ (l1.length : Int)
                    · rw [if_pos c12] at H
                      have c12b0 := eq_true c12
                      have c12b1 : decide (x21_2 ≤ (l1.length : Int)) = true := decide_eq_true c12
                      clear c12
                      replace H := Option.bind_eq_some_iff.mp H
                      obtain ⟨t525, A130, H⟩ := H
                      replace H : (if t525 = true then (some false) else (shunt_isCycle.l0 k2 l0 l1 l1 (l1.length : Int) (wrap64 (x21_2 + 1)))) = some r := H
                      have A13 := Aside0.mk A130
                      clear A130
                      by_cases c14 : t525 = true
                      · subst c14
                        have H1 : (some false) = some r := by rw [if_pos rfl] at H; exact H
                        clear H
                        have H := H1
                        clear H1
                        obtain rfl := Option.some.inj H
                        have p522 : 0 ≤ (x21_2 : Int) := of_decide_eq_true (by first | (with_reducible assumption) | assumption)
                        have q522 : x21_2 < (l1.length : Int) := of_decide_eq_true (by first | (with_reducible assumption) | assumption)
                        obtain ⟨ad522, e522, hx522_0⟩ := Kd.at_int HR1.out x21_2 p522 q522
                        cases e522
                        replace hx522_0 := (HB.out.cell (World.block_lt_of_cell? w _ hx522_0)).trans hx522_0
                        replace p522 := eq_true p522
                        replace q522 := eq_true q522
                        obtain ⟨i015, hi015, _, hsz15, _⟩ := info_parts info3
                        obtain ⟨hcut15, hA15, hC15⟩ := print_take_of (P := Try.prog) (Value.int .i64) 0 22 3 .i64 Try.underlying22 hi015 hsz15 (some ad522) c1 l1 x21_2 (of_decide_eq_true (by first | (with_reducible assumption) | assumption)) (of_decide_eq_true (by first | (with_reducible assumption) | assumption)) HC1.out
                        have HR524 := Aside0.mk (Kd.C_of_reads (h1 := fun _ => rfl) (hA15 _ (Kd.reads_of_C HR1.out)))
                        have HC524 := Aside0.mk hC15
                        clear hA15 hC15 hi015 hsz15
                        obtain ⟨tk15, htk15⟩ : ∃ tk_ : List Int, (l1.take (x21_2 : Int).toNat) = tk_ := ⟨_, rfl⟩
                        simp only [htk15] at *
                        have Htk15 := Aside0.mk htk15
                        clear htk15
                        go_wp2_with (first | ((with_reducible refine gate_callee (f := 64) rfl ?_); refine goesL_ (some 30) rfl rfl Try.func64 (by kernel_rfl) rfl #[.int .i64 (rd l1 x21_2), .int .i64 0, .int .i64 (wrap64 ((l0.length : Int) - 1))] rfl (by (try simp only [List.map_toArray, List.map_cons, List.map_nil]); first | done | rfl | (simp only [List.length_drop, List.length_take]; rfl)) ?_; (with_reducible refine (shunt_within.calls (rd l1 x21_2) 0 (wrap64 ((l0.length : Int) - 1)) true _ A9.out).mono ?_); rintro e w' ⟨rfl, ⟨nd, rfl⟩⟩; refine ⟨_, rfl, ?_⟩) | (go_at_call 79; (with_reducible refine (slices_Contains_int_int.calls k2 _ _ tk15 (rd l1 x21_2) true _ ?side1 ?side2 A13.out).mono ?_); (case side1 => repeat (first | exact (Kd.C_below HR524.out (by repeat (first | (with_reducible first | exact HB.out | apply below_alloc | apply pw_below_drewN | apply below_drew1) | exact HB.out))) | (with_reducible refine Kd.C_alloc ?_ _) | (with_reducible refine Kd.C_drewN ?_ _) | (with_reducible refine Kd.C_drew ?_))); (case side2 => exact HC524.out); rintro e w' ⟨rfl, ⟨nd, rfl⟩⟩))
                        go_ret
                        exact ⟨by first | rfl | (simp [errW_none, errW_some] <;> rfl) | (simp [*, errW_none, errW_some] <;> rfl), by repeat (first | (with_reducible first | exact HB.out | apply below_alloc | apply pw_below_drewN | apply below_drew1) | exact HB.out)⟩
                      · replace c14 := Bool.eq_false_iff.mpr c14
                        subst c14
                        have H1 : (shunt_isCycle.l0 k2 l0 l1 l1 (l1.length : Int) (wrap64 (x21_2 + 1))) = some r := by rw [if_neg (show ¬ (false = true) by decide)] at H; exact H
                        clear H
                        have H := H1
                        clear H1
                        have H' := Aside0.mk H
                        clear H
                        have p522 : 0 ≤ (x21_2 : Int) := of_decide_eq_true (by first | (with_reducible assumption) | assumption)
                        have q522 : x21_2 < (l1.length : Int) := of_decide_eq_true (by first | (with_reducible assumption) | assumption)
                        obtain ⟨ad522, e522, hx522_0⟩ := Kd.at_int HR1.out x21_2 p522 q522
                        cases e522
                        replace hx522_0 := (HB.out.cell (World.block_lt_of_cell? w _ hx522_0)).trans hx522_0
                        replace p522 := eq_true p522
                        replace q522 := eq_true q522
                        obtain ⟨i016, hi016, _, hsz16, _⟩ := info_parts info3
                        obtain ⟨hcut16, hA16, hC16⟩ := print_take_of (P := Try.prog) (Value.int .i64) 0 22 3 .i64 Try.underlying22 hi016 hsz16 (some ad522) c1 l1 x21_2 (of_decide_eq_true (by first | (with_reducible assumption) | assumption)) (of_decide_eq_true (by first | (with_reducible assumption) | assumption)) HC1.out
                        have HR524 := Aside0.mk (Kd.C_of_reads (h1 := fun _ => rfl) (hA16 _ (Kd.reads_of_C HR1.out)))
                        have HC524 := Aside0.mk hC16
                        clear hA16 hC16 hi016 hsz16
                        obtain ⟨tk16, htk16⟩ : ∃ tk_ : List Int, (l1.take (x21_2 : Int).toNat) = tk_ := ⟨_, rfl⟩
                        simp only [htk16] at *
                        have Htk16 := Aside0.mk htk16
                        clear htk16
                        go_wp2_with (first | ((with_reducible refine gate_callee (f := 64) rfl ?_); refine goesL_ (some 30) rfl rfl Try.func64 (by kernel_rfl) rfl #[.int .i64 (rd l1 x21_2), .int .i64 0, .int .i64 (wrap64 ((l0.length : Int) - 1))] rfl (by (try simp only [List.map_toArray, List.map_cons, List.map_nil]); first | done | rfl | (simp only [List.length_drop, List.length_take]; rfl)) ?_; (with_reducible refine (shunt_within.calls (rd l1 x21_2) 0 (wrap64 ((l0.length : Int) - 1)) true _ A9.out).mono ?_); rintro e w' ⟨rfl, ⟨nd, rfl⟩⟩; refine ⟨_, rfl, ?_⟩) | (go_at_call 79; (with_reducible refine (slices_Contains_int_int.calls k2 _ _ tk16 (rd l1 x21_2) false _ ?side1 ?side2 A13.out).mono ?_); (case side1 => repeat (first | exact (Kd.C_below HR524.out (by repeat (first | (with_reducible first | exact HB.out | apply below_alloc | apply pw_below_drewN | apply below_drew1) | exact HB.out))) | (with_reducible refine Kd.C_alloc ?_ _) | (with_reducible refine Kd.C_drewN ?_ _) | (with_reducible refine Kd.C_drew ?_))); (case side2 => exact HC524.out); rintro e w' ⟨rfl, ⟨nd, rfl⟩⟩))
                        go_roundg k2
                        case measure => have := HJ2.out; have := HK2.out; omega
                        case rel => exact ⟨(wrap64 (x21_2 + 1)), (by first | rfl | (simp; done) | (simp [*]; done)), H', ⟨by have := HJ2.out; have := HK2.out; omega⟩, ⟨by repeat (first | (with_reducible first | exact HB.out | apply below_alloc | apply pw_below_drewN | apply below_drew1) | exact HB.out)⟩⟩
                    · rw [if_neg c12] at H
                      exact absurd H (by simp)
                  · replace c10 := Bool.eq_false_iff.mpr c10
                    subst c10
                    have H1 : (some false) = some r := by rw [if_neg (show ¬ (false = true) by decide)] at H; exact H
                    clear H
                    have H := H1
                    clear H1
                    obtain rfl := Option.some.inj H
                    have p522 : 0 ≤ (x21_2 : Int) := of_decide_eq_true (by first | (with_reducible assumption) | assumption)
                    have q522 : x21_2 < (l1.length : Int) := of_decide_eq_true (by first | (with_reducible assumption) | assumption)
                    obtain ⟨ad522, e522, hx522_0⟩ := Kd.at_int HR1.out x21_2 p522 q522
                    cases e522
                    replace hx522_0 := (HB.out.cell (World.block_lt_of_cell? w _ hx522_0)).trans hx522_0
                    replace p522 := eq_true p522
                    replace q522 := eq_true q522
                    go_wp2_with (first | ((with_reducible refine gate_callee (f := 64) rfl ?_); refine goesL_ (some 30) rfl rfl Try.func64 (by kernel_rfl) rfl #[.int .i64 (rd l1 x21_2), .int .i64 0, .int .i64 (wrap64 ((l0.length : Int) - 1))] rfl (by (try simp only [List.map_toArray, List.map_cons, List.map_nil]); first | done | rfl | (simp only [List.length_drop, List.length_take]; rfl)) ?_; (with_reducible refine (shunt_within.calls (rd l1 x21_2) 0 (wrap64 ((l0.length : Int) - 1)) false _ A9.out).mono ?_); rintro e w' ⟨rfl, ⟨nd, rfl⟩⟩; refine ⟨_, rfl, ?_⟩))
                    go_ret
                    exact ⟨by first | rfl | (simp [errW_none, errW_some] <;> rfl) | (simp [*, errW_none, errW_some] <;> rfl), by repeat (first | (with_reducible first | exact HB.out | apply below_alloc | apply pw_below_drewN | apply below_drew1) | exact HB.out)⟩
                · rw [if_neg c8] at H
                  exact absurd H (by simp)
              · rw [if_neg c7] at H
                exact absurd H (by simp)
            · rw [if_neg c6] at H
              have c6b0 : decide (x21_2 < (l1.length : Int)) = false := decide_eq_false c6
              clear c6
              have H' := Aside0.mk H
              clear H
              go_wp2
              go_loopg [42] k2 (fun kq v42 w' => ∃ (x42_3 : Int), v42 = .int .i64 x42_3 ∧ Aside0 (shunt_isCycle.l1 kq l0 l1 l1 (l1.length : Int) x42_3 = some r) ∧ Aside0 (kq ≤ k2) ∧ Aside0 (Below w.heap.size w w'))
              case atStart => exact ⟨(0), (by first | rfl | (simp; done) | (simp [*]; done)), H', ⟨Nat.le_refl _⟩, ⟨by repeat (first | (with_reducible first | exact HB.out | apply below_alloc | apply pw_below_drewN | apply below_drew1) | exact HB.out)⟩⟩
              case round =>
                clear H'
                try clear c1
                try clear p2
                try clear c4
                try clear c4b0
                try clear c4b1
                try clear c5
                try clear p5
                try clear q5
                try clear hx5
                try clear c6
                try clear c6b0
                try clear p6
                try clear c7
                try clear c7b0
                try clear c8
                try clear c8b0
                try clear c10
                try clear c11
                try clear c11b0
                try clear c12
                try clear c12b0
                try clear c12b1
                try clear c14
                try clear hx522_0
                try clear p2
                try clear p522
                try clear q522
                obtain ⟨x42_3, rfl, HA, HK3, HB⟩ := hrel
                cases gk with
                | zero => exact absurd HA.out (by simp [shunt_isCycle.l1])
                | succ k3 =>
                  have H := HA.out
                  clear HA
                  simp only [shunt_isCycle.l1] at H
                  by_cases c17 : x42_3 < (l1.length : Int)
                  · rw [if_pos c17] at H
                    have c17b0 : decide (x42_3 < (l1.length : Int)) = true := decide_eq_true c17
                    clear c17
                    by_cases c18 : 0 ≤ x42_3
                    · rw [if_pos c18] at H
                      have c18b0 : decide (0 ≤ x42_3) = true := decide_eq_true c18
                      clear c18
                      by_cases c19 : x42_3 < (l1.length : Int)
                      · rw [if_pos c19] at H
                        have c19b0 : decide (x42_3 < (l1.length : Int)) = true := decide_eq_true c19
                        clear c19
                        by_cases c20 : (l1.length : Int) = 0
                        · rw [if_pos c20] at H
                          exact absurd H (by simp)
                        · rw [if_neg c20] at H
                          have c20b0 : ((l1.length : Int) == 0) = false := beq_eq_false_iff_ne.mpr c20
                          have c20b1 : ((l1.length : Int) != 0) = true := bne_iff_ne.mpr c20
                          have c20b2 : ¬ (l1 = []) := fun h_ => c20 (by rw [h_]; rfl)
                          obtain ⟨ji21, hji21⟩ : ∃ j_ : Int, (Int.tmod (wrap64 (x42_3 + 1)) (l1.length : Int)) = j_ := ⟨_, rfl⟩
                          replace H : (if 0 ≤ (ji21) then (if (ji21) < (l1.length : Int) then ((shunt_blocking.f k3 l0 (mn (rd l1 x42_3) (rd l1 (ji21))) (mx (rd l1 x42_3) (rd l1 (ji21)))).bind fun t528 => (if t528 = 0 then (some false) else (shunt_isCycle.l1 k3 l0 l1 l1 (l1.length : Int) (wrap64 (x42_3 + 1))))) else (none)) else (none)) = some r := by first | (rw [hji21] at H; exact H) | (simp only [hji21] at H ⊢; exact H)
                          by_cases c22 : 0 ≤ (ji21)
                          · rw [if_pos c22] at H
                            have c22b0 : decide (0 ≤ (ji21)) = true := decide_eq_true c22
                            clear c22
                            by_cases c23 : (ji21) < (l1.length : Int)
                            · rw [if_pos c23] at H
                              have c23b0 : decide ((ji21) < (l1.length : Int)) = true := decide_eq_true c23
                              clear c23
                              obtain ⟨ji24, hji24⟩ : ∃ j_ : Int, (mn (rd l1 x42_3) (rd l1 (ji21))) = j_ := ⟨_, rfl⟩
                              replace H : ((shunt_blocking.f k3 l0 (ji24) (mx (rd l1 x42_3) (rd l1 (ji21)))).bind fun t528 => (if t528 = 0 then (some false) else (shunt_isCycle.l1 k3 l0 l1 l1 (l1.length : Int) (wrap64 (x42_3 + 1))))) = some r := by first | (rw [hji24] at H; exact H) | (simp only [hji24] at H ⊢; exact H)
                              have hji24_ : (if (rd l1 (ji21)) < (rd l1 x42_3) then (rd l1 (ji21)) else (rd l1 x42_3)) = ji24 := hji24
                              obtain ⟨ji25, hji25⟩ : ∃ j_ : Int, (mx (rd l1 x42_3) (rd l1 (ji21))) = j_ := ⟨_, rfl⟩
                              replace H : ((shunt_blocking.f k3 l0 (ji24) (ji25)).bind fun t528 => (if t528 = 0 then (some false) else (shunt_isCycle.l1 k3 l0 l1 l1 (l1.length : Int) (wrap64 (x42_3 + 1))))) = some r := by first | (rw [hji25] at H; exact H) | (simp only [hji25] at H ⊢; exact H)
                              have hji25_ : (if (rd l1 x42_3) < (rd l1 (ji21)) then (rd l1 (ji21)) else (rd l1 x42_3)) = ji25 := hji25
                              replace H := Option.bind_eq_some_iff.mp H
                              obtain ⟨t528, A260, H⟩ := H
                              replace H : (if t528 = 0 then (some false) else (shunt_isCycle.l1 k3 l0 l1 l1 (l1.length : Int) (wrap64 (x42_3 + 1)))) = some r := H
                              have A26 := Aside0.mk A260
                              clear A260
                              by_cases c27 : t528 = 0
                              · rw [if_pos c27] at H
                                have c27b0 : (t528 == 0) = true := beq_iff_eq.mpr c27
                                have c27b1 : (t528 != 0) = false := bne_eq_false_iff_eq.mpr c27
                                clear c27
                                obtain rfl := Option.some.inj H
                                have p526 : 0 ≤ (x42_3 : Int) := of_decide_eq_true (by first | (with_reducible assumption) | assumption)
                                have q526 : x42_3 < (l1.length : Int) := of_decide_eq_true (by first | (with_reducible assumption) | assumption)
                                obtain ⟨ad526, e526, hx526_0⟩ := Kd.at_int HR1.out x42_3 p526 q526
                                cases e526
                                replace hx526_0 := (HB.out.cell (World.block_lt_of_cell? w _ hx526_0)).trans hx526_0
                                replace p526 := eq_true p526
                                replace q526 := eq_true q526
                                have p527 : 0 ≤ ((ji21) : Int) := of_decide_eq_true (by first | (with_reducible assumption) | assumption)
                                have q527 : (ji21) < (l1.length : Int) := of_decide_eq_true (by first | (with_reducible assumption) | assumption)
                                obtain ⟨ad527, e527, hx527_0⟩ := Kd.at_int HR1.out (ji21) p527 q527
                                obtain rfl : ad526 = ad527 := (by injection e527)
                                replace hx527_0 := (HB.out.cell (World.block_lt_of_cell? w _ hx527_0)).trans hx527_0
                                replace p527 := eq_true p527
                                replace q527 := eq_true q527
                                go_wp2_with (first | ((with_reducible refine gate_callee (f := 72) rfl ?_); refine goesL_ (some 62) rfl rfl Try.func72 (by kernel_rfl) rfl #[.slice A0 l0.length c0, .int .i64 ji24, .int .i64 ji25] rfl (by (try simp only [List.map_toArray, List.map_cons, List.map_nil]); first | done | (simp only [hji24, hji25]; rfl) | rfl | (simp only [List.length_drop, List.length_take]; rfl)) ?_; (with_reducible refine (shunt_blocking.calls k3 _ _ l0 ji24 ji25 t528 _ ?side1 ?side2 A26.out).mono ?_); (case side1 => repeat (first | exact (Kd.C_below HR0.out HB.out) | (with_reducible refine Kd.C_alloc ?_ _) | (with_reducible refine Kd.C_drewN ?_ _) | (with_reducible refine Kd.C_drew ?_))); (case side2 => exact HC0.out); rintro e w' ⟨rfl, ⟨nd, rfl⟩⟩; refine ⟨_, rfl, ?_⟩))
                                go_ret
                                exact ⟨by first | rfl | (simp [errW_none, errW_some] <;> rfl) | (simp only [← hji21, ← hji24, ← hji25]; first | rfl | (simp [errW_none, errW_some] <;> rfl)) | (simp [*, errW_none, errW_some] <;> rfl), by repeat (first | (with_reducible first | exact HB.out | apply below_alloc | apply pw_below_drewN | apply below_drew1) | exact HB.out)⟩
                              · rw [if_neg c27] at H
                                have c27b0 : (t528 == 0) = false := beq_eq_false_iff_ne.mpr c27
                                have c27b1 : (t528 != 0) = true := bne_iff_ne.mpr c27
                                have H' := Aside0.mk H
                                clear H
                                have p526 : 0 ≤ (x42_3 : Int) := of_decide_eq_true (by first | (with_reducible assumption) | assumption)
                                have q526 : x42_3 < (l1.length : Int) := of_decide_eq_true (by first | (with_reducible assumption) | assumption)
                                obtain ⟨ad526, e526, hx526_0⟩ := Kd.at_int HR1.out x42_3 p526 q526
                                cases e526
                                replace hx526_0 := (HB.out.cell (World.block_lt_of_cell? w _ hx526_0)).trans hx526_0
                                replace p526 := eq_true p526
                                replace q526 := eq_true q526
                                have p527 : 0 ≤ ((ji21) : Int) := of_decide_eq_true (by first | (with_reducible assumption) | assumption)
                                have q527 : (ji21) < (l1.length : Int) := of_decide_eq_true (by first | (with_reducible assumption) | assumption)
                                obtain ⟨ad527, e527, hx527_0⟩ := Kd.at_int HR1.out (ji21) p527 q527
                                obtain rfl : ad526 = ad527 := (by injection e527)
                                replace hx527_0 := (HB.out.cell (World.block_lt_of_cell? w _ hx527_0)).trans hx527_0
                                replace p527 := eq_true p527
                                replace q527 := eq_true q527
                                go_wp2_with (first | ((with_reducible refine gate_callee (f := 72) rfl ?_); refine goesL_ (some 62) rfl rfl Try.func72 (by kernel_rfl) rfl #[.slice A0 l0.length c0, .int .i64 ji24, .int .i64 ji25] rfl (by (try simp only [List.map_toArray, List.map_cons, List.map_nil]); first | done | (simp only [hji24, hji25]; rfl) | rfl | (simp only [List.length_drop, List.length_take]; rfl)) ?_; (with_reducible refine (shunt_blocking.calls k3 _ _ l0 ji24 ji25 t528 _ ?side1 ?side2 A26.out).mono ?_); (case side1 => repeat (first | exact (Kd.C_below HR0.out HB.out) | (with_reducible refine Kd.C_alloc ?_ _) | (with_reducible refine Kd.C_drewN ?_ _) | (with_reducible refine Kd.C_drew ?_))); (case side2 => exact HC0.out); rintro e w' ⟨rfl, ⟨nd, rfl⟩⟩; refine ⟨_, rfl, ?_⟩))
                                go_roundg k3
                                case measure => have := HJ2.out; have := HK2.out; have := HK3.out; omega
                                case rel => exact ⟨(wrap64 (x42_3 + 1)), (by first | rfl | (simp; done) | (simp [*]; done)), H', ⟨by have := HJ2.out; have := HK2.out; have := HK3.out; omega⟩, ⟨by repeat (first | (with_reducible first | exact HB.out | apply below_alloc | apply pw_below_drewN | apply below_drew1) | exact HB.out)⟩⟩
                            · rw [if_neg c23] at H
                              exact absurd H (by simp)
                          · rw [if_neg c22] at H
                            exact absurd H (by simp)
                      · rw [if_neg c19] at H
                        exact absurd H (by simp)
                    · rw [if_neg c18] at H
                      exact absurd H (by simp)
                  · rw [if_neg c17] at H
                    have c17b0 : decide (x42_3 < (l1.length : Int)) = false := decide_eq_false c17
                    clear c17
                    obtain rfl := Option.some.inj H
                    go_wp2
                    go_ret
                    exact ⟨by first | rfl | (simp [errW_none, errW_some] <;> rfl) | (simp [*, errW_none, errW_some] <;> rfl), by repeat (first | (with_reducible first | exact HB.out | apply below_alloc | apply pw_below_drewN | apply below_drew1) | exact HB.out)⟩

end Go.Proofs.Ytjbjongahnocdaa.S

namespace Go.Proofs.Ytjbjongahnocdaa.S
open Go.Proofs.Ytjbjongahnocdaa.Lib
open Go.Proofs.Ytjbjongahnocdaa.Defs
open Go.Maps (Keyed)
open Go.RowKit Go.Proofs.YtjbjongahnocdaaW.PrintWords Go.Proofs.YtjbjongahnocdaaW.PrintLast Go.Proofs.YtjbjongahnocdaaW.PrintMore
attribute [local go_sem] max2_int min2_int max_two min_two max_three min_three max_four min_four   -- for this text's walks alone
set_option linter.unusedVariables false
set_option linter.unusedSimpArgs false

/-! ### slices_ContainsFunc_int_int: function 70 -/
def badSide (s : Int) : Bool := !decide (0 ≤ s ∧ s ≤ 1)
def slices_ContainsFunc_int_int.f (l0 : List Int) : Option Bool := some (l0.any badSide)

set_option maxHeartbeats 800000 in
theorem sides_fn.calls (s : Int) (w : World) : Calls Try.prog 71 #[.int .i64 s] w fun e w' => e = .returned (.bool (badSide s)) ∧ Drawn0 w w' := by
  by_cases c : 0 ≤ s ∧ s ≤ 1
  · have e : badSide s = false := by unfold badSide; rw [decide_eq_true c]; rfl
    have HV := Aside0.mk (fun (W : World) => shunt_within.calls s 0 1 true W (by unfold shunt_within.f; rw [if_pos c.1, decide_eq_true c.2]))
    rw [e]
    clear c e
    go_enter Try.func71, Try.ntmps71
    go_wp2_with (go_at_call 64; go_must ((with_reducible refine (HV.out _).mono ?_); rintro e w1 ⟨rfl, ⟨nd, rfl⟩⟩))
    go_ret
    exact ⟨rfl, by repeat (first | exact Drawn0.refl _ | apply Drawn0.step)⟩
  · have e : badSide s = true := by unfold badSide; rw [decide_eq_false c]; rfl
    have hf : shunt_within.f s 0 1 = some false := by
      unfold shunt_within.f
      by_cases c1 : s ≥ 0
      · rw [if_pos c1, decide_eq_false (fun h => c ⟨c1, h⟩)]
      · rw [if_neg c1]
    have HV := Aside0.mk (fun (W : World) => shunt_within.calls s 0 1 false W hf)
    rw [e]
    clear c e hf
    go_enter Try.func71, Try.ntmps71
    go_wp2_with (go_at_call 64; go_must ((with_reducible refine (HV.out _).mono ?_); rintro e w1 ⟨rfl, ⟨nd, rfl⟩⟩))
    go_ret
    exact ⟨rfl, by repeat (first | exact Drawn0.refl _ | apply Drawn0.step)⟩

set_option maxHeartbeats 800000 in
theorem sides_index.calls (l : List Int) (A : Option Addr) (c1 : Nat) (w : World) (hr1 : Kd.C (Kd.int .i64) w A l.length l) :
    Calls Try.prog 77 #[.slice A l.length c1, .func (.func 71) #[] #[]] w fun e w' => ∃ r : Int, e = .returned (.int .i64 r) ∧ Drawn0 w w' ∧ Aside0 ((0 ≤ r) = (l.any badSide = true)) := by
  have hm : (l.length : Int) ≤ 9223372036854775807 := by have := hr1.2.1; omega
  have HR1 := Aside0.mk hr1
  clear hr1
  go_enter Try.func77, Try.ntmps77
  go_wp2
  go_loopw [8] (fun v8 wr => ∃ i : Int, v8 = .int .i64 i ∧ Aside0 (0 ≤ i ∧ i ≤ l.length) ∧ Aside0 ((l.take i.toNat).any badSide = false) ∧ Drawn0 w wr) (fun v8 _ => l.length - (intOf v8).toNat)
  case atStart => exact ⟨0, rfl, ⟨by simp⟩, ⟨rfl⟩, by repeat (first | exact Drawn0.refl _ | apply Drawn0.step)⟩
  case round =>
    obtain ⟨i, rfl, HI, HN, ⟨nd, rfl⟩⟩ := hrel
    obtain ⟨p0, p1⟩ := HI.out
    by_cases c2 : i < (l.length : Int)
    · have c2b0 : decide (i < (l.length : Int)) = true := decide_eq_true c2
      obtain ⟨ad, ea, hx⟩ := Kd.at_int HR1.out i p0 c2
      cases ea
      have hlt : i.toNat < l.length := by omega
      have hrd : rd l i = l[i.toNat] := by
        unfold rd
        rw [List.getD_eq_getElem?_getD, List.getElem?_eq_getElem hlt, Option.getD_some]
      have htk : l.take (i + 1).toNat = l.take i.toNat ++ [rd l i] := by
        rw [show (i + 1).toNat = i.toNat + 1 by omega, List.take_succ_eq_append_getElem hlt, hrd]
      have HC := Aside0.mk (fun W => sides_fn.calls (rd l i) W)
      have q0 := eq_true p0
      have q1 := eq_true c2
      cases c3 : badSide (rd l i) with
      | true =>
        rw [c3] at HC
        have HF := Aside0.mk (show (0 ≤ i) = (l.any badSide = true) from propext ⟨fun _ => List.any_eq_true.2 ⟨_, by rw [hrd]; exact List.getElem_mem hlt, c3⟩, fun _ => p0⟩)
        clear hrd htk c2 c3 hlt p1 p0
        go_wp2_with (go_at_call 71; go_must ((with_reducible refine (HC.out _).mono ?_); rintro e w2 ⟨rfl, ⟨nd2, rfl⟩⟩))
        go_ret
        exact ⟨_, rfl, by repeat (first | exact Drawn0.refl _ | apply Drawn0.step), HF⟩
      | false =>
        rw [c3] at HC
        have HN2 := Aside0.mk (show (l.take (i + 1).toNat).any badSide = false by
          rw [htk, List.any_append, HN.out]
          simp [c3])
        clear hrd htk c2 c3 hlt p0
        have hi : wrap64 (i + 1) = i + 1 := by have := of_eq_true q1; have := HI.out; unfold wrap64; omega
        go_wp2_with (go_at_call 71; go_must ((with_reducible refine (HC.out _).mono ?_); rintro e w2 ⟨rfl, ⟨nd2, rfl⟩⟩))
        go_roundw
        case rel => exact ⟨i + 1, by go_num, ⟨by have := of_eq_true q1; have := HI.out; omega⟩, HN2, by repeat (first | exact Drawn0.refl _ | apply Drawn0.step)⟩
        case measure => have := of_eq_true q1; have := HI.out; simp [intOf, hi]; omega
    · have c2b0 : decide (i < (l.length : Int)) = false := decide_eq_false c2
      have HF := Aside0.mk (show (0 ≤ (-1 : Int)) = (l.any badSide = true) by
        have := HN.out
        rw [List.take_of_length_le (by omega)] at this
        rw [this]
        simp)
      clear c2
      go_wp2
      go_ret
      exact ⟨_, rfl, by repeat (first | exact Drawn0.refl _ | apply Drawn0.step), HF⟩

set_option maxHeartbeats 800000 in
theorem slices_ContainsFunc_int_int.calls (A0 : Option Addr) (c0 : Nat) (l0 : List Int) (r : Bool) (w : World) (hr0 : Kd.C (Kd.int .i64) w A0 l0.length l0) (hc0 : l0.length ≤ c0) (h : slices_ContainsFunc_int_int.f l0 = some r) :
    Calls Try.prog 70 #[.slice A0 l0.length c0, .func (.func 71) #[] #[]] w fun e w' => e = .returned (.bool r) ∧ Drawn0 w w' := by
  have HS := Aside0.mk (fun n => sides_index.calls l0 A0 c0 (w.drewN n) (Kd.C_drewN hr0 n))
  have HI := Aside0.mk (sides_index.calls l0 A0 c0 w hr0)
  have HB := Aside0.mk (show l0.any badSide = r from Option.some.inj h)
  clear h hr0
  go_enter Try.func70, Try.ntmps70
  go_wp2_with (go_at_call 77; go_must ((with_reducible refine HI.out.mono ?_); rintro e w1 ⟨q, rfl, ⟨nd, rfl⟩, hq⟩; have hqr : decide (0 ≤ q) = r := (by rw [← HB.out]; cases hc : l0.any badSide with | true => exact decide_eq_true (by rw [hq.out]; exact hc) | false => exact decide_eq_false (by rw [hq.out, hc]; decide)); clear hq))
  go_ret
  exact ⟨rfl, by repeat (first | exact Drawn0.refl _ | apply Drawn0.step)⟩


end Go.Proofs.Ytjbjongahnocdaa.S

namespace Go.Proofs.Ytjbjongahnocdaa.S
open Go.Proofs.Ytjbjongahnocdaa.Lib
open Go.Proofs.Ytjbjongahnocdaa.Defs
open Go.Maps (Keyed)
open Go.RowKit Go.Proofs.YtjbjongahnocdaaW.PrintWords Go.Proofs.YtjbjongahnocdaaW.PrintLast Go.Proofs.YtjbjongahnocdaaW.PrintMore
attribute [local go_sem] max2_int min2_int max_two min_two max_three min_three max_four min_four   -- for this text's walks alone
set_option linter.unusedVariables false
set_option linter.unusedSimpArgs false

/-! ### shunt_CheckStacks: function 45 -/
mutual
def shunt_CheckStacks.j0 : Nat → List Int → List Int → List Int → Bool → Option (Int)
  | 0, _, _, _, _ => none
  | k + 1, x0, x1, x2, x7 => if (x1.length : Int) = (x0.length : Int) then (shunt_CheckStacks.j1 k x0 x1 x7 ((x2.length : Int) == 0)) else (shunt_CheckStacks.j1 k x0 x1 x7 false)
def shunt_CheckStacks.j1 : Nat → List Int → List Int → Bool → Bool → Option (Int)
  | 0, _, _, _, _ => none
  | k + 1, x0, x1, x7, x30 => if x30 = true then ((slices_ContainsFunc_int_int.f x1).bind fun t531 => (shunt_CheckStacks.l0 k x0 x1 (!t531) (x1.length : Int) 0)) else (if x7 = true then (some 0) else (some 10))
def shunt_CheckStacks.l0 : Nat → List Int → List Int → Bool → Int → Int → Option (Int)
  | 0, _, _, _, _, _ => none
  | k + 1, x0, x1, x7, x35, x36 => if x36 < x35 then (shunt_CheckStacks.l1 k x0 x1 x7 x36 x35 x36 x36 0) else (if x7 = true then (some 0) else (some 10))
def shunt_CheckStacks.l1 : Nat → List Int → List Int → Bool → Int → Int → Int → Int → Int → Option (Int)
  | 0, _, _, _, _, _, _, _, _ => none
  | k + 1, x0, x1, x7, x8, x35, x36, x39, x40 => if x40 < x39 then (if x7 = true then (if 0 ≤ x40 then (if x40 < (x1.length : Int) then (if 0 ≤ x8 then (if x8 < (x1.length : Int) then (if (rd x1 x40) = (rd x1 x8) then ((shunt_blocking.f k x0 x40 x8).bind fun t534 => (shunt_CheckStacks.l1 k x0 x1 (t534 == 0) x8 x35 x36 x39 (wrap64 (x40 + 1)))) else (shunt_CheckStacks.l1 k x0 x1 true x8 x35 x36 x39 (wrap64 (x40 + 1)))) else (none)) else (none)) else (none)) else (none)) else (shunt_CheckStacks.l1 k x0 x1 false x8 x35 x36 x39 (wrap64 (x40 + 1)))) else (shunt_CheckStacks.l0 k x0 x1 x7 x35 (wrap64 (x36 + 1)))
end
def shunt_CheckStacks.f (k : Nat) (l0 : List Int) (l1 : List Int) (l2 : List Int) : Option (Int) := (shunt_isOrder.f l0).bind fun t529 => (if t529 = true then (if (l1.length : Int) = 0 then ((shunt_isCycle.f k l0 l2).bind fun t530 => (shunt_CheckStacks.j0 k l0 l1 l2 t530)) else (shunt_CheckStacks.j0 k l0 l1 l2 false)) else (some 2))
theorem shunt_CheckStacks.mono_l : ∀ k, (∀ y0 y1 y2 y3, LeO (shunt_CheckStacks.j0 k y0 y1 y2 y3) (shunt_CheckStacks.j0 (k + 1) y0 y1 y2 y3)) ∧ (∀ y0 y1 y2 y3, LeO (shunt_CheckStacks.j1 k y0 y1 y2 y3) (shunt_CheckStacks.j1 (k + 1) y0 y1 y2 y3)) ∧ (∀ y0 y1 y2 y3 y4, LeO (shunt_CheckStacks.l0 k y0 y1 y2 y3 y4) (shunt_CheckStacks.l0 (k + 1) y0 y1 y2 y3 y4)) ∧ (∀ y0 y1 y2 y3 y4 y5 y6 y7, LeO (shunt_CheckStacks.l1 k y0 y1 y2 y3 y4 y5 y6 y7) (shunt_CheckStacks.l1 (k + 1) y0 y1 y2 y3 y4 y5 y6 y7))
  | 0 => ⟨fun _ _ _ _ r h => by simp [shunt_CheckStacks.j0] at h, fun _ _ _ _ r h => by simp [shunt_CheckStacks.j1] at h, fun _ _ _ _ _ r h => by simp [shunt_CheckStacks.l0] at h, fun _ _ _ _ _ _ _ _ r h => by simp [shunt_CheckStacks.l1] at h⟩
  | k + 1 => by
    obtain ⟨ih0, ih1, ih2, ih3⟩ := shunt_CheckStacks.mono_l k
    refine ⟨?_, ?_, ?_, ?_⟩
    · intro y0 y1 y2 y3
      unfold shunt_CheckStacks.j0
      repeat' first
      | (with_reducible exact ih0 _ _ _ _)
      | (with_reducible exact ih1 _ _ _ _)
      | (with_reducible exact ih2 _ _ _ _ _)
      | (with_reducible exact ih3 _ _ _ _ _ _ _ _)
      | (with_reducible exact shunt_blocking.mono _ _ _ _)
      | (with_reducible exact shunt_isCycle.mono _ _ _)
      | (with_reducible exact LeO.refl _)
      | (with_reducible exact LeO.none _)
      | (with_reducible refine LeO.ite ?_ ?_)
      | (with_reducible refine LeO.bind ?_ (fun _ => ?_))
      | exact ih0 _ _ _ _
      | exact ih1 _ _ _ _
      | exact ih2 _ _ _ _ _
      | exact ih3 _ _ _ _ _ _ _ _
      | exact shunt_blocking.mono _ _ _ _
      | exact shunt_isCycle.mono _ _ _
      | exact LeO.none _
      | refine LeO.ite ?_ ?_
      | refine LeO.bind ?_ (fun _ => ?_)
    · intro y0 y1 y2 y3
      unfold shunt_CheckStacks.j1
      repeat' first
      | (with_reducible exact ih0 _ _ _ _)
      | (with_reducible exact ih1 _ _ _ _)
      | (with_reducible exact ih2 _ _ _ _ _)
      | (with_reducible exact ih3 _ _ _ _ _ _ _ _)
      | (with_reducible exact shunt_blocking.mono _ _ _ _)
      | (with_reducible exact shunt_isCycle.mono _ _ _)
      | (with_reducible exact LeO.refl _)
      | (with_reducible exact LeO.none _)
      | (with_reducible refine LeO.ite ?_ ?_)
      | (with_reducible refine LeO.bind ?_ (fun _ => ?_))
      | exact ih0 _ _ _ _
      | exact ih1 _ _ _ _
      | exact ih2 _ _ _ _ _
      | exact ih3 _ _ _ _ _ _ _ _
      | exact shunt_blocking.mono _ _ _ _
      | exact shunt_isCycle.mono _ _ _
      | exact LeO.none _
      | refine LeO.ite ?_ ?_
      | refine LeO.bind ?_ (fun _ => ?_)
    · intro y0 y1 y2 y3 y4
      unfold shunt_CheckStacks.l0
      repeat' first
      | (with_reducible exact ih0 _ _ _ _)
      | (with_reducible exact ih1 _ _ _ _)
      | (with_reducible exact ih2 _ _ _ _ _)
      | (with_reducible exact ih3 _ _ _ _ _ _ _ _)
      | (with_reducible exact shunt_blocking.mono _ _ _ _)
      | (with_reducible exact shunt_isCycle.mono _ _ _)
      | (with_reducible exact LeO.refl _)
      | (with_reducible exact LeO.none _)
      | (with_reducible refine LeO.ite ?_ ?_)
      | (with_reducible refine LeO.bind ?_ (fun _ => ?_))
      | exact ih0 _ _ _ _
      | exact ih1 _ _ _ _
      | exact ih2 _ _ _ _ _
      | exact ih3 _ _ _ _ _ _ _ _
      | exact shunt_blocking.mono _ _ _ _
      | exact shunt_isCycle.mono _ _ _
      | exact LeO.none _
      | refine LeO.ite ?_ ?_
      | refine LeO.bind ?_ (fun _ => ?_)
    · intro y0 y1 y2 y3 y4 y5 y6 y7
      unfold shunt_CheckStacks.l1
      repeat' first
      | (with_reducible exact ih0 _ _ _ _)
      | (with_reducible exact ih1 _ _ _ _)
      | (with_reducible exact ih2 _ _ _ _ _)
      | (with_reducible exact ih3 _ _ _ _ _ _ _ _)
      | (with_reducible exact shunt_blocking.mono _ _ _ _)
      | (with_reducible exact shunt_isCycle.mono _ _ _)
      | (with_reducible exact LeO.refl _)
      | (with_reducible exact LeO.none _)
      | (with_reducible refine LeO.ite ?_ ?_)
      | (with_reducible refine LeO.bind ?_ (fun _ => ?_))
      | exact ih0 _ _ _ _
      | exact ih1 _ _ _ _
      | exact ih2 _ _ _ _ _
      | exact ih3 _ _ _ _ _ _ _ _
      | exact shunt_blocking.mono _ _ _ _
      | exact shunt_isCycle.mono _ _ _
      | exact LeO.none _
      | refine LeO.ite ?_ ?_
      | refine LeO.bind ?_ (fun _ => ?_)
theorem shunt_CheckStacks.mono : ∀ a0 a1 a2 k, LeO (shunt_CheckStacks.f k a0 a1 a2) (shunt_CheckStacks.f (k + 1) a0 a1 a2) := by
  intro a0 a1 a2 k
  obtain ⟨ih0, ih1, ih2, ih3⟩ := shunt_CheckStacks.mono_l k
  unfold shunt_CheckStacks.f
  repeat' first
      | (with_reducible exact ih0 _ _ _ _)
      | (with_reducible exact ih1 _ _ _ _)
      | (with_reducible exact ih2 _ _ _ _ _)
      | (with_reducible exact ih3 _ _ _ _ _ _ _ _)
      | (with_reducible exact shunt_blocking.mono _ _ _ _)
      | (with_reducible exact shunt_isCycle.mono _ _ _)
      | (with_reducible exact LeO.refl _)
      | (with_reducible exact LeO.none _)
      | (with_reducible refine LeO.ite ?_ ?_)
      | (with_reducible refine LeO.bind ?_ (fun _ => ?_))
      | exact ih0 _ _ _ _
      | exact ih1 _ _ _ _
      | exact ih2 _ _ _ _ _
      | exact ih3 _ _ _ _ _ _ _ _
      | exact shunt_blocking.mono _ _ _ _
      | exact shunt_isCycle.mono _ _ _
      | exact LeO.none _
      | refine LeO.ite ?_ ?_
      | refine LeO.bind ?_ (fun _ => ?_)
set_option maxHeartbeats 8000000 in
set_option maxRecDepth 100000 in
theorem shunt_CheckStacks.calls (k : Nat) (A0 : Option Addr) (c0 : Nat) (l0 : List Int) (A1 : Option Addr) (c1 : Nat) (l1 : List Int) (A2 : Option Addr) (c2 : Nat) (l2 : List Int) (r : Int) (w : World) (hr0 : Kd.C (Kd.int .i64) w A0 l0.length l0) (hc0 : l0.length ≤ c0) (hr1 : Kd.C (Kd.int .i64) w A1 l1.length l1) (hc1 : l1.length ≤ c1) (hr2 : Kd.C (Kd.int .i64) w A2 l2.length l2) (hc2 : l2.length ≤ c2) (h : shunt_CheckStacks.f k l0 l1 l2 = some r) :
    Calls Try.prog 45 #[.slice A0 l0.length c0, .slice A1 l1.length c1, .slice A2 l2.length c2] w fun e w' => e = .returned (.int .i64 r) ∧ Below w.heap.size w w' := by
  have HR0 := Aside0.mk hr0
  have HC0 := Aside0.mk hc0
  clear hr0 hc0
  have HR1 := Aside0.mk hr1
  have HC1 := Aside0.mk hc1
  clear hr1 hc1
  have HR2 := Aside0.mk hr2
  have HC2 := Aside0.mk hc2
  clear hr2 hc2
  have HB := Aside0.mk (Below.refl w.heap.size w)
  have H : ((shunt_isOrder.f l0).bind fun t529 => (if t529 = true then (if (l1.length : Int) = 0 then ((shunt_isCycle.f k l0 l2).bind fun t530 => (shunt_CheckStacks.j0 k l0 l1 l2 t530)) else (shunt_CheckStacks.j0 k l0 l1 l2 false)) else (some 2))) = some r := h
  clear h
  replace H := Option.bind_eq_some_iff.mp H
  obtain ⟨t529, A40, H⟩ := H
  replace H : (if t529 = true then (if (l1.length : Int) = 0 then ((shunt_isCycle.f k l0 l2).bind fun t530 => (shunt_CheckStacks.j0 k l0 l1 l2 t530)) else (shunt_CheckStacks.j0 k l0 l1 l2 false)) else (some 2)) = some r := H
  have A4 := Aside0.mk A40
  clear A40
  by_cases c5 : t529 = true
  · subst c5
    have H1 : (if (l1.length : Int) = 0 then ((shunt_isCycle.f k l0 l2).bind fun t530 => (shunt_CheckStacks.j0 k l0 l1 l2 t530)) else (shunt_CheckStacks.j0 k l0 l1 l2 false)) = some r := by rw [if_pos rfl] at H; exact H
    clear H
    have H := H1
    clear H1
    have HC6 := Aside0.mk H
    clear H
    go_enter Try.func45, Try.ntmps45
    go_upto_region 3 with (first | (go_at_call 52; (with_reducible refine (shunt_isOrder.calls _ _ l0 true _ ?side1 ?side2 A4.out).mono ?_); (case side1 => repeat (first | exact HR0.out | (with_reducible refine Kd.C_alloc ?_ _) | (with_reducible refine Kd.C_drewN ?_ _) | (with_reducible refine Kd.C_drew ?_))); (case side2 => exact HC0.out); rintro e w7 ⟨rfl, hb⟩; have n0_ := Aside0.mk (below_step (by repeat (first | (with_reducible first | exact HB.out | apply below_alloc | apply pw_below_drewN | apply below_drew1) | exact HB.out)) hb); clear HB; have HB := n0_; clear n0_; (try clear hb); (try clear hb2); (try clear hk); (try clear hi)))
    repeat (go_quiet (first | (go_at_call 52; (with_reducible refine (shunt_isOrder.calls _ _ l0 true _ ?side1 ?side2 A4.out).mono ?_); (case side1 => repeat (first | exact HR0.out | (with_reducible refine Kd.C_alloc ?_ _) | (with_reducible refine Kd.C_drewN ?_ _) | (with_reducible refine Kd.C_drew ?_))); (case side2 => exact HC0.out); rintro e w7 ⟨rfl, hb⟩; have n0_ := Aside0.mk (below_step (by repeat (first | (with_reducible first | exact HB.out | apply below_alloc | apply pw_below_drewN | apply below_drew1) | exact HB.out)) hb); clear HB; have HB := n0_; clear n0_; (try clear hb); (try clear hb2); (try clear hk); (try clear hi))); go_upto_region 3 with (first | (go_at_call 52; (with_reducible refine (shunt_isOrder.calls _ _ l0 true _ ?side1 ?side2 A4.out).mono ?_); (case side1 => repeat (first | exact HR0.out | (with_reducible refine Kd.C_alloc ?_ _) | (with_reducible refine Kd.C_drewN ?_ _) | (with_reducible refine Kd.C_drew ?_))); (case side2 => exact HC0.out); rintro e w7 ⟨rfl, hb⟩; have n0_ := Aside0.mk (below_step (by repeat (first | (with_reducible first | exact HB.out | apply below_alloc | apply pw_below_drewN | apply below_drew1) | exact HB.out)) hb); clear HB; have HB := n0_; clear n0_; (try clear hb); (try clear hb2); (try clear hk); (try clear hi))))
    (try simp only [Act.put, List.setIfInBounds_toArray, List.set_cons_zero, List.set_cons_succ])
    go_cut [7] (fun v7 wc => ∃ (kq : Nat) (x7_5 : Bool), v7 = .bool x7_5 ∧ Aside0 (shunt_CheckStacks.j0 kq l0 l1 l2 x7_5 = some r) ∧ Aside0 (kq ≤ k) ∧ Aside0 (Below w.heap.size w wc))
    case first =>
      have H := HC6.out
      clear HC6
      by_cases c8 : (l1.length : Int) = 0
      · rw [if_pos c8] at H
        have c8b0 : ((l1.length : Int) == 0) = true := beq_iff_eq.mpr c8
        have c8b1 : ((l1.length : Int) != 0) = false := bne_eq_false_iff_eq.mpr c8
        clear c8
        (first | rw [c8b0] | (simp only [i64_w, i32_w]; rw [c8b0]) | skip)
        replace H := Option.bind_eq_some_iff.mp H
        obtain ⟨t530, A90, H⟩ := H
        replace H : (shunt_CheckStacks.j0 k l0 l1 l2 t530) = some r := H
        have A9 := Aside0.mk A90
        clear A90
        have H' := Aside0.mk H
        clear H
        go_wp2_with (first | (go_at_call 69; (with_reducible refine (shunt_isCycle.calls k _ _ l0 _ _ l2 t530 _ ?side1 ?side2 ?side3 ?side4 A9.out).mono ?_); (case side1 => repeat (first | exact (Kd.C_below HR0.out HB.out) | (with_reducible refine Kd.C_alloc ?_ _) | (with_reducible refine Kd.C_drewN ?_ _) | (with_reducible refine Kd.C_drew ?_))); (case side2 => exact HC0.out); (case side3 => repeat (first | exact (Kd.C_below HR2.out HB.out) | (with_reducible refine Kd.C_alloc ?_ _) | (with_reducible refine Kd.C_drewN ?_ _) | (with_reducible refine Kd.C_drew ?_))); (case side4 => exact HC2.out); rintro e w10 ⟨rfl, hb⟩; have n0_ := Aside0.mk (below_step (by repeat (first | (with_reducible first | exact HB.out | apply below_alloc | apply pw_below_drewN | apply below_drew1) | exact HB.out)) hb); clear HB; have HB := n0_; clear n0_; (try clear hb); (try clear hb2); (try clear hk); (try clear hi)))
        repeat (go_quiet (first | (go_at_call 69; (with_reducible refine (shunt_isCycle.calls k _ _ l0 _ _ l2 t530 _ ?side1 ?side2 ?side3 ?side4 A9.out).mono ?_); (case side1 => repeat (first | exact (Kd.C_below HR0.out HB.out) | (with_reducible refine Kd.C_alloc ?_ _) | (with_reducible refine Kd.C_drewN ?_ _) | (with_reducible refine Kd.C_drew ?_))); (case side2 => exact HC0.out); (case side3 => repeat (first | exact (Kd.C_below HR2.out HB.out) | (with_reducible refine Kd.C_alloc ?_ _) | (with_reducible refine Kd.C_drewN ?_ _) | (with_reducible refine Kd.C_drew ?_))); (case side4 => exact HC2.out); rintro e w10 ⟨rfl, hb⟩; have n0_ := Aside0.mk (below_step (by repeat (first | (with_reducible first | exact HB.out | apply below_alloc | apply pw_below_drewN | apply below_drew1) | exact HB.out)) hb); clear HB; have HB := n0_; clear n0_; (try clear hb); (try clear hb2); (try clear hk); (try clear hi))); try go_wp2_with (first | (go_at_call 69; (with_reducible refine (shunt_isCycle.calls k _ _ l0 _ _ l2 t530 _ ?side1 ?side2 ?side3 ?side4 A9.out).mono ?_); (case side1 => repeat (first | exact (Kd.C_below HR0.out HB.out) | (with_reducible refine Kd.C_alloc ?_ _) | (with_reducible refine Kd.C_drewN ?_ _) | (with_reducible refine Kd.C_drew ?_))); (case side2 => exact HC0.out); (case side3 => repeat (first | exact (Kd.C_below HR2.out HB.out) | (with_reducible refine Kd.C_alloc ?_ _) | (with_reducible refine Kd.C_drewN ?_ _) | (with_reducible refine Kd.C_drew ?_))); (case side4 => exact HC2.out); rintro e w10 ⟨rfl, hb⟩; have n0_ := Aside0.mk (below_step (by repeat (first | (with_reducible first | exact HB.out | apply below_alloc | apply pw_below_drewN | apply below_drew1) | exact HB.out)) hb); clear HB; have HB := n0_; clear n0_; (try clear hb); (try clear hb2); (try clear hk); (try clear hi))))
        go_meet
        case rel => exact ⟨_, (t530), (by first | rfl | (simp; done) | (simp [*]; done)), H', ⟨by first | omega | exact Nat.le_refl _⟩, ⟨by repeat (first | (with_reducible first | exact HB.out | apply below_alloc | apply pw_below_drewN | apply below_drew1) | exact HB.out)⟩⟩
      · rw [if_neg c8] at H
        have c8b0 : ((l1.length : Int) == 0) = false := beq_eq_false_iff_ne.mpr c8
        have c8b1 : ((l1.length : Int) != 0) = true := bne_iff_ne.mpr c8
        have c8b2 : ¬ (l1 = []) := fun h_ => c8 (by rw [h_]; rfl)
        (first | rw [c8b0] | (simp only [i64_w, i32_w]; rw [c8b0]) | skip)
        have H' := Aside0.mk H
        clear H
        go_wp2
        repeat (go_quiet (fail); try go_wp2)
        go_meet
        case rel => exact ⟨_, (false), (by first | rfl | (simp; done) | (simp [*]; done)), H', ⟨by first | omega | exact Nat.le_refl _⟩, ⟨by repeat (first | (with_reducible first | exact HB.out | apply below_alloc | apply pw_below_drewN | apply below_drew1) | exact HB.out)⟩⟩
    case rest =>
      clear HC6
      try clear c1
      try clear c2
      try clear p2
      try clear c4
      try clear c5
      try clear c8
      try clear c8b0
      try clear c8b1
      try clear c8b2
      obtain ⟨kq, x7_5, rfl, HA, HJ5, HB⟩ := hcut
      cases kq with
      | zero => exact absurd HA.out (by simp [shunt_CheckStacks.j0])
      | succ kj5 =>
        have H := HA.out
        clear HA
        simp only [shunt_CheckStacks.j0] at H
        have HC11 := Aside0.mk H
        clear H
        go_upto_region 4 with (fail)
        repeat (go_quiet (fail); go_upto_region 4 with (fail))
        go_cut [30] (fun v30 wc => ∃ (kq : Nat) (x30_10 : Bool), v30 = .bool x30_10 ∧ Aside0 (shunt_CheckStacks.j1 kq l0 l1 x7_5 x30_10 = some r) ∧ Aside0 (kq ≤ kj5) ∧ Aside0 (Below w.heap.size w wc))
        case first =>
          have H := HC11.out
          clear HC11
          by_cases c12 : (l1.length : Int) = (l0.length : Int)
          · rw [if_pos c12] at H
            have c12b0 : ((l1.length : Int) == (l0.length : Int)) = true := beq_iff_eq.mpr c12
            have c12b1 : ((l1.length : Int) != (l0.length : Int)) = false := bne_eq_false_iff_eq.mpr c12
            have c12b2 : (l1.length == l0.length) = true := by first | simpa using c12 | (simp at c12 ⊢; omega)
            clear c12
            (first | rw [c12b0] | (simp only [i64_w, i32_w]; rw [c12b0]) | skip)
            have H' := Aside0.mk H
            clear H
            go_wp2
            repeat (go_quiet (fail); try go_wp2)
            go_meet
            case rel => exact ⟨_, (((l2.length : Int) == 0)), (by first | rfl | (simp; done) | (simp [*]; done)), H', ⟨by have := HJ5.out; first | omega | exact Nat.le_refl _⟩, ⟨by repeat (first | (with_reducible first | exact HB.out | apply below_alloc | apply pw_below_drewN | apply below_drew1) | exact HB.out)⟩⟩
          · rw [if_neg c12] at H
            have c12b0 : ((l1.length : Int) == (l0.length : Int)) = false := beq_eq_false_iff_ne.mpr c12
            have c12b1 : ((l1.length : Int) != (l0.length : Int)) = true := bne_iff_ne.mpr c12
            have c12b2 : (l1.length == l0.length) = false := by first | simpa using c12 | (simp at c12 ⊢; omega)
            (first | rw [c12b0] | (simp only [i64_w, i32_w]; rw [c12b0]) | skip)
            have H' := Aside0.mk H
            clear H
            go_wp2
            repeat (go_quiet (fail); try go_wp2)
            go_meet
            case rel => exact ⟨_, (false), (by first | rfl | (simp; done) | (simp [*]; done)), H', ⟨by have := HJ5.out; first | omega | exact Nat.le_refl _⟩, ⟨by repeat (first | (with_reducible first | exact HB.out | apply below_alloc | apply pw_below_drewN | apply below_drew1) | exact HB.out)⟩⟩
        case rest =>
          clear HC11
          try clear c1
          try clear c2
          try clear p2
          try clear c4
          try clear c5
          try clear c8
          try clear c8b0
          try clear c8b1
          try clear c8b2
          try clear c12
          try clear c12b0
          try clear c12b1
          try clear c12b2
          try clear p2
          obtain ⟨kq, x30_10, rfl, HA, HJ10, HB⟩ := hcut
          cases kq with
          | zero => exact absurd HA.out (by simp [shunt_CheckStacks.j1])
          | succ kj10 =>
            have H := HA.out
            clear HA
            simp only [shunt_CheckStacks.j1] at H
            by_cases c13 : x30_10 = true
            · subst c13
              have H1 : ((slices_ContainsFunc_int_int.f l1).bind fun t531 => (shunt_CheckStacks.l0 kj10 l0 l1 (!t531) (l1.length : Int) 0)) = some r := by rw [if_pos rfl] at H; exact H
              clear H
              have H := H1
              clear H1
              replace H := Option.bind_eq_some_iff.mp H
              obtain ⟨t531, A140, H⟩ := H
              replace H : (shunt_CheckStacks.l0 kj10 l0 l1 (!t531) (l1.length : Int) 0) = some r := H
              have A14 := Aside0.mk A140
              clear A140
              have H' := Aside0.mk H
              clear H
              go_wp2_with (first | (go_at_call 70; (with_reducible refine (slices_ContainsFunc_int_int.calls _ _ l1 t531 _ ?side1 ?side2 A14.out).mono ?_); (case side1 => repeat (first | exact (Kd.C_below HR1.out HB.out) | (with_reducible refine Kd.C_alloc ?_ _) | (with_reducible refine Kd.C_drewN ?_ _) | (with_reducible refine Kd.C_drew ?_))); (case side2 => exact HC1.out); rintro e w' ⟨rfl, ⟨nd, rfl⟩⟩; (try first | exact ⟨rfl, _, World.drewN_drewN _ _ _⟩ | exact ⟨rfl, _, Eq.trans (World.drewN_drewN _ _ _) (congrArg (World.drewN _) (Nat.add_assoc _ _ _))⟩)))
              repeat (go_quiet (first | (go_at_call 70; (with_reducible refine (slices_ContainsFunc_int_int.calls _ _ l1 t531 _ ?side1 ?side2 A14.out).mono ?_); (case side1 => repeat (first | exact (Kd.C_below HR1.out HB.out) | (with_reducible refine Kd.C_alloc ?_ _) | (with_reducible refine Kd.C_drewN ?_ _) | (with_reducible refine Kd.C_drew ?_))); (case side2 => exact HC1.out); rintro e w' ⟨rfl, ⟨nd, rfl⟩⟩; (try first | exact ⟨rfl, _, World.drewN_drewN _ _ _⟩ | exact ⟨rfl, _, Eq.trans (World.drewN_drewN _ _ _) (congrArg (World.drewN _) (Nat.add_assoc _ _ _))⟩))); try go_wp2_with (first | (go_at_call 70; (with_reducible refine (slices_ContainsFunc_int_int.calls _ _ l1 t531 _ ?side1 ?side2 A14.out).mono ?_); (case side1 => repeat (first | exact (Kd.C_below HR1.out HB.out) | (with_reducible refine Kd.C_alloc ?_ _) | (with_reducible refine Kd.C_drewN ?_ _) | (with_reducible refine Kd.C_drew ?_))); (case side2 => exact HC1.out); rintro e w' ⟨rfl, ⟨nd, rfl⟩⟩; (try first | exact ⟨rfl, _, World.drewN_drewN _ _ _⟩ | exact ⟨rfl, _, Eq.trans (World.drewN_drewN _ _ _) (congrArg (World.drewN _) (Nat.add_assoc _ _ _))⟩))))
              go_loopg [7, 36] kj10 (fun kq v7 v36 w' => ∃ (x7_3 : Bool) (x36_3 : Int), v7 = .bool x7_3 ∧ v36 = .int .i64 x36_3 ∧ Aside0 (shunt_CheckStacks.l0 kq l0 l1 x7_3 (l1.length : Int) x36_3 = some r) ∧ Aside0 (kq ≤ kj10) ∧ Aside0 (Below w.heap.size w w'))
              case atStart => exact ⟨(!t531), (0), (by first | rfl | (simp; done) | (simp [*]; done)), (by first | rfl | (simp; done) | (simp [*]; done)), H', ⟨Nat.le_refl _⟩, ⟨by repeat (first | (with_reducible first | exact HB.out | apply below_alloc | apply pw_below_drewN | apply below_drew1) | exact HB.out)⟩⟩
              case round =>
                clear H'
                try clear c1
                try clear c2
                try clear p2
                try clear c4
                try clear c5
                try clear c8
                try clear c8b0
                try clear c8b1
                try clear c8b2
                try clear c12
                try clear c12b0
                try clear c12b1
                try clear c12b2
                try clear c13
                try clear p2
                obtain ⟨x7_3, x36_3, rfl, rfl, HA, HK3, HB⟩ := hrel
                cases gk with
                | zero => exact absurd HA.out (by simp [shunt_CheckStacks.l0])
                | succ k3 =>
                  have H := HA.out
                  clear HA
                  simp only [shunt_CheckStacks.l0] at H
                  by_cases c15 : x36_3 < (l1.length : Int)
                  · rw [if_pos c15] at H
                    have c15b0 : decide (x36_3 < (l1.length : Int)) = true := decide_eq_true c15
                    clear c15
                    have H' := Aside0.mk H
                    clear H
                    go_wp2
                    repeat (go_quiet (fail); try go_wp2)
                    go_loopg [7, 40] k3 (fun kq v7 v40 w' => ∃ (x7_4 : Bool) (x40_4 : Int), v7 = .bool x7_4 ∧ v40 = .int .i64 x40_4 ∧ Aside0 (shunt_CheckStacks.l1 kq l0 l1 x7_4 x36_3 (l1.length : Int) x36_3 x36_3 x40_4 = some r) ∧ Aside0 (kq ≤ k3) ∧ Aside0 (Below w.heap.size w w'))
                    case atStart => exact ⟨(x7_3), (0), (by first | rfl | (simp; done) | (simp [*]; done)), (by first | rfl | (simp; done) | (simp [*]; done)), H', ⟨Nat.le_refl _⟩, ⟨by repeat (first | (with_reducible first | exact HB.out | apply below_alloc | apply pw_below_drewN | apply below_drew1) | exact HB.out)⟩⟩
                    case round =>
                      clear H'
                      try clear c1
                      try clear c2
                      try clear p2
                      try clear c4
                      try clear c5
                      try clear c8
                      try clear c8b0
                      try clear c8b1
                      try clear c8b2
                      try clear c12
                      try clear c12b0
                      try clear c12b1
                      try clear c12b2
                      try clear c13
                      try clear c15
                      try clear c15b0
                      try clear p2
                      obtain ⟨x7_4, x40_4, rfl, rfl, HA, HK4, HB⟩ := hrel
                      cases gk with
                      | zero => exact absurd HA.out (by simp [shunt_CheckStacks.l1])
                      | succ k4 =>
                        have H := HA.out
                        clear HA
                        simp only [shunt_CheckStacks.l1] at H
                        by_cases c16 : x40_4 < x36_3
                        · rw [if_pos c16] at H
                          have c16b0 : decide (x40_4 < x36_3) = true := decide_eq_true c16
                          clear c16
                          by_cases c17 : x7_4 = true
                          · subst c17
                            have H1 : (if 0 ≤ x40_4 then (if x40_4 < (l1.length : Int) then (if 0 ≤ x36_3 then (if x36_3 < (l1.length : Int) then (if (rd l1 x40_4) = (rd l1 x36_3) then ((shunt_blocking.f k4 l0 x40_4 x36_3).bind fun t534 => (shunt_CheckStacks.l1 k4 l0 l1 (t534 == 0) x36_3 (l1.length : Int) x36_3 x36_3 (wrap64 (x40_4 + 1)))) else (shunt_CheckStacks.l1 k4 l0 l1 true x36_3 (l1.length : Int) x36_3 x36_3 (wrap64 (x40_4 + 1)))) else (none)) else (none)) else (none)) else (none)) = some r := by rw [if_pos rfl] at H; exact H
                            clear H
                            have H := H1
                            clear H1
                            by_cases c18 : 0 ≤ x40_4
                            · rw [if_pos c18] at H
                              have c18b0 : decide (0 ≤ x40_4) = true := decide_eq_true c18
                              clear c18
                              by_cases c19 : x40_4 < (l1.length : Int)
                              · rw [if_pos c19] at H
                                have c19b0 : decide (x40_4 < (l1.length : Int)) = true := decide_eq_true c19
                                clear c19
                                by_cases c20 : 0 ≤ x36_3
                                · rw [if_pos c20] at H
                                  have c20b0 : decide (0 ≤ x36_3) = true := decide_eq_true c20
                                  clear c20
                                  by_cases c21 : x36_3 < (l1.length : Int)
                                  · rw [if_pos c21] at H
                                    have c21b0 : decide (x36_3 < (l1.length : Int)) = true := decide_eq_true c21
                                    clear c21
                                    by_cases c22 : (rd l1 x40_4) = (rd l1 x36_3)
                                    · rw [if_pos c22] at H
                                      have c22b0 : ((rd l1 x40_4) == (rd l1 x36_3)) = true := beq_iff_eq.mpr c22
                                      have c22b1 : ((rd l1 x40_4) != (rd l1 x36_3)) = false := bne_eq_false_iff_eq.mpr c22
                                      clear c22
                                      replace H := Option.bind_eq_some_iff.mp H
                                      obtain ⟨t534, A230, H⟩ := H
                                      replace H : (shunt_CheckStacks.l1 k4 l0 l1 (t534 == 0) x36_3 (l1.length : Int) x36_3 x36_3 (wrap64 (x40_4 + 1))) = some r := H
                                      have A23 := Aside0.mk A230
                                      clear A230
                                      have H' := Aside0.mk H
                                      clear H
                                      have p532 : 0 ≤ (x40_4 : Int) := of_decide_eq_true (by first | (with_reducible assumption) | assumption)
                                      have q532 : x40_4 < (l1.length : Int) := of_decide_eq_true (by first | (with_reducible assumption) | assumption)
                                      obtain ⟨ad532, e532, hx532_0⟩ := Kd.at_int HR1.out x40_4 p532 q532
                                      cases e532
                                      replace hx532_0 := (HB.out.cell (World.block_lt_of_cell? w _ hx532_0)).trans hx532_0
                                      replace p532 := eq_true p532
                                      replace q532 := eq_true q532
                                      have p533 : 0 ≤ (x36_3 : Int) := of_decide_eq_true (by first | (with_reducible assumption) | assumption)
                                      have q533 : x36_3 < (l1.length : Int) := of_decide_eq_true (by first | (with_reducible assumption) | assumption)
                                      obtain ⟨ad533, e533, hx533_0⟩ := Kd.at_int HR1.out x36_3 p533 q533
                                      obtain rfl : ad532 = ad533 := (by injection e533)
                                      replace hx533_0 := (HB.out.cell (World.block_lt_of_cell? w _ hx533_0)).trans hx533_0
                                      replace p533 := eq_true p533
                                      replace q533 := eq_true q533
                                      go_wp2_with (first | (go_at_call 72; (with_reducible refine (shunt_blocking.calls k4 _ _ l0 x40_4 x36_3 t534 _ ?side1 ?side2 A23.out).mono ?_); (case side1 => repeat (first | exact (Kd.C_below HR0.out HB.out) | (with_reducible refine Kd.C_alloc ?_ _) | (with_reducible refine Kd.C_drewN ?_ _) | (with_reducible refine Kd.C_drew ?_))); (case side2 => exact HC0.out); rintro e w' ⟨rfl, ⟨nd, rfl⟩⟩; (try first | exact ⟨rfl, _, World.drewN_drewN _ _ _⟩ | exact ⟨rfl, _, Eq.trans (World.drewN_drewN _ _ _) (congrArg (World.drewN _) (Nat.add_assoc _ _ _))⟩)))
                                      repeat (go_quiet (first | (go_at_call 72; (with_reducible refine (shunt_blocking.calls k4 _ _ l0 x40_4 x36_3 t534 _ ?side1 ?side2 A23.out).mono ?_); (case side1 => repeat (first | exact (Kd.C_below HR0.out HB.out) | (with_reducible refine Kd.C_alloc ?_ _) | (with_reducible refine Kd.C_drewN ?_ _) | (with_reducible refine Kd.C_drew ?_))); (case side2 => exact HC0.out); rintro e w' ⟨rfl, ⟨nd, rfl⟩⟩; (try first | exact ⟨rfl, _, World.drewN_drewN _ _ _⟩ | exact ⟨rfl, _, Eq.trans (World.drewN_drewN _ _ _) (congrArg (World.drewN _) (Nat.add_assoc _ _ _))⟩))); try go_wp2_with (first | (go_at_call 72; (with_reducible refine (shunt_blocking.calls k4 _ _ l0 x40_4 x36_3 t534 _ ?side1 ?side2 A23.out).mono ?_); (case side1 => repeat (first | exact (Kd.C_below HR0.out HB.out) | (with_reducible refine Kd.C_alloc ?_ _) | (with_reducible refine Kd.C_drewN ?_ _) | (with_reducible refine Kd.C_drew ?_))); (case side2 => exact HC0.out); rintro e w' ⟨rfl, ⟨nd, rfl⟩⟩; (try first | exact ⟨rfl, _, World.drewN_drewN _ _ _⟩ | exact ⟨rfl, _, Eq.trans (World.drewN_drewN _ _ _) (congrArg (World.drewN _) (Nat.add_assoc _ _ _))⟩))))
                                      go_roundg k4
                                      case measure => have := HJ5.out; have := HJ10.out; have := HK3.out; have := HK4.out; omega
                                      case rel => exact ⟨((t534 == 0)), (wrap64 (x40_4 + 1)), (by first | rfl | (simp; done) | (simp [*]; done)), (by first | rfl | (simp; done) | (simp [*]; done)), H', ⟨by have := HJ5.out; have := HJ10.out; have := HK3.out; have := HK4.out; omega⟩, ⟨by repeat (first | (with_reducible first | exact HB.out | apply below_alloc | apply pw_below_drewN | apply below_drew1) | exact HB.out)⟩⟩
                                    · rw [if_neg c22] at H
                                      have c22b0 : ((rd l1 x40_4) == (rd l1 x36_3)) = false := beq_eq_false_iff_ne.mpr c22
                                      have c22b1 : ((rd l1 x40_4) != (rd l1 x36_3)) = true := bne_iff_ne.mpr c22
                                      have H' := Aside0.mk H
                                      clear H
                                      have p532 : 0 ≤ (x40_4 : Int) := of_decide_eq_true (by first | (with_reducible assumption) | assumption)
                                      have q532 : x40_4 < (l1.length : Int) := of_decide_eq_true (by first | (with_reducible assumption) | assumption)
                                      obtain ⟨ad532, e532, hx532_0⟩ := Kd.at_int HR1.out x40_4 p532 q532
                                      cases e532
                                      replace hx532_0 := (HB.out.cell (World.block_lt_of_cell? w _ hx532_0)).trans hx532_0
                                      replace p532 := eq_true p532
                                      replace q532 := eq_true q532
                                      have p533 : 0 ≤ (x36_3 : Int) := of_decide_eq_true (by first | (with_reducible assumption) | assumption)
                                      have q533 : x36_3 < (l1.length : Int) := of_decide_eq_true (by first | (with_reducible assumption) | assumption)
                                      obtain ⟨ad533, e533, hx533_0⟩ := Kd.at_int HR1.out x36_3 p533 q533
                                      obtain rfl : ad532 = ad533 := (by injection e533)
                                      replace hx533_0 := (HB.out.cell (World.block_lt_of_cell? w _ hx533_0)).trans hx533_0
                                      replace p533 := eq_true p533
                                      replace q533 := eq_true q533
                                      go_wp2
                                      repeat (go_quiet (fail); try go_wp2)
                                      go_roundg k4
                                      case measure => have := HJ5.out; have := HJ10.out; have := HK3.out; have := HK4.out; omega
                                      case rel => exact ⟨(true), (wrap64 (x40_4 + 1)), (by first | rfl | (simp; done) | (simp [*]; done)), (by first | rfl | (simp; done) | (simp [*]; done)), H', ⟨by have := HJ5.out; have := HJ10.out; have := HK3.out; have := HK4.out; omega⟩, ⟨by repeat (first | (with_reducible first | exact HB.out | apply below_alloc | apply pw_below_drewN | apply below_drew1) | exact HB.out)⟩⟩
                                  · rw [if_neg c21] at H
                                    exact absurd H (by simp)
                                · rw [if_neg c20] at H
                                  exact absurd H (by simp)
                              · rw [if_neg c19] at H
                                exact absurd H (by simp)
                            · rw [if_neg c18] at H
                              exact absurd H (by simp)
                          · replace c17 := Bool.eq_false_iff.mpr c17
                            subst c17
                            have H1 : (shunt_CheckStacks.l1 k4 l0 l1 false x36_3 (l1.length : Int) x36_3 x36_3 (wrap64 (x40_4 + 1))) = some r := by rw [if_neg (show ¬ (false = true) by decide)] at H; exact H
                            clear H
                            have H := H1
                            clear H1
                            have H' := Aside0.mk H
                            clear H
                            go_wp2
                            repeat (go_quiet (fail); try go_wp2)
                            go_roundg k4
                            case measure => have := HJ5.out; have := HJ10.out; have := HK3.out; have := HK4.out; omega
                            case rel => exact ⟨(false), (wrap64 (x40_4 + 1)), (by first | rfl | (simp; done) | (simp [*]; done)), (by first | rfl | (simp; done) | (simp [*]; done)), H', ⟨by have := HJ5.out; have := HJ10.out; have := HK3.out; have := HK4.out; omega⟩, ⟨by repeat (first | (with_reducible first | exact HB.out | apply below_alloc | apply pw_below_drewN | apply below_drew1) | exact HB.out)⟩⟩
                        · rw [if_neg c16] at H
                          have c16b0 : decide (x40_4 < x36_3) = false := decide_eq_false c16
                          clear c16
                          have H' := Aside0.mk H
                          clear H
                          go_wp2
                          repeat (go_quiet (fail); try go_wp2)
                          go_roundg k4
                          case measure => have := HJ5.out; have := HJ10.out; have := HK3.out; have := HK4.out; omega
                          case rel => exact ⟨(x7_4), (wrap64 (x36_3 + 1)), (by first | rfl | (simp; done) | (simp [*]; done)), (by first | rfl | (simp; done) | (simp [*]; done)), H', ⟨by have := HJ5.out; have := HJ10.out; have := HK3.out; have := HK4.out; omega⟩, ⟨by repeat (first | (with_reducible first | exact HB.out | apply below_alloc | apply pw_below_drewN | apply below_drew1) | exact HB.out)⟩⟩
                  · rw [if_neg c15] at H
                    have c15b0 : decide (x36_3 < (l1.length : Int)) = false := decide_eq_false c15
                    clear c15
                    by_cases c24 : x7_3 = true
                    · subst c24
                      have H1 : (some 0) = some r := by rw [if_pos rfl] at H; exact H
                      clear H
                      have H := H1
                      clear H1
                      obtain rfl := Option.some.inj H
                      go_wp2
                      repeat (go_quiet (fail); try go_wp2)
                      go_ret
                      exact ⟨by first | rfl | (simp [errW_none, errW_some] <;> rfl) | (simp [*, errW_none, errW_some] <;> rfl), by repeat (first | (with_reducible first | exact HB.out | apply below_alloc | apply pw_below_drewN | apply below_drew1) | exact HB.out)⟩
                    · replace c24 := Bool.eq_false_iff.mpr c24
                      subst c24
                      have H1 : (some 10) = some r := by rw [if_neg (show ¬ (false = true) by decide)] at H; exact H
                      clear H
                      have H := H1
                      clear H1
                      obtain rfl := Option.some.inj H
                      go_wp2
                      repeat (go_quiet (fail); try go_wp2)
                      go_ret
                      exact ⟨by first | rfl | (simp [errW_none, errW_some] <;> rfl) | (simp [*, errW_none, errW_some] <;> rfl), by repeat (first | (with_reducible first | exact HB.out | apply below_alloc | apply pw_below_drewN | apply below_drew1) | exact HB.out)⟩
            · replace c13 := Bool.eq_false_iff.mpr c13
              subst c13
              have H1 : (if x7_5 = true then (some 0) else (some 10)) = some r := by rw [if_neg (show ¬ (false = true) by decide)] at H; exact H
              clear H
              have H := H1
              clear H1
              by_cases c25 : x7_5 = true
              · subst c25
                have H1 : (some 0) = some r := by rw [if_pos rfl] at H; exact H
                clear H
                have H := H1
                clear H1
                obtain rfl := Option.some.inj H
                go_wp2
                repeat (go_quiet (fail); try go_wp2)
                go_ret
                exact ⟨by first | rfl | (simp [errW_none, errW_some] <;> rfl) | (simp [*, errW_none, errW_some] <;> rfl), by repeat (first | (with_reducible first | exact HB.out | apply below_alloc | apply pw_below_drewN | apply below_drew1) | exact HB.out)⟩
              · replace c25 := Bool.eq_false_iff.mpr c25
                subst c25
                have H1 : (some 10) = some r := by rw [if_neg (show ¬ (false = true) by decide)] at H; exact H
                clear H
                have H := H1
                clear H1
                obtain rfl := Option.some.inj H
                go_wp2
                repeat (go_quiet (fail); try go_wp2)
                go_ret
                exact ⟨by first | rfl | (simp [errW_none, errW_some] <;> rfl) | (simp [*, errW_none, errW_some] <;> rfl), by repeat (first | (with_reducible first | exact HB.out | apply below_alloc | apply pw_below_drewN | apply below_drew1) | exact HB.out)⟩
  · replace c5 := Bool.eq_false_iff.mpr c5
    subst c5
    have H1 : (some 2) = some r := by rw [if_neg (show ¬ (false = true) by decide)] at H; exact H
    clear H
    have H := H1
    clear H1
    obtain rfl := Option.some.inj H
    go_enter Try.func45, Try.ntmps45
    go_wp2_with (first | (go_at_call 52; (with_reducible refine (shunt_isOrder.calls _ _ l0 false _ ?side1 ?side2 A4.out).mono ?_); (case side1 => repeat (first | exact HR0.out | (with_reducible refine Kd.C_alloc ?_ _) | (with_reducible refine Kd.C_drewN ?_ _) | (with_reducible refine Kd.C_drew ?_))); (case side2 => exact HC0.out); rintro e w26 ⟨rfl, hb⟩; have n0_ := Aside0.mk (below_step (by repeat (first | (with_reducible first | exact HB.out | apply below_alloc | apply pw_below_drewN | apply below_drew1) | exact HB.out)) hb); clear HB; have HB := n0_; clear n0_; (try clear hb); (try clear hb2); (try clear hk); (try clear hi)))
    repeat (go_quiet (first | (go_at_call 52; (with_reducible refine (shunt_isOrder.calls _ _ l0 false _ ?side1 ?side2 A4.out).mono ?_); (case side1 => repeat (first | exact HR0.out | (with_reducible refine Kd.C_alloc ?_ _) | (with_reducible refine Kd.C_drewN ?_ _) | (with_reducible refine Kd.C_drew ?_))); (case side2 => exact HC0.out); rintro e w26 ⟨rfl, hb⟩; have n0_ := Aside0.mk (below_step (by repeat (first | (with_reducible first | exact HB.out | apply below_alloc | apply pw_below_drewN | apply below_drew1) | exact HB.out)) hb); clear HB; have HB := n0_; clear n0_; (try clear hb); (try clear hb2); (try clear hk); (try clear hi))); try go_wp2_with (first | (go_at_call 52; (with_reducible refine (shunt_isOrder.calls _ _ l0 false _ ?side1 ?side2 A4.out).mono ?_); (case side1 => repeat (first | exact HR0.out | (with_reducible refine Kd.C_alloc ?_ _) | (with_reducible refine Kd.C_drewN ?_ _) | (with_reducible refine Kd.C_drew ?_))); (case side2 => exact HC0.out); rintro e w26 ⟨rfl, hb⟩; have n0_ := Aside0.mk (below_step (by repeat (first | (with_reducible first | exact HB.out | apply below_alloc | apply pw_below_drewN | apply below_drew1) | exact HB.out)) hb); clear HB; have HB := n0_; clear n0_; (try clear hb); (try clear hb2); (try clear hk); (try clear hi))))
    go_ret
    exact ⟨by first | rfl | (simp [errW_none, errW_some] <;> rfl) | (simp [*, errW_none, errW_some] <;> rfl), by repeat (first | (with_reducible first | exact HB.out | apply below_alloc | apply pw_below_drewN | apply below_drew1) | exact HB.out)⟩

end Go.Proofs.Ytjbjongahnocdaa.S
