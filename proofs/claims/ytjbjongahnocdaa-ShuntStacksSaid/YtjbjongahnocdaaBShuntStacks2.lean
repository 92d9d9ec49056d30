-- Written by wip/bundle2.py: texts of this claim, one behind the other.
import Derived.Test.YtjbjongahnocdaaWAt
import Derived.Test.YtjbjongahnocdaaBShuntStacks1
import Derived.Deep.RegionHeldLaw
set_option linter.unusedVariables false
set_option linter.unusedSimpArgs false

namespace Go.Proofs.Ytjbjongahnocdaa.S
open Go.Proofs.Ytjbjongahnocdaa.Lib
open Go.Proofs.Ytjbjongahnocdaa.Defs
open Go.Maps (Keyed)
open Go.RowKit Go.Proofs.YtjbjongahnocdaaW.PrintWords Go.Proofs.YtjbjongahnocdaaW.PrintLast Go.Proofs.YtjbjongahnocdaaW.PrintMore
attribute [local go_sem] max2_int min2_int max_two min_two max_three min_three max_four min_four
set_option linter.unusedVariables false
set_option linter.unusedSimpArgs false

mutual
def shunt_conflicts.l0 : Nat → List Int → List (List Int) → Int → Int → Option ((List (List Int)))
 | 0, _, _, _, _ => none
 | k + 1, x0, x3, x10, x11 => if x11 < x10 then (shunt_conflicts.l1 k x0 x3 x11 x10 x11 x11 0) else (some x3)
def shunt_conflicts.l1 : Nat → List Int → List (List Int) → Int → Int → Int → Int → Int → Option ((List (List Int)))
 | 0, _, _, _, _, _, _, _ => none
 | k + 1, x0, x3, x4, x10, x11, x14, x15 => if x15 < x14 then ((shunt_blocking.f k x0 x15 x4).bind fun t564 => (if t564 > 0 then (if 0 ≤ x15 then (if x15 < (x3.length : Int) then (if (rd_L1 x3 x15).length < 17592186044416 then ((some (x3.set (x15 : Int).toNat ((rd_L1 x3 x15) ++ [x4]) : List (List Int))).bind fun y569 => (if 0 ≤ x4 then (if x4 < (x3.length : Int) then (if (rd_L1 y569 x4).length < 17592186044416 then (shunt_conflicts.l1 k x0 (y569.set (x4 : Int).toNat ((rd_L1 y569 x4) ++ [x15])) x4 x10 x11 x14 (wrap64 (x15 + 1))) else (none)) else (none)) else (none))) else (none)) else (none)) else (none)) else (shunt_conflicts.l1 k x0 x3 x4 x10 x11 x14 (wrap64 (x15 + 1))))) else (shunt_conflicts.l0 k x0 x3 x10 (wrap64 (x11 + 1)))
end
def shunt_conflicts.f (k : Nat) (l0 : List Int) : Option ((List (List Int))) := if 0 ≤ (l0.length : Int) then (if ((l0.length : Int) : Int).toNat ≤ 11728124029610 then (shunt_conflicts.l0 k l0 (List.replicate ((l0.length : Int) : Int).toNat []) (l0.length : Int) 0) else (none)) else (none)
set_option maxHeartbeats 8000000 in
set_option maxRecDepth 100000 in
theorem shunt_conflicts.calls (k : Nat) (A0 : Option Addr) (c0 : Nat) (l0 : List Int) (r : List (List Int)) (w : World) (hr0 : Kd.C (Kd.int .i64) w A0 l0.length l0) (hc0 : l0.length ≤ c0) (h : shunt_conflicts.f k l0 = some r) :
  Calls Try.prog 74 #[.slice A0 l0.length c0] w fun e w' => ∃ v0_ : Value, e = .returned (v0_) ∧ Kd.S (Kd.slice 3 (Kd.int .i64)) 22 w' w.heap.size (fun _ => True) v0_ r ∧ Below w.heap.size w w' := by
 have HR0 := Aside0.mk hr0
 have HC0 := Aside0.mk hc0
 clear hr0 hc0
 have HB := Aside0.mk (Below.refl w.heap.size w)
 have H : (if 0 ≤ (l0.length : Int) then (if ((l0.length : Int) : Int).toNat ≤ 11728124029610 then (shunt_conflicts.l0 k l0 (List.replicate ((l0.length : Int) : Int).toNat []) (l0.length : Int) 0) else (none)) else (none)) = some r := h
 clear h
 by_cases c2 : 0 ≤ (l0.length : Int)
 ·rw [if_pos c2] at H
  have c2b0 := eq_true c2
  have c2b1 : decide (0 ≤ (l0.length : Int)) = true := decide_eq_true c2
  clear c2
  by_cases c3 : ((l0.length : Int) : Int).toNat ≤ 11728124029610
  ·rw [if_pos c3] at H
   have c3b0 := eq_true c3
   have c3b1 : decide (((l0.length : Int) : Int).toNat ≤ 11728124029610) = true := decide_eq_true c3
   clear c3
   obtain ⟨y561, hy561⟩ : ∃ y_ : List (List Int), y_ = (List.replicate ((l0.length : Int) : Int).toNat []) := ⟨_, rfl⟩
   replace H : (shunt_conflicts.l0 k l0 y561 (l0.length : Int) 0) = some r := by first | (rw [hy561]; with_reducible exact H) | (have H2_ := (Option.bind_some _ _).symm.trans H; rw [hy561]; with_reducible exact H2_) | (have H2_ := (Option.bind_some _ _).symm.trans H; with_reducible exact H2_) | with_reducible exact H | (rw [hy561]; exact H) | exact H
   have Ny561 := Aside0.mk hy561
   clear hy561
   have H' := Aside0.mk H
   clear H
   go_enter Try.func74, Try.ntmps74
   go_wp2_with (first | ((with_reducible refine gate_dst (N := 8) rfl ?_); refine Kd.S_make (Kd.slice 3 (Kd.int .i64)) _ 22 rfl (N := 8) rfl 60 _ _ rfl (l0.length : Int) rfl rfl Try.underlying60 (.slice none 0 0) 24 info22 rfl (by decide) (by omega) [] (ok := fun _ => True) (okp := fun _ => True) ⟨_, rfl, Kd.R_nil _ _ _ _ _⟩ (fun _ hk => hk) trivial (of_decide_eq_true (by first | (with_reducible assumption) | assumption)) (Nat.le_trans (Nat.mul_le_mul_right _ (of_decide_eq_true (by first | (with_reducible assumption) | assumption) : (l0.length : Int).toNat ≤ 11728124029610)) (by omega)) (Below.refl _ _) (Nat.le_refl _) ?_; intro v562 w4 ho5 hb hg_ hnew_; clear hg_ hnew_; (first | rw [← Ny561.out] at ho5 | (simp only [Int.reduceToNat] at ho5; rw [← Ny561.out] at ho5)); have n0_ := Aside0.mk (Kd.S_lower ho5 (below_size (by repeat (first | (with_reducible first | exact HB.out | apply below_alloc | apply pw_below_drewN | apply below_drew1) | exact HB.out)))); have n1_ := Aside0.mk (below_step (by repeat (first | (with_reducible first | exact HB.out | apply below_alloc | apply pw_below_drewN | apply below_drew1) | exact HB.out)) hb); clear HB; have HO563 := n0_; have HB := n1_; clear n0_ n1_; clear hb ho5))
   go_loopg [11] k (fun kq v11 w' => ∃ (x3_1 : List (List Int)) (x11_1 : Int), v11 = .int .i64 x11_1 ∧ Aside0 (shunt_conflicts.l0 kq l0 x3_1 (l0.length : Int) x11_1 = some r) ∧ Aside0 (kq ≤ k) ∧ Aside0 (Kd.S (Kd.slice 3 (Kd.int .i64)) 22 w' w.heap.size (fun _ => True) v562 x3_1) ∧ Aside0 (Below w.heap.size w w'))
   case atStart => exact ⟨(y561), (0), (by first | rfl | (simp; done) | (simp [*]; done)), H', ⟨Nat.le_refl _⟩, ⟨by (with_reducible repeat (first | apply Kd.S_alloc | apply Kd.S_drewN | apply Kd.S_drew)); exact HO563.out⟩, ⟨by repeat (first | (with_reducible first | exact HB.out | apply below_alloc | apply pw_below_drewN | apply below_drew1) | exact HB.out)⟩⟩
   case round =>
    clear H'
    try clear c2
    try clear c2b0
    try clear c2b1
    try clear p2
    try clear c3
    try clear c3b0
    try clear c3b1
    obtain ⟨x3_1, x11_1, rfl, HA, HK1, HO_3, HB⟩ := hrel
    cases gk with
    | zero => exact absurd HA.out (by simp [shunt_conflicts.l0])
    | succ k1 =>
     have H := HA.out
     clear HA
     simp only [shunt_conflicts.l0] at H
     by_cases c6 : x11_1 < (l0.length : Int)
     ·rw [if_pos c6] at H
      have c6b0 : decide (x11_1 < (l0.length : Int)) = true := decide_eq_true c6
      clear c6
      have H' := Aside0.mk H
      clear H
      go_wp2
      go_loopg [15] k1 (fun kq v15 w' => ∃ (x3_2 : List (List Int)) (x15_2 : Int), v15 = .int .i64 x15_2 ∧ Aside0 (shunt_conflicts.l1 kq l0 x3_2 x11_1 (l0.length : Int) x11_1 x11_1 x15_2 = some r) ∧ Aside0 (kq ≤ k1) ∧ Aside0 (Kd.S (Kd.slice 3 (Kd.int .i64)) 22 w' w.heap.size (fun _ => True) v562 x3_2) ∧ Aside0 (Below w.heap.size w w'))
      case atStart => exact ⟨(x3_1), (0), (by first | rfl | (simp; done) | (simp [*]; done)), H', ⟨Nat.le_refl _⟩, ⟨by (with_reducible repeat (first | apply Kd.S_alloc | apply Kd.S_drewN | apply Kd.S_drew)); exact HO_3.out⟩, ⟨by repeat (first | (with_reducible first | exact HB.out | apply below_alloc | apply pw_below_drewN | apply below_drew1) | exact HB.out)⟩⟩
      case round =>
       clear H'
       try clear c2
       try clear c2b0
       try clear c2b1
       try clear p2
       try clear c3
       try clear c3b0
       try clear c3b1
       try clear c6
       try clear c6b0
       try clear p2
       obtain ⟨x3_2, x15_2, rfl, HA, HK2, HO_3, HB⟩ := hrel
       cases gk with
       | zero => exact absurd HA.out (by simp [shunt_conflicts.l1])
       | succ k2 =>
        have H := HA.out
        clear HA
        simp only [shunt_conflicts.l1] at H
        by_cases c7 : x15_2 < x11_1
        ·rw [if_pos c7] at H
         have c7b0 : decide (x15_2 < x11_1) = true := decide_eq_true c7
         clear c7
         replace H := Option.bind_eq_some_iff.mp H
         obtain ⟨t564, A80, H⟩ := H
         replace H : (if t564 > 0 then (if 0 ≤ x15_2 then (if x15_2 < (x3_2.length : Int) then (if (rd_L1 x3_2 x15_2).length < 17592186044416 then ((some (x3_2.set (x15_2 : Int).toNat ((rd_L1 x3_2 x15_2) ++ [x11_1]) : List (List Int))).bind fun y569 => (if 0 ≤ x11_1 then (if x11_1 < (x3_2.length : Int) then (if (rd_L1 y569 x11_1).length < 17592186044416 then (shunt_conflicts.l1 k2 l0 (y569.set (x11_1 : Int).toNat ((rd_L1 y569 x11_1) ++ [x15_2])) x11_1 (l0.length : Int) x11_1 x11_1 (wrap64 (x15_2 + 1))) else (none)) else (none)) else (none))) else (none)) else (none)) else (none)) else (shunt_conflicts.l1 k2 l0 x3_2 x11_1 (l0.length : Int) x11_1 x11_1 (wrap64 (x15_2 + 1)))) = some r := H
         have A8 := Aside0.mk A80
         clear A80
         by_cases c9 : t564 > 0
         ·rw [if_pos c9] at H
          have c9b0 : decide (0 < t564) = true := decide_eq_true c9
          clear c9
          by_cases c10 : 0 ≤ x15_2
          ·rw [if_pos c10] at H
           have c10b0 : decide (0 ≤ x15_2) = true := decide_eq_true c10
           clear c10
           by_cases c11 : x15_2 < (x3_2.length : Int)
           ·rw [if_pos c11] at H
            have c11b0 : decide (x15_2 < (x3_2.length : Int)) = true := decide_eq_true c11
            clear c11
            by_cases c12 : (rd_L1 x3_2 x15_2).length < 17592186044416
            ·rw [if_pos c12] at H
             have LMc12 := Aside0.mk c12
             clear c12
             obtain ⟨y566, hy566⟩ : ∃ y_ : List Int, y_ = ((rd_L1 x3_2 x15_2) ++ [x11_1]) := ⟨_, rfl⟩
             replace H : ((some (x3_2.set (x15_2 : Int).toNat y566 : List (List Int))).bind fun y569 => (if 0 ≤ x11_1 then (if x11_1 < (x3_2.length : Int) then (if (rd_L1 y569 x11_1).length < 17592186044416 then (shunt_conflicts.l1 k2 l0 (y569.set (x11_1 : Int).toNat ((rd_L1 y569 x11_1) ++ [x15_2])) x11_1 (l0.length : Int) x11_1 x11_1 (wrap64 (x15_2 + 1))) else (none)) else (none)) else (none))) = some r := by first | (rw [hy566]; with_reducible exact H) | (have H2_ := (Option.bind_some _ _).symm.trans H; rw [hy566]; with_reducible exact H2_) | (have H2_ := (Option.bind_some _ _).symm.trans H; with_reducible exact H2_) | with_reducible exact H | (rw [hy566]; exact H) | exact H
             have Ny566 := Aside0.mk hy566
             clear hy566
             obtain ⟨y569, hy569⟩ : ∃ y_ : List (List Int), y_ = (x3_2.set (x15_2 : Int).toNat y566) := ⟨_, rfl⟩
             replace H : (if 0 ≤ x11_1 then (if x11_1 < (x3_2.length : Int) then (if (rd_L1 y569 x11_1).length < 17592186044416 then (shunt_conflicts.l1 k2 l0 (y569.set (x11_1 : Int).toNat ((rd_L1 y569 x11_1) ++ [x15_2])) x11_1 (l0.length : Int) x11_1 x11_1 (wrap64 (x15_2 + 1))) else (none)) else (none)) else (none)) = some r := by first | (rw [hy569]; with_reducible exact H) | (have H2_ := (Option.bind_some _ _).symm.trans H; rw [hy569]; with_reducible exact H2_) | (have H2_ := (Option.bind_some _ _).symm.trans H; with_reducible exact H2_) | with_reducible exact H | (rw [hy569]; exact H) | exact H
             have Ny569 := Aside0.mk hy569
             clear hy569
             by_cases c14 : 0 ≤ x11_1
             ·rw [if_pos c14] at H
              have c14b0 : decide (0 ≤ x11_1) = true := decide_eq_true c14
              clear c14
              by_cases c15 : x11_1 < (x3_2.length : Int)
              ·rw [if_pos c15] at H
               have c15b0 : decide (x11_1 < (x3_2.length : Int)) = true := decide_eq_true c15
               clear c15
               by_cases c16 : (rd_L1 y569 x11_1).length < 17592186044416
               ·rw [if_pos c16] at H
                have LMc16 := Aside0.mk c16
                clear c16
                obtain ⟨y571, hy571⟩ : ∃ y_ : List Int, y_ = ((rd_L1 y569 x11_1) ++ [x15_2]) := ⟨_, rfl⟩
                replace H : (shunt_conflicts.l1 k2 l0 (y569.set (x11_1 : Int).toNat y571) x11_1 (l0.length : Int) x11_1 x11_1 (wrap64 (x15_2 + 1))) = some r := by first | (rw [hy571]; with_reducible exact H) | (have H2_ := (Option.bind_some _ _).symm.trans H; rw [hy571]; with_reducible exact H2_) | (have H2_ := (Option.bind_some _ _).symm.trans H; with_reducible exact H2_) | with_reducible exact H | (rw [hy571]; exact H) | exact H
                have Ny571 := Aside0.mk hy571
                clear hy571
                obtain ⟨y574, hy574⟩ : ∃ y_ : List (List Int), y_ = (y569.set (x11_1 : Int).toNat y571) := ⟨_, rfl⟩
                replace H : (shunt_conflicts.l1 k2 l0 y574 x11_1 (l0.length : Int) x11_1 x11_1 (wrap64 (x15_2 + 1))) = some r := by first | (rw [hy574]; with_reducible exact H) | (have H2_ := (Option.bind_some _ _).symm.trans H; rw [hy574]; with_reducible exact H2_) | (have H2_ := (Option.bind_some _ _).symm.trans H; with_reducible exact H2_) | with_reducible exact H | (rw [hy574]; exact H) | exact H
                have Ny574 := Aside0.mk hy574
                clear hy574
                have H' := Aside0.mk H
                clear H
                go_wp2_with (first | ((with_reducible refine gate_callee (f := 72) rfl ?_); refine goesL_ (some 21) rfl rfl Try.func72 (by kernel_rfl) rfl #[.slice A0 l0.length c0, .int .i64 x15_2, .int .i64 x11_1] rfl (by (try simp only [List.map_toArray, List.map_cons, List.map_nil]); first | done | rfl | (simp only [List.length_drop, List.length_take]; rfl)) ?_; (with_reducible refine (shunt_blocking.calls k2 _ _ l0 x15_2 x11_1 t564 _ ?side1 ?side2 A8.out).mono ?_); (case side1 => repeat (first | exact (Kd.C_below HR0.out HB.out) | (with_reducible refine Kd.C_alloc ?_ _) | (with_reducible refine Kd.C_drewN ?_ _) | (with_reducible refine Kd.C_drew ?_))); (case side2 => exact HC0.out); rintro e w' ⟨rfl, ⟨nd, rfl⟩⟩; refine ⟨_, rfl, ?_⟩; (try (rw [drewN_self wr]; generalize hq_ : World.drewN wr _ = wr; have n0_ : Aside0 (Kd.S (Kd.slice 3 (Kd.int .i64)) 22 wr w.heap.size (fun _ => True) v562 x3_2) := ⟨by rw [← hq_]; exact (by (with_reducible repeat (first | apply Kd.S_alloc | apply Kd.S_drewN | apply Kd.S_drew)); exact HO_3.out)⟩; have n1_ : Aside0 (Below w.heap.size w wr) := ⟨by rw [← hq_]; exact (by repeat (first | (with_reducible first | exact HB.out | apply below_alloc | apply pw_below_drewN | apply below_drew1) | exact HB.out))⟩; clear HO_3 HB hq_; have HO_3 := n0_; have HB := n1_; clear n0_ n1_)); obtain ⟨Ao18, co18, eo18⟩ := Kd.S_slice HO_3.out; subst eo18; have p565 : 0 ≤ (x15_2 : Int) := of_decide_eq_true (by first | (with_reducible assumption) | assumption); have q565 : x15_2 < (x3_2.length : Int) := of_decide_eq_true (by first | (with_reducible assumption) | assumption); obtain ⟨ad565, A565_0, c565_0, e565, hx565_0, hl565_0, hi565_0⟩ := at_L1 (Kd.S_reads' HO_3.out).2.2 x15_2 p565 q565; cases e565; obtain ⟨ce565, hce565, hMe565, hcc565⟩ := Kd.S_get HO_3.out [] x15_2 p565 (by first | exact q565 | exact of_decide_eq_true (by first | (with_reducible assumption) | assumption) | (have e_ := (Kd.S_reads' HO_3.out).1; omega)); obtain ⟨ve565_0, rfl, ge565_0⟩ := hMe565; have hv565_0 := hcc565 0 _ rfl; rw [Nat.add_zero, show ((Kd.slice 3 (Kd.int .i64))).sz = 1 from rfl, Nat.mul_one] at hv565_0; replace hv565_0 := Option.some.inj (hv565_0.symm.trans hx565_0); rw [hv565_0] at ge565_0; have HL565_0 := Aside0.mk (show Kd.R (Kd.int .i64) 3 _ _ _ _ (rd_L1 x3_2 x15_2) from ge565_0); clear hv565_0 ge565_0; have HX565_0 := Aside0.mk hx565_0; clear hcc565 hce565; have HR565_0 := Aside0.mk hi565_0; have HC565_0 := Aside0.mk hl565_0; clear hi565_0 hl565_0; replace p565 := eq_true p565; replace q565 := eq_true q565; obtain ⟨go19, co19, eo19, gb19, gl19, cl19, HG19⟩ := Kd.S_form HO_3.out (by have h_ : (x15_2 : Int) < ((x3_2.length : Int) : Int) := of_decide_eq_true (by first | (with_reducible assumption) | assumption); have h2_ : 0 ≤ (x15_2 : Int) := (of_decide_eq_true (by first | (with_reducible assumption) | assumption)); omega); (first | cases eo19 | (injection eo19 with ea_ en_ ec_; (first | subst ea_ | (injection ea_ with ea_; subst ea_)); subst ec_; clear en_)); have GB19 := Aside0.mk gb19; have GG19 := Aside0.mk HG19; clear gb19 gl19 HG19; (first | simp only [add_plain] at hx565_0 | skip); obtain ⟨oki19, ce19, hcl19, hM19, hcc19, _, _, hH19⟩ := Kd.S_elem HO_3.out [] (x15_2 : Int) (of_decide_eq_true (by first | (with_reducible assumption) | assumption)) (by have h_ : (x15_2 : Int) < ((x3_2.length : Int) : Int) := of_decide_eq_true (by first | (with_reducible assumption) | assumption); first | exact h_ | (have e_ := (Kd.S_reads' HO_3.out).1; omega) | simpa using h_); obtain ⟨ve19_0, rfl, ge19_0⟩ := hM19; have hv19 := hcc19 0 _ rfl; have hX19 := HX565_0.out; (try simp only [add_plain] at hX19); (try simp only [Nat.add_zero] at hv19); (try rw [show ((Kd.slice 3 (Kd.int .i64))).sz = 1 from rfl, Nat.mul_one] at hv19); replace hv19 := Option.some.inj (hv19.symm.trans hX19); subst hv19; clear hX19 hcc19 hcl19; have UU19 := Aside0.mk (show Kd.R (Kd.int .i64) 3 _ w.heap.size oki19 (.slice A565_0 (rd_L1 x3_2 x15_2).length c565_0) (rd_L1 x3_2 x15_2) from ge19_0); have HH19 := Aside0.mk hH19; have HN19 := Aside0.mk (Kd.S_reads' HO_3.out).1; clear hH19 ge19_0) | ((with_reducible refine gate_builtin (b := .append) (xs := #[.tmp 28, .tmp 30]) rfl ?_); at_builtin; refine Kd.R_append (Kd.int .i64) (w0 := w) w.heap.size rfl (.tmp 28) (.tmp 30) 22 3 (.int .i64 0) 8 rfl Try.underlying22 info3 rfl (by decide) (by omega) (.slice A565_0 (rd_L1 x3_2 x15_2).length c565_0) (rd_L1 x3_2 x15_2) x11_1 [.int .i64 x11_1] (fun k_ => oki19 k_ ∨ ((fun _ => True)) k_ ∧ wr.heap.size ≤ k_) (fun _ => False) rfl rfl ?aP (fun _ hk => hk.elim) ?aF ?aO ?aB ?aS ?aL ?_; (case aP => exact rfl); (case aB => exact (by repeat (first | (with_reducible first | exact HB.out | apply below_alloc | apply pw_below_drewN | apply below_drew1) | exact HB.out))); (case aF => exact (fun k_ hk => .inr ⟨trivial, hk⟩)); (case aO => exact (by (with_reducible repeat (first | apply Kd.R_alloc | apply Kd.R_drewN | apply Kd.R_drew)); exact Kd.R_mono UU19.out (fun _ hk => .inl hk))); (case aS => exact (below_size (by repeat (first | (with_reducible first | exact HB.out | apply below_alloc | apply pw_below_drewN | apply below_drew1) | exact HB.out)))); (case aL => have := LMc12.out; omega); intro v567 w20 ho hb hg hat; rw [← Ny566.out] at ho; have n0_ := Aside0.mk (hb); have n1_ := Aside0.mk (Kd.H_grown (Kd.H_widen (by repeat (first | exact HH19.out | refine Kd.H_alloc ?_ _ | refine Kd.H_drewN ?_ _ | refine Kd.H_drew ?_))) hg (fun k_ e_ => .inl (UU19.out.1 k_ e_))); have n2_ := Aside0.mk (ho); clear HB; clear HH19; clear HO_3; clear UU19; clear HL565_0; have HB := n0_; have HH19 := n1_; have HO568 := n2_; clear n0_ n1_ n2_; clear ho hb hg hat; have p13 : 0 ≤ (x15_2 : Int) := of_decide_eq_true (by first | (with_reducible assumption) | assumption); have q13 : (x15_2 : Int) < ((x3_2.length : Int) : Int) := of_decide_eq_true (by first | (with_reducible assumption) | assumption); replace p13 := eq_true p13; replace q13 := eq_true q13; obtain ⟨Ao23, co23, eo23⟩ := Kd.R_slice HO568.out; subst eo23; obtain ⟨_, _, hraw21, _, _, hcc21, _⟩ := Kd.H_raw HH19.out (of_decide_eq_true (by first | (with_reducible assumption) | assumption)) (by have h_ : (x15_2 : Int) < ((x3_2.length : Int) : Int) := of_decide_eq_true (by first | (with_reducible assumption) | assumption); first | exact h_ | (have e_ := (HN19.out); omega) | simpa using h_); obtain ⟨_, hfr21⟩ := Kd.H_at HH19.out (of_decide_eq_true (by first | (with_reducible assumption) | assumption)) (by have h_ : (x15_2 : Int) < ((x3_2.length : Int) : Int) := of_decide_eq_true (by first | (with_reducible assumption) | assumption); first | exact h_ | (have e_ := (HN19.out); omega) | simpa using h_); have hx21_0 := hcc21 0 _ rfl; have hf21_0 := hfr21 0; (try simp only [Nat.add_zero] at hx21_0 hf21_0); (try rw [show ((Kd.slice 3 (Kd.int .i64))).sz = 1 from rfl, Nat.mul_one] at hx21_0); (try rw [show ((Kd.slice 3 (Kd.int .i64))).sz = 1 from rfl, Nat.mul_one] at hf21_0); have HP21 := Kd.S_seg0 HH19.out (of_decide_eq_true (by first | (with_reducible assumption) | assumption)) (by have h_ : (x15_2 : Int) < ((x3_2.length : Int) : Int) := of_decide_eq_true (by first | (with_reducible assumption) | assumption); first | exact h_ | (have e_ := (HN19.out); omega) | simpa using h_) (seg := [.slice Ao23 y566.length co23]) (j := 0) (show 1 ≤ 1 from by decide) (x' := y566) (Kd.M_row HO568.out) (fun _ hk => hk); (try simp only [show ((Kd.slice 3 (Kd.int .i64))).sz = 1 from rfl, Nat.mul_one, Nat.add_zero] at HP21); clear hcc21 hfr21) | ((with_reducible refine gate_store (t := 22) (p := 32) rfl ?_); refine store_event (t := 22) (p := 32) (v := ?vo_w22) (w1 := (w20.setCell ⟨go19, (x15_2 : Int).toNat, none⟩ (.slice Ao23 y566.length co23))) ?hg ?ho ?hn ?hr ?_; (case ho => rfl); (case hg => rfl); (case hn => rfl); (case hr => first | (go_simp; done) | (go_simp; rfl)); intro w22 hw; have hg : w20.grownBy w22 (some go19) := (by rw [hw]; exact HP21.2); have hp_ : Kd.S (Kd.slice 3 (Kd.int .i64)) 22 w22 w.heap.size (fun _ => True) (.slice (some ⟨go19, 0, none⟩) x3_2.length co18) y569 := (by rw [hw, Ny569.out]; exact HP21.1); clear HP21; have n0_ := Aside0.mk ((by rw [hw]; exact below_set HB.out GB19.out : Below w.heap.size w w22)); have n1_ := Aside0.mk (hp_); clear HB; clear HO568; clear HH19; have HB := n0_; have HO_3 := n1_; clear n0_ n1_; clear hg hw hp_ hraw21; have p570 : 0 ≤ (x11_1 : Int) := of_decide_eq_true (by first | (with_reducible assumption) | assumption); have q570 : x11_1 < (y569.length : Int) := (by have h_ : (x11_1 : Int) < ((x3_2.length : Int) : Int) := of_decide_eq_true (by first | (with_reducible assumption) | assumption); first | (have e_ := (Kd.S_reads' HO_3.out).1; omega) | simpa only [Ny569.out, List.length_set] using h_); have ql570 : ((x11_1 : Int) < ((x3_2.length : Int) : Int)) = True := eq_true (of_decide_eq_true (by first | (with_reducible assumption) | assumption)); obtain ⟨ad570, A570_0, c570_0, e570, hx570_0, hl570_0, hi570_0⟩ := at_L1 (Kd.S_reads' HO_3.out).2.2 x11_1 p570 q570; obtain rfl : (⟨go19, 0, none⟩ : Addr) = ad570 := (by injection e570); obtain ⟨ce570, hce570, hMe570, hcc570⟩ := Kd.S_get HO_3.out [] x11_1 p570 (by first | exact q570 | exact of_decide_eq_true (by first | (with_reducible assumption) | assumption) | (have e_ := (Kd.S_reads' HO_3.out).1; omega)); obtain ⟨ve570_0, rfl, ge570_0⟩ := hMe570; have hv570_0 := hcc570 0 _ rfl; rw [Nat.add_zero, show ((Kd.slice 3 (Kd.int .i64))).sz = 1 from rfl, Nat.mul_one] at hv570_0; replace hv570_0 := Option.some.inj (hv570_0.symm.trans hx570_0); rw [hv570_0] at ge570_0; have HL570_0 := Aside0.mk (show Kd.R (Kd.int .i64) 3 _ _ _ _ (rd_L1 y569 x11_1) from ge570_0); clear hv570_0 ge570_0; have HX570_0 := Aside0.mk hx570_0; clear hcc570 hce570; (first | simp only [add_plain] at hx570_0 | simp only [add_at] at hx570_0 | simp only [Addr.add, Nat.zero_add] at hx570_0 | skip); have HR570_0 := Aside0.mk hi570_0; have HC570_0 := Aside0.mk hl570_0; clear hi570_0 hl570_0; replace p570 := eq_true p570; replace q570 := eq_true q570; obtain ⟨oki24, ce24, hcl24, hM24, hcc24, _, _, hH24⟩ := Kd.S_elem HO_3.out [] (x11_1 : Int) (of_decide_eq_true (by first | (with_reducible assumption) | assumption)) (by have h_ : (x11_1 : Int) < ((x3_2.length : Int) : Int) := of_decide_eq_true (by first | (with_reducible assumption) | assumption); first | exact h_ | (have e_ := (Kd.S_reads' HO_3.out).1; omega) | simpa using h_); obtain ⟨ve24_0, rfl, ge24_0⟩ := hM24; have hv24 := hcc24 0 _ rfl; have hX24 := HX570_0.out; (try simp only [add_plain] at hX24); (try simp only [Nat.add_zero] at hv24); (try rw [show ((Kd.slice 3 (Kd.int .i64))).sz = 1 from rfl, Nat.mul_one] at hv24); replace hv24 := Option.some.inj (hv24.symm.trans hX24); subst hv24; clear hX24 hcc24 hcl24; have UU24 := Aside0.mk (show Kd.R (Kd.int .i64) 3 _ w.heap.size oki24 (.slice A570_0 (rd_L1 y569 x11_1).length c570_0) (rd_L1 y569 x11_1) from ge24_0); have HH24 := Aside0.mk hH24; have HN24 := Aside0.mk (Kd.S_reads' HO_3.out).1; clear hH24 ge24_0) | ((with_reducible refine gate_builtin (b := .append) (xs := #[.tmp 38, .tmp 40]) rfl ?_); at_builtin; refine Kd.R_append (Kd.int .i64) (w0 := w) w.heap.size rfl (.tmp 38) (.tmp 40) 22 3 (.int .i64 0) 8 rfl Try.underlying22 info3 rfl (by decide) (by omega) (.slice A570_0 (rd_L1 y569 x11_1).length c570_0) (rd_L1 y569 x11_1) x15_2 [.int .i64 x15_2] (fun k_ => oki24 k_ ∨ ((fun _ => True)) k_ ∧ w22.heap.size ≤ k_) (fun _ => False) rfl rfl ?aP (fun _ hk => hk.elim) ?aF ?aO ?aB ?aS ?aL ?_; (case aP => exact rfl); (case aB => exact (by repeat (first | (with_reducible first | exact HB.out | apply below_alloc | apply pw_below_drewN | apply below_drew1) | exact HB.out))); (case aF => exact (fun k_ hk => .inr ⟨trivial, hk⟩)); (case aO => exact (by (with_reducible repeat (first | apply Kd.R_alloc | apply Kd.R_drewN | apply Kd.R_drew)); exact Kd.R_mono UU24.out (fun _ hk => .inl hk))); (case aS => exact (below_size (by repeat (first | (with_reducible first | exact HB.out | apply below_alloc | apply pw_below_drewN | apply below_drew1) | exact HB.out)))); (case aL => have := LMc16.out; omega); intro v572 w25 ho hb hg hat; rw [← Ny571.out] at ho; have n0_ := Aside0.mk (hb); have n1_ := Aside0.mk (Kd.H_grown (Kd.H_widen (by repeat (first | exact HH24.out | refine Kd.H_alloc ?_ _ | refine Kd.H_drewN ?_ _ | refine Kd.H_drew ?_))) hg (fun k_ e_ => .inl (UU24.out.1 k_ e_))); have n2_ := Aside0.mk (ho); clear HB; clear HH24; clear HO_3; clear UU24; clear HL570_0; have HB := n0_; have HH24 := n1_; have HO573 := n2_; clear n0_ n1_ n2_; clear ho hb hg hat; have p17 : 0 ≤ (x11_1 : Int) := of_decide_eq_true (by first | (with_reducible assumption) | assumption); have q17 : (x11_1 : Int) < ((x3_2.length : Int) : Int) := of_decide_eq_true (by first | (with_reducible assumption) | assumption); replace p17 := eq_true p17; replace q17 := eq_true q17; obtain ⟨Ao28, co28, eo28⟩ := Kd.R_slice HO573.out; subst eo28; obtain ⟨_, _, hraw26, _, _, hcc26, _⟩ := Kd.H_raw HH24.out (of_decide_eq_true (by first | (with_reducible assumption) | assumption)) (by have h_ : (x11_1 : Int) < ((x3_2.length : Int) : Int) := of_decide_eq_true (by first | (with_reducible assumption) | assumption); first | exact h_ | (have e_ := (HN24.out); omega) | simpa using h_); obtain ⟨_, hfr26⟩ := Kd.H_at HH24.out (of_decide_eq_true (by first | (with_reducible assumption) | assumption)) (by have h_ : (x11_1 : Int) < ((x3_2.length : Int) : Int) := of_decide_eq_true (by first | (with_reducible assumption) | assumption); first | exact h_ | (have e_ := (HN24.out); omega) | simpa using h_); have hx26_0 := hcc26 0 _ rfl; have hf26_0 := hfr26 0; (try simp only [Nat.add_zero] at hx26_0 hf26_0); (try rw [show ((Kd.slice 3 (Kd.int .i64))).sz = 1 from rfl, Nat.mul_one] at hx26_0); (try rw [show ((Kd.slice 3 (Kd.int .i64))).sz = 1 from rfl, Nat.mul_one] at hf26_0); have HP26 := Kd.S_seg0 HH24.out (of_decide_eq_true (by first | (with_reducible assumption) | assumption)) (by have h_ : (x11_1 : Int) < ((x3_2.length : Int) : Int) := of_decide_eq_true (by first | (with_reducible assumption) | assumption); first | exact h_ | (have e_ := (HN24.out); omega) | simpa using h_) (seg := [.slice Ao28 y571.length co28]) (j := 0) (show 1 ≤ 1 from by decide) (x' := y571) (Kd.M_row HO573.out) (fun _ hk => hk); (try simp only [show ((Kd.slice 3 (Kd.int .i64))).sz = 1 from rfl, Nat.mul_one, Nat.add_zero] at HP26); clear hcc26 hfr26) | ((with_reducible refine gate_store (t := 22) (p := 42) rfl ?_); refine store_event (t := 22) (p := 42) (v := ?vo_w27) (w1 := (w25.setCell ⟨go19, (x11_1 : Int).toNat, none⟩ (.slice Ao28 y571.length co28))) ?hg ?ho ?hn ?hr ?_; (case ho => rfl); (case hg => rfl); (case hn => rfl); (case hr => first | (go_simp; done) | (go_simp; rfl)); intro w27 hw; have hg : w25.grownBy w27 (some go19) := (by rw [hw]; exact HP26.2); have hp_ : Kd.S (Kd.slice 3 (Kd.int .i64)) 22 w27 w.heap.size (fun _ => True) (.slice (some ⟨go19, 0, none⟩) x3_2.length co18) y574 := (by rw [hw, Ny574.out]; exact HP26.1); clear HP26; have n0_ := Aside0.mk ((by rw [hw]; exact below_set HB.out GB19.out : Below w.heap.size w w27)); have n1_ := Aside0.mk (hp_); clear HB; clear HO573; clear HH24; have HB := n0_; have HO_3 := n1_; clear n0_ n1_; clear hg hw hp_ hraw26))
                go_roundg k2
                case measure => have := HK1.out; have := HK2.out; omega
                case rel => exact ⟨(y574), (wrap64 (x15_2 + 1)), (by first | rfl | (simp; done) | (simp [*]; done)), H', ⟨by have := HK1.out; have := HK2.out; omega⟩, ⟨by (with_reducible repeat (first | apply Kd.S_alloc | apply Kd.S_drewN | apply Kd.S_drew)); exact HO_3.out⟩, ⟨by repeat (first | (with_reducible first | exact HB.out | apply below_alloc | apply pw_below_drewN | apply below_drew1) | exact HB.out)⟩⟩
               ·rw [if_neg c16] at H
                exact absurd H (by simp)
              ·rw [if_neg c15] at H
               exact absurd H (by simp)
             ·rw [if_neg c14] at H
              exact absurd H (by simp)
            ·rw [if_neg c12] at H
             exact absurd H (by simp)
           ·rw [if_neg c11] at H
            exact absurd H (by simp)
          ·rw [if_neg c10] at H
           exact absurd H (by simp)
         ·rw [if_neg c9] at H
          have c9b0 : decide (0 < t564) = false := decide_eq_false c9
          clear c9
          have H' := Aside0.mk H
          clear H
          go_wp2_with (first | ((with_reducible refine gate_callee (f := 72) rfl ?_); refine goesL_ (some 21) rfl rfl Try.func72 (by kernel_rfl) rfl #[.slice A0 l0.length c0, .int .i64 x15_2, .int .i64 x11_1] rfl (by (try simp only [List.map_toArray, List.map_cons, List.map_nil]); first | done | rfl | (simp only [List.length_drop, List.length_take]; rfl)) ?_; (with_reducible refine (shunt_blocking.calls k2 _ _ l0 x15_2 x11_1 t564 _ ?side1 ?side2 A8.out).mono ?_); (case side1 => repeat (first | exact (Kd.C_below HR0.out HB.out) | (with_reducible refine Kd.C_alloc ?_ _) | (with_reducible refine Kd.C_drewN ?_ _) | (with_reducible refine Kd.C_drew ?_))); (case side2 => exact HC0.out); rintro e w' ⟨rfl, ⟨nd, rfl⟩⟩; refine ⟨_, rfl, ?_⟩))
          go_roundg k2
          case measure => have := HK1.out; have := HK2.out; omega
          case rel => exact ⟨(x3_2), (wrap64 (x15_2 + 1)), (by first | rfl | (simp; done) | (simp [*]; done)), H', ⟨by have := HK1.out; have := HK2.out; omega⟩, ⟨by (with_reducible repeat (first | apply Kd.S_alloc | apply Kd.S_drewN | apply Kd.S_drew)); exact HO_3.out⟩, ⟨by repeat (first | (with_reducible first | exact HB.out | apply below_alloc | apply pw_below_drewN | apply below_drew1) | exact HB.out)⟩⟩
        ·rw [if_neg c7] at H
         have c7b0 : decide (x15_2 < x11_1) = false := decide_eq_false c7
         clear c7
         have H' := Aside0.mk H
         clear H
         go_wp2
         go_roundg k2
         case measure => have := HK1.out; have := HK2.out; omega
         case rel => exact ⟨(x3_2), (wrap64 (x11_1 + 1)), (by first | rfl | (simp; done) | (simp [*]; done)), H', ⟨by have := HK1.out; have := HK2.out; omega⟩, ⟨by (with_reducible repeat (first | apply Kd.S_alloc | apply Kd.S_drewN | apply Kd.S_drew)); exact HO_3.out⟩, ⟨by repeat (first | (with_reducible first | exact HB.out | apply below_alloc | apply pw_below_drewN | apply below_drew1) | exact HB.out)⟩⟩
     ·rw [if_neg c6] at H
      have c6b0 : decide (x11_1 < (l0.length : Int)) = false := decide_eq_false c6
      clear c6
      obtain rfl := Option.some.inj H
      go_wp2
      go_ret
      exact ⟨_, by first | rfl | (simp [errW_none, errW_some] <;> rfl) | (simp [*, errW_none, errW_some] <;> rfl), by (with_reducible repeat (first | apply Kd.S_alloc | apply Kd.S_drewN | apply Kd.S_drew)); exact HO_3.out, by repeat (first | (with_reducible first | exact HB.out | apply below_alloc | apply pw_below_drewN | apply below_drew1) | exact HB.out)⟩
  ·rw [if_neg c3] at H
   exact absurd H (by simp)
 ·rw [if_neg c2] at H
  exact absurd H (by simp)

def encO (f : Int → Option Int) : Value → Option Value := encI (fun y => (f y).map (.int .i64))
theorem encO_get (f : Int → Option Int) (x : Int) : (encO f (.int .i64 x)).getD (.int .i64 0) = .int .i64 ((f x).getD 0) := by
 unfold encO encI
 cases h : f x <;> simp [h]
theorem encO_is (f : Int → Option Int) (x : Int) : (encO f (.int .i64 x)).isSome = (f x).isSome := by
 unfold encO encI
 cases h : f x <;> simp [h]
theorem encO_none {f : Int → Option Int} {x : Int} (h : f x = none) : encO f (.int .i64 x) = none := by
 unfold encO encI
 simp [h]
theorem encO_put (f : Int → Option Int) (x v : Int) : encO (put_ f x v) (.int .i64 x) = some (.int .i64 v) := by
 unfold encO encI put_
 simp
theorem encO_far (f : Int → Option Int) (x v : Int) : ∀ u, u ≠ .int .i64 x → encO (put_ f x v) u = encO f u := by
 intro u hu
 unfold encO encI put_
 split
 ·rename_i y
  have : y ≠ x := fun e => hu (by rw [e])
  simp [this]
 ·rfl
theorem stacks_zero (w : World) : (zeroValue 3).run Try.prog w = .ok (.int .i64 0) w := by kernel_rfl
theorem stacks_key {x : Int} (h0 : 0 ≤ x) (h1 : x ≤ 1000) : keyOf Try.prog 3 (.int .i64 x) = some (.int .i64 x) := Maps.keyOf_int_mk Try.underlying3 (wfI (by omega) (by omega))
theorem stacks_look {W : World} {b m : Nat} {f : Int → Option Int} (h : MapAt W Try.prog 3 b m (encO f)) {x : Int} (h0 : 0 ≤ x) (h1 : x ≤ 1000) : (Instr.lookup 80 (.map (some b)) (.int .i64 x) false).run Try.prog W = .ok (.int .i64 ((f x).getD 0)) W := by
 rw [h.look (Maps.int_keyed Try.underlying3) Try.underlying80 (stacks_zero _) (stacks_key h0 h1), encO_get]
theorem stacks_lookOk {W : World} {b m : Nat} {f : Int → Option Int} (h : MapAt W Try.prog 3 b m (encO f)) {x : Int} (h0 : 0 ≤ x) (h1 : x ≤ 1000) : (Instr.lookup 80 (.map (some b)) (.int .i64 x) true).run Try.prog W = .ok (.tuple #[.int .i64 ((f x).getD 0), .bool (f x).isSome]) W := by
 rw [h.lookOk (Maps.int_keyed Try.underlying3) Try.underlying80 (stacks_zero _) (stacks_key h0 h1), encO_get, encO_is]
set_option maxHeartbeats 4000000 in
set_option maxRecDepth 100000 in
theorem way_fn.calls (fr : Int → Option Int) (g gb bf mf : Nat) (a : Int) (r : List Int) (W : World) (hb : W.cell? ⟨gb, 0, none⟩ = some (.pointer (some ⟨g, 0, none⟩))) (hc : W.cell? ⟨g, 2, none⟩ = some (.map (some bf))) (hm : MapAt W Try.prog 3 bf mf (encO fr)) (h : wayF fr 100 a = some r) :
  Calls Try.prog 82 #[.int .i64 a, .pointer (some ⟨gb, 0, none⟩)] W fun e w' => ∃ v, e = .returned v ∧ Kd.R (Kd.int .i64) 3 w' W.heap.size (fun _ => True) v r ∧ Below W.heap.size W w' := by
 have HB := Aside0.mk hb
 have HC := Aside0.mk hc
 have HM := Aside0.mk hm
 have HH := Aside0.mk h
 clear hb hc hm h
 go_enter Try.func82, Try.ntmps82
 go_wp2
 go_loopg [0, 4] 100 (fun kq v0 v4 wr => ∃ (x : Int) (out : List Int), v0 = .int .i64 x ∧ Aside0 (∃ rest, wayF fr kq x = some rest ∧ out ++ rest = r) ∧ Aside0 (out.length + kq = 100) ∧ Aside0 (Kd.R (Kd.int .i64) 3 wr W.heap.size (fun _ => True) v4 out) ∧ Aside0 (Below W.heap.size W wr))
 case atStart => exact ⟨a, [], rfl, ⟨⟨r, HH.out, rfl⟩⟩, ⟨rfl⟩, ⟨Kd.R_nil _ _ _ _ _⟩, ⟨Below.refl _ _⟩⟩
 case round =>
  clear HH
  obtain ⟨x, out, rfl, HW, HL, HR, HBW⟩ := hrel
  obtain ⟨rest, hw, hrest⟩ := HW.out
  have hl := HL.out
  obtain ⟨m, hm⟩ : ∃ m, gk = m + 1 := by
   cases gk with
   | zero => cases hw
   | succ m => exact ⟨m, rfl⟩
  rw [hm] at hw
  unfold wayF at hw
  obtain ⟨A, c, hv⟩ := Kd.R_slice HR.out
  subst hv
  by_cases c1 : 0 ≤ x
  ·rw [if_pos c1] at hw
   by_cases c3 : x ≤ 1000
   case neg => rw [if_neg c3] at hw; cases hw
   rw [if_pos c3] at hw
   obtain ⟨rest', hw1, hw2⟩ := Option.map_eq_some_iff.mp hw
   have c1b : decide (0 ≤ x) = true := decide_eq_true c1
   have hsz : W.heap.size ≤ wr.heap.size := HBW.out.size
   obtain ⟨v1, w1, hrun, ho, hB1, hgr, hat⟩ := append_one (Kd.int .i64) (P := Try.prog) (w0 := W) (W := wr) W.heap.size 22 22 3 (.int .i64 0) 8 Try.underlying22 info3 rfl (by decide) (by omega) (v := .slice A out.length c) (xs := out) x [.int .i64 x] (ok := fun _ => True) (fun _ => False) rfl (fun _ h => h.elim) (fun _ _ => trivial) HR.out HBW.out hsz (by omega)
   have hcb : w1.cell? ⟨gb, 0, none⟩ = some (.pointer (some ⟨g, 0, none⟩)) := (hB1.cell (World.block_lt_of_cell? W _ HB.out)).trans HB.out
   have hcc : w1.cell? ⟨g, 2, none⟩ = some (.map (some bf)) := (hB1.cell (World.block_lt_of_cell? W _ HC.out)).trans HC.out
   have hlk := stacks_look (HM.out.below hB1) c1 c3
   have HRUN := Aside0.mk hrun
   have HO := Aside0.mk ho
   have HB1 := Aside0.mk hB1
   have HW2 := Aside0.mk (show ∃ rest, wayF fr m ((fr x).getD 0) = some rest ∧ (out ++ [x]) ++ rest = r from ⟨rest', hw1, by rw [← hrest, ← hw2]; simp⟩)
   have HL2 := Aside0.mk (show (out ++ [x]).length + m = 100 by simp; omega)
   have HM1 := Aside0.mk (show m < gk by omega)
   clear hrun ho hB1 hgr hat hw hw1 hw2 hrest hm hl c1 c3 HW HR HL hsz
   go_wp2_with (at_builtin; go_must (refine wpList_appendRun _ rfl _ _ _ rfl HRUN.out rfl rfl rfl ?_))
   go_roundg m
   case measure => exact HM1.out
   case rel => exact ⟨_, out ++ [x], rfl, HW2, HL2, HO, HB1⟩
  ·rw [if_neg c1] at hw
   have c1b : decide (0 ≤ x) = false := decide_eq_false c1
   obtain rfl : [] = rest := Option.some.inj hw
   rw [List.append_nil] at hrest
   subst hrest
   clear hw hm hl c1 HW HL
   go_wp2
   go_ret
   exact ⟨_, rfl, HR.out, HBW.out⟩
theorem wayF_len (fr : Int → Option Int) : ∀ (f : Nat) (x : Int) (r : List Int), wayF fr f x = some r → r.length ≤ f
 | 0, _, _, h => by cases h
 | f + 1, x, r, h => by
  unfold wayF at h
  by_cases c : 0 ≤ x
  ·rw [if_pos c] at h
   by_cases c2 : x ≤ 1000
   ·rw [if_pos c2] at h
    obtain ⟨r', h1, h2⟩ := Option.map_eq_some_iff.mp h
    have := wayF_len fr f _ _ h1
    rw [← h2]
    simp
    omega
   ·rw [if_neg c2] at h; cases h
  ·rw [if_neg c] at h
   obtain rfl := Option.some.inj h
   simp
theorem rev2 (x y : Int) (s : List Int) : rd (x :: y :: s).reverse (s.length : Int) = y ∧ (x :: y :: s).reverse.take (s.length + 1) = (y :: s).reverse := by
 constructor
 ·unfold rd
  simp only [List.reverse_cons, List.append_assoc]
  rw [List.getD_eq_getElem?_getD, List.getElem?_append_right (by simp)]
  simp
 ·rw [List.reverse_cons (a := x), List.take_left' (by simp)]
theorem trimR_stop {P Q : List Int} (h : ¬ ∃ x y s x' t, P = x :: y :: s ∧ Q = x' :: y :: t) : trimR P Q = (P, Q) := by
 match P, Q with
 | [], _ => unfold trimR; rfl
 | [_], _ => unfold trimR; rfl
 | _ :: _ :: _, [] => unfold trimR; rfl
 | _ :: _ :: _, [_] => unfold trimR; rfl
 | x :: y :: s, x' :: y' :: t =>
  unfold trimR
  exact if_neg (fun e => h ⟨x, y, s, x', t, rfl, by rw [e]⟩)
theorem trim_cases {P Q : List Int} (h : ¬ ∃ x y s x' t, P = x :: y :: s ∧ Q = x' :: y :: t) : P.length ≤ 1 ∨ (1 < P.length ∧ Q.length ≤ 1) ∨ ∃ x y s x' y' t, P = x :: y :: s ∧ Q = x' :: y' :: t ∧ y ≠ y' := by
 match P, Q with
 | [], _ => exact .inl (by simp)
 | [_], _ => exact .inl (by simp)
 | _ :: _ :: _, [] => exact .inr (.inl (by simp))
 | _ :: _ :: _, [_] => exact .inr (.inl (by simp))
 | x :: y :: s, x' :: y' :: t => exact .inr (.inr ⟨x, y, s, x', y', t, rfl, rfl, fun e => h ⟨x, y, s, x', t, rfl, by rw [e]⟩⟩)
set_option maxHeartbeats 4000000 in
set_option maxRecDepth 100000 in
theorem close_fn.calls (k : Nat) (fr : Int → Option Int) (wc W : World) (g bs bf mf : Nat) (a b : Int) (c : List Int) (vn vc : Value) (hg : W.heap[g]? = some (.cells #[vn, .map (some bs), .map (some bf), vc] 91 (0, 0))) (hgc : wc.heap.size ≤ g) (hBc : Below wc.heap.size wc W) (hm : MapAt W Try.prog 3 bf mf (encO fr)) (h : closeF (slices_Reverse_int_int.f k) fr a b = some c) :
  Calls Try.prog 80 #[.pointer (some ⟨g, 0, none⟩), .int .i64 a, .int .i64 b] W fun e w' => e = .returned (.tuple #[]) ∧ ∃ vc', w'.cell? ⟨g, 3, none⟩ = some vc' ∧ Kd.R (Kd.int .i64) 3 w' W.heap.size (fun _ => True) vc' c ∧ Below wc.heap.size wc w' := by
 unfold closeF at h
 replace h := Option.bind_eq_some_iff.mp h
 obtain ⟨p, hp, h⟩ := h
 replace h := Option.bind_eq_some_iff.mp h
 obtain ⟨q, hq, h⟩ := h
 replace h := Option.bind_eq_some_iff.mp h
 obtain ⟨q', hq', h⟩ := h
 obtain ⟨T, hT⟩ : ∃ T, T = trimR p.reverse q.reverse := ⟨_, rfl⟩
 rw [← hT] at hq' h
 by_cases hne : q'.length = 0
 case pos => rw [if_pos hne] at h; cases h
 rw [if_neg hne] at h
 have HRES := Aside0.mk (Option.some.inj h)
 have HNE := Aside0.mk (show 1 ≤ q'.length by omega)
 have HREV := Aside0.mk hq'
 have HT := Aside0.mk hT.symm
 have HPL := Aside0.mk (wayF_len _ _ _ _ hp)
 have HQL := Aside0.mk (wayF_len _ _ _ _ hq)
 obtain ⟨w1, hw1⟩ : ∃ w1, w1 = W.alloc (.cells #[.pointer (some ⟨g, 0, none⟩)] 88) := ⟨_, rfl⟩
 have hbw1 : Below W.heap.size W w1 := by rw [hw1]; exact below_alloc (Below.refl _ _) _
 have hgl : g < W.heap.size := by
  apply Nat.lt_of_not_le
  intro hn
  simp [hn] at hg
 have hgb : w1.heap[W.heap.size]? = some (.cells #[.pointer (some ⟨g, 0, none⟩)] 88 (0, 0)) := by rw [hw1]; exact heap_alloc_new W _
 have hg1 : w1.heap[g]? = some (.cells #[vn, .map (some bs), .map (some bf), vc] 91 (0, 0)) := (hbw1.block g hgl).trans hg
 have HWA := Aside0.mk (way_fn.calls fr g W.heap.size bf mf a p w1 ((blk_cell hgb 0).trans rfl) ((blk_cell hg1 2).trans rfl) (hm.below hbw1) hp)
 have HWB := Aside0.mk (fun (w2 : World) (h2 : Below w1.heap.size w1 w2) => way_fn.calls fr g W.heap.size bf mf b q w2 ((h2.cell (World.block_lt_of_cell? w1 ⟨W.heap.size, 0, none⟩ ((blk_cell hgb 0).trans rfl))).trans ((blk_cell hgb 0).trans rfl)) ((h2.cell (World.block_lt_of_cell? w1 ⟨g, 2, none⟩ ((blk_cell hg1 2).trans rfl))).trans ((blk_cell hg1 2).trans rfl)) ((hm.below hbw1).below h2) hq)
 have HG1 := Aside0.mk hg1
 have HGB := Aside0.mk hgb
 have HBW1 := Aside0.mk hbw1
 have HGC := Aside0.mk (show wc.heap.size ≤ g ∧ g < W.heap.size from ⟨hgc, hgl⟩)
 have HBC := Aside0.mk hBc
 have hmf : ∀ (fn : Fn) (first cap : Array Value) (w : World), (Instr.makeFunc fn first cap).run Try.prog w = .ok (.func fn first cap) w := fun _ _ _ _ => rfl
 clear h hp hq hq' hT hne hbw1 hgl hgb hg1 hg hgc hBc hm
 subst hw1
 go_enter Try.func80, Try.ntmps80
 go_wp2_with (first
  | (go_at_call 82; go_must (first
    | ((with_reducible refine HWA.out.mono ?_); rintro e w2 ⟨v2, rfl, hR2, hB2⟩; obtain ⟨A2, c2, e2⟩ := Kd.R_slice hR2; subst e2; have HR2 := Aside0.mk hR2; have HB2 := Aside0.mk hB2; clear hR2 hB2)
    | ((with_reducible refine (HWB.out _ HB2.out).mono ?_); rintro e w3 ⟨v3, rfl, hR3, hB3⟩; obtain ⟨A3, c3, e3⟩ := Kd.R_slice hR3; subst e3; have HR3 := Aside0.mk hR3; have HB3 := Aside0.mk hB3; clear hR3 hB3))))
 have HP3 := Aside0.mk (Kd.R_below (Kd.R_mono (Kd.R_bound HR2.out) (fun k hk => hk.2.2.1) : Kd.R (Kd.int .i64) 3 w2 _ (fun k => k < w2.heap.size) _ p) HB3.out)
 have HQ3 := Aside0.mk (Kd.R_mono (Kd.R_bound HR3.out) (fun k hk => hk.2.1) : Kd.R (Kd.int .i64) 3 w3 w2.heap.size (fun k => w2.heap.size ≤ k) _ q)
 clear HWA HWB HR2 HR3
 have HFU := Aside0.mk (show p.length ≤ 100 from HPL.out)
 go_loopg [7, 8] p.length (fun kq v7 v8 wr => ∃ (P Q : List Int) (Ap Aq : Option Addr) (cp cq : Nat), v7 = .slice Ap P.length cp ∧ v8 = .slice Aq Q.length cq ∧ Aside0 (kq = P.length ∧ P.length ≤ 100) ∧ Aside0 (trimR P Q = T) ∧ Aside0 (Q.length ≤ 100) ∧ Aside0 (Kd.R (Kd.int .i64) 3 w3 (W.alloc (.cells #[.pointer (some ⟨g, 0, none⟩)] 88)).heap.size (fun k => k < w2.heap.size) (.slice Ap P.length cp) P.reverse) ∧ Aside0 (Kd.R (Kd.int .i64) 3 w3 w2.heap.size (fun k => w2.heap.size ≤ k) (.slice Aq Q.length cq) Q.reverse) ∧ Drawn0 w3 wr)
 case atStart => exact ⟨p.reverse, q.reverse, A2, A3, c2, c3, by rw [List.length_reverse], by rw [List.length_reverse], ⟨⟨by rw [List.length_reverse], by rw [List.length_reverse]; exact HFU.out⟩⟩, HT, ⟨by rw [List.length_reverse]; exact HQL.out⟩, ⟨by rw [List.length_reverse, List.reverse_reverse]; exact HP3.out⟩, ⟨by rw [List.length_reverse, List.reverse_reverse]; exact HQ3.out⟩, by repeat (first | exact Drawn0.refl _ | apply Drawn0.step)⟩
 case round =>
  clear HT HP3 HQ3 HPL HQL
  obtain ⟨P, Q, Ap, Aq, cp, cq, rfl, rfl, HK, HT, HQL, HP, HQ, ⟨nd, rfl⟩⟩ := hrel
  by_cases ct : ∃ x y s x' t, P = x :: y :: s ∧ Q = x' :: y :: t
  ·obtain ⟨x, y, s, x', tt, rfl, rfl⟩ := ct
   have hT2 : trimR (y :: s) (y :: tt) = T := by
    have := HT.out
    rw [show trimR (x :: y :: s) (x' :: y :: tt) = if y = y then trimR (y :: s) (y :: tt) else (x :: y :: s, x' :: y :: tt) from rfl, if_pos rfl] at this
    exact this
   have hk := HK.out.1
   have HPB := Aside0.mk HK.out.2
   have hql := HQL.out
   have hkp := (Kd.R_reads' HP.out)
   have hkq := (Kd.R_reads' HQ.out)
   obtain ⟨np, hnp⟩ : ∃ np : Nat, np = (x :: y :: s).length := ⟨_, rfl⟩
   obtain ⟨nq, hnq⟩ : ∃ nq : Nat, nq = (x' :: y :: tt).length := ⟨_, rfl⟩
   have hnp2 : np = s.length + 2 := by rw [hnp]; rfl
   have hnq2 : nq = tt.length + 2 := by rw [hnq]; rfl
   have hmp : (np : Int) ≤ 9223372036854775807 := by have := hkp.2.2.2.1; simp at this; omega
   obtain ⟨jp, hjp⟩ : ∃ jp : Int, jp = (s.length : Int) := ⟨_, rfl⟩
   obtain ⟨jq, hjq⟩ : ∃ jq : Int, jq = (tt.length : Int) := ⟨_, rfl⟩
   obtain ⟨kp, hkp1⟩ : ∃ kp : Int, kp = (s.length : Int) + 1 := ⟨_, rfl⟩
   obtain ⟨kq, hkq1⟩ : ∃ kq : Int, kq = (tt.length : Int) + 1 := ⟨_, rfl⟩
   obtain ⟨adp, eap, hxp⟩ := Kd.at_int hkp.2.2 jp (by omega) (by simp; omega)
   obtain ⟨adq, eaq, hxq⟩ := Kd.at_int hkq.2.2 jq (by omega) (by simp; omega)
   subst eap
   subst eaq
   rw [hjp, (rev2 x y s).1, ← hjp] at hxp
   rw [hjq, (rev2 x' y tt).1, ← hjq] at hxq
   have hP2 := Kd.R_take (m := s.length + 1) HP.out (by simp)
   have hQ2 := Kd.R_take (m := tt.length + 1) HQ.out (by simp)
   rw [(rev2 x y s).2] at hP2
   rw [(rev2 x' y tt).2] at hQ2
   have hcp : np ≤ cp := by have := hkp.2.1; omega
   have hcq : nq ≤ cq := by have := hkq.2.1; omega
   obtain ⟨i0, hi0, _, _, _⟩ := info_parts info3
   have hcutp := cut_to (P := Try.prog) 22 3 .i64 Try.underlying22 hi0 (some adp) np cp kp (by omega) (by omega) hcp
   have hcutq := cut_to (P := Try.prog) 22 3 .i64 Try.underlying22 hi0 (some adq) nq cq kq (by omega) (by omega) hcq
   have hwp : IntKind.i64.wrap ((np : Int) - 2) = jp := by rw [IntWalk.i64_in _ (by omega)]; omega
   have hwq : IntKind.i64.wrap ((nq : Int) - 2) = jq := by rw [IntWalk.i64_in _ (by omega)]; omega
   have hwp1 : IntKind.i64.wrap ((np : Int) - 1) = kp := by rw [IntWalk.i64_in _ (by omega)]; omega
   have hwq1 : IntKind.i64.wrap ((nq : Int) - 1) = kq := by rw [IntWalk.i64_in _ (by omega)]; omega
   have g1 : decide (1 < np) = true := decide_eq_true (by omega)
   have g2 : decide ((1 : Int) < (np : Int)) = true := decide_eq_true (by omega)
   have g3 : decide (1 < nq) = true := decide_eq_true (by omega)
   have g4 : decide ((1 : Int) < (nq : Int)) = true := decide_eq_true (by omega)
   have pj := eq_true (show 0 ≤ jp by omega)
   have qj := eq_true (show jp < (np : Int) by omega)
   have pj2 := eq_true (show 0 ≤ jq by omega)
   have qj2 := eq_true (show jq < (nq : Int) by omega)
   have hyy : (y == y) = true := beq_self_eq_true y
   have HE := Aside0.mk (show kp.toNat = (y :: s).length ∧ kq.toNat = (y :: tt).length by simp; omega)
   have HP2 := Aside0.mk hP2
   have HQ2 := Aside0.mk hQ2
   have HT2 := Aside0.mk hT2
   have HQL2 := Aside0.mk (show (y :: tt).length ≤ 100 by simp at hql ⊢; omega)
   have HM := Aside0.mk (show (y :: s).length < gk by rw [hk]; simp)
   rw [← hnp, ← hnq]
   clear hT2 hk hql hkp hkq hnp hnq hnp2 hnq2 hjp hjq hkp1 hkq1 hP2 hQ2 hcp hcq hi0 HT HQL HP HQ HK hmp
   go_wp2
   repeat (go_quiet (fail); try go_wp2)
   go_roundg ((y :: s).length)
   case measure => exact HM.out
   case rel => exact ⟨y :: s, y :: tt, _, _, _, _, by rw [HE.out.1], by rw [HE.out.2], ⟨⟨rfl, by have := HM.out; have := HPB.out; simp at *; omega⟩⟩, HT2, HQL2, HP2, HQ2, by repeat (first | exact Drawn0.refl _ | apply Drawn0.step)⟩
  ·have hTT : T = (P, Q) := by rw [← HT.out]; exact trimR_stop ct
   subst hTT
   clear HT
   have HKL := Aside0.mk HK.out.2
   have hkp := (Kd.R_reads' HP.out)
   have hkq := (Kd.R_reads' HQ.out)
   rcases trim_cases ct with hs | ⟨hs1, hs2⟩ | ⟨x, y, s, x', y', tt, rfl, rfl, hyy⟩
   ·obtain ⟨np, hnp⟩ : ∃ np : Nat, np = P.length := ⟨_, rfl⟩
    have g1 : decide (1 < P.length) = false := decide_eq_false (by omega)
    have g2 : decide ((1 : Int) < (P.length : Int)) = false := decide_eq_false (by omega)
    clear hs hkp hkq hnp
    have HRV := Aside0.mk (fun n => slices_Reverse_int_int.calls k (fun k => w2.heap.size ≤ k) (.slice Aq Q.length cq) Q.reverse q' w2 (w3.drewN n) (pw_below_drewN HB3.out n) (Kd.R_drewN HQ.out n) HREV.out)
    go_wp2
    repeat (go_quiet (fail); try (go_wp2_with (go_at_call 68; go_must ((with_reducible refine (HRV.out _).mono ?_); rintro e w4 ⟨rfl, hR4, hB4, hK4⟩; have HR4 := Aside0.mk hR4; have HB4 := Aside0.mk hB4; have HP4 := Aside0.mk (Kd.R_step (Kd.R_drewN HP.out _) (fun k hk hl => hK4.2 k hl (Nat.not_le.mpr hk))); clear hR4 hB4 hK4))))
    have hlen4 : Q.length = q'.length := (Kd.R_reads' HR4.out).1
    have hn1 := HNE.out
    have hql := HQL.out
    have hkl := HKL.out
    obtain ⟨adq, eaq, _⟩ := Kd.at_int (Kd.R_reads' HR4.out).2.2 0 (by omega) (by omega)
    subst eaq
    obtain ⟨i0, hi0, _, hsz0, _⟩ := info_parts info3
    have hcf := cut_from (P := Try.prog) 22 3 .i64 Try.underlying22 hi0 1 hsz0 (some adq) Q.length cq 1 (by omega) (by omega)
    have hr5 := Kd.C_drop (m := 1) (Kd.R_reads' HR4.out).2.2 (by omega) (by have := (Kd.R_reads' HR4.out).2.1; omega : q'.length ≤ cq)
    have hs1 : (Kd.int .i64).sz = 1 := rfl
    rw [hs1] at hr5
    rw [show (1 : Int).toNat = 1 from rfl] at hcf
    obtain ⟨A5, hA5⟩ : ∃ A5, (if cq = 1 then (some adq : Option Addr) else (some adq : Option Addr).map (·.add (1 * 1))) = A5 := ⟨_, rfl⟩
    rw [hA5] at hcf hr5
    have hl5 : (q'.drop 1).length = Q.length - 1 := by rw [List.length_drop]; omega
    rw [← hl5] at hcf
    obtain ⟨D, hD⟩ : ∃ D, q'.drop 1 = D := ⟨_, rfl⟩
    rw [hD] at hcf hr5 hl5
    have HC5 := Aside0.mk hr5
    have hBW4 : Below W.heap.size W w4 := below_then (below_step HBW1.out HB2.out) (below_step HBW1.out HB2.out).size HB4.out
    have HBW4 := Aside0.mk hBW4
    have hg4 : w4.heap[g]? = some (.cells #[vn, .map (some bs), .map (some bf), vc] 91 (0, 0)) := (hBW4.block g HGC.out.2).trans (((HBW1.out.block g HGC.out.2).symm).trans HG1.out)
    have hgbb : w4.heap[W.heap.size]? = some (.cells #[.pointer (some ⟨g, 0, none⟩)] 88 (0, 0)) := ((below_then HB2.out HB2.out.size HB4.out).block W.heap.size (by simp)).trans HGB.out
    have hgb4 : w4.cell? ⟨W.heap.size, 0, none⟩ = some (.pointer (some ⟨g, 0, none⟩)) := (blk_cell hgbb 0).trans rfl
    have HGBB := Aside0.mk hgbb
    have hne5 : some W.heap.size ≠ (Value.slice Ap P.length cp).ownBlock := Kd.R_ne HP4.out hgbb (by decide)
    have HNE5 := Aside0.mk hne5
    have HG4 := Aside0.mk hg4
    have hgne : g ≠ W.heap.size := by have := HGC.out.2; omega
    have HKP := Aside0.mk (fun (W' : World) (hW' : Below w4.heap.size w4 W') => (hW'.cell (World.block_lt_of_cell? w4 _ hgb4)).trans hgb4)
    have HPL2 := Aside0.mk (show (P.reverse.length + D.length) * 8 ≤ 140737488355328 by rw [List.length_reverse]; omega)
    have HFIN := Aside0.mk (show P.reverse ++ D = c by rw [← hD]; exact HRES.out)
    have hne4 : some g ≠ (Value.slice Ap P.length cp).ownBlock := Kd.R_ne HP4.out hg4 (by decide)
    have HNE4 := Aside0.mk hne4
    clear hr5 hi0 hsz0 hA5 hl5 hlen4 hn1 hql hBW4 hg4 hgb4 hne4 hs1 hkl HRV hD hgbb hne5
    go_region_held_law (fun W' => W'.cell? ⟨W.heap.size, 0, none⟩ = some (.pointer (some ⟨g, 0, none⟩)))
     ((first | assumption | (rw [World.cell?_setCell_far _ _ _ _ hgne]; assumption) | exact HKP.out _ (by repeat (first | exact Below.refl _ _ | apply pw_below_drewN | apply below_drew1))))
     ((refine Kd.R_append_rows_step (Kd.int .i64) (w0 := W) W.heap.size rfl _ _ 22 3 (.int .i64 0) 8 rfl Try.underlying22 info3 rfl (by decide) (by omega) (.slice Ap P.length cp) P.reverse D _ _ _ (fun _ => True) (fun _ => False) rfl rfl (Kd.R_lower (Kd.R_mono (Kd.R_drew HP4.out) (fun _ _ => trivial)) (by simp)) (Kd.C_drew HC5.out) (fun _ _ h => h) (fun _ h => h.elim) (fun _ _ => trivial) (by repeat (first | exact HBW4.out | apply pw_below_drewN | apply below_drew1)) (show W.heap.size ≤ w4.heap.size from HBW4.out.size) HPL2.out ?_; intro v5 w5 hR5 hB5 hg5 _; obtain ⟨A6, c6, e6⟩ := Kd.R_slice hR5; subst e6; (rw [show (P.reverse ++ D).length = P.length + D.length by simp] at hR5); have hb5 : w5.heap[g]? = some (.cells #[vn, .map (some bs), .map (some bf), vc] 91 (0, 0)) := blk_grown (show w4.drew.heap[g]? = _ from HG4.out) hg5 HNE4.out; have hc5 : w5.cell? ⟨g, 3, none⟩ = some vc := (blk_cell hb5 3).trans rfl; have hf5 : w5.frozen? ⟨g, 3, none⟩ = false := blk_frozen hb5 3; have hS5 : w5.cell? ⟨W.heap.size, 0, none⟩ = some (.pointer (some ⟨g, 0, none⟩)) := (blk_cell (blk_grown (show w4.drew.heap[W.heap.size]? = _ from HGBB.out) hg5 HNE5.out) 0).trans rfl; have HR5 := Aside0.mk hR5; have HB5 := Aside0.mk hB5; have HG5 := Aside0.mk hb5; clear hR5 hB5 hg5 hb5; (try simp only [Act.put, List.getElem_toArray, List.getElem_cons_succ, List.getElem_cons_zero, List.setIfInBounds_toArray, List.set_cons_zero, List.set_cons_succ])))
    all_goals (
     go_wp2
     go_end0
     exact ⟨rfl, .slice A6 (P.length + D.length) c6, (blk_cell (blk_put HG5.out 3 _ rfl) 3).trans rfl, by rw [← HFIN.out]; exact Kd.R_set HR5.out HG5.out (by simp [Kd.int, Kd.scalar]) 3 _, Below.setCell (below_then HBC.out HBC.out.size HB5.out) (p := ⟨g, 3, none⟩) HGC.out.1 _⟩)
   ·have g1 : decide (1 < P.length) = true := decide_eq_true (by omega)
    have g2 : decide ((1 : Int) < (P.length : Int)) = true := decide_eq_true (by omega)
    have g3 : decide (1 < Q.length) = false := decide_eq_false (by omega)
    have g4 : decide ((1 : Int) < (Q.length : Int)) = false := decide_eq_false (by omega)
    clear hs1 hs2 hkp hkq
    have HRV := Aside0.mk (fun n => slices_Reverse_int_int.calls k (fun k => w2.heap.size ≤ k) (.slice Aq Q.length cq) Q.reverse q' w2 (w3.drewN n) (pw_below_drewN HB3.out n) (Kd.R_drewN HQ.out n) HREV.out)
    go_wp2
    repeat (go_quiet (fail); try (go_wp2_with (go_at_call 68; go_must ((with_reducible refine (HRV.out _).mono ?_); rintro e w4 ⟨rfl, hR4, hB4, hK4⟩; have HR4 := Aside0.mk hR4; have HB4 := Aside0.mk hB4; have HP4 := Aside0.mk (Kd.R_step (Kd.R_drewN HP.out _) (fun k hk hl => hK4.2 k hl (Nat.not_le.mpr hk))); clear hR4 hB4 hK4))))
    have hlen4 : Q.length = q'.length := (Kd.R_reads' HR4.out).1
    have hn1 := HNE.out
    have hql := HQL.out
    have hkl := HKL.out
    obtain ⟨adq, eaq, _⟩ := Kd.at_int (Kd.R_reads' HR4.out).2.2 0 (by omega) (by omega)
    subst eaq
    obtain ⟨i0, hi0, _, hsz0, _⟩ := info_parts info3
    have hcf := cut_from (P := Try.prog) 22 3 .i64 Try.underlying22 hi0 1 hsz0 (some adq) Q.length cq 1 (by omega) (by omega)
    have hr5 := Kd.C_drop (m := 1) (Kd.R_reads' HR4.out).2.2 (by omega) (by have := (Kd.R_reads' HR4.out).2.1; omega : q'.length ≤ cq)
    have hs1 : (Kd.int .i64).sz = 1 := rfl
    rw [hs1] at hr5
    rw [show (1 : Int).toNat = 1 from rfl] at hcf
    obtain ⟨A5, hA5⟩ : ∃ A5, (if cq = 1 then (some adq : Option Addr) else (some adq : Option Addr).map (·.add (1 * 1))) = A5 := ⟨_, rfl⟩
    rw [hA5] at hcf hr5
    have hl5 : (q'.drop 1).length = Q.length - 1 := by rw [List.length_drop]; omega
    rw [← hl5] at hcf
    obtain ⟨D, hD⟩ : ∃ D, q'.drop 1 = D := ⟨_, rfl⟩
    rw [hD] at hcf hr5 hl5
    have HC5 := Aside0.mk hr5
    have hBW4 : Below W.heap.size W w4 := below_then (below_step HBW1.out HB2.out) (below_step HBW1.out HB2.out).size HB4.out
    have HBW4 := Aside0.mk hBW4
    have hg4 : w4.heap[g]? = some (.cells #[vn, .map (some bs), .map (some bf), vc] 91 (0, 0)) := (hBW4.block g HGC.out.2).trans (((HBW1.out.block g HGC.out.2).symm).trans HG1.out)
    have hgbb : w4.heap[W.heap.size]? = some (.cells #[.pointer (some ⟨g, 0, none⟩)] 88 (0, 0)) := ((below_then HB2.out HB2.out.size HB4.out).block W.heap.size (by simp)).trans HGB.out
    have hgb4 : w4.cell? ⟨W.heap.size, 0, none⟩ = some (.pointer (some ⟨g, 0, none⟩)) := (blk_cell hgbb 0).trans rfl
    have HGBB := Aside0.mk hgbb
    have hne5 : some W.heap.size ≠ (Value.slice Ap P.length cp).ownBlock := Kd.R_ne HP4.out hgbb (by decide)
    have HNE5 := Aside0.mk hne5
    have HG4 := Aside0.mk hg4
    have hgne : g ≠ W.heap.size := by have := HGC.out.2; omega
    have HKP := Aside0.mk (fun (W' : World) (hW' : Below w4.heap.size w4 W') => (hW'.cell (World.block_lt_of_cell? w4 _ hgb4)).trans hgb4)
    have HPL2 := Aside0.mk (show (P.reverse.length + D.length) * 8 ≤ 140737488355328 by rw [List.length_reverse]; omega)
    have HFIN := Aside0.mk (show P.reverse ++ D = c by rw [← hD]; exact HRES.out)
    have hne4 : some g ≠ (Value.slice Ap P.length cp).ownBlock := Kd.R_ne HP4.out hg4 (by decide)
    have HNE4 := Aside0.mk hne4
    clear hr5 hi0 hsz0 hA5 hl5 hlen4 hn1 hql hBW4 hg4 hgb4 hne4 hs1 hkl HRV hD hgbb hne5
    go_region_held_law (fun W' => W'.cell? ⟨W.heap.size, 0, none⟩ = some (.pointer (some ⟨g, 0, none⟩)))
     ((first | assumption | (rw [World.cell?_setCell_far _ _ _ _ hgne]; assumption) | exact HKP.out _ (by repeat (first | exact Below.refl _ _ | apply pw_below_drewN | apply below_drew1))))
     ((refine Kd.R_append_rows_step (Kd.int .i64) (w0 := W) W.heap.size rfl _ _ 22 3 (.int .i64 0) 8 rfl Try.underlying22 info3 rfl (by decide) (by omega) (.slice Ap P.length cp) P.reverse D _ _ _ (fun _ => True) (fun _ => False) rfl rfl (Kd.R_lower (Kd.R_mono (Kd.R_drew HP4.out) (fun _ _ => trivial)) (by simp)) (Kd.C_drew HC5.out) (fun _ _ h => h) (fun _ h => h.elim) (fun _ _ => trivial) (by repeat (first | exact HBW4.out | apply pw_below_drewN | apply below_drew1)) (show W.heap.size ≤ w4.heap.size from HBW4.out.size) HPL2.out ?_; intro v5 w5 hR5 hB5 hg5 _; obtain ⟨A6, c6, e6⟩ := Kd.R_slice hR5; subst e6; (rw [show (P.reverse ++ D).length = P.length + D.length by simp] at hR5); have hb5 : w5.heap[g]? = some (.cells #[vn, .map (some bs), .map (some bf), vc] 91 (0, 0)) := blk_grown (show w4.drew.heap[g]? = _ from HG4.out) hg5 HNE4.out; have hc5 : w5.cell? ⟨g, 3, none⟩ = some vc := (blk_cell hb5 3).trans rfl; have hf5 : w5.frozen? ⟨g, 3, none⟩ = false := blk_frozen hb5 3; have hS5 : w5.cell? ⟨W.heap.size, 0, none⟩ = some (.pointer (some ⟨g, 0, none⟩)) := (blk_cell (blk_grown (show w4.drew.heap[W.heap.size]? = _ from HGBB.out) hg5 HNE5.out) 0).trans rfl; have HR5 := Aside0.mk hR5; have HB5 := Aside0.mk hB5; have HG5 := Aside0.mk hb5; clear hR5 hB5 hg5 hb5; (try simp only [Act.put, List.getElem_toArray, List.getElem_cons_succ, List.getElem_cons_zero, List.setIfInBounds_toArray, List.set_cons_zero, List.set_cons_succ])))
    all_goals (
     go_wp2
     go_end0
     exact ⟨rfl, .slice A6 (P.length + D.length) c6, (blk_cell (blk_put HG5.out 3 _ rfl) 3).trans rfl, by rw [← HFIN.out]; exact Kd.R_set HR5.out HG5.out (by simp [Kd.int, Kd.scalar]) 3 _, Below.setCell (below_then HBC.out HBC.out.size HB5.out) (p := ⟨g, 3, none⟩) HGC.out.1 _⟩)
   ·generalize hP : x :: y :: s = P at *
    generalize hQ : x' :: y' :: tt = Q at *
    have hnp2 : P.length = s.length + 2 := by rw [← hP]; rfl
    have hnq2 : Q.length = tt.length + 2 := by rw [← hQ]; rfl
    have hkl := HKL.out
    have hql := HQL.out
    obtain ⟨jp, hjp⟩ : ∃ jp : Int, jp = (s.length : Int) := ⟨_, rfl⟩
    obtain ⟨jq, hjq⟩ : ∃ jq : Int, jq = (tt.length : Int) := ⟨_, rfl⟩
    obtain ⟨adp, eap, hxp⟩ := Kd.at_int hkp.2.2 jp (by omega) (by rw [List.length_reverse]; omega)
    obtain ⟨adq0, eaq0, hxq⟩ := Kd.at_int hkq.2.2 jq (by omega) (by rw [List.length_reverse]; omega)
    subst eap
    subst eaq0
    rw [show rd P.reverse jp = y by rw [← hP, hjp]; exact (rev2 x y s).1] at hxp
    rw [show rd Q.reverse jq = y' by rw [← hQ, hjq]; exact (rev2 x' y' tt).1] at hxq
    have hwp : IntKind.i64.wrap ((P.length : Int) - 2) = jp := by rw [IntWalk.i64_in _ (by omega)]; omega
    have hwq : IntKind.i64.wrap ((Q.length : Int) - 2) = jq := by rw [IntWalk.i64_in _ (by omega)]; omega
    have g1 : decide (1 < P.length) = true := decide_eq_true (by omega)
    have g2 : decide ((1 : Int) < (P.length : Int)) = true := decide_eq_true (by omega)
    have g3 : decide (1 < Q.length) = true := decide_eq_true (by omega)
    have g4 : decide ((1 : Int) < (Q.length : Int)) = true := decide_eq_true (by omega)
    have pj := eq_true (show 0 ≤ jp by omega)
    have qj := eq_true (show jp < (P.length : Int) by omega)
    have pj2 := eq_true (show 0 ≤ jq by omega)
    have qj2 := eq_true (show jq < (Q.length : Int) by omega)
    have hyb : (y == y') = false := beq_eq_false_iff_ne.mpr hyy
    clear hP hQ hnp2 hnq2 hjp hjq hkp hkq hkl hql hyy ct
    have HRV := Aside0.mk (fun n => slices_Reverse_int_int.calls k (fun k => w2.heap.size ≤ k) (.slice (some adq0) Q.length cq) Q.reverse q' w2 (w3.drewN n) (pw_below_drewN HB3.out n) (Kd.R_drewN HQ.out n) HREV.out)
    go_wp2
    repeat (go_quiet (fail); try (go_wp2_with (go_at_call 68; go_must ((with_reducible refine (HRV.out _).mono ?_); rintro e w4 ⟨rfl, hR4, hB4, hK4⟩; have HR4 := Aside0.mk hR4; have HB4 := Aside0.mk hB4; have HP4 := Aside0.mk (Kd.R_step (Kd.R_drewN HP.out _) (fun k hk hl => hK4.2 k hl (Nat.not_le.mpr hk))); clear hR4 hB4 hK4))))
    have hlen4 : Q.length = q'.length := (Kd.R_reads' HR4.out).1
    have hn1 := HNE.out
    have hql := HQL.out
    have hkl := HKL.out
    obtain ⟨adq, eaq, _⟩ := Kd.at_int (Kd.R_reads' HR4.out).2.2 0 (by omega) (by omega)
    cases eaq
    obtain ⟨i0, hi0, _, hsz0, _⟩ := info_parts info3
    have hcf := cut_from (P := Try.prog) 22 3 .i64 Try.underlying22 hi0 1 hsz0 (some adq0) Q.length cq 1 (by omega) (by omega)
    have hr5 := Kd.C_drop (m := 1) (Kd.R_reads' HR4.out).2.2 (by omega) (by have := (Kd.R_reads' HR4.out).2.1; omega : q'.length ≤ cq)
    have hs1 : (Kd.int .i64).sz = 1 := rfl
    rw [hs1] at hr5
    rw [show (1 : Int).toNat = 1 from rfl] at hcf
    obtain ⟨A5, hA5⟩ : ∃ A5, (if cq = 1 then (some adq0 : Option Addr) else (some adq0 : Option Addr).map (·.add (1 * 1))) = A5 := ⟨_, rfl⟩
    rw [hA5] at hcf hr5
    have hl5 : (q'.drop 1).length = Q.length - 1 := by rw [List.length_drop]; omega
    rw [← hl5] at hcf
    obtain ⟨D, hD⟩ : ∃ D, q'.drop 1 = D := ⟨_, rfl⟩
    rw [hD] at hcf hr5 hl5
    have HC5 := Aside0.mk hr5
    have hBW4 : Below W.heap.size W w4 := below_then (below_step HBW1.out HB2.out) (below_step HBW1.out HB2.out).size HB4.out
    have HBW4 := Aside0.mk hBW4
    have hg4 : w4.heap[g]? = some (.cells #[vn, .map (some bs), .map (some bf), vc] 91 (0, 0)) := (hBW4.block g HGC.out.2).trans (((HBW1.out.block g HGC.out.2).symm).trans HG1.out)
    have hgbb : w4.heap[W.heap.size]? = some (.cells #[.pointer (some ⟨g, 0, none⟩)] 88 (0, 0)) := ((below_then HB2.out HB2.out.size HB4.out).block W.heap.size (by simp)).trans HGB.out
    have hgb4 : w4.cell? ⟨W.heap.size, 0, none⟩ = some (.pointer (some ⟨g, 0, none⟩)) := (blk_cell hgbb 0).trans rfl
    have HGBB := Aside0.mk hgbb
    have hne5 : some W.heap.size ≠ (Value.slice (some adp) P.length cp).ownBlock := Kd.R_ne HP4.out hgbb (by decide)
    have HNE5 := Aside0.mk hne5
    have HG4 := Aside0.mk hg4
    have hgne : g ≠ W.heap.size := by have := HGC.out.2; omega
    have HKP := Aside0.mk (fun (W' : World) (hW' : Below w4.heap.size w4 W') => (hW'.cell (World.block_lt_of_cell? w4 _ hgb4)).trans hgb4)
    have HPL2 := Aside0.mk (show (P.reverse.length + D.length) * 8 ≤ 140737488355328 by rw [List.length_reverse]; omega)
    have HFIN := Aside0.mk (show P.reverse ++ D = c by rw [← hD]; exact HRES.out)
    have hne4 : some g ≠ (Value.slice (some adp) P.length cp).ownBlock := Kd.R_ne HP4.out hg4 (by decide)
    have HNE4 := Aside0.mk hne4
    clear hr5 hi0 hsz0 hA5 hl5 hlen4 hn1 hql hBW4 hg4 hgb4 hne4 hs1 hkl HRV hD hgbb hne5
    go_region_held_law (fun W' => W'.cell? ⟨W.heap.size, 0, none⟩ = some (.pointer (some ⟨g, 0, none⟩)))
     ((first | assumption | (rw [World.cell?_setCell_far _ _ _ _ hgne]; assumption) | exact HKP.out _ (by repeat (first | exact Below.refl _ _ | apply pw_below_drewN | apply below_drew1))))
     ((refine Kd.R_append_rows_step (Kd.int .i64) (w0 := W) W.heap.size rfl _ _ 22 3 (.int .i64 0) 8 rfl Try.underlying22 info3 rfl (by decide) (by omega) (.slice (some adp) P.length cp) P.reverse D _ _ _ (fun _ => True) (fun _ => False) rfl rfl (Kd.R_lower (Kd.R_mono (Kd.R_drew HP4.out) (fun _ _ => trivial)) (by simp)) (Kd.C_drew HC5.out) (fun _ _ h => h) (fun _ h => h.elim) (fun _ _ => trivial) (by repeat (first | exact HBW4.out | apply pw_below_drewN | apply below_drew1)) (show W.heap.size ≤ w4.heap.size from HBW4.out.size) HPL2.out ?_; intro v5 w5 hR5 hB5 hg5 _; obtain ⟨A6, c6, e6⟩ := Kd.R_slice hR5; subst e6; (rw [show (P.reverse ++ D).length = P.length + D.length by simp] at hR5); have hb5 : w5.heap[g]? = some (.cells #[vn, .map (some bs), .map (some bf), vc] 91 (0, 0)) := blk_grown (show w4.drew.heap[g]? = _ from HG4.out) hg5 HNE4.out; have hc5 : w5.cell? ⟨g, 3, none⟩ = some vc := (blk_cell hb5 3).trans rfl; have hf5 : w5.frozen? ⟨g, 3, none⟩ = false := blk_frozen hb5 3; have hS5 : w5.cell? ⟨W.heap.size, 0, none⟩ = some (.pointer (some ⟨g, 0, none⟩)) := (blk_cell (blk_grown (show w4.drew.heap[W.heap.size]? = _ from HGBB.out) hg5 HNE5.out) 0).trans rfl; have HR5 := Aside0.mk hR5; have HB5 := Aside0.mk hB5; have HG5 := Aside0.mk hb5; clear hR5 hB5 hg5 hb5; (try simp only [Act.put, List.getElem_toArray, List.getElem_cons_succ, List.getElem_cons_zero, List.setIfInBounds_toArray, List.set_cons_zero, List.set_cons_succ])))
    all_goals (
     go_wp2
     go_end0
     exact ⟨rfl, .slice A6 (P.length + D.length) c6, (blk_cell (blk_put HG5.out 3 _ rfl) 3).trans rfl, by rw [← HFIN.out]; exact Kd.R_set HR5.out HG5.out (by simp [Kd.int, Kd.scalar]) 3 _, Below.setCell (below_then HBC.out HBC.out.size HB5.out) (p := ⟨g, 3, none⟩) HGC.out.1 _⟩)
/-- Only these three blocks, of those that were there, have changed. -/
theorem lit_new (W : World) (x : Int) : Kd.R (Kd.int .i64) 3 (W.alloc (.cells #[.int .i64 x] 3)) W.heap.size (fun _ => True) (.slice (some ⟨W.heap.size, 0, none⟩) 1 1) [x] := by
 refine ⟨fun k hk => trivial, [.int .i64 x], ?_, ?_⟩
 ·have h2 := World.ownsRow_lit (base := W.heap.size) (e := 3) (size := 1) W #[.int .i64 x] 1 (Nat.le_refl _) (by decide) (by simp)
  exact (by simpa using h2 : (W.alloc (.cells #[.int .i64 x] 3)).ownsRow W.heap.size 3 1 (.slice (some ⟨W.heap.size, 0, none⟩) 1 1) 1 [.int .i64 x])
 ·exact Reps.one (show Kd.M (Kd.int .i64) _ _ _ x [.int .i64 x] from rfl) (Reps.none _ _)
def Chg (W w : World) (g bs bf : Nat) : Prop := W.heap.size ≤ w.heap.size ∧ ∀ k, k < W.heap.size → k ≠ bs → k ≠ bf → k ≠ g → w.heap[k]? = W.heap[k]?
structure ColAt (wc W0 W : World) (g bs bf : Nat) (vn vc : Value) (c : Col) (ms mf M : Nat) : Prop where
 blk : W.heap[g]? = some (.cells #[vn, .map (some bs), .map (some bf), vc] 91 (0, 0))
 side : MapAt W Try.prog 3 bs ms (encO c.1)
 frm : MapAt W Try.prog 3 bf mf (encO c.2.1)
 ms_le : ms ≤ M + c.2.2.length
 mf_le : mf ≤ M + c.2.2.length
 below : Below wc.heap.size wc W
 chg : Chg W0 W g bs bf
theorem ColAt.drewN {wc W0 W : World} {g bs bf : Nat} {vn vc : Value} {c : Col} {ms mf M : Nat} (h : ColAt wc W0 W g bs bf vn vc c ms mf M) (n : Nat) : ColAt wc W0 (W.drewN n) g bs bf vn vc c ms mf M :=
 ⟨h.blk, h.side.drewN n, h.frm.drewN n, h.ms_le, h.mf_le, pw_below_drewN h.below n, h.chg⟩
theorem encO_zero (f : Int → Option Int) (x : Int) : encO (put_ f x 0) (.int .i64 x) = some (.int .i64 0) := encO_put f x 0
theorem grown_block {W W1 : World} {b : Nat} (h : W.grownBy W1 (some b)) : ∀ k, k < W.heap.size → k ≠ b → W1.heap[k]? = W.heap[k]? := fun k hk hne => h.block k hk (fun e => hne (by injection e))
/-- The entries of both maps for a new key, and the stores into them. -/
theorem col_entries {W : World} {base bs bf ms mf : Nat} {sd fr : Int → Option Int} (hs : MapAt W Try.prog 3 bs ms (encO sd)) (hf : MapAt W Try.prog 3 bf mf (encO fr)) (hne : bs ≠ bf) (hbs : base ≤ bs) (hbf : base ≤ bf) {x : Int} (h0 : 0 ≤ x) (h1 : x ≤ 1000) (hsx : sd x = none) (hfx : fr x = none) (hm1 : ms < maxLen) (hm2 : mf < maxLen) (u v : Int) :
  ∃ (t1 t2 : Nat → Int) (W1 W2 W3 W4 : Nat → World), ∀ n,
   (Instr.mapEntry 80 (.map (some bs)) (.int .i64 x)).run Try.prog (W.drewN n) = .ok (.tuple #[.int .i64 0, .int .i64 (t1 n)]) (W1 n) ∧
   (Instr.entryStore 80 (.map (some bs)) (.int .i64 (t1 n)) (.int .i64 u)).run Try.prog (W1 n) = .ok () (W2 n) ∧
   (Instr.mapEntry 80 (.map (some bf)) (.int .i64 x)).run Try.prog (W2 n) = .ok (.tuple #[.int .i64 0, .int .i64 (t2 n)]) (W3 n) ∧
   (Instr.entryStore 80 (.map (some bf)) (.int .i64 (t2 n)) (.int .i64 v)).run Try.prog (W3 n) = .ok () (W4 n) ∧
   MapAt (W1 n) Try.prog 3 bs (ms + 1) (encO (put_ sd x 0)) ∧
   MapAt (W4 n) Try.prog 3 bs (ms + 1) (encO (put_ sd x u)) ∧ MapAt (W4 n) Try.prog 3 bf (mf + 1) (encO (put_ fr x v)) ∧
   (∀ k, k < W.heap.size → k ≠ bs → k ≠ bf → (W1 n).heap[k]? = W.heap[k]? ∧ (W2 n).heap[k]? = W.heap[k]? ∧ (W3 n).heap[k]? = W.heap[k]? ∧ (W4 n).heap[k]? = W.heap[k]?) ∧
   W.heap.size ≤ (W4 n).heap.size ∧ Below base W (W4 n) := by
 have key := stacks_key h0 h1
 have all : ∀ n, ∃ (y : (Int × Int) × (World × World × World × World)),
   (Instr.mapEntry 80 (.map (some bs)) (.int .i64 x)).run Try.prog (W.drewN n) = .ok (.tuple #[.int .i64 0, .int .i64 y.1.1]) y.2.1 ∧
   (Instr.entryStore 80 (.map (some bs)) (.int .i64 y.1.1) (.int .i64 u)).run Try.prog y.2.1 = .ok () y.2.2.1 ∧
   (Instr.mapEntry 80 (.map (some bf)) (.int .i64 x)).run Try.prog y.2.2.1 = .ok (.tuple #[.int .i64 0, .int .i64 y.1.2]) y.2.2.2.1 ∧
   (Instr.entryStore 80 (.map (some bf)) (.int .i64 y.1.2) (.int .i64 v)).run Try.prog y.2.2.2.1 = .ok () y.2.2.2.2 ∧
   MapAt y.2.1 Try.prog 3 bs (ms + 1) (encO (put_ sd x 0)) ∧
   MapAt y.2.2.2.2 Try.prog 3 bs (ms + 1) (encO (put_ sd x u)) ∧ MapAt y.2.2.2.2 Try.prog 3 bf (mf + 1) (encO (put_ fr x v)) ∧
   (∀ k, k < W.heap.size → k ≠ bs → k ≠ bf → y.2.1.heap[k]? = W.heap[k]? ∧ y.2.2.1.heap[k]? = W.heap[k]? ∧ y.2.2.2.1.heap[k]? = W.heap[k]? ∧ y.2.2.2.2.heap[k]? = W.heap[k]?) ∧
   W.heap.size ≤ y.2.2.2.2.heap.size ∧ Below base W y.2.2.2.2 := by
  intro n
  obtain ⟨t1, W1, W2, e1, e2, m1, g1, m2, g2⟩ := (hs.drewN n).entryNew (Maps.int_keyed Try.underlying3) Try.underlying80 stacks_zero hm1 key (encO_none hsx) (.int .i64 u) (encO_put sd x u) (encO_far sd x u) (encO_zero sd x) (encO_far sd x 0)
  have hf2 : MapAt W2 Try.prog 3 bf mf (encO fr) := (hf.drewN n).kept g2 (fun e => hne (by injection e with e; exact e.symm))
  obtain ⟨t2, W3, W4, e3, e4, m3, g3, m4, g4⟩ := hf2.entryNew (Maps.int_keyed Try.underlying3) Try.underlying80 stacks_zero hm2 key (encO_none hfx) (.int .i64 v) (encO_put fr x v) (encO_far fr x v) (encO_zero fr x) (encO_far fr x 0)
  have z2 : W.heap.size ≤ W2.heap.size := g2.size
  refine ⟨((t1, t2), (W1, W2, W3, W4)), e1, e2, e3, e4, m1, m2.kept g4 (fun e => hne (by injection e)), m4, fun k hk n1 n2 => ?_, ?_, ?_⟩
  ·have a1 := grown_block g1 k hk n1
   have a2 := grown_block g2 k hk n1
   have a3 := grown_block g3 k (Nat.lt_of_lt_of_le hk z2) n2
   have a4 := grown_block g4 k (Nat.lt_of_lt_of_le hk z2) n2
   exact ⟨a1, a2, a3.trans a2, a4.trans a2⟩
  ·have := g4.size
   show W.heap.size ≤ W4.heap.size
   omega
  ·have hbsz : base ≤ W.heap.size := by have := hs.lt; omega
   have b1 : Below base W W2 := pw_below_grown (w1 := W.drewN n) (pw_below_drewN (Below.refl _ _) n) (some bs) hbsz g2 (fun k hk => by injection hk with hk; omega)
   exact pw_below_grown b1 (some bf) (by omega) g4 (fun k hk => by injection hk with hk; omega)
 exact ⟨fun n => (Classical.choose (all n)).1.1, fun n => (Classical.choose (all n)).1.2, fun n => (Classical.choose (all n)).2.1, fun n => (Classical.choose (all n)).2.2.1, fun n => (Classical.choose (all n)).2.2.2.1, fun n => (Classical.choose (all n)).2.2.2.2, fun n => Classical.choose_spec (all n)⟩
set_option maxHeartbeats 4000000 in
set_option maxRecDepth 100000 in
theorem visit_fn.calls (k : Nat) (near : List (List Int)) (An : Option Addr) (cn : Nat) (wc W : World) (g bs bf ms mf M : Nat) (sd fr : Int → Option Int) (s : Int) (vc : Value) (st : Col) (r : Option (Int × Int))
  (hn : Kd.C (Kd.slice 3 (Kd.int .i64)) wc An near.length near) (hg : W.heap[g]? = some (.cells #[.slice An near.length cn, .map (some bs), .map (some bf), vc] 91 (0, 0))) (hgc : wc.heap.size ≤ g) (hbs : wc.heap.size ≤ bs) (hbf : wc.heap.size ≤ bf) (hne : bs ≠ bf)
  (hs : MapAt W Try.prog 3 bs ms (encO sd)) (hf : MapAt W Try.prog 3 bf mf (encO fr)) (hM : ms ≤ M ∧ mf ≤ M) (hM2 : M ≤ 1000000) (hB : Below wc.heap.size wc W) (h : visitF near sd fr s = some (st, r)) (hcl : ∀ a b, r = some (a, b) → ∃ c, closeF (slices_Reverse_int_int.f k) st.2.1 a b = some c) :
  Calls Try.prog 75 #[.pointer (some ⟨g, 0, none⟩), .int .i64 s] W fun e w' => e = .returned (.bool r.isNone) ∧ (r = none → ∃ ms' mf', ms' ≤ M + 2000 ∧ mf' ≤ M + 2000 ∧ w'.heap[g]? = some (.cells #[.slice An near.length cn, .map (some bs), .map (some bf), vc] 91 (0, 0)) ∧ MapAt w' Try.prog 3 bs ms' (encO st.1) ∧ MapAt w' Try.prog 3 bf mf' (encO st.2.1) ∧ Chg W w' g bs bf) ∧
   (∀ a b, r = some (a, b) → ∃ c vc', closeF (slices_Reverse_int_int.f k) st.2.1 a b = some c ∧ w'.cell? ⟨g, 3, none⟩ = some vc' ∧ Kd.R (Kd.int .i64) 3 w' wc.heap.size (fun _ => True) vc' c) ∧ Below wc.heap.size wc w' := by
 unfold visitF at h
 by_cases hcond : 0 ≤ s ∧ s ≤ 1000 ∧ sd s = none ∧ fr s = none
 case neg => rw [if_neg hcond] at h; cases h
 rw [if_pos hcond] at h
 obtain ⟨s0, s1, s2, s3⟩ := hcond
 have hml : (1100000 : Nat) < maxLen := by decide
 have hgs : bs ≠ g := hs.ne hg
 have hgf : bf ≠ g := hf.ne hg
 have hlt : g < W.heap.size := by
  apply Nat.lt_of_not_le
  intro hn
  simp [hn] at hg
 obtain ⟨t1, t2, W1, W2, W3, W4, hE⟩ := col_entries hs hf hne hbs hbf s0 s1 s2 s3 (by omega) (by omega) 0 (-1)
 have hE1 := fun n => (hE n).1
 have hE2 := fun n => (hE n).2.1
 have hE3 := fun n => (hE n).2.2.1
 have hE4 := fun n => (hE n).2.2.2.1
 have hE1d : (Instr.mapEntry 80 (.map (some bs)) (.int .i64 s)).run Try.prog W.drew = .ok (.tuple #[.int .i64 0, .int .i64 (t1 1)]) (W1 1) := hE1 1
 have HE := Aside0.mk hE
 have sg : ∀ W' : World, W'.heap[g]? = W.heap[g]? → W'.cell? ⟨g, 1, none⟩ = some (.map (some bs)) ∧ W'.cell? ⟨g, 2, none⟩ = some (.map (some bf)) := fun W' e => ⟨(blk_cell (e.trans hg) 1).trans rfl, (blk_cell (e.trans hg) 2).trans rfl⟩
 have hS0 : ∀ n, (W.drewN n).cell? ⟨g, 1, none⟩ = some (.map (some bs)) ∧ (W.drewN n).cell? ⟨g, 2, none⟩ = some (.map (some bf)) := fun n => sg _ rfl
 have hSd : W.drew.cell? ⟨g, 1, none⟩ = some (.map (some bs)) ∧ W.drew.cell? ⟨g, 2, none⟩ = some (.map (some bf)) := sg _ rfl
 have hS1 := fun n => sg _ ((hE n).2.2.2.2.2.2.2.1 g hlt hgs.symm hgf.symm).1
 have hS2 := fun n => sg _ ((hE n).2.2.2.2.2.2.2.1 g hlt hgs.symm hgf.symm).2.1
 have hS3 := fun n => sg _ ((hE n).2.2.2.2.2.2.2.1 g hlt hgs.symm hgf.symm).2.2.1
 have hS4 := fun n => sg _ ((hE n).2.2.2.2.2.2.2.1 g hlt hgs.symm hgf.symm).2.2.2
 have HS := Aside0.mk (And.intro hS0 (And.intro hSd (And.intro hS1 (And.intro hS2 (And.intro hS3 hS4)))))
 have HN := Aside0.mk hn
 have HCL := Aside0.mk hcl
 have HH := Aside0.mk h
 have HGG := Aside0.mk (show g < W.heap.size ∧ bs < W.heap.size ∧ bf < W.heap.size ∧ wc.heap.size ≤ g ∧ wc.heap.size ≤ bs ∧ wc.heap.size ≤ bf from ⟨hlt, hs.lt, hf.lt, hgc, hbs, hbf⟩)
 have HNE := Aside0.mk (show bs ≠ bf ∧ bs ≠ g ∧ bf ≠ g from ⟨hne, hgs, hgf⟩)
 have HG := Aside0.mk hg
 have HBC := Aside0.mk hB
 have HM := Aside0.mk hM
 have HM2 := Aside0.mk hM2
 have hc1 := (hS0 0).1
 clear h hcl hn hE hS0 hSd hS1 hS2 hS3 hS4 sg hg hgc hbs hbf hlt hs hf hM hM2 hB s2 s3 hne hgs hgf hml hc1
 go_enter Try.func75, Try.ntmps75
 go_wp2
 go_region_held_law (fun W' => W'.cell? ⟨g, 1, none⟩ = some (.map (some bs)) ∧ W'.cell? ⟨g, 2, none⟩ = some (.map (some bf)))
  ((first | exact HS.out.2.1 | exact HS.out.1 _ | exact HS.out.2.2.1 _ | exact HS.out.2.2.2.1 _ | exact HS.out.2.2.2.2.1 _ | exact HS.out.2.2.2.2.2 _))
  (fail)
 obtain ⟨hwc0, hwc1, hwc2, hwc3, hwc4, hwc5⟩ := HGG.out
 obtain ⟨hne0, hne1, hne2⟩ := HNE.out
 obtain ⟨_, _, _, _, _, hz1, hz2, hz3, hz4, hz5⟩ := HE.out 1
 have hw4 : Below wc.heap.size wc (W4 1) := HBC.out.trans hz5
 have hC5 : ColAt wc W ((W4 1).alloc (.cells #[.int .i64 s] 3)) g bs bf (.slice An near.length cn) vc (put_ sd s 0, put_ fr s (-1), [s]) (ms + 1) (mf + 1) M :=
  ⟨(Below.heap_alloc _ _ g (by omega)).trans ((hz3 g hwc0 hne1.symm hne2.symm).2.2.2.trans HG.out), hz1.alloc _, hz2.alloc _, by have := HM.out.1; simp; omega, by have := HM.out.2; simp; omega,
   hw4.alloc hw4.size _, by simp; omega, fun k hk n1 n2 n3 => (Below.heap_alloc _ _ k (by omega)).trans (hz3 k hk n1 n2).2.2.2⟩
 have hQ5 : Kd.R (Kd.int .i64) 3 ((W4 1).alloc (.cells #[.int .i64 s] 3)) W.heap.size (fun k => W.heap.size ≤ k) (.slice (some ⟨(W4 1).heap.size, 0, none⟩) 1 1) [s] :=
  Kd.R_lower (Kd.R_mono (Kd.R_bound (lit_new (W4 1) s)) (fun k hk => by have := hk.2.1; omega)) hz4
 have HC5 := Aside0.mk hC5
 have HQ5 := Aside0.mk hQ5
 clear hE1 hE2 hE3 hE4 hE1d HE HS hw4 hC5 hQ5 hz1 hz2 hz3 hz4 hz5 hwc0 hwc1 hwc2 hwc3 hwc4 hwc5 hne0 hne1 hne2 HBC HM
 go_wp2
 go_loopg [5, 6] 100 (fun kq v5 v6 wr => ∃ (i : Int) (c : Col) (m1 m2 : Nat), v6 = .int .i64 i ∧ Aside0 (colOut near kq i c = some (st, r)) ∧ Aside0 (0 ≤ i ∧ i + kq = 100) ∧ Aside0 (ColAt wc W wr g bs bf (.slice An near.length cn) vc c m1 m2 M) ∧ Aside0 (c.2.2.length ≤ 1001) ∧ Aside0 (Kd.R (Kd.int .i64) 3 wr W.heap.size (fun k => W.heap.size ≤ k) v5 c.2.2))
 case atStart => exact ⟨0, _, _, _, rfl, HH, ⟨by omega⟩, HC5, ⟨by simp⟩, HQ5⟩
 case round =>
  clear HH HC5 HQ5
  obtain ⟨i, c, m1, m2, rfl, HO, HI, HC, HQL, HQ⟩ := hrel
  obtain ⟨i0, i1⟩ := HI.out
  obtain ⟨m, hm⟩ : ∃ m, gk = m + 1 := by
   cases gk with
   | zero => have := HO.out; cases this
   | succ m => exact ⟨m, rfl⟩
  have ho := HO.out
  rw [hm] at ho
  unfold colOut at ho
  obtain ⟨A5, c5, e5⟩ := Kd.R_slice HQ.out
  subst e5
  by_cases c1 : i < (c.2.2.length : Int)
  case neg =>
   rw [if_neg c1] at ho
   injection ho with ho
   injection ho with e1 e2
   subst e1; subst e2
   have c1b : decide (i < (c.2.2.length : Int)) = false := decide_eq_false c1
   have hM2 := HM2.out
   have hql := HQL.out
   have hc1 := HC.out.ms_le
   have hc2 := HC.out.mf_le
   have HF := Aside0.mk (show m1 ≤ M + 2000 ∧ m2 ≤ M + 2000 by omega)
   clear c1 HO hm i0 i1 hM2 hql hc1 hc2
   go_wp2
   go_ret
   exact ⟨rfl, ⟨m1, HF.out.1, m2, HF.out.2, HC.out.blk, HC.out.side, HC.out.frm, HC.out.chg⟩, HC.out.below⟩
  rw [if_pos c1] at ho
  have c1b : decide (i < (c.2.2.length : Int)) = true := decide_eq_true c1
  obtain ⟨adq, eaq, hxq⟩ := Kd.at_int (Kd.R_reads' HQ.out).2.2 i i0 c1
  subst eaq
  obtain ⟨a, ha⟩ : ∃ a, a = rd c.2.2 i := ⟨_, rfl⟩
  rw [← ha] at ho hxq
  by_cases c2 : 0 ≤ a ∧ a < near.length ∧ a ≤ 1000
  case neg => rw [if_neg c2] at ho; cases ho
  rw [if_pos c2] at ho
  obtain ⟨a0, a1, a2⟩ := c2
  replace ho := Option.bind_eq_some_iff.mp ho
  obtain ⟨PP, hP, ho⟩ := ho
  obtain ⟨adn, A0, c0, ean, hxn, hcn, hLr⟩ := at_L1 HN.out a a0 a1
  subst ean
  obtain ⟨L, hL⟩ : ∃ L, L = rd_L1 near a := ⟨_, rfl⟩
  rw [show near_ near a = L from hL.symm] at hP
  rw [← hL] at hxn hcn hLr
  have hmL : (L.length : Int) ≤ 9223372036854775807 := by have := hLr.2.1; omega
  replace hxn := (HC.out.below.cell (World.block_lt_of_cell? wc _ hxn)).trans hxn
  have hg0 : wr.cell? ⟨g, 0, none⟩ = some (.slice (some adn) near.length cn) := (blk_cell HC.out.blk 0).trans rfl
  have p0 := eq_true i0
  have q0 := eq_true c1
  have p1 := eq_true a0
  have q1 := eq_true a1
  have HOO := Aside0.mk ho
  have HP := Aside0.mk hP
  have HLR := Aside0.mk hLr
  have HML := Aside0.mk hmL
  have HA := Aside0.mk (show 0 ≤ a ∧ a ≤ 1000 from ⟨a0, a2⟩)
  have HMM := Aside0.mk (show m < gk ∧ i + 1 + m = 100 by omega)
  have hi100 : i ≤ 100 := by omega
  clear ho hP hL hcn hLr hmL a0 a1 a2 c1 HO hm i1 ha HI
  go_wp2
  go_loopw [5, 46] (fun v5 v46 wr2 => ∃ (j : Int) (c' : Col) (m1' m2' : Nat), v46 = .int .i64 j ∧ Aside0 (0 ≤ j ∧ j ≤ L.length) ∧ Aside0 (colIn a (L.drop j.toNat) c' = some PP) ∧ Aside0 (ColAt wc W wr2 g bs bf (.slice (some adn) near.length cn) vc c' m1' m2' M) ∧ Aside0 (c'.2.2.length ≤ 1001) ∧ Aside0 (Kd.R (Kd.int .i64) 3 wr2 W.heap.size (fun k => W.heap.size ≤ k) v5 c'.2.2)) (fun _ v46 _ => L.length - (intOf v46).toNat)
  case atStart => exact ⟨0, c, m1, m2, rfl, ⟨by omega⟩, HP, HC, HQL, HQ⟩
  case round =>
   clear HP HC HQL HQ hxq hxn hg0
   obtain ⟨j, c', m1', m2', rfl, HJ, HP, HC, HQL, HQ⟩ := hrel
   obtain ⟨j0, j1⟩ := HJ.out
   obtain ⟨A6, c6, e6⟩ := Kd.R_slice HQ.out
   subst e6
   have hP := HP.out
   by_cases c3 : j < (L.length : Int)
   case neg =>
    have c3b : decide (j < (L.length : Int)) = false := decide_eq_false c3
    rw [List.drop_eq_nil_of_le (by omega)] at hP
    unfold colIn at hP
    injection hP with hP
    subst hP
    have ho : colOut near m (i + 1) c' = some (st, r) := HOO.out
    have HO2 := Aside0.mk ho
    have hi2 := HMM.out.2
    clear c3 ho HP hi2
    go_wp2
    go_roundg m
    case measure => exact HMM.out.1
    case rel => exact ⟨i + 1, c', m1', m2', by go_num, HO2, ⟨by have := HMM.out.2; have := of_eq_true p0; omega⟩, HC, HQL, HQ⟩
   have c3b : decide (j < (L.length : Int)) = true := decide_eq_true c3
   obtain ⟨adl, eal, hxl⟩ := Kd.at_int (Kd.C_below HLR.out HC.out.below) j j0 c3
   subst eal
   obtain ⟨b, hb⟩ : ∃ b, b = rd L j := ⟨_, rfl⟩
   rw [← hb] at hxl
   have hdrop : L.drop j.toNat = b :: L.drop (j + 1).toNat := by
    rw [List.drop_eq_getElem_cons (show j.toNat < L.length by omega), show j.toNat + 1 = (j + 1).toNat by omega, hb]
    unfold rd
    rw [List.getD_eq_getElem?_getD, List.getElem?_eq_getElem (show j.toNat < L.length by omega), Option.getD_some]
   rw [hdrop] at hP
   unfold colIn at hP
   by_cases c4 : 0 ≤ b ∧ b ≤ 1000 ∧ c'.2.2.length ≤ 1000
   case neg => rw [if_neg c4] at hP; cases hP
   rw [if_pos c4] at hP
   obtain ⟨b0, b1, b2⟩ := c4
   have pj := eq_true j0
   have qj := eq_true c3
   have hg1 : wr.cell? ⟨g, 1, none⟩ = some (.map (some bs)) := (blk_cell HC.out.blk 1).trans rfl
   have hlkb := stacks_lookOk HC.out.side b0 b1
   obtain ⟨sa, hsa⟩ : ∃ sa, sa = (c'.1 a).getD 0 := ⟨_, rfl⟩
   have hlka := stacks_look HC.out.side HA.out.1 HA.out.2
   rw [← hsa] at hlka
   have HJ2 := Aside0.mk (show 0 ≤ j + 1 ∧ j + 1 ≤ L.length by omega)
   have hjw : wrap64 (j + 1) = j + 1 := by have := HML.out; unfold wrap64; omega
   cases hsd : c'.1 b with
   | some sb =>
    rw [hsd] at hlkb hP
    simp only [Option.getD_some, Option.isSome_some] at hlkb hP
    rw [← hsa] at hP
    by_cases ce : sb = sa
    ·rw [if_pos ce] at hP
     injection hP with hP
     subst hP
     have ceb : (sb == sa) = true := beq_iff_eq.mpr ce
     have ho : some (c', some (a, b)) = some (st, r) := HOO.out
     injection ho with ho
     injection ho with e1 e2
     subst e1; subst e2
     obtain ⟨cc, hcc⟩ := HCL.out a b rfl
     have HCA := Aside0.mk (close_fn.calls k c'.2.1 wc wr g bs bf m2' a b cc _ vc HC.out.blk HGG.out.2.2.2.1 HC.out.below HC.out.frm hcc)
     have HCC := Aside0.mk hcc
     have HCH := Aside0.mk HC.out.below.size
     clear hdrop hb hsd hsa ce c3 j1 b0 b1 b2 HP HQ hcc
     go_wp2_with (go_at_call 80; go_must ((with_reducible refine HCA.out.mono ?_); rintro e w3 ⟨rfl, vc', hv1, hv2, hv3⟩; have HV1 := Aside0.mk hv1; have HV2 := Aside0.mk hv2; have HV3 := Aside0.mk hv3; clear hv1 hv2 hv3))
     go_ret
     exact ⟨rfl, fun h => (by cases h), fun a' b' h => (by injection h with h; injection h with h1 h2; subst h1; subst h2; exact ⟨cc, vc', HCC.out, HV1.out, Kd.R_lower HV2.out HCH.out⟩), HV3.out⟩
    ·rw [if_neg ce] at hP
     have ceb : (sb == sa) = false := beq_eq_false_iff_ne.mpr ce
     have HP2 := Aside0.mk hP
     clear hdrop hb hsd hsa ce c3 j1 b0 b1 b2 HP hP
     go_wp2
     go_roundw
     case rel => exact ⟨j + 1, c', m1', m2', by go_num, HJ2, HP2, HC, HQL, HQ⟩
     case measure => have := of_eq_true qj; have := of_eq_true pj; simp [intOf, hjw]; omega
   | none =>
    rw [hsd] at hlkb hP
    simp only [Option.getD_none, Option.isSome_none] at hlkb hP
    by_cases c5' : c'.2.1 b = none ∧ a ≠ b
    case neg => rw [if_neg c5'] at hP; cases hP
    rw [if_pos c5', ← hsa] at hP
    obtain ⟨hfb, hab⟩ := c5'
    obtain ⟨u, hu⟩ : ∃ u, u = wrap64 (1 - sa) := ⟨_, rfl⟩
    have hwu : IntKind.i64.wrap (1 - sa) = u := by rw [hu, i64_w]
    rw [← hu] at hP
    have hM2 := HM2.out
    have hql := HQL.out
    have hc1 := HC.out.ms_le
    have hc2 := HC.out.mf_le
    have hml : (1100000 : Nat) < maxLen := by decide
    obtain ⟨hwc0, hwc1, hwc2, hwc3, hwc4, hwc5⟩ := HGG.out
    obtain ⟨hne0, hne1, hne2⟩ := HNE.out
    obtain ⟨t1, t2, W1, W2, W3, W4, hE⟩ := col_entries HC.out.side HC.out.frm hne0 hwc4 hwc5 b0 b1 hsd hfb (by omega) (by omega) u a
    have hcg : W.heap.size ≤ wr.heap.size := HC.out.chg.1
    have hE1d : (Instr.mapEntry 80 (.map (some bs)) (.int .i64 b)).run Try.prog wr.drew = .ok (.tuple #[.int .i64 0, .int .i64 (t1 1)]) (W1 1) := (hE 1).1
    have hE2 := (hE 1).2.1
    have hE3 := (hE 1).2.2.1
    have hE4 := (hE 1).2.2.2.1
    have hlkd : (Instr.lookup 80 (.map (some bs)) (.int .i64 a) false).run Try.prog wr.drew = .ok (.int .i64 sa) wr.drew := by
     have := stacks_look (HC.out.side.drewN 1) HA.out.1 HA.out.2
     rw [← hsa] at this
     exact this
    have hlk1 : (Instr.lookup 80 (.map (some bs)) (.int .i64 a) false).run Try.prog (W1 1) = .ok (.int .i64 sa) (W1 1) := by
     have := stacks_look (hE 1).2.2.2.2.1 HA.out.1 HA.out.2
     rw [show (put_ c'.1 b 0 a) = c'.1 a from if_neg hab, ← hsa] at this
     exact this
    have sg : ∀ W' : World, W'.heap[g]? = wr.heap[g]? → W'.cell? ⟨g, 1, none⟩ = some (.map (some bs)) ∧ W'.cell? ⟨g, 2, none⟩ = some (.map (some bf)) := fun W' e => ⟨(blk_cell (e.trans HC.out.blk) 1).trans rfl, (blk_cell (e.trans HC.out.blk) 2).trans rfl⟩
    have hz3 := (hE 1).2.2.2.2.2.2.2.1
    have hS1 := sg _ (hz3 g (by omega) hne1.symm hne2.symm).1
    have hS2 := sg _ (hz3 g (by omega) hne1.symm hne2.symm).2.1
    have hS3 := sg _ (hz3 g (by omega) hne1.symm hne2.symm).2.2.1
    have hS4 := sg _ (hz3 g (by omega) hne1.symm hne2.symm).2.2.2
    have HS := Aside0.mk (And.intro (sg wr.drew rfl) (And.intro hS1 (And.intro hS2 (And.intro hS3 hS4))))
    have hz4 := (hE 1).2.2.2.2.2.2.2.2.1
    have hz5 := (hE 1).2.2.2.2.2.2.2.2.2
    have hQ4 := Kd.R_step HQ.out (fun k ok hk => (hz3 k hk (by omega) (by omega)).2.2.2)
    obtain ⟨v6, w6, hrun, ho6, hB6, hgr6, _⟩ := append_one (Kd.int .i64) (P := Try.prog) (w0 := W4 1) (W := W4 1) W.heap.size 22 22 3 (.int .i64 0) 8 Try.underlying22 info3 rfl (by decide) (by omega) (v := .slice A6 c'.2.2.length c6) (xs := c'.2.2) b [.int .i64 b] (ok := fun k => W.heap.size ≤ k) (fun _ => False) rfl (fun _ h => h.elim) (fun k hk => by omega) hQ4 (Below.refl _ _) (by omega) (by omega)
    have hC6 : ColAt wc W w6 g bs bf (.slice (some adn) near.length cn) vc (put_ c'.1 b u, put_ c'.2.1 b a, c'.2.2 ++ [b]) (m1' + 1) (m2' + 1) M :=
     ⟨(hB6.block g hwc0).trans ((hz3 g (by omega) hne1.symm hne2.symm).2.2.2.trans HC.out.blk), (hE 1).2.2.2.2.2.1.block (hB6.block bs hwc1), (hE 1).2.2.2.2.2.2.1.block (hB6.block bf hwc2), by simp; omega, by simp; omega,
      (HC.out.below.trans hz5).trans (hB6.mono (by omega)), ⟨by have := hB6.size; omega, fun k hk n1 n2 n3 => (hB6.block k hk).trans ((hz3 k (by omega) n1 n2).2.2.2.trans (HC.out.chg.2 k hk n1 n2 n3))⟩⟩
    have HRUN := Aside0.mk hrun
    have HC6 := Aside0.mk hC6
    have HQ6 := Aside0.mk ho6
    have HP2 := Aside0.mk hP
    have HQL2 := Aside0.mk (show (c'.2.2 ++ [b]).length ≤ 1001 by simp; omega)
    clear hE hrun hC6 ho6 hB6 hgr6 hQ4 hz3 hz4 hz5 hS1 hS2 hS3 hS4 sg hP hM2 hql hc1 hc2 hml hwc0 hwc1 hwc2 hwc3 hwc4 hwc5 hne0 hne1 hne2 hcg hdrop hb hsd hsa hu hfb hab c3 j1 b0 b1 b2 HP HC HQ HQL
    go_wp2
    go_region_held_law (fun W' => W'.cell? ⟨g, 1, none⟩ = some (.map (some bs)) ∧ W'.cell? ⟨g, 2, none⟩ = some (.map (some bf)))
     ((first | exact HS.out.1 | exact HS.out.2.1 | exact HS.out.2.2.1 | exact HS.out.2.2.2.1 | exact HS.out.2.2.2.2))
     (fail)
    all_goals (
     go_wp2_with (at_builtin; go_must (refine wpList_appendRun _ rfl _ _ _ rfl HRUN.out rfl rfl rfl ?_))
     go_roundw
     case rel => exact ⟨j + 1, _, m1' + 1, m2' + 1, by go_num, HJ2, HP2, HC6, HQL2, HQ6⟩
     case measure => have := of_eq_true qj; have := of_eq_true pj; simp [intOf, hjw]; omega)
def shunt_Stacks.f (k : Nat) (l0 : List Int) : Option (List Int × List Int × Int) :=
 if isOrderB l0 = true then
  (shunt_conflicts.f k l0).bind fun near => (stacksGo (slices_Reverse_int_int.f k) near l0.length 0 (fun _ => none) (fun _ => none) []).bind fun p => some (p.1, p.2, 0)
 else some ([], [], 2)
set_option maxHeartbeats 4000000 in
set_option maxRecDepth 100000 in
theorem shunt_Stacks.calls (k : Nat) (A0 : Option Addr) (c0 : Nat) (l0 : List Int) (r1 : List Int) (r2 : List Int) (r3 : Int) (w : World) (hr0 : Kd.C (Kd.int .i64) w A0 l0.length l0) (hc0 : l0.length ≤ c0) (h : shunt_Stacks.f k l0 = some (r1, r2, r3)) :
  Calls Try.prog 48 #[.slice A0 l0.length c0] w fun e w' => ∃ v0_ v1_ : Value, e = .returned (.tuple #[v0_, v1_, .int .i64 r3]) ∧ Kd.R (Kd.int .i64) 3 w' w.heap.size (fun k_ => some k_ ≠ (v1_ : Value).ownBlock) v0_ r1 ∧ Kd.R (Kd.int .i64) 3 w' w.heap.size (fun k_ => some k_ ≠ (v0_ : Value).ownBlock) v1_ r2 ∧ Below w.heap.size w w' := by
 have HR0 := Aside0.mk hr0
 have HC0 := Aside0.mk hc0
 clear hr0 hc0
 unfold shunt_Stacks.f at h
 cases hord : isOrderB l0 with
 | false =>
  rw [hord, if_neg (by decide)] at h
  injection h with h
  injection h with e1 e2
  injection e2 with e2 e3
  subst e1; subst e2; subst e3
  have HO := Aside0.mk (shunt_isOrder.calls A0 c0 l0 false w HR0.out HC0.out (by unfold shunt_isOrder.f; rw [hord]))
  clear hord
  go_enter Try.func48, Try.ntmps48
  go_wp2_with (go_at_call 52; go_must ((with_reducible refine HO.out.mono ?_); rintro e w1 ⟨rfl, hb1⟩; have HB1 := Aside0.mk hb1; clear hb1))
  go_ret3
  exact ⟨_, _, rfl, Kd.R_nil _ _ _ _ _, Kd.R_nil _ _ _ _ _, HB1.out⟩
 | true =>
  rw [hord, if_pos rfl] at h
  have HO := Aside0.mk (shunt_isOrder.calls A0 c0 l0 true w HR0.out HC0.out (by unfold shunt_isOrder.f; rw [hord]))
  have hl60 : l0.length ≤ 60 := by
   unfold isOrderB at hord
   simp at hord
   exact hord.1
  replace h := Option.bind_eq_some_iff.mp h
  obtain ⟨near, hnear, h⟩ := h
  replace h := Option.bind_eq_some_iff.mp h
  obtain ⟨⟨p1, p2⟩, hgo, h⟩ := h
  injection h with h
  injection h with e1 e2
  injection e2 with e2 e3
  subst e1; subst e2; subst e3
  have HCF := Aside0.mk (fun (w1 : World) (h1 : Below w.heap.size w w1) => shunt_conflicts.calls k A0 c0 l0 near w1 (Kd.C_below HR0.out h1) HC0.out hnear)
  have HGO := Aside0.mk hgo
  have HL := Aside0.mk hl60
  have hmm := @run_makeMap Try.prog
  clear hord hnear hgo hl60
  go_enter Try.func48, Try.ntmps48
  go_wp2_with (first | (go_at_call 52; go_must ((with_reducible refine HO.out.mono ?_); rintro e w1 ⟨rfl, hb1⟩; have HB1 := Aside0.mk hb1; clear hb1)) | (go_at_call 74; go_must ((with_reducible refine (HCF.out _ HB1.out).mono ?_); rintro e w2 ⟨vn, rfl, hS2, hB2⟩; obtain ⟨An, cn, e2⟩ := Kd.S_slice hS2; subst e2; have HN := Aside0.mk (Kd.S_reads' hS2).2.2; have HB2 := Aside0.mk (below_step HB1.out hB2); clear hS2 hB2)))
  obtain ⟨bs, hbs⟩ : ∃ bs, bs = w2.heap.size := ⟨_, rfl⟩
  obtain ⟨bf, hbf⟩ : ∃ bf, bf = w2.heap.size + 1 := ⟨_, rfl⟩
  obtain ⟨g, hg⟩ : ∃ g, g = w2.heap.size + 1 + 1 := ⟨_, rfl⟩
  obtain ⟨w3, hw3⟩ : ∃ w3, w3 = (((w2.alloc (.map #[] 0)).alloc (.map #[] 0)).alloc (.cells #[.slice An near.length cn, .map (some bs), .map (some bf), .slice none 0 0] 91)) := ⟨_, rfl⟩
  have hm0 : MapAt w3 Try.prog 3 bs 0 (encO fun _ => none) := by
   rw [hw3, hbs]
   exact (((MapAt.made w2 Try.prog 3).congr (fun kv kl _ => by unfold encO encI; split <;> rfl)).alloc _).alloc _
  have hm1 : MapAt w3 Try.prog 3 bf 0 (encO fun _ => none) := by
   have h5 : ∀ o, MapAt (((w2.alloc (.map #[] 0)).alloc (.map #[] 0)).alloc o) Try.prog 3 (w2.heap.size + 1) 0 (encO fun _ => none) := fun o => by
    simpa using (((MapAt.made (w2.alloc (.map #[] 0)) Try.prog 3).congr (g := encO fun _ => none) (fun kv kl _ => by unfold encO encI; split <;> rfl)).alloc o)
   have h6 := h5 (.cells #[.slice An near.length cn, .map (some bs), .map (some bf), .slice none 0 0] 91)
   rw [← hbf] at h6
   rw [hw3]
   exact h6
  have hgb : w3.heap[g]? = some (.cells #[.slice An near.length cn, .map (some bs), .map (some bf), .slice none 0 0] 91 (0, 0)) := by
   rw [hw3, hg]
   simpa using heap_alloc_new ((w2.alloc (.map #[] 0)).alloc (.map #[] 0)) (.cells #[.slice An near.length cn, .map (some bs), .map (some bf), .slice none 0 0] 91)
  have hbw3 : Below w2.heap.size w2 w3 := by rw [hw3]; exact below_alloc (below_alloc (below_alloc (Below.refl _ _) _) _) _
  have hsz3 : w3.heap.size = w2.heap.size + 3 := by rw [hw3]; simp
  have HIX := Aside0.mk (show bs = w2.heap.size ∧ bf = w2.heap.size + 1 ∧ g = w2.heap.size + 2 ∧ w3.heap.size = w2.heap.size + 3 from ⟨hbs, hbf, hg, hsz3⟩)
  have HM0 := Aside0.mk hm0
  have HM1 := Aside0.mk hm1
  have HGB := Aside0.mk hgb
  have HBW3 := Aside0.mk hbw3
  rw [← hg, ← hbf, ← hbs, ← hw3]
  clear hm0 hm1 hgb hbw3 hsz3 hw3 hbs hbf hg
  go_loopg [6, 21] l0.length (fun kq v6 v21 wr => ∃ (i : Int) (sd fr : Int → Option Int) (acc : List Int) (ms mf : Nat), v21 = .int .i64 i ∧ Aside0 (0 ≤ i ∧ i + kq = l0.length ∧ acc.length ≤ 1000 - kq) ∧ Aside0 (stacksGo (slices_Reverse_int_int.f k) near kq i sd fr acc = some (p1, p2)) ∧ Aside0 (wr.heap[g]? = some (.cells #[.slice An near.length cn, .map (some bs), .map (some bf), .slice none 0 0] 91 (0, 0))) ∧ Aside0 (MapAt wr Try.prog 3 bs ms (encO sd)) ∧ Aside0 (MapAt wr Try.prog 3 bf mf (encO fr)) ∧ Aside0 ((ms : Int) ≤ 2000 * i ∧ (mf : Int) ≤ 2000 * i) ∧ Aside0 (Kd.R (Kd.int .i64) 3 wr w2.heap.size (fun k => k ≠ bs ∧ k ≠ bf ∧ k ≠ g) v6 acc) ∧ Aside0 (Below w2.heap.size w2 wr ∧ w3.heap.size ≤ wr.heap.size))
  case atStart => exact ⟨0, _, _, [], 0, 0, rfl, ⟨by have := HL.out; simp <;> omega⟩, HGO, HGB, HM0, HM1, ⟨by omega⟩, ⟨Kd.R_mono (Kd.R_nil _ _ _ _ (fun _ => False)) (fun _ h => h.elim)⟩, ⟨⟨HBW3.out, Nat.le_refl _⟩⟩⟩
  case round =>
   clear HGO HGB HM0 HM1 HBW3
   obtain ⟨i, sd, fr, acc, ms, mf, rfl, HI, HG, HGB, HS, HF, HMM, HR, HBW⟩ := hrel
   obtain ⟨i0, i1, i2⟩ := HI.out
   obtain ⟨A6, c6, e6⟩ := Kd.R_slice HR.out
   subst e6
   have hl60 := HL.out
   have hgo := HG.out
   have hbz := HBW.out.2
   by_cases c1 : i < (l0.length : Int)
   case neg =>
    have hk0 : gk = 0 := by omega
    rw [hk0] at hgo
    unfold stacksGo at hgo
    injection hgo with hgo
    injection hgo with e1 e2
    subst e1; subst e2
    have c1b : decide (i < (l0.length : Int)) = false := decide_eq_false c1
    clear c1 i0 i1 i2 HI HG hk0 hl60 hbz
    go_wp2
    go_ret3
    exact ⟨_, _, rfl, Kd.R_lower (Kd.R_mono HR.out (fun k _ => by simp [Value.ownBlock])) HB2.out.size, Kd.R_nil _ _ _ _ _, below_step HB2.out HBW.out.1⟩
   have c1b : decide (i < (l0.length : Int)) = true := decide_eq_true c1
   obtain ⟨m, hm⟩ : ∃ m, gk = m + 1 := ⟨gk - 1, by omega⟩
   rw [hm] at hgo
   unfold stacksGo at hgo
   have hi1000 : i ≤ 1000 := by omega
   have hg1 : wr.cell? ⟨g, 1, none⟩ = some (.map (some bs)) := (blk_cell HGB.out 1).trans rfl
   have hlk := stacks_lookOk HS.out i0 hi1000
   have HI2 := Aside0.mk (show 0 ≤ i + 1 ∧ i + 1 + m = l0.length ∧ m < gk by omega)
   obtain ⟨jx1, jx2, jx3, jx4⟩ := HIX.out
   cases hsd : sd i with
   | some sb =>
    rw [hsd] at hlk hgo
    simp only [Option.getD_some, Option.isSome_some] at hlk hgo
    have hlk2 := stacks_look HS.out i0 hi1000
    rw [hsd] at hlk2
    simp only [Option.getD_some] at hlk2
    obtain ⟨v7, w7, hrun, ho7, hB7, hgr7, _⟩ := append_one (Kd.int .i64) (P := Try.prog) (w0 := w2) (W := wr) w2.heap.size 22 22 3 (.int .i64 0) 8 Try.underlying22 info3 rfl (by decide) (by omega) (v := .slice A6 acc.length c6) (xs := acc) sb [.int .i64 sb] (ok := fun k => k ≠ bs ∧ k ≠ bf ∧ k ≠ g) (fun _ => False) rfl (fun _ h => h.elim) (fun k hk => by omega) HR.out HBW.out.1 HBW.out.1.size (by omega)
    have hne : some g ≠ (Value.slice A6 acc.length c6).ownBlock := Kd.R_ne HR.out HGB.out (by decide)
    have hob : ∀ b : Nat, b = bs ∨ b = bf → some b ≠ (Value.slice A6 acc.length c6).ownBlock := fun b hb he => by
     have := HR.out.1 b he.symm
     omega
    have HS7 := Aside0.mk (HS.out.kept hgr7 (hob bs (.inl rfl)))
    have HF7 := Aside0.mk (HF.out.kept hgr7 (hob bf (.inr rfl)))
    have HG7 := Aside0.mk (blk_grown HGB.out hgr7 hne)
    have HB7 := Aside0.mk (show Below w2.heap.size w2 w7 ∧ w3.heap.size ≤ w7.heap.size from ⟨hB7, by have := hgr7.size; omega⟩)
    have HRUN := Aside0.mk hrun
    have HO7 := Aside0.mk ho7
    have HGG := Aside0.mk hgo
    have HMM2 := Aside0.mk (show (ms : Int) ≤ 2000 * (i + 1) ∧ (mf : Int) ≤ 2000 * (i + 1) by have := HMM.out; omega)
    have HI3 := Aside0.mk (show 0 ≤ i + 1 ∧ i + 1 + m = l0.length ∧ (acc ++ [sb]).length ≤ 1000 - m by simp; omega)
    clear hrun ho7 hB7 hgr7 hne hob hgo hsd c1 i1 i2 HI HG hm hl60 hbz HGB HS HF HMM HR HBW jx1 jx2 jx3 jx4
    go_wp2_with (at_builtin; go_must (refine wpList_appendRun _ rfl _ _ _ rfl HRUN.out rfl rfl rfl ?_))
    go_roundg m
    case measure => exact HI2.out.2.2
    case rel => exact ⟨i + 1, sd, fr, acc ++ [sb], ms, mf, by go_num, HI3, HGG, HG7, HS7, HF7, HMM2, HO7, HB7⟩
   | none =>
    rw [hsd] at hlk hgo
    simp only [Option.getD_none, Option.isSome_none] at hlk hgo
    replace hgo := Option.bind_eq_some_iff.mp hgo
    obtain ⟨⟨st, r⟩, hv, hgo⟩ := hgo
    have hclo : ∀ a b, r = some (a, b) → ∃ c, closeF (slices_Reverse_int_int.f k) st.2.1 a b = some c ∧ p1 = [] ∧ p2 = c := by
     intro a b hr
     subst hr
     obtain ⟨c, hc, hp⟩ := Option.bind_eq_some_iff.mp hgo
     injection hp with hp
     injection hp with h1 h2
     exact ⟨c, hc, h1.symm, h2.symm⟩
    have hmi : ms ≤ 2000 * i.toNat ∧ mf ≤ 2000 * i.toNat := by have := HMM.out; omega
    have HVI := Aside0.mk (visit_fn.calls k near An cn w2 wr g bs bf ms mf (2000 * i.toNat) sd fr i (.slice none 0 0) st r HN.out HGB.out (by omega) (by omega) (by omega) (by omega) HS.out HF.out hmi (by omega) HBW.out.1 hv (fun a b hr => by obtain ⟨c, hc, _⟩ := hclo a b hr; exact ⟨c, hc⟩))
    have HRC := Aside0.mk (fun (w4 : World) (hc : Chg wr w4 g bs bf) => Kd.R_step HR.out (fun k ok hk => hc.2 k hk ok.1 ok.2.1 ok.2.2))
    have hacc : acc.length ≤ 1000 := by omega
    have hidx : bs < w3.heap.size ∧ bf < w3.heap.size ∧ g < w3.heap.size := by omega
    have HW3 := Aside0.mk hbz
    cases r with
    | some ab =>
     obtain ⟨a, b⟩ := ab
     obtain ⟨c, hc, hp1, hp2⟩ := hclo a b rfl
     subst hp1
     subst hp2
     have HCL := Aside0.mk hc
     clear hgo hv hclo hc hmi hsd c1 i1 i2 HI HG hm hl60 hbz jx1 jx2 jx3 jx4 hacc hidx
     go_wp2_with (go_at_call 75; go_must ((with_reducible refine HVI.out.mono ?_); rintro e w4 ⟨rfl, _, hA, hB4⟩; obtain ⟨c', vc', h1, h2, h3⟩ := hA a b rfl; have h1' := HCL.out.symm.trans h1; injection h1' with h1'; subst h1'; have HA2 := Aside0.mk h3; have HB4 := Aside0.mk hB4; clear hA h1 h3 hB4))
     repeat (go_quiet (fail); try go_wp2)
     go_ret3
     exact ⟨_, _, rfl, Kd.R_nil _ _ _ _ _, Kd.R_lower (Kd.R_mono (by first | exact HA2.out | exact Kd.R_drewN HA2.out _) (fun k _ => by simp [Value.ownBlock])) HB2.out.size, below_step HB2.out (by first | exact HB4.out | exact pw_below_drewN HB4.out _)⟩
    | none =>
     have HNX := Aside0.mk (fun (w4 : World) (ms' mf' : Nat) (q1 : ms' ≤ 2000 * i.toNat + 2000) (q2 : mf' ≤ 2000 * i.toNat + 2000) (q3 : w4.heap[g]? = some (.cells #[.slice An near.length cn, .map (some bs), .map (some bf), .slice none 0 0] 91 (0, 0))) (q4 : MapAt w4 Try.prog 3 bs ms' (encO st.1)) (q5 : MapAt w4 Try.prog 3 bf mf' (encO st.2.1)) (q6 : Chg wr w4 g bs bf) (q7 : Below w2.heap.size w2 w4) =>
      show w4.cell? ⟨g, 1, none⟩ = some (.map (some bs)) ∧ (Instr.lookup 80 (.map (some bs)) (.int .i64 i) false).run Try.prog w4 = .ok (.int .i64 ((st.1 i).getD 0)) w4 ∧
       ∃ v7 w7, (Builtin.append_ #[22, 22] 22 #[.slice A6 acc.length c6, .slice (some ⟨w4.heap.size, 0, none⟩) 1 1]).run Try.prog (w4.alloc (.cells #[.int .i64 ((st.1 i).getD 0)] 3)) = .ok v7 w7 ∧
        w7.heap[g]? = some (.cells #[.slice An near.length cn, .map (some bs), .map (some bf), .slice none 0 0] 91 (0, 0)) ∧ MapAt w7 Try.prog 3 bs ms' (encO st.1) ∧ MapAt w7 Try.prog 3 bf mf' (encO st.2.1) ∧ ((ms' : Int) ≤ 2000 * (i + 1) ∧ (mf' : Int) ≤ 2000 * (i + 1)) ∧
        Kd.R (Kd.int .i64) 3 w7 w2.heap.size (fun k => k ≠ bs ∧ k ≠ bf ∧ k ≠ g) v7 (acc ++ [(st.1 i).getD 0]) ∧ (Below w2.heap.size w2 w7 ∧ w3.heap.size ≤ w7.heap.size) from by
      have hr4 := HRC.out w4 q6
      have hz4 : w3.heap.size ≤ w4.heap.size := by have := q6.1; omega
      obtain ⟨v7, w7, hrun, ho7, hB7, hgr7, _⟩ := append_one (Kd.int .i64) (P := Try.prog) (w0 := w2) (W := w4) w2.heap.size 22 22 3 (.int .i64 0) 8 Try.underlying22 info3 rfl (by decide) (by omega) (v := .slice A6 acc.length c6) (xs := acc) ((st.1 i).getD 0) [.int .i64 ((st.1 i).getD 0)] (ok := fun k => k ≠ bs ∧ k ≠ bf ∧ k ≠ g) (fun _ => False) rfl (fun _ h => h.elim) (fun k hk => by omega) hr4 q7 q7.size (by omega)
      have hne : some g ≠ (Value.slice A6 acc.length c6).ownBlock := Kd.R_ne hr4 q3 (by decide)
      have hob : ∀ b : Nat, b = bs ∨ b = bf → some b ≠ (Value.slice A6 acc.length c6).ownBlock := fun b hb he => by
       have := hr4.1 b he.symm
       omega
      exact ⟨(blk_cell q3 1).trans rfl, stacks_look q4 i0 hi1000, v7, w7, hrun, blk_grown q3 hgr7 hne, q4.kept hgr7 (hob bs (.inl rfl)), q5.kept hgr7 (hob bf (.inr rfl)), by omega, ho7, hB7, by have := hgr7.size; omega⟩)
     have HGG := Aside0.mk (show stacksGo (slices_Reverse_int_int.f k) near m (i + 1) st.1 st.2.1 (acc ++ [(st.1 i).getD 0]) = some (p1, p2) from hgo)
     have HI3 := Aside0.mk (show 0 ≤ i + 1 ∧ i + 1 + m = l0.length ∧ (acc ++ [(st.1 i).getD 0]).length ≤ 1000 - m by simp; omega)
     clear hgo hv hclo hmi hsd c1 i1 i2 HI HG hm hl60 hbz jx1 jx2 jx3 jx4 hacc hidx
     go_wp2_with (first | (at_builtin; go_must (refine wpList_appendRun _ rfl _ _ _ rfl HRUN.out rfl rfl rfl ?_)) | (go_at_call 75; go_must ((with_reducible refine HVI.out.mono ?_); rintro e w4 ⟨rfl, hA, _, hB4⟩; obtain ⟨ms', mf', q1, q2, q3, q4, q5, q6⟩ := hA rfl; obtain ⟨hg4, hlk4, v7, w7, hrun, f1, f2, f3, f4, f5, f6⟩ := HNX.out w4 ms' mf' q1 q2 q3 q4 q5 q6 hB4; have HRUN := Aside0.mk hrun; have F1 := Aside0.mk f1; have F2 := Aside0.mk f2; have F3 := Aside0.mk f3; have F4 := Aside0.mk f4; have F5 := Aside0.mk f5; have F6 := Aside0.mk f6; clear hA hB4 q1 q2 q3 q4 q5 q6 hrun f1 f2 f3 f4 f5 f6)))
     go_roundg m
     case measure => exact HI2.out.2.2
     case rel => exact ⟨i + 1, st.1, st.2.1, acc ++ [(st.1 i).getD 0], ms', mf', by go_num, HI3, HGG, F1, F2, F3, F4, F5, F6⟩

mutual
def shunt_Conflicts.l0 : Nat → List (S65) → List (List Int) → Int → Int → Option ((List (S65)) × Int)
 | 0, _, _, _, _ => none
 | k + 1, x4, x13, x14, x15 => if x15 < x14 then (if 0 ≤ x15 then (if x15 < (x13.length : Int) then (shunt_Conflicts.l1 k x4 x15 x13 x14 x15 (rd_L1 x13 x15) ((rd_L1 x13 x15).length : Int) 0) else (none)) else (none)) else (some (x4, 0))
def shunt_Conflicts.l1 : Nat → List (S65) → Int → List (List Int) → Int → Int → List Int → Int → Int → Option ((List (S65)) × Int)
 | 0, _, _, _, _, _, _, _, _ => none
 | k + 1, x4, x5, x13, x14, x15, x20, x21, x22 => if x22 < x21 then (if 0 ≤ x22 then (if x22 < (x20.length : Int) then (if x5 < (rd x20 x22) then (if x4.length < 8796093022208 then (shunt_Conflicts.l1 k (x4 ++ [(⟨x5, rd x20 x22⟩ : S65)]) x5 x13 x14 x15 x20 x21 (wrap64 (x22 + 1))) else (none)) else (shunt_Conflicts.l1 k x4 x5 x13 x14 x15 x20 x21 (wrap64 (x22 + 1)))) else (none)) else (none)) else (shunt_Conflicts.l0 k x4 x13 x14 (wrap64 (x15 + 1)))
end
def shunt_Conflicts.f (k : Nat) (l0 : List Int) : Option ((List (S65)) × Int) := (shunt_isOrder.f l0).bind fun t647 => (if t647 = true then ((shunt_conflicts.f k l0).bind fun t648 => (shunt_Conflicts.l0 k ([] : List (S65)) t648 (t648.length : Int) 0)) else (some (([] : List (S65)), 2)))
set_option maxHeartbeats 8000000 in
set_option maxRecDepth 100000 in
theorem shunt_Conflicts.calls (k : Nat) (A0 : Option Addr) (c0 : Nat) (l0 : List Int) (r1 : List (S65)) (r2 : Int) (w : World) (hr0 : Kd.C (Kd.int .i64) w A0 l0.length l0) (hc0 : l0.length ≤ c0) (h : shunt_Conflicts.f k l0 = some (r1, r2)) :
  Calls Try.prog 49 #[.slice A0 l0.length c0] w fun e w' => ∃ v0_ : Value, e = .returned (.tuple #[v0_, .int .i64 r2]) ∧ Kd.R k65 65 w' w.heap.size (fun _ => True) v0_ r1 ∧ Below w.heap.size w w' := by
 have hu65 := Try.underlying65
 have HR0 := Aside0.mk hr0
 have HC0 := Aside0.mk hc0
 clear hr0 hc0
 have HB := Aside0.mk (Below.refl w.heap.size w)
 have H : ((shunt_isOrder.f l0).bind fun t647 => (if t647 = true then ((shunt_conflicts.f k l0).bind fun t648 => (shunt_Conflicts.l0 k ([] : List (S65)) t648 (t648.length : Int) 0)) else (some (([] : List (S65)), 2)))) = some (r1, r2) := h
 clear h
 replace H := Option.bind_eq_some_iff.mp H
 obtain ⟨t647, A20, H⟩ := H
 replace H : (if t647 = true then ((shunt_conflicts.f k l0).bind fun t648 => (shunt_Conflicts.l0 k ([] : List (S65)) t648 (t648.length : Int) 0)) else (some (([] : List (S65)), 2))) = some (r1, r2) := H
 have A2 := Aside0.mk A20
 clear A20
 by_cases c3 : t647 = true
 ·subst c3
  have H1 : ((shunt_conflicts.f k l0).bind fun t648 => (shunt_Conflicts.l0 k ([] : List (S65)) t648 (t648.length : Int) 0)) = some (r1, r2) := by rw [if_pos rfl] at H; exact H
  clear H
  have H := H1
  clear H1
  replace H := Option.bind_eq_some_iff.mp H
  obtain ⟨t648, A40, H⟩ := H
  replace H : (shunt_Conflicts.l0 k ([] : List (S65)) t648 (t648.length : Int) 0) = some (r1, r2) := H
  have A4 := Aside0.mk A40
  clear A40
  have H' := Aside0.mk H
  clear H
  go_enter Try.func49, Try.ntmps49
  go_wp2_with (first | ((with_reducible refine gate_callee (f := 52) rfl ?_); refine goesL_ (some 10) rfl rfl Try.func52 (by kernel_rfl) rfl #[.slice A0 l0.length c0] rfl (by (try simp only [List.map_toArray, List.map_cons, List.map_nil]); first | done | rfl | (simp only [List.length_drop, List.length_take]; rfl)) ?_; (with_reducible refine (shunt_isOrder.calls _ _ l0 true _ ?side1 ?side2 A2.out).mono ?_); (case side1 => repeat (first | exact HR0.out | (with_reducible refine Kd.C_alloc ?_ _) | (with_reducible refine Kd.C_drewN ?_ _) | (with_reducible refine Kd.C_drew ?_))); (case side2 => exact HC0.out); rintro e w5 ⟨rfl, hb⟩; refine ⟨_, rfl, ?_⟩; have n0_ := Aside0.mk (below_step (by repeat (first | (with_reducible first | exact HB.out | apply below_alloc | apply pw_below_drewN | apply below_drew1) | exact HB.out)) hb); clear HB; have HB := n0_; clear n0_; (try clear hb); (try clear hb2); (try clear hk); (try clear hi)) | ((with_reducible refine gate_callee (f := 74) rfl ?_); refine goesL_ (some 13) rfl rfl Try.func74 (by kernel_rfl) rfl #[.slice A0 l0.length c0] rfl (by (try simp only [List.map_toArray, List.map_cons, List.map_nil]); first | done | rfl | (simp only [List.length_drop, List.length_take]; rfl)) ?_; (with_reducible refine (shunt_conflicts.calls k _ _ l0 t648 _ ?side1 ?side2 A4.out).mono ?_); (case side1 => repeat (first | exact (Kd.C_below HR0.out HB.out) | (with_reducible refine Kd.C_alloc ?_ _) | (with_reducible refine Kd.C_drewN ?_ _) | (with_reducible refine Kd.C_drew ?_))); (case side2 => exact HC0.out); rintro e w6 ⟨v649, rfl, ho0, hb⟩; refine ⟨_, rfl, ?_⟩; have n0_ := Aside0.mk (Kd.S_lower ho0 (below_size (by repeat (first | (with_reducible first | exact HB.out | apply below_alloc | apply pw_below_drewN | apply below_drew1) | exact HB.out)))); have n1_ := Aside0.mk (below_step (by repeat (first | (with_reducible first | exact HB.out | apply below_alloc | apply pw_below_drewN | apply below_drew1) | exact HB.out)) hb); clear HB; have HO650 := n0_; have HB := n1_; clear n0_ n1_; (try clear hb); (try clear hb2); (try clear hk); (try clear hi); (try clear ho0); obtain ⟨Ao7, co7, eo7⟩ := Kd.S_slice HO650.out; subst eo7))
  go_loopg [4, 15] k (fun kq v4 v15 w' => ∃ (x4_1 : List (S65)) (x15_1 : Int), v15 = .int .i64 x15_1 ∧ Aside0 (shunt_Conflicts.l0 kq x4_1 t648 (t648.length : Int) x15_1 = some (r1, r2)) ∧ Aside0 (kq ≤ k) ∧ Aside0 (Kd.R k65 65 w' w.heap.size (fun _ => True) v4 x4_1) ∧ Aside0 (Kd.S (Kd.slice 3 (Kd.int .i64)) 22 w' w.heap.size (fun _ => True) (.slice Ao7 t648.length co7) t648) ∧ Aside0 (Below w.heap.size w w'))
  case atStart => exact ⟨(([] : List (S65))), (0), (by first | rfl | (simp; done) | (simp [*]; done)), H', ⟨Nat.le_refl _⟩, ⟨by first | exact Kd.R_nil _ _ _ _ _ | exact Kd.N_nil _ _ _ _ _ | exact Kd.V_nil _ _ _ _ _ | exact Kd.Q_nil _ _ _ _ _ | exact Kd.S_nil _ _ _ _ _⟩, ⟨by (with_reducible repeat (first | apply Kd.S_alloc | apply Kd.S_drewN | apply Kd.S_drew)); exact HO650.out⟩, ⟨by repeat (first | (with_reducible first | exact HB.out | apply below_alloc | apply pw_below_drewN | apply below_drew1) | exact HB.out)⟩⟩
  case round =>
   clear H'
   try clear p2
   try clear c3
   try clear c4
   try clear c5
   try clear c7
   obtain ⟨x4_1, x15_1, rfl, HA, HK1, HO_4, HO_13, HB⟩ := hrel
   cases gk with
   | zero => exact absurd HA.out (by simp [shunt_Conflicts.l0])
   | succ k1 =>
    have H := HA.out
    clear HA
    simp only [shunt_Conflicts.l0] at H
    by_cases c8 : x15_1 < (t648.length : Int)
    ·rw [if_pos c8] at H
     have c8b0 : decide (x15_1 < (t648.length : Int)) = true := decide_eq_true c8
     clear c8
     by_cases c9 : 0 ≤ x15_1
     ·rw [if_pos c9] at H
      have c9b0 : decide (0 ≤ x15_1) = true := decide_eq_true c9
      clear c9
      by_cases c10 : x15_1 < (t648.length : Int)
      ·rw [if_pos c10] at H
       have c10b0 : decide (x15_1 < (t648.length : Int)) = true := decide_eq_true c10
       clear c10
       have H' := Aside0.mk H
       clear H
       have p651 : 0 ≤ (x15_1 : Int) := of_decide_eq_true (by first | (with_reducible assumption) | assumption)
       have q651 : x15_1 < (t648.length : Int) := of_decide_eq_true (by first | (with_reducible assumption) | assumption)
       obtain ⟨ad651, A651_0, c651_0, e651, hx651_0, hl651_0, hi651_0⟩ := at_L1 (Kd.S_reads' HO_13.out).2.2 x15_1 p651 q651
       cases e651
       obtain ⟨ce651, hce651, hMe651, hcc651⟩ := Kd.S_get HO_13.out [] x15_1 p651 (by first | exact q651 | exact of_decide_eq_true (by first | (with_reducible assumption) | assumption) | (have e_ := (Kd.S_reads' HO_13.out).1; omega))
       obtain ⟨ve651_0, rfl, ge651_0⟩ := hMe651
       have hv651_0 := hcc651 0 _ rfl
       rw [Nat.add_zero, show ((Kd.slice 3 (Kd.int .i64))).sz = 1 from rfl, Nat.mul_one] at hv651_0
       replace hv651_0 := Option.some.inj (hv651_0.symm.trans hx651_0)
       rw [hv651_0] at ge651_0
       have HL651_0 := Aside0.mk (show Kd.R (Kd.int .i64) 3 _ _ _ _ (rd_L1 t648 x15_1) from ge651_0)
       clear hv651_0 ge651_0
       clear hcc651 hce651
       have HR651_0 := Aside0.mk hi651_0; have HRW := Aside0.mk (Kd.R_mono HL651_0.out (fun _ _ => trivial) : Kd.R (Kd.int .i64) 3 wr w.heap.size (fun _ => True) (.slice A651_0 (rd_L1 t648 x15_1).length c651_0) (rd_L1 t648 x15_1))
       have HC651_0 := Aside0.mk hl651_0
       clear hi651_0 hl651_0
       replace p651 := eq_true p651
       replace q651 := eq_true q651
       go_wp2
       go_loopg [4, 22] k1 (fun kq v4 v22 w' => ∃ (x4_2 : List (S65)) (x22_2 : Int), v22 = .int .i64 x22_2 ∧ Aside0 (shunt_Conflicts.l1 kq x4_2 x15_1 t648 (t648.length : Int) x15_1 (rd_L1 t648 x15_1) ((rd_L1 t648 x15_1).length : Int) x22_2 = some (r1, r2)) ∧ Aside0 (kq ≤ k1) ∧ Aside0 (Kd.R k65 65 w' w.heap.size (fun _ => True) v4 x4_2) ∧ Aside0 (Kd.S (Kd.slice 3 (Kd.int .i64)) 22 w' w.heap.size (fun _ => True) (.slice (some ad651) t648.length co7) t648) ∧ Aside0 (Kd.R (Kd.int .i64) 3 w' w.heap.size (fun _ => True) (.slice A651_0 (rd_L1 t648 x15_1).length c651_0) (rd_L1 t648 x15_1)) ∧ Aside0 (Below w.heap.size w w'))
       case atStart => exact ⟨(x4_1), (0), (by first | rfl | (simp; done) | (simp [*]; done)), H', ⟨Nat.le_refl _⟩, ⟨by (with_reducible repeat (first | apply Kd.R_alloc | apply Kd.R_drewN | apply Kd.R_drew)); exact HO_4.out⟩, ⟨by (with_reducible repeat (first | apply Kd.S_alloc | apply Kd.S_drewN | apply Kd.S_drew)); exact HO_13.out⟩, ⟨by (with_reducible repeat (first | apply Kd.R_alloc | apply Kd.R_drewN | apply Kd.R_drew)); exact HRW.out⟩, ⟨by repeat (first | (with_reducible first | exact HB.out | apply below_alloc | apply pw_below_drewN | apply below_drew1) | exact HB.out)⟩⟩
       case round =>
        clear H'
        try clear c1
        try clear p2
        try clear c3
        try clear c4
        try clear c5
        try clear c6
        try clear p6
        try clear q6
        try clear hx6
        try clear c7
        try clear c8
        try clear c8b0
        try clear c9
        try clear c9b0
        try clear c10
        try clear c10b0
        try clear hx651_0
        try clear p2
        try clear p651
        try clear q651
        clear HRW; obtain ⟨x4_2, x22_2, rfl, HA, HK2, HO_4, HO_13, HRW, HB⟩ := hrel
        cases gk with
        | zero => exact absurd HA.out (by simp [shunt_Conflicts.l1])
        | succ k2 =>
         have H := HA.out
         clear HA
         simp only [shunt_Conflicts.l1] at H
         by_cases c11 : x22_2 < ((rd_L1 t648 x15_1).length : Int)
         ·rw [if_pos c11] at H
          have c11b0 : decide (x22_2 < ((rd_L1 t648 x15_1).length : Int)) = true := decide_eq_true c11
          clear c11
          by_cases c12 : 0 ≤ x22_2
          ·rw [if_pos c12] at H
           have c12b0 : decide (0 ≤ x22_2) = true := decide_eq_true c12
           clear c12
           by_cases c13 : x22_2 < ((rd_L1 t648 x15_1).length : Int)
           ·rw [if_pos c13] at H
            have c13b0 : decide (x22_2 < ((rd_L1 t648 x15_1).length : Int)) = true := decide_eq_true c13
            clear c13
            by_cases c14 : x15_1 < (rd (rd_L1 t648 x15_1) x22_2)
            ·rw [if_pos c14] at H
             have c14b0 : decide (x15_1 < (rd (rd_L1 t648 x15_1) x22_2)) = true := decide_eq_true c14
             clear c14
             by_cases c15 : x4_2.length < 8796093022208
             ·rw [if_pos c15] at H
              have LMc15 := Aside0.mk c15
              clear c15
              obtain ⟨y653, hy653⟩ : ∃ y_ : List (S65), y_ = (x4_2 ++ [(⟨x15_1, rd (rd_L1 t648 x15_1) x22_2⟩ : S65)]) := ⟨_, rfl⟩
              replace H : (shunt_Conflicts.l1 k2 y653 x15_1 t648 (t648.length : Int) x15_1 (rd_L1 t648 x15_1) ((rd_L1 t648 x15_1).length : Int) (wrap64 (x22_2 + 1))) = some (r1, r2) := by first | (rw [hy653]; with_reducible exact H) | (have H2_ := (Option.bind_some _ _).symm.trans H; rw [hy653]; with_reducible exact H2_) | (have H2_ := (Option.bind_some _ _).symm.trans H; with_reducible exact H2_) | with_reducible exact H | (rw [hy653]; exact H) | exact H
              have Ny653 := Aside0.mk hy653
              clear hy653
              have H' := Aside0.mk H
              clear H
              have p652 : 0 ≤ (x22_2 : Int) := of_decide_eq_true (by first | (with_reducible assumption) | assumption)
              have q652 : x22_2 < ((rd_L1 t648 x15_1).length : Int) := of_decide_eq_true (by first | (with_reducible assumption) | assumption)
              obtain ⟨ad652, e652, hx652_0⟩ := Kd.at_int (Kd.R_reads' HRW.out).2.2 x22_2 p652 q652
              cases e652
              replace p652 := eq_true p652
              replace q652 := eq_true q652
              go_wp2_with (first | ((with_reducible refine gate_builtin (b := .append) (xs := #[.tmp 29, .tmp 33]) rfl ?_); at_builtin; refine Kd.R_append k65 (w0 := w) w.heap.size rfl (.tmp 29) (.tmp 33) 61 65 (.agg #[(.int .i64 0), (.int .i64 0)]) 16 rfl Try.underlying61 info65 rfl (by decide) (by omega) u4 x4_2 (⟨x15_1, rd (rd_L1 t648 x15_1) x22_2⟩ : S65) [.int .i64 x15_1, .int .i64 (rd (rd_L1 t648 x15_1) x22_2)] (fun _ => True) (fun _ => False) rfl rfl ?aP (fun _ hk => hk.elim) ?aF ?aO ?aB ?aS ?aL ?_; (case aP => exact k65_mkM _ _ _ (⟨x15_1, rd (rd_L1 t648 x15_1) x22_2⟩ : S65)); (case aB => exact (by repeat (first | (with_reducible first | exact HB.out | apply below_alloc | apply pw_below_drewN | apply below_drew1) | exact HB.out))); (case aF => exact (fun _ _ => trivial)); (case aO => exact (by (with_reducible repeat (first | apply Kd.R_alloc | apply Kd.R_drewN | apply Kd.R_drew)); exact HO_4.out)); (case aS => exact (below_size (by repeat (first | (with_reducible first | exact HB.out | apply below_alloc | apply pw_below_drewN | apply below_drew1) | exact HB.out)))); (case aL => have := LMc15.out; omega); intro v654 w16 ho hb hg hat; rw [← Ny653.out] at ho; have n0_ := Aside0.mk (Kd.S_over' (by (with_reducible repeat (first | apply Kd.S_alloc | apply Kd.S_drewN | apply Kd.S_drew)); exact HO_13.out) (Kd.R_typed (by (with_reducible repeat (first | apply Kd.R_alloc | apply Kd.R_drewN | apply Kd.R_drew)); exact HO_4.out)) (by decide) hg); have n3_ := Aside0.mk (Kd.R_over' (by (with_reducible repeat (first | apply Kd.R_alloc | apply Kd.R_drewN | apply Kd.R_drew)); exact HRW.out) (Kd.R_typed (by (with_reducible repeat (first | apply Kd.R_alloc | apply Kd.R_drewN | apply Kd.R_drew)); exact HO_4.out)) (by decide) hg); clear HRW; have HRW := n3_; clear n3_; have n1_ := Aside0.mk (hb); have n2_ := Aside0.mk (ho); clear HO_13; clear HB; clear HO_4; have HO_13 := n0_; have HB := n1_; have HO655 := n2_; clear n0_ n1_ n2_; clear ho hb hg hat))
              go_roundg k2
              case measure => have := HK1.out; have := HK2.out; omega
              case rel => exact ⟨(y653), (wrap64 (x22_2 + 1)), (by first | rfl | (simp; done) | (simp [*]; done)), H', ⟨by have := HK1.out; have := HK2.out; omega⟩, ⟨by (with_reducible repeat (first | apply Kd.R_alloc | apply Kd.R_drewN | apply Kd.R_drew)); exact HO655.out⟩, ⟨by (with_reducible repeat (first | apply Kd.S_alloc | apply Kd.S_drewN | apply Kd.S_drew)); exact HO_13.out⟩, ⟨by (with_reducible repeat (first | apply Kd.R_alloc | apply Kd.R_drewN | apply Kd.R_drew)); exact HRW.out⟩, ⟨by repeat (first | (with_reducible first | exact HB.out | apply below_alloc | apply pw_below_drewN | apply below_drew1) | exact HB.out)⟩⟩
             ·rw [if_neg c15] at H
              exact absurd H (by simp)
            ·rw [if_neg c14] at H
             have c14b0 : decide (x15_1 < (rd (rd_L1 t648 x15_1) x22_2)) = false := decide_eq_false c14
             clear c14
             have H' := Aside0.mk H
             clear H
             have p652 : 0 ≤ (x22_2 : Int) := of_decide_eq_true (by first | (with_reducible assumption) | assumption)
             have q652 : x22_2 < ((rd_L1 t648 x15_1).length : Int) := of_decide_eq_true (by first | (with_reducible assumption) | assumption)
             obtain ⟨ad652, e652, hx652_0⟩ := Kd.at_int (Kd.R_reads' HRW.out).2.2 x22_2 p652 q652
             cases e652
             replace p652 := eq_true p652
             replace q652 := eq_true q652
             go_wp2
             go_roundg k2
             case measure => have := HK1.out; have := HK2.out; omega
             case rel => exact ⟨(x4_2), (wrap64 (x22_2 + 1)), (by first | rfl | (simp; done) | (simp [*]; done)), H', ⟨by have := HK1.out; have := HK2.out; omega⟩, ⟨by (with_reducible repeat (first | apply Kd.R_alloc | apply Kd.R_drewN | apply Kd.R_drew)); exact HO_4.out⟩, ⟨by (with_reducible repeat (first | apply Kd.S_alloc | apply Kd.S_drewN | apply Kd.S_drew)); exact HO_13.out⟩, ⟨by (with_reducible repeat (first | apply Kd.R_alloc | apply Kd.R_drewN | apply Kd.R_drew)); exact HRW.out⟩, ⟨by repeat (first | (with_reducible first | exact HB.out | apply below_alloc | apply pw_below_drewN | apply below_drew1) | exact HB.out)⟩⟩
           ·rw [if_neg c13] at H
            exact absurd H (by simp)
          ·rw [if_neg c12] at H
           exact absurd H (by simp)
         ·rw [if_neg c11] at H
          have c11b0 : decide (x22_2 < ((rd_L1 t648 x15_1).length : Int)) = false := decide_eq_false c11
          clear c11
          have H' := Aside0.mk H
          clear H
          go_wp2
          go_roundg k2
          case measure => have := HK1.out; have := HK2.out; omega
          case rel => exact ⟨(x4_2), (wrap64 (x15_1 + 1)), (by first | rfl | (simp; done) | (simp [*]; done)), H', ⟨by have := HK1.out; have := HK2.out; omega⟩, ⟨by (with_reducible repeat (first | apply Kd.R_alloc | apply Kd.R_drewN | apply Kd.R_drew)); exact HO_4.out⟩, ⟨by (with_reducible repeat (first | apply Kd.S_alloc | apply Kd.S_drewN | apply Kd.S_drew)); exact HO_13.out⟩, ⟨by repeat (first | (with_reducible first | exact HB.out | apply below_alloc | apply pw_below_drewN | apply below_drew1) | exact HB.out)⟩⟩
      ·rw [if_neg c10] at H
       exact absurd H (by simp)
     ·rw [if_neg c9] at H
      exact absurd H (by simp)
    ·rw [if_neg c8] at H
     have c8b0 : decide (x15_1 < (t648.length : Int)) = false := decide_eq_false c8
     clear c8
     simp only [Option.some.injEq, Prod.mk.injEq] at H
     obtain ⟨rfl, rfl⟩ := H
     go_wp2
     go_ret2
     exact ⟨_, by first | rfl | (simp [errW_none, errW_some] <;> rfl) | (simp [*, errW_none, errW_some] <;> rfl), by (with_reducible repeat (first | apply Kd.R_alloc | apply Kd.R_drewN | apply Kd.R_drew)); exact HO_4.out, by repeat (first | (with_reducible first | exact HB.out | apply below_alloc | apply pw_below_drewN | apply below_drew1) | exact HB.out)⟩
 ·replace c3 := Bool.eq_false_iff.mpr c3
  subst c3
  have H1 : (some (([] : List (S65)), 2)) = some (r1, r2) := by rw [if_neg (show ¬ (false = true) by decide)] at H; exact H
  clear H
  have H := H1
  clear H1
  simp only [Option.some.injEq, Prod.mk.injEq] at H
  obtain ⟨rfl, rfl⟩ := H
  go_enter Try.func49, Try.ntmps49
  go_wp2_with (first | ((with_reducible refine gate_callee (f := 52) rfl ?_); refine goesL_ (some 10) rfl rfl Try.func52 (by kernel_rfl) rfl #[.slice A0 l0.length c0] rfl (by (try simp only [List.map_toArray, List.map_cons, List.map_nil]); first | done | rfl | (simp only [List.length_drop, List.length_take]; rfl)) ?_; (with_reducible refine (shunt_isOrder.calls _ _ l0 false _ ?side1 ?side2 A2.out).mono ?_); (case side1 => repeat (first | exact HR0.out | (with_reducible refine Kd.C_alloc ?_ _) | (with_reducible refine Kd.C_drewN ?_ _) | (with_reducible refine Kd.C_drew ?_))); (case side2 => exact HC0.out); rintro e w17 ⟨rfl, hb⟩; refine ⟨_, rfl, ?_⟩; have n0_ := Aside0.mk (below_step (by repeat (first | (with_reducible first | exact HB.out | apply below_alloc | apply pw_below_drewN | apply below_drew1) | exact HB.out)) hb); clear HB; have HB := n0_; clear n0_; (try clear hb); (try clear hb2); (try clear hk); (try clear hi)))
  go_ret2
  exact ⟨_, by first | rfl | (simp [errW_none, errW_some] <;> rfl) | (simp [*, errW_none, errW_some] <;> rfl), by first | exact Kd.R_nil _ _ _ _ _ | exact Kd.N_nil _ _ _ _ _ | exact Kd.V_nil _ _ _ _ _ | exact Kd.Q_nil _ _ _ _ _ | exact Kd.S_nil _ _ _ _ _, by repeat (first | (with_reducible first | exact HB.out | apply below_alloc | apply pw_below_drewN | apply below_drew1) | exact HB.out)⟩

mutual
def tickingref02_Conflicts.l0 : Nat → List Int → List (S65) → Int → Option ((List (S65)))
 | 0, _, _, _ => none
 | k + 1, x0, x3, x4 => if x4 < (x0.length : Int) then (tickingref02_Conflicts.l1 k x0 x3 x4 (wrap64 (x4 + 1))) else (some x3)
def tickingref02_Conflicts.l1 : Nat → List Int → List (S65) → Int → Int → Option ((List (S65)))
 | 0, _, _, _, _ => none
 | k + 1, x0, x3, x4, x5 => if x5 < (x0.length : Int) then ((tickingref02_Conflict.f k x0 x4 x5).bind fun t656 => (if t656 = true then (if x3.length < 8796093022208 then (tickingref02_Conflicts.l1 k x0 (x3 ++ [(⟨x4, x5⟩ : S65)]) x4 (wrap64 (x5 + 1))) else (none)) else (tickingref02_Conflicts.l1 k x0 x3 x4 (wrap64 (x5 + 1))))) else (tickingref02_Conflicts.l0 k x0 x3 (wrap64 (x4 + 1)))
end
def tickingref02_Conflicts.f (k : Nat) (l0 : List Int) : Option ((List (S65))) := tickingref02_Conflicts.l0 k l0 ([] : List (S65)) 0
set_option maxHeartbeats 8000000 in
set_option maxRecDepth 100000 in
theorem tickingref02_Conflicts.calls (k : Nat) (A0 : Option Addr) (c0 : Nat) (l0 : List Int) (r : List (S65)) (w : World) (hr0 : Kd.C (Kd.int .i64) w A0 l0.length l0) (hc0 : l0.length ≤ c0) (h : tickingref02_Conflicts.f k l0 = some r) :
  Calls Try.prog 50 #[.slice A0 l0.length c0] w fun e w' => ∃ v0_ : Value, e = .returned (v0_) ∧ Kd.R k65 65 w' w.heap.size (fun _ => True) v0_ r ∧ Below w.heap.size w w' := by
 have hu65 := Try.underlying65
 have HR0 := Aside0.mk hr0
 have HC0 := Aside0.mk hc0
 clear hr0 hc0
 have HB := Aside0.mk (Below.refl w.heap.size w)
 have H : (tickingref02_Conflicts.l0 k l0 ([] : List (S65)) 0) = some r := h
 clear h
 have H' := Aside0.mk H
 clear H
 go_enter Try.func50, Try.ntmps50
 go_wp2
 go_loopg [3, 4] k (fun kq v3 v4 w' => ∃ (x3_1 : List (S65)) (x4_1 : Int), v4 = .int .i64 x4_1 ∧ Aside0 (tickingref02_Conflicts.l0 kq l0 x3_1 x4_1 = some r) ∧ Aside0 (kq ≤ k) ∧ Aside0 (Kd.R k65 65 w' w.heap.size (fun _ => True) v3 x3_1) ∧ Aside0 (Below w.heap.size w w'))
 case atStart => exact ⟨(([] : List (S65))), (0), (by first | rfl | (simp; done) | (simp [*]; done)), H', ⟨Nat.le_refl _⟩, ⟨by first | exact Kd.R_nil _ _ _ _ _ | exact Kd.N_nil _ _ _ _ _ | exact Kd.V_nil _ _ _ _ _ | exact Kd.Q_nil _ _ _ _ _ | exact Kd.S_nil _ _ _ _ _⟩, ⟨by repeat (first | (with_reducible first | exact HB.out | apply below_alloc | apply pw_below_drewN | apply below_drew1) | exact HB.out)⟩⟩
 case round =>
  clear H'
  obtain ⟨x3_1, x4_1, rfl, HA, HK1, HO_3, HB⟩ := hrel
  cases gk with
  | zero => exact absurd HA.out (by simp [tickingref02_Conflicts.l0])
  | succ k1 =>
   have H := HA.out
   clear HA
   simp only [tickingref02_Conflicts.l0] at H
   by_cases c2 : x4_1 < (l0.length : Int)
   ·rw [if_pos c2] at H
    have c2b0 : decide (x4_1 < (l0.length : Int)) = true := decide_eq_true c2
    clear c2
    have H' := Aside0.mk H
    clear H
    go_wp2
    go_loopg [3, 5] k1 (fun kq v3 v5 w' => ∃ (x3_2 : List (S65)) (x5_2 : Int), v5 = .int .i64 x5_2 ∧ Aside0 (tickingref02_Conflicts.l1 kq l0 x3_2 x4_1 x5_2 = some r) ∧ Aside0 (kq ≤ k1) ∧ Aside0 (Kd.R k65 65 w' w.heap.size (fun _ => True) v3 x3_2) ∧ Aside0 (Below w.heap.size w w'))
    case atStart => exact ⟨(x3_1), (wrap64 (x4_1 + 1)), (by first | rfl | (simp; done) | (simp [*]; done)), H', ⟨Nat.le_refl _⟩, ⟨by (with_reducible repeat (first | apply Kd.R_alloc | apply Kd.R_drewN | apply Kd.R_drew)); exact HO_3.out⟩, ⟨by repeat (first | (with_reducible first | exact HB.out | apply below_alloc | apply pw_below_drewN | apply below_drew1) | exact HB.out)⟩⟩
    case round =>
     clear H'
     try clear c2
     try clear c2b0
     try clear p2
     obtain ⟨x3_2, x5_2, rfl, HA, HK2, HO_3, HB⟩ := hrel
     cases gk with
     | zero => exact absurd HA.out (by simp [tickingref02_Conflicts.l1])
     | succ k2 =>
      have H := HA.out
      clear HA
      simp only [tickingref02_Conflicts.l1] at H
      by_cases c3 : x5_2 < (l0.length : Int)
      ·rw [if_pos c3] at H
       have c3b0 : decide (x5_2 < (l0.length : Int)) = true := decide_eq_true c3
       clear c3
       replace H := Option.bind_eq_some_iff.mp H
       obtain ⟨t656, A40, H⟩ := H
       replace H : (if t656 = true then (if x3_2.length < 8796093022208 then (tickingref02_Conflicts.l1 k2 l0 (x3_2 ++ [(⟨x4_1, x5_2⟩ : S65)]) x4_1 (wrap64 (x5_2 + 1))) else (none)) else (tickingref02_Conflicts.l1 k2 l0 x3_2 x4_1 (wrap64 (x5_2 + 1)))) = some r := H
       have A4 := Aside0.mk A40
       clear A40
       by_cases c5 : t656 = true
       ·subst c5
        have H1 : (if x3_2.length < 8796093022208 then (tickingref02_Conflicts.l1 k2 l0 (x3_2 ++ [(⟨x4_1, x5_2⟩ : S65)]) x4_1 (wrap64 (x5_2 + 1))) else (none)) = some r := by rw [if_pos rfl] at H; exact H
        clear H
        have H := H1
        clear H1
        by_cases c6 : x3_2.length < 8796093022208
        ·rw [if_pos c6] at H
         have LMc6 := Aside0.mk c6
         clear c6
         obtain ⟨y657, hy657⟩ : ∃ y_ : List (S65), y_ = (x3_2 ++ [(⟨x4_1, x5_2⟩ : S65)]) := ⟨_, rfl⟩
         replace H : (tickingref02_Conflicts.l1 k2 l0 y657 x4_1 (wrap64 (x5_2 + 1))) = some r := by first | (rw [hy657]; with_reducible exact H) | (have H2_ := (Option.bind_some _ _).symm.trans H; rw [hy657]; with_reducible exact H2_) | (have H2_ := (Option.bind_some _ _).symm.trans H; with_reducible exact H2_) | with_reducible exact H | (rw [hy657]; exact H) | exact H
         have Ny657 := Aside0.mk hy657
         clear hy657
         have H' := Aside0.mk H
         clear H
         go_wp2_with (first | ((with_reducible refine gate_callee (f := 73) rfl ?_); refine goesL_ (some 23) rfl rfl Try.func73 (by kernel_rfl) rfl #[.slice A0 l0.length c0, .int .i64 x4_1, .int .i64 x5_2] rfl (by (try simp only [List.map_toArray, List.map_cons, List.map_nil]); first | done | rfl | (simp only [List.length_drop, List.length_take]; rfl)) ?_; (with_reducible refine (tickingref02_Conflict.calls k2 _ _ l0 x4_1 x5_2 true _ ?side1 ?side2 A4.out).mono ?_); (case side1 => repeat (first | exact (Kd.C_below HR0.out HB.out) | (with_reducible refine Kd.C_alloc ?_ _) | (with_reducible refine Kd.C_drewN ?_ _) | (with_reducible refine Kd.C_drew ?_))); (case side2 => exact HC0.out); rintro e w' ⟨rfl, ⟨nd, rfl⟩⟩; refine ⟨_, rfl, ?_⟩) | ((with_reducible refine gate_builtin (b := .append) (xs := #[.tmp 24, .tmp 28]) rfl ?_); at_builtin; refine Kd.R_append k65 (w0 := w) w.heap.size rfl (.tmp 24) (.tmp 28) 61 65 (.agg #[(.int .i64 0), (.int .i64 0)]) 16 rfl Try.underlying61 info65 rfl (by decide) (by omega) u3 x3_2 (⟨x4_1, x5_2⟩ : S65) [.int .i64 x4_1, .int .i64 x5_2] (fun _ => True) (fun _ => False) rfl rfl ?aP (fun _ hk => hk.elim) ?aF ?aO ?aB ?aS ?aL ?_; (case aP => exact k65_mkM _ _ _ (⟨x4_1, x5_2⟩ : S65)); (case aB => exact (by repeat (first | (with_reducible first | exact HB.out | apply below_alloc | apply pw_below_drewN | apply below_drew1) | exact HB.out))); (case aF => exact (fun _ _ => trivial)); (case aO => exact (by (with_reducible repeat (first | apply Kd.R_alloc | apply Kd.R_drewN | apply Kd.R_drew)); exact HO_3.out)); (case aS => exact (below_size (by repeat (first | (with_reducible first | exact HB.out | apply below_alloc | apply pw_below_drewN | apply below_drew1) | exact HB.out)))); (case aL => have := LMc6.out; omega); intro v658 w7 ho hb hg hat; rw [← Ny657.out] at ho; have n0_ := Aside0.mk (hb); have n1_ := Aside0.mk (ho); clear HB; clear HO_3; have HB := n0_; have HO659 := n1_; clear n0_ n1_; clear ho hb hg hat))
         go_roundg k2
         case measure => have := HK1.out; have := HK2.out; omega
         case rel => exact ⟨(y657), (wrap64 (x5_2 + 1)), (by first | rfl | (simp; done) | (simp [*]; done)), H', ⟨by have := HK1.out; have := HK2.out; omega⟩, ⟨by (with_reducible repeat (first | apply Kd.R_alloc | apply Kd.R_drewN | apply Kd.R_drew)); exact HO659.out⟩, ⟨by repeat (first | (with_reducible first | exact HB.out | apply below_alloc | apply pw_below_drewN | apply below_drew1) | exact HB.out)⟩⟩
        ·rw [if_neg c6] at H
         exact absurd H (by simp)
       ·replace c5 := Bool.eq_false_iff.mpr c5
        subst c5
        have H1 : (tickingref02_Conflicts.l1 k2 l0 x3_2 x4_1 (wrap64 (x5_2 + 1))) = some r := by rw [if_neg (show ¬ (false = true) by decide)] at H; exact H
        clear H
        have H := H1
        clear H1
        have H' := Aside0.mk H
        clear H
        go_wp2_with (first | ((with_reducible refine gate_callee (f := 73) rfl ?_); refine goesL_ (some 23) rfl rfl Try.func73 (by kernel_rfl) rfl #[.slice A0 l0.length c0, .int .i64 x4_1, .int .i64 x5_2] rfl (by (try simp only [List.map_toArray, List.map_cons, List.map_nil]); first | done | rfl | (simp only [List.length_drop, List.length_take]; rfl)) ?_; (with_reducible refine (tickingref02_Conflict.calls k2 _ _ l0 x4_1 x5_2 false _ ?side1 ?side2 A4.out).mono ?_); (case side1 => repeat (first | exact (Kd.C_below HR0.out HB.out) | (with_reducible refine Kd.C_alloc ?_ _) | (with_reducible refine Kd.C_drewN ?_ _) | (with_reducible refine Kd.C_drew ?_))); (case side2 => exact HC0.out); rintro e w' ⟨rfl, ⟨nd, rfl⟩⟩; refine ⟨_, rfl, ?_⟩))
        go_roundg k2
        case measure => have := HK1.out; have := HK2.out; omega
        case rel => exact ⟨(x3_2), (wrap64 (x5_2 + 1)), (by first | rfl | (simp; done) | (simp [*]; done)), H', ⟨by have := HK1.out; have := HK2.out; omega⟩, ⟨by (with_reducible repeat (first | apply Kd.R_alloc | apply Kd.R_drewN | apply Kd.R_drew)); exact HO_3.out⟩, ⟨by repeat (first | (with_reducible first | exact HB.out | apply below_alloc | apply pw_below_drewN | apply below_drew1) | exact HB.out)⟩⟩
      ·rw [if_neg c3] at H
       have c3b0 : decide (x5_2 < (l0.length : Int)) = false := decide_eq_false c3
       clear c3
       have H' := Aside0.mk H
       clear H
       go_wp2
       go_roundg k2
       case measure => have := HK1.out; have := HK2.out; omega
       case rel => exact ⟨(x3_2), (wrap64 (x4_1 + 1)), (by first | rfl | (simp; done) | (simp [*]; done)), H', ⟨by have := HK1.out; have := HK2.out; omega⟩, ⟨by (with_reducible repeat (first | apply Kd.R_alloc | apply Kd.R_drewN | apply Kd.R_drew)); exact HO_3.out⟩, ⟨by repeat (first | (with_reducible first | exact HB.out | apply below_alloc | apply pw_below_drewN | apply below_drew1) | exact HB.out)⟩⟩
   ·rw [if_neg c2] at H
    have c2b0 : decide (x4_1 < (l0.length : Int)) = false := decide_eq_false c2
    clear c2
    obtain rfl := Option.some.inj H
    go_wp2
    go_ret
    exact ⟨_, by first | rfl | (simp [errW_none, errW_some] <;> rfl) | (simp [*, errW_none, errW_some] <;> rfl), by (with_reducible repeat (first | apply Kd.R_alloc | apply Kd.R_drewN | apply Kd.R_drew)); exact HO_3.out, by repeat (first | (with_reducible first | exact HB.out | apply below_alloc | apply pw_below_drewN | apply below_drew1) | exact HB.out)⟩

mutual
def tickingref02_TwoStacks.l0 : Nat → List Int → Int → List Int → Int → Option (Bool)
 | 0, _, _, _, _ => none
 | k + 1, x0, x3, x4, x5 => if x5 < x3 then (if 0 ≤ x5 then (if x5 < (x4.length : Int) then (if (rd x4 x5) = 0 then (tickingref02_TwoStacks.l1 k x0 x3 (x4.set (x5 : Int).toNat 1) x5 (([x5] : List Int)) 0) else (tickingref02_TwoStacks.l0 k x0 x3 x4 (wrap64 (x5 + 1)))) else (none)) else (none)) else (some true)
def tickingref02_TwoStacks.l1 : Nat → List Int → Int → List Int → Int → List Int → Int → Option (Bool)
 | 0, _, _, _, _, _, _ => none
 | k + 1, x0, x3, x4, x5, x6, x7 => if x7 < (x6.length : Int) then (if 0 ≤ x7 then (tickingref02_TwoStacks.l2 k x0 x3 x4 x5 x6 x7 (rd x6 x7) 0) else (none)) else (tickingref02_TwoStacks.l0 k x0 x3 x4 (wrap64 (x5 + 1)))
def tickingref02_TwoStacks.l2 : Nat → List Int → Int → List Int → Int → List Int → Int → Int → Int → Option (Bool)
 | 0, _, _, _, _, _, _, _, _ => none
 | k + 1, x0, x3, x4, x5, x6, x7, x8, x9 => if x9 < x3 then (if x8 = x9 then (tickingref02_TwoStacks.j3 k x0 x3 x4 x5 x6 x7 x8 x9 true) else ((tickingref02_Conflict.f k x0 (mn x8 x9) (mx x8 x9)).bind fun t672 => (tickingref02_TwoStacks.j3 k x0 x3 x4 x5 x6 x7 x8 x9 (!t672)))) else (tickingref02_TwoStacks.l1 k x0 x3 x4 x5 x6 (wrap64 (x7 + 1)))
def tickingref02_TwoStacks.j3 : Nat → List Int → Int → List Int → Int → List Int → Int → Int → Int → Bool → Option (Bool)
 | 0, _, _, _, _, _, _, _, _, _ => none
 | k + 1, x0, x3, x4, x5, x6, x7, x8, x9, x57 => if x57 = true then (tickingref02_TwoStacks.l2 k x0 x3 x4 x5 x6 x7 x8 (wrap64 (x9 + 1))) else (if 0 ≤ x9 then (if x9 < (x4.length : Int) then (if 0 ≤ x8 then (if x8 < (x4.length : Int) then (if (rd x4 x9) = (rd x4 x8) then (some false) else (if (rd x4 x9) = 0 then (if x6.length < 17592186044416 then (tickingref02_TwoStacks.l2 k x0 x3 (x4.set (x9 : Int).toNat (wrap64 (3 - (rd x4 x8)))) x5 (x6 ++ [x9]) x7 x8 (wrap64 (x9 + 1))) else (none)) else (tickingref02_TwoStacks.l2 k x0 x3 x4 x5 x6 x7 x8 (wrap64 (x9 + 1))))) else (none)) else (none)) else (none)) else (none))
end
def tickingref02_TwoStacks.f (k : Nat) (l0 : List Int) : Option (Bool) := if 0 ≤ (l0.length : Int) then (if ((l0.length : Int) : Int).toNat ≤ 35184372088832 then (tickingref02_TwoStacks.l0 k l0 (l0.length : Int) (List.replicate ((l0.length : Int) : Int).toNat 0) 0) else (none)) else (none)
set_option maxHeartbeats 8000000 in
set_option maxRecDepth 100000 in
theorem tickingref02_TwoStacks.calls (k : Nat) (A0 : Option Addr) (c0 : Nat) (l0 : List Int) (r : Bool) (w : World) (hr0 : Kd.C (Kd.int .i64) w A0 l0.length l0) (hc0 : l0.length ≤ c0) (h : tickingref02_TwoStacks.f k l0 = some r) :
  Calls Try.prog 51 #[.slice A0 l0.length c0] w fun e w' => e = .returned (.bool r) ∧ Below w.heap.size w w' := by
 have HR0 := Aside0.mk hr0
 have HC0 := Aside0.mk hc0
 clear hr0 hc0
 have HB := Aside0.mk (Below.refl w.heap.size w)
 have H : (if 0 ≤ (l0.length : Int) then (if ((l0.length : Int) : Int).toNat ≤ 35184372088832 then (tickingref02_TwoStacks.l0 k l0 (l0.length : Int) (List.replicate ((l0.length : Int) : Int).toNat 0) 0) else (none)) else (none)) = some r := h
 clear h
 by_cases c2 : 0 ≤ (l0.length : Int)
 ·rw [if_pos c2] at H
  have c2b0 := eq_true c2
  have c2b1 : decide (0 ≤ (l0.length : Int)) = true := decide_eq_true c2
  clear c2
  by_cases c3 : ((l0.length : Int) : Int).toNat ≤ 35184372088832
  ·rw [if_pos c3] at H
   have c3b0 := eq_true c3
   have c3b1 : decide (((l0.length : Int) : Int).toNat ≤ 35184372088832) = true := decide_eq_true c3
   clear c3
   obtain ⟨y663, hy663⟩ : ∃ y_ : List Int, y_ = (List.replicate ((l0.length : Int) : Int).toNat 0) := ⟨_, rfl⟩
   replace H : (tickingref02_TwoStacks.l0 k l0 (l0.length : Int) y663 0) = some r := by first | (rw [hy663]; with_reducible exact H) | (have H2_ := (Option.bind_some _ _).symm.trans H; rw [hy663]; with_reducible exact H2_) | (have H2_ := (Option.bind_some _ _).symm.trans H; with_reducible exact H2_) | with_reducible exact H | (rw [hy663]; exact H) | exact H
   have Ny663 := Aside0.mk hy663
   clear hy663
   have H' := Aside0.mk H
   clear H
   go_enter Try.func51, Try.ntmps51
   go_wp2_with (first | ((with_reducible refine gate_dst (N := 13) rfl ?_); (try (refine gate_guard (by rfl) ?_; dsimp only)); refine Kd.R_make (Kd.int .i64) _ 3 rfl (N := 13) rfl 22 _ _ rfl (l0.length : Int) rfl rfl Try.underlying22 (.int .i64 0) 8 info3 rfl (by decide) (by omega) 0 (ok := fun _ => True) (okp := fun _ => True) rfl (fun _ hk => hk) trivial (of_decide_eq_true (by first | (with_reducible assumption) | assumption)) (Nat.le_trans (Nat.mul_le_mul_right _ (of_decide_eq_true (by first | (with_reducible assumption) | assumption) : (l0.length : Int).toNat ≤ 35184372088832)) (by omega)) (Below.refl _ _) (Nat.le_refl _) ?_; intro v664 w4 ho5 hb hg_ hnew_; clear hg_ hnew_; (first | rw [← Ny663.out] at ho5 | (simp only [Int.reduceToNat] at ho5; rw [← Ny663.out] at ho5)); have n0_ := Aside0.mk (Kd.R_lower ho5 (below_size (by repeat (first | (with_reducible first | exact HB.out | apply below_alloc | apply pw_below_drewN | apply below_drew1) | exact HB.out)))); have n1_ := Aside0.mk (below_step (by repeat (first | (with_reducible first | exact HB.out | apply below_alloc | apply pw_below_drewN | apply below_drew1) | exact HB.out)) hb); clear HB; have HO665 := n0_; have HB := n1_; clear n0_ n1_; clear hb ho5))
   repeat (go_quiet (first | ((with_reducible refine gate_dst (N := 13) rfl ?_); (try (refine gate_guard (by rfl) ?_; dsimp only)); refine Kd.R_make (Kd.int .i64) _ 3 rfl (N := 13) rfl 22 _ _ rfl (l0.length : Int) rfl rfl Try.underlying22 (.int .i64 0) 8 info3 rfl (by decide) (by omega) 0 (ok := fun _ => True) (okp := fun _ => True) rfl (fun _ hk => hk) trivial (of_decide_eq_true (by first | (with_reducible assumption) | assumption)) (Nat.le_trans (Nat.mul_le_mul_right _ (of_decide_eq_true (by first | (with_reducible assumption) | assumption) : (l0.length : Int).toNat ≤ 35184372088832)) (by omega)) (Below.refl _ _) (Nat.le_refl _) ?_; intro v664 w4 ho5 hb hg_ hnew_; clear hg_ hnew_; (first | rw [← Ny663.out] at ho5 | (simp only [Int.reduceToNat] at ho5; rw [← Ny663.out] at ho5)); have n0_ := Aside0.mk (Kd.R_lower ho5 (below_size (by repeat (first | (with_reducible first | exact HB.out | apply below_alloc | apply pw_below_drewN | apply below_drew1) | exact HB.out)))); have n1_ := Aside0.mk (below_step (by repeat (first | (with_reducible first | exact HB.out | apply below_alloc | apply pw_below_drewN | apply below_drew1) | exact HB.out)) hb); clear HB; have HO665 := n0_; have HB := n1_; clear n0_ n1_; clear hb ho5)); try go_wp2_with (first | ((with_reducible refine gate_dst (N := 13) rfl ?_); (try (refine gate_guard (by rfl) ?_; dsimp only)); refine Kd.R_make (Kd.int .i64) _ 3 rfl (N := 13) rfl 22 _ _ rfl (l0.length : Int) rfl rfl Try.underlying22 (.int .i64 0) 8 info3 rfl (by decide) (by omega) 0 (ok := fun _ => True) (okp := fun _ => True) rfl (fun _ hk => hk) trivial (of_decide_eq_true (by first | (with_reducible assumption) | assumption)) (Nat.le_trans (Nat.mul_le_mul_right _ (of_decide_eq_true (by first | (with_reducible assumption) | assumption) : (l0.length : Int).toNat ≤ 35184372088832)) (by omega)) (Below.refl _ _) (Nat.le_refl _) ?_; intro v664 w4 ho5 hb hg_ hnew_; clear hg_ hnew_; (first | rw [← Ny663.out] at ho5 | (simp only [Int.reduceToNat] at ho5; rw [← Ny663.out] at ho5)); have n0_ := Aside0.mk (Kd.R_lower ho5 (below_size (by repeat (first | (with_reducible first | exact HB.out | apply below_alloc | apply pw_below_drewN | apply below_drew1) | exact HB.out)))); have n1_ := Aside0.mk (below_step (by repeat (first | (with_reducible first | exact HB.out | apply below_alloc | apply pw_below_drewN | apply below_drew1) | exact HB.out)) hb); clear HB; have HO665 := n0_; have HB := n1_; clear n0_ n1_; clear hb ho5)))
   go_loopg [5] k (fun kq v5 w' => ∃ (x4_1 : List Int) (x5_1 : Int), v5 = .int .i64 x5_1 ∧ Aside0 (tickingref02_TwoStacks.l0 kq l0 (l0.length : Int) x4_1 x5_1 = some r) ∧ Aside0 (kq ≤ k) ∧ Aside0 (Kd.R (Kd.int .i64) 3 w' w.heap.size (fun _ => True) v664 x4_1) ∧ Aside0 (Below w.heap.size w w'))
   case atStart => exact ⟨(y663), (0), (by first | rfl | (simp; done) | (simp [*]; done)), H', ⟨Nat.le_refl _⟩, ⟨by (with_reducible repeat (first | apply Kd.R_alloc | apply Kd.R_drewN | apply Kd.R_drew)); exact HO665.out⟩, ⟨by repeat (first | (with_reducible first | exact HB.out | apply below_alloc | apply pw_below_drewN | apply below_drew1) | exact HB.out)⟩⟩
   case round =>
    clear H'
    try clear c2
    try clear c2b0
    try clear c2b1
    try clear p2
    try clear c3
    try clear c3b0
    try clear c3b1
    try clear c5
    obtain ⟨x4_1, x5_1, rfl, HA, HK1, HO_4, HB⟩ := hrel
    cases gk with
    | zero => exact absurd HA.out (by simp [tickingref02_TwoStacks.l0])
    | succ k1 =>
     have H := HA.out
     clear HA
     simp only [tickingref02_TwoStacks.l0] at H
     by_cases c6 : x5_1 < (l0.length : Int)
     ·rw [if_pos c6] at H
      have c6b0 : decide (x5_1 < (l0.length : Int)) = true := decide_eq_true c6
      clear c6
      by_cases c7 : 0 ≤ x5_1
      ·rw [if_pos c7] at H
       have c7b0 : decide (0 ≤ x5_1) = true := decide_eq_true c7
       clear c7
       by_cases c8 : x5_1 < (x4_1.length : Int)
       ·rw [if_pos c8] at H
        have c8b0 : decide (x5_1 < (x4_1.length : Int)) = true := decide_eq_true c8
        clear c8
        by_cases c9 : (rd x4_1 x5_1) = 0
        ·rw [if_pos c9] at H
         have c9b0 : ((rd x4_1 x5_1) == 0) = true := beq_iff_eq.mpr c9
         have c9b1 : ((rd x4_1 x5_1) != 0) = false := bne_eq_false_iff_eq.mpr c9
         clear c9
         obtain ⟨y667, hy667⟩ : ∃ y_ : List Int, y_ = (x4_1.set (x5_1 : Int).toNat 1) := ⟨_, rfl⟩
         replace H : (tickingref02_TwoStacks.l1 k1 l0 (l0.length : Int) y667 x5_1 (([x5_1] : List Int)) 0) = some r := by first | (rw [hy667]; with_reducible exact H) | (have H2_ := (Option.bind_some _ _).symm.trans H; rw [hy667]; with_reducible exact H2_) | (have H2_ := (Option.bind_some _ _).symm.trans H; with_reducible exact H2_) | with_reducible exact H | (rw [hy667]; exact H) | exact H
         have Ny667 := Aside0.mk hy667
         clear hy667
         obtain ⟨y668, hy668⟩ : ∃ y_ : List Int, y_ = (([x5_1] : List Int)) := ⟨_, rfl⟩
         replace H : (tickingref02_TwoStacks.l1 k1 l0 (l0.length : Int) y667 x5_1 y668 0) = some r := by first | (rw [hy668]; with_reducible exact H) | (have H2_ := (Option.bind_some _ _).symm.trans H; rw [hy668]; with_reducible exact H2_) | (have H2_ := (Option.bind_some _ _).symm.trans H; with_reducible exact H2_) | with_reducible exact H | (rw [hy668]; exact H) | exact H
         have Ny668 := Aside0.mk hy668
         clear hy668
         have H' := Aside0.mk H
         clear H
         obtain ⟨Ao11, co11, eo11⟩ := Kd.R_slice HO_4.out
         subst eo11
         have p666 : 0 ≤ (x5_1 : Int) := of_decide_eq_true (by first | (with_reducible assumption) | assumption)
         have q666 : x5_1 < (x4_1.length : Int) := of_decide_eq_true (by first | (with_reducible assumption) | assumption)
         obtain ⟨ad666, e666, hx666_0⟩ := Kd.at_int (Kd.R_reads' HO_4.out).2.2 x5_1 p666 q666
         cases e666
         replace p666 := eq_true p666
         replace q666 := eq_true q666
         have p10 : 0 ≤ (x5_1 : Int) := of_decide_eq_true (by first | (with_reducible assumption) | assumption)
         have q10 : (x5_1 : Int) < ((x4_1.length : Int) : Int) := of_decide_eq_true (by first | (with_reducible assumption) | assumption)
         obtain ⟨go10, co10, eo10, gb10, gl10, cl10, HG10⟩ := Kd.R_form HO_4.out (by omega)
         (first | cases eo10 | (injection eo10 with ea_ en_ ec_; (first | subst ea_ | (injection ea_ with ea_; subst ea_)); subst ec_; clear en_))
         have GB10 := Aside0.mk gb10
         have GG10 := Aside0.mk HG10
         clear gb10 gl10 HG10
         (first | simp only [add_plain] at hx666_0 | skip)
         obtain ⟨hx10_0, hf10_0⟩ := Kd.R_celln 0 HO_4.out (x5_1 : Int) p10 q10
         replace p10 := eq_true p10
         replace q10 := eq_true q10
         have HP12 := Kd.R_putg HO_4.out (x5_1 : Int) 1
         go_wp2_with (first | ((with_reducible refine gate_store (t := 3) (p := 26) rfl ?_); (try (rw [drewN_self wr]; generalize hq_ : World.drewN wr _ = wr; have n0_ := Aside0.mk (Kd.R_at hq_ HO_4.out); have n1_ := Aside0.mk (below_at hq_ HB.out); clear hq_ HO_4 HB; have HO_4 := n0_; have HB := n1_; clear n0_ n1_; (try (have HP12 := Kd.R_putg HO_4.out (x5_1 : Int) 1)))); refine store_event (t := 3) (p := 26) (v := ?vo_w13) (w1 := (wr.setCell ⟨go10, (x5_1 : Int).toNat, none⟩ (.int .i64 1))) ?hg ?ho ?hn ?hr ?_; (case ho => rfl); (case hg => rfl); (case hn => rfl); (case hr => first | (go_simp; done) | (go_simp; rfl)); intro w13 hw; have hg : wr.grownBy w13 (some go10) := (by rw [hw]; exact HP12.2); have hp_ : Kd.R (Kd.int .i64) 3 w13 w.heap.size (fun _ => True) (.slice (some ⟨go10, 0, none⟩) x4_1.length co11) y667 := (by rw [hw, Ny667.out]; exact HP12.1); clear HP12; have n0_ := Aside0.mk (hp_); have n1_ := Aside0.mk ((by rw [hw]; exact below_set (HB.out) GB10.out : Below w.heap.size w w13)); clear HO_4; clear HB; have HO_4 := n0_; have HB := n1_; clear n0_ n1_; clear hg hw hp_) | ((with_reducible refine gate_dst (N := 28) rfl ?_); (try (refine gate_guard (by rfl) ?_; dsimp only)); refine Kd.R_lit (Kd.int .i64) _ 3 ?hg (N := 28) ?hd (xs := ([x5_1] : List Int)) (inner := [.int .i64 x5_1]) (ok := fun _ => True) (okp := fun _ => True) ?hr ?hp (fun _ hk => hk) trivial (Below.refl _ _) (Nat.le_refl _) (by simp) ?_; (case hd => rfl); (case hg => rfl); (case hr => first | (go_simp; done) | (go_simp; rfl)); (case hp => exact (Reps.one (show Kd.M (Kd.int .i64) _ _ _ x5_1 [.int .i64 x5_1] from rfl) (Reps.none _ _))); intro v669 w14 ho15 hb hg_ hnew_; clear hg_ hnew_; (first | rw [← Ny668.out] at ho15 | (simp only [Int.reduceToNat] at ho15; rw [← Ny668.out] at ho15)); have n0_ := Aside0.mk (Kd.R_elder' (by (with_reducible repeat (first | apply Kd.R_alloc | apply Kd.R_drewN | apply Kd.R_drew)); exact HO_4.out) (Kd.R_base ho15) hb); have n1_ := Aside0.mk (Kd.R_lower (Kd.R_new' ho15 (Kd.R_lt (by (with_reducible repeat (first | apply Kd.R_alloc | apply Kd.R_drewN | apply Kd.R_drew)); exact HO_4.out))) (below_size (by repeat (first | (with_reducible first | exact HB.out | apply below_alloc | apply pw_below_drewN | apply below_drew1) | exact HB.out)))); have n2_ := Aside0.mk (below_step (by repeat (first | (with_reducible first | exact HB.out | apply below_alloc | apply pw_below_drewN | apply below_drew1) | exact HB.out)) hb); clear HO_4; clear HB; have HO_4 := n0_; have HO670 := n1_; have HB := n2_; clear n0_ n1_ n2_; clear hb ho15))
         repeat (go_quiet (first | ((with_reducible refine gate_store (t := 3) (p := 26) rfl ?_); (try (rw [drewN_self wr]; generalize hq_ : World.drewN wr _ = wr; have n0_ := Aside0.mk (Kd.R_at hq_ HO_4.out); have n1_ := Aside0.mk (below_at hq_ HB.out); clear hq_ HO_4 HB; have HO_4 := n0_; have HB := n1_; clear n0_ n1_; (try (have HP12 := Kd.R_putg HO_4.out (x5_1 : Int) 1)))); refine store_event (t := 3) (p := 26) (v := ?vo_w13) (w1 := (wr.setCell ⟨go10, (x5_1 : Int).toNat, none⟩ (.int .i64 1))) ?hg ?ho ?hn ?hr ?_; (case ho => rfl); (case hg => rfl); (case hn => rfl); (case hr => first | (go_simp; done) | (go_simp; rfl)); intro w13 hw; have hg : wr.grownBy w13 (some go10) := (by rw [hw]; exact HP12.2); have hp_ : Kd.R (Kd.int .i64) 3 w13 w.heap.size (fun _ => True) (.slice (some ⟨go10, 0, none⟩) x4_1.length co11) y667 := (by rw [hw, Ny667.out]; exact HP12.1); clear HP12; have n0_ := Aside0.mk (hp_); have n1_ := Aside0.mk ((by rw [hw]; exact below_set (HB.out) GB10.out : Below w.heap.size w w13)); clear HO_4; clear HB; have HO_4 := n0_; have HB := n1_; clear n0_ n1_; clear hg hw hp_) | ((with_reducible refine gate_dst (N := 28) rfl ?_); (try (refine gate_guard (by rfl) ?_; dsimp only)); refine Kd.R_lit (Kd.int .i64) _ 3 ?hg (N := 28) ?hd (xs := ([x5_1] : List Int)) (inner := [.int .i64 x5_1]) (ok := fun _ => True) (okp := fun _ => True) ?hr ?hp (fun _ hk => hk) trivial (Below.refl _ _) (Nat.le_refl _) (by simp) ?_; (case hd => rfl); (case hg => rfl); (case hr => first | (go_simp; done) | (go_simp; rfl)); (case hp => exact (Reps.one (show Kd.M (Kd.int .i64) _ _ _ x5_1 [.int .i64 x5_1] from rfl) (Reps.none _ _))); intro v669 w14 ho15 hb hg_ hnew_; clear hg_ hnew_; (first | rw [← Ny668.out] at ho15 | (simp only [Int.reduceToNat] at ho15; rw [← Ny668.out] at ho15)); have n0_ := Aside0.mk (Kd.R_elder' (by (with_reducible repeat (first | apply Kd.R_alloc | apply Kd.R_drewN | apply Kd.R_drew)); exact HO_4.out) (Kd.R_base ho15) hb); have n1_ := Aside0.mk (Kd.R_lower (Kd.R_new' ho15 (Kd.R_lt (by (with_reducible repeat (first | apply Kd.R_alloc | apply Kd.R_drewN | apply Kd.R_drew)); exact HO_4.out))) (below_size (by repeat (first | (with_reducible first | exact HB.out | apply below_alloc | apply pw_below_drewN | apply below_drew1) | exact HB.out)))); have n2_ := Aside0.mk (below_step (by repeat (first | (with_reducible first | exact HB.out | apply below_alloc | apply pw_below_drewN | apply below_drew1) | exact HB.out)) hb); clear HO_4; clear HB; have HO_4 := n0_; have HO670 := n1_; have HB := n2_; clear n0_ n1_ n2_; clear hb ho15)); try go_wp2_with (first | ((with_reducible refine gate_store (t := 3) (p := 26) rfl ?_); (try (rw [drewN_self wr]; generalize hq_ : World.drewN wr _ = wr; have n0_ := Aside0.mk (Kd.R_at hq_ HO_4.out); have n1_ := Aside0.mk (below_at hq_ HB.out); clear hq_ HO_4 HB; have HO_4 := n0_; have HB := n1_; clear n0_ n1_; (try (have HP12 := Kd.R_putg HO_4.out (x5_1 : Int) 1)))); refine store_event (t := 3) (p := 26) (v := ?vo_w13) (w1 := (wr.setCell ⟨go10, (x5_1 : Int).toNat, none⟩ (.int .i64 1))) ?hg ?ho ?hn ?hr ?_; (case ho => rfl); (case hg => rfl); (case hn => rfl); (case hr => first | (go_simp; done) | (go_simp; rfl)); intro w13 hw; have hg : wr.grownBy w13 (some go10) := (by rw [hw]; exact HP12.2); have hp_ : Kd.R (Kd.int .i64) 3 w13 w.heap.size (fun _ => True) (.slice (some ⟨go10, 0, none⟩) x4_1.length co11) y667 := (by rw [hw, Ny667.out]; exact HP12.1); clear HP12; have n0_ := Aside0.mk (hp_); have n1_ := Aside0.mk ((by rw [hw]; exact below_set (HB.out) GB10.out : Below w.heap.size w w13)); clear HO_4; clear HB; have HO_4 := n0_; have HB := n1_; clear n0_ n1_; clear hg hw hp_) | ((with_reducible refine gate_dst (N := 28) rfl ?_); (try (refine gate_guard (by rfl) ?_; dsimp only)); refine Kd.R_lit (Kd.int .i64) _ 3 ?hg (N := 28) ?hd (xs := ([x5_1] : List Int)) (inner := [.int .i64 x5_1]) (ok := fun _ => True) (okp := fun _ => True) ?hr ?hp (fun _ hk => hk) trivial (Below.refl _ _) (Nat.le_refl _) (by simp) ?_; (case hd => rfl); (case hg => rfl); (case hr => first | (go_simp; done) | (go_simp; rfl)); (case hp => exact (Reps.one (show Kd.M (Kd.int .i64) _ _ _ x5_1 [.int .i64 x5_1] from rfl) (Reps.none _ _))); intro v669 w14 ho15 hb hg_ hnew_; clear hg_ hnew_; (first | rw [← Ny668.out] at ho15 | (simp only [Int.reduceToNat] at ho15; rw [← Ny668.out] at ho15)); have n0_ := Aside0.mk (Kd.R_elder' (by (with_reducible repeat (first | apply Kd.R_alloc | apply Kd.R_drewN | apply Kd.R_drew)); exact HO_4.out) (Kd.R_base ho15) hb); have n1_ := Aside0.mk (Kd.R_lower (Kd.R_new' ho15 (Kd.R_lt (by (with_reducible repeat (first | apply Kd.R_alloc | apply Kd.R_drewN | apply Kd.R_drew)); exact HO_4.out))) (below_size (by repeat (first | (with_reducible first | exact HB.out | apply below_alloc | apply pw_below_drewN | apply below_drew1) | exact HB.out)))); have n2_ := Aside0.mk (below_step (by repeat (first | (with_reducible first | exact HB.out | apply below_alloc | apply pw_below_drewN | apply below_drew1) | exact HB.out)) hb); clear HO_4; clear HB; have HO_4 := n0_; have HO670 := n1_; have HB := n2_; clear n0_ n1_ n2_; clear hb ho15)))
         go_loopg [6, 7] k1 (fun kq v6 v7 w' => ∃ (x4_2 : List Int) (x6_2 : List Int) (x7_2 : Int), v7 = .int .i64 x7_2 ∧ Aside0 (tickingref02_TwoStacks.l1 kq l0 (l0.length : Int) x4_2 x5_1 x6_2 x7_2 = some r) ∧ Aside0 (kq ≤ k1) ∧ Aside0 (Kd.R (Kd.int .i64) 3 w' w.heap.size (fun k_ => some k_ ≠ (v6 : Value).ownBlock) (.slice (some ⟨go10, 0, none⟩) x4_1.length co11) x4_2) ∧ Aside0 (Kd.R (Kd.int .i64) 3 w' w.heap.size (fun k_ => some k_ ≠ ((.slice (some ⟨go10, 0, none⟩) x4_1.length co11) : Value).ownBlock) v6 x6_2) ∧ Aside0 (Below w.heap.size w w'))
         case atStart => exact ⟨(y667), (y668), (0), (by first | rfl | (simp; done) | (simp [*]; done)), H', ⟨Nat.le_refl _⟩, ⟨by (with_reducible repeat (first | apply Kd.R_alloc | apply Kd.R_drewN | apply Kd.R_drew)); exact Kd.R_mono HO_4.out (fun _ hk => hk.2)⟩, ⟨by (with_reducible repeat (first | apply Kd.R_alloc | apply Kd.R_drewN | apply Kd.R_drew)); exact Kd.R_mono HO670.out (fun _ hk => hk.2)⟩, ⟨by repeat (first | (with_reducible first | exact HB.out | apply below_alloc | apply pw_below_drewN | apply below_drew1) | exact HB.out)⟩⟩
         case round =>
          clear H'
          try clear p1
          try clear q1
          try clear hx1
          try clear hf1
          try clear c2
          try clear c2b0
          try clear c2b1
          try clear p2
          try clear c3
          try clear c3b0
          try clear c3b1
          try clear c5
          try clear c6
          try clear c6b0
          try clear p6
          try clear q6
          try clear hx6
          try clear c7
          try clear c7b0
          try clear c8
          try clear c8b0
          try clear c9
          try clear c9b0
          try clear c9b1
          try clear p10
          try clear q10
          try clear hx10
          try clear hf10
          try clear hx10_0
          try clear hx666_0
          try clear p10
          try clear p2
          try clear p666
          try clear q10
          try clear q666
          obtain ⟨x4_2, x6_2, x7_2, rfl, HA, HK2, HO_4, HO_6, HB⟩ := hrel
          have hl4_2 := (Kd.R_reads' HO_4.out).1
          rw [hl4_2] at HO_4
          (try simp only [hl4_2])
          (try simp only [hl4_2] at HO_6)
          cases gk with
          | zero => exact absurd HA.out (by simp [tickingref02_TwoStacks.l1])
          | succ k2 =>
           have H := HA.out
           clear HA
           simp only [tickingref02_TwoStacks.l1] at H
           by_cases c16 : x7_2 < (x6_2.length : Int)
           ·rw [if_pos c16] at H
            have c16b0 : decide (x7_2 < (x6_2.length : Int)) = true := decide_eq_true c16
            clear c16
            by_cases c17 : 0 ≤ x7_2
            ·rw [if_pos c17] at H
             have c17b0 : decide (0 ≤ x7_2) = true := decide_eq_true c17
             clear c17
             have H' := Aside0.mk H
             clear H
             obtain ⟨Ao18, co18, eo18⟩ := Kd.R_slice HO_6.out
             subst eo18
             have p671 : 0 ≤ (x7_2 : Int) := of_decide_eq_true (by first | (with_reducible assumption) | assumption)
             have q671 : x7_2 < (x6_2.length : Int) := of_decide_eq_true (by first | (with_reducible assumption) | assumption)
             obtain ⟨ad671, e671, hx671_0⟩ := Kd.at_int (Kd.R_reads' HO_6.out).2.2 x7_2 p671 q671
             cases e671
             replace p671 := eq_true p671
             replace q671 := eq_true q671
             go_wp2
             repeat (go_quiet (fail); try go_wp2)
             go_loopg [6, 9] k2 (fun kq v6 v9 w' => ∃ (x4_3 : List Int) (x6_3 : List Int) (x9_3 : Int), v9 = .int .i64 x9_3 ∧ Aside0 (tickingref02_TwoStacks.l2 kq l0 (l0.length : Int) x4_3 x5_1 x6_3 x7_2 (rd x6_2 x7_2) x9_3 = some r) ∧ Aside0 (kq ≤ k2) ∧ Aside0 (Kd.R (Kd.int .i64) 3 w' w.heap.size (fun k_ => some k_ ≠ (v6 : Value).ownBlock) (.slice (some ⟨go10, 0, none⟩) x4_2.length co11) x4_3) ∧ Aside0 (Kd.R (Kd.int .i64) 3 w' w.heap.size (fun k_ => some k_ ≠ ((.slice (some ⟨go10, 0, none⟩) x4_2.length co11) : Value).ownBlock) v6 x6_3) ∧ Aside0 (Below w.heap.size w w'))
             case atStart => exact ⟨(x4_2), (x6_2), (0), (by first | rfl | (simp; done) | (simp [*]; done)), H', ⟨Nat.le_refl _⟩, ⟨by (try simp only [hl4_2]); (with_reducible repeat (first | apply Kd.R_alloc | apply Kd.R_drewN | apply Kd.R_drew)); exact HO_4.out⟩, ⟨by (try simp only [hl4_2]); (with_reducible repeat (first | apply Kd.R_alloc | apply Kd.R_drewN | apply Kd.R_drew)); exact HO_6.out⟩, ⟨by repeat (first | (with_reducible first | exact HB.out | apply below_alloc | apply pw_below_drewN | apply below_drew1) | exact HB.out)⟩⟩
             case round =>
              clear H'
              try clear c1
              try clear p1
              try clear q1
              try clear hx1
              try clear hf1
              try clear c2
              try clear c2b0
              try clear c2b1
              try clear p2
              try clear c3
              try clear c3b0
              try clear c3b1
              try clear c5
              try clear c6
              try clear c6b0
              try clear p6
              try clear q6
              try clear hx6
              try clear c7
              try clear c7b0
              try clear c8
              try clear c8b0
              try clear c9
              try clear c9b0
              try clear c9b1
              try clear p10
              try clear q10
              try clear hx10
              try clear hf10
              try clear c16
              try clear c16b0
              try clear c17
              try clear c17b0
              try clear hx10_0
              try clear hx666_0
              try clear hx671_0
              try clear p1
              try clear p10
              try clear p2
              try clear p6
              try clear p666
              try clear p671
              try clear q1
              try clear q10
              try clear q6
              try clear q666
              try clear q671
              obtain ⟨x4_3, x6_3, x9_3, rfl, HA, HK3, HO_4, HO_6, HB⟩ := hrel
              have hl4_3 := (Kd.R_reads' HO_4.out).1
              rw [hl4_3] at HO_4
              (try simp only [hl4_3])
              (try simp only [hl4_3] at HO_6)
              cases gk with
              | zero => exact absurd HA.out (by simp [tickingref02_TwoStacks.l2])
              | succ k3 =>
               have H := HA.out
               clear HA
               simp only [tickingref02_TwoStacks.l2] at H
               by_cases c19 : x9_3 < (l0.length : Int)
               ·rw [if_pos c19] at H
                have c19b0 : decide (x9_3 < (l0.length : Int)) = true := decide_eq_true c19
                clear c19
                have HC20 := Aside0.mk H
                clear H
                go_upto_region 16 with (fail)
                repeat (go_quiet (fail); go_upto_region 16 with (fail))
                go_cut [57] (fun v57 wc => ∃ (kq : Nat) (x57_19 : Bool), v57 = .bool x57_19 ∧ Aside0 (tickingref02_TwoStacks.j3 kq l0 (l0.length : Int) x4_3 x5_1 x6_3 x7_2 (rd x6_2 x7_2) x9_3 x57_19 = some r) ∧ Aside0 (kq ≤ k3) ∧ Aside0 (Kd.R (Kd.int .i64) 3 wc w.heap.size (fun k_ => some k_ ≠ (u6 : Value).ownBlock) (.slice (some ⟨go10, 0, none⟩) x4_3.length co11) x4_3) ∧ Aside0 (Kd.R (Kd.int .i64) 3 wc w.heap.size (fun k_ => some k_ ≠ ((.slice (some ⟨go10, 0, none⟩) x4_3.length co11) : Value).ownBlock) u6 x6_3) ∧ Aside0 (Below w.heap.size w wc))
                case first =>
                 have H := HC20.out
                 clear HC20
                 by_cases c21 : (rd x6_2 x7_2) = x9_3
                 ·rw [if_pos c21] at H
                  have c21b0 : ((rd x6_2 x7_2) == x9_3) = true := beq_iff_eq.mpr c21
                  have c21b1 : ((rd x6_2 x7_2) != x9_3) = false := bne_eq_false_iff_eq.mpr c21
                  clear c21
                  (first | rw [c21b0] | (simp only [i64_w, i32_w]; rw [c21b0]) | skip)
                  have H' := Aside0.mk H
                  clear H
                  go_wp2
                  repeat (go_quiet (fail); try go_wp2)
                  go_meet
                  case rel => exact ⟨_, (true), (by first | rfl | (simp; done) | (simp [*]; done)), H', ⟨by have := HK1.out; have := HK2.out; have := HK3.out; first | omega | exact Nat.le_refl _⟩, ⟨by (try simp only [hl4_2]); (try simp only [hl4_3]); (with_reducible repeat (first | apply Kd.R_alloc | apply Kd.R_drewN | apply Kd.R_drew)); exact HO_4.out⟩, ⟨by (try simp only [hl4_2]); (try simp only [hl4_3]); (with_reducible repeat (first | apply Kd.R_alloc | apply Kd.R_drewN | apply Kd.R_drew)); exact HO_6.out⟩, ⟨by repeat (first | (with_reducible first | exact HB.out | apply below_alloc | apply pw_below_drewN | apply below_drew1) | exact HB.out)⟩⟩
                 ·rw [if_neg c21] at H
                  have c21b0 : ((rd x6_2 x7_2) == x9_3) = false := beq_eq_false_iff_ne.mpr c21
                  have c21b1 : ((rd x6_2 x7_2) != x9_3) = true := bne_iff_ne.mpr c21
                  (first | rw [c21b0] | (simp only [i64_w, i32_w]; rw [c21b0]) | skip)
                  obtain ⟨ji22, hji22⟩ : ∃ j_ : Int, (mn (rd x6_2 x7_2) x9_3) = j_ := ⟨_, rfl⟩
                  replace H : ((tickingref02_Conflict.f k3 l0 (ji22) (mx (rd x6_2 x7_2) x9_3)).bind fun t672 => (tickingref02_TwoStacks.j3 k3 l0 (l0.length : Int) x4_3 x5_1 x6_3 x7_2 (rd x6_2 x7_2) x9_3 (!t672))) = some r := by first | (rw [hji22] at H; exact H) | (simp only [hji22] at H ⊢; exact H)
                  have hji22_ : (if x9_3 < (rd x6_2 x7_2) then x9_3 else (rd x6_2 x7_2)) = ji22 := hji22
                  obtain ⟨ji23, hji23⟩ : ∃ j_ : Int, (mx (rd x6_2 x7_2) x9_3) = j_ := ⟨_, rfl⟩
                  replace H : ((tickingref02_Conflict.f k3 l0 (ji22) (ji23)).bind fun t672 => (tickingref02_TwoStacks.j3 k3 l0 (l0.length : Int) x4_3 x5_1 x6_3 x7_2 (rd x6_2 x7_2) x9_3 (!t672))) = some r := by first | (rw [hji23] at H; exact H) | (simp only [hji23] at H ⊢; exact H)
                  have hji23_ : (if (rd x6_2 x7_2) < x9_3 then x9_3 else (rd x6_2 x7_2)) = ji23 := hji23
                  replace H := Option.bind_eq_some_iff.mp H
                  obtain ⟨t672, A240, H⟩ := H
                  replace H : (tickingref02_TwoStacks.j3 k3 l0 (l0.length : Int) x4_3 x5_1 x6_3 x7_2 (rd x6_2 x7_2) x9_3 (!t672)) = some r := H
                  have A24 := Aside0.mk A240
                  clear A240
                  have H' := Aside0.mk H
                  clear H
                  go_wp2_with (first | (go_at_call 73; (with_reducible refine (tickingref02_Conflict.calls k3 _ _ l0 ji22 ji23 t672 _ ?side1 ?side2 A24.out).mono ?_); (case side1 => repeat (first | exact (Kd.C_below HR0.out HB.out) | (with_reducible refine Kd.C_alloc ?_ _) | (with_reducible refine Kd.C_drewN ?_ _) | (with_reducible refine Kd.C_drew ?_))); (case side2 => exact HC0.out); rintro e w' ⟨rfl, ⟨nd, rfl⟩⟩; (try first | exact ⟨rfl, _, World.drewN_drewN _ _ _⟩ | exact ⟨rfl, _, Eq.trans (World.drewN_drewN _ _ _) (congrArg (World.drewN _) (Nat.add_assoc _ _ _))⟩)))
                  repeat (go_quiet (first | (go_at_call 73; (with_reducible refine (tickingref02_Conflict.calls k3 _ _ l0 ji22 ji23 t672 _ ?side1 ?side2 A24.out).mono ?_); (case side1 => repeat (first | exact (Kd.C_below HR0.out HB.out) | (with_reducible refine Kd.C_alloc ?_ _) | (with_reducible refine Kd.C_drewN ?_ _) | (with_reducible refine Kd.C_drew ?_))); (case side2 => exact HC0.out); rintro e w' ⟨rfl, ⟨nd, rfl⟩⟩; (try first | exact ⟨rfl, _, World.drewN_drewN _ _ _⟩ | exact ⟨rfl, _, Eq.trans (World.drewN_drewN _ _ _) (congrArg (World.drewN _) (Nat.add_assoc _ _ _))⟩))); try go_wp2_with (first | (go_at_call 73; (with_reducible refine (tickingref02_Conflict.calls k3 _ _ l0 ji22 ji23 t672 _ ?side1 ?side2 A24.out).mono ?_); (case side1 => repeat (first | exact (Kd.C_below HR0.out HB.out) | (with_reducible refine Kd.C_alloc ?_ _) | (with_reducible refine Kd.C_drewN ?_ _) | (with_reducible refine Kd.C_drew ?_))); (case side2 => exact HC0.out); rintro e w' ⟨rfl, ⟨nd, rfl⟩⟩; (try first | exact ⟨rfl, _, World.drewN_drewN _ _ _⟩ | exact ⟨rfl, _, Eq.trans (World.drewN_drewN _ _ _) (congrArg (World.drewN _) (Nat.add_assoc _ _ _))⟩))))
                  go_meet
                  case rel => exact ⟨_, (!t672), (by first | rfl | (simp; done) | (simp [*]; done)), H', ⟨by have := HK1.out; have := HK2.out; have := HK3.out; first | omega | exact Nat.le_refl _⟩, ⟨by (try simp only [hl4_2]); (try simp only [hl4_3]); (with_reducible repeat (first | apply Kd.R_alloc | apply Kd.R_drewN | apply Kd.R_drew)); exact HO_4.out⟩, ⟨by (try simp only [hl4_2]); (try simp only [hl4_3]); (with_reducible repeat (first | apply Kd.R_alloc | apply Kd.R_drewN | apply Kd.R_drew)); exact HO_6.out⟩, ⟨by repeat (first | (with_reducible first | exact HB.out | apply below_alloc | apply pw_below_drewN | apply below_drew1) | exact HB.out)⟩⟩
                case rest =>
                 clear HC20
                 try clear c1
                 try clear p1
                 try clear q1
                 try clear hx1
                 try clear hf1
                 try clear c2
                 try clear c2b0
                 try clear c2b1
                 try clear p2
                 try clear c3
                 try clear c3b0
                 try clear c3b1
                 try clear c5
                 try clear c6
                 try clear c6b0
                 try clear p6
                 try clear q6
                 try clear hx6
                 try clear c7
                 try clear c7b0
                 try clear c8
                 try clear c8b0
                 try clear c9
                 try clear c9b0
                 try clear c9b1
                 try clear p10
                 try clear q10
                 try clear hx10
                 try clear hf10
                 try clear c16
                 try clear c16b0
                 try clear c17
                 try clear c17b0
                 try clear c19
                 try clear c19b0
                 try clear c21
                 try clear c21b0
                 try clear c21b1
                 try clear hx10_0
                 try clear hx666_0
                 try clear hx671_0
                 try clear p1
                 try clear p10
                 try clear p2
                 try clear p6
                 try clear p666
                 try clear p671
                 try clear q1
                 try clear q10
                 try clear q6
                 try clear q666
                 try clear q671
                 obtain ⟨kq, x57_19, rfl, HA, HJ19, HO_4, HO_6, HB⟩ := hcut
                 cases kq with
                 | zero => exact absurd HA.out (by simp [tickingref02_TwoStacks.j3])
                 | succ kj19 =>
                  have H := HA.out
                  clear HA
                  simp only [tickingref02_TwoStacks.j3] at H
                  by_cases c25 : x57_19 = true
                  ·subst c25
                   have H1 : (tickingref02_TwoStacks.l2 kj19 l0 (l0.length : Int) x4_3 x5_1 x6_3 x7_2 (rd x6_2 x7_2) (wrap64 (x9_3 + 1))) = some r := by rw [if_pos rfl] at H; exact H
                   clear H
                   have H := H1
                   clear H1
                   have H' := Aside0.mk H
                   clear H
                   go_wp2
                   repeat (go_quiet (fail); try go_wp2)
                   (try simp only [← hl4_3])
                   go_roundg kj19
                   case measure => have := HK1.out; have := HK2.out; have := HK3.out; have := HJ19.out; omega
                   case rel => exact ⟨(x4_3), (x6_3), (wrap64 (x9_3 + 1)), (by first | rfl | (simp; done) | (simp [*]; done)), H', ⟨by have := HK1.out; have := HK2.out; have := HK3.out; have := HJ19.out; omega⟩, ⟨by (try simp only [hl4_2]); (try simp only [hl4_3]); (with_reducible repeat (first | apply Kd.R_alloc | apply Kd.R_drewN | apply Kd.R_drew)); exact HO_4.out⟩, ⟨by (try simp only [hl4_2]); (try simp only [hl4_3]); (with_reducible repeat (first | apply Kd.R_alloc | apply Kd.R_drewN | apply Kd.R_drew)); exact HO_6.out⟩, ⟨by repeat (first | (with_reducible first | exact HB.out | apply below_alloc | apply pw_below_drewN | apply below_drew1) | exact HB.out)⟩⟩
                  ·replace c25 := Bool.eq_false_iff.mpr c25
                   subst c25
                   have H1 : (if 0 ≤ x9_3 then (if x9_3 < (x4_3.length : Int) then (if 0 ≤ (rd x6_2 x7_2) then (if (rd x6_2 x7_2) < (x4_3.length : Int) then (if (rd x4_3 x9_3) = (rd x4_3 (rd x6_2 x7_2)) then (some false) else (if (rd x4_3 x9_3) = 0 then (if x6_3.length < 17592186044416 then (tickingref02_TwoStacks.l2 kj19 l0 (l0.length : Int) (x4_3.set (x9_3 : Int).toNat (wrap64 (3 - (rd x4_3 (rd x6_2 x7_2))))) x5_1 (x6_3 ++ [x9_3]) x7_2 (rd x6_2 x7_2) (wrap64 (x9_3 + 1))) else (none)) else (tickingref02_TwoStacks.l2 kj19 l0 (l0.length : Int) x4_3 x5_1 x6_3 x7_2 (rd x6_2 x7_2) (wrap64 (x9_3 + 1))))) else (none)) else (none)) else (none)) else (none)) = some r := by rw [if_neg (show ¬ (false = true) by decide)] at H; exact H
                   clear H
                   have H := H1
                   clear H1
                   by_cases c26 : 0 ≤ x9_3
                   ·rw [if_pos c26] at H
                    have c26b0 : decide (0 ≤ x9_3) = true := decide_eq_true c26
                    clear c26
                    by_cases c27 : x9_3 < (x4_3.length : Int)
                    ·rw [if_pos c27] at H
                     have c27b0 : decide (x9_3 < (x4_3.length : Int)) = true := decide_eq_true c27
                     clear c27
                     by_cases c28 : 0 ≤ (rd x6_2 x7_2)
                     ·rw [if_pos c28] at H
                      have c28b0 : decide (0 ≤ (rd x6_2 x7_2)) = true := decide_eq_true c28
                      clear c28
                      by_cases c29 : (rd x6_2 x7_2) < (x4_3.length : Int)
                      ·rw [if_pos c29] at H
                       have c29b0 : decide ((rd x6_2 x7_2) < (x4_3.length : Int)) = true := decide_eq_true c29
                       clear c29
                       by_cases c30 : (rd x4_3 x9_3) = (rd x4_3 (rd x6_2 x7_2))
                       ·rw [if_pos c30] at H
                        have c30b0 : ((rd x4_3 x9_3) == (rd x4_3 (rd x6_2 x7_2))) = true := beq_iff_eq.mpr c30
                        have c30b1 : ((rd x4_3 x9_3) != (rd x4_3 (rd x6_2 x7_2))) = false := bne_eq_false_iff_eq.mpr c30
                        clear c30
                        obtain rfl := Option.some.inj H
                        have p673 : 0 ≤ (x9_3 : Int) := of_decide_eq_true (by first | (with_reducible assumption) | assumption)
                        have q673 : x9_3 < (x4_3.length : Int) := of_decide_eq_true (by first | (with_reducible assumption) | assumption)
                        obtain ⟨ad673, e673, hx673_0⟩ := Kd.at_int (Kd.R_reads' HO_4.out).2.2 x9_3 p673 q673
                        obtain rfl : (⟨go10, 0, none⟩ : Addr) = ad673 := (by injection e673)
                        (first | simp only [add_plain] at hx673_0 | simp only [add_at] at hx673_0 | simp only [Addr.add, Nat.zero_add] at hx673_0 | skip)
                        replace p673 := eq_true p673
                        replace q673 := eq_true q673
                        have p674 : 0 ≤ ((rd x6_2 x7_2) : Int) := of_decide_eq_true (by first | (with_reducible assumption) | assumption)
                        have q674 : (rd x6_2 x7_2) < (x4_3.length : Int) := of_decide_eq_true (by first | (with_reducible assumption) | assumption)
                        obtain ⟨ad674, e674, hx674_0⟩ := Kd.at_int (Kd.R_reads' HO_4.out).2.2 (rd x6_2 x7_2) p674 q674
                        obtain rfl : (⟨go10, 0, none⟩ : Addr) = ad674 := (by injection e674)
                        (first | simp only [add_plain] at hx674_0 | simp only [add_at] at hx674_0 | simp only [Addr.add, Nat.zero_add] at hx674_0 | skip)
                        replace p674 := eq_true p674
                        replace q674 := eq_true q674
                        go_wp2
                        repeat (go_quiet (fail); try go_wp2)
                        go_ret
                        exact ⟨by first | rfl | (simp [errW_none, errW_some] <;> rfl) | (simp [*, errW_none, errW_some] <;> rfl), by repeat (first | (with_reducible first | exact HB.out | apply below_alloc | apply pw_below_drewN | apply below_drew1) | exact HB.out)⟩
                       ·rw [if_neg c30] at H
                        have c30b0 : ((rd x4_3 x9_3) == (rd x4_3 (rd x6_2 x7_2))) = false := beq_eq_false_iff_ne.mpr c30
                        have c30b1 : ((rd x4_3 x9_3) != (rd x4_3 (rd x6_2 x7_2))) = true := bne_iff_ne.mpr c30
                        by_cases c31 : (rd x4_3 x9_3) = 0
                        ·rw [if_pos c31] at H
                         have c31b0 : ((rd x4_3 x9_3) == 0) = true := beq_iff_eq.mpr c31
                         have c31b1 : ((rd x4_3 x9_3) != 0) = false := bne_eq_false_iff_eq.mpr c31
                         clear c31
                         obtain ⟨y677, hy677⟩ : ∃ y_ : List Int, y_ = (x4_3.set (x9_3 : Int).toNat (wrap64 (3 - (rd x4_3 (rd x6_2 x7_2))))) := ⟨_, rfl⟩
                         replace H : (if x6_3.length < 17592186044416 then (tickingref02_TwoStacks.l2 kj19 l0 (l0.length : Int) y677 x5_1 (x6_3 ++ [x9_3]) x7_2 (rd x6_2 x7_2) (wrap64 (x9_3 + 1))) else (none)) = some r := by first | (rw [hy677]; with_reducible exact H) | (have H2_ := (Option.bind_some _ _).symm.trans H; rw [hy677]; with_reducible exact H2_) | (have H2_ := (Option.bind_some _ _).symm.trans H; with_reducible exact H2_) | with_reducible exact H | (rw [hy677]; exact H) | exact H
                         have Ny677 := Aside0.mk hy677
                         clear hy677
                         by_cases c33 : x6_3.length < 17592186044416
                         ·rw [if_pos c33] at H
                          have LMc33 := Aside0.mk c33
                          clear c33
                          obtain ⟨y678, hy678⟩ : ∃ y_ : List Int, y_ = (x6_3 ++ [x9_3]) := ⟨_, rfl⟩
                          replace H : (tickingref02_TwoStacks.l2 kj19 l0 (l0.length : Int) y677 x5_1 y678 x7_2 (rd x6_2 x7_2) (wrap64 (x9_3 + 1))) = some r := by first | (rw [hy678]; with_reducible exact H) | (have H2_ := (Option.bind_some _ _).symm.trans H; rw [hy678]; with_reducible exact H2_) | (have H2_ := (Option.bind_some _ _).symm.trans H; with_reducible exact H2_) | with_reducible exact H | (rw [hy678]; exact H) | exact H
                          have Ny678 := Aside0.mk hy678
                          clear hy678
                          have H' := Aside0.mk H
                          clear H
                          have p673 : 0 ≤ (x9_3 : Int) := of_decide_eq_true (by first | (with_reducible assumption) | assumption)
                          have q673 : x9_3 < (x4_3.length : Int) := of_decide_eq_true (by first | (with_reducible assumption) | assumption)
                          obtain ⟨ad673, e673, hx673_0⟩ := Kd.at_int (Kd.R_reads' HO_4.out).2.2 x9_3 p673 q673
                          obtain rfl : (⟨go10, 0, none⟩ : Addr) = ad673 := (by injection e673)
                          (first | simp only [add_plain] at hx673_0 | simp only [add_at] at hx673_0 | simp only [Addr.add, Nat.zero_add] at hx673_0 | skip)
                          replace p673 := eq_true p673
                          replace q673 := eq_true q673
                          have p674 : 0 ≤ ((rd x6_2 x7_2) : Int) := of_decide_eq_true (by first | (with_reducible assumption) | assumption)
                          have q674 : (rd x6_2 x7_2) < (x4_3.length : Int) := of_decide_eq_true (by first | (with_reducible assumption) | assumption)
                          obtain ⟨ad674, e674, hx674_0⟩ := Kd.at_int (Kd.R_reads' HO_4.out).2.2 (rd x6_2 x7_2) p674 q674
                          obtain rfl : (⟨go10, 0, none⟩ : Addr) = ad674 := (by injection e674)
                          (first | simp only [add_plain] at hx674_0 | simp only [add_at] at hx674_0 | simp only [Addr.add, Nat.zero_add] at hx674_0 | skip)
                          replace p674 := eq_true p674
                          replace q674 := eq_true q674
                          have p675 : 0 ≤ (x9_3 : Int) := of_decide_eq_true (by first | (with_reducible assumption) | assumption)
                          have q675 : x9_3 < (x4_3.length : Int) := of_decide_eq_true (by first | (with_reducible assumption) | assumption)
                          obtain ⟨ad675, e675, hx675_0⟩ := Kd.at_int (Kd.R_reads' HO_4.out).2.2 x9_3 p675 q675
                          obtain rfl : (⟨go10, 0, none⟩ : Addr) = ad675 := (by injection e675)
                          (first | simp only [add_plain] at hx675_0 | simp only [add_at] at hx675_0 | simp only [Addr.add, Nat.zero_add] at hx675_0 | skip)
                          replace p675 := eq_true p675
                          replace q675 := eq_true q675
                          have p676 : 0 ≤ ((rd x6_2 x7_2) : Int) := of_decide_eq_true (by first | (with_reducible assumption) | assumption)
                          have q676 : (rd x6_2 x7_2) < (x4_3.length : Int) := of_decide_eq_true (by first | (with_reducible assumption) | assumption)
                          obtain ⟨ad676, e676, hx676_0⟩ := Kd.at_int (Kd.R_reads' HO_4.out).2.2 (rd x6_2 x7_2) p676 q676
                          obtain rfl : (⟨go10, 0, none⟩ : Addr) = ad676 := (by injection e676)
                          (first | simp only [add_plain] at hx676_0 | simp only [add_at] at hx676_0 | simp only [Addr.add, Nat.zero_add] at hx676_0 | skip)
                          replace p676 := eq_true p676
                          replace q676 := eq_true q676
                          have p32 : 0 ≤ (x9_3 : Int) := of_decide_eq_true (by first | (with_reducible assumption) | assumption)
                          have q32 : (x9_3 : Int) < ((x4_3.length : Int) : Int) := of_decide_eq_true (by first | (with_reducible assumption) | assumption)
                          obtain ⟨hx32_0, hf32_0⟩ := Kd.R_celln 0 HO_4.out (x9_3 : Int) p32 q32
                          replace p32 := eq_true p32
                          replace q32 := eq_true q32
                          have HP34 := Kd.R_putg HO_4.out (x9_3 : Int) (wrap64 (3 - (rd x4_3 (rd x6_2 x7_2))))
                          go_wp2_with (first | ((with_reducible refine gate_store (t := 3) (p := 79) rfl ?_); (try (rw [drewN_self wc]; generalize hq_ : World.drewN wc _ = wc; have n0_ := Aside0.mk (Kd.R_at hq_ HO_4.out); have n1_ := Aside0.mk (Kd.R_at hq_ HO_6.out); have n2_ := Aside0.mk (below_at hq_ HB.out); clear hq_ HO_4 HO_6 HB; have HO_4 := n0_; have HO_6 := n1_; have HB := n2_; clear n0_ n1_ n2_; (try (have HP34 := Kd.R_putg HO_4.out (x9_3 : Int) (wrap64 (3 - (rd x4_3 (rd x6_2 x7_2)))))); (try (obtain ⟨hx32_0, hf32_0⟩ := Kd.R_celln 0 HO_4.out (x9_3 : Int) (of_eq_true p32) (of_eq_true q32))))); refine store_event (t := 3) (p := 79) (v := ?vo_w35) (w1 := (wc.setCell ⟨go10, (x9_3 : Int).toNat, none⟩ (.int .i64 (wrap64 (3 - (rd x4_3 (rd x6_2 x7_2))))))) ?hg ?ho ?hn ?hr ?_; (case ho => rfl); (case hg => rfl); (case hn => rfl); (case hr => first | (go_simp; done) | (go_simp; rfl)); intro w35 hw; have hg : wc.grownBy w35 (some go10) := (by rw [hw]; exact HP34.2); have hp_ : Kd.R (Kd.int .i64) 3 w35 w.heap.size (fun k_ => some k_ ≠ (u6 : Value).ownBlock) (.slice (some ⟨go10, 0, none⟩) x4_3.length co11) y677 := (by rw [hw, Ny677.out]; exact HP34.1); clear HP34; have n0_ := Aside0.mk (hp_); have n1_ := Aside0.mk (Kd.R_after (v := (.slice (some ⟨go10, 0, none⟩) x4_3.length co11)) (v1 := (.slice (some ⟨go10, 0, none⟩) x4_3.length co11)) (ok := (fun _ => True)) (by (with_reducible repeat (first | apply Kd.R_alloc | apply Kd.R_drewN | apply Kd.R_drew)); exact Kd.R_mono HO_6.out (fun _ hk => ⟨trivial, hk⟩)) hg (.inl rfl)); have n2_ := Aside0.mk ((by rw [hw]; exact below_set (HB.out) GB10.out : Below w.heap.size w w35)); clear HO_4; clear HO_6; clear HB; have HO_4 := n0_; have HO_6 := n1_; have HB := n2_; clear n0_ n1_ n2_; clear hg hw hp_) | ((with_reducible refine gate_builtin (b := .append) (xs := #[.tmp 80, .tmp 82]) rfl ?_); (try (refine gate_guard (by rfl) ?_; dsimp only)); at_builtin; refine Kd.R_append (Kd.int .i64) (w0 := w) w.heap.size rfl (.tmp 80) (.tmp 82) 22 3 (.int .i64 0) 8 rfl Try.underlying22 info3 rfl (by decide) (by omega) u6 x6_3 x9_3 [.int .i64 x9_3] (fun k_ => some k_ ≠ (.slice (some ⟨go10, 0, none⟩) x4_3.length co11 : Value).ownBlock) (fun _ => False) rfl rfl ?aP (fun _ hk => hk.elim) ?aF ?aO ?aB ?aS ?aL ?_; (case aP => exact rfl); (case aB => exact (by repeat (first | (with_reducible first | exact HB.out | apply below_alloc | apply pw_below_drewN | apply below_drew1) | exact HB.out))); (case aF => exact (fun k_ hk => Kd.fresh' (Kd.R_lt (by (with_reducible repeat (first | apply Kd.R_alloc | apply Kd.R_drewN | apply Kd.R_drew)); exact HO_4.out)) k_ hk)); (case aO => exact (by (with_reducible repeat (first | apply Kd.R_alloc | apply Kd.R_drewN | apply Kd.R_drew)); exact Kd.R_mono HO_6.out (fun _ hk => hk.2))); (case aS => exact (below_size (by repeat (first | (with_reducible first | exact HB.out | apply below_alloc | apply pw_below_drewN | apply below_drew1) | exact HB.out)))); (case aL => have := LMc33.out; omega); intro v679 w36 ho hb hg hat; rw [← Ny678.out] at ho; have n0_ := Aside0.mk (Kd.R_after (ok := (fun _ => True)) (by (with_reducible repeat (first | apply Kd.R_alloc | apply Kd.R_drewN | apply Kd.R_drew)); exact Kd.R_mono HO_4.out (fun _ hk => ⟨trivial, hk⟩)) hg hat); have n1_ := Aside0.mk (hb); have n2_ := Aside0.mk (ho); clear HO_4; clear HB; clear HO_6; have HO_4 := n0_; have HB := n1_; have HO680 := n2_; clear n0_ n1_ n2_; clear ho hb hg hat))
                          repeat (go_quiet (first | ((with_reducible refine gate_store (t := 3) (p := 79) rfl ?_); (try (rw [drewN_self wc]; generalize hq_ : World.drewN wc _ = wc; have n0_ := Aside0.mk (Kd.R_at hq_ HO_4.out); have n1_ := Aside0.mk (Kd.R_at hq_ HO_6.out); have n2_ := Aside0.mk (below_at hq_ HB.out); clear hq_ HO_4 HO_6 HB; have HO_4 := n0_; have HO_6 := n1_; have HB := n2_; clear n0_ n1_ n2_; (try (have HP34 := Kd.R_putg HO_4.out (x9_3 : Int) (wrap64 (3 - (rd x4_3 (rd x6_2 x7_2)))))); (try (obtain ⟨hx32_0, hf32_0⟩ := Kd.R_celln 0 HO_4.out (x9_3 : Int) (of_eq_true p32) (of_eq_true q32))))); refine store_event (t := 3) (p := 79) (v := ?vo_w35) (w1 := (wc.setCell ⟨go10, (x9_3 : Int).toNat, none⟩ (.int .i64 (wrap64 (3 - (rd x4_3 (rd x6_2 x7_2))))))) ?hg ?ho ?hn ?hr ?_; (case ho => rfl); (case hg => rfl); (case hn => rfl); (case hr => first | (go_simp; done) | (go_simp; rfl)); intro w35 hw; have hg : wc.grownBy w35 (some go10) := (by rw [hw]; exact HP34.2); have hp_ : Kd.R (Kd.int .i64) 3 w35 w.heap.size (fun k_ => some k_ ≠ (u6 : Value).ownBlock) (.slice (some ⟨go10, 0, none⟩) x4_3.length co11) y677 := (by rw [hw, Ny677.out]; exact HP34.1); clear HP34; have n0_ := Aside0.mk (hp_); have n1_ := Aside0.mk (Kd.R_after (v := (.slice (some ⟨go10, 0, none⟩) x4_3.length co11)) (v1 := (.slice (some ⟨go10, 0, none⟩) x4_3.length co11)) (ok := (fun _ => True)) (by (with_reducible repeat (first | apply Kd.R_alloc | apply Kd.R_drewN | apply Kd.R_drew)); exact Kd.R_mono HO_6.out (fun _ hk => ⟨trivial, hk⟩)) hg (.inl rfl)); have n2_ := Aside0.mk ((by rw [hw]; exact below_set (HB.out) GB10.out : Below w.heap.size w w35)); clear HO_4; clear HO_6; clear HB; have HO_4 := n0_; have HO_6 := n1_; have HB := n2_; clear n0_ n1_ n2_; clear hg hw hp_) | ((with_reducible refine gate_builtin (b := .append) (xs := #[.tmp 80, .tmp 82]) rfl ?_); (try (refine gate_guard (by rfl) ?_; dsimp only)); at_builtin; refine Kd.R_append (Kd.int .i64) (w0 := w) w.heap.size rfl (.tmp 80) (.tmp 82) 22 3 (.int .i64 0) 8 rfl Try.underlying22 info3 rfl (by decide) (by omega) u6 x6_3 x9_3 [.int .i64 x9_3] (fun k_ => some k_ ≠ (.slice (some ⟨go10, 0, none⟩) x4_3.length co11 : Value).ownBlock) (fun _ => False) rfl rfl ?aP (fun _ hk => hk.elim) ?aF ?aO ?aB ?aS ?aL ?_; (case aP => exact rfl); (case aB => exact (by repeat (first | (with_reducible first | exact HB.out | apply below_alloc | apply pw_below_drewN | apply below_drew1) | exact HB.out))); (case aF => exact (fun k_ hk => Kd.fresh' (Kd.R_lt (by (with_reducible repeat (first | apply Kd.R_alloc | apply Kd.R_drewN | apply Kd.R_drew)); exact HO_4.out)) k_ hk)); (case aO => exact (by (with_reducible repeat (first | apply Kd.R_alloc | apply Kd.R_drewN | apply Kd.R_drew)); exact Kd.R_mono HO_6.out (fun _ hk => hk.2))); (case aS => exact (below_size (by repeat (first | (with_reducible first | exact HB.out | apply below_alloc | apply pw_below_drewN | apply below_drew1) | exact HB.out)))); (case aL => have := LMc33.out; omega); intro v679 w36 ho hb hg hat; rw [← Ny678.out] at ho; have n0_ := Aside0.mk (Kd.R_after (ok := (fun _ => True)) (by (with_reducible repeat (first | apply Kd.R_alloc | apply Kd.R_drewN | apply Kd.R_drew)); exact Kd.R_mono HO_4.out (fun _ hk => ⟨trivial, hk⟩)) hg hat); have n1_ := Aside0.mk (hb); have n2_ := Aside0.mk (ho); clear HO_4; clear HB; clear HO_6; have HO_4 := n0_; have HB := n1_; have HO680 := n2_; clear n0_ n1_ n2_; clear ho hb hg hat)); try go_wp2_with (first | ((with_reducible refine gate_store (t := 3) (p := 79) rfl ?_); (try (rw [drewN_self wc]; generalize hq_ : World.drewN wc _ = wc; have n0_ := Aside0.mk (Kd.R_at hq_ HO_4.out); have n1_ := Aside0.mk (Kd.R_at hq_ HO_6.out); have n2_ := Aside0.mk (below_at hq_ HB.out); clear hq_ HO_4 HO_6 HB; have HO_4 := n0_; have HO_6 := n1_; have HB := n2_; clear n0_ n1_ n2_; (try (have HP34 := Kd.R_putg HO_4.out (x9_3 : Int) (wrap64 (3 - (rd x4_3 (rd x6_2 x7_2)))))); (try (obtain ⟨hx32_0, hf32_0⟩ := Kd.R_celln 0 HO_4.out (x9_3 : Int) (of_eq_true p32) (of_eq_true q32))))); refine store_event (t := 3) (p := 79) (v := ?vo_w35) (w1 := (wc.setCell ⟨go10, (x9_3 : Int).toNat, none⟩ (.int .i64 (wrap64 (3 - (rd x4_3 (rd x6_2 x7_2))))))) ?hg ?ho ?hn ?hr ?_; (case ho => rfl); (case hg => rfl); (case hn => rfl); (case hr => first | (go_simp; done) | (go_simp; rfl)); intro w35 hw; have hg : wc.grownBy w35 (some go10) := (by rw [hw]; exact HP34.2); have hp_ : Kd.R (Kd.int .i64) 3 w35 w.heap.size (fun k_ => some k_ ≠ (u6 : Value).ownBlock) (.slice (some ⟨go10, 0, none⟩) x4_3.length co11) y677 := (by rw [hw, Ny677.out]; exact HP34.1); clear HP34; have n0_ := Aside0.mk (hp_); have n1_ := Aside0.mk (Kd.R_after (v := (.slice (some ⟨go10, 0, none⟩) x4_3.length co11)) (v1 := (.slice (some ⟨go10, 0, none⟩) x4_3.length co11)) (ok := (fun _ => True)) (by (with_reducible repeat (first | apply Kd.R_alloc | apply Kd.R_drewN | apply Kd.R_drew)); exact Kd.R_mono HO_6.out (fun _ hk => ⟨trivial, hk⟩)) hg (.inl rfl)); have n2_ := Aside0.mk ((by rw [hw]; exact below_set (HB.out) GB10.out : Below w.heap.size w w35)); clear HO_4; clear HO_6; clear HB; have HO_4 := n0_; have HO_6 := n1_; have HB := n2_; clear n0_ n1_ n2_; clear hg hw hp_) | ((with_reducible refine gate_builtin (b := .append) (xs := #[.tmp 80, .tmp 82]) rfl ?_); (try (refine gate_guard (by rfl) ?_; dsimp only)); at_builtin; refine Kd.R_append (Kd.int .i64) (w0 := w) w.heap.size rfl (.tmp 80) (.tmp 82) 22 3 (.int .i64 0) 8 rfl Try.underlying22 info3 rfl (by decide) (by omega) u6 x6_3 x9_3 [.int .i64 x9_3] (fun k_ => some k_ ≠ (.slice (some ⟨go10, 0, none⟩) x4_3.length co11 : Value).ownBlock) (fun _ => False) rfl rfl ?aP (fun _ hk => hk.elim) ?aF ?aO ?aB ?aS ?aL ?_; (case aP => exact rfl); (case aB => exact (by repeat (first | (with_reducible first | exact HB.out | apply below_alloc | apply pw_below_drewN | apply below_drew1) | exact HB.out))); (case aF => exact (fun k_ hk => Kd.fresh' (Kd.R_lt (by (with_reducible repeat (first | apply Kd.R_alloc | apply Kd.R_drewN | apply Kd.R_drew)); exact HO_4.out)) k_ hk)); (case aO => exact (by (with_reducible repeat (first | apply Kd.R_alloc | apply Kd.R_drewN | apply Kd.R_drew)); exact Kd.R_mono HO_6.out (fun _ hk => hk.2))); (case aS => exact (below_size (by repeat (first | (with_reducible first | exact HB.out | apply below_alloc | apply pw_below_drewN | apply below_drew1) | exact HB.out)))); (case aL => have := LMc33.out; omega); intro v679 w36 ho hb hg hat; rw [← Ny678.out] at ho; have n0_ := Aside0.mk (Kd.R_after (ok := (fun _ => True)) (by (with_reducible repeat (first | apply Kd.R_alloc | apply Kd.R_drewN | apply Kd.R_drew)); exact Kd.R_mono HO_4.out (fun _ hk => ⟨trivial, hk⟩)) hg hat); have n1_ := Aside0.mk (hb); have n2_ := Aside0.mk (ho); clear HO_4; clear HB; clear HO_6; have HO_4 := n0_; have HB := n1_; have HO680 := n2_; clear n0_ n1_ n2_; clear ho hb hg hat)))
                          (try simp only [← hl4_3])
                          go_roundg kj19
                          case measure => have := HK1.out; have := HK2.out; have := HK3.out; have := HJ19.out; omega
                          case rel => exact ⟨(y677), (y678), (wrap64 (x9_3 + 1)), (by first | rfl | (simp; done) | (simp [*]; done)), H', ⟨by have := HK1.out; have := HK2.out; have := HK3.out; have := HJ19.out; omega⟩, ⟨by (try simp only [hl4_2]); (try simp only [hl4_3]); (with_reducible repeat (first | apply Kd.R_alloc | apply Kd.R_drewN | apply Kd.R_drew)); exact Kd.R_mono HO_4.out (fun _ hk => hk.2)⟩, ⟨by (try simp only [hl4_2]); (try simp only [hl4_3]); (with_reducible repeat (first | apply Kd.R_alloc | apply Kd.R_drewN | apply Kd.R_drew)); exact HO680.out⟩, ⟨by repeat (first | (with_reducible first | exact HB.out | apply below_alloc | apply pw_below_drewN | apply below_drew1) | exact HB.out)⟩⟩
                         ·rw [if_neg c33] at H
                          exact absurd H (by simp)
                        ·rw [if_neg c31] at H
                         have c31b0 : ((rd x4_3 x9_3) == 0) = false := beq_eq_false_iff_ne.mpr c31
                         have c31b1 : ((rd x4_3 x9_3) != 0) = true := bne_iff_ne.mpr c31
                         have H' := Aside0.mk H
                         clear H
                         have p673 : 0 ≤ (x9_3 : Int) := of_decide_eq_true (by first | (with_reducible assumption) | assumption)
                         have q673 : x9_3 < (x4_3.length : Int) := of_decide_eq_true (by first | (with_reducible assumption) | assumption)
                         obtain ⟨ad673, e673, hx673_0⟩ := Kd.at_int (Kd.R_reads' HO_4.out).2.2 x9_3 p673 q673
                         obtain rfl : (⟨go10, 0, none⟩ : Addr) = ad673 := (by injection e673)
                         (first | simp only [add_plain] at hx673_0 | simp only [add_at] at hx673_0 | simp only [Addr.add, Nat.zero_add] at hx673_0 | skip)
                         replace p673 := eq_true p673
                         replace q673 := eq_true q673
                         have p674 : 0 ≤ ((rd x6_2 x7_2) : Int) := of_decide_eq_true (by first | (with_reducible assumption) | assumption)
                         have q674 : (rd x6_2 x7_2) < (x4_3.length : Int) := of_decide_eq_true (by first | (with_reducible assumption) | assumption)
                         obtain ⟨ad674, e674, hx674_0⟩ := Kd.at_int (Kd.R_reads' HO_4.out).2.2 (rd x6_2 x7_2) p674 q674
                         obtain rfl : (⟨go10, 0, none⟩ : Addr) = ad674 := (by injection e674)
                         (first | simp only [add_plain] at hx674_0 | simp only [add_at] at hx674_0 | simp only [Addr.add, Nat.zero_add] at hx674_0 | skip)
                         replace p674 := eq_true p674
                         replace q674 := eq_true q674
                         have p675 : 0 ≤ (x9_3 : Int) := of_decide_eq_true (by first | (with_reducible assumption) | assumption)
                         have q675 : x9_3 < (x4_3.length : Int) := of_decide_eq_true (by first | (with_reducible assumption) | assumption)
                         obtain ⟨ad675, e675, hx675_0⟩ := Kd.at_int (Kd.R_reads' HO_4.out).2.2 x9_3 p675 q675
                         obtain rfl : (⟨go10, 0, none⟩ : Addr) = ad675 := (by injection e675)
                         (first | simp only [add_plain] at hx675_0 | simp only [add_at] at hx675_0 | simp only [Addr.add, Nat.zero_add] at hx675_0 | skip)
                         replace p675 := eq_true p675
                         replace q675 := eq_true q675
                         go_wp2
                         repeat (go_quiet (fail); try go_wp2)
                         (try simp only [← hl4_3])
                         go_roundg kj19
                         case measure => have := HK1.out; have := HK2.out; have := HK3.out; have := HJ19.out; omega
                         case rel => exact ⟨(x4_3), (x6_3), (wrap64 (x9_3 + 1)), (by first | rfl | (simp; done) | (simp [*]; done)), H', ⟨by have := HK1.out; have := HK2.out; have := HK3.out; have := HJ19.out; omega⟩, ⟨by (try simp only [hl4_2]); (try simp only [hl4_3]); (with_reducible repeat (first | apply Kd.R_alloc | apply Kd.R_drewN | apply Kd.R_drew)); exact HO_4.out⟩, ⟨by (try simp only [hl4_2]); (try simp only [hl4_3]); (with_reducible repeat (first | apply Kd.R_alloc | apply Kd.R_drewN | apply Kd.R_drew)); exact HO_6.out⟩, ⟨by repeat (first | (with_reducible first | exact HB.out | apply below_alloc | apply pw_below_drewN | apply below_drew1) | exact HB.out)⟩⟩
                      ·rw [if_neg c29] at H
                       exact absurd H (by simp)
                     ·rw [if_neg c28] at H
                      exact absurd H (by simp)
                    ·rw [if_neg c27] at H
                     exact absurd H (by simp)
                   ·rw [if_neg c26] at H
                    exact absurd H (by simp)
               ·rw [if_neg c19] at H
                have c19b0 : decide (x9_3 < (l0.length : Int)) = false := decide_eq_false c19
                clear c19
                have H' := Aside0.mk H
                clear H
                go_wp2
                repeat (go_quiet (fail); try go_wp2)
                (try simp only [← hl4_2, ← hl4_3])
                go_roundg k3
                case measure => have := HK1.out; have := HK2.out; have := HK3.out; omega
                case rel => exact ⟨(x4_3), (x6_3), (wrap64 (x7_2 + 1)), (by first | rfl | (simp; done) | (simp [*]; done)), H', ⟨by have := HK1.out; have := HK2.out; have := HK3.out; omega⟩, ⟨by (try simp only [hl4_2]); (try simp only [hl4_3]); (with_reducible repeat (first | apply Kd.R_alloc | apply Kd.R_drewN | apply Kd.R_drew)); exact HO_4.out⟩, ⟨by (try simp only [hl4_2]); (try simp only [hl4_3]); (with_reducible repeat (first | apply Kd.R_alloc | apply Kd.R_drewN | apply Kd.R_drew)); exact HO_6.out⟩, ⟨by repeat (first | (with_reducible first | exact HB.out | apply below_alloc | apply pw_below_drewN | apply below_drew1) | exact HB.out)⟩⟩
            ·rw [if_neg c17] at H
             exact absurd H (by simp)
           ·rw [if_neg c16] at H
            have c16b0 : decide (x7_2 < (x6_2.length : Int)) = false := decide_eq_false c16
            clear c16
            have H' := Aside0.mk H
            clear H
            obtain ⟨Ao37, co37, eo37⟩ := Kd.R_slice HO_6.out
            subst eo37
            go_wp2
            repeat (go_quiet (fail); try go_wp2)
            (try simp only [← hl4_2])
            go_roundg k2
            case measure => have := HK1.out; have := HK2.out; omega
            case rel => exact ⟨(x4_2), (wrap64 (x5_1 + 1)), (by first | rfl | (simp; done) | (simp [*]; done)), H', ⟨by have := HK1.out; have := HK2.out; omega⟩, ⟨by (try simp only [hl4_2]); (with_reducible repeat (first | apply Kd.R_alloc | apply Kd.R_drewN | apply Kd.R_drew)); exact Kd.R_mono HO_4.out (fun _ hk => trivial)⟩, ⟨by repeat (first | (with_reducible first | exact HB.out | apply below_alloc | apply pw_below_drewN | apply below_drew1) | exact HB.out)⟩⟩
        ·rw [if_neg c9] at H
         have c9b0 : ((rd x4_1 x5_1) == 0) = false := beq_eq_false_iff_ne.mpr c9
         have c9b1 : ((rd x4_1 x5_1) != 0) = true := bne_iff_ne.mpr c9
         have H' := Aside0.mk H
         clear H
         obtain ⟨Ao38, co38, eo38⟩ := Kd.R_slice HO_4.out
         subst eo38
         have p666 : 0 ≤ (x5_1 : Int) := of_decide_eq_true (by first | (with_reducible assumption) | assumption)
         have q666 : x5_1 < (x4_1.length : Int) := of_decide_eq_true (by first | (with_reducible assumption) | assumption)
         obtain ⟨ad666, e666, hx666_0⟩ := Kd.at_int (Kd.R_reads' HO_4.out).2.2 x5_1 p666 q666
         cases e666
         replace p666 := eq_true p666
         replace q666 := eq_true q666
         go_wp2
         repeat (go_quiet (fail); try go_wp2)
         go_roundg k1
         case measure => have := HK1.out; omega
         case rel => exact ⟨(x4_1), (wrap64 (x5_1 + 1)), (by first | rfl | (simp; done) | (simp [*]; done)), H', ⟨by have := HK1.out; omega⟩, ⟨by (with_reducible repeat (first | apply Kd.R_alloc | apply Kd.R_drewN | apply Kd.R_drew)); exact HO_4.out⟩, ⟨by repeat (first | (with_reducible first | exact HB.out | apply below_alloc | apply pw_below_drewN | apply below_drew1) | exact HB.out)⟩⟩
       ·rw [if_neg c8] at H
        exact absurd H (by simp)
      ·rw [if_neg c7] at H
       exact absurd H (by simp)
     ·rw [if_neg c6] at H
      have c6b0 : decide (x5_1 < (l0.length : Int)) = false := decide_eq_false c6
      clear c6
      obtain rfl := Option.some.inj H
      go_wp2
      repeat (go_quiet (fail); try go_wp2)
      go_ret
      exact ⟨by first | rfl | (simp [errW_none, errW_some] <;> rfl) | (simp [*, errW_none, errW_some] <;> rfl), by repeat (first | (with_reducible first | exact HB.out | apply below_alloc | apply pw_below_drewN | apply below_drew1) | exact HB.out)⟩
  ·rw [if_neg c3] at H
   exact absurd H (by simp)
 ·rw [if_neg c2] at H
  exact absurd H (by simp)
end Go.Proofs.Ytjbjongahnocdaa.S
