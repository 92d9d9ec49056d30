-- Written by wip/bundle2.py: texts of this claim, one behind the other.
import Derived.Test.YtnfmeafiaipplaaBLoopsOnce0
import Derived.StillTailTactics
import Derived.Deep.RegionHeldLaw
import Derived.BigRegion
set_option linter.unusedVariables false
set_option linter.unusedSimpArgs false

namespace Go.Proofs.Ytnfmeafiaipplaa.S
open Go.Proofs.Ytnfmeafiaipplaa.Lib
open Go.Maps (Keyed)
open Go.RowKit Go.Proofs.YtnfmeafiaipplaaW.PrintWords Go.Proofs.YtnfmeafiaipplaaW.PrintLast Go.Proofs.YtnfmeafiaipplaaW.PrintMore
attribute [local go_sem] max2_int min2_int max_two min_two max_three min_three max_four min_four
set_option linter.unusedVariables false
set_option linter.unusedSimpArgs false

mutual
def loops_classes.l0 : Nat → List (S39) → List Int → List (S39) → Int → Int → Option (List Int)
 | 0, _, _, _, _, _ => none
 | k + 1, x0, x3, x14, x15, x16 => if x16 < x15 then (if 0 ≤ x16 then (if x16 < (x14.length : Int) then (if x3.length < 17592186044416 then (loops_classes.l0 k x0 (x3 ++ [(rd_T39 x14 x16).f0]) x14 x15 (wrap64 (x16 + 1))) else (none)) else (none)) else (none)) else ((loops_numbered_int.f x3).bind fun bt121 => (loops_classes.l1 k x0 bt121.1 bt121.2))
def loops_classes.l1 : Nat → List (S39) → List Int → Int → Option (List Int)
 | 0, _, _, _ => none
 | k + 1, x0, x6, x7 => loops_classes.l2 k x0 x6 x7 ([] : List (S98)) x0 (x0.length : Int) 0
def loops_classes.l2 : Nat → List (S39) → List Int → Int → List (S98) → List (S39) → Int → Int → Option (List Int)
 | 0, _, _, _, _, _, _, _ => none
 | k + 1, x0, x6, x7, x8, x31, x32, x33 => if x33 < x32 then (if 0 ≤ x33 then (if x33 < (x31.length : Int) then (if x33 < (x6.length : Int) then ((loops_hasParts.f ((rd_T39 x31 x33).f0) ((rd_T39 x31 x33).f1) ((rd_T39 x31 x33).f2)).bind fun t129 => (if t129 = true then (if 0 ≤ ((rd_T39 x31 x33).f1) then (if ((rd_T39 x31 x33).f1) < (x6.length : Int) then (if 0 ≤ ((rd_T39 x31 x33).f2) then (if ((rd_T39 x31 x33).f2) < (x6.length : Int) then (if x8.length < 4398046511104 then (loops_classes.l2 k x0 x6 x7 (x8 ++ [(⟨rd x6 x33, (rd_T39 x31 x33).f0, rd x6 ((rd_T39 x31 x33).f1), rd x6 ((rd_T39 x31 x33).f2)⟩ : S98)]) x31 x32 (wrap64 (x33 + 1))) else (none)) else (none)) else (none)) else (none)) else (none)) else (if x8.length < 4398046511104 then (loops_classes.l2 k x0 x6 x7 (x8 ++ [(⟨rd x6 x33, (rd_T39 x31 x33).f0, 0, 0⟩ : S98)]) x31 x32 (wrap64 (x33 + 1))) else (none)))) else (none)) else (none)) else (none)) else ((loops_numbered_4_int.f x8).bind fun bt138 => (if bt138.2 = x7 then (some bt138.1) else (loops_classes.l1 k x0 bt138.1 bt138.2)))
end
def loops_classes.f (k : Nat) (l0 : List (S39)) : Option (List Int) := loops_classes.l0 k l0 ([] : List Int) l0 (l0.length : Int) 0
theorem loops_classes.mono_l : ∀ k, (∀ y0 y1 y2 y3 y4, LeO (loops_classes.l0 k y0 y1 y2 y3 y4) (loops_classes.l0 (k + 1) y0 y1 y2 y3 y4)) ∧ (∀ y0 y1 y2, LeO (loops_classes.l1 k y0 y1 y2) (loops_classes.l1 (k + 1) y0 y1 y2)) ∧ (∀ y0 y1 y2 y3 y4 y5 y6, LeO (loops_classes.l2 k y0 y1 y2 y3 y4 y5 y6) (loops_classes.l2 (k + 1) y0 y1 y2 y3 y4 y5 y6))
 | 0 => ⟨fun _ _ _ _ _ r h => by simp [loops_classes.l0] at h, fun _ _ _ r h => by simp [loops_classes.l1] at h, fun _ _ _ _ _ _ _ r h => by simp [loops_classes.l2] at h⟩
 | k + 1 => by
  obtain ⟨ih0, ih1, ih2⟩ := loops_classes.mono_l k
  refine ⟨?_, ?_, ?_⟩
  ·intro y0 y1 y2 y3 y4
   unfold loops_classes.l0
   repeat' first
   | (with_reducible exact ih0 _ _ _ _ _)
   | (with_reducible exact ih1 _ _ _)
   | (with_reducible exact ih2 _ _ _ _ _ _ _)
   | (with_reducible exact LeO.refl _)
   | (with_reducible exact LeO.none _)
   | (with_reducible refine LeO.ite ?_ ?_)
   | (with_reducible refine LeO.bind ?_ (fun _ => ?_))
   | exact ih0 _ _ _ _ _
   | exact ih1 _ _ _
   | exact ih2 _ _ _ _ _ _ _
   | exact LeO.none _
   | refine LeO.ite ?_ ?_
   | refine LeO.bind ?_ (fun _ => ?_)
  ·intro y0 y1 y2
   unfold loops_classes.l1
   repeat' first
   | (with_reducible exact ih0 _ _ _ _ _)
   | (with_reducible exact ih1 _ _ _)
   | (with_reducible exact ih2 _ _ _ _ _ _ _)
   | (with_reducible exact LeO.refl _)
   | (with_reducible exact LeO.none _)
   | (with_reducible refine LeO.ite ?_ ?_)
   | (with_reducible refine LeO.bind ?_ (fun _ => ?_))
   | exact ih0 _ _ _ _ _
   | exact ih1 _ _ _
   | exact ih2 _ _ _ _ _ _ _
   | exact LeO.none _
   | refine LeO.ite ?_ ?_
   | refine LeO.bind ?_ (fun _ => ?_)
  ·intro y0 y1 y2 y3 y4 y5 y6
   unfold loops_classes.l2
   repeat' first
   | (with_reducible exact ih0 _ _ _ _ _)
   | (with_reducible exact ih1 _ _ _)
   | (with_reducible exact ih2 _ _ _ _ _ _ _)
   | (with_reducible exact LeO.refl _)
   | (with_reducible exact LeO.none _)
   | (with_reducible refine LeO.ite ?_ ?_)
   | (with_reducible refine LeO.bind ?_ (fun _ => ?_))
   | exact ih0 _ _ _ _ _
   | exact ih1 _ _ _
   | exact ih2 _ _ _ _ _ _ _
   | exact LeO.none _
   | refine LeO.ite ?_ ?_
   | refine LeO.bind ?_ (fun _ => ?_)
theorem loops_classes.mono : ∀ a0 k, LeO (loops_classes.f k a0) (loops_classes.f (k + 1) a0) := by
 intro a0 k
 obtain ⟨ih0, ih1, ih2⟩ := loops_classes.mono_l k
 unfold loops_classes.f
 repeat' first
   | (with_reducible exact ih0 _ _ _ _ _)
   | (with_reducible exact ih1 _ _ _)
   | (with_reducible exact ih2 _ _ _ _ _ _ _)
   | (with_reducible exact LeO.refl _)
   | (with_reducible exact LeO.none _)
   | (with_reducible refine LeO.ite ?_ ?_)
   | (with_reducible refine LeO.bind ?_ (fun _ => ?_))
   | exact ih0 _ _ _ _ _
   | exact ih1 _ _ _
   | exact ih2 _ _ _ _ _ _ _
   | exact LeO.none _
   | refine LeO.ite ?_ ?_
   | refine LeO.bind ?_ (fun _ => ?_)
def loops_classes.T12 : Bool × List (List Nat × List Nat) := (true, [([], []), ([], []), ([0, 1], [0, 1]), ([2], [2]), ([], []), ([4], [4]), ([3, 5], [3, 5]), ([], []), ([7, 6, 0, 1, 2, 3, 4, 5, 6, 7], [6, 7])])
def loops_classes.B12 : List Nat := [0, 0, 3, 7, 0, 16, 63, 0, 255]
theorem loops_classes.tab12 : rtab .any (opsOf Try.f41 12) = loops_classes.T12 := by kernel_rfl
theorem loops_classes.bits12 : waitsOk loops_classes.T12.2 loops_classes.B12 = true := by kernel_rfl
def loops_classes.T14 : Bool × List (List Nat × List Nat) := (true, [([], []), ([], []), ([1], [1]), ([0, 2], [0, 2]), ([3], [3]), ([], []), ([], []), ([6], [6]), ([5, 7], [5, 7]), ([8], [8]), ([0, 1, 2, 3, 4], []), ([10, 4, 0, 1, 2, 3, 4], [4, 10]), ([0, 1, 2, 3, 4, 5, 6, 7, 8, 9, 10, 11], []), ([12, 9, 11, 0, 1, 2, 3, 4, 5, 6, 7, 8, 9, 10, 11], [9, 12])])
def loops_classes.B14 : List Nat := [0, 0, 2, 7, 15, 0, 0, 64, 224, 480, 31, 1055, 4095, 8191]
theorem loops_classes.tab14 : rtab .any (opsOf Try.f41 14) = loops_classes.T14 := by kernel_rfl
theorem loops_classes.bits14 : waitsOk loops_classes.T14.2 loops_classes.B14 = true := by kernel_rfl
set_option maxHeartbeats 8000000 in
set_option maxRecDepth 100000 in
theorem loops_classes.calls (k : Nat) (A0 : Option Addr) (c0 : Nat) (l0 : List (S39)) (r : List Int) (w : World) (hr0 : Kd.C k39 w A0 l0.length l0) (hc0 : l0.length ≤ c0) (h : loops_classes.f k l0 = some r) :
  Calls Try.prog 41 #[.slice A0 l0.length c0] w fun e w' => ∃ v0_ : Value, e = .returned (v0_) ∧ Kd.R (Kd.int .i64) 3 w' w.heap.size (fun _ => True) v0_ r ∧ Below w.heap.size w w' := by
 have hu39 := Try.underlying39
 have hu98 := Try.underlying98
 have HR0 := Aside0.mk hr0
 have HC0 := Aside0.mk hc0
 clear hr0 hc0
 have HB := Aside0.mk (Below.refl w.heap.size w)
 have H : (loops_classes.l0 k l0 ([] : List Int) l0 (l0.length : Int) 0) = some r := h
 clear h
 have H' := Aside0.mk H
 clear H
 go_enter Try.func41, Try.ntmps41
 go_wp2
 go_loopg [3, 16] k (fun kq v3 v16 w' => ∃ (x3_1 : List Int) (x16_1 : Int), v16 = .int .i64 x16_1 ∧ Aside0 (loops_classes.l0 kq l0 x3_1 l0 (l0.length : Int) x16_1 = some r) ∧ Aside0 (kq ≤ k) ∧ Aside0 (Kd.R (Kd.int .i64) 3 w' w.heap.size (fun _ => True) v3 x3_1) ∧ Aside0 (Below w.heap.size w w'))
 case atStart => exact ⟨(([] : List Int)), (0), (by first | rfl | (simp; done) | (simp [*]; done)), H', ⟨Nat.le_refl _⟩, ⟨by first | exact Kd.R_nil _ _ _ _ _ | exact Kd.N_nil _ _ _ _ _ | exact Kd.V_nil _ _ _ _ _ | exact Kd.Q_nil _ _ _ _ _ | exact Kd.S_nil _ _ _ _ _⟩, ⟨by repeat (first | (with_reducible first | exact HB.out | apply below_alloc | apply pw_below_drewN | apply below_drew1) | exact HB.out)⟩⟩
 clear H'
 obtain ⟨x3_1, x16_1, rfl, HA, HK1, HO_3, HB⟩ := hrel
 cases gk with
 | zero => exact absurd HA.out (by simp [loops_classes.l0])
 | succ k1 =>
  have H := HA.out
  clear HA
  simp only [loops_classes.l0] at H
  by_cases c2 : x16_1 < (l0.length : Int)
  ·rw [if_pos c2] at H
   have c2b0 : decide (x16_1 < (l0.length : Int)) = true := decide_eq_true c2
   clear c2
   by_cases c3 : 0 ≤ x16_1
   rotate_left
   ·rw [if_neg c3] at H
    exact absurd H (by simp)
   rw [if_pos c3] at H
   have c3b0 : decide (0 ≤ x16_1) = true := decide_eq_true c3
   clear c3
   by_cases c4 : x16_1 < (l0.length : Int)
   rotate_left
   ·rw [if_neg c4] at H
    exact absurd H (by simp)
   rw [if_pos c4] at H
   have c4b0 : decide (x16_1 < (l0.length : Int)) = true := decide_eq_true c4
   clear c4
   by_cases c5 : x3_1.length < 17592186044416
   rotate_left
   ·rw [if_neg c5] at H
    exact absurd H (by simp)
   rw [if_pos c5] at H
   have LMc5 := Aside0.mk c5
   clear c5
   obtain ⟨y118, hy118⟩ : ∃ y_ : List Int, y_ = (x3_1 ++ [(rd_T39 l0 x16_1).f0]) := ⟨_, rfl⟩
   replace H : (loops_classes.l0 k1 l0 y118 l0 (l0.length : Int) (wrap64 (x16_1 + 1))) = some r := by first | (rw [hy118]; with_reducible exact H) | (have H2_ := (Option.bind_some _ _).symm.trans H; rw [hy118]; with_reducible exact H2_) | (have H2_ := (Option.bind_some _ _).symm.trans H; with_reducible exact H2_) | with_reducible exact H | (rw [hy118]; exact H) | exact H
   have Ny118 := Aside0.mk hy118
   clear hy118
   have H' := Aside0.mk H
   clear H
   have p116 : 0 ≤ (x16_1 : Int) := of_decide_eq_true (by first | (with_reducible assumption) | assumption)
   have q116 : x16_1 < (l0.length : Int) := of_decide_eq_true (by first | (with_reducible assumption) | assumption)
   obtain ⟨ad116, e116, hx116_0, hx116_1, hx116_2⟩ := at_T39 HR0.out x16_1 p116 q116
   cases e116
   replace hx116_0 := (HB.out.cell (World.block_lt_of_cell? w _ hx116_0)).trans hx116_0
   replace hx116_1 := (HB.out.cell (World.block_lt_of_cell? w _ hx116_1)).trans hx116_1
   replace hx116_2 := (HB.out.cell (World.block_lt_of_cell? w _ hx116_2)).trans hx116_2
   replace p116 := eq_true p116
   replace q116 := eq_true q116
   go_wp2_with (first | ((with_reducible refine gate_dst (N := 5) rfl ?_); refine box_event ?hg (N := 5) ?hd (cs := #[.int .i64 0, .int .i64 0, .int .i64 0]) (t := 39) ?hr ?_; (case hd => rfl); (case hg => rfl); (case hr => first | (go_simp; done) | (go_simp; rfl)); intro gb117 hg w6 hbox hb; have n0_ := Aside0.mk (Kd.R_below (by (with_reducible repeat (first | apply Kd.R_alloc | apply Kd.R_drewN | apply Kd.R_drew)); exact HO_3.out) hb); have n1_ := Aside0.mk (below_step (by repeat (first | (with_reducible first | exact HB.out | apply below_alloc | apply pw_below_drewN | apply below_drew1) | exact HB.out)) hb); have n2_ := Aside0.mk (hbox); have n3_ := Aside0.mk ((by rw [hg]; exact (below_size (by repeat (first | (with_reducible first | exact HB.out | apply below_alloc | apply pw_below_drewN | apply below_drew1) | exact HB.out))) : w.heap.size ≤ gb117)); have n4_ := Aside0.mk ((by rw [hg]; exact (below_size (by repeat (first | (with_reducible first | exact HB.out | apply below_alloc | apply pw_below_drewN | apply below_drew1) | exact HB.out))) : w.heap.size ≤ gb117)); clear HO_3; clear HB; have HO_3 := n0_; have HB := n1_; have BK117 := n2_; have GW117 := n3_; have GE117 := n4_; clear n0_ n1_ n2_ n3_ n4_; clear hb hbox hg; have hcz7_0 : w6.cell? ⟨gb117, 0, none⟩ = some (.int .i64 0) := (blk_cell BK117.out 0).trans rfl; have hcz7_1 : w6.cell? ⟨gb117, 1, none⟩ = some (.int .i64 0) := (blk_cell BK117.out 1).trans rfl; have hcz7_2 : w6.cell? ⟨gb117, 2, none⟩ = some (.int .i64 0) := (blk_cell BK117.out 2).trans rfl; have hfz7_0 := blk_frozen BK117.out 0; have hfz7_1 := blk_frozen BK117.out 1; have hfz7_2 := blk_frozen BK117.out 2) | ((with_reducible refine gate_builtin (b := .append) (xs := #[.tmp 20, .tmp 23]) rfl ?_); at_builtin; refine Kd.R_append (Kd.int .i64) (w0 := w) w.heap.size rfl (.tmp 20) (.tmp 23) 65 3 (.int .i64 0) 8 rfl Try.underlying65 info3 rfl (by decide) (by omega) u3 x3_1 ((rd_T39 l0 x16_1).f0) [.int .i64 ((rd_T39 l0 x16_1).f0)] (fun _ => True) (fun _ => False) rfl (by first | (go_simp; done) | (go_simp; rfl)) ?aP (fun _ hk => hk.elim) ?aF ?aO ?aB ?aS ?aL ?_; (case aP => exact rfl); (case aB => exact (by repeat (first | (with_reducible first | exact HB.out | apply below_alloc | apply pw_below_drewN | apply below_drew1 | refine below_set ?_ GE117.out) | exact HB.out))); (case aF => exact (fun _ _ => trivial)); (case aO => exact (by (with_reducible repeat (first | apply Kd.R_alloc | apply Kd.R_drewN | apply Kd.R_drew)); exact Kd.R_mono (Kd.R_far (p := ⟨gb117, 2, none⟩) (Kd.R_far (p := ⟨gb117, 1, none⟩) (Kd.R_far (p := ⟨gb117, 0, none⟩) (Kd.R_types HO_3.out BK117.out (by decide)) (fun _ hk => hk.2) (.int .i64 ((rd_T39 l0 x16_1).f0))) (fun _ hk => hk.2) (.int .i64 ((rd_T39 l0 x16_1).f1))) (fun _ hk => hk.2) (.int .i64 ((rd_T39 l0 x16_1).f2))) (fun _ hk => trivial))); (case aS => exact (below_size (by repeat (first | (with_reducible first | exact HB.out | apply below_alloc | apply pw_below_drewN | apply below_drew1 | refine below_set ?_ GE117.out) | exact HB.out)))); (case aL => have := LMc5.out; omega); intro v119 w8 ho hb hg hat; rw [← Ny118.out] at ho; have n0_ := Aside0.mk (blk_grown (g := gb117) (o := .cells #[.int .i64 ((rd_T39 l0 x16_1).f0), .int .i64 ((rd_T39 l0 x16_1).f1), .int .i64 ((rd_T39 l0 x16_1).f2)] 39 (0, 0)) (by (with_reducible repeat (first | refine blk_drewN ?_ _ | refine blk_drew ?_ | refine blk_alloc ?_ _)); refine blk_put (cs := #[.int .i64 ((rd_T39 l0 x16_1).f0), .int .i64 ((rd_T39 l0 x16_1).f1), .int .i64 0]) ?_ 2 _ rfl; (with_reducible repeat (first | refine blk_drewN ?_ _ | refine blk_drew ?_ | refine blk_alloc ?_ _)); refine blk_put (cs := #[.int .i64 ((rd_T39 l0 x16_1).f0), .int .i64 0, .int .i64 0]) ?_ 1 _ rfl; (with_reducible repeat (first | refine blk_drewN ?_ _ | refine blk_drew ?_ | refine blk_alloc ?_ _)); refine blk_put (cs := #[.int .i64 0, .int .i64 0, .int .i64 0]) ?_ 0 _ rfl; (with_reducible repeat (first | refine blk_drewN ?_ _ | refine blk_drew ?_ | refine blk_alloc ?_ _)); exact BK117.out) hg (Kd.R_ne HO_3.out BK117.out (by decide))); have n1_ := Aside0.mk (hb); have n2_ := Aside0.mk (ho); clear BK117; clear HB; clear HO_3; have BK117 := n0_; have HB := n1_; have HO120 := n2_; clear n0_ n1_ n2_; clear ho hb hg hat))
   go_roundg k1
   case measure => have := HK1.out; omega
   exact ⟨(y118), (wrap64 (x16_1 + 1)), (by first | rfl | (simp; done) | (simp [*]; done)), H', ⟨by have := HK1.out; omega⟩, ⟨by (with_reducible repeat (first | apply Kd.R_alloc | apply Kd.R_drewN | apply Kd.R_drew)); exact HO120.out⟩, ⟨by repeat (first | (with_reducible first | exact HB.out | apply below_alloc | apply pw_below_drewN | apply below_drew1 | refine below_set ?_ GE117.out) | exact HB.out)⟩⟩
  rw [if_neg c2] at H
  have c2b0 : decide (x16_1 < (l0.length : Int)) = false := decide_eq_false c2
  clear c2
  replace H := Option.bind_eq_some_iff.mp H
  obtain ⟨⟨t121, t122⟩, A90, H⟩ := H
  replace H : (loops_classes.l1 k1 l0 t121 t122) = some r := H
  have A9 := Aside0.mk A90
  clear A90
  have H' := Aside0.mk H
  clear H
  obtain ⟨Ao10, co10, eo10⟩ := Kd.R_slice HO_3.out
  subst eo10
  go_wp2_with (first | ((with_reducible refine gate_callee (f := 62) rfl ?_); refine goesL_ (some 28) rfl rfl Try.func62 (by kernel_rfl) rfl #[.slice Ao10 x3_1.length co10] rfl (by (try simp only [List.map_toArray, List.map_cons, List.map_nil]); first | done | rfl | (simp only [List.length_drop, List.length_take]; rfl)) ?_; (with_reducible refine (loops_numbered_int.calls _ _ x3_1 t121 t122 _ ?side1 ?side2 A9.out).mono ?_); (case side1 => repeat (first | exact (Kd.R_reads' HO_3.out).2.2 | (with_reducible refine Kd.C_alloc ?_ _) | (with_reducible refine Kd.C_drewN ?_ _) | (with_reducible refine Kd.C_drew ?_))); (case side2 => exact (Kd.R_reads' HO_3.out).2.1); rintro e w11 ⟨v123, rfl, ho0, hb⟩; refine ⟨_, rfl, ?_⟩; have n0_ := Aside0.mk (Kd.R_elder' (by (with_reducible repeat (first | apply Kd.R_alloc | apply Kd.R_drewN | apply Kd.R_drew)); exact HO_3.out) (Kd.R_base ho0) hb); have n1_ := Aside0.mk (Kd.R_lower (Kd.R_new' ho0 (Kd.R_lt (by (with_reducible repeat (first | apply Kd.R_alloc | apply Kd.R_drewN | apply Kd.R_drew)); exact HO_3.out))) (below_size (by repeat (first | (with_reducible first | exact HB.out | apply below_alloc | apply pw_below_drewN | apply below_drew1) | exact HB.out)))); have n2_ := Aside0.mk (below_step (by repeat (first | (with_reducible first | exact HB.out | apply below_alloc | apply pw_below_drewN | apply below_drew1) | exact HB.out)) hb); clear HO_3; clear HB; have HO_3 := n0_; have HO124 := n1_; have HB := n2_; clear n0_ n1_ n2_; (try clear hb); (try clear hb2); (try clear hk); (try clear hi); (try clear ho0)))
  go_loopg [6, 7] k1 (fun kq v6 v7 w' => ∃ (x6_2 : List Int) (x7_2 : Int), v7 = .int .i64 x7_2 ∧ Aside0 (loops_classes.l1 kq l0 x6_2 x7_2 = some r) ∧ Aside0 (kq ≤ k1) ∧ Aside0 (Kd.R (Kd.int .i64) 3 w' w.heap.size (fun _ => True) v6 x6_2) ∧ Aside0 (Below w.heap.size w w'))
  case atStart => exact ⟨(t121), (t122), (by first | rfl | (simp; done) | (simp [*]; done)), H', ⟨Nat.le_refl _⟩, ⟨by (with_reducible repeat (first | apply Kd.R_alloc | apply Kd.R_drewN | apply Kd.R_drew)); exact Kd.R_mono HO124.out (fun _ hk => trivial)⟩, ⟨by repeat (first | (with_reducible first | exact HB.out | apply below_alloc | apply pw_below_drewN | apply below_drew1) | exact HB.out)⟩⟩
  clear H'
  try clear p1
  try clear q1
  try clear hx1
  try clear c2
  try clear c2b0
  try clear p2
  try clear c3
  try clear c3b0
  try clear c4
  try clear c4b0
  try clear c5
  try clear c6
  try clear p6
  try clear p11
  try clear q11
  try clear hx11
  try clear hcz7_0
  try clear hcz7_1
  try clear hcz7_2
  try clear hfz7_0
  try clear hfz7_1
  try clear hfz7_2
  try clear hx116_0
  try clear hx116_1
  try clear hx116_2
  try clear p116
  try clear q116
  obtain ⟨x6_2, x7_2, rfl, HA, HK2, HO_6, HB⟩ := hrel
  cases gk with
  | zero => exact absurd HA.out (by simp [loops_classes.l1])
  | succ k2 =>
   have H := HA.out
   clear HA
   simp only [loops_classes.l1] at H
   have H' := Aside0.mk H
   clear H
   go_wp2
   go_loopg [8, 33] k2 (fun kq v8 v33 w' => ∃ (x8_3 : List (S98)) (x33_3 : Int), v33 = .int .i64 x33_3 ∧ Aside0 (loops_classes.l2 kq l0 x6_2 x7_2 x8_3 l0 (l0.length : Int) x33_3 = some r) ∧ Aside0 (kq ≤ k2) ∧ Aside0 (Kd.R (Kd.int .i64) 3 w' w.heap.size (fun _ => True) u6 x6_2) ∧ Aside0 (Kd.R k98 98 w' w.heap.size (fun _ => True) v8 x8_3) ∧ Aside0 (Below w.heap.size w w'))
   case atStart => exact ⟨(([] : List (S98))), (0), (by first | rfl | (simp; done) | (simp [*]; done)), H', ⟨Nat.le_refl _⟩, ⟨by (with_reducible repeat (first | apply Kd.R_alloc | apply Kd.R_drewN | apply Kd.R_drew)); exact HO_6.out⟩, ⟨by first | exact Kd.R_nil _ _ _ _ _ | exact Kd.N_nil _ _ _ _ _ | exact Kd.V_nil _ _ _ _ _ | exact Kd.Q_nil _ _ _ _ _ | exact Kd.S_nil _ _ _ _ _⟩, ⟨by repeat (first | (with_reducible first | exact HB.out | apply below_alloc | apply pw_below_drewN | apply below_drew1) | exact HB.out)⟩⟩
   clear H'
   try clear p1
   try clear q1
   try clear hx1
   try clear c2
   try clear c2b0
   try clear p2
   try clear c3
   try clear c3b0
   try clear c4
   try clear c4b0
   try clear c5
   try clear c6
   try clear p6
   try clear p11
   try clear q11
   try clear hx11
   try clear hcz7_0
   try clear hcz7_1
   try clear hcz7_2
   try clear hfz7_0
   try clear hfz7_1
   try clear hfz7_2
   try clear hx116_0
   try clear hx116_1
   try clear hx116_2
   try clear p1
   try clear p11
   try clear p116
   try clear p2
   try clear p6
   try clear q1
   try clear q11
   try clear q116
   obtain ⟨x8_3, x33_3, rfl, HA, HK3, HO_6, HO_8, HB⟩ := hrel
   cases gk with
   | zero => exact absurd HA.out (by simp [loops_classes.l2])
   | succ k3 =>
    have H := HA.out
    clear HA
    simp only [loops_classes.l2] at H
    by_cases c12 : x33_3 < (l0.length : Int)
    rotate_left
    ·rw [if_neg c12] at H
     have c12b0 : decide (x33_3 < (l0.length : Int)) = false := decide_eq_false c12
     clear c12
     replace H := Option.bind_eq_some_iff.mp H
     obtain ⟨⟨t138, t139⟩, A570, H⟩ := H
     replace H : (if t139 = x7_2 then (some t138) else (loops_classes.l1 k3 l0 t138 t139)) = some r := H
     have A57 := Aside0.mk A570
     clear A570
     by_cases c58 : t139 = x7_2
     ·rw [if_pos c58] at H
      have c58b0 : (t139 == x7_2) = true := beq_iff_eq.mpr c58
      have c58b1 : (t139 != x7_2) = false := bne_eq_false_iff_eq.mpr c58
      clear c58
      obtain rfl := Option.some.inj H
      obtain ⟨Ao59, co59, eo59⟩ := Kd.R_slice HO_8.out
      subst eo59
      go_wp2_with (first | ((with_reducible refine gate_callee (f := 63) rfl ?_); refine goesL_ (some 66) rfl rfl Try.func63 (by kernel_rfl) rfl #[.slice Ao59 x8_3.length co59] rfl (by (try simp only [List.map_toArray, List.map_cons, List.map_nil]); first | done | rfl | (simp only [List.length_drop, List.length_take]; rfl)) ?_; (with_reducible refine (loops_numbered_4_int.calls _ _ x8_3 t138 t139 _ ?side1 ?side2 A57.out).mono ?_); (case side1 => repeat (first | exact (Kd.R_reads' HO_8.out).2.2 | (with_reducible refine Kd.C_alloc ?_ _) | (with_reducible refine Kd.C_drewN ?_ _) | (with_reducible refine Kd.C_drew ?_))); (case side2 => exact (Kd.R_reads' HO_8.out).2.1); rintro e w60 ⟨v140, rfl, ho0, hb⟩; refine ⟨_, rfl, ?_⟩; have n0_ := Aside0.mk (Kd.R_elder' (by (with_reducible repeat (first | apply Kd.R_alloc | apply Kd.R_drewN | apply Kd.R_drew)); exact HO_6.out) (Kd.R_base ho0) hb); have n1_ := Aside0.mk (Kd.R_below (by (with_reducible repeat (first | apply Kd.R_alloc | apply Kd.R_drewN | apply Kd.R_drew)); exact HO_8.out) hb); have n2_ := Aside0.mk (Kd.R_lower (Kd.R_new' ho0 (Kd.R_lt (by (with_reducible repeat (first | apply Kd.R_alloc | apply Kd.R_drewN | apply Kd.R_drew)); exact HO_6.out))) (below_size (by repeat (first | (with_reducible first | exact HB.out | apply below_alloc | apply pw_below_drewN | apply below_drew1) | exact HB.out)))); have n3_ := Aside0.mk (below_step (by repeat (first | (with_reducible first | exact HB.out | apply below_alloc | apply pw_below_drewN | apply below_drew1) | exact HB.out)) hb); clear HO_6; clear HO_8; clear HB; have HO_6 := n0_; have HO_8 := n1_; have HO141 := n2_; have HB := n3_; clear n0_ n1_ n2_ n3_; (try clear hb); (try clear hb2); (try clear hk); (try clear hi); (try clear ho0)))
      go_ret
      exact ⟨_, by first | rfl | (simp [errW_none, errW_some] <;> rfl) | (simp [*, errW_none, errW_some] <;> rfl), by (with_reducible repeat (first | apply Kd.R_alloc | apply Kd.R_drewN | apply Kd.R_drew)); exact Kd.R_mono HO141.out (fun _ hk => trivial), by repeat (first | (with_reducible first | exact HB.out | apply below_alloc | apply pw_below_drewN | apply below_drew1) | exact HB.out)⟩
     rw [if_neg c58] at H
     have c58b0 : (t139 == x7_2) = false := beq_eq_false_iff_ne.mpr c58
     have c58b1 : (t139 != x7_2) = true := bne_iff_ne.mpr c58
     have H' := Aside0.mk H
     clear H
     obtain ⟨Ao61, co61, eo61⟩ := Kd.R_slice HO_8.out
     subst eo61
     go_wp2_with (first | ((with_reducible refine gate_callee (f := 63) rfl ?_); refine goesL_ (some 66) rfl rfl Try.func63 (by kernel_rfl) rfl #[.slice Ao61 x8_3.length co61] rfl (by (try simp only [List.map_toArray, List.map_cons, List.map_nil]); first | done | rfl | (simp only [List.length_drop, List.length_take]; rfl)) ?_; (with_reducible refine (loops_numbered_4_int.calls _ _ x8_3 t138 t139 _ ?side1 ?side2 A57.out).mono ?_); (case side1 => repeat (first | exact (Kd.R_reads' HO_8.out).2.2 | (with_reducible refine Kd.C_alloc ?_ _) | (with_reducible refine Kd.C_drewN ?_ _) | (with_reducible refine Kd.C_drew ?_))); (case side2 => exact (Kd.R_reads' HO_8.out).2.1); rintro e w62 ⟨v140, rfl, ho0, hb⟩; refine ⟨_, rfl, ?_⟩; have n0_ := Aside0.mk (Kd.R_elder' (by (with_reducible repeat (first | apply Kd.R_alloc | apply Kd.R_drewN | apply Kd.R_drew)); exact HO_6.out) (Kd.R_base ho0) hb); have n1_ := Aside0.mk (Kd.R_below (by (with_reducible repeat (first | apply Kd.R_alloc | apply Kd.R_drewN | apply Kd.R_drew)); exact HO_8.out) hb); have n2_ := Aside0.mk (Kd.R_lower (Kd.R_new' ho0 (Kd.R_lt (by (with_reducible repeat (first | apply Kd.R_alloc | apply Kd.R_drewN | apply Kd.R_drew)); exact HO_6.out))) (below_size (by repeat (first | (with_reducible first | exact HB.out | apply below_alloc | apply pw_below_drewN | apply below_drew1) | exact HB.out)))); have n3_ := Aside0.mk (below_step (by repeat (first | (with_reducible first | exact HB.out | apply below_alloc | apply pw_below_drewN | apply below_drew1) | exact HB.out)) hb); clear HO_6; clear HO_8; clear HB; have HO_6 := n0_; have HO_8 := n1_; have HO141 := n2_; have HB := n3_; clear n0_ n1_ n2_ n3_; (try clear hb); (try clear hb2); (try clear hk); (try clear hi); (try clear ho0)))
     go_roundg k3
     case measure => have := HK1.out; have := HK2.out; have := HK3.out; omega
     exact ⟨(t138), (t139), (by first | rfl | (simp; done) | (simp [*]; done)), H', ⟨by have := HK1.out; have := HK2.out; have := HK3.out; omega⟩, ⟨by (with_reducible repeat (first | apply Kd.R_alloc | apply Kd.R_drewN | apply Kd.R_drew)); exact Kd.R_mono HO141.out (fun _ hk => trivial)⟩, ⟨by repeat (first | (with_reducible first | exact HB.out | apply below_alloc | apply pw_below_drewN | apply below_drew1) | exact HB.out)⟩⟩
    rw [if_pos c12] at H
    have c12b0 : decide (x33_3 < (l0.length : Int)) = true := decide_eq_true c12
    clear c12
    by_cases c13 : 0 ≤ x33_3
    rotate_left
    ·rw [if_neg c13] at H
     exact absurd H (by simp)
    rw [if_pos c13] at H
    have c13b0 : decide (0 ≤ x33_3) = true := decide_eq_true c13
    clear c13
    by_cases c14 : x33_3 < (l0.length : Int)
    rotate_left
    ·rw [if_neg c14] at H
     exact absurd H (by simp)
    rw [if_pos c14] at H
    have c14b0 : decide (x33_3 < (l0.length : Int)) = true := decide_eq_true c14
    clear c14
    by_cases c15 : x33_3 < (x6_2.length : Int)
    rotate_left
    ·rw [if_neg c15] at H
     exact absurd H (by simp)
    rw [if_pos c15] at H
    have c15b0 : decide (x33_3 < (x6_2.length : Int)) = true := decide_eq_true c15
    clear c15
    replace H := Option.bind_eq_some_iff.mp H
    obtain ⟨t129, A160, H⟩ := H
    replace H : (if t129 = true then (if 0 ≤ ((rd_T39 l0 x33_3).f1) then (if ((rd_T39 l0 x33_3).f1) < (x6_2.length : Int) then (if 0 ≤ ((rd_T39 l0 x33_3).f2) then (if ((rd_T39 l0 x33_3).f2) < (x6_2.length : Int) then (if x8_3.length < 4398046511104 then (loops_classes.l2 k3 l0 x6_2 x7_2 (x8_3 ++ [(⟨rd x6_2 x33_3, (rd_T39 l0 x33_3).f0, rd x6_2 ((rd_T39 l0 x33_3).f1), rd x6_2 ((rd_T39 l0 x33_3).f2)⟩ : S98)]) l0 (l0.length : Int) (wrap64 (x33_3 + 1))) else (none)) else (none)) else (none)) else (none)) else (none)) else (if x8_3.length < 4398046511104 then (loops_classes.l2 k3 l0 x6_2 x7_2 (x8_3 ++ [(⟨rd x6_2 x33_3, (rd_T39 l0 x33_3).f0, 0, 0⟩ : S98)]) l0 (l0.length : Int) (wrap64 (x33_3 + 1))) else (none))) = some r := H
    have A16 := Aside0.mk A160
    clear A160
    by_cases c17 : t129 = true
    rotate_left
    ·replace c17 := Bool.eq_false_iff.mpr c17
     subst c17
     have H1 : (if x8_3.length < 4398046511104 then (loops_classes.l2 k3 l0 x6_2 x7_2 (x8_3 ++ [(⟨rd x6_2 x33_3, (rd_T39 l0 x33_3).f0, 0, 0⟩ : S98)]) l0 (l0.length : Int) (wrap64 (x33_3 + 1))) else (none)) = some r := by rw [if_neg (show ¬ (false = true) by decide)] at H; exact H
     clear H
     have H := H1
     clear H1
     by_cases c41 : x8_3.length < 4398046511104
     rotate_left
     ·rw [if_neg c41] at H
      exact absurd H (by simp)
     rw [if_pos c41] at H
     have LMc41 := Aside0.mk c41
     clear c41
     obtain ⟨y135, hy135⟩ : ∃ y_ : List (S98), y_ = (x8_3 ++ [(⟨rd x6_2 x33_3, (rd_T39 l0 x33_3).f0, 0, 0⟩ : S98)]) := ⟨_, rfl⟩
     replace H : (loops_classes.l2 k3 l0 x6_2 x7_2 y135 l0 (l0.length : Int) (wrap64 (x33_3 + 1))) = some r := by first | (rw [hy135]; with_reducible exact H) | (have H2_ := (Option.bind_some _ _).symm.trans H; rw [hy135]; with_reducible exact H2_) | (have H2_ := (Option.bind_some _ _).symm.trans H; with_reducible exact H2_) | with_reducible exact H | (rw [hy135]; exact H) | exact H
     have Ny135 := Aside0.mk hy135
     clear hy135
     have H' := Aside0.mk H
     clear H
     have p125 : 0 ≤ (x33_3 : Int) := of_decide_eq_true (by first | (with_reducible assumption) | assumption)
     have q125 : x33_3 < (l0.length : Int) := of_decide_eq_true (by first | (with_reducible assumption) | assumption)
     obtain ⟨ad125, e125, hx125_0, hx125_1, hx125_2⟩ := at_T39 HR0.out x33_3 p125 q125
     cases e125
     replace hx125_0 := (HB.out.cell (World.block_lt_of_cell? w _ hx125_0)).trans hx125_0
     replace hx125_1 := (HB.out.cell (World.block_lt_of_cell? w _ hx125_1)).trans hx125_1
     replace hx125_2 := (HB.out.cell (World.block_lt_of_cell? w _ hx125_2)).trans hx125_2
     replace p125 := eq_true p125
     replace q125 := eq_true q125
     try go_wp2_with (first | ((with_reducible refine gate_dst (N := 10) rfl ?_); refine box_event ?hg (N := 10) ?hd (cs := #[.int .i64 0, .int .i64 0, .int .i64 0]) (t := 39) ?hr ?_; (case hd => rfl); (case hg => rfl); (case hr => first | (go_simp; done) | (go_simp; rfl)); intro gb126 hg w42 hbox hb; have n0_ := Aside0.mk (Kd.R_below (by (with_reducible repeat (first | apply Kd.R_alloc | apply Kd.R_drewN | apply Kd.R_drew)); exact HO_6.out) hb); have n1_ := Aside0.mk (Kd.R_below (by (with_reducible repeat (first | apply Kd.R_alloc | apply Kd.R_drewN | apply Kd.R_drew)); exact HO_8.out) hb); have n2_ := Aside0.mk (below_step (by repeat (first | (with_reducible first | exact HB.out | apply below_alloc | apply pw_below_drewN | apply below_drew1) | exact HB.out)) hb); have n3_ := Aside0.mk (hbox); have n4_ := Aside0.mk ((by rw [hg]; exact (below_size (by repeat (first | (with_reducible first | exact HB.out | apply below_alloc | apply pw_below_drewN | apply below_drew1) | exact HB.out))) : w.heap.size ≤ gb126)); have n5_ := Aside0.mk ((by rw [hg]; exact (below_size (by repeat (first | (with_reducible first | exact HB.out | apply below_alloc | apply pw_below_drewN | apply below_drew1) | exact HB.out))) : w.heap.size ≤ gb126)); clear HO_6; clear HO_8; clear HB; have HO_6 := n0_; have HO_8 := n1_; have HB := n2_; have BK126 := n3_; have GW126 := n4_; have GE126 := n5_; clear n0_ n1_ n2_ n3_ n4_ n5_; clear hb hbox hg; have hcz43_0 : w42.cell? ⟨gb126, 0, none⟩ = some (.int .i64 0) := (blk_cell BK126.out 0).trans rfl; have hcz43_1 : w42.cell? ⟨gb126, 1, none⟩ = some (.int .i64 0) := (blk_cell BK126.out 1).trans rfl; have hcz43_2 : w42.cell? ⟨gb126, 2, none⟩ = some (.int .i64 0) := (blk_cell BK126.out 2).trans rfl; have hfz43_0 := blk_frozen BK126.out 0; have hfz43_1 := blk_frozen BK126.out 1; have hfz43_2 := blk_frozen BK126.out 2))
     have n0_ : Aside0 (Kd.R (Kd.int .i64) 3 (((w42.setCell ⟨gb126, 0, none⟩ (.int .i64 ((rd_T39 l0 x33_3).f0))).setCell ⟨gb126, 1, none⟩ (.int .i64 ((rd_T39 l0 x33_3).f1))).setCell ⟨gb126, 2, none⟩ (.int .i64 ((rd_T39 l0 x33_3).f2))) w.heap.size (fun _ => True) u6 x6_2) := ⟨by (with_reducible repeat (first | apply Kd.R_alloc | apply Kd.R_drewN | apply Kd.R_drew)); exact Kd.R_mono (Kd.R_far (p := ⟨gb126, 2, none⟩) (Kd.R_far (p := ⟨gb126, 1, none⟩) (Kd.R_far (p := ⟨gb126, 0, none⟩) (Kd.R_types HO_6.out BK126.out (by decide)) (fun _ hk => hk.2) (.int .i64 ((rd_T39 l0 x33_3).f0))) (fun _ hk => hk.2) (.int .i64 ((rd_T39 l0 x33_3).f1))) (fun _ hk => hk.2) (.int .i64 ((rd_T39 l0 x33_3).f2))) (fun _ hk => trivial)⟩
     have n1_ : Aside0 (Kd.R k98 98 (((w42.setCell ⟨gb126, 0, none⟩ (.int .i64 ((rd_T39 l0 x33_3).f0))).setCell ⟨gb126, 1, none⟩ (.int .i64 ((rd_T39 l0 x33_3).f1))).setCell ⟨gb126, 2, none⟩ (.int .i64 ((rd_T39 l0 x33_3).f2))) w.heap.size (fun _ => True) u8 x8_3) := ⟨by (with_reducible repeat (first | apply Kd.R_alloc | apply Kd.R_drewN | apply Kd.R_drew)); exact Kd.R_mono (Kd.R_far (p := ⟨gb126, 2, none⟩) (Kd.R_far (p := ⟨gb126, 1, none⟩) (Kd.R_far (p := ⟨gb126, 0, none⟩) (Kd.R_types HO_8.out BK126.out (by decide)) (fun _ hk => hk.2) (.int .i64 ((rd_T39 l0 x33_3).f0))) (fun _ hk => hk.2) (.int .i64 ((rd_T39 l0 x33_3).f1))) (fun _ hk => hk.2) (.int .i64 ((rd_T39 l0 x33_3).f2))) (fun _ hk => trivial)⟩
     have n2_ : Aside0 ((((w42.setCell ⟨gb126, 0, none⟩ (.int .i64 ((rd_T39 l0 x33_3).f0))).setCell ⟨gb126, 1, none⟩ (.int .i64 ((rd_T39 l0 x33_3).f1))).setCell ⟨gb126, 2, none⟩ (.int .i64 ((rd_T39 l0 x33_3).f2))).heap[gb126]? = some (.cells #[.int .i64 ((rd_T39 l0 x33_3).f0), .int .i64 ((rd_T39 l0 x33_3).f1), .int .i64 ((rd_T39 l0 x33_3).f2)] 39 (0, 0))) := ⟨by (with_reducible repeat (first | refine blk_drewN ?_ _ | refine blk_drew ?_ | refine blk_alloc ?_ _)); refine blk_put (cs := #[.int .i64 ((rd_T39 l0 x33_3).f0), .int .i64 ((rd_T39 l0 x33_3).f1), .int .i64 0]) ?_ 2 _ rfl; (with_reducible repeat (first | refine blk_drewN ?_ _ | refine blk_drew ?_ | refine blk_alloc ?_ _)); refine blk_put (cs := #[.int .i64 ((rd_T39 l0 x33_3).f0), .int .i64 0, .int .i64 0]) ?_ 1 _ rfl; (with_reducible repeat (first | refine blk_drewN ?_ _ | refine blk_drew ?_ | refine blk_alloc ?_ _)); refine blk_put (cs := #[.int .i64 0, .int .i64 0, .int .i64 0]) ?_ 0 _ rfl; (with_reducible repeat (first | refine blk_drewN ?_ _ | refine blk_drew ?_ | refine blk_alloc ?_ _)); exact BK126.out⟩
     have n3_ : Aside0 (Below w.heap.size w (((w42.setCell ⟨gb126, 0, none⟩ (.int .i64 ((rd_T39 l0 x33_3).f0))).setCell ⟨gb126, 1, none⟩ (.int .i64 ((rd_T39 l0 x33_3).f1))).setCell ⟨gb126, 2, none⟩ (.int .i64 ((rd_T39 l0 x33_3).f2)))) := ⟨by repeat (first | (with_reducible first | exact HB.out | apply below_alloc | apply pw_below_drewN | apply below_drew1 | refine below_set ?_ GE126.out) | exact HB.out)⟩
     (try clear HO_6)
     (try clear HO_8)
     (try clear BK126)
     (try clear HB)
     generalize (((w42.setCell ⟨gb126, 0, none⟩ (.int .i64 ((rd_T39 l0 x33_3).f0))).setCell ⟨gb126, 1, none⟩ (.int .i64 ((rd_T39 l0 x33_3).f1))).setCell ⟨gb126, 2, none⟩ (.int .i64 ((rd_T39 l0 x33_3).f2))) = w44 at n0_ n1_ n2_ n3_ ⊢
     have HO_6 := n0_
     have HO_8 := n1_
     have BK126 := n2_
     have HB := n3_
     clear n0_ n1_ n2_ n3_
     have n0_ := Aside0.mk (Kd.R_drew HO_6.out)
     have n1_ := Aside0.mk (Kd.R_drew HO_8.out)
     have n2_ := Aside0.mk (blk_drew BK126.out)
     have n3_ := Aside0.mk (below_drew1 HB.out)
     clear HO_6
     clear HO_8
     clear BK126
     clear HB
     have HO_6 := n0_
     have HO_8 := n1_
     have BK126 := n2_
     have HB := n3_
     clear n0_ n1_ n2_ n3_
     obtain ⟨Ao46, co46, eo46⟩ := Kd.R_slice HO_6.out
     (first | subst eo46 | (injection eo46 with f1_ f2_ f3_; have f4_ := f1_.symm; have f5_ := f3_.symm; clear f1_ f2_ f3_; subst f4_; subst f5_))
     have p127 : 0 ≤ (x33_3 : Int) := of_decide_eq_true (by first | (with_reducible assumption) | assumption)
     have q127 : x33_3 < (x6_2.length : Int) := of_decide_eq_true (by first | (with_reducible assumption) | assumption)
     obtain ⟨ad127, e127, hx127_0⟩ := Kd.at_int (Kd.R_reads' HO_6.out).2.2 x33_3 p127 q127
     cases e127
     replace p127 := eq_true p127
     replace q127 := eq_true q127
     refine start_ (n := 9) (S := fun w' => w'.cell? ⟨gb126, 0, none⟩ = some (.int .i64 ((rd_T39 l0 x33_3).f0)) ∧ w'.cell? ⟨gb126, 1, none⟩ = some (.int .i64 ((rd_T39 l0 x33_3).f1)) ∧ w'.cell? ⟨gb126, 2, none⟩ = some (.int .i64 ((rd_T39 l0 x33_3).f2)) ∧ w'.cell? (ad127.add (x33_3).toNat) = some (.int .i64 (rd x6_2 x33_3))) (ds := []) #[false, false, false, false, false, false, false, false, false] (by kernel_rfl) rfl rfl ⟨(blk_cell BK126.out 0).trans rfl, (blk_cell BK126.out 1).trans rfl, (blk_cell BK126.out 2).trans rfl, hx127_0⟩ (fun hHeld => ?_); refine with_tabW loops_classes.tab12 loops_classes.bits12 (fun HT_ HW_ => ?_)
     generalize w44.drew = w45 at HO_6 HO_8 BK126 HB hx127_0 hHeld ⊢
     refine pure_ (i := 0) (N := some 38) (v := ?_) (a' := ?_) #[true, false, false, false, false, false, false, false, false] rfl rfl (any_of HT_.out (by kernel_rfl)) (fun _ _ _ h => h) (Or.inl ⟨by rfl, ?_⟩) ?_ ?_
     rotate_left
     ·intro w'
      go_simp
      with_reducible rfl
     rotate_left
     ·simp only [Act.put, List.setIfInBounds_toArray, List.set_cons_zero, List.set_cons_succ, i64_w, i32_w]
      rfl
     refine pure_ (i := 1) (N := some 39) (v := ?_) (a' := ?_) #[true, true, false, false, false, false, false, false, false] rfl rfl (any_of HT_.out (by kernel_rfl)) (fun _ _ _ h => h) (Or.inl ⟨by rfl, ?_⟩) ?_ ?_
     rotate_left
     ·intro w'
      go_simp
      with_reducible rfl
     rotate_left
     ·simp only [Act.put, List.setIfInBounds_toArray, List.set_cons_zero, List.set_cons_succ, i64_w, i32_w]
      rfl
     refine pure_ (i := 2) (N := some 40) (v := ?_) (a' := ?_) #[true, true, true, false, false, false, false, false, false] rfl rfl (any_of HT_.out (by kernel_rfl)) (fun _ _ _ h => h) (Or.inl ⟨by rfl, ?_⟩) ?_ ?_
     rotate_left
     ·intro w'
      go_simp
      with_reducible rfl
     rotate_left
     ·simp only [Act.put, List.setIfInBounds_toArray, List.set_cons_zero, List.set_cons_succ, i64_w, i32_w]
      rfl
     refine pure_ (i := 4) (N := some 42) (v := ?_) (a' := ?_) #[true, true, true, false, true, false, false, false, false] rfl rfl (any_of HT_.out (by kernel_rfl)) (fun _ _ _ h => h) (Or.inl ⟨by rfl, ?_⟩) ?_ ?_
     rotate_left
     ·intro w'
      go_simp
      with_reducible rfl
     rotate_left
     ·simp only [Act.put, List.setIfInBounds_toArray, List.set_cons_zero, List.set_cons_succ, i64_w, i32_w]
      rfl
     refine take_ (i := 3) (N := some 41) (v := ?_) (a' := ?_) #[true, true, true, true, true, false, false, false, false] rfl rfl (take_ofW HT_.out HW_.out (by kernel_rfl)) (fun _ _ _ h => h) (Or.inl ⟨by rfl, ?_⟩) hHeld ?_ ?_
     rotate_left
     ·rintro w' ⟨s0, s1, s2, s3⟩
      go_simp
      with_reducible rfl
     rotate_left
     ·simp only [Act.put, List.setIfInBounds_toArray, List.set_cons_zero, List.set_cons_succ, i64_w, i32_w]
      rfl
     refine take_ (i := 5) (N := some 43) (v := ?_) (a' := ?_) #[true, true, true, true, true, true, false, false, false] rfl rfl (take_ofW HT_.out HW_.out (by kernel_rfl)) (fun _ _ _ h => h) (Or.inl ⟨by rfl, ?_⟩) hHeld ?_ ?_
     rotate_left
     ·rintro w' ⟨s0, s1, s2, s3⟩
      go_simp
      with_reducible rfl
     rotate_left
     ·simp only [Act.put, List.setIfInBounds_toArray, List.set_cons_zero, List.set_cons_succ, i64_w, i32_w]
      rfl
     refine pure_ (i := 6) (N := some 44) (v := ?_) (a' := ?_) #[true, true, true, true, true, true, true, false, false] rfl rfl (any_of HT_.out (by kernel_rfl)) (fun _ _ _ h => h) (Or.inl ⟨by rfl, ?_⟩) ?_ ?_
     rotate_left
     ·intro w'
      go_simp
      with_reducible rfl
     rotate_left
     ·simp only [Act.put, List.setIfInBounds_toArray, List.set_cons_zero, List.set_cons_succ, i64_w, i32_w]
      rfl
     refine one_ (i := 7) (N := some 11) #[true, true, true, true, true, true, true, true, false] rfl rfl (one_of HT_.out (by kernel_rfl)) (by decide) (fun K hK => ?_)
     refine box_step ?hg (N := 11) ?hd (cs := #[.int .i64 0, .int .i64 0, .int .i64 0, .int .i64 0]) (t := 98) ?hr ?_; (case hd => rfl); (case hg => rfl); (case hr => first | (go_simp; done) | (go_simp; rfl))
     intro gb128 hg w47 hbox hb
     have HS3_ := (hb.cell (World.block_lt_of_cell? _ _ (hHeld.2.2.2))).trans (hHeld.2.2.2)
     have n0_ := Aside0.mk (Kd.R_below (by (with_reducible repeat (first | apply Kd.R_alloc | apply Kd.R_drewN | apply Kd.R_drew)); exact HO_6.out) hb)
     have n1_ := Aside0.mk (Kd.R_below (Kd.R_elderB (by (with_reducible repeat (first | apply Kd.R_alloc | apply Kd.R_drewN | apply Kd.R_drew)); exact HO_8.out) gb128 (Nat.le_of_eq hg.symm)) hb)
     have n2_ := Aside0.mk (blk_below (g := gb126) (o := .cells #[.int .i64 ((rd_T39 l0 x33_3).f0), .int .i64 ((rd_T39 l0 x33_3).f1), .int .i64 ((rd_T39 l0 x33_3).f2)] 39 (0, 0)) (by (with_reducible repeat (first | refine blk_drewN ?_ _ | refine blk_drew ?_ | refine blk_alloc ?_ _)); exact BK126.out) hb)
     have n3_ := Aside0.mk (below_step (by repeat (first | (with_reducible first | exact HB.out | apply below_alloc | apply pw_below_drewN | apply below_drew1 | refine below_set ?_ GE126.out) | exact HB.out)) hb)
     have n4_ := Aside0.mk (hbox)
     have n5_ := Aside0.mk ((by rw [hg]; exact (below_size (by repeat (first | (with_reducible first | exact HB.out | apply below_alloc | apply pw_below_drewN | apply below_drew1 | refine below_set ?_ GE126.out) | exact HB.out))) : w.heap.size ≤ gb128))
     have n6_ := Aside0.mk ((by rw [hg]; exact (below_size (by repeat (first | (with_reducible first | exact HB.out | apply below_alloc | apply pw_below_drewN | apply below_drew1 | refine below_set ?_ GE126.out) | exact HB.out))) : w.heap.size ≤ gb128))
     have n7_ := Aside0.mk ((by rw [hg]; exact Nat.ne_of_lt (blk_lt (g := gb126) (o := .cells #[.int .i64 ((rd_T39 l0 x33_3).f0), .int .i64 ((rd_T39 l0 x33_3).f1), .int .i64 ((rd_T39 l0 x33_3).f2)] 39 (0, 0)) (by (with_reducible repeat (first | refine blk_drewN ?_ _ | refine blk_drew ?_ | refine blk_alloc ?_ _)); exact BK126.out)) : gb126 ≠ gb128))
     have n8_ := Aside0.mk ((by rw [hg]; exact Nat.ne_of_gt (blk_lt (g := gb126) (o := .cells #[.int .i64 ((rd_T39 l0 x33_3).f0), .int .i64 ((rd_T39 l0 x33_3).f1), .int .i64 ((rd_T39 l0 x33_3).f2)] 39 (0, 0)) (by (with_reducible repeat (first | refine blk_drewN ?_ _ | refine blk_drew ?_ | refine blk_alloc ?_ _)); exact BK126.out)) : gb128 ≠ gb126))
     clear HO_6
     clear HO_8
     clear BK126
     clear HB
     have HO_6 := n0_
     have HO_8 := n1_
     have BK126 := n2_
     have HB := n3_
     have BK128 := n4_
     have GW128 := n5_
     have GE128 := n6_
     have NB126_128 := n7_
     have NB128_126 := n8_
     clear n0_ n1_ n2_ n3_ n4_ n5_ n6_ n7_ n8_
     clear hb hbox hg
     refine hK.out _ _ ⟨(blk_cell BK126.out 0).trans rfl, (blk_cell BK126.out 1).trans rfl, (blk_cell BK126.out 2).trans rfl, HS3_⟩ (fun hHeld => ?_)
     clear hK K
     refine norm_ (a' := ?_) ?_ ?_
     rotate_left
     ·show Act.put _ (some 11) _ = _
      simp only [Act.put, List.setIfInBounds_toArray, List.set_cons_zero, List.set_cons_succ, i64_w, i32_w]
      rfl
     refine one_ (i := 8) (N := none) #[true, true, true, true, true, true, true, true, true] rfl rfl (one_of HT_.out (by kernel_rfl)) (by decide) (fun K hK => ?_)
     have hs48 : w47.cell? ⟨gb128, 0, none⟩ = some (.int .i64 0) := (blk_cell BK128.out 0).trans rfl
     have hfs48 := blk_frozen BK128.out 0
     have hns48_0 := NB126_128.out
     have hms48_0 := NB128_126.out
     have hs49 : w47.cell? ⟨gb128, 1, none⟩ = some (.int .i64 0) := (blk_cell BK128.out 1).trans rfl
     have hfs49 := blk_frozen BK128.out 1
     have hns49_0 := NB126_128.out
     have hms49_0 := NB128_126.out
     have hs50 : w47.cell? ⟨gb128, 2, none⟩ = some (.int .i64 0) := (blk_cell BK128.out 2).trans rfl
     have hfs50 := blk_frozen BK128.out 2
     have hns50_0 := NB126_128.out
     have hms50_0 := NB128_126.out
     have hs51 : w47.cell? ⟨gb128, 3, none⟩ = some (.int .i64 0) := (blk_cell BK128.out 3).trans rfl
     have hfs51 := blk_frozen BK128.out 3
     have hns51_0 := NB126_128.out
     have hms51_0 := NB128_126.out
     refine skip_ (w1 := ?_) (by rfl) rfl ?_ ?_
     rotate_left
     ·go_simp
      rfl
     refine hK.out _ _ ⟨((cell_far (p := ⟨gb128, _, none⟩) NB126_128.out _).trans (((cell_far (p := ⟨gb128, _, none⟩) NB126_128.out _).trans (((cell_far (p := ⟨gb128, _, none⟩) NB126_128.out _).trans (((cell_far (p := ⟨gb128, _, none⟩) NB126_128.out _).trans (hHeld.1)))))))), ((cell_far (p := ⟨gb128, _, none⟩) NB126_128.out _).trans (((cell_far (p := ⟨gb128, _, none⟩) NB126_128.out _).trans (((cell_far (p := ⟨gb128, _, none⟩) NB126_128.out _).trans (((cell_far (p := ⟨gb128, _, none⟩) NB126_128.out _).trans (hHeld.2.1)))))))), ((cell_far (p := ⟨gb128, _, none⟩) NB126_128.out _).trans (((cell_far (p := ⟨gb128, _, none⟩) NB126_128.out _).trans (((cell_far (p := ⟨gb128, _, none⟩) NB126_128.out _).trans (((cell_far (p := ⟨gb128, _, none⟩) NB126_128.out _).trans (hHeld.2.2.1)))))))), ((cell_far (p := ⟨gb128, _, none⟩) (by first | exact Kd.own_blk (Kd.R_ne HO_6.out BK128.out (by decide)) | (rw [add_block]; exact Kd.own_blk (Kd.R_ne HO_6.out BK128.out (by decide))) | (show (Addr.add _ _).block ≠ _; rw [add_block]; exact Kd.own_blk (Kd.R_ne HO_6.out BK128.out (by decide))) | (dsimp only; exact Kd.own_blk (Kd.R_ne HO_6.out BK128.out (by decide)))) _).trans (((cell_far (p := ⟨gb128, _, none⟩) (by first | exact Kd.own_blk (Kd.R_ne HO_6.out BK128.out (by decide)) | (rw [add_block]; exact Kd.own_blk (Kd.R_ne HO_6.out BK128.out (by decide))) | (show (Addr.add _ _).block ≠ _; rw [add_block]; exact Kd.own_blk (Kd.R_ne HO_6.out BK128.out (by decide))) | (dsimp only; exact Kd.own_blk (Kd.R_ne HO_6.out BK128.out (by decide)))) _).trans (((cell_far (p := ⟨gb128, _, none⟩) (by first | exact Kd.own_blk (Kd.R_ne HO_6.out BK128.out (by decide)) | (rw [add_block]; exact Kd.own_blk (Kd.R_ne HO_6.out BK128.out (by decide))) | (show (Addr.add _ _).block ≠ _; rw [add_block]; exact Kd.own_blk (Kd.R_ne HO_6.out BK128.out (by decide))) | (dsimp only; exact Kd.own_blk (Kd.R_ne HO_6.out BK128.out (by decide)))) _).trans (((cell_far (p := ⟨gb128, _, none⟩) (by first | exact Kd.own_blk (Kd.R_ne HO_6.out BK128.out (by decide)) | (rw [add_block]; exact Kd.own_blk (Kd.R_ne HO_6.out BK128.out (by decide))) | (show (Addr.add _ _).block ≠ _; rw [add_block]; exact Kd.own_blk (Kd.R_ne HO_6.out BK128.out (by decide))) | (dsimp only; exact Kd.own_blk (Kd.R_ne HO_6.out BK128.out (by decide)))) _).trans (hHeld.2.2.2))))))))⟩ (fun hHeld => ?_)
     clear hK K
     refine done_ (done_of HT_.out (by kernel_rfl)) ?_
     have hnb52 := NB126_128.out
     have hnc52 := NB128_126.out
     have hcz53_0 : w47.cell? ⟨gb126, 0, none⟩ = some (.int .i64 ((rd_T39 l0 x33_3).f0)) := (blk_cell BK126.out 0).trans rfl
     have hcz53_1 : w47.cell? ⟨gb126, 1, none⟩ = some (.int .i64 ((rd_T39 l0 x33_3).f1)) := (blk_cell BK126.out 1).trans rfl
     have hcz53_2 : w47.cell? ⟨gb126, 2, none⟩ = some (.int .i64 ((rd_T39 l0 x33_3).f2)) := (blk_cell BK126.out 2).trans rfl
     have hfz53_0 := blk_frozen BK126.out 0
     have hfz53_1 := blk_frozen BK126.out 1
     have hfz53_2 := blk_frozen BK126.out 2
     try go_wp2_with (first | ((with_reducible refine gate_callee (f := 45) rfl ?_); refine goesL_ (some 46) rfl rfl Try.func45 (by kernel_rfl) rfl #[.agg #[.int .i64 ((rd_T39 l0 x33_3).f0), .int .i64 ((rd_T39 l0 x33_3).f1), .int .i64 ((rd_T39 l0 x33_3).f2)]] rfl (by (try simp only [List.map_toArray, List.map_cons, List.map_nil]); first | done | rfl | (simp only [List.length_drop, List.length_take]; rfl)) ?_; (with_reducible refine (loops_hasParts.calls ((rd_T39 l0 x33_3).f0) ((rd_T39 l0 x33_3).f1) ((rd_T39 l0 x33_3).f2) false _ A16.out).mono ?_); rintro e w54 ⟨rfl, hb⟩; refine ⟨_, rfl, ?_⟩; have n0_ := Aside0.mk (Kd.R_below (by (with_reducible repeat (first | apply Kd.R_alloc | apply Kd.R_drewN | apply Kd.R_drew)); exact (Kd.R_mono (Kd.R_far (p := ⟨gb128, 3, none⟩) (Kd.R_far (p := ⟨gb128, 2, none⟩) (Kd.R_far (p := ⟨gb128, 1, none⟩) (Kd.R_far (p := ⟨gb128, 0, none⟩) (Kd.R_types HO_6.out BK128.out (by decide)) (fun _ hk => hk.2) (.int .i64 (rd x6_2 x33_3))) (fun _ hk => hk.2) (.int .i64 ((rd_T39 l0 x33_3).f0))) (fun _ hk => hk.2) (.int .i64 0)) (fun _ hk => hk.2) (.int .i64 0)) (fun _ h_ => h_.1))) hb); have n1_ := Aside0.mk (Kd.R_below (by (with_reducible repeat (first | apply Kd.R_alloc | apply Kd.R_drewN | apply Kd.R_drew)); exact (Kd.R_mono (Kd.R_far (p := ⟨gb128, 3, none⟩) (Kd.R_far (p := ⟨gb128, 2, none⟩) (Kd.R_far (p := ⟨gb128, 1, none⟩) (Kd.R_far (p := ⟨gb128, 0, none⟩) (Kd.R_mono HO_8.out (fun k_ hk => (⟨hk, hk.2⟩ : _ ∧ k_ ≠ gb128))) (fun _ hk => hk.2) (.int .i64 (rd x6_2 x33_3))) (fun _ hk => hk.2) (.int .i64 ((rd_T39 l0 x33_3).f0))) (fun _ hk => hk.2) (.int .i64 0)) (fun _ hk => hk.2) (.int .i64 0)) (fun _ h_ => h_.1))) hb); have n2_ := Aside0.mk (blk_below (g := gb126) (o := .cells #[.int .i64 ((rd_T39 l0 x33_3).f0), .int .i64 ((rd_T39 l0 x33_3).f1), .int .i64 ((rd_T39 l0 x33_3).f2)] 39 (0, 0)) (by (with_reducible repeat (first | refine blk_drewN ?_ _ | refine blk_drew ?_ | refine blk_alloc ?_ _)); refine blk_far ?_ NB126_128.out _; (with_reducible repeat (first | refine blk_drewN ?_ _ | refine blk_drew ?_ | refine blk_alloc ?_ _)); refine blk_far ?_ NB126_128.out _; (with_reducible repeat (first | refine blk_drewN ?_ _ | refine blk_drew ?_ | refine blk_alloc ?_ _)); refine blk_far ?_ NB126_128.out _; (with_reducible repeat (first | refine blk_drewN ?_ _ | refine blk_drew ?_ | refine blk_alloc ?_ _)); refine blk_far ?_ NB126_128.out _; (with_reducible repeat (first | refine blk_drewN ?_ _ | refine blk_drew ?_ | refine blk_alloc ?_ _)); exact BK126.out) hb); have n3_ := Aside0.mk (blk_below (g := gb128) (o := .cells #[.int .i64 (rd x6_2 x33_3), .int .i64 ((rd_T39 l0 x33_3).f0), .int .i64 0, .int .i64 0] 98 (0, 0)) (by (with_reducible repeat (first | refine blk_drewN ?_ _ | refine blk_drew ?_ | refine blk_alloc ?_ _)); refine blk_put (cs := #[.int .i64 (rd x6_2 x33_3), .int .i64 ((rd_T39 l0 x33_3).f0), .int .i64 0, .int .i64 0]) ?_ 3 _ rfl; (with_reducible repeat (first | refine blk_drewN ?_ _ | refine blk_drew ?_ | refine blk_alloc ?_ _)); refine blk_put (cs := #[.int .i64 (rd x6_2 x33_3), .int .i64 ((rd_T39 l0 x33_3).f0), .int .i64 0, .int .i64 0]) ?_ 2 _ rfl; (with_reducible repeat (first | refine blk_drewN ?_ _ | refine blk_drew ?_ | refine blk_alloc ?_ _)); refine blk_put (cs := #[.int .i64 (rd x6_2 x33_3), .int .i64 0, .int .i64 0, .int .i64 0]) ?_ 1 _ rfl; (with_reducible repeat (first | refine blk_drewN ?_ _ | refine blk_drew ?_ | refine blk_alloc ?_ _)); refine blk_put (cs := #[.int .i64 0, .int .i64 0, .int .i64 0, .int .i64 0]) ?_ 0 _ rfl; (with_reducible repeat (first | refine blk_drewN ?_ _ | refine blk_drew ?_ | refine blk_alloc ?_ _)); exact BK128.out) hb); have n4_ := Aside0.mk (below_step (by repeat (first | (with_reducible first | exact HB.out | apply below_alloc | apply pw_below_drewN | apply below_drew1 | refine below_set ?_ GE126.out | refine below_set ?_ GE128.out) | exact HB.out)) hb); clear HO_6; clear HO_8; clear BK126; clear BK128; clear HB; have HO_6 := n0_; have HO_8 := n1_; have BK126 := n2_; have BK128 := n3_; have HB := n4_; clear n0_ n1_ n2_ n3_ n4_; (try clear hb); (try clear hb2); (try clear hk); (try clear hi); have hcz55_0 : w54.cell? ⟨gb128, 0, none⟩ = some (.int .i64 (rd x6_2 x33_3)) := (blk_cell BK128.out 0).trans rfl; have hcz55_1 : w54.cell? ⟨gb128, 1, none⟩ = some (.int .i64 ((rd_T39 l0 x33_3).f0)) := (blk_cell BK128.out 1).trans rfl; have hcz55_2 : w54.cell? ⟨gb128, 2, none⟩ = some (.int .i64 0) := (blk_cell BK128.out 2).trans rfl; have hcz55_3 : w54.cell? ⟨gb128, 3, none⟩ = some (.int .i64 0) := (blk_cell BK128.out 3).trans rfl; have hfz55_0 := blk_frozen BK128.out 0; have hfz55_1 := blk_frozen BK128.out 1; have hfz55_2 := blk_frozen BK128.out 2; have hfz55_3 := blk_frozen BK128.out 3) | ((with_reducible refine gate_builtin (b := .append) (xs := #[.tmp 59, .tmp 61]) rfl ?_); at_builtin; refine Kd.R_append k98 (w0 := w) w.heap.size rfl (.tmp 59) (.tmp 61) 97 98 (.agg #[(.int .i64 0), (.int .i64 0), (.int .i64 0), (.int .i64 0)]) 32 rfl Try.underlying97 info98 rfl (by decide) (by omega) u8 x8_3 (⟨rd x6_2 x33_3, (rd_T39 l0 x33_3).f0, 0, 0⟩ : S98) [.int .i64 (rd x6_2 x33_3), .int .i64 ((rd_T39 l0 x33_3).f0), .int .i64 0, .int .i64 0] (fun k_ => k_ ≠ gb128) (fun _ => False) rfl rfl ?aP (fun _ hk => hk.elim) ?aF ?aO ?aB ?aS ?aL ?_; (case aP => exact k98_mkM _ _ _ (⟨rd x6_2 x33_3, (rd_T39 l0 x33_3).f0, 0, 0⟩ : S98)); (case aB => exact (by repeat (first | (with_reducible first | exact HB.out | apply below_alloc | apply pw_below_drewN | apply below_drew1 | refine below_set ?_ GE126.out | refine below_set ?_ GE128.out) | exact HB.out))); (case aF => exact (fun k_ hk => Kd.freshB (g := gb128) (o := .cells #[.int .i64 (rd x6_2 x33_3), .int .i64 ((rd_T39 l0 x33_3).f0), .int .i64 0, .int .i64 0] 98 (0, 0)) (by (with_reducible repeat (first | refine blk_drewN ?_ _ | refine blk_drew ?_ | refine blk_alloc ?_ _)); exact BK128.out) k_ hk)); (case aO => exact (by (with_reducible repeat (first | apply Kd.R_alloc | apply Kd.R_drewN | apply Kd.R_drew)); exact Kd.R_mono HO_8.out (fun _ hk => hk.2))); (case aS => exact (below_size (by repeat (first | (with_reducible first | exact HB.out | apply below_alloc | apply pw_below_drewN | apply below_drew1 | refine below_set ?_ GE126.out | refine below_set ?_ GE128.out) | exact HB.out)))); (case aL => have := LMc41.out; omega); intro v136 w56 ho hb hg hat; rw [← Ny135.out] at ho; have n0_ := Aside0.mk (Kd.R_over' (by (with_reducible repeat (first | apply Kd.R_alloc | apply Kd.R_drewN | apply Kd.R_drew)); exact HO_6.out) (Kd.R_typed (by (with_reducible repeat (first | apply Kd.R_alloc | apply Kd.R_drewN | apply Kd.R_drew)); exact HO_8.out)) (by decide) hg); have n1_ := Aside0.mk (blk_grown (g := gb126) (o := .cells #[.int .i64 ((rd_T39 l0 x33_3).f0), .int .i64 ((rd_T39 l0 x33_3).f1), .int .i64 ((rd_T39 l0 x33_3).f2)] 39 (0, 0)) (by (with_reducible repeat (first | refine blk_drewN ?_ _ | refine blk_drew ?_ | refine blk_alloc ?_ _)); exact BK126.out) hg (Kd.R_ne HO_8.out BK126.out (by decide))); have n2_ := Aside0.mk (blk_grown (g := gb128) (o := .cells #[.int .i64 (rd x6_2 x33_3), .int .i64 ((rd_T39 l0 x33_3).f0), .int .i64 0, .int .i64 0] 98 (0, 0)) (by (with_reducible repeat (first | refine blk_drewN ?_ _ | refine blk_drew ?_ | refine blk_alloc ?_ _)); exact BK128.out) hg (Kd.R_away HO_8.out (fun _ hk => hk.2))); have n3_ := Aside0.mk (hb); have n4_ := Aside0.mk (ho); clear HO_6; clear BK126; clear BK128; clear HB; clear HO_8; have HO_6 := n0_; have BK126 := n1_; have BK128 := n2_; have HB := n3_; have HO137 := n4_; clear n0_ n1_ n2_ n3_ n4_; clear ho hb hg hat))
     go_roundg k3
     case measure => have := HK1.out; have := HK2.out; have := HK3.out; omega
     exact ⟨(y135), (wrap64 (x33_3 + 1)), (by first | rfl | (simp; done) | (simp [*]; done)), H', ⟨by have := HK1.out; have := HK2.out; have := HK3.out; omega⟩, ⟨by (with_reducible repeat (first | apply Kd.R_alloc | apply Kd.R_drewN | apply Kd.R_drew)); exact HO_6.out⟩, ⟨by (with_reducible repeat (first | apply Kd.R_alloc | apply Kd.R_drewN | apply Kd.R_drew)); exact Kd.R_mono HO137.out (fun _ hk => trivial)⟩, ⟨by repeat (first | (with_reducible first | exact HB.out | apply below_alloc | apply pw_below_drewN | apply below_drew1 | refine below_set ?_ GE126.out | refine below_set ?_ GE128.out) | exact HB.out)⟩⟩
    subst c17
    have H1 : (if 0 ≤ ((rd_T39 l0 x33_3).f1) then (if ((rd_T39 l0 x33_3).f1) < (x6_2.length : Int) then (if 0 ≤ ((rd_T39 l0 x33_3).f2) then (if ((rd_T39 l0 x33_3).f2) < (x6_2.length : Int) then (if x8_3.length < 4398046511104 then (loops_classes.l2 k3 l0 x6_2 x7_2 (x8_3 ++ [(⟨rd x6_2 x33_3, (rd_T39 l0 x33_3).f0, rd x6_2 ((rd_T39 l0 x33_3).f1), rd x6_2 ((rd_T39 l0 x33_3).f2)⟩ : S98)]) l0 (l0.length : Int) (wrap64 (x33_3 + 1))) else (none)) else (none)) else (none)) else (none)) else (none)) = some r := by rw [if_pos rfl] at H; exact H
    clear H
    have H := H1
    clear H1
    by_cases c18 : 0 ≤ ((rd_T39 l0 x33_3).f1)
    rotate_left
    ·rw [if_neg c18] at H
     exact absurd H (by simp)
    rw [if_pos c18] at H
    have c18b0 : decide (0 ≤ ((rd_T39 l0 x33_3).f1)) = true := decide_eq_true c18
    clear c18
    by_cases c19 : ((rd_T39 l0 x33_3).f1) < (x6_2.length : Int)
    rotate_left
    ·rw [if_neg c19] at H
     exact absurd H (by simp)
    rw [if_pos c19] at H
    have c19b0 : decide (((rd_T39 l0 x33_3).f1) < (x6_2.length : Int)) = true := decide_eq_true c19
    clear c19
    by_cases c20 : 0 ≤ ((rd_T39 l0 x33_3).f2)
    rotate_left
    ·rw [if_neg c20] at H
     exact absurd H (by simp)
    rw [if_pos c20] at H
    have c20b0 : decide (0 ≤ ((rd_T39 l0 x33_3).f2)) = true := decide_eq_true c20
    clear c20
    by_cases c21 : ((rd_T39 l0 x33_3).f2) < (x6_2.length : Int)
    rotate_left
    ·rw [if_neg c21] at H
     exact absurd H (by simp)
    rw [if_pos c21] at H
    have c21b0 : decide (((rd_T39 l0 x33_3).f2) < (x6_2.length : Int)) = true := decide_eq_true c21
    clear c21
    by_cases c22 : x8_3.length < 4398046511104
    rotate_left
    ·rw [if_neg c22] at H
     exact absurd H (by simp)
    rw [if_pos c22] at H
    have LMc22 := Aside0.mk c22
    clear c22
    obtain ⟨y132, hy132⟩ : ∃ y_ : List (S98), y_ = (x8_3 ++ [(⟨rd x6_2 x33_3, (rd_T39 l0 x33_3).f0, rd x6_2 ((rd_T39 l0 x33_3).f1), rd x6_2 ((rd_T39 l0 x33_3).f2)⟩ : S98)]) := ⟨_, rfl⟩
    replace H : (loops_classes.l2 k3 l0 x6_2 x7_2 y132 l0 (l0.length : Int) (wrap64 (x33_3 + 1))) = some r := by first | (rw [hy132]; with_reducible exact H) | (have H2_ := (Option.bind_some _ _).symm.trans H; rw [hy132]; with_reducible exact H2_) | (have H2_ := (Option.bind_some _ _).symm.trans H; with_reducible exact H2_) | with_reducible exact H | (rw [hy132]; exact H) | exact H
    have Ny132 := Aside0.mk hy132
    clear hy132
    have H' := Aside0.mk H
    clear H
    have p125 : 0 ≤ (x33_3 : Int) := of_decide_eq_true (by first | (with_reducible assumption) | assumption)
    have q125 : x33_3 < (l0.length : Int) := of_decide_eq_true (by first | (with_reducible assumption) | assumption)
    obtain ⟨ad125, e125, hx125_0, hx125_1, hx125_2⟩ := at_T39 HR0.out x33_3 p125 q125
    cases e125
    replace hx125_0 := (HB.out.cell (World.block_lt_of_cell? w _ hx125_0)).trans hx125_0
    replace hx125_1 := (HB.out.cell (World.block_lt_of_cell? w _ hx125_1)).trans hx125_1
    replace hx125_2 := (HB.out.cell (World.block_lt_of_cell? w _ hx125_2)).trans hx125_2
    replace p125 := eq_true p125
    replace q125 := eq_true q125
    try go_wp2_with (first | ((with_reducible refine gate_dst (N := 10) rfl ?_); refine box_event ?hg (N := 10) ?hd (cs := #[.int .i64 0, .int .i64 0, .int .i64 0]) (t := 39) ?hr ?_; (case hd => rfl); (case hg => rfl); (case hr => first | (go_simp; done) | (go_simp; rfl)); intro gb126 hg w23 hbox hb; have n0_ := Aside0.mk (Kd.R_below (by (with_reducible repeat (first | apply Kd.R_alloc | apply Kd.R_drewN | apply Kd.R_drew)); exact HO_6.out) hb); have n1_ := Aside0.mk (Kd.R_below (by (with_reducible repeat (first | apply Kd.R_alloc | apply Kd.R_drewN | apply Kd.R_drew)); exact HO_8.out) hb); have n2_ := Aside0.mk (below_step (by repeat (first | (with_reducible first | exact HB.out | apply below_alloc | apply pw_below_drewN | apply below_drew1) | exact HB.out)) hb); have n3_ := Aside0.mk (hbox); have n4_ := Aside0.mk ((by rw [hg]; exact (below_size (by repeat (first | (with_reducible first | exact HB.out | apply below_alloc | apply pw_below_drewN | apply below_drew1) | exact HB.out))) : w.heap.size ≤ gb126)); have n5_ := Aside0.mk ((by rw [hg]; exact (below_size (by repeat (first | (with_reducible first | exact HB.out | apply below_alloc | apply pw_below_drewN | apply below_drew1) | exact HB.out))) : w.heap.size ≤ gb126)); clear HO_6; clear HO_8; clear HB; have HO_6 := n0_; have HO_8 := n1_; have HB := n2_; have BK126 := n3_; have GW126 := n4_; have GE126 := n5_; clear n0_ n1_ n2_ n3_ n4_ n5_; clear hb hbox hg; have hcz24_0 : w23.cell? ⟨gb126, 0, none⟩ = some (.int .i64 0) := (blk_cell BK126.out 0).trans rfl; have hcz24_1 : w23.cell? ⟨gb126, 1, none⟩ = some (.int .i64 0) := (blk_cell BK126.out 1).trans rfl; have hcz24_2 : w23.cell? ⟨gb126, 2, none⟩ = some (.int .i64 0) := (blk_cell BK126.out 2).trans rfl; have hfz24_0 := blk_frozen BK126.out 0; have hfz24_1 := blk_frozen BK126.out 1; have hfz24_2 := blk_frozen BK126.out 2))
    have n0_ : Aside0 (Kd.R (Kd.int .i64) 3 (((w23.setCell ⟨gb126, 0, none⟩ (.int .i64 ((rd_T39 l0 x33_3).f0))).setCell ⟨gb126, 1, none⟩ (.int .i64 ((rd_T39 l0 x33_3).f1))).setCell ⟨gb126, 2, none⟩ (.int .i64 ((rd_T39 l0 x33_3).f2))) w.heap.size (fun _ => True) u6 x6_2) := ⟨by (with_reducible repeat (first | apply Kd.R_alloc | apply Kd.R_drewN | apply Kd.R_drew)); exact Kd.R_mono (Kd.R_far (p := ⟨gb126, 2, none⟩) (Kd.R_far (p := ⟨gb126, 1, none⟩) (Kd.R_far (p := ⟨gb126, 0, none⟩) (Kd.R_types HO_6.out BK126.out (by decide)) (fun _ hk => hk.2) (.int .i64 ((rd_T39 l0 x33_3).f0))) (fun _ hk => hk.2) (.int .i64 ((rd_T39 l0 x33_3).f1))) (fun _ hk => hk.2) (.int .i64 ((rd_T39 l0 x33_3).f2))) (fun _ hk => trivial)⟩
    have n1_ : Aside0 (Kd.R k98 98 (((w23.setCell ⟨gb126, 0, none⟩ (.int .i64 ((rd_T39 l0 x33_3).f0))).setCell ⟨gb126, 1, none⟩ (.int .i64 ((rd_T39 l0 x33_3).f1))).setCell ⟨gb126, 2, none⟩ (.int .i64 ((rd_T39 l0 x33_3).f2))) w.heap.size (fun _ => True) u8 x8_3) := ⟨by (with_reducible repeat (first | apply Kd.R_alloc | apply Kd.R_drewN | apply Kd.R_drew)); exact Kd.R_mono (Kd.R_far (p := ⟨gb126, 2, none⟩) (Kd.R_far (p := ⟨gb126, 1, none⟩) (Kd.R_far (p := ⟨gb126, 0, none⟩) (Kd.R_types HO_8.out BK126.out (by decide)) (fun _ hk => hk.2) (.int .i64 ((rd_T39 l0 x33_3).f0))) (fun _ hk => hk.2) (.int .i64 ((rd_T39 l0 x33_3).f1))) (fun _ hk => hk.2) (.int .i64 ((rd_T39 l0 x33_3).f2))) (fun _ hk => trivial)⟩
    have n2_ : Aside0 ((((w23.setCell ⟨gb126, 0, none⟩ (.int .i64 ((rd_T39 l0 x33_3).f0))).setCell ⟨gb126, 1, none⟩ (.int .i64 ((rd_T39 l0 x33_3).f1))).setCell ⟨gb126, 2, none⟩ (.int .i64 ((rd_T39 l0 x33_3).f2))).heap[gb126]? = some (.cells #[.int .i64 ((rd_T39 l0 x33_3).f0), .int .i64 ((rd_T39 l0 x33_3).f1), .int .i64 ((rd_T39 l0 x33_3).f2)] 39 (0, 0))) := ⟨by (with_reducible repeat (first | refine blk_drewN ?_ _ | refine blk_drew ?_ | refine blk_alloc ?_ _)); refine blk_put (cs := #[.int .i64 ((rd_T39 l0 x33_3).f0), .int .i64 ((rd_T39 l0 x33_3).f1), .int .i64 0]) ?_ 2 _ rfl; (with_reducible repeat (first | refine blk_drewN ?_ _ | refine blk_drew ?_ | refine blk_alloc ?_ _)); refine blk_put (cs := #[.int .i64 ((rd_T39 l0 x33_3).f0), .int .i64 0, .int .i64 0]) ?_ 1 _ rfl; (with_reducible repeat (first | refine blk_drewN ?_ _ | refine blk_drew ?_ | refine blk_alloc ?_ _)); refine blk_put (cs := #[.int .i64 0, .int .i64 0, .int .i64 0]) ?_ 0 _ rfl; (with_reducible repeat (first | refine blk_drewN ?_ _ | refine blk_drew ?_ | refine blk_alloc ?_ _)); exact BK126.out⟩
    have n3_ : Aside0 (Below w.heap.size w (((w23.setCell ⟨gb126, 0, none⟩ (.int .i64 ((rd_T39 l0 x33_3).f0))).setCell ⟨gb126, 1, none⟩ (.int .i64 ((rd_T39 l0 x33_3).f1))).setCell ⟨gb126, 2, none⟩ (.int .i64 ((rd_T39 l0 x33_3).f2)))) := ⟨by repeat (first | (with_reducible first | exact HB.out | apply below_alloc | apply pw_below_drewN | apply below_drew1 | refine below_set ?_ GE126.out) | exact HB.out)⟩
    (try clear HO_6)
    (try clear HO_8)
    (try clear BK126)
    (try clear HB)
    generalize (((w23.setCell ⟨gb126, 0, none⟩ (.int .i64 ((rd_T39 l0 x33_3).f0))).setCell ⟨gb126, 1, none⟩ (.int .i64 ((rd_T39 l0 x33_3).f1))).setCell ⟨gb126, 2, none⟩ (.int .i64 ((rd_T39 l0 x33_3).f2))) = w25 at n0_ n1_ n2_ n3_ ⊢
    have HO_6 := n0_
    have HO_8 := n1_
    have BK126 := n2_
    have HB := n3_
    clear n0_ n1_ n2_ n3_
    have n0_ := Aside0.mk (Kd.R_drew HO_6.out)
    have n1_ := Aside0.mk (Kd.R_drew HO_8.out)
    have n2_ := Aside0.mk (blk_drew BK126.out)
    have n3_ := Aside0.mk (below_drew1 HB.out)
    clear HO_6
    clear HO_8
    clear BK126
    clear HB
    have HO_6 := n0_
    have HO_8 := n1_
    have BK126 := n2_
    have HB := n3_
    clear n0_ n1_ n2_ n3_
    obtain ⟨Ao27, co27, eo27⟩ := Kd.R_slice HO_6.out
    (first | subst eo27 | (injection eo27 with f1_ f2_ f3_; have f4_ := f1_.symm; have f5_ := f3_.symm; clear f1_ f2_ f3_; subst f4_; subst f5_))
    have p127 : 0 ≤ (x33_3 : Int) := of_decide_eq_true (by first | (with_reducible assumption) | assumption)
    have q127 : x33_3 < (x6_2.length : Int) := of_decide_eq_true (by first | (with_reducible assumption) | assumption)
    obtain ⟨ad127, e127, hx127_0⟩ := Kd.at_int (Kd.R_reads' HO_6.out).2.2 x33_3 p127 q127
    cases e127
    replace p127 := eq_true p127
    replace q127 := eq_true q127
    refine start_ (n := 9) (S := fun w' => w'.cell? ⟨gb126, 0, none⟩ = some (.int .i64 ((rd_T39 l0 x33_3).f0)) ∧ w'.cell? ⟨gb126, 1, none⟩ = some (.int .i64 ((rd_T39 l0 x33_3).f1)) ∧ w'.cell? ⟨gb126, 2, none⟩ = some (.int .i64 ((rd_T39 l0 x33_3).f2)) ∧ w'.cell? (ad127.add (x33_3).toNat) = some (.int .i64 (rd x6_2 x33_3))) (ds := []) #[false, false, false, false, false, false, false, false, false] (by kernel_rfl) rfl rfl ⟨(blk_cell BK126.out 0).trans rfl, (blk_cell BK126.out 1).trans rfl, (blk_cell BK126.out 2).trans rfl, hx127_0⟩ (fun hHeld => ?_); refine with_tabW loops_classes.tab12 loops_classes.bits12 (fun HT_ HW_ => ?_)
    generalize w25.drew = w26 at HO_6 HO_8 BK126 HB hx127_0 hHeld ⊢
    refine pure_ (i := 0) (N := some 38) (v := ?_) (a' := ?_) #[true, false, false, false, false, false, false, false, false] rfl rfl (any_of HT_.out (by kernel_rfl)) (fun _ _ _ h => h) (Or.inl ⟨by rfl, ?_⟩) ?_ ?_
    rotate_left
    ·intro w'
     go_simp
     with_reducible rfl
    rotate_left
    ·simp only [Act.put, List.setIfInBounds_toArray, List.set_cons_zero, List.set_cons_succ, i64_w, i32_w]
     rfl
    refine pure_ (i := 1) (N := some 39) (v := ?_) (a' := ?_) #[true, true, false, false, false, false, false, false, false] rfl rfl (any_of HT_.out (by kernel_rfl)) (fun _ _ _ h => h) (Or.inl ⟨by rfl, ?_⟩) ?_ ?_
    rotate_left
    ·intro w'
     go_simp
     with_reducible rfl
    rotate_left
    ·simp only [Act.put, List.setIfInBounds_toArray, List.set_cons_zero, List.set_cons_succ, i64_w, i32_w]
     rfl
    refine pure_ (i := 2) (N := some 40) (v := ?_) (a' := ?_) #[true, true, true, false, false, false, false, false, false] rfl rfl (any_of HT_.out (by kernel_rfl)) (fun _ _ _ h => h) (Or.inl ⟨by rfl, ?_⟩) ?_ ?_
    rotate_left
    ·intro w'
     go_simp
     with_reducible rfl
    rotate_left
    ·simp only [Act.put, List.setIfInBounds_toArray, List.set_cons_zero, List.set_cons_succ, i64_w, i32_w]
     rfl
    refine pure_ (i := 4) (N := some 42) (v := ?_) (a' := ?_) #[true, true, true, false, true, false, false, false, false] rfl rfl (any_of HT_.out (by kernel_rfl)) (fun _ _ _ h => h) (Or.inl ⟨by rfl, ?_⟩) ?_ ?_
    rotate_left
    ·intro w'
     go_simp
     with_reducible rfl
    rotate_left
    ·simp only [Act.put, List.setIfInBounds_toArray, List.set_cons_zero, List.set_cons_succ, i64_w, i32_w]
     rfl
    refine take_ (i := 3) (N := some 41) (v := ?_) (a' := ?_) #[true, true, true, true, true, false, false, false, false] rfl rfl (take_ofW HT_.out HW_.out (by kernel_rfl)) (fun _ _ _ h => h) (Or.inl ⟨by rfl, ?_⟩) hHeld ?_ ?_
    rotate_left
    ·rintro w' ⟨s0, s1, s2, s3⟩
     go_simp
     with_reducible rfl
    rotate_left
    ·simp only [Act.put, List.setIfInBounds_toArray, List.set_cons_zero, List.set_cons_succ, i64_w, i32_w]
     rfl
    refine take_ (i := 5) (N := some 43) (v := ?_) (a' := ?_) #[true, true, true, true, true, true, false, false, false] rfl rfl (take_ofW HT_.out HW_.out (by kernel_rfl)) (fun _ _ _ h => h) (Or.inl ⟨by rfl, ?_⟩) hHeld ?_ ?_
    rotate_left
    ·rintro w' ⟨s0, s1, s2, s3⟩
     go_simp
     with_reducible rfl
    rotate_left
    ·simp only [Act.put, List.setIfInBounds_toArray, List.set_cons_zero, List.set_cons_succ, i64_w, i32_w]
     rfl
    refine pure_ (i := 6) (N := some 44) (v := ?_) (a' := ?_) #[true, true, true, true, true, true, true, false, false] rfl rfl (any_of HT_.out (by kernel_rfl)) (fun _ _ _ h => h) (Or.inl ⟨by rfl, ?_⟩) ?_ ?_
    rotate_left
    ·intro w'
     go_simp
     with_reducible rfl
    rotate_left
    ·simp only [Act.put, List.setIfInBounds_toArray, List.set_cons_zero, List.set_cons_succ, i64_w, i32_w]
     rfl
    refine one_ (i := 7) (N := some 11) #[true, true, true, true, true, true, true, true, false] rfl rfl (one_of HT_.out (by kernel_rfl)) (by decide) (fun K hK => ?_)
    refine box_step ?hg (N := 11) ?hd (cs := #[.int .i64 0, .int .i64 0, .int .i64 0, .int .i64 0]) (t := 98) ?hr ?_; (case hd => rfl); (case hg => rfl); (case hr => first | (go_simp; done) | (go_simp; rfl))
    intro gb128 hg w28 hbox hb
    have HS3_ := (hb.cell (World.block_lt_of_cell? _ _ (hHeld.2.2.2))).trans (hHeld.2.2.2)
    have n0_ := Aside0.mk (Kd.R_below (by (with_reducible repeat (first | apply Kd.R_alloc | apply Kd.R_drewN | apply Kd.R_drew)); exact HO_6.out) hb)
    have n1_ := Aside0.mk (Kd.R_below (Kd.R_elderB (by (with_reducible repeat (first | apply Kd.R_alloc | apply Kd.R_drewN | apply Kd.R_drew)); exact HO_8.out) gb128 (Nat.le_of_eq hg.symm)) hb)
    have n2_ := Aside0.mk (blk_below (g := gb126) (o := .cells #[.int .i64 ((rd_T39 l0 x33_3).f0), .int .i64 ((rd_T39 l0 x33_3).f1), .int .i64 ((rd_T39 l0 x33_3).f2)] 39 (0, 0)) (by (with_reducible repeat (first | refine blk_drewN ?_ _ | refine blk_drew ?_ | refine blk_alloc ?_ _)); exact BK126.out) hb)
    have n3_ := Aside0.mk (below_step (by repeat (first | (with_reducible first | exact HB.out | apply below_alloc | apply pw_below_drewN | apply below_drew1 | refine below_set ?_ GE126.out) | exact HB.out)) hb)
    have n4_ := Aside0.mk (hbox)
    have n5_ := Aside0.mk ((by rw [hg]; exact (below_size (by repeat (first | (with_reducible first | exact HB.out | apply below_alloc | apply pw_below_drewN | apply below_drew1 | refine below_set ?_ GE126.out) | exact HB.out))) : w.heap.size ≤ gb128))
    have n6_ := Aside0.mk ((by rw [hg]; exact (below_size (by repeat (first | (with_reducible first | exact HB.out | apply below_alloc | apply pw_below_drewN | apply below_drew1 | refine below_set ?_ GE126.out) | exact HB.out))) : w.heap.size ≤ gb128))
    have n7_ := Aside0.mk ((by rw [hg]; exact Nat.ne_of_lt (blk_lt (g := gb126) (o := .cells #[.int .i64 ((rd_T39 l0 x33_3).f0), .int .i64 ((rd_T39 l0 x33_3).f1), .int .i64 ((rd_T39 l0 x33_3).f2)] 39 (0, 0)) (by (with_reducible repeat (first | refine blk_drewN ?_ _ | refine blk_drew ?_ | refine blk_alloc ?_ _)); exact BK126.out)) : gb126 ≠ gb128))
    have n8_ := Aside0.mk ((by rw [hg]; exact Nat.ne_of_gt (blk_lt (g := gb126) (o := .cells #[.int .i64 ((rd_T39 l0 x33_3).f0), .int .i64 ((rd_T39 l0 x33_3).f1), .int .i64 ((rd_T39 l0 x33_3).f2)] 39 (0, 0)) (by (with_reducible repeat (first | refine blk_drewN ?_ _ | refine blk_drew ?_ | refine blk_alloc ?_ _)); exact BK126.out)) : gb128 ≠ gb126))
    clear HO_6
    clear HO_8
    clear BK126
    clear HB
    have HO_6 := n0_
    have HO_8 := n1_
    have BK126 := n2_
    have HB := n3_
    have BK128 := n4_
    have GW128 := n5_
    have GE128 := n6_
    have NB126_128 := n7_
    have NB128_126 := n8_
    clear n0_ n1_ n2_ n3_ n4_ n5_ n6_ n7_ n8_
    clear hb hbox hg
    refine hK.out _ _ ⟨(blk_cell BK126.out 0).trans rfl, (blk_cell BK126.out 1).trans rfl, (blk_cell BK126.out 2).trans rfl, HS3_⟩ (fun hHeld => ?_)
    clear hK K
    refine norm_ (a' := ?_) ?_ ?_
    rotate_left
    ·show Act.put _ (some 11) _ = _
     simp only [Act.put, List.setIfInBounds_toArray, List.set_cons_zero, List.set_cons_succ, i64_w, i32_w]
     rfl
    refine one_ (i := 8) (N := none) #[true, true, true, true, true, true, true, true, true] rfl rfl (one_of HT_.out (by kernel_rfl)) (by decide) (fun K hK => ?_)
    have hs29 : w28.cell? ⟨gb128, 0, none⟩ = some (.int .i64 0) := (blk_cell BK128.out 0).trans rfl
    have hfs29 := blk_frozen BK128.out 0
    have hns29_0 := NB126_128.out
    have hms29_0 := NB128_126.out
    have hs30 : w28.cell? ⟨gb128, 1, none⟩ = some (.int .i64 0) := (blk_cell BK128.out 1).trans rfl
    have hfs30 := blk_frozen BK128.out 1
    have hns30_0 := NB126_128.out
    have hms30_0 := NB128_126.out
    have hs31 : w28.cell? ⟨gb128, 2, none⟩ = some (.int .i64 0) := (blk_cell BK128.out 2).trans rfl
    have hfs31 := blk_frozen BK128.out 2
    have hns31_0 := NB126_128.out
    have hms31_0 := NB128_126.out
    have hs32 : w28.cell? ⟨gb128, 3, none⟩ = some (.int .i64 0) := (blk_cell BK128.out 3).trans rfl
    have hfs32 := blk_frozen BK128.out 3
    have hns32_0 := NB126_128.out
    have hms32_0 := NB128_126.out
    refine skip_ (w1 := ?_) (by rfl) rfl ?_ ?_
    rotate_left
    ·go_simp
     rfl
    refine hK.out _ _ ⟨((cell_far (p := ⟨gb128, _, none⟩) NB126_128.out _).trans (((cell_far (p := ⟨gb128, _, none⟩) NB126_128.out _).trans (((cell_far (p := ⟨gb128, _, none⟩) NB126_128.out _).trans (((cell_far (p := ⟨gb128, _, none⟩) NB126_128.out _).trans (hHeld.1)))))))), ((cell_far (p := ⟨gb128, _, none⟩) NB126_128.out _).trans (((cell_far (p := ⟨gb128, _, none⟩) NB126_128.out _).trans (((cell_far (p := ⟨gb128, _, none⟩) NB126_128.out _).trans (((cell_far (p := ⟨gb128, _, none⟩) NB126_128.out _).trans (hHeld.2.1)))))))), ((cell_far (p := ⟨gb128, _, none⟩) NB126_128.out _).trans (((cell_far (p := ⟨gb128, _, none⟩) NB126_128.out _).trans (((cell_far (p := ⟨gb128, _, none⟩) NB126_128.out _).trans (((cell_far (p := ⟨gb128, _, none⟩) NB126_128.out _).trans (hHeld.2.2.1)))))))), ((cell_far (p := ⟨gb128, _, none⟩) (by first | exact Kd.own_blk (Kd.R_ne HO_6.out BK128.out (by decide)) | (rw [add_block]; exact Kd.own_blk (Kd.R_ne HO_6.out BK128.out (by decide))) | (show (Addr.add _ _).block ≠ _; rw [add_block]; exact Kd.own_blk (Kd.R_ne HO_6.out BK128.out (by decide))) | (dsimp only; exact Kd.own_blk (Kd.R_ne HO_6.out BK128.out (by decide)))) _).trans (((cell_far (p := ⟨gb128, _, none⟩) (by first | exact Kd.own_blk (Kd.R_ne HO_6.out BK128.out (by decide)) | (rw [add_block]; exact Kd.own_blk (Kd.R_ne HO_6.out BK128.out (by decide))) | (show (Addr.add _ _).block ≠ _; rw [add_block]; exact Kd.own_blk (Kd.R_ne HO_6.out BK128.out (by decide))) | (dsimp only; exact Kd.own_blk (Kd.R_ne HO_6.out BK128.out (by decide)))) _).trans (((cell_far (p := ⟨gb128, _, none⟩) (by first | exact Kd.own_blk (Kd.R_ne HO_6.out BK128.out (by decide)) | (rw [add_block]; exact Kd.own_blk (Kd.R_ne HO_6.out BK128.out (by decide))) | (show (Addr.add _ _).block ≠ _; rw [add_block]; exact Kd.own_blk (Kd.R_ne HO_6.out BK128.out (by decide))) | (dsimp only; exact Kd.own_blk (Kd.R_ne HO_6.out BK128.out (by decide)))) _).trans (((cell_far (p := ⟨gb128, _, none⟩) (by first | exact Kd.own_blk (Kd.R_ne HO_6.out BK128.out (by decide)) | (rw [add_block]; exact Kd.own_blk (Kd.R_ne HO_6.out BK128.out (by decide))) | (show (Addr.add _ _).block ≠ _; rw [add_block]; exact Kd.own_blk (Kd.R_ne HO_6.out BK128.out (by decide))) | (dsimp only; exact Kd.own_blk (Kd.R_ne HO_6.out BK128.out (by decide)))) _).trans (hHeld.2.2.2))))))))⟩ (fun hHeld => ?_)
    clear hK K
    refine done_ (done_of HT_.out (by kernel_rfl)) ?_
    have hnb33 := NB126_128.out
    have hnc33 := NB128_126.out
    have hcz34_0 : w28.cell? ⟨gb126, 0, none⟩ = some (.int .i64 ((rd_T39 l0 x33_3).f0)) := (blk_cell BK126.out 0).trans rfl
    have hcz34_1 : w28.cell? ⟨gb126, 1, none⟩ = some (.int .i64 ((rd_T39 l0 x33_3).f1)) := (blk_cell BK126.out 1).trans rfl
    have hcz34_2 : w28.cell? ⟨gb126, 2, none⟩ = some (.int .i64 ((rd_T39 l0 x33_3).f2)) := (blk_cell BK126.out 2).trans rfl
    have hfz34_0 := blk_frozen BK126.out 0
    have hfz34_1 := blk_frozen BK126.out 1
    have hfz34_2 := blk_frozen BK126.out 2
    try go_wp2_with (first | ((with_reducible refine gate_callee (f := 45) rfl ?_); refine goesL_ (some 46) rfl rfl Try.func45 (by kernel_rfl) rfl #[.agg #[.int .i64 ((rd_T39 l0 x33_3).f0), .int .i64 ((rd_T39 l0 x33_3).f1), .int .i64 ((rd_T39 l0 x33_3).f2)]] rfl (by (try simp only [List.map_toArray, List.map_cons, List.map_nil]); first | done | rfl | (simp only [List.length_drop, List.length_take]; rfl)) ?_; (with_reducible refine (loops_hasParts.calls ((rd_T39 l0 x33_3).f0) ((rd_T39 l0 x33_3).f1) ((rd_T39 l0 x33_3).f2) true _ A16.out).mono ?_); rintro e w35 ⟨rfl, hb⟩; refine ⟨_, rfl, ?_⟩; have n0_ := Aside0.mk (Kd.R_below (by (with_reducible repeat (first | apply Kd.R_alloc | apply Kd.R_drewN | apply Kd.R_drew)); exact (Kd.R_mono (Kd.R_far (p := ⟨gb128, 3, none⟩) (Kd.R_far (p := ⟨gb128, 2, none⟩) (Kd.R_far (p := ⟨gb128, 1, none⟩) (Kd.R_far (p := ⟨gb128, 0, none⟩) (Kd.R_types HO_6.out BK128.out (by decide)) (fun _ hk => hk.2) (.int .i64 (rd x6_2 x33_3))) (fun _ hk => hk.2) (.int .i64 ((rd_T39 l0 x33_3).f0))) (fun _ hk => hk.2) (.int .i64 0)) (fun _ hk => hk.2) (.int .i64 0)) (fun _ h_ => h_.1))) hb); have n1_ := Aside0.mk (Kd.R_below (by (with_reducible repeat (first | apply Kd.R_alloc | apply Kd.R_drewN | apply Kd.R_drew)); exact (Kd.R_mono (Kd.R_far (p := ⟨gb128, 3, none⟩) (Kd.R_far (p := ⟨gb128, 2, none⟩) (Kd.R_far (p := ⟨gb128, 1, none⟩) (Kd.R_far (p := ⟨gb128, 0, none⟩) (Kd.R_mono HO_8.out (fun k_ hk => (⟨hk, hk.2⟩ : _ ∧ k_ ≠ gb128))) (fun _ hk => hk.2) (.int .i64 (rd x6_2 x33_3))) (fun _ hk => hk.2) (.int .i64 ((rd_T39 l0 x33_3).f0))) (fun _ hk => hk.2) (.int .i64 0)) (fun _ hk => hk.2) (.int .i64 0)) (fun _ h_ => h_.1))) hb); have n2_ := Aside0.mk (blk_below (g := gb126) (o := .cells #[.int .i64 ((rd_T39 l0 x33_3).f0), .int .i64 ((rd_T39 l0 x33_3).f1), .int .i64 ((rd_T39 l0 x33_3).f2)] 39 (0, 0)) (by (with_reducible repeat (first | refine blk_drewN ?_ _ | refine blk_drew ?_ | refine blk_alloc ?_ _)); refine blk_far ?_ NB126_128.out _; (with_reducible repeat (first | refine blk_drewN ?_ _ | refine blk_drew ?_ | refine blk_alloc ?_ _)); refine blk_far ?_ NB126_128.out _; (with_reducible repeat (first | refine blk_drewN ?_ _ | refine blk_drew ?_ | refine blk_alloc ?_ _)); refine blk_far ?_ NB126_128.out _; (with_reducible repeat (first | refine blk_drewN ?_ _ | refine blk_drew ?_ | refine blk_alloc ?_ _)); refine blk_far ?_ NB126_128.out _; (with_reducible repeat (first | refine blk_drewN ?_ _ | refine blk_drew ?_ | refine blk_alloc ?_ _)); exact BK126.out) hb); have n3_ := Aside0.mk (blk_below (g := gb128) (o := .cells #[.int .i64 (rd x6_2 x33_3), .int .i64 ((rd_T39 l0 x33_3).f0), .int .i64 0, .int .i64 0] 98 (0, 0)) (by (with_reducible repeat (first | refine blk_drewN ?_ _ | refine blk_drew ?_ | refine blk_alloc ?_ _)); refine blk_put (cs := #[.int .i64 (rd x6_2 x33_3), .int .i64 ((rd_T39 l0 x33_3).f0), .int .i64 0, .int .i64 0]) ?_ 3 _ rfl; (with_reducible repeat (first | refine blk_drewN ?_ _ | refine blk_drew ?_ | refine blk_alloc ?_ _)); refine blk_put (cs := #[.int .i64 (rd x6_2 x33_3), .int .i64 ((rd_T39 l0 x33_3).f0), .int .i64 0, .int .i64 0]) ?_ 2 _ rfl; (with_reducible repeat (first | refine blk_drewN ?_ _ | refine blk_drew ?_ | refine blk_alloc ?_ _)); refine blk_put (cs := #[.int .i64 (rd x6_2 x33_3), .int .i64 0, .int .i64 0, .int .i64 0]) ?_ 1 _ rfl; (with_reducible repeat (first | refine blk_drewN ?_ _ | refine blk_drew ?_ | refine blk_alloc ?_ _)); refine blk_put (cs := #[.int .i64 0, .int .i64 0, .int .i64 0, .int .i64 0]) ?_ 0 _ rfl; (with_reducible repeat (first | refine blk_drewN ?_ _ | refine blk_drew ?_ | refine blk_alloc ?_ _)); exact BK128.out) hb); have n4_ := Aside0.mk (below_step (by repeat (first | (with_reducible first | exact HB.out | apply below_alloc | apply pw_below_drewN | apply below_drew1 | refine below_set ?_ GE126.out | refine below_set ?_ GE128.out) | exact HB.out)) hb); clear HO_6; clear HO_8; clear BK126; clear BK128; clear HB; have HO_6 := n0_; have HO_8 := n1_; have BK126 := n2_; have BK128 := n3_; have HB := n4_; clear n0_ n1_ n2_ n3_ n4_; (try clear hb); (try clear hb2); (try clear hk); (try clear hi)))
    have n0_ := Aside0.mk (Kd.R_drew HO_6.out)
    have n1_ := Aside0.mk (Kd.R_drew HO_8.out)
    have n2_ := Aside0.mk (blk_drew BK126.out)
    have n3_ := Aside0.mk (blk_drew BK128.out)
    have n4_ := Aside0.mk (below_drew1 HB.out)
    clear HO_6
    clear HO_8
    clear BK126
    clear BK128
    clear HB
    have HO_6 := n0_
    have HO_8 := n1_
    have BK126 := n2_
    have BK128 := n3_
    have HB := n4_
    clear n0_ n1_ n2_ n3_ n4_
    have p130 : 0 ≤ (((rd_T39 l0 x33_3).f1) : Int) := of_decide_eq_true (by first | (with_reducible assumption) | assumption)
    have q130 : ((rd_T39 l0 x33_3).f1) < (x6_2.length : Int) := of_decide_eq_true (by first | (with_reducible assumption) | assumption)
    obtain ⟨ad130, e130, hx130_0⟩ := Kd.at_int (Kd.R_reads' HO_6.out).2.2 ((rd_T39 l0 x33_3).f1) p130 q130
    obtain rfl : ad127 = ad130 := (by injection e130)
    replace p130 := eq_true p130
    replace q130 := eq_true q130
    have p131 : 0 ≤ (((rd_T39 l0 x33_3).f2) : Int) := of_decide_eq_true (by first | (with_reducible assumption) | assumption)
    have q131 : ((rd_T39 l0 x33_3).f2) < (x6_2.length : Int) := of_decide_eq_true (by first | (with_reducible assumption) | assumption)
    obtain ⟨ad131, e131, hx131_0⟩ := Kd.at_int (Kd.R_reads' HO_6.out).2.2 ((rd_T39 l0 x33_3).f2) p131 q131
    obtain rfl : ad127 = ad131 := (by injection e131)
    replace p131 := eq_true p131
    replace q131 := eq_true q131
    refine start_ (n := 14) (S := fun w' => w'.cell? ⟨gb126, 0, none⟩ = some (.int .i64 ((rd_T39 l0 x33_3).f0)) ∧ w'.cell? ⟨gb126, 1, none⟩ = some (.int .i64 ((rd_T39 l0 x33_3).f1)) ∧ w'.cell? ⟨gb126, 2, none⟩ = some (.int .i64 ((rd_T39 l0 x33_3).f2)) ∧ w'.cell? (ad127.add (((rd_T39 l0 x33_3).f1)).toNat) = some (.int .i64 (rd x6_2 ((rd_T39 l0 x33_3).f1))) ∧ w'.cell? (ad127.add (((rd_T39 l0 x33_3).f2)).toNat) = some (.int .i64 (rd x6_2 ((rd_T39 l0 x33_3).f2)))) (ds := []) #[false, false, false, false, false, false, false, false, false, false, false, false, false, false] (by kernel_rfl) rfl rfl ⟨(blk_cell BK126.out 0).trans rfl, (blk_cell BK126.out 1).trans rfl, (blk_cell BK126.out 2).trans rfl, hx130_0, hx131_0⟩ (fun hHeld => ?_); refine with_tabW loops_classes.tab14 loops_classes.bits14 (fun HT_ HW_ => ?_)
    generalize w35.drew = w36 at HO_6 HO_8 BK126 BK128 HB hx130_0 hx131_0 hHeld ⊢
    refine pure_ (i := 0) (N := some 47) (v := ?_) (a' := ?_) #[true, false, false, false, false, false, false, false, false, false, false, false, false, false] rfl rfl (any_of HT_.out (by kernel_rfl)) (fun _ _ _ h => h) (Or.inl ⟨by rfl, ?_⟩) ?_ ?_
    rotate_left
    ·intro w'
     go_simp
     with_reducible rfl
    rotate_left
    ·simp only [Act.put, List.setIfInBounds_toArray, List.set_cons_zero, List.set_cons_succ, i64_w, i32_w]
     rfl
    refine pure_ (i := 1) (N := some 48) (v := ?_) (a' := ?_) #[true, true, false, false, false, false, false, false, false, false, false, false, false, false] rfl rfl (any_of HT_.out (by kernel_rfl)) (fun _ _ _ h => h) (Or.inl ⟨by rfl, ?_⟩) ?_ ?_
    rotate_left
    ·intro w'
     go_simp
     with_reducible rfl
    rotate_left
    ·simp only [Act.put, List.setIfInBounds_toArray, List.set_cons_zero, List.set_cons_succ, i64_w, i32_w]
     rfl
    refine pure_ (i := 5) (N := some 52) (v := ?_) (a' := ?_) #[true, true, false, false, false, true, false, false, false, false, false, false, false, false] rfl rfl (any_of HT_.out (by kernel_rfl)) (fun _ _ _ h => h) (Or.inl ⟨by rfl, ?_⟩) ?_ ?_
    rotate_left
    ·intro w'
     go_simp
     with_reducible rfl
    rotate_left
    ·simp only [Act.put, List.setIfInBounds_toArray, List.set_cons_zero, List.set_cons_succ, i64_w, i32_w]
     rfl
    refine pure_ (i := 6) (N := some 53) (v := ?_) (a' := ?_) #[true, true, false, false, false, true, true, false, false, false, false, false, false, false] rfl rfl (any_of HT_.out (by kernel_rfl)) (fun _ _ _ h => h) (Or.inl ⟨by rfl, ?_⟩) ?_ ?_
    rotate_left
    ·intro w'
     go_simp
     with_reducible rfl
    rotate_left
    ·simp only [Act.put, List.setIfInBounds_toArray, List.set_cons_zero, List.set_cons_succ, i64_w, i32_w]
     rfl
    refine take_ (i := 2) (N := some 49) (v := ?_) (a' := ?_) #[true, true, true, false, false, true, true, false, false, false, false, false, false, false] rfl rfl (take_ofW HT_.out HW_.out (by kernel_rfl)) (fun _ _ _ h => h) (Or.inl ⟨by rfl, ?_⟩) hHeld ?_ ?_
    rotate_left
    ·rintro w' ⟨s0, s1, s2, s3, s4⟩
     go_simp
     with_reducible rfl
    rotate_left
    ·simp only [Act.put, List.setIfInBounds_toArray, List.set_cons_zero, List.set_cons_succ, i64_w, i32_w]
     rfl
    refine pure_ (i := 3) (N := some 50) (v := ?_) (a' := ?_) #[true, true, true, true, false, true, true, false, false, false, false, false, false, false] rfl rfl (any_of HT_.out (by kernel_rfl)) (fun _ _ _ h => h) (Or.inl ⟨by rfl, ?_⟩) ?_ ?_
    rotate_left
    ·intro w'
     go_simp
     with_reducible rfl
    rotate_left
    ·simp only [Act.put, List.setIfInBounds_toArray, List.set_cons_zero, List.set_cons_succ, i64_w, i32_w]
     rfl
    refine take_ (i := 4) (N := some 51) (v := ?_) (a' := ?_) #[true, true, true, true, true, true, true, false, false, false, false, false, false, false] rfl rfl (take_ofW HT_.out HW_.out (by kernel_rfl)) (fun _ _ _ h => h) (Or.inl ⟨by rfl, ?_⟩) hHeld ?_ ?_
    rotate_left
    ·rintro w' ⟨s0, s1, s2, s3, s4⟩
     go_simp
     with_reducible rfl
    rotate_left
    ·simp only [Act.put, List.setIfInBounds_toArray, List.set_cons_zero, List.set_cons_succ, i64_w, i32_w]
     rfl
    refine pure_ (i := 10) (N := some 57) (v := ?_) (a' := ?_) #[true, true, true, true, true, true, true, false, false, false, true, false, false, false] rfl rfl (any_of HT_.out (by kernel_rfl)) (fun _ _ _ h => h) (Or.inl ⟨by rfl, ?_⟩) ?_ ?_
    rotate_left
    ·intro w'
     go_simp
     with_reducible rfl
    rotate_left
    ·simp only [Act.put, List.setIfInBounds_toArray, List.set_cons_zero, List.set_cons_succ, i64_w, i32_w]
     rfl
    refine take_ (i := 7) (N := some 54) (v := ?_) (a' := ?_) #[true, true, true, true, true, true, true, true, false, false, true, false, false, false] rfl rfl (take_ofW HT_.out HW_.out (by kernel_rfl)) (fun _ _ _ h => h) (Or.inl ⟨by rfl, ?_⟩) hHeld ?_ ?_
    rotate_left
    ·rintro w' ⟨s0, s1, s2, s3, s4⟩
     go_simp
     with_reducible rfl
    rotate_left
    ·simp only [Act.put, List.setIfInBounds_toArray, List.set_cons_zero, List.set_cons_succ, i64_w, i32_w]
     rfl
    refine pure_ (i := 8) (N := some 55) (v := ?_) (a' := ?_) #[true, true, true, true, true, true, true, true, true, false, true, false, false, false] rfl rfl (any_of HT_.out (by kernel_rfl)) (fun _ _ _ h => h) (Or.inl ⟨by rfl, ?_⟩) ?_ ?_
    rotate_left
    ·intro w'
     go_simp
     with_reducible rfl
    rotate_left
    ·simp only [Act.put, List.setIfInBounds_toArray, List.set_cons_zero, List.set_cons_succ, i64_w, i32_w]
     rfl
    refine take_ (i := 9) (N := some 56) (v := ?_) (a' := ?_) #[true, true, true, true, true, true, true, true, true, true, true, false, false, false] rfl rfl (take_ofW HT_.out HW_.out (by kernel_rfl)) (fun _ _ _ h => h) (Or.inl ⟨by rfl, ?_⟩) hHeld ?_ ?_
    rotate_left
    ·rintro w' ⟨s0, s1, s2, s3, s4⟩
     go_simp
     with_reducible rfl
    rotate_left
    ·simp only [Act.put, List.setIfInBounds_toArray, List.set_cons_zero, List.set_cons_succ, i64_w, i32_w]
     rfl
    refine one_ (i := 11) (N := none) #[true, true, true, true, true, true, true, true, true, true, true, true, false, false] rfl rfl (one_of HT_.out (by kernel_rfl)) (by decide) (fun K hK => ?_)
    have hs37 : w36.cell? ⟨gb128, 2, none⟩ = some (.int .i64 0) := (blk_cell BK128.out 2).trans rfl
    have hfs37 := blk_frozen BK128.out 2
    have hns37_0 := NB126_128.out
    have hms37_0 := NB128_126.out
    refine skip_ (w1 := ?_) (by rfl) rfl ?_ ?_
    rotate_left
    ·go_simp
     rfl
    refine hK.out _ _ ⟨((cell_far (p := ⟨gb128, _, none⟩) NB126_128.out _).trans (hHeld.1)), ((cell_far (p := ⟨gb128, _, none⟩) NB126_128.out _).trans (hHeld.2.1)), ((cell_far (p := ⟨gb128, _, none⟩) NB126_128.out _).trans (hHeld.2.2.1)), ((cell_far (p := ⟨gb128, _, none⟩) (by first | exact Kd.own_blk (Kd.R_ne HO_6.out BK128.out (by decide)) | (rw [add_block]; exact Kd.own_blk (Kd.R_ne HO_6.out BK128.out (by decide))) | (show (Addr.add _ _).block ≠ _; rw [add_block]; exact Kd.own_blk (Kd.R_ne HO_6.out BK128.out (by decide))) | (dsimp only; exact Kd.own_blk (Kd.R_ne HO_6.out BK128.out (by decide)))) _).trans (hHeld.2.2.2.1)), ((cell_far (p := ⟨gb128, _, none⟩) (by first | exact Kd.own_blk (Kd.R_ne HO_6.out BK128.out (by decide)) | (rw [add_block]; exact Kd.own_blk (Kd.R_ne HO_6.out BK128.out (by decide))) | (show (Addr.add _ _).block ≠ _; rw [add_block]; exact Kd.own_blk (Kd.R_ne HO_6.out BK128.out (by decide))) | (dsimp only; exact Kd.own_blk (Kd.R_ne HO_6.out BK128.out (by decide)))) _).trans (hHeld.2.2.2.2))⟩ (fun hHeld => ?_)
    clear hK K
    refine pure_ (i := 12) (N := some 58) (v := ?_) (a' := ?_) #[true, true, true, true, true, true, true, true, true, true, true, true, true, false] rfl rfl (any_of HT_.out (by kernel_rfl)) (fun _ _ _ h => h) (Or.inl ⟨by rfl, ?_⟩) ?_ ?_
    rotate_left
    ·intro w'
     go_simp
     with_reducible rfl
    rotate_left
    ·simp only [Act.put, List.setIfInBounds_toArray, List.set_cons_zero, List.set_cons_succ, i64_w, i32_w]
     rfl
    refine one_ (i := 13) (N := none) #[true, true, true, true, true, true, true, true, true, true, true, true, true, true] rfl rfl (one_of HT_.out (by kernel_rfl)) (by decide) (fun K hK => ?_)
    have hs38 : w36.cell? ⟨gb128, 3, none⟩ = some (.int .i64 0) := (blk_cell BK128.out 3).trans rfl
    have hfs38 := blk_frozen BK128.out 3
    have hns38_0 := NB126_128.out
    have hms38_0 := NB128_126.out
    refine skip_ (w1 := ?_) (by rfl) rfl ?_ ?_
    rotate_left
    ·go_simp
     rfl
    refine hK.out _ _ ⟨((cell_far (p := ⟨gb128, _, none⟩) NB126_128.out _).trans (hHeld.1)), ((cell_far (p := ⟨gb128, _, none⟩) NB126_128.out _).trans (hHeld.2.1)), ((cell_far (p := ⟨gb128, _, none⟩) NB126_128.out _).trans (hHeld.2.2.1)), ((cell_far (p := ⟨gb128, _, none⟩) (by first | exact Kd.own_blk (Kd.R_ne HO_6.out BK128.out (by decide)) | (rw [add_block]; exact Kd.own_blk (Kd.R_ne HO_6.out BK128.out (by decide))) | (show (Addr.add _ _).block ≠ _; rw [add_block]; exact Kd.own_blk (Kd.R_ne HO_6.out BK128.out (by decide))) | (dsimp only; exact Kd.own_blk (Kd.R_ne HO_6.out BK128.out (by decide)))) _).trans (hHeld.2.2.2.1)), ((cell_far (p := ⟨gb128, _, none⟩) (by first | exact Kd.own_blk (Kd.R_ne HO_6.out BK128.out (by decide)) | (rw [add_block]; exact Kd.own_blk (Kd.R_ne HO_6.out BK128.out (by decide))) | (show (Addr.add _ _).block ≠ _; rw [add_block]; exact Kd.own_blk (Kd.R_ne HO_6.out BK128.out (by decide))) | (dsimp only; exact Kd.own_blk (Kd.R_ne HO_6.out BK128.out (by decide)))) _).trans (hHeld.2.2.2.2))⟩ (fun hHeld => ?_)
    clear hK K
    refine done_ (done_of HT_.out (by kernel_rfl)) ?_
    have hcz39_0 : w36.cell? ⟨gb128, 0, none⟩ = some (.int .i64 (rd x6_2 x33_3)) := (blk_cell BK128.out 0).trans rfl
    have hcz39_1 : w36.cell? ⟨gb128, 1, none⟩ = some (.int .i64 ((rd_T39 l0 x33_3).f0)) := (blk_cell BK128.out 1).trans rfl
    have hcz39_2 : w36.cell? ⟨gb128, 2, none⟩ = some (.int .i64 0) := (blk_cell BK128.out 2).trans rfl
    have hcz39_3 : w36.cell? ⟨gb128, 3, none⟩ = some (.int .i64 0) := (blk_cell BK128.out 3).trans rfl
    have hfz39_0 := blk_frozen BK128.out 0
    have hfz39_1 := blk_frozen BK128.out 1
    have hfz39_2 := blk_frozen BK128.out 2
    have hfz39_3 := blk_frozen BK128.out 3
    try go_wp2_with (first | ((with_reducible refine gate_builtin (b := .append) (xs := #[.tmp 59, .tmp 61]) rfl ?_); at_builtin; refine Kd.R_append k98 (w0 := w) w.heap.size rfl (.tmp 59) (.tmp 61) 97 98 (.agg #[(.int .i64 0), (.int .i64 0), (.int .i64 0), (.int .i64 0)]) 32 rfl Try.underlying97 info98 rfl (by decide) (by omega) u8 x8_3 (⟨rd x6_2 x33_3, (rd_T39 l0 x33_3).f0, rd x6_2 ((rd_T39 l0 x33_3).f1), rd x6_2 ((rd_T39 l0 x33_3).f2)⟩ : S98) [.int .i64 (rd x6_2 x33_3), .int .i64 ((rd_T39 l0 x33_3).f0), .int .i64 (rd x6_2 ((rd_T39 l0 x33_3).f1)), .int .i64 (rd x6_2 ((rd_T39 l0 x33_3).f2))] (fun k_ => k_ ≠ gb128) (fun _ => False) rfl (by first | (go_simp; done) | (go_simp; rfl)) ?aP (fun _ hk => hk.elim) ?aF ?aO ?aB ?aS ?aL ?_; (case aP => exact k98_mkM _ _ _ (⟨rd x6_2 x33_3, (rd_T39 l0 x33_3).f0, rd x6_2 ((rd_T39 l0 x33_3).f1), rd x6_2 ((rd_T39 l0 x33_3).f2)⟩ : S98)); (case aB => exact (by repeat (first | (with_reducible first | exact HB.out | apply below_alloc | apply pw_below_drewN | apply below_drew1 | refine below_set ?_ GE126.out | refine below_set ?_ GE128.out) | exact HB.out))); (case aF => exact (fun k_ hk => Kd.freshB (g := gb128) (o := .cells #[.int .i64 (rd x6_2 x33_3), .int .i64 ((rd_T39 l0 x33_3).f0), .int .i64 (rd x6_2 ((rd_T39 l0 x33_3).f1)), .int .i64 (rd x6_2 ((rd_T39 l0 x33_3).f2))] 98 (0, 0)) (by (with_reducible repeat (first | refine blk_drewN ?_ _ | refine blk_drew ?_ | refine blk_alloc ?_ _)); refine blk_put (cs := #[.int .i64 (rd x6_2 x33_3), .int .i64 ((rd_T39 l0 x33_3).f0), .int .i64 (rd x6_2 ((rd_T39 l0 x33_3).f1)), .int .i64 0]) ?_ 3 _ rfl; (with_reducible repeat (first | refine blk_drewN ?_ _ | refine blk_drew ?_ | refine blk_alloc ?_ _)); refine blk_put (cs := #[.int .i64 (rd x6_2 x33_3), .int .i64 ((rd_T39 l0 x33_3).f0), .int .i64 0, .int .i64 0]) ?_ 2 _ rfl; (with_reducible repeat (first | refine blk_drewN ?_ _ | refine blk_drew ?_ | refine blk_alloc ?_ _)); exact BK128.out) k_ hk)); (case aO => exact (by (with_reducible repeat (first | apply Kd.R_alloc | apply Kd.R_drewN | apply Kd.R_drew)); exact Kd.R_mono (Kd.R_far (p := ⟨gb128, 3, none⟩) (Kd.R_far (p := ⟨gb128, 2, none⟩) (Kd.R_mono HO_8.out (fun k_ hk => (⟨hk, hk.2⟩ : _ ∧ k_ ≠ gb128))) (fun _ hk => hk.2) (.int .i64 (rd x6_2 ((rd_T39 l0 x33_3).f1)))) (fun _ hk => hk.2) (.int .i64 (rd x6_2 ((rd_T39 l0 x33_3).f2)))) (fun _ hk => hk.1.2))); (case aS => exact (below_size (by repeat (first | (with_reducible first | exact HB.out | apply below_alloc | apply pw_below_drewN | apply below_drew1 | refine below_set ?_ GE126.out | refine below_set ?_ GE128.out) | exact HB.out)))); (case aL => have := LMc22.out; omega); intro v133 w40 ho hb hg hat; rw [← Ny132.out] at ho; have n0_ := Aside0.mk (Kd.R_over' (by (with_reducible repeat (first | apply Kd.R_alloc | apply Kd.R_drewN | apply Kd.R_drew)); exact (Kd.R_mono (Kd.R_far (p := ⟨gb128, 3, none⟩) (Kd.R_far (p := ⟨gb128, 2, none⟩) (Kd.R_types HO_6.out BK128.out (by decide)) (fun _ hk => hk.2) (.int .i64 (rd x6_2 ((rd_T39 l0 x33_3).f1)))) (fun _ hk => hk.2) (.int .i64 (rd x6_2 ((rd_T39 l0 x33_3).f2)))) (fun _ h_ => h_.1))) (Kd.R_typed (by (with_reducible repeat (first | apply Kd.R_alloc | apply Kd.R_drewN | apply Kd.R_drew)); exact (Kd.R_mono (Kd.R_far (p := ⟨gb128, 3, none⟩) (Kd.R_far (p := ⟨gb128, 2, none⟩) (Kd.R_mono HO_8.out (fun k_ hk => (⟨hk, hk.2⟩ : _ ∧ k_ ≠ gb128))) (fun _ hk => hk.2) (.int .i64 (rd x6_2 ((rd_T39 l0 x33_3).f1)))) (fun _ hk => hk.2) (.int .i64 (rd x6_2 ((rd_T39 l0 x33_3).f2)))) (fun _ h_ => h_.1)))) (by decide) hg); have n1_ := Aside0.mk (blk_grown (g := gb126) (o := .cells #[.int .i64 ((rd_T39 l0 x33_3).f0), .int .i64 ((rd_T39 l0 x33_3).f1), .int .i64 ((rd_T39 l0 x33_3).f2)] 39 (0, 0)) (by (with_reducible repeat (first | refine blk_drewN ?_ _ | refine blk_drew ?_ | refine blk_alloc ?_ _)); refine blk_far ?_ NB126_128.out _; (with_reducible repeat (first | refine blk_drewN ?_ _ | refine blk_drew ?_ | refine blk_alloc ?_ _)); refine blk_far ?_ NB126_128.out _; (with_reducible repeat (first | refine blk_drewN ?_ _ | refine blk_drew ?_ | refine blk_alloc ?_ _)); exact BK126.out) hg (Kd.R_ne HO_8.out BK126.out (by decide))); have n2_ := Aside0.mk (blk_grown (g := gb128) (o := .cells #[.int .i64 (rd x6_2 x33_3), .int .i64 ((rd_T39 l0 x33_3).f0), .int .i64 (rd x6_2 ((rd_T39 l0 x33_3).f1)), .int .i64 (rd x6_2 ((rd_T39 l0 x33_3).f2))] 98 (0, 0)) (by (with_reducible repeat (first | refine blk_drewN ?_ _ | refine blk_drew ?_ | refine blk_alloc ?_ _)); refine blk_put (cs := #[.int .i64 (rd x6_2 x33_3), .int .i64 ((rd_T39 l0 x33_3).f0), .int .i64 (rd x6_2 ((rd_T39 l0 x33_3).f1)), .int .i64 0]) ?_ 3 _ rfl; (with_reducible repeat (first | refine blk_drewN ?_ _ | refine blk_drew ?_ | refine blk_alloc ?_ _)); refine blk_put (cs := #[.int .i64 (rd x6_2 x33_3), .int .i64 ((rd_T39 l0 x33_3).f0), .int .i64 0, .int .i64 0]) ?_ 2 _ rfl; (with_reducible repeat (first | refine blk_drewN ?_ _ | refine blk_drew ?_ | refine blk_alloc ?_ _)); exact BK128.out) hg (Kd.R_away HO_8.out (fun _ hk => hk.2))); have n3_ := Aside0.mk (hb); have n4_ := Aside0.mk (ho); clear HO_6; clear BK126; clear BK128; clear HB; clear HO_8; have HO_6 := n0_; have BK126 := n1_; have BK128 := n2_; have HB := n3_; have HO134 := n4_; clear n0_ n1_ n2_ n3_ n4_; clear ho hb hg hat))
    go_roundg k3
    case measure => have := HK1.out; have := HK2.out; have := HK3.out; omega
    exact ⟨(y132), (wrap64 (x33_3 + 1)), (by first | rfl | (simp; done) | (simp [*]; done)), H', ⟨by have := HK1.out; have := HK2.out; have := HK3.out; omega⟩, ⟨by (with_reducible repeat (first | apply Kd.R_alloc | apply Kd.R_drewN | apply Kd.R_drew)); exact HO_6.out⟩, ⟨by (with_reducible repeat (first | apply Kd.R_alloc | apply Kd.R_drewN | apply Kd.R_drew)); exact Kd.R_mono HO134.out (fun _ hk => trivial)⟩, ⟨by repeat (first | (with_reducible first | exact HB.out | apply below_alloc | apply pw_below_drewN | apply below_drew1 | refine below_set ?_ GE126.out | refine below_set ?_ GE128.out) | exact HB.out)⟩⟩

def canNs (cs ns : List Int) (k : Int) : List Int := if rd cs k ∈ ns.map (rd cs) then ns else ns ++ [k]
def canIx (cs ns : List Int) (k : Int) : Int := (numIx (ns.map (rd cs)) (rd cs k) : Int)
def CanPost (cs : List Int) (gn b : Nat) (wc W : World) (vn : Value) (ns : List Int) (r : Int) (e : Ending) (w' : World) : Prop :=
  e = .returned (.int .i64 r) ∧ ∃ vn', w'.heap[gn]? = some (.cells #[vn'] 65 (0, 0)) ∧ Kd.R (Kd.int .i64) 3 w' wc.heap.size (fun _ => True) vn' ns ∧ MapAt w' Try.prog 3 b ns.length (encI (numM (ns.map (rd cs)))) ∧ Kept W w' (fun i => i = gn ∨ i = b ∨ some i = vn.ownBlock) ∧ Below wc.heap.size wc w'
set_option maxHeartbeats 2000000 in
set_option maxRecDepth 100000 in
theorem find_fn.calls (cs : List Int) (Ac : Option Addr) (cc ga gc gn b : Nat) (wc W : World) (vn : Value) (ns : List Int) (k : Int)
    (hB : Below wc.heap.size wc W) (hcs : Kd.C (Kd.int .i64) wc Ac cs.length cs) (hga : W.heap[ga]? = some (.cells #[.map (some b)] 100 (0, 0))) (hgc : W.heap[gc]? = some (.cells #[.slice Ac cs.length cc] 65 (0, 0))) (hgn : W.heap[gn]? = some (.cells #[vn] 65 (0, 0))) (hge : wc.heap.size ≤ gn ∧ wc.heap.size ≤ b) (hne : gc ≠ gn)
    (hm : MapAt W Try.prog 3 b ns.length (encI (numM (ns.map (rd cs))))) (hr : Kd.R (Kd.int .i64) 3 W wc.heap.size (fun _ => True) vn ns) (hk : 0 ≤ k ∧ k < cs.length) (hl : ns.length ≤ 1000) (hi : I64 (rd cs k)) :
    Calls Try.prog 64 #[.int .i64 k, .pointer (some ⟨ga, 0, none⟩), .pointer (some ⟨gc, 0, none⟩), .pointer (some ⟨gn, 0, none⟩)] W (CanPost cs gn b wc W vn (canNs cs ns k) (canIx cs (canNs cs ns k) k)) := by
  obtain ⟨ad, ea, hx0⟩ := Kd.at_int hcs k hk.1 hk.2
  subst ea
  have hx := (hB.cell (World.block_lt_of_cell? wc _ hx0)).trans hx0
  have ca : W.cell? ⟨ga, 0, none⟩ = some (.map (some b)) := (blk_cell hga 0).trans rfl
  have cc' : W.cell? ⟨gc, 0, none⟩ = some (.slice (some ad) cs.length cc) := (blk_cell hgc 0).trans rfl
  have cn : W.cell? ⟨gn, 0, none⟩ = some vn := (blk_cell hgn 0).trans rfl
  have p1 := eq_true hk.1
  have q1 := eq_true hk.2
  have hkey := key3 hi
  obtain ⟨x, hxx⟩ : ∃ x, x = rd cs k := ⟨_, rfl⟩
  rw [← hxx] at hx hkey
  by_cases c4 : rd cs k ∈ ns.map (rd cs)
  · have h4 : x ∈ ns.map (rd cs) := by rw [hxx]; exact c4
    have hlo : ∀ n, (Instr.lookup 100 (.map (some b)) (.int .i64 x) true).run Try.prog (W.drewN n) = .ok (.tuple #[.int .i64 (numIx (ns.map (rd cs)) x : Int), .bool true]) (W.drewN n) := fun n => by
      rw [(hm.drewN n).lookOk law3 Try.underlying100 (nb_zero _) hkey, nb_some h4]; rfl
    have hlk : ∀ n, (Instr.lookup 100 (.map (some b)) (.int .i64 x) false).run Try.prog (W.drewN n) = .ok (.int .i64 (numIx (ns.map (rd cs)) x : Int)) (W.drewN n) := fun n => by
      rw [(hm.drewN n).look law3 Try.underlying100 (nb_zero _) hkey, nb_some h4]; rfl
    have e1 : canNs cs ns k = ns := if_pos c4
    have e2 : canIx cs ns k = (numIx (ns.map (rd cs)) x : Int) := by unfold canIx; rw [hxx]
    rw [e1, e2]
    have HF := Aside0.mk (fun (w' : World) (hw : Drawn0 W w') => show CanPost cs gn b wc W vn ns (numIx (ns.map (rd cs)) x : Int) (.returned (.int .i64 (numIx (ns.map (rd cs)) x : Int))) w' from (by obtain ⟨n, rfl⟩ := hw; exact ⟨rfl, vn, hgn, Kd.R_drewN hr n, hm.drewN n, (Kept.refl W _).drewN n, pw_below_drewN hB n⟩))
    clear e1 e2 c4 h4 hkey hm hr hl hi hne hge hgn hgc hga hcs hB hx0 hxx hk
    go_enter Try.func64, Try.ntmps64
    go_wp2
    repeat (go_quiet (fail); try go_wp2)
    go_ret
    exact HF.out _ (by repeat (first | exact Drawn0.refl _ | apply Drawn0.step))
  have h4 : x ∉ ns.map (rd cs) := by rw [hxx]; exact c4
  have hlo : ∀ n, (Instr.lookup 100 (.map (some b)) (.int .i64 x) true).run Try.prog (W.drewN n) = .ok (.tuple #[.int .i64 0, .bool false]) (W.drewN n) := fun n => by
    rw [(hm.drewN n).lookOk law3 Try.underlying100 (nb_zero _) hkey, nb_none h4]; rfl
  have e1 : canNs cs ns k = ns ++ [k] := if_neg c4
  have e2 : canIx cs (ns ++ [k]) k = (ns.length : Int) := by unfold canIx; rw [List.map_append, List.map_singleton, numIx_new (by rw [← hxx]; exact h4), List.length_map]
  rw [e1, e2]
  obtain ⟨A, c, hv⟩ := Kd.R_slice hr
  subst hv
  have hlm : ns.length < maxLen := by unfold maxLen; omega
  have HST := Aside0.mk (fun n => (hm.drewN n).store law3 Try.underlying100 (val := .int .i64 (ns.length : Int)) hlm hkey (by have := nb_put1 h4; rwa [List.length_map] at this) (nb_put2 h4))
  have HG := Aside0.mk hgn
  have HGA := Aside0.mk hga
  have HGC := Aside0.mk hgc
  have HR := Aside0.mk hr
  have HM := Aside0.mk hm
  have HB := Aside0.mk hB
  have HGE := Aside0.mk hge
  have H4 := Aside0.mk h4
  have HL := Aside0.mk hl
  have HKY := Aside0.mk hkey
  have HXX := Aside0.mk hxx
  have HNE := Aside0.mk hne
  have HX0 := Aside0.mk hx0
  have HLT := Aside0.mk (World.block_lt_of_cell? wc _ hx0)
  clear e1 e2 c4 h4 hkey hm hr hl hi hge hgn hgc hga hcs hB hxx hk hlm hne hx0
  go_enter Try.func64, Try.ntmps64
  go_wp2
  go_quiet (fail)
  go_wp2
  refine wp_region_still_tail 7 (by kernel_rfl) (by kernel_rfl) ?_
  simp only [List.take_succ_cons, List.take_zero, List.drop_succ_cons, List.drop_zero]
  change wpStill _ _ (W.drewN (nq + 1)) _ _ _
  repeat still_step
  refine wpStill_nil ?_
  change wpList _ _ _ _ _ (W.drewN (nq + 1))
  obtain ⟨w2, hst, hm2, hg2⟩ := HST.out (nq + 1)
  rw [nb_none H4.out] at hm2
  have hB2 : Below wc.heap.size wc w2 := Below.grown (pw_below_drewN HB.out _) hg2 HB.out.size (fun k hk => by injection hk with hk; have := HGE.out.2; omega)
  have hR2 := R_mapped (Kd.R_drewN HR.out (nq + 1)) rfl (HM.out.drewN (nq + 1)) hg2
  have hn2 := blk_grown (w := W.drewN (nq + 1)) HG.out hg2 (by intro e; exact HM.out.ne HG.out (Option.some.inj e).symm)
  have ha2 := blk_grown (w := W.drewN (nq + 1)) HGA.out hg2 (by intro e; exact HM.out.ne HGA.out (Option.some.inj e).symm)
  have hc2 := blk_grown (w := W.drewN (nq + 1)) HGC.out hg2 (by intro e; exact HM.out.ne HGC.out (Option.some.inj e).symm)
  have hkm : (if (none : Option Value).isSome then ns.length else ns.length + 1) = ns.length + 1 := rfl
  rw [hkm] at hm2
  obtain ⟨v1, w1, hrun, ho, hB1, hgr, hat⟩ := append_one (Kd.int .i64) (P := Try.prog) (w0 := wc) (W := w2) wc.heap.size 65 65 3 (.int .i64 0) 8 Try.underlying65 info3 rfl (by decide) (by omega) (xs := ns) k [.int .i64 k] (ok := fun _ => True) (fun _ => False) rfl (fun _ h => h.elim) (fun _ _ => trivial) hR2 hB2 hB2.size (by have := HL.out; omega)
  obtain ⟨A1, c1, e1⟩ := Kd.R_slice ho
  have e2 : v1 = .slice A1 (ns.length + 1) c1 := by rw [e1]; simp
  clear e1
  subst e2
  obtain ⟨v1, hv1⟩ : ∃ v1, v1 = Value.slice A1 (ns.length + 1) c1 := ⟨_, rfl⟩
  rw [← hv1] at ho hrun hat
  have hn1 := blk_grown hn2 hgr (Kd.R_ne hR2 hn2 (by decide))
  have ha1 := blk_grown ha2 hgr (Kd.R_ne hR2 ha2 (by decide))
  have hc1 := blk_grown hc2 hgr (Kd.R_ne hR2 hc2 (by decide))
  have hm1 := hm2.rowed hR2 hgr
  have hnf := blk_frozen hn1 0
  have cn2 : w2.cell? ⟨gn, 0, none⟩ = some (.slice A ns.length c) := (blk_cell hn2 0).trans rfl
  have cn1 : w1.cell? ⟨gn, 0, none⟩ = some (.slice A ns.length c) := (blk_cell hn1 0).trans rfl
  have hm3 : MapAt (w1.setCell ⟨gn, 0, none⟩ v1) Try.prog 3 b (ns.length + 1) (encI (numM (ns.map (rd cs) ++ [x]))) := hm1.setCell (hm1.ne hn1) v1
  have hn3 : (w1.setCell ⟨gn, 0, none⟩ v1).heap[gn]? = some (.cells #[v1] 65 (0, 0)) := by simpa using blk_set hn1 0 v1
  have ha3 := blk_far ha1 (p := ⟨gn, 0, none⟩) (by intro e; rw [e] at ha1; rw [ha1] at hn1; simp at hn1) v1
  have hc3 := blk_far hc1 (p := ⟨gn, 0, none⟩) HNE.out v1
  have hR3 : Kd.R (Kd.int .i64) 3 (w1.setCell ⟨gn, 0, none⟩ v1) wc.heap.size (fun _ => True) v1 (ns ++ [k]) := Kd.R_set ho hn1 (by intro q hq; have hq : q ∈ [3] := hq; simp at hq; omega) 0 v1
  have hB3 : Below wc.heap.size wc (w1.setCell ⟨gn, 0, none⟩ v1) := hB1.setCell HGE.out.1 v1
  have hx3 := (hB3.cell (p := ad.add k.toNat) HLT.out).trans HX0.out
  rw [← HXX.out] at hx3
  have hx2 := (hB2.cell (p := ad.add k.toNat) HLT.out).trans HX0.out
  have ca3 : (w1.setCell ⟨gn, 0, none⟩ v1).cell? ⟨ga, 0, none⟩ = some (.map (some b)) := (blk_cell ha3 0).trans rfl
  have cc3 : (w1.setCell ⟨gn, 0, none⟩ v1).cell? ⟨gc, 0, none⟩ = some (.slice (some ad) cs.length cc) := (blk_cell hc3 0).trans rfl
  have hlk : ∀ n, (Instr.lookup 100 (.map (some b)) (.int .i64 x) false).run Try.prog ((w1.setCell ⟨gn, 0, none⟩ v1).drewN n) = .ok (.int .i64 (ns.length : Int)) ((w1.setCell ⟨gn, 0, none⟩ v1).drewN n) := fun n => by
    rw [(hm3.drewN n).look law3 Try.underlying100 (nb_zero _) HKY.out, nb_put1 H4.out, List.length_map]; rfl
  have HK := ((((Kept.refl W (fun i => i = gn ∨ i = b ∨ some i = (Value.slice A ns.length c).ownBlock)).drewN (nq + 1)).of_grown hg2 (fun k hk => .inl (.inr (.inl (Option.some.inj hk).symm)))).of_grown hgr (fun k hk => .inl (.inr (.inr hk.symm)))).setCell (p := ⟨gn, 0, none⟩) (.inl (.inl rfl)) v1
  have HF := Aside0.mk (fun (w' : World) (hw : Drawn0 (w1.setCell ⟨gn, 0, none⟩ v1) w') => show CanPost cs gn b wc W (.slice A ns.length c) (ns ++ [k]) (ns.length : Int) (.returned (.int .i64 (ns.length : Int))) w' from (by
    obtain ⟨n, rfl⟩ := hw
    have hmm := hm3.drewN n
    refine ⟨rfl, v1, hn3, Kd.R_drewN hR3 n, ?_, HK.drewN n, pw_below_drewN hB3 n⟩
    rw [List.map_append, List.map_singleton, ← HXX.out, List.length_append]
    exact hmm))
  have HRUN := Aside0.mk hrun
  subst hv1
  clear hm3 hn3 ha3 hc3 hR3 hB3 hx2 hn1 ha1 hc1 hm1 hn2 ha2 hc2 hR2 hB2 hm2 hg2 ho hB1 hgr hat hrun HK hkm HST HXX HX0
  go_wp2_with (at_builtin; go_must (refine wpList_appendRun _ rfl _ _ _ rfl HRUN.out rfl rfl rfl ?_))
  repeat (go_quiet (fail); try go_wp2)
  go_ret
  exact HF.out _ (by repeat (first | exact Drawn0.refl _ | apply Drawn0.step))
def CanSt (cs : List Int) (Ac : Option Addr) (cc ga gc gn b : Nat) (wc W : World) (vn : Value) (ns : List Int) : Prop :=
  Below wc.heap.size wc W ∧ W.heap[ga]? = some (.cells #[.map (some b)] 100 (0, 0)) ∧ W.heap[gc]? = some (.cells #[.slice Ac cs.length cc] 65 (0, 0)) ∧ W.heap[gn]? = some (.cells #[vn] 65 (0, 0)) ∧ MapAt W Try.prog 3 b ns.length (encI (numM (ns.map (rd cs)))) ∧ Kd.R (Kd.int .i64) 3 W wc.heap.size (fun _ => True) vn ns
section
variable {cs ns : List Int} {Ac : Option Addr} {cc ga gc gn b : Nat} {wc W : World} {vn : Value}
theorem CanSt.below (h : CanSt cs Ac cc ga gc gn b wc W vn ns) {W' : World} (hB : Below W.heap.size W W') : CanSt cs Ac cc ga gc gn b wc W' vn ns := by
  obtain ⟨h1, h2, h3, h4, h5, h6⟩ := h
  exact ⟨below_then h1 h1.size hB, blk_below h2 hB, blk_below h3 hB, blk_below h4 hB, h5.below hB, Kd.R_below h6 hB⟩
theorem CanSt.box (h : CanSt cs Ac cc ga gc gn b wc W vn ns) {g i : Nat} {c : Array Value} (hg : W.heap[g]? = some (.cells c 39 (0, 0))) (hge : wc.heap.size ≤ g) (u : Value) : CanSt cs Ac cc ga gc gn b wc (W.setCell ⟨g, i, none⟩ u) vn ns := by
  obtain ⟨h1, h2, h3, h4, h5, h6⟩ := h
  exact ⟨h1.setCell hge u, blk_far h2 (blk_ne h2 hg (by decide)) u, blk_far h3 (blk_ne h3 hg (by decide)) u, blk_far h4 (blk_ne h4 hg (by decide)) u, h5.box hg u, Kd.R_set h6 hg (by intro q hq; have hq : q ∈ [3] := hq; simp at hq; omega) i u⟩
/-- What find leaves alone: a block of type 39. -/
theorem CanSt.blk39 (h : CanSt cs Ac cc ga gc gn b wc W vn ns) {W' : World} (hk : Kept W W' (fun i => i = gn ∨ i = b ∨ some i = vn.ownBlock)) {g : Nat} {c : Array Value} (hg : W.heap[g]? = some (.cells c 39 (0, 0))) : W'.heap[g]? = some (.cells c 39 (0, 0)) := by
  obtain ⟨h1, h2, h3, h4, h5, h6⟩ := h
  refine blk_kept hg hk ?_
  rintro (rfl | rfl | he)
  · exact absurd (blk_type hg h4) (by decide)
  · exact h5.ne hg rfl
  obtain ⟨c1, e1⟩ := own_blk h6 he
  exact absurd (blk_type hg e1) (by decide)
theorem CanSt.row39 (h : CanSt cs Ac cc ga gc gn b wc W vn ns) {W' : World} (hk : Kept W W' (fun i => i = gn ∨ i = b ∨ some i = vn.ownBlock)) {base : Nat} {ok : Nat → Prop} {v : Value} {xs : List S39} (hr : Kd.R k39 39 W base ok v xs) : Kd.R k39 39 W' base ok v xs := by
  obtain ⟨h1, h2, h3, h4, h5, h6⟩ := h
  refine R_apart hr rfl hk ?_
  rintro k c _ hg (rfl | rfl | he)
  · exact absurd (blk_type hg h4) (by decide)
  · exact h5.ne hg rfl
  obtain ⟨c1, e1⟩ := own_blk h6 he
  exact absurd (blk_type hg e1) (by decide)
/-- A row of types has grown. -/
theorem CanSt.row_app (h : CanSt cs Ac cc ga gc gn b wc W vn ns) {W' : World} {base : Nat} {ok : Nat → Prop} {v : Value} {xs : List S39} (hr : Kd.R k39 39 W base ok v xs) (hg : W.grownBy W' v.ownBlock) (hB : Below wc.heap.size wc W') : CanSt cs Ac cc ga gc gn b wc W' vn ns := by
  obtain ⟨h1, h2, h3, h4, h5, h6⟩ := h
  refine ⟨hB, blk_grown h2 hg (Kd.R_ne hr h2 (by decide)), blk_grown h3 hg (Kd.R_ne hr h3 (by decide)), blk_grown h4 hg (Kd.R_ne hr h4 (by decide)), h5.rowed hr hg, Kd.R_grown2 h6 rfl hg (fun k hk he => ?_)⟩
  obtain ⟨c1, e1⟩ := own_blk hr hk.symm
  obtain ⟨c2, e2⟩ := own_blk h6 he
  exact absurd (blk_type e1 e2) (by decide)
/-- The call of find. -/
theorem find_st (h : CanSt cs Ac cc ga gc gn b wc W vn ns) (hcs : Kd.C (Kd.int .i64) wc Ac cs.length cs) (hge : wc.heap.size ≤ gn ∧ wc.heap.size ≤ b) (hne : gc ≠ gn) (k : Int) (hk : 0 ≤ k ∧ k < cs.length) (hl : ns.length ≤ 1000) (hi : I64 (rd cs k)) :
    Calls Try.prog 64 #[.int .i64 k, .pointer (some ⟨ga, 0, none⟩), .pointer (some ⟨gc, 0, none⟩), .pointer (some ⟨gn, 0, none⟩)] W fun e w' => e = .returned (.int .i64 (canIx cs (canNs cs ns k) k)) ∧ ∃ vn', CanSt cs Ac cc ga gc gn b wc w' vn' (canNs cs ns k) ∧ Kept W w' (fun i => i = gn ∨ i = b ∨ some i = vn.ownBlock) := by
  obtain ⟨h1, h2, h3, h4, h5, h6⟩ := h
  refine (find_fn.calls cs Ac cc ga gc gn b wc W vn ns k h1 hcs h2 h3 h4 hge hne h5 h6 hk hl hi).mono ?_
  rintro e w' ⟨he, vn', g1, g2, g3, g4, g5⟩
  refine ⟨he, vn', ⟨g5, blk_kept h2 g4 ?_, blk_kept h3 g4 ?_, g1, g3, g2⟩, g4⟩
  · rintro (rfl | rfl | he)
    · exact absurd (blk_type h2 h4) (by decide)
    · exact h5.ne h2 rfl
    · obtain ⟨c1, e1⟩ := own_blk h6 he
      exact absurd (blk_type h2 e1) (by decide)
  rintro (e | rfl | he)
  · exact hne e
  · exact h5.ne h3 rfl
  obtain ⟨c1, e1⟩ := own_blk h6 he
  exact absurd (blk_type h3 e1) (by decide)
end
theorem hasParts_b (x : S39) : loops_hasParts.f x.f0 x.f1 x.f2 = some (decide (x.f0 = 4 ∨ x.f0 = 5)) := by
  unfold loops_hasParts.f
  by_cases c : x.f0 = 4
  · rw [if_pos c, decide_eq_true (.inl c)]
  rw [if_neg c]
  by_cases c5 : x.f0 = 5 <;> simp [c, c5]
theorem lit_row (W : World) (x : Int) : Kd.R (Kd.int .i64) 3 (W.alloc (.cells #[.int .i64 x] 3)) W.heap.size (fun _ => True) (.slice (some ⟨W.heap.size, 0, none⟩) 1 1) [x] := by
  refine ⟨fun k hk => trivial, [.int .i64 x], ?_, ?_⟩
  · have h2 := World.ownsRow_lit (base := W.heap.size) (e := 3) (size := 1) W #[.int .i64 x] 1 (Nat.le_refl _) (by decide) (by simp)
    exact (by simpa using h2 : (W.alloc (.cells #[.int .i64 x] 3)).ownsRow W.heap.size 3 1 (.slice (some ⟨W.heap.size, 0, none⟩) 1 1) 1 [.int .i64 x])
  exact Reps.one (show Kd.M (Kd.int .i64) _ _ _ x [.int .i64 x] from rfl) (Reps.none _ _)
def canGo (t : List S39) (cs : List Int) : Nat → List Int → Int → List S39 → Option (List S39)
  | 0, _, _, _ => none
  | f + 1, ns, k, out =>
    if k < ns.length then
      (if 0 ≤ k ∧ ns.length ≤ 100 ∧ 0 ≤ rd ns k ∧ rd ns k < t.length ∧ (out.length : Int) = k then
        (if (rd_T39 t (rd ns k)).f0 = 4 ∨ (rd_T39 t (rd ns k)).f0 = 5 then
          (if (0 ≤ (rd_T39 t (rd ns k)).f1 ∧ (rd_T39 t (rd ns k)).f1 < cs.length) ∧ (0 ≤ (rd_T39 t (rd ns k)).f2 ∧ (rd_T39 t (rd ns k)).f2 < cs.length) then
            canGo t cs f (canNs cs (canNs cs ns (rd_T39 t (rd ns k)).f1) (rd_T39 t (rd ns k)).f2) (k + 1) (out ++ [⟨(rd_T39 t (rd ns k)).f0, canIx cs (canNs cs ns (rd_T39 t (rd ns k)).f1) (rd_T39 t (rd ns k)).f1, canIx cs (canNs cs (canNs cs ns (rd_T39 t (rd ns k)).f1) (rd_T39 t (rd ns k)).f2) (rd_T39 t (rd ns k)).f2⟩])
           else none)
         else canGo t cs f ns (k + 1) (out ++ [rd_T39 t (rd ns k)]))
       else none)
    else some out
def loops_canonical.f (k : Nat) (l0 : List S39) (a1 : Int) : Option (List S39) := (loops_classes.f k l0).bind fun cs => if cs.length = l0.length ∧ (0 ≤ a1 ∧ a1 < cs.length) ∧ cs.all i64B = true then canGo l0 cs 200 [a1] 0 [] else none
theorem loops_canonical.mono : ∀ a0 a1 k, LeO (loops_canonical.f k a0 a1) (loops_canonical.f (k + 1) a0 a1) := by
  intro a0 a1 k
  unfold loops_canonical.f
  exact LeO.bind (loops_classes.mono _ _) (fun _ => LeO.refl _)
theorem canNs_len (cs ns : List Int) (k : Int) : (canNs cs ns k).length ≤ ns.length + 1 := by
  unfold canNs
  split
  · omega
  simp
set_option maxHeartbeats 4000000 in
set_option maxRecDepth 100000 in
theorem loops_canonical.calls (k : Nat) (A0 : Option Addr) (c0 : Nat) (l0 : List S39) (a1 : Int) (r : List S39) (w : World) (hr0 : Kd.C k39 w A0 l0.length l0) (hc0 : l0.length ≤ c0) (h : loops_canonical.f k l0 a1 = some r) :
    Calls Try.prog 42 #[.slice A0 l0.length c0, .int .i64 a1] w fun e w' => ∃ v0_ : Value, e = .returned v0_ ∧ Kd.R k39 39 w' w.heap.size (fun _ => True) v0_ r ∧ Below w.heap.size w w' := by
  unfold loops_canonical.f at h
  replace h := Option.bind_eq_some_iff.mp h
  obtain ⟨cs, hcl, h⟩ := h
  by_cases c1 : cs.length = l0.length ∧ (0 ≤ a1 ∧ a1 < cs.length) ∧ cs.all i64B = true
  case neg => rw [if_neg c1] at h; cases h
  rw [if_pos c1] at h
  have H := Aside0.mk h
  have HC := Aside0.mk (loops_classes.calls k A0 c0 l0 cs w hr0 hc0 hcl)
  have HR0 := Aside0.mk hr0
  have HI := Aside0.mk (fun (i : Int) (hi : 0 ≤ i ∧ i < cs.length) => (show I64 (rd cs i) from i64B_I64 (List.all_eq_true.mp c1.2.2 _ (by
    unfold rd
    rw [List.getD_eq_getElem?_getD, List.getElem?_eq_getElem (show i.toNat < cs.length by omega), Option.getD_some]
    exact List.getElem_mem _))))
  have HA1 := Aside0.mk c1.2.1
  have p1 := eq_true c1.2.1.1
  have q1 := eq_true c1.2.1.2
  have hmm := @run_makeMap Try.prog
  have hmf : ∀ (fn : Fn) (first cap : Array Value) (w : World), (Instr.makeFunc fn first cap).run Try.prog w = .ok (.func fn first cap) w := fun _ _ _ _ => rfl
  clear h hcl hr0 hc0 c1
  go_enter Try.func42, Try.ntmps42
  go_upto_region 2 with (go_at_call 41; go_must ((with_reducible refine HC.out.mono ?_); rintro e wc ⟨v, rfl, hR, hB⟩; obtain ⟨Ac, cc, ev⟩ := Kd.R_slice hR; subst ev; have HB := Aside0.mk hB; have HCS := Aside0.mk (Kd.R_reads' hR).2.2; clear hR hB))
  obtain ⟨ad1, ea1, hx1⟩ := Kd.at_int HCS.out a1 HA1.out.1 HA1.out.2
  subst ea1
  obtain ⟨x1, hx1e⟩ : ∃ x1, x1 = rd cs a1 := ⟨_, rfl⟩
  have hi1 := HI.out a1 HA1.out
  rw [← hx1e] at hx1 hi1
  obtain ⟨w3, hst, hm3, hg3⟩ := (MapAt.made (wc.alloc (.cells #[.slice (some ad1) cs.length cc] 65)) Try.prog 3).store law3 Try.underlying100 (by unfold maxLen; omega) (key3 hi1) (val := .int .i64 0) (f' := encI (numM ([a1].map (rd cs)))) (by rw [hx1e]; exact nb_put1 (ds := []) (by simp)) (by
    rw [hx1e]
    intro v hv
    have := nb_put2 (ds := []) (x := rd cs a1) (by simp) v hv
    rw [show [a1].map (rd cs) = [] ++ [rd cs a1] from rfl, this]
    unfold encI numM
    split <;> simp)
  rw [show (if (none : Option Value).isSome then 0 else 0 + 1) = [a1].length from rfl] at hm3
  simp only [World.size_alloc] at hst hm3 hg3
  have hx1b : ((wc.alloc (.cells #[.slice (some ad1) cs.length cc] 65)).alloc (.map #[] 0)).cell? (ad1.add a1.toNat) = some (.int .i64 x1) := ((below_alloc (below_alloc (Below.refl _ _) _) _ : Below wc.heap.size wc ((wc.alloc (.cells #[.slice (some ad1) cs.length cc] 65)).alloc (.map #[] 0))).cell (World.block_lt_of_cell? wc _ hx1)).trans hx1
  have hgc0 : (wc.alloc (.cells #[.slice (some ad1) cs.length cc] 65)).heap[wc.heap.size]? = some (.cells #[.slice (some ad1) cs.length cc] 65 (0, 0)) := heap_alloc_new wc _
  have hgc1 : ((wc.alloc (.cells #[.slice (some ad1) cs.length cc] 65)).alloc (.map #[] 0)).heap[wc.heap.size]? = some (.cells #[.slice (some ad1) cs.length cc] 65 (0, 0)) := blk_below hgc0 (below_alloc (Below.refl _ _) _)
  have hgc3 := blk_grown hgc1 hg3 (by simp)
  have hB3 : Below wc.heap.size wc w3 := Below.grown (below_alloc (below_alloc (Below.refl _ _) _) _) hg3 (by simp; omega) (fun k hk => by injection hk with hk; omega)
  obtain ⟨n3, hn3⟩ : ∃ n3, n3 = w3.heap.size := ⟨_, rfl⟩
  have hsz3 : wc.heap.size + 2 ≤ n3 := by have := hg3.size; simp at this; omega
  have HST0 := Aside0.mk (show CanSt cs (some ad1) cc n3 wc.heap.size (n3 + 1 + 1) (wc.heap.size + 1) wc (((w3.alloc (.cells #[.map (some (wc.heap.size + 1))] 100)).alloc (.cells #[.int .i64 a1] 3)).alloc (.cells #[.slice (some ⟨n3 + 1, 0, none⟩) 1 1] 65)) (.slice (some ⟨n3 + 1, 0, none⟩) 1 1) [a1] from by
    refine ⟨below_alloc (below_alloc (below_alloc hB3 _) _) _, ?_, ?_, ?_, ((hm3.alloc _).alloc _).alloc _, ?_⟩
    · exact blk_below (blk_below (by rw [hn3]; exact heap_alloc_new w3 _) (below_alloc (Below.refl _ _) _)) (below_alloc (Below.refl _ _) _)
    · exact blk_below (blk_below (blk_below hgc3 (below_alloc (Below.refl _ _) _)) (below_alloc (Below.refl _ _) _)) (below_alloc (Below.refl _ _) _)
    · have := heap_alloc_new ((w3.alloc (.cells #[.map (some (wc.heap.size + 1))] 100)).alloc (.cells #[.int .i64 a1] 3)) (.cells #[.slice (some ⟨n3 + 1, 0, none⟩) 1 1] 65)
      simpa [hn3] using this
    · have := lit_row (w3.alloc (.cells #[.map (some (wc.heap.size + 1))] 100)) a1
      simp only [World.size_alloc, ← hn3] at this
      exact Kd.R_lower (Kd.R_alloc this _) (by omega))
  have HGE := Aside0.mk (show wc.heap.size ≤ n3 + 1 + 1 ∧ wc.heap.size ≤ wc.heap.size + 1 by omega)
  have HNE := Aside0.mk (show wc.heap.size ≠ n3 + 1 + 1 by omega)
  have hn3' : w3.heap.size = n3 := hn3.symm
  have hca3 : w3.cell? ⟨wc.heap.size, 0, none⟩ = some (.slice (some ad1) cs.length cc) := (blk_cell hgc3 0).trans rfl
  clear hgc0 hgc1 hgc3 hB3 hsz3 hm3 hg3 hi1 hx1e hn3
  go_wp2
  go_loopg [8, 10] 200 (fun kq v8 v10 wr => ∃ (ns : List Int) (i : Int) (out : List S39) (vn : Value), v10 = .int .i64 i ∧ Aside0 (canGo l0 cs kq ns i out = some r) ∧ Aside0 (CanSt cs (some ad1) cc n3 wc.heap.size (n3 + 1 + 1) (wc.heap.size + 1) wc wr vn ns) ∧ Aside0 (Kd.R k39 39 wr wc.heap.size (fun _ => True) v8 out))
  case atStart => exact ⟨[a1], 0, [], _, rfl, H, HST0, ⟨Kd.R_nil _ _ _ _ _⟩⟩
  clear H HST0
  obtain ⟨ns, i, out, vn, rfl, HG, HS, HO⟩ := hrel
  obtain ⟨m, hm1⟩ : ∃ m, gk = m + 1 := by
    cases gk with
    | zero => exact absurd HG.out (by simp [canGo])
    | succ m => exact ⟨m, rfl⟩
  have HG1 := HG.out
  rw [hm1] at HG1
  unfold canGo at HG1
  obtain ⟨An, cn, en⟩ := Kd.R_slice HS.out.2.2.2.2.2
  subst en
  have cgn : wr.cell? ⟨n3 + 1 + 1, 0, none⟩ = some (.slice An ns.length cn) := (blk_cell HS.out.2.2.2.1 0).trans rfl
  have HMM := Aside0.mk (show m < gk by omega)
  by_cases c2 : i < (ns.length : Int)
  rotate_left
  · rw [if_neg c2] at HG1
    obtain rfl := Option.some.inj HG1
    have c2b0 : decide (i < (ns.length : Int)) = false := decide_eq_false c2
    have HFB := Aside0.mk (below_then HB.out HB.out.size HS.out.1)
    have HFR := Aside0.mk (Kd.R_lower HO.out HB.out.size)
    clear c2 HG1 hm1
    go_wp2
    go_ret
    exact ⟨_, rfl, HFR.out, HFB.out⟩
  rw [if_pos c2] at HG1
  by_cases c3 : 0 ≤ i ∧ ns.length ≤ 100 ∧ 0 ≤ rd ns i ∧ rd ns i < l0.length ∧ (out.length : Int) = i
  case neg => rw [if_neg c3] at HG1; cases HG1
  rw [if_pos c3] at HG1
  obtain ⟨b0, b1, b2, b3, b4⟩ := c3
  obtain ⟨j, hj⟩ : ∃ j, j = rd ns i := ⟨_, rfl⟩
  obtain ⟨adn, ean, hxn⟩ := Kd.at_int (Kd.R_reads' HS.out.2.2.2.2.2).2.2 i b0 c2
  subst ean
  rw [← hj] at hxn HG1 b2 b3
  obtain ⟨X, hX⟩ : ∃ X, X = rd_T39 l0 j := ⟨_, rfl⟩
  rw [← hX] at HG1
  obtain ⟨adt, eat, ht0, ht1, ht2⟩ := at_T39 (Kd.C_below HR0.out (below_then HB.out HB.out.size HS.out.1)) j b2 b3
  subst eat
  rw [← hX] at ht0 ht1 ht2
  have c2b0 : decide (i < (ns.length : Int)) = true := decide_eq_true c2
  have hw : wrap64 (i + 1) = i + 1 := by unfold wrap64; omega
  have HW := Aside0.mk hw
  have r0 := eq_true b0
  have r1 := eq_true c2
  have r2 := eq_true b2
  have r3 := eq_true b3
  have HP := Aside0.mk (fun W => loops_hasParts.calls X.f0 X.f1 X.f2 _ W (hasParts_b X))
  have HSX := Aside0.mk (show CanSt cs (some ad1) cc n3 wc.heap.size (n3 + 1 + 1) (wc.heap.size + 1) wc (wr.alloc (.cells #[.int .i64 X.f0, .int .i64 X.f1, .int .i64 X.f2] 39)) (.slice (some adn) ns.length cn) ns from HS.out.below (below_alloc (Below.refl _ _) _))
  have HBX := Aside0.mk (show (wr.alloc (.cells #[.int .i64 X.f0, .int .i64 X.f1, .int .i64 X.f2] 39)).heap[wr.heap.size]? = some (.cells #[.int .i64 X.f0, .int .i64 X.f1, .int .i64 X.f2] 39 (0, 0)) from heap_alloc_new wr _)
  have HOX := Aside0.mk (Kd.R_alloc (Kd.R_mono (Kd.R_bound HO.out) (fun k hk => hk.2.2.1) : Kd.R k39 39 wr wc.heap.size (fun k => k < wr.heap.size) _ out) (.cells #[.int .i64 X.f0, .int .i64 X.f1, .int .i64 X.f2] 39))
  have HOL := Aside0.mk (show out.length ≤ 100 by omega)
  have HNL := Aside0.mk b1
  have HGX := Aside0.mk (show wc.heap.size ≤ wr.heap.size from HS.out.1.size)
  by_cases c4 : X.f0 = 4 ∨ X.f0 = 5
  rotate_left
  · rw [if_neg c4] at HG1
    rw [decide_eq_false c4] at HP
    have HG2 := Aside0.mk HG1
    clear HG HG1 c2 b0 b1 b2 b3 b4 c4 hj hX hw HS HO hm1
    go_wp2_with (first
      | (go_at_call 45; go_must ((with_reducible refine (HP.out _).mono ?_); rintro e w5 ⟨rfl, hB5⟩; have HS5 := Aside0.mk (HSX.out.below hB5); have hb5 := blk_below HBX.out hB5; have HO5 := Aside0.mk (Kd.R_below HOX.out hB5); have hc50 : w5.cell? ⟨wr.heap.size, 0, none⟩ = some (.int .i64 X.f0) := (blk_cell hb5 0).trans rfl; have hc51 : w5.cell? ⟨wr.heap.size, 1, none⟩ = some (.int .i64 X.f1) := (blk_cell hb5 1).trans rfl; have hc52 : w5.cell? ⟨wr.heap.size, 2, none⟩ = some (.int .i64 X.f2) := (blk_cell hb5 2).trans rfl; clear hB5 hb5))
      | (at_builtin; go_must (
           obtain ⟨v1, w1, hrun, ho, hB1, hgr, hat⟩ := append_one k39 (P := Try.prog) (w0 := wc) (W := w5) wc.heap.size 22 22 39 (.agg #[.int .i64 0, .int .i64 0, .int .i64 0]) 24 Try.underlying22 info39 rfl (by decide) (by omega) (xs := out) X [.int .i64 X.f0, .int .i64 X.f1, .int .i64 X.f2] (ok := fun _ => True) (fun _ => False) (k39_mkM _ _ _ _) (fun _ h => h.elim) (fun _ _ => trivial) (Kd.R_mono HO5.out (fun _ _ => trivial)) HS5.out.1 HS5.out.1.size (by have := HOL.out; omega);
           have HRUN := Aside0.mk hrun;
           have HO1 := Aside0.mk ho;
           have HS1 := Aside0.mk (CanSt.row_app HS5.out (Kd.R_mono HO5.out (fun _ _ => trivial) : Kd.R k39 39 _ wc.heap.size (fun _ => True) _ out) hgr hB1);
           clear hrun ho hB1 hgr hat;
           refine wpList_appendRun _ rfl _ _ _ rfl HRUN.out rfl rfl rfl ?_)))
    go_roundg m
    case measure => exact HMM.out
    case rel => exact ⟨_, i + 1, _, _, by rw [HW.out], HG2, HS1, HO1⟩
  rw [if_pos c4] at HG1
  rw [decide_eq_true c4] at HP
  by_cases c5 : (0 ≤ X.f1 ∧ X.f1 < cs.length) ∧ (0 ≤ X.f2 ∧ X.f2 < cs.length)
  case neg => rw [if_neg c5] at HG1; cases HG1
  rw [if_pos c5] at HG1
  have HG2 := Aside0.mk HG1
  have HC5 := Aside0.mk c5
  clear HG HG1 c2 b0 b1 b2 b3 b4 c4 c5 hj hX hw HS HO hm1
  have HF1 := Aside0.mk (fun (W : World) (h : CanSt cs (some ad1) cc n3 wc.heap.size (n3 + 1 + 1) (wc.heap.size + 1) wc W (.slice (some adn) ns.length cn) ns) => find_st h HCS.out HGE.out HNE.out X.f1 HC5.out.1 (by have := HNL.out; omega) (HI.out _ HC5.out.1))
  have HF2 := Aside0.mk (fun (W : World) (vn : Value) (h : CanSt cs (some ad1) cc n3 wc.heap.size (n3 + 1 + 1) (wc.heap.size + 1) wc W vn (canNs cs ns X.f1)) => find_st h HCS.out HGE.out HNE.out X.f2 HC5.out.2 (by have := HNL.out; have := canNs_len cs ns X.f1; omega) (HI.out _ HC5.out.2))
  obtain ⟨i1, hi1⟩ : ∃ i1, i1 = canIx cs (canNs cs ns X.f1) X.f1 := ⟨_, rfl⟩
  obtain ⟨i2, hi2⟩ : ∃ i2, i2 = canIx cs (canNs cs (canNs cs ns X.f1) X.f2) X.f2 := ⟨_, rfl⟩
  rw [← hi1] at HF1 HG2
  rw [← hi2] at HF2 HG2
  clear hi1 hi2
  go_wp2_with (first
    | (go_at_call 45; go_must ((with_reducible refine (HP.out _).mono ?_); rintro e w5 ⟨rfl, hB5⟩; have HS5 := Aside0.mk (HSX.out.below hB5); have HB5 := Aside0.mk (blk_below HBX.out hB5); have HO5 := Aside0.mk (Kd.R_below HOX.out hB5); have hc51 : w5.cell? ⟨wr.heap.size, 1, none⟩ = some (.int .i64 X.f1) := (blk_cell HB5.out 1).trans rfl; clear hB5))
    | (go_at_call 64; go_must (first
      | ((with_reducible refine (HF1.out _ HS5.out).mono ?_); rintro e w6 ⟨rfl, vn6, hS6, hK6⟩;
         have hb6 := HS5.out.blk39 hK6 HB5.out;
         have hO6 := HS5.out.row39 hK6 HO5.out;
         have hc61 : w6.cell? ⟨wr.heap.size, 1, none⟩ = some (.int .i64 X.f1) := (blk_cell hb6 1).trans rfl;
         have hf61 := blk_frozen hb6 1;
         have HS6 := Aside0.mk (hS6.box (i := 1) hb6 HGX.out (.int .i64 i1));
         have hb7 : (w6.setCell ⟨wr.heap.size, 1, none⟩ (.int .i64 i1)).heap[wr.heap.size]? = some (.cells #[.int .i64 X.f0, .int .i64 i1, .int .i64 X.f2] 39 (0, 0)) := by simpa using blk_set hb6 1 (.int .i64 i1);
         have hc62 : (w6.setCell ⟨wr.heap.size, 1, none⟩ (.int .i64 i1)).cell? ⟨wr.heap.size, 2, none⟩ = some (.int .i64 X.f2) := (blk_cell hb7 2).trans rfl;
         have HO7 := Aside0.mk (Kd.R_far hO6 (p := ⟨wr.heap.size, 1, none⟩) (fun k hk => Nat.ne_of_lt hk) (.int .i64 i1));
         have HB7 := Aside0.mk hb7;
         clear hS6 hK6 hb6 hO6 hb7)
      | ((with_reducible refine (HF2.out _ _ HS6.out).mono ?_); rintro e w8 ⟨rfl, vn8, hS8, hK8⟩;
         have hb8 := HS6.out.blk39 hK8 HB7.out;
         have hO8 := HS6.out.row39 hK8 HO7.out;
         have hc82 : w8.cell? ⟨wr.heap.size, 2, none⟩ = some (.int .i64 X.f2) := (blk_cell hb8 2).trans rfl;
         have hf82 := blk_frozen hb8 2;
         have HS8 := Aside0.mk (hS8.box (i := 2) hb8 HGX.out (.int .i64 i2));
         have hb9 : (w8.setCell ⟨wr.heap.size, 2, none⟩ (.int .i64 i2)).heap[wr.heap.size]? = some (.cells #[.int .i64 X.f0, .int .i64 i1, .int .i64 i2] 39 (0, 0)) := by simpa using blk_set hb8 2 (.int .i64 i2);
         have hc90 : (w8.setCell ⟨wr.heap.size, 2, none⟩ (.int .i64 i2)).cell? ⟨wr.heap.size, 0, none⟩ = some (.int .i64 X.f0) := (blk_cell hb9 0).trans rfl;
         have hc91 : (w8.setCell ⟨wr.heap.size, 2, none⟩ (.int .i64 i2)).cell? ⟨wr.heap.size, 1, none⟩ = some (.int .i64 i1) := (blk_cell hb9 1).trans rfl;
         have hc92 : (w8.setCell ⟨wr.heap.size, 2, none⟩ (.int .i64 i2)).cell? ⟨wr.heap.size, 2, none⟩ = some (.int .i64 i2) := (blk_cell hb9 2).trans rfl;
         have HO9 := Aside0.mk (Kd.R_far hO8 (p := ⟨wr.heap.size, 2, none⟩) (fun k hk => Nat.ne_of_lt hk) (.int .i64 i2));
         clear hS8 hK8 hb8 hO8 hb9)))
    | (at_builtin; go_must (
         obtain ⟨v1, w1, hrun, ho, hB1, hgr, hat⟩ := append_one k39 (P := Try.prog) (w0 := wc) (W := w8.setCell ⟨wr.heap.size, 2, none⟩ (.int .i64 i2)) wc.heap.size 22 22 39 (.agg #[.int .i64 0, .int .i64 0, .int .i64 0]) 24 Try.underlying22 info39 rfl (by decide) (by omega) (xs := out) (⟨X.f0, i1, i2⟩ : S39) [.int .i64 X.f0, .int .i64 i1, .int .i64 i2] (ok := fun _ => True) (fun _ => False) (k39_mkM _ _ _ _) (fun _ h => h.elim) (fun _ _ => trivial) (Kd.R_mono HO9.out (fun _ _ => trivial)) HS8.out.1 HS8.out.1.size (by have := HOL.out; omega);
         simp only [World.size_setCell] at hrun;
         have HRUN := Aside0.mk hrun;
         have HO1 := Aside0.mk ho;
         have HS1 := Aside0.mk (CanSt.row_app HS8.out (Kd.R_mono HO9.out (fun _ _ => trivial) : Kd.R k39 39 _ wc.heap.size (fun _ => True) _ out) hgr hB1);
         clear hrun ho hB1 hgr hat;
         refine wpList_appendRun _ rfl _ _ _ rfl HRUN.out rfl rfl rfl ?_)))
  go_roundg m
  case measure => exact HMM.out
  exact ⟨_, i + 1, _, _, by rw [HW.out], HG2, HS1, HO1⟩

def loops_Canonical.f (k : Nat) (l0 : List (S39)) (a1 : Int) : Option ((List (S39)) × Int) := (loops_areNodes.f k l0 (([a1] : List Int))).bind fun t154 => (if t154 = true then ((loops_canonical.f k l0 a1).bind fun t155 => (some (t155, 0))) else (some (([] : List (S39)), 2)))
theorem loops_Canonical.mono : ∀ a0 a1 k, LeO (loops_Canonical.f k a0 a1) (loops_Canonical.f (k + 1) a0 a1) := by
 intro a0 a1 k
 unfold loops_Canonical.f
 repeat' first
   | (with_reducible exact loops_areNodes.mono _ _ _)
   | (with_reducible exact loops_canonical.mono _ _ _)
   | (with_reducible exact LeO.refl _)
   | (with_reducible exact LeO.none _)
   | (with_reducible refine LeO.ite ?_ ?_)
   | (with_reducible refine LeO.bind ?_ (fun _ => ?_))
   | exact loops_areNodes.mono _ _ _
   | exact loops_canonical.mono _ _ _
   | exact LeO.none _
   | refine LeO.ite ?_ ?_
   | refine LeO.bind ?_ (fun _ => ?_)
set_option maxHeartbeats 8000000 in
set_option maxRecDepth 100000 in
theorem loops_Canonical.calls (k : Nat) (A0 : Option Addr) (c0 : Nat) (l0 : List (S39)) (a1 : Int) (r1 : List (S39)) (r2 : Int) (w : World) (hr0 : Kd.C k39 w A0 l0.length l0) (hc0 : l0.length ≤ c0) (h : loops_Canonical.f k l0 a1 = some (r1, r2)) :
  Calls Try.prog 17 #[.slice A0 l0.length c0, .int .i64 a1] w fun e w' => ∃ v0_ : Value, e = .returned (.tuple #[v0_, .int .i64 r2]) ∧ Kd.R k39 39 w' w.heap.size (fun _ => True) v0_ r1 ∧ Below w.heap.size w w' := by
 have HR0 := Aside0.mk hr0
 have HC0 := Aside0.mk hc0
 clear hr0 hc0
 have HB := Aside0.mk (Below.refl w.heap.size w)
 have H : ((loops_areNodes.f k l0 (([a1] : List Int))).bind fun t154 => (if t154 = true then ((loops_canonical.f k l0 a1).bind fun t155 => (some (t155, 0))) else (some (([] : List (S39)), 2)))) = some (r1, r2) := h
 clear h
 obtain ⟨y151, hy151⟩ : ∃ y_ : List Int, y_ = (([a1] : List Int)) := ⟨_, rfl⟩
 replace H : ((loops_areNodes.f k l0 y151).bind fun t154 => (if t154 = true then ((loops_canonical.f k l0 a1).bind fun t155 => (some (t155, 0))) else (some (([] : List (S39)), 2)))) = some (r1, r2) := by first | (rw [hy151]; with_reducible exact H) | (have H2_ := (Option.bind_some _ _).symm.trans H; rw [hy151]; with_reducible exact H2_) | (have H2_ := (Option.bind_some _ _).symm.trans H; with_reducible exact H2_) | with_reducible exact H | (rw [hy151]; exact H) | exact H
 have Ny151 := Aside0.mk hy151
 clear hy151
 replace H := Option.bind_eq_some_iff.mp H
 obtain ⟨t154, A30, H⟩ := H
 replace H : (if t154 = true then ((loops_canonical.f k l0 a1).bind fun t155 => (some (t155, 0))) else (some (([] : List (S39)), 2))) = some (r1, r2) := H
 have A3 := Aside0.mk A30
 clear A30
 by_cases c4 : t154 = true
 rotate_left
 ·replace c4 := Bool.eq_false_iff.mpr c4
  subst c4
  have H1 : (some (([] : List (S39)), 2)) = some (r1, r2) := by rw [if_neg (show ¬ (false = true) by decide)] at H; exact H
  clear H
  have H := H1
  clear H1
  simp only [Option.some.injEq, Prod.mk.injEq] at H
  obtain ⟨rfl, rfl⟩ := H
  go_enter Try.func17, Try.ntmps17
  go_wp2_with (first | ((with_reducible refine gate_dst (N := 8) rfl ?_); refine Kd.R_lit (Kd.int .i64) _ 3 ?hg (N := 8) ?hd (xs := ([a1] : List Int)) (inner := [.int .i64 a1]) (ok := fun _ => True) (okp := fun _ => True) ?hr ?hp (fun _ hk => hk) trivial (Below.refl _ _) (Nat.le_refl _) (by simp) ?_; (case hd => rfl); (case hg => rfl); (case hr => first | (go_simp; done) | (go_simp; rfl)); (case hp => exact (Reps.one (show Kd.M (Kd.int .i64) _ _ _ a1 [.int .i64 a1] from rfl) (Reps.none _ _))); intro v152 w11 ho12 hb hg_ hnew_; clear hg_ hnew_; (first | rw [← Ny151.out] at ho12 | (simp only [Int.reduceToNat] at ho12; rw [← Ny151.out] at ho12)); have n0_ := Aside0.mk (Kd.R_lower ho12 (below_size (by repeat (first | (with_reducible first | exact HB.out | apply below_alloc | apply pw_below_drewN | apply below_drew1) | exact HB.out)))); have n1_ := Aside0.mk (below_step (by repeat (first | (with_reducible first | exact HB.out | apply below_alloc | apply pw_below_drewN | apply below_drew1) | exact HB.out)) hb); clear HB; have HO153 := n0_; have HB := n1_; clear n0_ n1_; clear hb ho12; obtain ⟨Ao13, co13, eo13⟩ := Kd.R_slice HO153.out; subst eo13) | ((with_reducible refine gate_callee (f := 40) rfl ?_); refine goesL_ (some 9) rfl rfl Try.func40 (by kernel_rfl) rfl #[.slice A0 l0.length c0, .slice Ao13 y151.length co13] rfl (by (try simp only [List.map_toArray, List.map_cons, List.map_nil]); first | done | rfl | (simp only [List.length_drop, List.length_take]; rfl)) ?_; (with_reducible refine (loops_areNodes.calls k _ _ l0 _ _ y151 false _ ?side1 ?side2 ?side3 ?side4 A3.out).mono ?_); (case side1 => repeat (first | exact (Kd.C_below HR0.out HB.out) | (with_reducible refine Kd.C_alloc ?_ _) | (with_reducible refine Kd.C_drewN ?_ _) | (with_reducible refine Kd.C_drew ?_))); (case side2 => exact HC0.out); (case side3 => repeat (first | exact (Kd.R_reads' HO153.out).2.2 | (with_reducible refine Kd.C_alloc ?_ _) | (with_reducible refine Kd.C_drewN ?_ _) | (with_reducible refine Kd.C_drew ?_))); (case side4 => exact (Kd.R_reads' HO153.out).2.1); rintro e w14 ⟨rfl, hb⟩; refine ⟨_, rfl, ?_⟩; have n0_ := Aside0.mk (Kd.R_below (by (with_reducible repeat (first | apply Kd.R_alloc | apply Kd.R_drewN | apply Kd.R_drew)); exact HO153.out) hb); have n1_ := Aside0.mk (below_step (by repeat (first | (with_reducible first | exact HB.out | apply below_alloc | apply pw_below_drewN | apply below_drew1) | exact HB.out)) hb); clear HO153; clear HB; have HO153 := n0_; have HB := n1_; clear n0_ n1_; (try clear hb); (try clear hb2); (try clear hk); (try clear hi)))
  go_ret2
  exact ⟨_, by first | rfl | (simp [errW_none, errW_some] <;> rfl) | (simp [*, errW_none, errW_some] <;> rfl), by first | exact Kd.R_nil _ _ _ _ _ | exact Kd.N_nil _ _ _ _ _ | exact Kd.V_nil _ _ _ _ _ | exact Kd.Q_nil _ _ _ _ _ | exact Kd.S_nil _ _ _ _ _, by repeat (first | (with_reducible first | exact HB.out | apply below_alloc | apply pw_below_drewN | apply below_drew1) | exact HB.out)⟩
 subst c4
 have H1 : ((loops_canonical.f k l0 a1).bind fun t155 => (some (t155, 0))) = some (r1, r2) := by rw [if_pos rfl] at H; exact H
 clear H
 have H := H1
 clear H1
 replace H := Option.bind_eq_some_iff.mp H
 obtain ⟨t155, A50, H⟩ := H
 replace H : (some (t155, 0)) = some (r1, r2) := H
 have A5 := Aside0.mk A50
 clear A50
 simp only [Option.some.injEq, Prod.mk.injEq] at H
 obtain ⟨rfl, rfl⟩ := H
 go_enter Try.func17, Try.ntmps17
 go_wp2_with (first | ((with_reducible refine gate_dst (N := 8) rfl ?_); refine Kd.R_lit (Kd.int .i64) _ 3 ?hg (N := 8) ?hd (xs := ([a1] : List Int)) (inner := [.int .i64 a1]) (ok := fun _ => True) (okp := fun _ => True) ?hr ?hp (fun _ hk => hk) trivial (Below.refl _ _) (Nat.le_refl _) (by simp) ?_; (case hd => rfl); (case hg => rfl); (case hr => first | (go_simp; done) | (go_simp; rfl)); (case hp => exact (Reps.one (show Kd.M (Kd.int .i64) _ _ _ a1 [.int .i64 a1] from rfl) (Reps.none _ _))); intro v152 w6 ho7 hb hg_ hnew_; clear hg_ hnew_; (first | rw [← Ny151.out] at ho7 | (simp only [Int.reduceToNat] at ho7; rw [← Ny151.out] at ho7)); have n0_ := Aside0.mk (Kd.R_lower ho7 (below_size (by repeat (first | (with_reducible first | exact HB.out | apply below_alloc | apply pw_below_drewN | apply below_drew1) | exact HB.out)))); have n1_ := Aside0.mk (below_step (by repeat (first | (with_reducible first | exact HB.out | apply below_alloc | apply pw_below_drewN | apply below_drew1) | exact HB.out)) hb); clear HB; have HO153 := n0_; have HB := n1_; clear n0_ n1_; clear hb ho7; obtain ⟨Ao8, co8, eo8⟩ := Kd.R_slice HO153.out; subst eo8) | ((with_reducible refine gate_callee (f := 40) rfl ?_); refine goesL_ (some 9) rfl rfl Try.func40 (by kernel_rfl) rfl #[.slice A0 l0.length c0, .slice Ao8 y151.length co8] rfl (by (try simp only [List.map_toArray, List.map_cons, List.map_nil]); first | done | rfl | (simp only [List.length_drop, List.length_take]; rfl)) ?_; (with_reducible refine (loops_areNodes.calls k _ _ l0 _ _ y151 true _ ?side1 ?side2 ?side3 ?side4 A3.out).mono ?_); (case side1 => repeat (first | exact (Kd.C_below HR0.out HB.out) | (with_reducible refine Kd.C_alloc ?_ _) | (with_reducible refine Kd.C_drewN ?_ _) | (with_reducible refine Kd.C_drew ?_))); (case side2 => exact HC0.out); (case side3 => repeat (first | exact (Kd.R_reads' HO153.out).2.2 | (with_reducible refine Kd.C_alloc ?_ _) | (with_reducible refine Kd.C_drewN ?_ _) | (with_reducible refine Kd.C_drew ?_))); (case side4 => exact (Kd.R_reads' HO153.out).2.1); rintro e w9 ⟨rfl, hb⟩; refine ⟨_, rfl, ?_⟩; have n0_ := Aside0.mk (Kd.R_below (by (with_reducible repeat (first | apply Kd.R_alloc | apply Kd.R_drewN | apply Kd.R_drew)); exact HO153.out) hb); have n1_ := Aside0.mk (below_step (by repeat (first | (with_reducible first | exact HB.out | apply below_alloc | apply pw_below_drewN | apply below_drew1) | exact HB.out)) hb); clear HO153; clear HB; have HO153 := n0_; have HB := n1_; clear n0_ n1_; (try clear hb); (try clear hb2); (try clear hk); (try clear hi)) | ((with_reducible refine gate_callee (f := 42) rfl ?_); refine goesL_ (some 13) rfl rfl Try.func42 (by kernel_rfl) rfl #[.slice A0 l0.length c0, .int .i64 a1] rfl (by (try simp only [List.map_toArray, List.map_cons, List.map_nil]); first | done | rfl | (simp only [List.length_drop, List.length_take]; rfl)) ?_; (with_reducible refine (loops_canonical.calls k _ _ l0 a1 t155 _ ?side1 ?side2 A5.out).mono ?_); (case side1 => repeat (first | exact (Kd.C_below HR0.out HB.out) | (with_reducible refine Kd.C_alloc ?_ _) | (with_reducible refine Kd.C_drewN ?_ _) | (with_reducible refine Kd.C_drew ?_))); (case side2 => exact HC0.out); rintro e w10 ⟨v156, rfl, ho0, hb⟩; refine ⟨_, rfl, ?_⟩; have n0_ := Aside0.mk (Kd.R_below (by (with_reducible repeat (first | apply Kd.R_alloc | apply Kd.R_drewN | apply Kd.R_drew)); exact HO153.out) hb); have n1_ := Aside0.mk (Kd.R_lower ho0 (below_size (by repeat (first | (with_reducible first | exact HB.out | apply below_alloc | apply pw_below_drewN | apply below_drew1) | exact HB.out)))); have n2_ := Aside0.mk (below_step (by repeat (first | (with_reducible first | exact HB.out | apply below_alloc | apply pw_below_drewN | apply below_drew1) | exact HB.out)) hb); clear HO153; clear HB; have HO153 := n0_; have HO157 := n1_; have HB := n2_; clear n0_ n1_ n2_; (try clear hb); (try clear hb2); (try clear hk); (try clear hi); (try clear ho0)))
 go_ret2
 exact ⟨_, by first | rfl | (simp [errW_none, errW_some] <;> rfl) | (simp [*, errW_none, errW_some] <;> rfl), by (with_reducible repeat (first | apply Kd.R_alloc | apply Kd.R_drewN | apply Kd.R_drew)); exact HO157.out, by repeat (first | (with_reducible first | exact HB.out | apply below_alloc | apply pw_below_drewN | apply below_drew1) | exact HB.out)⟩

theorem eqA39 (d : Nat) (w : World) (x0 y0 : Int) (x1 y1 : Int) (x2 y2 : Int) :
  (Op.equalIn (d + 2) 39 (.agg #[.int .i64 x0, .int .i64 x1, .int .i64 x2]) (.agg #[.int .i64 y0, .int .i64 y1, .int .i64 y2])).run Try.prog w = .ok (x0 == y0 && (x1 == y1 && (x2 == y2))) w := by
 refine eqA_of Try.underlying39 (by kernel_rfl) ?_
 refine eqf_cons (by rfl) (by go_simp; rfl) (by go_simp; rfl) (by go_simp) ?_
 refine eqf_cons (by rfl) (by go_simp; rfl) (by go_simp; rfl) (by go_simp) ?_
 exact eqf_last (by rfl) (by go_simp; rfl) (by go_simp; rfl) (by go_simp)

attribute [local go_sem high] eqA39
def tickinglaw06_types.l0 : Nat → List (S39) → List (S39) → Int → Option (Bool)
 | 0, _, _, _ => none
 | k + 1, x0, x1, x5 => if x5 < (x0.length : Int) then (if 0 ≤ x5 then (if x5 < (x1.length : Int) then (if (!(((rd_T39 x0 x5).f0) == ((rd_T39 x1 x5).f0)) || (!(((rd_T39 x0 x5).f1) == ((rd_T39 x1 x5).f1)) || (!(((rd_T39 x0 x5).f2) == ((rd_T39 x1 x5).f2))))) = true then (some false) else (tickinglaw06_types.l0 k x0 x1 (wrap64 (x5 + 1)))) else (none)) else (none)) else (some true)
def tickinglaw06_types.f (k : Nat) (l0 : List (S39)) (l1 : List (S39)) : Option (Bool) := if (l0.length : Int) = (l1.length : Int) then (tickinglaw06_types.l0 k l0 l1 0) else (some false)
theorem tickinglaw06_types.mono_l : ∀ k, (∀ y0 y1 y2, LeO (tickinglaw06_types.l0 k y0 y1 y2) (tickinglaw06_types.l0 (k + 1) y0 y1 y2))
 | 0 => fun _ _ _ r h => by simp [tickinglaw06_types.l0] at h
 | k + 1 => by
  have ih0 := tickinglaw06_types.mono_l k
  ·intro y0 y1 y2
   unfold tickinglaw06_types.l0
   repeat' first
   | (with_reducible exact ih0 _ _ _)
   | (with_reducible exact LeO.refl _)
   | (with_reducible exact LeO.none _)
   | (with_reducible refine LeO.ite ?_ ?_)
   | (with_reducible refine LeO.bind ?_ (fun _ => ?_))
   | exact ih0 _ _ _
   | exact LeO.none _
   | refine LeO.ite ?_ ?_
   | refine LeO.bind ?_ (fun _ => ?_)
theorem tickinglaw06_types.mono : ∀ a0 a1 k, LeO (tickinglaw06_types.f k a0 a1) (tickinglaw06_types.f (k + 1) a0 a1) := by
 intro a0 a1 k
 have ih0 := tickinglaw06_types.mono_l k
 unfold tickinglaw06_types.f
 repeat' first
   | (with_reducible exact ih0 _ _ _)
   | (with_reducible exact LeO.refl _)
   | (with_reducible exact LeO.none _)
   | (with_reducible refine LeO.ite ?_ ?_)
   | (with_reducible refine LeO.bind ?_ (fun _ => ?_))
   | exact ih0 _ _ _
   | exact LeO.none _
   | refine LeO.ite ?_ ?_
   | refine LeO.bind ?_ (fun _ => ?_)
set_option maxHeartbeats 8000000 in
set_option maxRecDepth 100000 in
theorem tickinglaw06_types.calls (k : Nat) (A0 : Option Addr) (c0 : Nat) (l0 : List (S39)) (A1 : Option Addr) (c1 : Nat) (l1 : List (S39)) (r : Bool) (w : World) (hr0 : Kd.C k39 w A0 l0.length l0) (hc0 : l0.length ≤ c0) (hr1 : Kd.C k39 w A1 l1.length l1) (hc1 : l1.length ≤ c1) (h : tickinglaw06_types.f k l0 l1 = some r) :
  Calls Try.prog 20 #[.slice A0 l0.length c0, .slice A1 l1.length c1] w fun e w' => e = .returned (.bool r) ∧ Drawn0 w w' := by
 have hu39 := Try.underlying39
 have HR0 := Aside0.mk hr0
 have HC0 := Aside0.mk hc0
 clear hr0 hc0
 have HR1 := Aside0.mk hr1
 have HC1 := Aside0.mk hc1
 clear hr1 hc1
 have H : (if (l0.length : Int) = (l1.length : Int) then (tickinglaw06_types.l0 k l0 l1 0) else (some false)) = some r := h
 clear h
 by_cases c3 : (l0.length : Int) = (l1.length : Int)
 rotate_left
 ·rw [if_neg c3] at H
  have c3b0 : ((l0.length : Int) == (l1.length : Int)) = false := beq_eq_false_iff_ne.mpr c3
  have c3b1 : ((l0.length : Int) != (l1.length : Int)) = true := bne_iff_ne.mpr c3
  have c3b2 : (l0.length == l1.length) = false := by first | simpa using c3 | (simp at c3 ⊢; omega)
  obtain rfl := Option.some.inj H
  go_enter Try.func20, Try.ntmps20
  go_wp2
  repeat (go_quiet (fail); try go_wp2)
  go_ret
  exact ⟨by first | rfl | (simp; done) | (simp [*]; done), by repeat (first | exact Drawn0.refl _ | apply Drawn0.step)⟩
 rw [if_pos c3] at H
 have c3b0 : ((l0.length : Int) == (l1.length : Int)) = true := beq_iff_eq.mpr c3
 have c3b1 : ((l0.length : Int) != (l1.length : Int)) = false := bne_eq_false_iff_eq.mpr c3
 have c3b2 : (l0.length == l1.length) = true := by first | simpa using c3 | (simp at c3 ⊢; omega)
 clear c3
 have H' := Aside0.mk H
 clear H
 go_enter Try.func20, Try.ntmps20
 go_wp2
 repeat (go_quiet (fail); try go_wp2)
 go_loopg [5] k (fun kq v5 w' => ∃ (x5_1 : Int), v5 = .int .i64 x5_1 ∧ Aside0 (tickinglaw06_types.l0 kq l0 l1 x5_1 = some r) ∧ Aside0 (kq ≤ k) ∧ Drawn0 w w')
 case atStart => exact ⟨(0), (by first | rfl | (simp; done) | (simp [*]; done)), H', ⟨Nat.le_refl _⟩, by repeat (first | exact Drawn0.refl _ | apply Drawn0.step)⟩
 clear H'
 try clear c1
 try clear c2
 try clear p2
 try clear c3
 try clear c3b0
 try clear c3b1
 try clear c3b2
 obtain ⟨x5_1, rfl, HA, HK1, ⟨m1, rfl⟩⟩ := hrel
 cases gk with
 | zero => exact absurd HA.out (by simp [tickinglaw06_types.l0])
 | succ k1 =>
  have H := HA.out
  clear HA
  simp only [tickinglaw06_types.l0] at H
  by_cases c4 : x5_1 < (l0.length : Int)
  rotate_left
  ·rw [if_neg c4] at H
   have c4b0 : decide (x5_1 < (l0.length : Int)) = false := decide_eq_false c4
   clear c4
   obtain rfl := Option.some.inj H
   go_wp2
   repeat (go_quiet (fail); try go_wp2)
   go_ret
   exact ⟨by first | rfl | (simp; done) | (simp [*]; done), by repeat (first | exact Drawn0.refl _ | apply Drawn0.step)⟩
  rw [if_pos c4] at H
  have c4b0 : decide (x5_1 < (l0.length : Int)) = true := decide_eq_true c4
  clear c4
  by_cases c5 : 0 ≤ x5_1
  rotate_left
  ·rw [if_neg c5] at H
   exact absurd H (by simp)
  rw [if_pos c5] at H
  have c5b0 : decide (0 ≤ x5_1) = true := decide_eq_true c5
  clear c5
  by_cases c6 : x5_1 < (l1.length : Int)
  rotate_left
  ·rw [if_neg c6] at H
   exact absurd H (by simp)
  rw [if_pos c6] at H
  have c6b0 : decide (x5_1 < (l1.length : Int)) = true := decide_eq_true c6
  clear c6
  by_cases c7 : (!(((rd_T39 l0 x5_1).f0) == ((rd_T39 l1 x5_1).f0)) || (!(((rd_T39 l0 x5_1).f1) == ((rd_T39 l1 x5_1).f1)) || (!(((rd_T39 l0 x5_1).f2) == ((rd_T39 l1 x5_1).f2))))) = true
  ·rw [if_pos c7] at H
   have c7b0 : (!(((rd_T39 l0 x5_1).f0) == ((rd_T39 l1 x5_1).f0)) || (!(((rd_T39 l0 x5_1).f1) == ((rd_T39 l1 x5_1).f1)) || (!(((rd_T39 l0 x5_1).f2) == ((rd_T39 l1 x5_1).f2))))) = true := c7
   clear c7
   obtain rfl := Option.some.inj H
   have p161 : 0 ≤ (x5_1 : Int) := of_decide_eq_true (by first | (with_reducible assumption) | assumption)
   have q161 : x5_1 < (l0.length : Int) := of_decide_eq_true (by first | (with_reducible assumption) | assumption)
   obtain ⟨ad161, e161, hx161_0, hx161_1, hx161_2⟩ := at_T39 HR0.out x5_1 p161 q161
   cases e161
   replace p161 := eq_true p161
   replace q161 := eq_true q161
   have p162 : 0 ≤ (x5_1 : Int) := of_decide_eq_true (by first | (with_reducible assumption) | assumption)
   have q162 : x5_1 < (l1.length : Int) := of_decide_eq_true (by first | (with_reducible assumption) | assumption)
   obtain ⟨ad162, e162, hx162_0, hx162_1, hx162_2⟩ := at_T39 HR1.out x5_1 p162 q162
   cases e162
   replace p162 := eq_true p162
   replace q162 := eq_true q162
   go_wp2
   repeat (go_quiet (fail); try go_wp2)
   go_ret
   exact ⟨by first | rfl | (simp; done) | (simp [*]; done), by repeat (first | exact Drawn0.refl _ | apply Drawn0.step)⟩
  rw [if_neg c7] at H
  have c7b0 : (!(((rd_T39 l0 x5_1).f0) == ((rd_T39 l1 x5_1).f0)) || (!(((rd_T39 l0 x5_1).f1) == ((rd_T39 l1 x5_1).f1)) || (!(((rd_T39 l0 x5_1).f2) == ((rd_T39 l1 x5_1).f2))))) = false := by simpa using c7
  clear c7
  have H' := Aside0.mk H
  clear H
  have p161 : 0 ≤ (x5_1 : Int) := of_decide_eq_true (by first | (with_reducible assumption) | assumption)
  have q161 : x5_1 < (l0.length : Int) := of_decide_eq_true (by first | (with_reducible assumption) | assumption)
  obtain ⟨ad161, e161, hx161_0, hx161_1, hx161_2⟩ := at_T39 HR0.out x5_1 p161 q161
  cases e161
  replace p161 := eq_true p161
  replace q161 := eq_true q161
  have p162 : 0 ≤ (x5_1 : Int) := of_decide_eq_true (by first | (with_reducible assumption) | assumption)
  have q162 : x5_1 < (l1.length : Int) := of_decide_eq_true (by first | (with_reducible assumption) | assumption)
  obtain ⟨ad162, e162, hx162_0, hx162_1, hx162_2⟩ := at_T39 HR1.out x5_1 p162 q162
  cases e162
  replace p162 := eq_true p162
  replace q162 := eq_true q162
  go_wp2
  repeat (go_quiet (fail); try go_wp2)
  go_roundg k1
  case measure => have := HK1.out; omega
  exact ⟨(wrap64 (x5_1 + 1)), (by first | rfl | (simp; done) | (simp [*]; done)), H', ⟨by have := HK1.out; omega⟩, by repeat (first | exact Drawn0.refl _ | apply Drawn0.step)⟩

abbrev SL := List (Int × Int)
def stM (sl : SL) : Int → Option Value := fun x => (sl.lookup x).map (.int .i64)
def stOf (sl : SL) (x : Int) : Int := (sl.lookup x).getD 0
def visF (t : List S39) : Nat → Int → SL → Option (Bool × SL)
  | 0, _, _ => none
  | f + 1, i, sl =>
    if stOf sl i > 0 then some (stOf sl i == 1, sl)
    else if (0 ≤ i ∧ i < t.length) ∧ sl.length ≤ 999999 then
      if (rd_T39 t i).f0 = 4 ∨ (rd_T39 t i).f0 = 5 then
        (visF t f (rd_T39 t i).f1 ((i, 1) :: sl)).bind fun a =>
          if a.2.length ≤ 1000000 then
            (if a.1 = true then some (true, (i, 2) :: a.2)
             else (visF t f (rd_T39 t i).f2 a.2).bind fun b => if b.2.length ≤ 1000000 then some (b.1, (i, 2) :: b.2) else none)
          else none
      else some (false, (i, 2) :: (i, 1) :: sl)
    else none
def loops_onCycle.f (l0 : List S39) (a1 : Int) : Option Bool := if l0.length ≤ 1000 ∧ i64B a1 = true ∧ l0.all (fun x => i64B x.f1 && i64B x.f2) = true then (visF l0 100 a1 []).bind fun a => some a.1 else none
theorem stM_put {sl : SL} {x c : Int} : encI (stM ((x, c) :: sl)) (.int .i64 x) = some (.int .i64 c) := by simp [encI, stM]
theorem stM_far {sl : SL} {x c : Int} : ∀ v, v ≠ .int .i64 x → encI (stM ((x, c) :: sl)) v = encI (stM sl) v := by
  intro v hv
  unfold encI
  split
  · rename_i y
    have : y ≠ x := fun e => hv (by rw [e])
    have hb : (y == x) = false := by simpa using this
    simp [stM, List.lookup_cons, hb]
  rfl
def MapS (W : World) (b : Nat) (sl : SL) : Prop := ∃ m, m ≤ sl.length ∧ MapAt W Try.prog 3 b m (encI (stM sl))
theorem MapS.below {W W' : World} {b : Nat} {sl : SL} (h : MapS W b sl) (hB : Below W.heap.size W W') : MapS W' b sl := by
  obtain ⟨m, h1, h2⟩ := h
  exact ⟨m, h1, h2.below hB⟩
theorem MapS.ne {W : World} {b : Nat} {sl : SL} (h : MapS W b sl) {g : Nat} {cs : Array Value} {t : TypeId} {fr : Nat × Nat} (hg : W.heap[g]? = some (.cells cs t fr)) : b ≠ g := by
  obtain ⟨m, h1, h2⟩ := h
  exact h2.ne hg
theorem MapS.look {W : World} {b : Nat} {sl : SL} (h : MapS W b sl) {x : Int} (hx : I64 x) : (Instr.lookup 100 (.map (some b)) (.int .i64 x) false).run Try.prog W = .ok (.int .i64 (stOf sl x)) W := by
  obtain ⟨m, h1, h2⟩ := h
  rw [h2.look law3 Try.underlying100 (nb_zero _) (key3 hx)]
  have e : encI (stM sl) (.int .i64 x) = stM sl x := rfl
  rw [e]
  unfold stM stOf
  cases sl.lookup x <;> rfl
theorem MapS.store {W : World} {b : Nat} {sl : SL} (h : MapS W b sl) {x : Int} (c : Int) (hx : I64 x) (hl : sl.length ≤ 1000000) :
    ∃ w', (Instr.mapUpdate 100 (.map (some b)) (.int .i64 x) (.int .i64 c)).run Try.prog W = .ok () w' ∧ MapS w' b ((x, c) :: sl) ∧ W.grownBy w' (some b) := by
  obtain ⟨m, h1, h2⟩ := h
  obtain ⟨w', r1, r2, r3⟩ := h2.store law3 Try.underlying100 (by unfold maxLen; omega) (key3 hx) (val := .int .i64 c) (f' := encI (stM ((x, c) :: sl))) (stM_put (sl := sl)) (stM_far (sl := sl))
  refine ⟨w', r1, ⟨_, ?_, r2⟩, r3⟩
  simp
  split <;> omega
/-- The closure's memory: the map's box, the types' box, its own box. -/
def CycSt (A0 : Option Addr) (c0 n : Nat) (gs gt gv b : Nat) (wc W : World) (sl : SL) : Prop :=
  Below wc.heap.size wc W ∧ wc.heap.size ≤ b ∧ W.heap[gs]? = some (.cells #[.map (some b)] 100 (0, 0)) ∧ W.heap[gt]? = some (.cells #[.slice A0 n c0] 22 (0, 0)) ∧ W.heap[gv]? = some (.cells #[.func (.func 65) #[] #[.pointer (some ⟨gs, 0, none⟩), .pointer (some ⟨gt, 0, none⟩), .pointer (some ⟨gv, 0, none⟩)]] 95 (0, 0)) ∧ MapS W b sl
theorem CycSt.below {A0 : Option Addr} {c0 n gs gt gv b : Nat} {wc W W' : World} {sl : SL} (h : CycSt A0 c0 n gs gt gv b wc W sl) (hB : Below W.heap.size W W') : CycSt A0 c0 n gs gt gv b wc W' sl := by
  obtain ⟨h1, h2, h3, h4, h5, h6⟩ := h
  exact ⟨below_then h1 h1.size hB, h2, blk_below h3 hB, blk_below h4 hB, blk_below h5 hB, h6.below hB⟩
theorem CycSt.store {A0 : Option Addr} {c0 n gs gt gv b : Nat} {wc W : World} {sl : SL} (h : CycSt A0 c0 n gs gt gv b wc W sl) {x : Int} (c : Int) (hx : I64 x) (hl : sl.length ≤ 1000000) :
    ∃ w', (Instr.mapUpdate 100 (.map (some b)) (.int .i64 x) (.int .i64 c)).run Try.prog W = .ok () w' ∧ CycSt A0 c0 n gs gt gv b wc w' ((x, c) :: sl) := by
  obtain ⟨h1, h2, h3, h4, h5, h6⟩ := h
  obtain ⟨w', r1, r2, r3⟩ := h6.store c hx hl
  refine ⟨w', r1, Below.grown h1 r3 h1.size (fun k hk => by injection hk with hk; omega), h2, ?_, ?_, ?_, r2⟩
  · exact blk_grown h3 r3 (fun e => h6.ne h3 (Option.some.inj e).symm)
  · exact blk_grown h4 r3 (fun e => h6.ne h4 (Option.some.inj e).symm)
  exact blk_grown h5 r3 (fun e => h6.ne h5 (Option.some.inj e).symm)
set_option maxHeartbeats 4000000 in
set_option maxRecDepth 100000 in
theorem visit_fn.calls (l0 : List S39) (A0 : Option Addr) (c0 gs gt gv b : Nat) (wc : World) (hr0 : Kd.C k39 wc A0 l0.length l0) (hall : ∀ x ∈ l0, I64 x.f1 ∧ I64 x.f2) (f : Nat) : ∀ (i : Int) (sl : SL) (r : Bool) (sl' : SL) (W : World)
    (hS : CycSt A0 c0 l0.length gs gt gv b wc W sl) (hi : I64 i) (h : visF l0 f i sl = some (r, sl')),
    Calls Try.prog 65 #[.int .i64 i, .pointer (some ⟨gs, 0, none⟩), .pointer (some ⟨gt, 0, none⟩), .pointer (some ⟨gv, 0, none⟩)] W fun e w' => e = .returned (.bool r) ∧ CycSt A0 c0 l0.length gs gt gv b wc w' sl' := by
  induction f with
  | zero => intro i sl r sl' W hS hi h; cases h
  | succ f ih =>
    intro i sl r sl' W hS hi h
    unfold visF at h
    have HS := Aside0.mk hS
    have cs : W.cell? ⟨gs, 0, none⟩ = some (.map (some b)) := (blk_cell hS.2.2.1 0).trans rfl
    have hlk := hS.2.2.2.2.2.look hi
    by_cases c1 : stOf sl i > 0
    · rw [if_pos c1] at h
      injection h with h
      injection h with e1 e2
      subst e1; subst e2
      obtain ⟨y, hy⟩ : ∃ y, y = stOf sl i := ⟨_, rfl⟩
      rw [← hy] at hlk c1 ⊢
      have c1b : decide (0 < y) = true := decide_eq_true c1
      cases hz : (y == 1) with
      | true =>
        clear ih hS hi c1 hy
        go_enter Try.func65, Try.ntmps65
        go_wp2
        go_ret
        exact ⟨rfl, HS.out⟩
      | false =>
        clear ih hS hi c1 hy
        go_enter Try.func65, Try.ntmps65
        go_wp2
        go_ret
        exact ⟨rfl, HS.out⟩
    rw [if_neg c1] at h
    by_cases c2 : (0 ≤ i ∧ i < l0.length) ∧ sl.length ≤ 999999
    case neg => rw [if_neg c2] at h; cases h
    rw [if_pos c2] at h
    obtain ⟨w1, hst, hS1⟩ := hS.store 1 hi (by omega)
    obtain ⟨y, hy⟩ : ∃ y, y = stOf sl i := ⟨_, rfl⟩
    rw [← hy] at hlk c1
    have c1b : decide (0 < y) = false := decide_eq_false (by omega)
    obtain ⟨adt, eat, hx0, hx1, hx2⟩ := at_T39 (Kd.C_below hr0 hS1.1) i c2.1.1 c2.1.2
    subst eat
    have hXm : rd_T39 l0 i ∈ l0 := by
      have hlt : i.toNat < l0.length := by omega
      unfold rd_T39
      rw [List.getD_eq_getElem?_getD, List.getElem?_eq_getElem hlt, Option.getD_some]
      exact List.getElem_mem hlt
    have hIX := hall _ hXm
    obtain ⟨X, hX⟩ : ∃ X, X = rd_T39 l0 i := ⟨_, rfl⟩
    rw [← hX] at h hx0 hx1 hx2 hIX
    have r0 := eq_true c2.1.1
    have r1 := eq_true c2.1.2
    have HP := Aside0.mk (fun W => loops_hasParts.calls X.f0 X.f1 X.f2 _ W (hasParts_b X))
    have HI := Aside0.mk hi
    have HS1 := Aside0.mk hS1
    have HIH := Aside0.mk ih
    have HIX := Aside0.mk hIX
    by_cases c4 : X.f0 = 4 ∨ X.f0 = 5
    rotate_left
    · rw [if_neg c4] at h
      rw [decide_eq_false c4] at HP
      injection h with h
      injection h with e1 e2
      subst e1; subst e2
      have HC2 := Aside0.mk c2.2
      have HKEEP := Aside0.mk (fun (W' : World) (sl2 : SL) (hW : CycSt (some adt) c0 l0.length gs gt gv b wc W' sl2) => (show W'.cell? ⟨gt, 0, none⟩ = some (.slice (some adt) l0.length c0) ∧ W'.cell? ⟨gv, 0, none⟩ = some (.func (.func 65) #[] #[.pointer (some ⟨gs, 0, none⟩), .pointer (some ⟨gt, 0, none⟩), .pointer (some ⟨gv, 0, none⟩)]) ∧ W'.cell? (adt.add (i.toNat * 3)) = some (.int .i64 X.f0) ∧ W'.cell? ⟨(adt.add (i.toNat * 3)).block, (adt.add (i.toNat * 3)).off + 1, none⟩ = some (.int .i64 X.f1) ∧ W'.cell? ⟨(adt.add (i.toNat * 3)).block, (adt.add (i.toNat * 3)).off + 2, none⟩ = some (.int .i64 X.f2) from by
        obtain ⟨ad2, ea2, g0, g1, g2⟩ := at_T39 (Kd.C_below hr0 hW.1) i c2.1.1 c2.1.2
        obtain rfl : adt = ad2 := by injection ea2
        rw [← hX] at g0 g1 g2
        exact ⟨(blk_cell hW.2.2.2.1 0).trans rfl, (blk_cell hW.2.2.2.2.1 0).trans rfl, g0, g1, g2⟩))
      clear ih hS hi c1 hy c2 hXm hX hx0 hx1 hx2 c4 hIX hS1 HIH
      go_enter Try.func65, Try.ntmps65
      go_wp2
      refine start_ (n := 24) (S := fun w' => w'.cell? ⟨gt, 0, none⟩ = some (.slice (some adt) l0.length c0) ∧ w'.cell? ⟨gv, 0, none⟩ = some (.func (.func 65) #[] #[.pointer (some ⟨gs, 0, none⟩), .pointer (some ⟨gt, 0, none⟩), .pointer (some ⟨gv, 0, none⟩)]) ∧ w'.cell? (adt.add (i.toNat * 3)) = some (.int .i64 X.f0) ∧ w'.cell? ⟨(adt.add (i.toNat * 3)).block, (adt.add (i.toNat * 3)).off + 1, none⟩ = some (.int .i64 X.f1) ∧ w'.cell? ⟨(adt.add (i.toNat * 3)).block, (adt.add (i.toNat * 3)).off + 2, none⟩ = some (.int .i64 X.f2)) (ds := []) #[false, false, false, false, false, false, false, false, false, false, false, false, false, false, false, false, false, false, false, false, false, false, false, false] (by kernel_rfl) rfl rfl (HKEEP.out _ _ (HS1.out.below (pw_below_drewN (Below.refl _ _) 1))) (fun hHeld => ?_)
      refine take_ (i := 0) (N := some 17) (v := ?_) (a' := ?_) #[true, false, false, false, false, false, false, false, false, false, false, false, false, false, false, false, false, false, false, false, false, false, false, false] rfl rfl (by kernel_rfl) (fun _ _ _ h => h) (Or.inl ⟨by rfl, ?_⟩) hHeld ?_ ?_
      rotate_left
      · rintro w' ⟨s0, s1, s2, s3, s4⟩
        go_simp
        with_reducible rfl
      rotate_left
      · simp only [Act.put, List.setIfInBounds_toArray, List.set_cons_zero, List.set_cons_succ, i64_w, i32_w]
        rfl
      refine pure_ (i := 1) (N := some 18) (v := ?_) (a' := ?_) #[true, true, false, false, false, false, false, false, false, false, false, false, false, false, false, false, false, false, false, false, false, false, false, false] rfl rfl (by kernel_rfl) (fun _ _ _ h => h) (Or.inl ⟨by rfl, ?_⟩) ?_ ?_
      rotate_left
      · intro w'
        go_simp
        with_reducible rfl
      rotate_left
      · simp only [Act.put, List.setIfInBounds_toArray, List.set_cons_zero, List.set_cons_succ, i64_w, i32_w]
        rfl
      refine pure_ (i := 2) (N := some 19) (v := ?_) (a' := ?_) #[true, true, true, false, false, false, false, false, false, false, false, false, false, false, false, false, false, false, false, false, false, false, false, false] rfl rfl (by kernel_rfl) (fun _ _ _ h => h) (Or.inl ⟨by rfl, ?_⟩) ?_ ?_
      rotate_left
      · intro w'
        go_simp
        with_reducible rfl
      rotate_left
      · simp only [Act.put, List.setIfInBounds_toArray, List.set_cons_zero, List.set_cons_succ, i64_w, i32_w]
        rfl
      refine take_ (i := 3) (N := some 20) (v := ?_) (a' := ?_) #[true, true, true, true, false, false, false, false, false, false, false, false, false, false, false, false, false, false, false, false, false, false, false, false] rfl rfl (by kernel_rfl) (fun _ _ _ h => h) (Or.inl ⟨by rfl, ?_⟩) hHeld ?_ ?_
      rotate_left
      · rintro w' ⟨s0, s1, s2, s3, s4⟩
        go_simp
        with_reducible rfl
      rotate_left
      · simp only [Act.put, List.setIfInBounds_toArray, List.set_cons_zero, List.set_cons_succ, i64_w, i32_w]
        rfl
      refine one_ (i := 4) (N := some 21) #[true, true, true, true, true, false, false, false, false, false, false, false, false, false, false, false, false, false, false, false, false, false, false, false] rfl rfl (by kernel_rfl) (by decide) (fun K hK => ?_)
      go_simp
      go_at_call 45
      (with_reducible refine (HP.out _).mono ?_)
      rintro e w2 ⟨rfl, hB2⟩
      have HS2 := Aside0.mk ((HS1.out.below (pw_below_drewN (Below.refl _ _) 1)).below hB2)
      clear hB2
      refine hK.out _ _ (HKEEP.out _ _ HS2.out) (fun hHeld => ?_)
      clear hK K
      refine pure_ (i := 5) (N := some 22) (v := ?_) (a' := ?_) #[true, true, true, true, true, true, false, false, false, false, false, false, false, false, false, false, false, false, false, false, false, false, false, false] rfl rfl (by kernel_rfl) (fun _ _ _ h => h) (Or.inl ⟨by rfl, ?_⟩) ?_ ?_
      rotate_left
      · intro w'
        go_simp
        with_reducible rfl
      rotate_left
      · simp only [Act.put, List.setIfInBounds_toArray, List.set_cons_zero, List.set_cons_succ, i64_w, i32_w]
        rfl
      refine pure_ (i := 6) (N := some 23) (v := undef) (a' := ?_) #[true, true, true, true, true, true, true, false, false, false, false, false, false, false, false, false, false, false, false, false, false, false, false, false] rfl rfl (by kernel_rfl) (fun _ _ _ h => h) (Or.inr ⟨by rfl, rfl⟩) ?_ ?_
      rotate_left
      · simp only [Act.put, List.setIfInBounds_toArray, List.set_cons_zero, List.set_cons_succ, i64_w, i32_w]
        rfl
      refine pure_ (i := 7) (N := some 24) (v := undef) (a' := ?_) #[true, true, true, true, true, true, true, true, false, false, false, false, false, false, false, false, false, false, false, false, false, false, false, false] rfl rfl (by kernel_rfl) (fun _ _ _ h => h) (Or.inr ⟨by rfl, rfl⟩) ?_ ?_
      rotate_left
      · simp only [Act.put, List.setIfInBounds_toArray, List.set_cons_zero, List.set_cons_succ, i64_w, i32_w]
        rfl
      refine pure_ (i := 8) (N := some 25) (v := undef) (a' := ?_) #[true, true, true, true, true, true, true, true, true, false, false, false, false, false, false, false, false, false, false, false, false, false, false, false] rfl rfl (by kernel_rfl) (fun _ _ _ h => h) (Or.inr ⟨by rfl, rfl⟩) ?_ ?_
      rotate_left
      · simp only [Act.put, List.setIfInBounds_toArray, List.set_cons_zero, List.set_cons_succ, i64_w, i32_w]
        rfl
      refine pure_ (i := 9) (N := some 26) (v := undef) (a' := ?_) #[true, true, true, true, true, true, true, true, true, true, false, false, false, false, false, false, false, false, false, false, false, false, false, false] rfl rfl (by kernel_rfl) (fun _ _ _ h => h) (Or.inr ⟨by rfl, rfl⟩) ?_ ?_
      rotate_left
      · simp only [Act.put, List.setIfInBounds_toArray, List.set_cons_zero, List.set_cons_succ, i64_w, i32_w]
        rfl
      refine pure_ (i := 10) (N := some 27) (v := undef) (a' := ?_) #[true, true, true, true, true, true, true, true, true, true, true, false, false, false, false, false, false, false, false, false, false, false, false, false] rfl rfl (by kernel_rfl) (fun _ _ _ h => h) (Or.inr ⟨by rfl, rfl⟩) ?_ ?_
      rotate_left
      · simp only [Act.put, List.setIfInBounds_toArray, List.set_cons_zero, List.set_cons_succ, i64_w, i32_w]
        rfl
      refine pure_ (i := 11) (N := some 28) (v := undef) (a' := ?_) #[true, true, true, true, true, true, true, true, true, true, true, true, false, false, false, false, false, false, false, false, false, false, false, false] rfl rfl (by kernel_rfl) (fun _ _ _ h => h) (Or.inr ⟨by rfl, rfl⟩) ?_ ?_
      rotate_left
      · simp only [Act.put, List.setIfInBounds_toArray, List.set_cons_zero, List.set_cons_succ, i64_w, i32_w]
        rfl
      refine pure_ (i := 12) (N := some 29) (v := undef) (a' := ?_) #[true, true, true, true, true, true, true, true, true, true, true, true, true, false, false, false, false, false, false, false, false, false, false, false] rfl rfl (by kernel_rfl) (fun _ _ _ h => h) (Or.inr ⟨by rfl, rfl⟩) ?_ ?_
      rotate_left
      · simp only [Act.put, List.setIfInBounds_toArray, List.set_cons_zero, List.set_cons_succ, i64_w, i32_w]
        rfl
      refine pure_ (i := 13) (N := some 30) (v := undef) (a' := ?_) #[true, true, true, true, true, true, true, true, true, true, true, true, true, true, false, false, false, false, false, false, false, false, false, false] rfl rfl (by kernel_rfl) (fun _ _ _ h => h) (Or.inr ⟨by rfl, rfl⟩) ?_ ?_
      rotate_left
      · simp only [Act.put, List.setIfInBounds_toArray, List.set_cons_zero, List.set_cons_succ, i64_w, i32_w]
        rfl
      refine pure_ (i := 14) (N := some 31) (v := undef) (a' := ?_) #[true, true, true, true, true, true, true, true, true, true, true, true, true, true, true, false, false, false, false, false, false, false, false, false] rfl rfl (by kernel_rfl) (fun _ _ _ h => h) (Or.inr ⟨by rfl, rfl⟩) ?_ ?_
      rotate_left
      · simp only [Act.put, List.setIfInBounds_toArray, List.set_cons_zero, List.set_cons_succ, i64_w, i32_w]
        rfl
      refine pure_ (i := 15) (N := some 32) (v := undef) (a' := ?_) #[true, true, true, true, true, true, true, true, true, true, true, true, true, true, true, true, false, false, false, false, false, false, false, false] rfl rfl (by kernel_rfl) (fun _ _ _ h => h) (Or.inr ⟨by rfl, rfl⟩) ?_ ?_
      rotate_left
      · simp only [Act.put, List.setIfInBounds_toArray, List.set_cons_zero, List.set_cons_succ, i64_w, i32_w]
        rfl
      refine pure_ (i := 16) (N := some 33) (v := undef) (a' := ?_) #[true, true, true, true, true, true, true, true, true, true, true, true, true, true, true, true, true, false, false, false, false, false, false, false] rfl rfl (by kernel_rfl) (fun _ _ _ h => h) (Or.inr ⟨by rfl, rfl⟩) ?_ ?_
      rotate_left
      · simp only [Act.put, List.setIfInBounds_toArray, List.set_cons_zero, List.set_cons_succ, i64_w, i32_w]
        rfl
      refine pure_ (i := 17) (N := some 34) (v := undef) (a' := ?_) #[true, true, true, true, true, true, true, true, true, true, true, true, true, true, true, true, true, true, false, false, false, false, false, false] rfl rfl (by kernel_rfl) (fun _ _ _ h => h) (Or.inr ⟨by rfl, rfl⟩) ?_ ?_
      rotate_left
      · simp only [Act.put, List.setIfInBounds_toArray, List.set_cons_zero, List.set_cons_succ, i64_w, i32_w]
        rfl
      refine pure_ (i := 18) (N := some 35) (v := undef) (a' := ?_) #[true, true, true, true, true, true, true, true, true, true, true, true, true, true, true, true, true, true, true, false, false, false, false, false] rfl rfl (by kernel_rfl) (fun _ _ _ h => h) (Or.inr ⟨by rfl, rfl⟩) ?_ ?_
      rotate_left
      · simp only [Act.put, List.setIfInBounds_toArray, List.set_cons_zero, List.set_cons_succ, i64_w, i32_w]
        rfl
      refine pure_ (i := 19) (N := some 36) (v := undef) (a' := ?_) #[true, true, true, true, true, true, true, true, true, true, true, true, true, true, true, true, true, true, true, true, false, false, false, false] rfl rfl (by kernel_rfl) (fun _ _ _ h => h) (Or.inr ⟨by rfl, rfl⟩) ?_ ?_
      rotate_left
      · simp only [Act.put, List.setIfInBounds_toArray, List.set_cons_zero, List.set_cons_succ, i64_w, i32_w]
        rfl
      refine pure_ (i := 20) (N := some 37) (v := undef) (a' := ?_) #[true, true, true, true, true, true, true, true, true, true, true, true, true, true, true, true, true, true, true, true, true, false, false, false] rfl rfl (by kernel_rfl) (fun _ _ _ h => h) (Or.inr ⟨by rfl, rfl⟩) ?_ ?_
      rotate_left
      · simp only [Act.put, List.setIfInBounds_toArray, List.set_cons_zero, List.set_cons_succ, i64_w, i32_w]
        rfl
      refine pure_ (i := 21) (N := some 38) (v := undef) (a' := ?_) #[true, true, true, true, true, true, true, true, true, true, true, true, true, true, true, true, true, true, true, true, true, true, false, false] rfl rfl (by kernel_rfl) (fun _ _ _ h => h) (Or.inr ⟨by rfl, rfl⟩) ?_ ?_
      rotate_left
      · simp only [Act.put, List.setIfInBounds_toArray, List.set_cons_zero, List.set_cons_succ, i64_w, i32_w]
        rfl
      refine pure_ (i := 22) (N := some 39) (v := ?_) (a' := ?_) #[true, true, true, true, true, true, true, true, true, true, true, true, true, true, true, true, true, true, true, true, true, true, true, false] rfl rfl (by kernel_rfl) (fun _ _ _ h => h) (Or.inl ⟨by rfl, ?_⟩) ?_ ?_
      rotate_left
      · intro w'
        go_simp
        with_reducible rfl
      rotate_left
      · simp only [Act.put, List.setIfInBounds_toArray, List.set_cons_zero, List.set_cons_succ, i64_w, i32_w]
        rfl
      refine pure_ (i := 23) (N := some 6) (v := ?_) (a' := ?_) #[true, true, true, true, true, true, true, true, true, true, true, true, true, true, true, true, true, true, true, true, true, true, true, true] rfl rfl (by kernel_rfl) (fun _ _ _ h => h) (Or.inl ⟨by rfl, ?_⟩) ?_ ?_
      rotate_left
      · intro w'
        go_simp
        with_reducible rfl
      rotate_left
      · simp only [Act.put, List.setIfInBounds_toArray, List.set_cons_zero, List.set_cons_succ, i64_w, i32_w]
        rfl
      refine done_ (by kernel_rfl) ?_
      obtain ⟨w9, hst9, hS9⟩ := HS2.out.store 2 HI.out (by have := HC2.out; simp; omega)
      have cs9 := (blk_cell HS2.out.2.2.1 0).trans rfl
      have HS9 := Aside0.mk hS9
      clear hS9 hHeld
      go_wp2
      go_ret
      exact ⟨rfl, HS9.out⟩
    rw [if_pos c4] at h
    rw [decide_eq_true c4] at HP
    replace h := Option.bind_eq_some_iff.mp h
    obtain ⟨a, ha, h⟩ := h
    by_cases c5 : a.2.length ≤ 1000000
    case neg => rw [if_neg c5] at h; cases h
    rw [if_pos c5] at h
    cases hr : a.1 with
    | true =>
      rw [if_pos hr] at h
      injection h with h
      injection h with e1 e2
      subst e1; subst e2
      have HV1 := Aside0.mk (fun (W : World) (hW : CycSt (some adt) c0 l0.length gs gt gv b wc W ((i, 1) :: sl)) => ih X.f1 _ a.1 a.2 W hW hIX.1 ha)
      rw [hr] at HV1
      have HC5 := Aside0.mk c5
      have HKEEP := Aside0.mk (fun (W' : World) (sl2 : SL) (hW : CycSt (some adt) c0 l0.length gs gt gv b wc W' sl2) => (show W'.cell? ⟨gt, 0, none⟩ = some (.slice (some adt) l0.length c0) ∧ W'.cell? ⟨gv, 0, none⟩ = some (.func (.func 65) #[] #[.pointer (some ⟨gs, 0, none⟩), .pointer (some ⟨gt, 0, none⟩), .pointer (some ⟨gv, 0, none⟩)]) ∧ W'.cell? (adt.add (i.toNat * 3)) = some (.int .i64 X.f0) ∧ W'.cell? ⟨(adt.add (i.toNat * 3)).block, (adt.add (i.toNat * 3)).off + 1, none⟩ = some (.int .i64 X.f1) ∧ W'.cell? ⟨(adt.add (i.toNat * 3)).block, (adt.add (i.toNat * 3)).off + 2, none⟩ = some (.int .i64 X.f2) from by
        obtain ⟨ad2, ea2, g0, g1, g2⟩ := at_T39 (Kd.C_below hr0 hW.1) i c2.1.1 c2.1.2
        obtain rfl : adt = ad2 := by injection ea2
        rw [← hX] at g0 g1 g2
        exact ⟨(blk_cell hW.2.2.2.1 0).trans rfl, (blk_cell hW.2.2.2.2.1 0).trans rfl, g0, g1, g2⟩))
      clear ih hS hi c1 hy c2 hXm hX hx0 hx1 hx2 ha c5 hr c4 hIX hS1 HIH
      go_enter Try.func65, Try.ntmps65
      go_wp2
      refine start_ (n := 24) (S := fun w' => w'.cell? ⟨gt, 0, none⟩ = some (.slice (some adt) l0.length c0) ∧ w'.cell? ⟨gv, 0, none⟩ = some (.func (.func 65) #[] #[.pointer (some ⟨gs, 0, none⟩), .pointer (some ⟨gt, 0, none⟩), .pointer (some ⟨gv, 0, none⟩)]) ∧ w'.cell? (adt.add (i.toNat * 3)) = some (.int .i64 X.f0) ∧ w'.cell? ⟨(adt.add (i.toNat * 3)).block, (adt.add (i.toNat * 3)).off + 1, none⟩ = some (.int .i64 X.f1) ∧ w'.cell? ⟨(adt.add (i.toNat * 3)).block, (adt.add (i.toNat * 3)).off + 2, none⟩ = some (.int .i64 X.f2)) (ds := []) #[false, false, false, false, false, false, false, false, false, false, false, false, false, false, false, false, false, false, false, false, false, false, false, false] (by kernel_rfl) rfl rfl (HKEEP.out _ _ (HS1.out.below (pw_below_drewN (Below.refl _ _) 1))) (fun hHeld => ?_)
      refine take_ (i := 0) (N := some 17) (v := ?_) (a' := ?_) #[true, false, false, false, false, false, false, false, false, false, false, false, false, false, false, false, false, false, false, false, false, false, false, false] rfl rfl (by kernel_rfl) (fun _ _ _ h => h) (Or.inl ⟨by rfl, ?_⟩) hHeld ?_ ?_
      rotate_left
      · rintro w' ⟨s0, s1, s2, s3, s4⟩
        go_simp
        with_reducible rfl
      rotate_left
      · simp only [Act.put, List.setIfInBounds_toArray, List.set_cons_zero, List.set_cons_succ, i64_w, i32_w]
        rfl
      refine pure_ (i := 1) (N := some 18) (v := ?_) (a' := ?_) #[true, true, false, false, false, false, false, false, false, false, false, false, false, false, false, false, false, false, false, false, false, false, false, false] rfl rfl (by kernel_rfl) (fun _ _ _ h => h) (Or.inl ⟨by rfl, ?_⟩) ?_ ?_
      rotate_left
      · intro w'
        go_simp
        with_reducible rfl
      rotate_left
      · simp only [Act.put, List.setIfInBounds_toArray, List.set_cons_zero, List.set_cons_succ, i64_w, i32_w]
        rfl
      refine pure_ (i := 2) (N := some 19) (v := ?_) (a' := ?_) #[true, true, true, false, false, false, false, false, false, false, false, false, false, false, false, false, false, false, false, false, false, false, false, false] rfl rfl (by kernel_rfl) (fun _ _ _ h => h) (Or.inl ⟨by rfl, ?_⟩) ?_ ?_
      rotate_left
      · intro w'
        go_simp
        with_reducible rfl
      rotate_left
      · simp only [Act.put, List.setIfInBounds_toArray, List.set_cons_zero, List.set_cons_succ, i64_w, i32_w]
        rfl
      refine take_ (i := 3) (N := some 20) (v := ?_) (a' := ?_) #[true, true, true, true, false, false, false, false, false, false, false, false, false, false, false, false, false, false, false, false, false, false, false, false] rfl rfl (by kernel_rfl) (fun _ _ _ h => h) (Or.inl ⟨by rfl, ?_⟩) hHeld ?_ ?_
      rotate_left
      · rintro w' ⟨s0, s1, s2, s3, s4⟩
        go_simp
        with_reducible rfl
      rotate_left
      · simp only [Act.put, List.setIfInBounds_toArray, List.set_cons_zero, List.set_cons_succ, i64_w, i32_w]
        rfl
      refine one_ (i := 4) (N := some 21) #[true, true, true, true, true, false, false, false, false, false, false, false, false, false, false, false, false, false, false, false, false, false, false, false] rfl rfl (by kernel_rfl) (by decide) (fun K hK => ?_)
      go_simp
      go_at_call 45
      (with_reducible refine (HP.out _).mono ?_)
      rintro e w2 ⟨rfl, hB2⟩
      have HS2 := Aside0.mk ((HS1.out.below (pw_below_drewN (Below.refl _ _) 1)).below hB2)
      clear hB2
      refine hK.out _ _ (HKEEP.out _ _ HS2.out) (fun hHeld => ?_)
      clear hK K
      refine pure_ (i := 5) (N := some 22) (v := ?_) (a' := ?_) #[true, true, true, true, true, true, false, false, false, false, false, false, false, false, false, false, false, false, false, false, false, false, false, false] rfl rfl (by kernel_rfl) (fun _ _ _ h => h) (Or.inl ⟨by rfl, ?_⟩) ?_ ?_
      rotate_left
      · intro w'
        go_simp
        with_reducible rfl
      rotate_left
      · simp only [Act.put, List.setIfInBounds_toArray, List.set_cons_zero, List.set_cons_succ, i64_w, i32_w]
        rfl
      refine take_ (i := 6) (N := some 23) (v := ?_) (a' := ?_) #[true, true, true, true, true, true, true, false, false, false, false, false, false, false, false, false, false, false, false, false, false, false, false, false] rfl rfl (by kernel_rfl) (fun _ _ _ h => h) (Or.inl ⟨by rfl, ?_⟩) hHeld ?_ ?_
      rotate_left
      · rintro w' ⟨s0, s1, s2, s3, s4⟩
        go_simp
        with_reducible rfl
      rotate_left
      · simp only [Act.put, List.setIfInBounds_toArray, List.set_cons_zero, List.set_cons_succ, i64_w, i32_w]
        rfl
      refine take_ (i := 7) (N := some 24) (v := ?_) (a' := ?_) #[true, true, true, true, true, true, true, true, false, false, false, false, false, false, false, false, false, false, false, false, false, false, false, false] rfl rfl (by kernel_rfl) (fun _ _ _ h => h) (Or.inl ⟨by rfl, ?_⟩) hHeld ?_ ?_
      rotate_left
      · rintro w' ⟨s0, s1, s2, s3, s4⟩
        go_simp
        with_reducible rfl
      rotate_left
      · simp only [Act.put, List.setIfInBounds_toArray, List.set_cons_zero, List.set_cons_succ, i64_w, i32_w]
        rfl
      refine pure_ (i := 8) (N := some 25) (v := ?_) (a' := ?_) #[true, true, true, true, true, true, true, true, true, false, false, false, false, false, false, false, false, false, false, false, false, false, false, false] rfl rfl (by kernel_rfl) (fun _ _ _ h => h) (Or.inl ⟨by rfl, ?_⟩) ?_ ?_
      rotate_left
      · intro w'
        go_simp
        with_reducible rfl
      rotate_left
      · simp only [Act.put, List.setIfInBounds_toArray, List.set_cons_zero, List.set_cons_succ, i64_w, i32_w]
        rfl
      refine pure_ (i := 9) (N := some 26) (v := ?_) (a' := ?_) #[true, true, true, true, true, true, true, true, true, true, false, false, false, false, false, false, false, false, false, false, false, false, false, false] rfl rfl (by kernel_rfl) (fun _ _ _ h => h) (Or.inl ⟨by rfl, ?_⟩) ?_ ?_
      rotate_left
      · intro w'
        go_simp
        with_reducible rfl
      rotate_left
      · simp only [Act.put, List.setIfInBounds_toArray, List.set_cons_zero, List.set_cons_succ, i64_w, i32_w]
        rfl
      refine pure_ (i := 10) (N := some 27) (v := ?_) (a' := ?_) #[true, true, true, true, true, true, true, true, true, true, true, false, false, false, false, false, false, false, false, false, false, false, false, false] rfl rfl (by kernel_rfl) (fun _ _ _ h => h) (Or.inl ⟨by rfl, ?_⟩) ?_ ?_
      rotate_left
      · intro w'
        go_simp
        with_reducible rfl
      rotate_left
      · simp only [Act.put, List.setIfInBounds_toArray, List.set_cons_zero, List.set_cons_succ, i64_w, i32_w]
        rfl
      refine take_ (i := 11) (N := some 28) (v := ?_) (a' := ?_) #[true, true, true, true, true, true, true, true, true, true, true, true, false, false, false, false, false, false, false, false, false, false, false, false] rfl rfl (by kernel_rfl) (fun _ _ _ h => h) (Or.inl ⟨by rfl, ?_⟩) hHeld ?_ ?_
      rotate_left
      · rintro w' ⟨s0, s1, s2, s3, s4⟩
        go_simp
        with_reducible rfl
      rotate_left
      · simp only [Act.put, List.setIfInBounds_toArray, List.set_cons_zero, List.set_cons_succ, i64_w, i32_w]
        rfl
      refine one_ (i := 12) (N := some 29) #[true, true, true, true, true, true, true, true, true, true, true, true, true, false, false, false, false, false, false, false, false, false, false, false] rfl rfl (by kernel_rfl) (by decide) (fun K hK => ?_)
      go_simp
      go_at_call 65
      (with_reducible refine (HV1.out _ HS2.out).mono ?_)
      rintro e w3 ⟨rfl, hS3⟩
      have HS3 := Aside0.mk hS3
      clear hS3
      refine hK.out _ _ (HKEEP.out _ _ HS3.out) (fun hHeld => ?_)
      clear hK K
      refine pure_ (i := 13) (N := some 30) (v := ?_) (a' := ?_) #[true, true, true, true, true, true, true, true, true, true, true, true, true, true, false, false, false, false, false, false, false, false, false, false] rfl rfl (by kernel_rfl) (fun _ _ _ h => h) (Or.inl ⟨by rfl, ?_⟩) ?_ ?_
      rotate_left
      · intro w'
        go_simp
        with_reducible rfl
      rotate_left
      · simp only [Act.put, List.setIfInBounds_toArray, List.set_cons_zero, List.set_cons_succ, i64_w, i32_w]
        rfl
      refine pure_ (i := 14) (N := some 31) (v := undef) (a' := ?_) #[true, true, true, true, true, true, true, true, true, true, true, true, true, true, true, false, false, false, false, false, false, false, false, false] rfl rfl (by kernel_rfl) (fun _ _ _ h => h) (Or.inr ⟨by rfl, rfl⟩) ?_ ?_
      rotate_left
      · simp only [Act.put, List.setIfInBounds_toArray, List.set_cons_zero, List.set_cons_succ, i64_w, i32_w]
        rfl
      refine pure_ (i := 15) (N := some 32) (v := undef) (a' := ?_) #[true, true, true, true, true, true, true, true, true, true, true, true, true, true, true, true, false, false, false, false, false, false, false, false] rfl rfl (by kernel_rfl) (fun _ _ _ h => h) (Or.inr ⟨by rfl, rfl⟩) ?_ ?_
      rotate_left
      · simp only [Act.put, List.setIfInBounds_toArray, List.set_cons_zero, List.set_cons_succ, i64_w, i32_w]
        rfl
      refine pure_ (i := 16) (N := some 33) (v := undef) (a' := ?_) #[true, true, true, true, true, true, true, true, true, true, true, true, true, true, true, true, true, false, false, false, false, false, false, false] rfl rfl (by kernel_rfl) (fun _ _ _ h => h) (Or.inr ⟨by rfl, rfl⟩) ?_ ?_
      rotate_left
      · simp only [Act.put, List.setIfInBounds_toArray, List.set_cons_zero, List.set_cons_succ, i64_w, i32_w]
        rfl
      refine pure_ (i := 17) (N := some 34) (v := undef) (a' := ?_) #[true, true, true, true, true, true, true, true, true, true, true, true, true, true, true, true, true, true, false, false, false, false, false, false] rfl rfl (by kernel_rfl) (fun _ _ _ h => h) (Or.inr ⟨by rfl, rfl⟩) ?_ ?_
      rotate_left
      · simp only [Act.put, List.setIfInBounds_toArray, List.set_cons_zero, List.set_cons_succ, i64_w, i32_w]
        rfl
      refine pure_ (i := 18) (N := some 35) (v := undef) (a' := ?_) #[true, true, true, true, true, true, true, true, true, true, true, true, true, true, true, true, true, true, true, false, false, false, false, false] rfl rfl (by kernel_rfl) (fun _ _ _ h => h) (Or.inr ⟨by rfl, rfl⟩) ?_ ?_
      rotate_left
      · simp only [Act.put, List.setIfInBounds_toArray, List.set_cons_zero, List.set_cons_succ, i64_w, i32_w]
        rfl
      refine pure_ (i := 19) (N := some 36) (v := undef) (a' := ?_) #[true, true, true, true, true, true, true, true, true, true, true, true, true, true, true, true, true, true, true, true, false, false, false, false] rfl rfl (by kernel_rfl) (fun _ _ _ h => h) (Or.inr ⟨by rfl, rfl⟩) ?_ ?_
      rotate_left
      · simp only [Act.put, List.setIfInBounds_toArray, List.set_cons_zero, List.set_cons_succ, i64_w, i32_w]
        rfl
      refine pure_ (i := 20) (N := some 37) (v := undef) (a' := ?_) #[true, true, true, true, true, true, true, true, true, true, true, true, true, true, true, true, true, true, true, true, true, false, false, false] rfl rfl (by kernel_rfl) (fun _ _ _ h => h) (Or.inr ⟨by rfl, rfl⟩) ?_ ?_
      rotate_left
      · simp only [Act.put, List.setIfInBounds_toArray, List.set_cons_zero, List.set_cons_succ, i64_w, i32_w]
        rfl
      refine pure_ (i := 21) (N := some 38) (v := ?_) (a' := ?_) #[true, true, true, true, true, true, true, true, true, true, true, true, true, true, true, true, true, true, true, true, true, true, false, false] rfl rfl (by kernel_rfl) (fun _ _ _ h => h) (Or.inl ⟨by rfl, ?_⟩) ?_ ?_
      rotate_left
      · intro w'
        go_simp
        with_reducible rfl
      rotate_left
      · simp only [Act.put, List.setIfInBounds_toArray, List.set_cons_zero, List.set_cons_succ, i64_w, i32_w]
        rfl
      refine pure_ (i := 22) (N := some 39) (v := ?_) (a' := ?_) #[true, true, true, true, true, true, true, true, true, true, true, true, true, true, true, true, true, true, true, true, true, true, true, false] rfl rfl (by kernel_rfl) (fun _ _ _ h => h) (Or.inl ⟨by rfl, ?_⟩) ?_ ?_
      rotate_left
      · intro w'
        go_simp
        with_reducible rfl
      rotate_left
      · simp only [Act.put, List.setIfInBounds_toArray, List.set_cons_zero, List.set_cons_succ, i64_w, i32_w]
        rfl
      refine pure_ (i := 23) (N := some 6) (v := ?_) (a' := ?_) #[true, true, true, true, true, true, true, true, true, true, true, true, true, true, true, true, true, true, true, true, true, true, true, true] rfl rfl (by kernel_rfl) (fun _ _ _ h => h) (Or.inl ⟨by rfl, ?_⟩) ?_ ?_
      rotate_left
      · intro w'
        go_simp
        with_reducible rfl
      rotate_left
      · simp only [Act.put, List.setIfInBounds_toArray, List.set_cons_zero, List.set_cons_succ, i64_w, i32_w]
        rfl
      refine done_ (by kernel_rfl) ?_
      obtain ⟨w9, hst9, hS9⟩ := HS3.out.store 2 HI.out HC5.out
      have cs9 := (blk_cell HS3.out.2.2.1 0).trans rfl
      have HS9 := Aside0.mk hS9
      clear hS9 hHeld
      go_wp2
      go_ret
      exact ⟨rfl, HS9.out⟩
    | false =>
      rw [if_neg (by rw [hr]; decide)] at h
      replace h := Option.bind_eq_some_iff.mp h
      obtain ⟨b2, hb2, h⟩ := h
      by_cases c6 : b2.2.length ≤ 1000000
      case neg => rw [if_neg c6] at h; cases h
      rw [if_pos c6] at h
      injection h with h
      injection h with e1 e2
      obtain ⟨rb, hrb⟩ : ∃ rb, rb = b2.1 := ⟨_, rfl⟩
      rw [← hrb] at e1
      subst e1; subst e2
      have HV1 := Aside0.mk (fun (W : World) (hW : CycSt (some adt) c0 l0.length gs gt gv b wc W ((i, 1) :: sl)) => ih X.f1 _ a.1 a.2 W hW hIX.1 ha)
      rw [hr] at HV1
      have HV2 := Aside0.mk (fun (W : World) (hW : CycSt (some adt) c0 l0.length gs gt gv b wc W a.2) => ih X.f2 _ b2.1 b2.2 W hW hIX.2 hb2)
      rw [← hrb] at HV2
      have HC6 := Aside0.mk c6
      have HKEEP := Aside0.mk (fun (W' : World) (sl2 : SL) (hW : CycSt (some adt) c0 l0.length gs gt gv b wc W' sl2) => (show W'.cell? ⟨gt, 0, none⟩ = some (.slice (some adt) l0.length c0) ∧ W'.cell? ⟨gv, 0, none⟩ = some (.func (.func 65) #[] #[.pointer (some ⟨gs, 0, none⟩), .pointer (some ⟨gt, 0, none⟩), .pointer (some ⟨gv, 0, none⟩)]) ∧ W'.cell? (adt.add (i.toNat * 3)) = some (.int .i64 X.f0) ∧ W'.cell? ⟨(adt.add (i.toNat * 3)).block, (adt.add (i.toNat * 3)).off + 1, none⟩ = some (.int .i64 X.f1) ∧ W'.cell? ⟨(adt.add (i.toNat * 3)).block, (adt.add (i.toNat * 3)).off + 2, none⟩ = some (.int .i64 X.f2) from by
        obtain ⟨ad2, ea2, g0, g1, g2⟩ := at_T39 (Kd.C_below hr0 hW.1) i c2.1.1 c2.1.2
        obtain rfl : adt = ad2 := by injection ea2
        rw [← hX] at g0 g1 g2
        exact ⟨(blk_cell hW.2.2.2.1 0).trans rfl, (blk_cell hW.2.2.2.2.1 0).trans rfl, g0, g1, g2⟩))
      clear ih hS hi c1 hy c2 hXm hX hx0 hx1 hx2 ha c5 hr c4 hb2 c6 hrb hIX hS1 HIH
      go_enter Try.func65, Try.ntmps65
      go_wp2
      refine start_ (n := 24) (S := fun w' => w'.cell? ⟨gt, 0, none⟩ = some (.slice (some adt) l0.length c0) ∧ w'.cell? ⟨gv, 0, none⟩ = some (.func (.func 65) #[] #[.pointer (some ⟨gs, 0, none⟩), .pointer (some ⟨gt, 0, none⟩), .pointer (some ⟨gv, 0, none⟩)]) ∧ w'.cell? (adt.add (i.toNat * 3)) = some (.int .i64 X.f0) ∧ w'.cell? ⟨(adt.add (i.toNat * 3)).block, (adt.add (i.toNat * 3)).off + 1, none⟩ = some (.int .i64 X.f1) ∧ w'.cell? ⟨(adt.add (i.toNat * 3)).block, (adt.add (i.toNat * 3)).off + 2, none⟩ = some (.int .i64 X.f2)) (ds := []) #[false, false, false, false, false, false, false, false, false, false, false, false, false, false, false, false, false, false, false, false, false, false, false, false] (by kernel_rfl) rfl rfl (HKEEP.out _ _ (HS1.out.below (pw_below_drewN (Below.refl _ _) 1))) (fun hHeld => ?_)
      refine take_ (i := 0) (N := some 17) (v := ?_) (a' := ?_) #[true, false, false, false, false, false, false, false, false, false, false, false, false, false, false, false, false, false, false, false, false, false, false, false] rfl rfl (by kernel_rfl) (fun _ _ _ h => h) (Or.inl ⟨by rfl, ?_⟩) hHeld ?_ ?_
      rotate_left
      · rintro w' ⟨s0, s1, s2, s3, s4⟩
        go_simp
        with_reducible rfl
      rotate_left
      · simp only [Act.put, List.setIfInBounds_toArray, List.set_cons_zero, List.set_cons_succ, i64_w, i32_w]
        rfl
      refine pure_ (i := 1) (N := some 18) (v := ?_) (a' := ?_) #[true, true, false, false, false, false, false, false, false, false, false, false, false, false, false, false, false, false, false, false, false, false, false, false] rfl rfl (by kernel_rfl) (fun _ _ _ h => h) (Or.inl ⟨by rfl, ?_⟩) ?_ ?_
      rotate_left
      · intro w'
        go_simp
        with_reducible rfl
      rotate_left
      · simp only [Act.put, List.setIfInBounds_toArray, List.set_cons_zero, List.set_cons_succ, i64_w, i32_w]
        rfl
      refine pure_ (i := 2) (N := some 19) (v := ?_) (a' := ?_) #[true, true, true, false, false, false, false, false, false, false, false, false, false, false, false, false, false, false, false, false, false, false, false, false] rfl rfl (by kernel_rfl) (fun _ _ _ h => h) (Or.inl ⟨by rfl, ?_⟩) ?_ ?_
      rotate_left
      · intro w'
        go_simp
        with_reducible rfl
      rotate_left
      · simp only [Act.put, List.setIfInBounds_toArray, List.set_cons_zero, List.set_cons_succ, i64_w, i32_w]
        rfl
      refine take_ (i := 3) (N := some 20) (v := ?_) (a' := ?_) #[true, true, true, true, false, false, false, false, false, false, false, false, false, false, false, false, false, false, false, false, false, false, false, false] rfl rfl (by kernel_rfl) (fun _ _ _ h => h) (Or.inl ⟨by rfl, ?_⟩) hHeld ?_ ?_
      rotate_left
      · rintro w' ⟨s0, s1, s2, s3, s4⟩
        go_simp
        with_reducible rfl
      rotate_left
      · simp only [Act.put, List.setIfInBounds_toArray, List.set_cons_zero, List.set_cons_succ, i64_w, i32_w]
        rfl
      refine one_ (i := 4) (N := some 21) #[true, true, true, true, true, false, false, false, false, false, false, false, false, false, false, false, false, false, false, false, false, false, false, false] rfl rfl (by kernel_rfl) (by decide) (fun K hK => ?_)
      go_simp
      go_at_call 45
      (with_reducible refine (HP.out _).mono ?_)
      rintro e w2 ⟨rfl, hB2⟩
      have HS2 := Aside0.mk ((HS1.out.below (pw_below_drewN (Below.refl _ _) 1)).below hB2)
      clear hB2
      refine hK.out _ _ (HKEEP.out _ _ HS2.out) (fun hHeld => ?_)
      clear hK K
      refine pure_ (i := 5) (N := some 22) (v := ?_) (a' := ?_) #[true, true, true, true, true, true, false, false, false, false, false, false, false, false, false, false, false, false, false, false, false, false, false, false] rfl rfl (by kernel_rfl) (fun _ _ _ h => h) (Or.inl ⟨by rfl, ?_⟩) ?_ ?_
      rotate_left
      · intro w'
        go_simp
        with_reducible rfl
      rotate_left
      · simp only [Act.put, List.setIfInBounds_toArray, List.set_cons_zero, List.set_cons_succ, i64_w, i32_w]
        rfl
      refine take_ (i := 6) (N := some 23) (v := ?_) (a' := ?_) #[true, true, true, true, true, true, true, false, false, false, false, false, false, false, false, false, false, false, false, false, false, false, false, false] rfl rfl (by kernel_rfl) (fun _ _ _ h => h) (Or.inl ⟨by rfl, ?_⟩) hHeld ?_ ?_
      rotate_left
      · rintro w' ⟨s0, s1, s2, s3, s4⟩
        go_simp
        with_reducible rfl
      rotate_left
      · simp only [Act.put, List.setIfInBounds_toArray, List.set_cons_zero, List.set_cons_succ, i64_w, i32_w]
        rfl
      refine take_ (i := 7) (N := some 24) (v := ?_) (a' := ?_) #[true, true, true, true, true, true, true, true, false, false, false, false, false, false, false, false, false, false, false, false, false, false, false, false] rfl rfl (by kernel_rfl) (fun _ _ _ h => h) (Or.inl ⟨by rfl, ?_⟩) hHeld ?_ ?_
      rotate_left
      · rintro w' ⟨s0, s1, s2, s3, s4⟩
        go_simp
        with_reducible rfl
      rotate_left
      · simp only [Act.put, List.setIfInBounds_toArray, List.set_cons_zero, List.set_cons_succ, i64_w, i32_w]
        rfl
      refine pure_ (i := 8) (N := some 25) (v := ?_) (a' := ?_) #[true, true, true, true, true, true, true, true, true, false, false, false, false, false, false, false, false, false, false, false, false, false, false, false] rfl rfl (by kernel_rfl) (fun _ _ _ h => h) (Or.inl ⟨by rfl, ?_⟩) ?_ ?_
      rotate_left
      · intro w'
        go_simp
        with_reducible rfl
      rotate_left
      · simp only [Act.put, List.setIfInBounds_toArray, List.set_cons_zero, List.set_cons_succ, i64_w, i32_w]
        rfl
      refine pure_ (i := 9) (N := some 26) (v := ?_) (a' := ?_) #[true, true, true, true, true, true, true, true, true, true, false, false, false, false, false, false, false, false, false, false, false, false, false, false] rfl rfl (by kernel_rfl) (fun _ _ _ h => h) (Or.inl ⟨by rfl, ?_⟩) ?_ ?_
      rotate_left
      · intro w'
        go_simp
        with_reducible rfl
      rotate_left
      · simp only [Act.put, List.setIfInBounds_toArray, List.set_cons_zero, List.set_cons_succ, i64_w, i32_w]
        rfl
      refine pure_ (i := 10) (N := some 27) (v := ?_) (a' := ?_) #[true, true, true, true, true, true, true, true, true, true, true, false, false, false, false, false, false, false, false, false, false, false, false, false] rfl rfl (by kernel_rfl) (fun _ _ _ h => h) (Or.inl ⟨by rfl, ?_⟩) ?_ ?_
      rotate_left
      · intro w'
        go_simp
        with_reducible rfl
      rotate_left
      · simp only [Act.put, List.setIfInBounds_toArray, List.set_cons_zero, List.set_cons_succ, i64_w, i32_w]
        rfl
      refine take_ (i := 11) (N := some 28) (v := ?_) (a' := ?_) #[true, true, true, true, true, true, true, true, true, true, true, true, false, false, false, false, false, false, false, false, false, false, false, false] rfl rfl (by kernel_rfl) (fun _ _ _ h => h) (Or.inl ⟨by rfl, ?_⟩) hHeld ?_ ?_
      rotate_left
      · rintro w' ⟨s0, s1, s2, s3, s4⟩
        go_simp
        with_reducible rfl
      rotate_left
      · simp only [Act.put, List.setIfInBounds_toArray, List.set_cons_zero, List.set_cons_succ, i64_w, i32_w]
        rfl
      refine one_ (i := 12) (N := some 29) #[true, true, true, true, true, true, true, true, true, true, true, true, true, false, false, false, false, false, false, false, false, false, false, false] rfl rfl (by kernel_rfl) (by decide) (fun K hK => ?_)
      go_simp
      go_at_call 65
      (with_reducible refine (HV1.out _ HS2.out).mono ?_)
      rintro e w3 ⟨rfl, hS3⟩
      have HS3 := Aside0.mk hS3
      clear hS3
      refine hK.out _ _ (HKEEP.out _ _ HS3.out) (fun hHeld => ?_)
      clear hK K
      refine pure_ (i := 13) (N := some 30) (v := ?_) (a' := ?_) #[true, true, true, true, true, true, true, true, true, true, true, true, true, true, false, false, false, false, false, false, false, false, false, false] rfl rfl (by kernel_rfl) (fun _ _ _ h => h) (Or.inl ⟨by rfl, ?_⟩) ?_ ?_
      rotate_left
      · intro w'
        go_simp
        with_reducible rfl
      rotate_left
      · simp only [Act.put, List.setIfInBounds_toArray, List.set_cons_zero, List.set_cons_succ, i64_w, i32_w]
        rfl
      refine take_ (i := 14) (N := some 31) (v := ?_) (a' := ?_) #[true, true, true, true, true, true, true, true, true, true, true, true, true, true, true, false, false, false, false, false, false, false, false, false] rfl rfl (by kernel_rfl) (fun _ _ _ h => h) (Or.inl ⟨by rfl, ?_⟩) hHeld ?_ ?_
      rotate_left
      · rintro w' ⟨s0, s1, s2, s3, s4⟩
        go_simp
        with_reducible rfl
      rotate_left
      · simp only [Act.put, List.setIfInBounds_toArray, List.set_cons_zero, List.set_cons_succ, i64_w, i32_w]
        rfl
      refine take_ (i := 15) (N := some 32) (v := ?_) (a' := ?_) #[true, true, true, true, true, true, true, true, true, true, true, true, true, true, true, true, false, false, false, false, false, false, false, false] rfl rfl (by kernel_rfl) (fun _ _ _ h => h) (Or.inl ⟨by rfl, ?_⟩) hHeld ?_ ?_
      rotate_left
      · rintro w' ⟨s0, s1, s2, s3, s4⟩
        go_simp
        with_reducible rfl
      rotate_left
      · simp only [Act.put, List.setIfInBounds_toArray, List.set_cons_zero, List.set_cons_succ, i64_w, i32_w]
        rfl
      refine pure_ (i := 16) (N := some 33) (v := ?_) (a' := ?_) #[true, true, true, true, true, true, true, true, true, true, true, true, true, true, true, true, true, false, false, false, false, false, false, false] rfl rfl (by kernel_rfl) (fun _ _ _ h => h) (Or.inl ⟨by rfl, ?_⟩) ?_ ?_
      rotate_left
      · intro w'
        go_simp
        with_reducible rfl
      rotate_left
      · simp only [Act.put, List.setIfInBounds_toArray, List.set_cons_zero, List.set_cons_succ, i64_w, i32_w]
        rfl
      refine pure_ (i := 17) (N := some 34) (v := ?_) (a' := ?_) #[true, true, true, true, true, true, true, true, true, true, true, true, true, true, true, true, true, true, false, false, false, false, false, false] rfl rfl (by kernel_rfl) (fun _ _ _ h => h) (Or.inl ⟨by rfl, ?_⟩) ?_ ?_
      rotate_left
      · intro w'
        go_simp
        with_reducible rfl
      rotate_left
      · simp only [Act.put, List.setIfInBounds_toArray, List.set_cons_zero, List.set_cons_succ, i64_w, i32_w]
        rfl
      refine pure_ (i := 18) (N := some 35) (v := ?_) (a' := ?_) #[true, true, true, true, true, true, true, true, true, true, true, true, true, true, true, true, true, true, true, false, false, false, false, false] rfl rfl (by kernel_rfl) (fun _ _ _ h => h) (Or.inl ⟨by rfl, ?_⟩) ?_ ?_
      rotate_left
      · intro w'
        go_simp
        with_reducible rfl
      rotate_left
      · simp only [Act.put, List.setIfInBounds_toArray, List.set_cons_zero, List.set_cons_succ, i64_w, i32_w]
        rfl
      refine take_ (i := 19) (N := some 36) (v := ?_) (a' := ?_) #[true, true, true, true, true, true, true, true, true, true, true, true, true, true, true, true, true, true, true, true, false, false, false, false] rfl rfl (by kernel_rfl) (fun _ _ _ h => h) (Or.inl ⟨by rfl, ?_⟩) hHeld ?_ ?_
      rotate_left
      · rintro w' ⟨s0, s1, s2, s3, s4⟩
        go_simp
        with_reducible rfl
      rotate_left
      · simp only [Act.put, List.setIfInBounds_toArray, List.set_cons_zero, List.set_cons_succ, i64_w, i32_w]
        rfl
      refine one_ (i := 20) (N := some 37) #[true, true, true, true, true, true, true, true, true, true, true, true, true, true, true, true, true, true, true, true, true, false, false, false] rfl rfl (by kernel_rfl) (by decide) (fun K hK => ?_)
      go_simp
      go_at_call 65
      (with_reducible refine (HV2.out _ HS3.out).mono ?_)
      rintro e w4 ⟨rfl, hS3⟩
      have HS4 := Aside0.mk hS3
      clear hS3
      refine hK.out _ _ (HKEEP.out _ _ HS4.out) (fun hHeld => ?_)
      clear hK K
      refine pure_ (i := 21) (N := some 38) (v := ?_) (a' := ?_) #[true, true, true, true, true, true, true, true, true, true, true, true, true, true, true, true, true, true, true, true, true, true, false, false] rfl rfl (by kernel_rfl) (fun _ _ _ h => h) (Or.inl ⟨by rfl, ?_⟩) ?_ ?_
      rotate_left
      · intro w'
        go_simp
        with_reducible rfl
      rotate_left
      · simp only [Act.put, List.setIfInBounds_toArray, List.set_cons_zero, List.set_cons_succ, i64_w, i32_w]
        rfl
      refine pure_ (i := 22) (N := some 39) (v := ?_) (a' := ?_) #[true, true, true, true, true, true, true, true, true, true, true, true, true, true, true, true, true, true, true, true, true, true, true, false] rfl rfl (by kernel_rfl) (fun _ _ _ h => h) (Or.inl ⟨by rfl, ?_⟩) ?_ ?_
      rotate_left
      · intro w'
        go_simp
        with_reducible rfl
      rotate_left
      · simp only [Act.put, List.setIfInBounds_toArray, List.set_cons_zero, List.set_cons_succ, i64_w, i32_w]
        rfl
      refine pure_ (i := 23) (N := some 6) (v := ?_) (a' := ?_) #[true, true, true, true, true, true, true, true, true, true, true, true, true, true, true, true, true, true, true, true, true, true, true, true] rfl rfl (by kernel_rfl) (fun _ _ _ h => h) (Or.inl ⟨by rfl, ?_⟩) ?_ ?_
      rotate_left
      · intro w'
        go_simp
        with_reducible rfl
      rotate_left
      · simp only [Act.put, List.setIfInBounds_toArray, List.set_cons_zero, List.set_cons_succ, i64_w, i32_w]
        rfl
      refine done_ (by kernel_rfl) ?_
      obtain ⟨w9, hst9, hS9⟩ := HS4.out.store 2 HI.out HC6.out
      have cs9 := (blk_cell HS4.out.2.2.1 0).trans rfl
      have HS9 := Aside0.mk hS9
      clear hS9 hHeld
      go_wp2
      go_ret
      exact ⟨rfl, HS9.out⟩
set_option maxHeartbeats 2000000 in
set_option maxRecDepth 100000 in
theorem loops_onCycle.calls (A0 : Option Addr) (c0 : Nat) (l0 : List S39) (a1 : Int) (r : Bool) (w : World) (hr0 : Kd.C k39 w A0 l0.length l0) (hc0 : l0.length ≤ c0) (h : loops_onCycle.f l0 a1 = some r) :
    Calls Try.prog 46 #[.slice A0 l0.length c0, .int .i64 a1] w fun e w' => e = .returned (.bool r) ∧ Below w.heap.size w w' := by
  unfold loops_onCycle.f at h
  by_cases c1 : l0.length ≤ 1000 ∧ i64B a1 = true ∧ l0.all (fun x => i64B x.f1 && i64B x.f2) = true
  case neg => rw [if_neg c1] at h; cases h
  rw [if_pos c1] at h
  replace h := Option.bind_eq_some_iff.mp h
  obtain ⟨a, ha, h⟩ := h
  obtain rfl := Option.some.inj h
  have hall : ∀ x ∈ l0, I64 x.f1 ∧ I64 x.f2 := fun x hx => by
    have := List.all_eq_true.mp c1.2.2 x hx
    simp only [Bool.and_eq_true] at this
    exact ⟨i64B_I64 this.1, i64B_I64 this.2⟩
  obtain ⟨W, hW⟩ : ∃ W, W = (((w.alloc (.cells #[.slice A0 l0.length c0] 22)).alloc (.map #[] 0)).alloc (.cells #[.map (some (w.heap.size + 1))] 100)).alloc (.cells #[.func (.func 65) #[] #[.pointer (some ⟨w.heap.size + 1 + 1, 0, none⟩), .pointer (some ⟨w.heap.size, 0, none⟩), .pointer (some ⟨w.heap.size + 1 + 1 + 1, 0, none⟩)]] 95) := ⟨_, rfl⟩
  have hS : CycSt A0 c0 l0.length (w.heap.size + 1 + 1) w.heap.size (w.heap.size + 1 + 1 + 1) (w.heap.size + 1) w W [] := by
    rw [hW]
    refine ⟨below_alloc (below_alloc (below_alloc (below_alloc (Below.refl _ _) _) _) _) _, by omega, ?_, ?_, ?_, ?_⟩
    · exact blk_below (by simpa using heap_alloc_new ((w.alloc (.cells #[.slice A0 l0.length c0] 22)).alloc (.map #[] 0)) (.cells #[.map (some (w.heap.size + 1))] 100)) (below_alloc (Below.refl _ _) _)
    · exact blk_below (blk_below (blk_below (heap_alloc_new w _) (below_alloc (Below.refl _ _) _)) (below_alloc (Below.refl _ _) _)) (below_alloc (Below.refl _ _) _)
    · simpa using heap_alloc_new (((w.alloc (.cells #[.slice A0 l0.length c0] 22)).alloc (.map #[] 0)).alloc (.cells #[.map (some (w.heap.size + 1))] 100)) (.cells #[.func (.func 65) #[] #[.pointer (some ⟨w.heap.size + 1 + 1, 0, none⟩), .pointer (some ⟨w.heap.size, 0, none⟩), .pointer (some ⟨w.heap.size + 1 + 1 + 1, 0, none⟩)]] 95)
    · have := MapAt.made (w.alloc (.cells #[.slice A0 l0.length c0] 22)) Try.prog 3
      simp only [World.size_alloc] at this
      exact ⟨0, by simp, (((this.congr (fun kv kl _ => by unfold encI stM; split <;> rfl : ∀ kv kl, keyOf Try.prog 3 kv = some kl → (fun _ => none) kv = encI (stM []) kv)).alloc _).alloc _)⟩
  have HV := Aside0.mk (visit_fn.calls l0 A0 c0 (w.heap.size + 1 + 1) w.heap.size (w.heap.size + 1 + 1 + 1) (w.heap.size + 1) w hr0 hall 100 a1 [] a.1 a.2 W hS (i64B_I64 c1.2.1) ha)
  have hmm := @run_makeMap Try.prog
  have hmf : ∀ (fn : Fn) (first cap : Array Value) (w : World), (Instr.makeFunc fn first cap).run Try.prog w = .ok (.func fn first cap) w := fun _ _ _ _ => rfl
  subst hW
  clear h ha hr0 hc0 hall hS c1
  go_enter Try.func46, Try.ntmps46
  go_wp2_with (go_at_call 65; go_must ((with_reducible refine HV.out.mono ?_); rintro e w9 ⟨rfl, hS9⟩; have HB9 := Aside0.mk hS9.1; clear hS9))
  go_ret
  exact ⟨rfl, HB9.out⟩

def depF (t : List S39) : Nat → Int → Int → Option Int
  | 0, _, _ => none
  | f + 1, i, left =>
    if (0 ≤ i ∧ i < t.length) ∧ t.length ≤ 1000 ∧ 0 ≤ left ∧ left ≤ 1000 then
      if (rd_T39 t i).f0 = 4 ∨ (rd_T39 t i).f0 = 5 then
        if left = 0 then some t.length else
        (depF t f (rd_T39 t i).f1 (left - 1)).bind fun a =>
          if 0 ≤ a ∧ a ≤ 1000 then
            (if a < t.length then (depF t f (rd_T39 t i).f2 (left - 1)).bind fun b => if 0 ≤ b ∧ b ≤ 1000 then some (mn t.length (1 + mx a b)) else none
             else some (mn t.length (1 + a)))
          else none
      else some 0
    else none
def loops_Depth.f (k : Nat) (l0 : List S39) (a1 : Int) : Option (Int × Int) :=
  (loops_areNodes.f k l0 [a1]).bind fun ok =>
    if ok = true then
      (loops_onCycle.f l0 a1).bind fun cy => if cy = true then some (0, 6) else (depF l0 100 a1 l0.length).bind fun d => some (d, 0)
    else some (0, 2)
theorem loops_Depth.mono : ∀ a0 a1 k, LeO (loops_Depth.f k a0 a1) (loops_Depth.f (k + 1) a0 a1) := by
  intro a0 a1 k
  unfold loops_Depth.f
  exact LeO.bind (loops_areNodes.mono _ _ _) (fun _ => LeO.refl _)
theorem ret_i64 {a b : Int} (h : a = b) : Ending.returned (.int .i64 a) = Ending.returned (.int .i64 b) := by rw [h]
def DepSt (A0 : Option Addr) (c0 n : Nat) (gt gv : Nat) (wc W : World) : Prop :=
  Below wc.heap.size wc W ∧ W.heap[gt]? = some (.cells #[.slice A0 n c0] 22 (0, 0)) ∧ W.heap[gv]? = some (.cells #[.func (.func 44) #[] #[.pointer (some ⟨gt, 0, none⟩), .pointer (some ⟨gv, 0, none⟩)]] 40 (0, 0))
theorem DepSt.below {A0 : Option Addr} {c0 n gt gv : Nat} {wc W W' : World} (h : DepSt A0 c0 n gt gv wc W) (hB : Below W.heap.size W W') : DepSt A0 c0 n gt gv wc W' :=
  ⟨below_then h.1 h.1.size hB, blk_below h.2.1 hB, blk_below h.2.2 hB⟩
set_option maxHeartbeats 4000000 in
set_option maxRecDepth 100000 in
theorem depth_fn.calls (l0 : List S39) (A0 : Option Addr) (c0 gt gv : Nat) (wc : World) (hr0 : Kd.C k39 wc A0 l0.length l0) (f : Nat) : ∀ (i left r : Int) (W : World)
    (hS : DepSt A0 c0 l0.length gt gv wc W) (h : depF l0 f i left = some r),
    Calls Try.prog 44 #[.int .i64 i, .int .i64 left, .pointer (some ⟨gt, 0, none⟩), .pointer (some ⟨gv, 0, none⟩)] W fun e w' => e = .returned (.int .i64 r) ∧ Below W.heap.size W w' := by
  induction f with
  | zero => intro i left r W hS h; cases h
  | succ f ih =>
    intro i left r W hS h
    unfold depF at h
    by_cases c2 : (0 ≤ i ∧ i < l0.length) ∧ l0.length ≤ 1000 ∧ 0 ≤ left ∧ left ≤ 1000
    case neg => rw [if_neg c2] at h; cases h
    rw [if_pos c2] at h
    obtain ⟨⟨d0, d1⟩, d2, d3, d4⟩ := c2
    have HS := Aside0.mk hS
    have ct : W.cell? ⟨gt, 0, none⟩ = some (.slice A0 l0.length c0) := (blk_cell hS.2.1 0).trans rfl
    obtain ⟨adt, eat, hx0, hx1, hx2⟩ := at_T39 (Kd.C_below hr0 hS.1) i d0 d1
    subst eat
    obtain ⟨X, hX⟩ : ∃ X, X = rd_T39 l0 i := ⟨_, rfl⟩
    rw [← hX] at h hx0 hx1 hx2
    have r0 := eq_true d0
    have r1 := eq_true d1
    have HP := Aside0.mk (fun W => loops_hasParts.calls X.f0 X.f1 X.f2 _ W (hasParts_b X))
    have HB0 := Aside0.mk (Below.refl W.heap.size W)
    by_cases c4 : X.f0 = 4 ∨ X.f0 = 5
    case neg =>
      rw [if_neg c4] at h
      rw [decide_eq_false c4] at HP
      obtain rfl := Option.some.inj h
      clear ih hS hX d0 d1 d2 d3 d4 c4
      go_enter Try.func44, Try.ntmps44
      go_wp2_with (go_at_call 45; go_must ((with_reducible refine (HP.out _).mono ?_); rintro e w2 ⟨rfl, hB2⟩; have HB2 := Aside0.mk hB2; clear hB2))
      go_ret
      exact ⟨rfl, HB2.out⟩
    rw [if_pos c4] at h
    rw [decide_eq_true c4] at HP
    have HKEEP := Aside0.mk (fun (W' : World) (hB : Below W.heap.size W W') => (show DepSt (some adt) c0 l0.length gt gv wc W' ∧ W'.cell? ⟨gt, 0, none⟩ = some (.slice (some adt) l0.length c0) ∧ W'.cell? ⟨gv, 0, none⟩ = some (.func (.func 44) #[] #[.pointer (some ⟨gt, 0, none⟩), .pointer (some ⟨gv, 0, none⟩)]) ∧ W'.cell? ⟨(adt.add (i.toNat * 3)).block, (adt.add (i.toNat * 3)).off + 1, none⟩ = some (.int .i64 X.f1) ∧ W'.cell? ⟨(adt.add (i.toNat * 3)).block, (adt.add (i.toNat * 3)).off + 2, none⟩ = some (.int .i64 X.f2) from
      ⟨hS.below hB, (blk_cell (hS.below hB).2.1 0).trans rfl, (blk_cell (hS.below hB).2.2 0).trans rfl, (hB.cell (World.block_lt_of_cell? W _ hx1)).trans hx1, (hB.cell (World.block_lt_of_cell? W _ hx2)).trans hx2⟩))
    by_cases c5 : left = 0
    · rw [if_pos c5] at h
      obtain rfl := Option.some.inj h
      have c5b : (left == 0) = true := beq_iff_eq.mpr c5
      clear ih hS hX d0 d1 d2 d3 d4 c4 c5
      go_enter Try.func44, Try.ntmps44
      go_wp2_with (go_at_call 45; go_must ((with_reducible refine (HP.out _).mono ?_); rintro e w2 ⟨rfl, hB2⟩; have HB2 := Aside0.mk hB2; have hk := (HKEEP.out w2 hB2).2.1; clear hB2))
      go_ret
      exact ⟨rfl, HB2.out⟩
    rw [if_neg c5] at h
    have c5b : (left == 0) = false := beq_eq_false_iff_ne.mpr c5
    obtain ⟨l1, hl1⟩ : ∃ l1, l1 = left - 1 := ⟨_, rfl⟩
    have hwl : IntKind.i64.wrap (left - 1) = l1 := by rw [hl1]; exact IntWalk.i64_in _ (by omega)
    have hwl2 : wrap64 (left - 1) = l1 := by rw [hl1]; unfold wrap64; omega
    rw [← hl1] at h
    replace h := Option.bind_eq_some_iff.mp h
    obtain ⟨a, ha, h⟩ := h
    by_cases c6 : 0 ≤ a ∧ a ≤ 1000
    case neg => rw [if_neg c6] at h; cases h
    rw [if_pos c6] at h
    have HV1 := Aside0.mk (fun (W : World) (hW : DepSt (some adt) c0 l0.length gt gv wc W) => ih X.f1 l1 a W hW ha)
    by_cases c7 : a < l0.length
    case neg =>
      rw [if_neg c7] at h
      obtain rfl := Option.some.inj h
      have c7b : decide (a < (l0.length : Int)) = false := decide_eq_false c7
      have hwa : IntKind.i64.wrap (1 + a) = 1 + a := IntWalk.i64_in _ (by omega)
      have hwa2 : wrap64 (1 + a) = 1 + a := by unfold wrap64; omega
      have a0 := c6.1
      have a1 := c6.2
      clear ih hS hX d0 d1 d3 d4 c4 c5 ha c7 hl1 c6
      go_enter Try.func44, Try.ntmps44
      go_wp2_with (go_at_call 45; go_must ((with_reducible refine (HP.out _).mono ?_); rintro e w2 ⟨rfl, hB2⟩; have HB2 := Aside0.mk hB2; have hk2 := (HKEEP.out w2 hB2).2; clear hB2))
      obtain ⟨k1, k2, k3, k4⟩ := hk2
      refine wp_region_still_tail 8 (by kernel_rfl) (by kernel_rfl) ?_
      simp only [List.take_succ_cons, List.take_zero, List.drop_succ_cons, List.drop_zero]
      change wpStill _ _ (w2.drewN 1) _ _ _
      repeat still_step
      refine wpStill_nil ?_
      change wpList _ _ _ _ _ (w2.drewN 1)
      have HB3 := Aside0.mk (pw_below_drewN HB2.out 1)
      go_wp2_with (go_at_call 44; go_must ((with_reducible refine (HV1.out _ (HKEEP.out _ HB3.out).1).mono ?_); rintro e w4 ⟨rfl, hB4⟩; have HB4 := Aside0.mk (below_then HB3.out HB3.out.size hB4); have hk4 := (HKEEP.out w4 HB4.out).2.1; clear hB4))
      all_goals (
        go_ret
        exact ⟨ret_i64 (by first | rfl | (unfold mn; split <;> omega)), HB4.out⟩)
    rw [if_pos c7] at h
    replace h := Option.bind_eq_some_iff.mp h
    obtain ⟨b, hb, h⟩ := h
    by_cases c8 : 0 ≤ b ∧ b ≤ 1000
    case neg => rw [if_neg c8] at h; cases h
    rw [if_pos c8] at h
    obtain rfl := Option.some.inj h
    have HV2 := Aside0.mk (fun (W : World) (hW : DepSt (some adt) c0 l0.length gt gv wc W) => ih X.f2 l1 b W hW hb)
    have c7b : decide (a < (l0.length : Int)) = true := decide_eq_true c7
    obtain ⟨mm, hmm⟩ : ∃ mm, mm = mx a b := ⟨_, rfl⟩
    have hm0 : 0 ≤ mm ∧ mm ≤ 1000 := by rw [hmm]; unfold mx; split <;> omega
    have hif : (if a < b then b else a) = mm := by rw [hmm]; unfold mx; repeat' split <;> omega
    rw [← hmm]
    have hwa : IntKind.i64.wrap (1 + mm) = 1 + mm := IntWalk.i64_in _ (by omega)
    have hwa2 : wrap64 (1 + mm) = 1 + mm := by unfold wrap64; omega
    have a0 := hm0.1
    have a1 := hm0.2
    clear ih hS hX d0 d1 d3 d4 c4 c5 ha c7 hl1 c6 hb c8 hmm hm0
    go_enter Try.func44, Try.ntmps44
    go_wp2_with (go_at_call 45; go_must ((with_reducible refine (HP.out _).mono ?_); rintro e w2 ⟨rfl, hB2⟩; have HB2 := Aside0.mk hB2; have hk2 := (HKEEP.out w2 hB2).2; clear hB2))
    obtain ⟨k1, k2, k3, k4⟩ := hk2
    refine wp_region_still_tail 8 (by kernel_rfl) (by kernel_rfl) ?_
    simp only [List.take_succ_cons, List.take_zero, List.drop_succ_cons, List.drop_zero]
    change wpStill _ _ (w2.drewN 1) _ _ _
    repeat still_step
    refine wpStill_nil ?_
    change wpList _ _ _ _ _ (w2.drewN 1)
    have HB3 := Aside0.mk (pw_below_drewN HB2.out 1)
    go_wp2_with (go_at_call 44; go_must ((with_reducible refine (HV1.out _ (HKEEP.out _ HB3.out).1).mono ?_); rintro e w4 ⟨rfl, hB4⟩; have HB4 := Aside0.mk (below_then HB3.out HB3.out.size hB4); have hk4 := (HKEEP.out w4 HB4.out).2; clear hB4))
    obtain ⟨m1, m2, m3, m4⟩ := hk4
    have HB5 := Aside0.mk (show Below W.heap.size W w4.drew from pw_below_drewN HB4.out 1)
    refine start_ (n := 12) (S := fun w' => w'.cell? ⟨gt, 0, none⟩ = some (.slice (some adt) l0.length c0) ∧ w'.cell? ⟨gv, 0, none⟩ = some (.func (.func 44) #[] #[.pointer (some ⟨gt, 0, none⟩), .pointer (some ⟨gv, 0, none⟩)]) ∧ w'.cell? ⟨(adt.add (i.toNat * 3)).block, (adt.add (i.toNat * 3)).off + 1, none⟩ = some (.int .i64 X.f1) ∧ w'.cell? ⟨(adt.add (i.toNat * 3)).block, (adt.add (i.toNat * 3)).off + 2, none⟩ = some (.int .i64 X.f2)) (ds := []) #[false, false, false, false, false, false, false, false, false, false, false, false] (by kernel_rfl) rfl rfl (HKEEP.out _ HB5.out).2 (fun hHeld => ?_)
    refine pure_ (i := 0) (N := some 31) (v := ?_) (a' := ?_) #[true, false, false, false, false, false, false, false, false, false, false, false] rfl rfl (by kernel_rfl) (fun _ _ _ h => h) (Or.inl ⟨by rfl, ?_⟩) ?_ ?_
    rotate_left
    · intro w'
      go_simp
      with_reducible rfl
    rotate_left
    · simp only [Act.put, List.setIfInBounds_toArray, List.set_cons_zero, List.set_cons_succ, i64_w, i32_w]
      rfl
    refine take_ (i := 1) (N := some 32) (v := ?_) (a' := ?_) #[true, true, false, false, false, false, false, false, false, false, false, false] rfl rfl (by kernel_rfl) (fun _ _ _ h => h) (Or.inl ⟨by rfl, ?_⟩) hHeld ?_ ?_
    rotate_left
    · rintro w' ⟨s0, s1, s2, s3⟩
      go_simp
      with_reducible rfl
    rotate_left
    · simp only [Act.put, List.setIfInBounds_toArray, List.set_cons_zero, List.set_cons_succ, i64_w, i32_w]
      rfl
    refine take_ (i := 2) (N := some 33) (v := ?_) (a' := ?_) #[true, true, true, false, false, false, false, false, false, false, false, false] rfl rfl (by kernel_rfl) (fun _ _ _ h => h) (Or.inl ⟨by rfl, ?_⟩) hHeld ?_ ?_
    rotate_left
    · rintro w' ⟨s0, s1, s2, s3⟩
      go_simp
      with_reducible rfl
    rotate_left
    · simp only [Act.put, List.setIfInBounds_toArray, List.set_cons_zero, List.set_cons_succ, i64_w, i32_w]
      rfl
    refine pure_ (i := 3) (N := some 34) (v := ?_) (a' := ?_) #[true, true, true, true, false, false, false, false, false, false, false, false] rfl rfl (by kernel_rfl) (fun _ _ _ h => h) (Or.inl ⟨by rfl, ?_⟩) ?_ ?_
    rotate_left
    · intro w'
      go_simp
      with_reducible rfl
    rotate_left
    · simp only [Act.put, List.setIfInBounds_toArray, List.set_cons_zero, List.set_cons_succ, i64_w, i32_w]
      rfl
    refine pure_ (i := 4) (N := some 35) (v := ?_) (a' := ?_) #[true, true, true, true, true, false, false, false, false, false, false, false] rfl rfl (by kernel_rfl) (fun _ _ _ h => h) (Or.inl ⟨by rfl, ?_⟩) ?_ ?_
    rotate_left
    · intro w'
      go_simp
      with_reducible rfl
    rotate_left
    · simp only [Act.put, List.setIfInBounds_toArray, List.set_cons_zero, List.set_cons_succ, i64_w, i32_w]
      rfl
    refine pure_ (i := 5) (N := some 36) (v := ?_) (a' := ?_) #[true, true, true, true, true, true, false, false, false, false, false, false] rfl rfl (by kernel_rfl) (fun _ _ _ h => h) (Or.inl ⟨by rfl, ?_⟩) ?_ ?_
    rotate_left
    · intro w'
      go_simp
      with_reducible rfl
    rotate_left
    · simp only [Act.put, List.setIfInBounds_toArray, List.set_cons_zero, List.set_cons_succ, i64_w, i32_w]
      rfl
    refine take_ (i := 6) (N := some 37) (v := ?_) (a' := ?_) #[true, true, true, true, true, true, true, false, false, false, false, false] rfl rfl (by kernel_rfl) (fun _ _ _ h => h) (Or.inl ⟨by rfl, ?_⟩) hHeld ?_ ?_
    rotate_left
    · rintro w' ⟨s0, s1, s2, s3⟩
      go_simp
      with_reducible rfl
    rotate_left
    · simp only [Act.put, List.setIfInBounds_toArray, List.set_cons_zero, List.set_cons_succ, i64_w, i32_w]
      rfl
    refine pure_ (i := 7) (N := some 38) (v := ?_) (a' := ?_) #[true, true, true, true, true, true, true, true, false, false, false, false] rfl rfl (by kernel_rfl) (fun _ _ _ h => h) (Or.inl ⟨by rfl, ?_⟩) ?_ ?_
    rotate_left
    · intro w'
      go_simp
      with_reducible rfl
    rotate_left
    · simp only [Act.put, List.setIfInBounds_toArray, List.set_cons_zero, List.set_cons_succ, i64_w, i32_w]
      rfl
    refine pure_ (i := 8) (N := some 39) (v := ?_) (a' := ?_) #[true, true, true, true, true, true, true, true, true, false, false, false] rfl rfl (by kernel_rfl) (fun _ _ _ h => h) (Or.inl ⟨by rfl, ?_⟩) ?_ ?_
    rotate_left
    · intro w'
      go_simp
      with_reducible rfl
    rotate_left
    · simp only [Act.put, List.setIfInBounds_toArray, List.set_cons_zero, List.set_cons_succ, i64_w, i32_w]
      rfl
    refine one_ (i := 9) (N := some 40) #[true, true, true, true, true, true, true, true, true, true, false, false] rfl rfl (by kernel_rfl) (by decide) (fun K hK => ?_)
    go_simp
    go_at_call 44
    (with_reducible refine (HV2.out _ (HKEEP.out _ HB5.out).1).mono ?_)
    rintro e w6 ⟨rfl, hB6⟩
    have HB6 := Aside0.mk (below_then HB5.out HB5.out.size hB6)
    clear hB6
    refine hK.out _ _ (HKEEP.out w6 HB6.out).2 (fun hHeld => ?_)
    clear hK K
    refine pure_ (i := 10) (N := some 41) (v := ?_) (a' := ?_) #[true, true, true, true, true, true, true, true, true, true, true, false] rfl rfl (by kernel_rfl) (fun _ _ _ h => h) (Or.inl ⟨by rfl, ?_⟩) ?_ ?_
    rotate_left
    · intro w'
      go_simp
      with_reducible rfl
    rotate_left
    · simp only [Act.put, List.setIfInBounds_toArray, List.set_cons_zero, List.set_cons_succ, i64_w, i32_w]
      rfl
    refine pure_ (i := 11) (N := some 7) (v := ?_) (a' := ?_) #[true, true, true, true, true, true, true, true, true, true, true, true] rfl rfl (by kernel_rfl) (fun _ _ _ h => h) (Or.inl ⟨by rfl, ?_⟩) ?_ ?_
    rotate_left
    · intro w'
      go_simp
      with_reducible rfl
    rotate_left
    · simp only [Act.put, List.setIfInBounds_toArray, List.set_cons_zero, List.set_cons_succ, i64_w, i32_w]
      rfl
    refine done_ (by kernel_rfl) ?_
    have hk6 := (HKEEP.out w6 HB6.out).2.1
    clear hHeld
    go_wp2
    all_goals (
      go_ret
      exact ⟨ret_i64 (by first | rfl | (unfold mn; split <;> omega)), HB6.out⟩)
set_option maxHeartbeats 2000000 in
set_option maxRecDepth 100000 in
theorem loops_Depth.calls (k : Nat) (A0 : Option Addr) (c0 : Nat) (l0 : List S39) (a1 : Int) (r1 r2 : Int) (w : World) (hr0 : Kd.C k39 w A0 l0.length l0) (hc0 : l0.length ≤ c0) (h : loops_Depth.f k l0 a1 = some (r1, r2)) :
    Calls Try.prog 28 #[.slice A0 l0.length c0, .int .i64 a1] w fun e w' => e = .returned (.tuple #[.int .i64 r1, .int .i64 r2]) ∧ Below w.heap.size w w' := by
  unfold loops_Depth.f at h
  replace h := Option.bind_eq_some_iff.mp h
  obtain ⟨ok, hok, h⟩ := h
  obtain ⟨W, hW⟩ : ∃ W, W = (w.alloc (.cells #[.slice A0 l0.length c0] 22)).alloc (.cells #[.int .i64 a1] 3) := ⟨_, rfl⟩
  have hBW : Below w.heap.size w W := by rw [hW]; exact below_alloc (below_alloc (Below.refl _ _) _) _
  have hg2 : W.heap[w.heap.size]? = some (.cells #[.slice A0 l0.length c0] 22 (0, 0)) := by rw [hW]; exact blk_below (heap_alloc_new w _) (below_alloc (Below.refl _ _) _)
  have hcl : Kd.C (Kd.int .i64) W (some ⟨w.heap.size + 1, 0, none⟩) [a1].length [a1] := by
    have := (Kd.R_reads' (lit_row (w.alloc (.cells #[.slice A0 l0.length c0] 22)) a1)).2.2
    rw [hW]
    simpa using this
  have HN := Aside0.mk (show Calls Try.prog 40 #[.slice A0 l0.length c0, .slice (some ⟨w.heap.size + 1, 0, none⟩) 1 1] W (fun e w' => e = .returned (.bool ok) ∧ Below W.heap.size W w') from loops_areNodes.calls k A0 c0 l0 (some ⟨w.heap.size + 1, 0, none⟩) 1 [a1] ok W (Kd.C_below hr0 hBW) hc0 hcl (by simp) hok)
  have HBW := Aside0.mk hBW
  have HG2 := Aside0.mk hg2
  have HR0 := Aside0.mk hr0
  have HC0 := Aside0.mk hc0
  have hct : W.cell? ⟨w.heap.size, 0, none⟩ = some (.slice A0 l0.length c0) := (blk_cell hg2 0).trans rfl
  subst hW
  have hmf : ∀ (fn : Fn) (first cap : Array Value) (w : World), (Instr.makeFunc fn first cap).run Try.prog w = .ok (.func fn first cap) w := fun _ _ _ _ => rfl
  clear hBW hg2 hcl hok hr0 hc0
  cases ok with
  | false =>
    rw [if_neg (by decide)] at h
    injection h with h
    injection h with e1 e2
    subst e1; subst e2
    go_enter Try.func28, Try.ntmps28
    go_wp2_with (go_at_call 40; go_must ((with_reducible refine HN.out.mono ?_); rintro e w1 ⟨rfl, hB1⟩; have HB1 := Aside0.mk (below_then HBW.out HBW.out.size hB1); clear hB1))
    go_ret2
    exact ⟨rfl, HB1.out⟩
  | true =>
    rw [if_pos rfl] at h
    replace h := Option.bind_eq_some_iff.mp h
    obtain ⟨cy, hcy, h⟩ := h
    have HCY := Aside0.mk (fun (W : World) (hB : Below w.heap.size w W) => loops_onCycle.calls A0 c0 l0 a1 cy W (Kd.C_below HR0.out hB) HC0.out hcy)
    cases cy with
    | true =>
      rw [if_pos rfl] at h
      injection h with h
      injection h with e1 e2
      subst e1; subst e2
      clear hcy
      go_enter Try.func28, Try.ntmps28
      go_wp2_with (first
        | (go_at_call 40; go_must (
            (with_reducible refine HN.out.mono ?_); rintro e w1 ⟨rfl, hB1⟩;
            have hg1 := blk_below HG2.out hB1;
            have HB1 := Aside0.mk (below_alloc (below_then HBW.out HBW.out.size hB1) (.cells #[.func (.func 44) #[] #[.pointer (some ⟨w.heap.size, 0, none⟩), .pointer (some ⟨w1.heap.size, 0, none⟩)]] 40));
            have hct1 : (w1.alloc (.cells #[.func (.func 44) #[] #[.pointer (some ⟨w.heap.size, 0, none⟩), .pointer (some ⟨w1.heap.size, 0, none⟩)]] 40)).cell? ⟨w.heap.size, 0, none⟩ = some (.slice A0 l0.length c0) := (blk_cell (blk_below hg1 (below_alloc (Below.refl _ _) _)) 0).trans rfl;
            clear hB1 hg1))
        | (go_at_call 46; go_must ((with_reducible refine (HCY.out _ HB1.out).mono ?_); rintro e w3 ⟨rfl, hB3⟩; have HB3 := Aside0.mk (below_then HB1.out HB1.out.size hB3); clear hB3)))
      go_ret2
      exact ⟨rfl, HB3.out⟩
    | false =>
      rw [if_neg (by decide)] at h
      replace h := Option.bind_eq_some_iff.mp h
      obtain ⟨d, hd, h⟩ := h
      injection h with h
      injection h with e1 e2
      subst e1; subst e2
      have HD := Aside0.mk hd
      clear hcy hd
      go_enter Try.func28, Try.ntmps28
      go_wp2_with (first
        | (go_at_call 40; go_must (
            (with_reducible refine HN.out.mono ?_); rintro e w1 ⟨rfl, hB1⟩;
            have hg1 := blk_below HG2.out hB1;
            have HB1 := Aside0.mk (below_alloc (below_then HBW.out HBW.out.size hB1) (.cells #[.func (.func 44) #[] #[.pointer (some ⟨w.heap.size, 0, none⟩), .pointer (some ⟨w1.heap.size, 0, none⟩)]] 40));
            have HG1 := Aside0.mk (blk_below hg1 (below_alloc (Below.refl _ _) (.cells #[.func (.func 44) #[] #[.pointer (some ⟨w.heap.size, 0, none⟩), .pointer (some ⟨w1.heap.size, 0, none⟩)]] 40)));
            have HGV := Aside0.mk (heap_alloc_new w1 (.cells #[.func (.func 44) #[] #[.pointer (some ⟨w.heap.size, 0, none⟩), .pointer (some ⟨w1.heap.size, 0, none⟩)]] 40));
            have hct1 : (w1.alloc (.cells #[.func (.func 44) #[] #[.pointer (some ⟨w.heap.size, 0, none⟩), .pointer (some ⟨w1.heap.size, 0, none⟩)]] 40)).cell? ⟨w.heap.size, 0, none⟩ = some (.slice A0 l0.length c0) := (blk_cell HG1.out 0).trans rfl;
            clear hB1 hg1))
        | (go_at_call 46; go_must (
            (with_reducible refine (HCY.out _ HB1.out).mono ?_); rintro e w3 ⟨rfl, hB3⟩;
            have hg3 := blk_below HG1.out hB3;
            have hv3 := blk_below HGV.out hB3;
            have hct3 : w3.cell? ⟨w.heap.size, 0, none⟩ = some (.slice A0 l0.length c0) := (blk_cell hg3 0).trans rfl;
            have hcv3 := (blk_cell hv3 0).trans rfl;
            have HB3 := Aside0.mk (below_then HB1.out HB1.out.size hB3);
            have HDP := Aside0.mk (depth_fn.calls l0 A0 c0 w.heap.size w1.heap.size w HR0.out 100 a1 (l0.length : Int) d w3 ⟨HB3.out, hg3, hv3⟩ HD.out);
            clear hB3 hg3 hv3))
        | (go_at_call 44; go_must ((with_reducible refine HDP.out.mono ?_); rintro e w5 ⟨rfl, hB5⟩; have HB5 := Aside0.mk (below_then HB3.out HB3.out.size hB5); clear hB5)))
      go_ret2
      exact ⟨rfl, HB5.out⟩
end Go.Proofs.Ytnfmeafiaipplaa.S
